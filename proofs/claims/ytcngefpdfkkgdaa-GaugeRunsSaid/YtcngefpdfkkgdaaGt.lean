/- Gauges by definition, and what of memory is a gauge: for any type of keys. No program's walk in sight. -/
import Derived.Test.YtcngefpdfkkgdaaB1
import Derived.Test.YtcngefpdfkkgdaaMp
namespace Go.Proofs.Ytcngefpdfkkgdaa
open Go.RowKit Go.Maps
open Classical
/-- Which bucket a number is in. -/
def bkt (bs : List Int) (x : Int) : Nat := match bs with | [] => 0 | y :: bs => if y < x then bkt bs x + 1 else 0
theorem bkt_le (x : Int) : ∀ bs, bkt bs x ≤ bs.length
  | [] => by simp [bkt]
  | y :: bs => by
    have := bkt_le x bs
    unfold bkt
    split <;> simp <;> omega
theorem bkt_lo (x : Int) : ∀ (bs : List Int) (i : Nat) (y : Int), i < bkt bs x → bs[i]? = some y → y < x
  | [], i, y, h, _ => by simp [bkt] at h
  | z :: bs, i, y, h, hy => by
    unfold bkt at h
    split at h
    · cases i with
      | zero => simp at hy; omega
      | succ i => exact bkt_lo x bs i y (by omega) (by simpa using hy)
    · omega
/-- Bounds that grow. -/
def Srt (bs : List Int) : Prop := ∀ (i j : Nat) (a b : Int), i < j → bs[i]? = some a → bs[j]? = some b → a < b
theorem Srt.tail {y : Int} {bs : List Int} (h : Srt (y :: bs)) : Srt bs := fun i j a b hij ha hb => h (i + 1) (j + 1) a b (by omega) (by simpa using ha) (by simpa using hb)
theorem bkt_hi (x : Int) : ∀ (bs : List Int), Srt bs → ∀ (i : Nat) (y : Int), bkt bs x ≤ i → bs[i]? = some y → ¬ y < x
  | [], _, i, y, _, hy => by simp at hy
  | z :: bs, hs, i, y, h, hy => by
    unfold bkt at h
    split at h
    · cases i with
      | zero => omega
      | succ i => exact bkt_hi x bs hs.tail i y (by omega) (by simpa using hy)
    · rename_i hz
      cases i with
      | zero => simp at hy; omega
      | succ i =>
        have := hs 0 (i + 1) z y (by omega) rfl hy
        omega
theorem mayF_all : ∀ (bs : List Int) (x : Int), mayF x bs = true → ∀ y ∈ bs, x < y ∧ y ≤ 1099511627776
  | [], _, _, y, hy => by simp at hy
  | z :: bs, x, h, y, hy => by
    rw [mayF_cons] at h
    split at h
    · cases h
    · rename_i hz
      rcases List.mem_cons.1 hy with rfl | hy
      · omega
      · have := mayF_all bs z h y hy
        omega
theorem mayF_srt : ∀ (bs : List Int) (x : Int), mayF x bs = true → Srt bs
  | [], _, _ => fun i j a b _ ha _ => by simp at ha
  | z :: bs, x, h => by
    rw [mayF_cons] at h
    split at h
    · cases h
    · intro i j a b hij ha hb
      cases j with
      | zero => omega
      | succ j =>
        have hb' : bs[j]? = some b := by simpa using hb
        cases i with
        | zero =>
          simp at ha
          have := mayF_all bs z h b (List.mem_of_getElem? hb')
          omega
        | succ i => exact mayF_srt bs z h i j a b (by omega) (by simpa using ha) hb'
/-- How many of a row are in each bucket. -/
def cnt (bs L : List Int) : List Int := (List.range (bs.length + 1)).map fun i => ((L.filter fun x => bkt bs x == i).length : Int)
theorem cnt_len (bs L : List Int) : (cnt bs L).length = bs.length + 1 := by simp [cnt]
theorem cnt_get (bs L : List Int) {i : Nat} (h : i ≤ bs.length) : (cnt bs L)[i]? = some ((L.filter fun x => bkt bs x == i).length : Int) := by
  unfold cnt
  rw [List.getElem?_map, List.getElem?_range (by omega)]
  rfl
theorem cnt_push (bs L : List Int) (x : Int) : cnt bs (L ++ [x]) = (cnt bs L).set (bkt bs x) (((L.filter fun y => bkt bs y == bkt bs x).length : Int) + 1) := by
  apply List.ext_getElem?
  intro i
  by_cases hi : i ≤ bs.length
  · rw [cnt_get _ _ hi]
    by_cases e : bkt bs x = i
    · subst e
      rw [List.getElem?_set_self (by rw [cnt_len]; omega), List.filter_append]
      simp
    · rw [List.getElem?_set_ne e, cnt_get _ _ hi, List.filter_append]
      simp [e]
  · rw [List.getElem?_eq_none (by rw [cnt_len]; omega), List.getElem?_eq_none (by rw [List.length_set, cnt_len]; omega)]
theorem cnt_nil (bs : List Int) : cnt bs [] = List.replicate (bs.length + 1) 0 := by
  unfold cnt
  apply List.ext_getElem?
  intro i
  rw [List.getElem?_replicate]
  by_cases h : i < bs.length + 1
  · simp [h]
  · simp [h]
def mostL (L : List Int) : Int := L.foldl max 0
theorem mostL_push (L : List Int) (x : Int) : mostL (L ++ [x]) = max (mostL L) x := by simp [mostL]
theorem mostL_bd : ∀ (L : List Int) (b : Int), 0 ≤ b → (∀ x ∈ L, x ≤ b) → 0 ≤ mostL L ∧ mostL L ≤ b := by
  intro L
  unfold mostL
  have : ∀ (L : List Int) (a b : Int), 0 ≤ a → a ≤ b → (∀ x ∈ L, x ≤ b) → 0 ≤ L.foldl max a ∧ L.foldl max a ≤ b := by
    intro L
    induction L with
    | nil => intro a b h0 h1 _; exact ⟨h0, h1⟩
    | cons y L ih =>
      intro a b h0 h1 h2
      have := h2 y List.mem_cons_self
      exact ih (max a y) b (by omega) (by omega) (fun x hx => h2 x (List.mem_cons_of_mem _ hx))
  exact fun b h0 h => this L 0 b (Int.le_refl 0) h0 h
theorem sum_bd (b : Int) (hb : 0 ≤ b) : ∀ (L : List Int), (∀ x ∈ L, 0 ≤ x ∧ x ≤ b) → 0 ≤ L.sum ∧ L.sum ≤ L.length * b := by
  intro L
  induction L with
  | nil => intro _; simp
  | cons y L ih =>
    intro h
    have h1 := h y List.mem_cons_self
    have h2 := ih (fun x hx => h x (List.mem_cons_of_mem _ hx))
    rw [List.sum_cons, List.length_cons]
    have : ((L.length + 1 : Nat) : Int) * b = L.length * b + b := by rw [Int.natCast_add, Int.add_mul]; simp
    omega
structure Ga (K : Type) where
  bs : List Int
  ks : List K
  f : K → List Int
section
variable {K : Type}
noncomputable def Ga.push (G : Ga K) (k : K) : Ga K := if k ∈ G.ks then G else { G with ks := G.ks ++ [k] }
noncomputable def Ga.add (G : Ga K) (k : K) (x : Int) : Ga K := { G with f := fun k' => if k' = k then G.f k ++ [x] else G.f k' }
noncomputable def Ga.note (G : Ga K) (k : K) (x : Int) : Ga K := (G.push k).add k x
structure Ga.Ok (G : Ga K) (N : Nat) : Prop where
  may : mayF (-1) G.bs = true
  bl : 1 ≤ G.bs.length ∧ G.bs.length ≤ 64
  nd : G.ks.Nodup
  vals : ∀ k, ∀ x ∈ G.f k, 0 ≤ x ∧ x ≤ 1099511627776
  lens : ∀ k, (G.f k).length ≤ N
  out : ∀ k, k ∉ G.ks → G.f k = []
  kl : G.ks.length ≤ N
theorem Ga.Ok.push {G : Ga K} {N : Nat} (h : G.Ok N) (k : K) : (G.push k).Ok (N + 1) := by
  unfold Ga.push
  split
  · exact ⟨h.may, h.bl, h.nd, h.vals, fun k => Nat.le_succ_of_le (h.lens k), h.out, Nat.le_succ_of_le h.kl⟩
  · rename_i hk
    refine ⟨h.may, h.bl, ?_, h.vals, fun k => Nat.le_succ_of_le (h.lens k), fun k' hk' => h.out k' (fun hm => hk' (List.mem_append_left _ hm)), ?_⟩
    · show (G.ks ++ [k]).Nodup
      rw [List.nodup_append]
      exact ⟨h.nd, by simp, fun a ha b hb => by rintro rfl; simp at hb; subst hb; exact hk ha⟩
    · show (G.ks ++ [k]).length ≤ N + 1
      have := h.kl
      simp
      exact this
theorem Ga.push_mem (G : Ga K) (k : K) : k ∈ (G.push k).ks := by
  unfold Ga.push
  split
  · assumption
  · simp
theorem Ga.push_f (G : Ga K) (k : K) : (G.push k).f = G.f := by unfold Ga.push; split <;> rfl
theorem Ga.push_bs (G : Ga K) (k : K) : (G.push k).bs = G.bs := by unfold Ga.push; split <;> rfl
theorem Ga.Ok.note {G : Ga K} {N : Nat} (h : G.Ok N) (k : K) {x : Int} (hx : 0 ≤ x ∧ x ≤ 1099511627776) : (G.note k x).Ok (N + 1) := by
  have hp := h.push k
  unfold Ga.note Ga.add
  refine ⟨hp.may, hp.bl, hp.nd, fun k' => ?_, fun k' => ?_, fun k' hk' => ?_, hp.kl⟩
  · show ∀ y ∈ (if k' = k then (G.push k).f k ++ [x] else (G.push k).f k'), _
    split
    · intro y hy
      rcases List.mem_append.1 hy with hy | hy
      · exact hp.vals k y hy
      · simp at hy
        subst hy
        exact hx
    · exact hp.vals k'
  · show (if k' = k then (G.push k).f k ++ [x] else (G.push k).f k').length ≤ N + 1
    rw [Ga.push_f]
    split
    · simp
      exact h.lens k
    · exact Nat.le_succ_of_le (h.lens k')
  · show (if k' = k then (G.push k).f k ++ [x] else (G.push k).f k') = []
    have hne : k' ≠ k := by rintro rfl; exact hk' (Ga.push_mem G k')
    rw [if_neg hne]
    exact hp.out k' hk'
end
/-! Memory. -/
def poV : Option Nat → Value
  | none => .pointer none
  | some b => .pointer (some ⟨b, 0, none⟩)
def poD : Option Nat → DataW Unit
  | none => .lit (.int .i64 (-1))
  | some b => .lit (.int .i64 b)
theorem poV_inj : ∀ a b, poV a = poV b → a = b := by
  intro a b h
  cases a <;> cases b
  · rfl
  · injection h with h; cases h
  · injection h with h; cases h
  · injection h with h
    injection h with h
    injection h with h
    rw [h]
theorem poD_inj : ∀ a b, poD a = poD b → a = b := by
  intro a b h
  cases a with
  | none =>
    cases b with
    | none => rfl
    | some b => simp [poD] at h
  | some a =>
    cases b with
    | none => simp [poD] at h
    | some b =>
      simp [poD] at h
      rw [show a = b by omega]
noncomputable abbrev poR := tellR poV poD
theorem poT : Tells poR poV poD := tells poV_inj poD_inj
/-- What is noted of a key. -/
def nC (n : Nat) (L : List Int) (a c : Nat) : Array Value := #[.slice (some ⟨a, 0, none⟩) (n + 1) c, .int .i64 (mostL L), .int .i64 L.sum, .int .i64 L.length]
structure Tys (TB KT : TypeId) : Prop where
  t1 : TB ≠ 82
  t2 : TB ≠ 3
  t3 : TB ≠ KT
  t4 : KT ≠ 82
structure IsGo {K : Type} (TB KT : TypeId) (kv : K → Value) (kl : K → Lit) (base : Nat) (w : World) (g : Nat) (G : Ga K) (mb gb cb : Nat) (Ak : Option Addr) (ck : Nat) (bl gc cc : K → Nat) (φ : Lit → Option (Option Nat)) (u : Nat) : Prop where
  hg : base ≤ g
  hmb : base ≤ mb
  blk : w.heap[g]? = some (.cells #[.slice (some ⟨gb, 0, none⟩) G.bs.length cb, .map (some mb), .slice Ak G.ks.length ck] TB (0, 0))
  mp : IsMp Try.prog KT poR poD w mb u φ
  bo : w.ownsRow base 3 1 (.slice (some ⟨gb, 0, none⟩) G.bs.length cb) G.bs.length (iv G.bs)
  ko : w.ownsRow base KT 1 (.slice Ak G.ks.length ck) G.ks.length (G.ks.map kv)
  hb : ∀ k ∈ G.ks, base ≤ bl k
  nb : ∀ k ∈ G.ks, w.heap[bl k]? = some (.cells (nC G.bs.length (G.f k) (gc k) (cc k)) 82 (0, 0))
  no : ∀ k ∈ G.ks, w.ownsRow base 3 1 (.slice (some ⟨gc k, 0, none⟩) (G.bs.length + 1) (cc k)) (G.bs.length + 1) (iv (cnt G.bs (G.f k)))
  fi : ∀ k, φ (kl k) = if k ∈ G.ks then some (some (bl k)) else none
  d1 : ∀ k ∈ G.ks, ∀ k' ∈ G.ks, k ≠ k' → bl k ≠ bl k' ∧ gc k ≠ gc k'
  d2 : ∀ k ∈ G.ks, gb ≠ gc k
  d3 : ∀ x, (Value.slice Ak G.ks.length ck).ownBlock = some x → x ≠ gb ∧ ∀ k ∈ G.ks, x ≠ gc k
/-- The blocks of a gauge. -/
def Fp {K : Type} (G : Ga K) (g mb gb : Nat) (Ak : Option Addr) (ck : Nat) (bl gc : K → Nat) (x : Nat) : Prop :=
  x = g ∨ x = mb ∨ x = gb ∨ (Value.slice Ak G.ks.length ck).ownBlock = some x ∨ ∃ k ∈ G.ks, x = bl k ∨ x = gc k
/-- Block g is the gauge G, of the call's own (from block 'base' on), behind at most u notes; its blocks are among F. -/
def IsG {K : Type} (TB KT : TypeId) (kv : K → Value) (kl : K → Lit) (base : Nat) (w : World) (g : Nat) (G : Ga K) (u : Nat) (F : Nat → Prop) : Prop :=
  ∃ mb gb cb Ak ck bl gc cc φ, IsGo TB KT kv kl base w g G mb gb cb Ak ck bl gc cc φ u ∧ ∀ x, Fp G g mb gb Ak ck bl gc x → F x
theorem IsMp.obj {α : Type} {P : Program} {k : TypeId} {R : Value → Option (DataW Unit × List MemPlace)} {dat : α → DataW Unit} {w : World} {b n : Nat} {φ : Lit → Option α} (h : IsMp P k R dat w b n φ) : ∃ es c, w.heap[b]? = some (.map es c) := by
  obtain ⟨D, ⟨es, clock, h1, _⟩, _⟩ := h
  exact ⟨es, clock, h1⟩
section
variable {K : Type} {TB KT : TypeId} {kv : K → Value} {kl : K → Lit} {base g mb gb cb ck u : Nat} {w w' : World} {G : Ga K} {Ak : Option Addr} {bl gc cc : K → Nat} {φ : Lit → Option (Option Nat)}
theorem IsGo.kept (h : IsGo TB KT kv kl base w g G mb gb cb Ak ck bl gc cc φ u) {S : Nat → Prop} (hE : Ext S w w') (hS : ∀ x, Fp G g mb gb Ak ck bl gc x → ¬ S x) : IsGo TB KT kv kl base w' g G mb gb cb Ak ck bl gc cc φ u where
  hg := h.hg
  hmb := h.hmb
  blk := hE.blk h.blk (hS _ (.inl rfl))
  mp := h.mp.kept hE (hS _ (.inr (.inl rfl)))
  bo := ownKept h.bo hE (fun x hx => hS _ (.inr (.inr (.inl (own_is hx)))))
  ko := ownKept h.ko hE (fun x hx => hS _ (.inr (.inr (.inr (.inl hx)))))
  hb := h.hb
  nb := fun k hk => hE.blk (h.nb k hk) (hS _ (.inr (.inr (.inr (.inr ⟨k, hk, .inl rfl⟩)))))
  no := fun k hk => ownKept (h.no k hk) hE (fun x hx => hS _ (.inr (.inr (.inr (.inr ⟨k, hk, .inr (own_is hx)⟩)))))
  fi := h.fi
  d1 := h.d1
  d2 := h.d2
  d3 := h.d3
theorem IsGo.kept0 (h : IsGo TB KT kv kl base w g G mb gb cb Ak ck bl gc cc φ u) (hE : Ext N0 w w') : IsGo TB KT kv kl base w' g G mb gb cb Ak ck bl gc cc φ u := h.kept hE (fun _ _ hk => hk.elim)
theorem IsG.kept {F : Nat → Prop} (h : IsG TB KT kv kl base w g G u F) {S : Nat → Prop} (hE : Ext S w w') (hS : ∀ x, F x → ¬ S x) : IsG TB KT kv kl base w' g G u F := by
  obtain ⟨mb, gb, cb, Ak, ck, bl, gc, cc, φ, h1, h2⟩ := h
  exact ⟨mb, gb, cb, Ak, ck, bl, gc, cc, φ, h1.kept hE (fun x hx => hS x (h2 x hx)), h2⟩
theorem IsG.kept0 {F : Nat → Prop} (h : IsG TB KT kv kl base w g G u F) (hE : Ext N0 w w') : IsG TB KT kv kl base w' g G u F := h.kept hE (fun _ _ hk => hk.elim)
theorem blkNe {w : World} {g h : Nat} {cs ds : Array Value} {t u : TypeId} {fr fs : Nat × Nat} (h1 : w.heap[g]? = some (.cells cs t fr)) (h2 : w.heap[h]? = some (.cells ds u fs)) (hn : t ≠ u) : g ≠ h := by
  rintro rfl
  rw [h1] at h2
  injection h2 with h2
  injection h2 with _ ht
  exact hn ht
theorem mapNe {α : Type} {P : Program} {k : TypeId} {R : Value → Option (DataW Unit × List MemPlace)} {dat : α → DataW Unit} {w : World} {b n : Nat} {φ : Lit → Option α} (h : IsMp P k R dat w b n φ) {g : Nat} {cs : Array Value} {t : TypeId} {fr : Nat × Nat} (h1 : w.heap[g]? = some (.cells cs t fr)) : b ≠ g := by
  rintro rfl
  obtain ⟨es, c, he⟩ := h.obj
  rw [h1] at he
  cases he
theorem rowBlk {w : World} {b n s c g : Nat} {e : TypeId} {xs : List Value} (h : w.ownsRow b e s (.slice (some ⟨g, 0, none⟩) n c) n xs) : ∃ cs fr, w.heap[g]? = some (.cells cs e fr) := by
  rcases h.2 with ⟨h1, _⟩ | ⟨g', cap, cur, h1, _, hh, _⟩
  · cases h1
  · injection h1 with h1
    injection h1 with h1
    injection h1 with h1
    subst h1
    exact ⟨_, _, hh⟩
/-- A number more at a key: the four cells. -/
theorem IsGo.bump (T : Tys TB KT) (h : IsGo TB KT kv kl base w g G mb gb cb Ak ck bl gc cc φ u) {k : K} (hk : k ∈ G.ks) (x : Int) :
    IsGo TB KT kv kl base ((((w.setCell ⟨gc k, bkt G.bs x, none⟩ (.int .i64 ((((G.f k).filter fun y => bkt G.bs y == bkt G.bs x).length : Int) + 1))).setCell ⟨bl k, 1, none⟩ (.int .i64 (max (mostL (G.f k)) x))).setCell ⟨bl k, 2, none⟩ (.int .i64 ((G.f k).sum + x))).setCell ⟨bl k, 3, none⟩ (.int .i64 (((G.f k).length : Int) + 1))) g (G.add k x) mb gb cb Ak ck bl gc cc φ u ∧
    Ext (Fp G g mb gb Ak ck bl gc) w ((((w.setCell ⟨gc k, bkt G.bs x, none⟩ (.int .i64 ((((G.f k).filter fun y => bkt G.bs y == bkt G.bs x).length : Int) + 1))).setCell ⟨bl k, 1, none⟩ (.int .i64 (max (mostL (G.f k)) x))).setCell ⟨bl k, 2, none⟩ (.int .i64 ((G.f k).sum + x))).setCell ⟨bl k, 3, none⟩ (.int .i64 (((G.f k).length : Int) + 1))) := by
  obtain ⟨w1, hw1⟩ : ∃ w1, w.setCell ⟨gc k, bkt G.bs x, none⟩ (.int .i64 ((((G.f k).filter fun y => bkt G.bs y == bkt G.bs x).length : Int) + 1)) = w1 := ⟨_, rfl⟩
  have hE1 : Ext (At (gc k)) w w1 := by rw [← hw1]; exact extSet _ _ _ _
  have hr1 : w1.ownsRow base 3 1 (.slice (some ⟨gc k, 0, none⟩) (G.bs.length + 1) (cc k)) (G.bs.length + 1) (iv (cnt G.bs (G.f k ++ [x]))) := by
    rw [cnt_push, ← iv_set, ← hw1]
    exact (World.ownsRow.stored (h.no k hk) _ _).1
  rw [hw1]
  obtain ⟨w4, hw4⟩ : ∃ w4, (((w1.setCell ⟨bl k, 1, none⟩ (.int .i64 (max (mostL (G.f k)) x))).setCell ⟨bl k, 2, none⟩ (.int .i64 ((G.f k).sum + x))).setCell ⟨bl k, 3, none⟩ (.int .i64 (((G.f k).length : Int) + 1))) = w4 := ⟨_, rfl⟩
  have hE4 : Ext (At (bl k)) w1 w4 := by rw [← hw4]; exact ((extSet _ _ _ _).same (extSet _ _ _ _)).same (extSet _ _ _ _)
  obtain ⟨csc, frc, hcb⟩ := rowBlk (h.no k hk)
  have hne : bl k ≠ gc k := blkNe (h.nb k hk) hcb (by decide)
  have hb1 := hE1.blk (h.nb k hk) hne
  have hb4 : w4.heap[bl k]? = some (.cells (nC G.bs.length (G.f k ++ [x]) (gc k) (cc k)) 82 (0, 0)) := by
    have := blkSet (blkSet (blkSet hb1 1 (.int .i64 (max (mostL (G.f k)) x))) 2 (.int .i64 ((G.f k).sum + x))) 3 (.int .i64 (((G.f k).length : Int) + 1))
    rw [hw4] at this
    rw [this, nC, nC, mostL_push, List.sum_append, List.length_append]
    simp
  rw [hw4]
  have hX : Ext (fun y => y = gc k ∨ y = bl k) w w4 := (hE1.mono (fun y _ (hy : y = gc k) => .inl hy)).trans (hE4.mono (fun y _ (hy : y = bl k) => .inr hy)) (fun y hy => .inl hy)
  obtain ⟨csb, frb, hbb⟩ := rowBlk h.bo
  have hfk : (G.add k x).f k = G.f k ++ [x] := if_pos rfl
  have hfo : ∀ k', k' ≠ k → (G.add k x).f k' = G.f k' := fun k' e => if_neg e
  refine ⟨⟨h.hg, h.hmb, hX.blk h.blk ?_, h.mp.kept hX ?_, ownKept h.bo hX ?_, ownKept h.ko hX ?_, h.hb, fun k' hk' => ?_, fun k' hk' => ?_, h.fi, h.d1, h.d2, h.d3⟩, hX.mono ?_⟩
  · rintro (e | e)
    · exact blkNe h.blk hcb T.t2 e
    · exact blkNe h.blk (h.nb k hk) T.t1 e
  · rintro (e | e)
    · exact mapNe h.mp hcb e
    · exact mapNe h.mp (h.nb k hk) e
  · intro y hy
    rw [own_is hy]
    rintro (e | e)
    · exact h.d2 k hk e
    · exact blkNe hbb (h.nb k hk) (by decide) e
  · intro y hy
    rintro (e | e)
    · exact (h.d3 y hy).2 k hk e
    · exact ownNeBlk h.ko (h.nb k hk) T.t4 y hy e
  · by_cases e : k' = k
    · subst e
      rw [hfk]
      exact hb4
    · rw [hfo k' e]
      refine hX.blk (h.nb k' hk') ?_
      rintro (e2 | e2)
      · exact blkNe (h.nb k' hk') hcb (by decide) e2
      · exact (h.d1 k' hk' k hk e).1 e2
  · by_cases e : k' = k
    · subst e
      rw [hfk]
      exact ownKept hr1 hE4 (fun y hy (e2 : y = bl k') => by rw [own_is hy] at e2; exact hne e2.symm)
    · rw [hfo k' e]
      refine ownKept (h.no k' hk') hX (fun y hy => ?_)
      rw [own_is hy]
      obtain ⟨cs', fr', hh'⟩ := rowBlk (h.no k' hk')
      rintro (e2 | e2)
      · exact (h.d1 k' hk' k hk e).2 e2
      · exact blkNe hh' (h.nb k hk) (by decide) e2
  · rintro y _ (e | e)
    · exact .inr (.inr (.inr (.inr ⟨k, hk, .inr e⟩)))
    · exact .inr (.inr (.inr (.inr ⟨k, hk, .inl e⟩)))
/-- A key more, of which nothing is noted. -/
theorem IsGo.pushed (T : Tys TB KT) (h : IsGo TB KT kv kl base w g G mb gb cb Ak ck bl gc cc φ u) {k : K} (hk : k ∉ G.ks) (hf : G.f k = []) (inj : ∀ a b, kl a = kl b → a = b) (hbase : base ≤ w.heap.size)
    {W1 W2 W2' W3 : World} {a b cA c3 : Nat} {A3 : Option Addr} (hE1 : Ext N0 w W1) (ha : w.heap.size ≤ a) (hbn : w.heap.size ≤ b) (hb : W1.heap[b]? = some (.cells (nC G.bs.length [] a cA) 82 (0, 0))) (hr : W1.ownsRow base 3 1 (.slice (some ⟨a, 0, none⟩) (G.bs.length + 1) cA) (G.bs.length + 1) (iv (cnt G.bs [])))
    (hE2 : Ext (At mb) W1 W2) (hmp : IsMp Try.prog KT poR poD W2 mb (u + 1) (mpSet φ (kl k) (some b))) (hE2' : Ext N0 W2 W2')
    (hE3 : Ext (fun x => (Value.slice Ak G.ks.length ck).ownBlock = some x) W2' W3) (ho3 : W3.ownsRow base KT 1 (.slice A3 (G.ks.length + 1) c3) (G.ks.length + 1) (G.ks.map kv ++ [kv k]))
    (hat : (Value.slice A3 (G.ks.length + 1) c3).ownBlock = (Value.slice Ak G.ks.length ck).ownBlock ∨ (Value.slice A3 (G.ks.length + 1) c3).ownBlock = some W2'.heap.size) :
    IsGo TB KT kv kl base (W3.setCell ⟨g, 2, none⟩ (.slice A3 (G.ks.length + 1) c3)) g (G.push k) mb gb cb A3 c3 (fun k' => if k' = k then b else bl k') (fun k' => if k' = k then a else gc k') (fun k' => if k' = k then cA else cc k') (mpSet φ (kl k) (some b)) (u + 1) ∧
    Ext (Fp G g mb gb Ak ck bl gc) w (W3.setCell ⟨g, 2, none⟩ (.slice A3 (G.ks.length + 1) c3)) ∧
    (∀ x, Fp (G.push k) g mb gb A3 c3 (fun k' => if k' = k then b else bl k') (fun k' => if k' = k then a else gc k') x → Fp G g mb gb Ak ck bl gc x ∨ w.heap.size ≤ x) ∧
    W3.heap[g]? = some (.cells #[.slice (some ⟨gb, 0, none⟩) G.bs.length cb, .map (some mb), .slice Ak G.ks.length ck] TB (0, 0)) := by
  have h1 := h.kept0 hE1
  have hpu : G.push k = { G with ks := G.ks ++ [k] } := if_neg hk
  have hmg : mb ≠ g := mapNe h.mp h.blk
  have hgk : ∀ x, (Value.slice Ak G.ks.length ck).ownBlock = some x → x ≠ g := fun x hx => ownNeBlk h.ko h.blk (Ne.symm T.t3) x hx
  have hmk : ∀ x, (Value.slice Ak G.ks.length ck).ownBlock = some x → x ≠ mb := by
    rintro x hx rfl
    rcases h.ko.2 with ⟨e, _⟩ | ⟨g', cap, cur, e, _, hh, _⟩
    · rw [e] at hx
      simp [Value.ownBlock] at hx
    · rw [e] at hx
      exact mapNe h.mp hh (own_is hx)
  have hblk3 := hE3.blk (hE2'.blk0 (hE2.blk h1.blk (fun e => hmg (show g = mb from e).symm))) (fun e => hgk _ e rfl)
  have hX4 : Ext (At g) W3 (W3.setCell ⟨g, 2, none⟩ (.slice A3 (G.ks.length + 1) c3)) := extSet _ _ _ _
  obtain ⟨W4, hW4⟩ : ∃ W4, W3.setCell ⟨g, 2, none⟩ (.slice A3 (G.ks.length + 1) c3) = W4 := ⟨_, rfl⟩
  have hblk4 : W4.heap[g]? = some (.cells #[.slice (some ⟨gb, 0, none⟩) G.bs.length cb, .map (some mb), .slice A3 (G.ks.length + 1) c3] TB (0, 0)) := by
    rw [← hW4]
    exact (blkSet hblk3 2 _).trans (by simp)
  rw [hW4] at hX4 ⊢
  have hX : Ext (fun x => x = mb ∨ (Value.slice Ak G.ks.length ck).ownBlock = some x ∨ x = g) W1 W4 :=
    ((((hE2.mono (fun x _ (hx : x = mb) => .inl hx)).then0 hE2').trans hE3 (fun x hx => .inl (.inr (.inl hx)))).trans hX4 (fun x hx => .inl (.inr (.inr hx))))
  have hXw : Ext (Fp G g mb gb Ak ck bl gc) w W4 := (Ext.of0 hE1).trans hX (fun x hx => .inl (by
    rcases hx with e | e | e
    · exact .inr (.inl e)
    · exact .inr (.inr (.inr (.inl e)))
    · exact .inl e))
  have hkl : ∀ x, (Value.slice Ak G.ks.length ck).ownBlock = some x → x < w.heap.size := fun x hx => (ownBase h.ko x hx).2
  have hgb : gb < w.heap.size := (ownBase h.bo gb rfl).2
  have hbl : ∀ k' ∈ G.ks, bl k' < w.heap.size := fun k' hk' => blkLt (h.nb k' hk')
  have hgc : ∀ k' ∈ G.ks, gc k' < w.heap.size := fun k' hk' => (ownBase (h.no k' hk') _ rfl).2
  have hgl : g < w.heap.size := blkLt h.blk
  have hml : mb < w.heap.size := h.mp.lt
  have ha1 : a < W1.heap.size := (ownBase hr a rfl).2
  have hs2 : W1.heap.size ≤ W2'.heap.size := Nat.le_trans hE2.size hE2'.size
  have hnew : ∀ x, w.heap.size ≤ x → ¬ (x = mb ∨ (Value.slice Ak G.ks.length ck).ownBlock = some x ∨ x = g) := by
    rintro x hx (e | e | e)
    · omega
    · have := hkl x e; omega
    · omega
  have hown : ∀ x, (Value.slice A3 (G.ks.length + 1) c3).ownBlock = some x → (Value.slice Ak G.ks.length ck).ownBlock = some x ∨ W2'.heap.size = x := by
    intro x hx
    rcases hat with e | e
    · exact .inl (e ▸ hx)
    · rw [e] at hx
      injection hx with hx
      exact .inr hx
  refine ⟨?_, hXw, ?_, hblk3⟩
  · rw [hpu]
    have hmem : ∀ k', k' ∈ G.ks ++ [k] → k' ≠ k → k' ∈ G.ks := fun k' hk' e => by
      rcases List.mem_append.1 hk' with h' | h'
      · exact h'
      · exact absurd (List.mem_singleton.1 h') e
    have hlen : (G.ks ++ [k]).length = G.ks.length + 1 := by simp
    refine ⟨h.hg, h.hmb, ?_, ?_, ?_, ?_, fun k' hk' => ?_, fun k' hk' => ?_, fun k' hk' => ?_, fun k' => ?_, fun k1 hk1 k2 hk2 hne => ?_, fun k' hk' => ?_, fun x hx => ?_⟩
    · show W4.heap[g]? = some (.cells #[.slice (some ⟨gb, 0, none⟩) G.bs.length cb, .map (some mb), .slice A3 (G.ks ++ [k]).length c3] TB (0, 0))
      rw [hlen]
      exact hblk4
    · exact ((hmp.kept hE2' (fun e => e)).kept hE3 (fun e => hmk _ e rfl)).kept hX4 (fun e => hmg e)
    · refine ownKept h1.bo hX (fun x hx => ?_)
      rw [own_is hx]
      obtain ⟨cs', fr', hh'⟩ := rowBlk h.bo
      rintro (e | e | e)
      · exact mapNe h.mp hh' e.symm
      · exact (h.d3 _ e).1 rfl
      · exact blkNe hh' h.blk (Ne.symm T.t2) e
    · show W4.ownsRow base KT 1 (.slice A3 (G.ks ++ [k]).length c3) (G.ks ++ [k]).length ((G.ks ++ [k]).map kv)
      rw [hlen, List.map_append]
      exact ownKept ho3 hX4 (fun x hx => ownNeBlk ho3 hblk3 (Ne.symm T.t3) x hx)
    · show base ≤ if k' = k then b else bl k'
      split
      · omega
      · rename_i e
        exact h.hb k' (hmem k' hk' e)
    · show W4.heap[if k' = k then b else bl k']? = some (.cells (nC G.bs.length (G.f k') (if k' = k then a else gc k') (if k' = k then cA else cc k')) 82 (0, 0))
      by_cases e : k' = k
      · rw [if_pos e, if_pos e, if_pos e, e, hf]
        exact hX.blk hb (hnew b hbn)
      · rw [if_neg e, if_neg e, if_neg e]
        have hk2 := hmem k' hk' e
        refine hX.blk (h1.nb k' hk2) ?_
        rintro (e | e | e)
        · exact mapNe h.mp (h.nb k' hk2) e.symm
        · exact ownNeBlk h.ko (h.nb k' hk2) T.t4 _ e rfl
        · exact blkNe (h.nb k' hk2) h.blk (Ne.symm T.t1) e
    · show W4.ownsRow base 3 1 (.slice (some ⟨if k' = k then a else gc k', 0, none⟩) (G.bs.length + 1) (if k' = k then cA else cc k')) (G.bs.length + 1) (iv (cnt G.bs (G.f k')))
      by_cases e : k' = k
      · rw [if_pos e, if_pos e, e, hf]
        exact ownKept hr hX (fun x hx => by rw [own_is hx]; exact hnew a ha)
      · rw [if_neg e, if_neg e]
        have hk2 := hmem k' hk' e
        refine ownKept (h1.no k' hk2) hX (fun x hx => ?_)
        rw [own_is hx]
        obtain ⟨cs', fr', hh'⟩ := rowBlk (h.no k' hk2)
        rintro (e | e | e)
        · exact mapNe h.mp hh' e.symm
        · exact (h.d3 _ e).2 k' hk2 rfl
        · exact blkNe hh' h.blk (Ne.symm T.t2) e
    · show mpSet φ (kl k) (some b) (kl k') = if k' ∈ G.ks ++ [k] then some (some (if k' = k then b else bl k')) else none
      by_cases e : k' = k
      · subst e
        rw [mpSet_same, if_pos (by simp), if_pos rfl]
      · rw [mpSet_other _ _ (fun h' => e (inj _ _ h')), h.fi, if_neg e]
        by_cases hm : k' ∈ G.ks
        · rw [if_pos hm, if_pos (List.mem_append_left _ hm)]
        · rw [if_neg hm, if_neg (fun h' => hm (hmem k' h' e))]
    · show (if k1 = k then b else bl k1) ≠ (if k2 = k then b else bl k2) ∧ (if k1 = k then a else gc k1) ≠ (if k2 = k then a else gc k2)
      by_cases e1 : k1 = k
      · have e2 : k2 ≠ k := fun e2 => hne (e1.trans e2.symm)
        have hm := hmem k2 hk2 e2
        have := hbl k2 hm
        have := hgc k2 hm
        rw [if_pos e1, if_neg e2, if_pos e1, if_neg e2]
        omega
      · have hm1 := hmem k1 hk1 e1
        by_cases e2 : k2 = k
        · have := hbl k1 hm1
          have := hgc k1 hm1
          rw [if_neg e1, if_pos e2, if_neg e1, if_pos e2]
          omega
        · rw [if_neg e1, if_neg e2, if_neg e1, if_neg e2]
          exact h.d1 k1 hm1 k2 (hmem k2 hk2 e2) hne
    · show gb ≠ if k' = k then a else gc k'
      split
      · omega
      · rename_i e
        exact h.d2 k' (hmem k' hk' e)
    · have hx : (Value.slice A3 (G.ks ++ [k]).length c3).ownBlock = some x := hx
      rw [hlen] at hx
      rcases hown x hx with e | e
      · refine ⟨(h.d3 x e).1, fun k' hk' => ?_⟩
        show x ≠ if k' = k then a else gc k'
        split
        · have := hkl x e; omega
        · rename_i e2
          exact (h.d3 x e).2 k' (hmem k' hk' e2)
      · refine ⟨by omega, fun k' hk' => ?_⟩
        show x ≠ if k' = k then a else gc k'
        split
        · omega
        · rename_i e2
          have := hgc k' (hmem k' hk' e2)
          have := hE1.size
          omega
  · rw [hpu]
    rintro x (e | e | e | e | ⟨k', hk', e⟩)
    · exact .inl (.inl e)
    · exact .inl (.inr (.inl e))
    · exact .inl (.inr (.inr (.inl e)))
    · have e : (Value.slice A3 (G.ks ++ [k]).length c3).ownBlock = some x := e
      rw [show (G.ks ++ [k]).length = G.ks.length + 1 by simp] at e
      rcases hown x e with e | e
      · exact .inl (.inr (.inr (.inr (.inl e))))
      · right
        have := hE1.size
        omega
    · have e : x = (if k' = k then b else bl k') ∨ x = (if k' = k then a else gc k') := e
      by_cases ek : k' = k
      · rw [if_pos ek, if_pos ek] at e
        right
        omega
      · rw [if_neg ek, if_neg ek] at e
        rcases List.mem_append.1 (show k' ∈ G.ks ++ [k] from hk') with hm | hm
        · exact .inl (.inr (.inr (.inr (.inr ⟨k', hm, e⟩))))
        · exact absurd (List.mem_singleton.1 hm) ek
/-- What is read and written of a key. -/
theorem IsGo.told (h : IsGo TB KT kv kl base w g G mb gb cb Ak ck bl gc cc φ u) {k : K} (hk : k ∈ G.ks) (x : Int) :
    (w.cell? ⟨bl k, 0, none⟩ = some (.slice (some ⟨gc k, 0, none⟩) (G.bs.length + 1) (cc k)) ∧ w.cell? ⟨bl k, 1, none⟩ = some (.int .i64 (mostL (G.f k))) ∧ w.cell? ⟨bl k, 2, none⟩ = some (.int .i64 (G.f k).sum) ∧ w.cell? ⟨bl k, 3, none⟩ = some (.int .i64 (G.f k).length)) ∧
    (w.frozen? ⟨bl k, 1, none⟩ = false ∧ w.frozen? ⟨bl k, 2, none⟩ = false ∧ w.frozen? ⟨bl k, 3, none⟩ = false) ∧
    w.cell? ⟨gc k, bkt G.bs x, none⟩ = some (.int .i64 ((G.f k).filter fun y => bkt G.bs y == bkt G.bs x).length) ∧ w.frozen? ⟨gc k, bkt G.bs x, none⟩ = false ∧ bl k ≠ gc k := by
  have hb := h.nb k hk
  obtain ⟨csc, frc, hcb⟩ := rowBlk (h.no k hk)
  refine ⟨⟨(blkCell hb 0).trans rfl, (blkCell hb 1).trans rfl, (blkCell hb 2).trans rfl, (blkCell hb 3).trans rfl⟩, ⟨blkFrozen hb 1, blkFrozen hb 2, blkFrozen hb 3⟩, ?_, (h.no k hk).frozenAt _, blkNe hb hcb (by decide)⟩
  exact (congrArg w.cell? (addPlain (gc k) (bkt G.bs x))).symm.trans (World.ownsRow.cells (g := gc k) (h.no k hk) rfl (bkt G.bs x) _ (iv_get (cnt_get G.bs (G.f k) (bkt_le x G.bs))))
theorem IsMp.more {α : Type} {P : Program} {k : TypeId} {R : Value → Option (DataW Unit × List MemPlace)} {dat : α → DataW Unit} {w : World} {b n m : Nat} {φ : Lit → Option α} (h : IsMp P k R dat w b n φ) (hm : n ≤ m) : IsMp P k R dat w b m φ := by
  obtain ⟨D, ⟨es, cl, h1, h3, h4, h5⟩, h2⟩ := h
  exact ⟨D, ⟨es, cl, h1, h3, Nat.le_trans h4 hm, h5⟩, h2⟩
theorem IsGo.more (h : IsGo TB KT kv kl base w g G mb gb cb Ak ck bl gc cc φ u) {v : Nat} (hv : u ≤ v) : IsGo TB KT kv kl base w g G mb gb cb Ak ck bl gc cc φ v :=
  ⟨h.hg, h.hmb, h.blk, h.mp.more hv, h.bo, h.ko, h.hb, h.nb, h.no, h.fi, h.d1, h.d2, h.d3⟩
end
end Go.Proofs.Ytcngefpdfkkgdaa
