/- Meters by definition, and what of memory is a meter: for any type of keys. -/
import Derived.Test.YthjeaalnlagpbaaB1
import Derived.Test.YthjeaalnlagpbaaRf
namespace Go.Proofs.Ythjeaalnlagpbaa
open Go.RowKit Go.Maps
open Classical
structure Mt (K : Type) where
  r : Int
  b : Int
  most : Int
  now : Int
  ks : List K
  f : K → Bu
section
variable {K : Type}
noncomputable def Mt.get (m : Mt K) (k : K) : Option Bu := if k ∈ m.ks then some (m.f k) else none
/-- A key's tokens. -/
noncomputable def Mt.tok (m : Mt K) (k : K) : Int := if k ∈ m.ks then afterV m.r m.b (m.f k).1 (m.now - (m.f k).2) else m.b
noncomputable def Mt.set (m : Mt K) (k : K) (x : Int) : Mt K := { m with f := fun k' => if k' = k then (x, m.now) else m.f k' }
def Mt.push (m : Mt K) (k : K) : Mt K := { m with ks := m.ks ++ [k] }
noncomputable def Mt.err (m : Mt K) (k : K) (n : Int) : Int := if n < 1 ∨ 1073741824 < n then 1 else if k ∈ m.ks then 0 else if m.most ≤ m.ks.length then 3 else 0
noncomputable def Mt.ask (m : Mt K) (k : K) (n : Int) : Mt K := if m.err k n = 0 ∧ k ∉ m.ks then (m.push k).set k m.b else m
def BuOk (b now : Int) (y : Bu) : Prop := 0 ≤ y.1 ∧ y.1 ≤ b ∧ 0 ≤ y.2 ∧ y.2 ≤ now
structure Mt.Ok (m : Mt K) : Prop where
  r : 1 ≤ m.r ∧ m.r ≤ 1048576
  b : 1 ≤ m.b ∧ m.b ≤ 1073741824
  most : 1 ≤ m.most ∧ m.most ≤ 1000
  now : 0 ≤ m.now ∧ m.now ≤ 4611686018427387904
  nd : m.ks.Nodup
  len : m.ks.length ≤ m.most
  bu : ∀ k, k ∈ m.ks → BuOk m.b m.now (m.f k)
theorem Mt.Ok.after {m : Mt K} (h : m.Ok) {k : K} (hk : k ∈ m.ks) : 0 ≤ m.r * (m.now - (m.f k).2) := Int.mul_nonneg (by have := h.r; omega) (by have := h.bu k hk; unfold BuOk at this; omega)
theorem Mt.Ok.tok {m : Mt K} (h : m.Ok) (k : K) : 0 ≤ m.tok k ∧ m.tok k ≤ m.b := by
  unfold Mt.tok
  have := h.b
  split
  · rename_i hk
    have h1 := h.bu k hk
    have h2 := h.after hk
    unfold BuOk at h1
    unfold afterV
    omega
  · omega
theorem Mt.set_ks (m : Mt K) (k : K) (x : Int) : (m.set k x).ks = m.ks := rfl
theorem Mt.Ok.set {m : Mt K} (h : m.Ok) (k : K) {x : Int} (hx : 0 ≤ x ∧ x ≤ m.b) : (m.set k x).Ok where
  r := h.r
  b := h.b
  most := h.most
  now := h.now
  nd := h.nd
  len := h.len
  bu := fun k' hk' => by
    show BuOk m.b m.now (if k' = k then (x, m.now) else m.f k')
    split
    · exact ⟨hx.1, hx.2, h.now.1, Int.le_refl _⟩
    · exact h.bu k' hk'
theorem Mt.Ok.ask {m : Mt K} (h : m.Ok) (k : K) (n : Int) : (m.ask k n).Ok := by
  unfold Mt.ask
  split
  · rename_i hc
    have hlen : ¬ m.most ≤ m.ks.length := by
      intro hm
      have := hc.1
      unfold Mt.err at this
      rw [if_neg hc.2, if_pos hm] at this
      split at this <;> omega
    refine ⟨h.r, h.b, h.most, h.now, ?_, ?_, fun k' hk' => ?_⟩
    · show (m.ks ++ [k]).Nodup
      rw [List.nodup_append]
      exact ⟨h.nd, by simp, fun a ha b hb => by rintro rfl; simp at hb; subst hb; exact hc.2 ha⟩
    · show ((m.ks ++ [k]).length : Int) ≤ m.most
      rw [List.length_append, List.length_singleton]
      omega
    · show BuOk m.b m.now (if k' = k then (m.b, m.now) else m.f k')
      split
      · have := h.b
        exact ⟨by simp; omega, Int.le_refl _, h.now.1, Int.le_refl _⟩
      · rename_i hne
        refine h.bu k' ?_
        have hk2 : k' ∈ m.ks ++ [k] := hk'
        rw [List.mem_append] at hk2
        rcases hk2 with hk2 | hk2
        · exact hk2
        · simp at hk2
          exact absurd hk2 hne
  · exact h
end
section
variable {K : Type}
noncomputable def Mt.force (m : Mt K) (k : K) (n : Int) : Mt K := (m.ask k n).set k ((m.ask k n).tok k - min n ((m.ask k n).tok k))
theorem Mt.ask_err {m : Mt K} {k : K} {n : Int} (h : ¬ m.err k n = 0) : m.ask k n = m := by unfold Mt.ask; rw [if_neg (fun x => h x.1)]
theorem Mt.err_n {m : Mt K} {k : K} {n : Int} (h : m.err k n = 0) : 1 ≤ n ∧ n ≤ 1073741824 := by
  unfold Mt.err at h
  split at h <;> omega
theorem Mt.ask_mem {m : Mt K} {k : K} {n : Int} (h : m.err k n = 0) : k ∈ (m.ask k n).ks := by
  unfold Mt.ask
  by_cases hk : k ∈ m.ks
  · rw [if_neg (fun x => x.2 hk)]
    exact hk
  · rw [if_pos ⟨h, hk⟩]
    simp [Mt.set, Mt.push]
theorem Mt.ask_again {m : Mt K} {k : K} {n : Int} (h : m.err k n = 0) : (m.ask k n).err k n = 0 ∧ (m.ask k n).ask k n = m.ask k n := by
  have hk := Mt.ask_mem h
  have hn := Mt.err_n h
  refine ⟨?_, ?_⟩
  · unfold Mt.err
    rw [if_neg (by omega), if_pos hk]
  · show (if _ then _ else _) = _
    rw [if_neg (fun x => x.2 hk)]
theorem Mt.ask_now (m : Mt K) (k : K) (n : Int) : (m.ask k n).now = m.now ∧ (m.ask k n).b = m.b ∧ (m.ask k n).r = m.r ∧ (m.ask k n).most = m.most := by
  unfold Mt.ask
  split
  · exact ⟨rfl, rfl, rfl, rfl⟩
  · exact ⟨rfl, rfl, rfl, rfl⟩
theorem Mt.Ok.force {m : Mt K} (h : m.Ok) (k : K) (n : Int) (hn : 0 ≤ n) : (m.force k n).Ok := by
  have h1 := h.ask k n
  have h2 := h1.tok k
  exact h1.set k (by omega)
def Mt.tick (m : Mt K) (n : Int) : Mt K := { m with now := m.now + min (max 0 (min n 1073741824)) (4611686018427387904 - m.now) }
theorem Mt.Ok.tick {m : Mt K} (h : m.Ok) (n : Int) : (m.tick n).Ok := by
  have hn := h.now
  refine ⟨h.r, h.b, h.most, ?_, h.nd, h.len, fun k hk => ?_⟩
  · show 0 ≤ m.now + min (max 0 (min n 1073741824)) (4611686018427387904 - m.now) ∧ _
    simp only [Mt.tick]
    omega
  · have := h.bu k hk
    show BuOk m.b (m.now + min (max 0 (min n 1073741824)) (4611686018427387904 - m.now)) (m.f k)
    unfold BuOk at this ⊢
    omega
/-- Within how many ticks there are so many. -/
noncomputable def Mt.waits (m : Mt K) (k : K) (n : Int) : Int × Bool := if n < 1 ∨ m.b < n then (0, false) else ((max 0 (n - m.tok k) + m.r - 1) / m.r, true)
end
/-- What a meter can be made of. -/
def NewOk (r b most : Int) : Prop := (1 ≤ r ∧ r ≤ 1048576) ∧ (1 ≤ b ∧ b ≤ 1073741824) ∧ 1 ≤ most ∧ most ≤ 1000
theorem NewOk.ok {K : Type} {r b most : Int} (h : NewOk r b most) (f : K → Bu) : Mt.Ok ⟨r, b, most, 0, [], f⟩ := by
  unfold NewOk at h
  exact ⟨h.1, h.2.1, h.2.2, by simp, by simp, by simp; omega, fun k hk => by simp at hk⟩
/-! Memory. -/
/-- The kinds of blocks that a meter consists of. -/
def tch (TB KT : TypeId) : Option Obj → Prop
  | some (.cells _ t _) => t = TB ∨ t = KT
  | some (.map ..) => True
  | _ => False
def Tc (TB KT : TypeId) (base : Nat) (w : World) (k : Nat) : Prop := base ≤ k ∧ tch TB KT w.heap[k]?
theorem tcTrans {TB KT : TypeId} {base : Nat} {w w1 w2 : World} (h : Ext (Tc TB KT base w) w w1) (h2 : Ext (Tc TB KT base w1) w1 w2) : Ext (Tc TB KT base w) w w2 :=
  h.trans h2 (fun i hi => by
    by_cases hl : i < w.heap.size
    · by_cases ht : Tc TB KT base w i
      · exact .inl ht
      · have := h.block i hl ht
        refine .inl ⟨hi.1, ?_⟩
        rw [← this]
        exact hi.2
    · exact .inr (by omega))
theorem Ext.tc {S : Nat → Prop} {TB KT : TypeId} {base : Nat} {w w' : World} (h : Ext S w w') (hS : ∀ k, k < w.heap.size → S k → Tc TB KT base w k) : Ext (Tc TB KT base w) w w' := h.mono hS
theorem tcOwn {TB KT : TypeId} {base n : Nat} {w : World} {v : Value} {xs : List Value} (h : w.ownsRow base KT 1 v n xs) : ∀ k, k < w.heap.size → v.ownBlock = some k → Tc TB KT base w k := by
  intro k _ hk
  rcases h.2 with ⟨rfl, _⟩ | ⟨g', cap', cur', rfl, hb, hh, _⟩
  · simp [Value.ownBlock] at hk
  · have e2 : g' = k := by simpa [Value.ownBlock] using hk
    subst e2
    refine ⟨hb, ?_⟩
    rw [hh]
    exact .inr rfl
structure IsMo {K : Type} (TB KT : TypeId) (kv : K → Value) (base : Nat) (w : World) (g : Nat) (m : Mt K) (mb : Nat) (A : Option Addr) (c : Nat) (φ : Lit → Option Bu) (u : Nat) : Prop where
  hg : base ≤ g
  hmb : base ≤ mb
  blk : w.heap[g]? = some (.cells #[.int .i64 m.r, .int .i64 m.b, .int .i64 m.most, .int .i64 m.now, .map (some mb), .slice A m.ks.length c] TB (0, 0))
  mp : IsMp Try.prog KT buR buD w mb u φ
  own : w.ownsRow base KT 1 (.slice A m.ks.length c) m.ks.length (m.ks.map kv)
/-- Block g is the meter m, of the call's own (from block 'base' on), behind at most u notes. -/
def IsM {K : Type} (TB KT : TypeId) (kv : K → Value) (kl : K → Lit) (base : Nat) (w : World) (g : Nat) (m : Mt K) (u : Nat) : Prop :=
  ∃ mb A c φ u', u' ≤ u ∧ IsMo TB KT kv base w g m mb A c φ u' ∧ ∀ k, φ (kl k) = m.get k
theorem IsMp.obj {α : Type} {P : Program} {k : TypeId} {R : Value → Option (DataW Unit × List MemPlace)} {dat : α → DataW Unit} {w : World} {b n : Nat} {φ : Lit → Option α} (h : IsMp P k R dat w b n φ) : ∃ es c, w.heap[b]? = some (.map es c) := by
  obtain ⟨D, ⟨es, clock, h1, _⟩, _⟩ := h
  exact ⟨es, clock, h1⟩
section
variable {K : Type} {TB KT : TypeId} {kv : K → Value} {kl : K → Lit} {base g mb c u : Nat} {w w' : World} {m : Mt K} {A : Option Addr} {φ : Lit → Option Bu}
theorem IsMo.ne (h : IsMo TB KT kv base w g m mb A c φ u) : g ≠ mb := by
  rintro rfl
  obtain ⟨es, cl, he⟩ := h.mp.obj
  rw [h.blk] at he
  cases he
theorem IsMo.kept (h : IsMo TB KT kv base w g m mb A c φ u) {S : Nat → Prop} (hE : Ext S w w') (hS : ∀ k, S k → ¬ tch TB KT w.heap[k]?) : IsMo TB KT kv base w' g m mb A c φ u where
  hg := h.hg
  hmb := h.hmb
  blk := hE.blk h.blk (fun hs => hS _ hs (by rw [h.blk]; exact .inl rfl))
  mp := h.mp.kept hE (fun hs => hS _ hs (by obtain ⟨es, cl, he⟩ := h.mp.obj; rw [he]; trivial))
  own := ownKept h.own hE (fun k hk hs => hS _ hs (tcOwn (TB := TB) h.own k (ownBase h.own k hk).2 hk).2)
theorem IsMo.kept0 (h : IsMo TB KT kv base w g m mb A c φ u) (hE : Ext N0 w w') : IsMo TB KT kv base w' g m mb A c φ u := h.kept hE (fun _ hk => hk.elim)
theorem IsM.kept (h : IsM TB KT kv kl base w g m u) {S : Nat → Prop} (hE : Ext S w w') (hS : ∀ k, S k → ¬ tch TB KT w.heap[k]?) : IsM TB KT kv kl base w' g m u := by
  obtain ⟨mb, A, c, φ, u', h1, h2, h3⟩ := h
  exact ⟨mb, A, c, φ, u', h1, h2.kept hE hS, h3⟩
theorem IsM.kept0 (h : IsM TB KT kv kl base w g m u) (hE : Ext N0 w w') : IsM TB KT kv kl base w' g m u := h.kept hE (fun _ hk => hk.elim)
theorem IsM.more (h : IsM TB KT kv kl base w g m u) {v : Nat} (hv : u ≤ v) : IsM TB KT kv kl base w g m v := by
  obtain ⟨mb, A, c, φ, u', h1, h2, h3⟩ := h
  exact ⟨mb, A, c, φ, u', Nat.le_trans h1 hv, h2, h3⟩
/-- A note: a key's bucket is set. -/
theorem IsMo.upd {MT E : TypeId} (h : IsMo TB KT kv base w g m mb A c φ u) (hK : Keyed Try.prog KT) (ht : Try.prog.underlying MT = some (.map KT E)) {k : K} (hk : keyOf Try.prog KT (kv k) = some (kl k)) (hu : u < maxLen) (a : Bu) :
    ∃ w', (Instr.mapUpdate MT (.map (some mb)) (kv k) (buV a)).run Try.prog w = .ok () w' ∧ Ext (At mb) w w' ∧ ∀ f, IsMo TB KT kv base w' g { m with f := f } mb A c (mpSet φ (kl k) a) (u + 1) := by
  obtain ⟨w', hr, hm, hE⟩ := h.mp.update buT hK ht hu hk a
  refine ⟨w', hr, hE, fun f => ⟨h.hg, h.hmb, hE.blk h.blk h.ne, hm, ownKept h.own hE (fun i hi hs => ?_)⟩⟩
  have hs' : i = mb := hs
  subst hs'
  obtain ⟨es, cl, he⟩ := h.mp.obj
  rcases h.own.2 with ⟨h1, _⟩ | ⟨g', cap', cur', h1, hb, hh, _⟩
  · rw [h1] at hi
    simp [Value.ownBlock] at hi
  · rw [h1] at hi
    have e2 : g' = i := by simpa [Value.ownBlock] using hi
    subst e2
    rw [hh] at he
    cases he
theorem tcMap (h : IsMo TB KT kv base w g m mb A c φ u) : ∀ k, k < w.heap.size → At mb k → Tc TB KT base w k := by
  rintro k _ rfl
  obtain ⟨es, cl, he⟩ := h.mp.obj
  refine ⟨h.hmb, ?_⟩
  rw [he]
  trivial
theorem tcBlk (h : IsMo TB KT kv base w g m mb A c φ u) : ∀ k, k < w.heap.size → At g k → Tc TB KT base w k := by
  rintro k _ rfl
  refine ⟨h.hg, ?_⟩
  rw [h.blk]
  exact .inl rfl
theorem mpSetGet (k : K) (hφ : ∀ k', k' ≠ k → φ (kl k') = m.get k') (inj : ∀ a b, kl a = kl b → a = b) (x : Int) (hk : k ∈ m.ks) : ∀ k', mpSet φ (kl k) (x, m.now) (kl k') = (m.set k x).get k' := by
  intro k'
  by_cases e : k' = k
  · subst e
    rw [mpSet_same]
    simp [Mt.get, Mt.set, hk]
  · rw [mpSet_other _ _ (fun h => e (inj _ _ h)), hφ _ e]
    simp [Mt.get, Mt.set, e]
theorem Mt.push_get {m : Mt K} {k k' : K} (h : k' ≠ k) : (m.push k).get k' = m.get k' := by simp [Mt.push, Mt.get, h]
theorem Mt.push_mem (m : Mt K) (k : K) : k ∈ (m.push k).ks := by simp [Mt.push]
/-- A key more. -/
theorem IsMo.push (h : IsMo TB KT kv base w g m mb A c φ u) (hne : KT ≠ TB) {w1 w2 : World} {k : K} {A2 : Option Addr} {c2 : Nat} (hE : Ext N0 w w1) (hE2 : Ext (fun k => (Value.slice A m.ks.length c).ownBlock = some k) w1 w2)
    (ho : w2.ownsRow base KT 1 (.slice A2 (m.ks.length + 1) c2) (m.ks.length + 1) (m.ks.map kv ++ [kv k])) :
    IsMo TB KT kv base (w2.setCell ⟨g, 5, none⟩ (.slice A2 (m.ks.length + 1) c2)) g (m.push k) mb A2 c2 φ u ∧ Ext (Tc TB KT base w) w (w2.setCell ⟨g, 5, none⟩ (.slice A2 (m.ks.length + 1) c2)) ∧
    w2.heap[g]? = some (.cells #[.int .i64 m.r, .int .i64 m.b, .int .i64 m.most, .int .i64 m.now, .map (some mb), .slice A m.ks.length c] TB (0, 0)) := by
  have h1 := h.kept0 hE
  have hn1 : ∀ i, (Value.slice A m.ks.length c).ownBlock = some i → i ≠ g := ownNeBlk h1.own h1.blk hne
  have hn2 : ∀ i, (Value.slice A m.ks.length c).ownBlock = some i → i ≠ mb := by
    rintro i hi rfl
    obtain ⟨es, cl, he⟩ := h1.mp.obj
    rcases h1.own.2 with ⟨h2, _⟩ | ⟨g', cap', cur', h2, hb, hh, _⟩
    · rw [h2] at hi
      simp [Value.ownBlock] at hi
    · rw [h2] at hi
      have e2 : g' = i := by simpa [Value.ownBlock] using hi
      subst e2
      rw [hh] at he
      cases he
  have hb2 := hE2.blk h1.blk (fun hs => hn1 _ hs rfl)
  have hE3 : Ext (At g) w2 (w2.setCell ⟨g, 5, none⟩ (.slice A2 (m.ks.length + 1) c2)) := by
    refine (Ext.refl (At g) w2).setCell (.inl ?_) _
    rfl
  have hT2 : Ext (Tc TB KT base w) w w2 := tcTrans (Ext.of0 hE) (hE2.tc (tcOwn h1.own))
  have hl : m.ks.length + 1 = (m.push k).ks.length := by simp [Mt.push]
  refine ⟨⟨h.hg, h.hmb, ?_, ?_, ?_⟩, tcTrans hT2 (hE3.tc ?_), hb2⟩
  · rw [blkSet hb2]
    simp [Mt.push]
  · exact (h1.mp.kept hE2 (fun hs => hn2 _ hs rfl)).kept hE3 (fun hs => h.ne (show mb = g from hs).symm)
  · rw [← hl]
    have := ownKept ho hE3 (fun i hi hs => ownNeBlk ho hb2 hne i hi hs)
    simpa [Mt.push] using this
  · rintro i _ rfl
    refine ⟨h.hg, ?_⟩
    rw [hb2]
    exact .inl rfl
end
end Go.Proofs.Ythjeaalnlagpbaa
