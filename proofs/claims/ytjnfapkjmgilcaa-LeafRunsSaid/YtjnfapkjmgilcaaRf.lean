/- Words of this claim's own: a range over a function, where what is handed out is known by facts of memory. No program in sight. -/
import Derived.Test.YtjnfapkjmgilcaaBase
import Derived.RangeFuncNested
import Derived.RangeFuncBound
import Derived.RangeFuncCalls
import Derived.RangeFuncLeaves
import Derived.RangeFuncRecord
import Derived.Shelf.Abstract
import Derived.Shelf.RegionOpen
import Derived.OwnWalkIn
import Derived.TacticsInMore
import Derived.LoopNIn
import Derived.LoopIn
namespace Go.Proofs.Ytjnfapkjmgilcaa
open Go.RowKit

/-- The book-keeping objects of loops over functions. -/
def isBk : Obj → Bool
  | .loop .. => true
  | .deferred .. => true
  | _ => false
/-- What an invariant must bear: new blocks, and a turn of book-keeping from block z on. -/
structure Kb (z : Nat) (A B : World) : Prop where
  os : B.os = A.os
  tape : B.tape = A.tape
  output : B.output = A.output
  size : A.heap.size ≤ B.heap.size
  block : ∀ (k : Nat) (o : Obj), A.heap[k]? = some o → (k < z ∨ isBk o = false) → B.heap[k]? = some o
theorem Kb.of0 {z : Nat} {A B : World} (h : Ext N0 A B) : Kb z A B := ⟨h.os, h.tape, h.output, h.size, fun _ _ hk _ => h.blk0 hk⟩
theorem Kb.mono {z z' : Nat} {A B : World} (h : Kb z A B) (hz : z' ≤ z) : Kb z' A B := ⟨h.os, h.tape, h.output, h.size, fun k o hk hc => h.block k o hk (hc.imp (fun h => Nat.lt_of_lt_of_le h hz) id)⟩
theorem Kb.trans {z : Nat} {A B C : World} (h : Kb z A B) (k : Kb z B C) : Kb z A C := ⟨k.os.trans h.os, k.tape.trans h.tape, k.output.trans h.output, Nat.le_trans h.size k.size, fun i o hi hc => k.block i o (h.block i o hi hc) hc⟩
theorem Kb.put {z l : Nat} {A : World} {o : Obj} (o' : Obj) (hl : A.heap[l]? = some o) (ho : isBk o = true) (hz : z ≤ l) : Kb z A (A.putObj l o') := by
  refine ⟨rfl, rfl, rfl, by simp, fun k o2 hk hc => ?_⟩
  by_cases e : k = l
  · subst e
    rw [hl] at hk
    injection hk with hk
    subst hk
    rcases hc with hc | hc
    · omega
    · rw [ho] at hc
      cases hc
  · exact (World.putObj_heap_other e).trans hk
theorem Kb.ext {S : Nat → Prop} {z : Nat} {w A B : World} (h : Ext S w A) (k : Kb z A B) (hz : w.heap.size ≤ z) : Ext S w B :=
  ⟨k.os.trans h.os, k.tape.trans h.tape, k.output.trans h.output, Nat.le_trans h.size k.size, fun i hi hn => by
    obtain ⟨o, ho⟩ : ∃ o, A.heap[i]? = some o := ⟨_, Array.getElem?_eq_getElem (Nat.lt_of_lt_of_le hi h.size)⟩
    rw [k.block i o ho (.inl (Nat.lt_of_lt_of_le hi hz)), ← ho]
    exact h.block i hi hn⟩
theorem Kb.blk {z g : Nat} {A B : World} {cs : Array Value} {t : TypeId} {fr : Nat × Nat} (k : Kb z A B) (h : A.heap[g]? = some (.cells cs t fr)) : B.heap[g]? = some (.cells cs t fr) := k.block g _ h (.inr rfl)
theorem Kb.low {z g : Nat} {A B : World} {o : Obj} (k : Kb z A B) (hz : g < z) (h : A.heap[g]? = some o) : B.heap[g]? = some o := k.block g o h (.inl hz)
theorem Kb.cell {z : Nat} {A B : World} {a : Addr} {v : Value} (k : Kb z A B) (h : A.cell? a = some v) : B.cell? a = some v := by
  unfold World.cell? at h ⊢
  cases ho : A.heap[a.block]? with
  | none => simp [ho] at h
  | some o =>
    cases o with
    | cells c t fr => rw [k.blk ho]; simpa [ho] using h
    | _ => simp [ho] at h
theorem Kb.reads {z : Nat} {A B : World} {x : Option Addr} {vs : List Value} (k : Kb z A B) (h : Reads A x vs) : Reads B x vs :=
  ⟨h.1, fun h0 => by
    obtain ⟨ad, e, hc⟩ := h.2 h0
    exact ⟨ad, e, fun j v hv => k.cell (hc j v hv)⟩⟩
theorem Kb.own {z base n : Nat} {e : TypeId} {size : Nat} {v : Value} {xs : List Value} {A B : World} (k : Kb z A B) (h : A.ownsRow base e size v n xs) : B.ownsRow base e size v n xs := by
  obtain ⟨h1, h2⟩ := h
  refine ⟨h1, ?_⟩
  rcases h2 with h2 | ⟨g, cap, cur, rfl, hb, hg, r⟩
  · exact .inl h2
  · exact .inr ⟨g, cap, cur, rfl, hb, k.blk hg, r⟩

/-! append(s, x...) within a fence. -/
section
variable {P : Program}
theorem appRun {W : World} (base : Nat) (t e ty : TypeId) (z : Value) (size bytes : Nat)
    (ht : P.underlying t = some (.slice e)) (hinfo : (P.info? e).map (fun i => (i.zero, i.size, i.bytes)) = some (some z, size, bytes)) (hzs : z.cells.size = size) (hsz : 0 < size) (hb0 : 0 < bytes)
    (v : Value) (n : Nat) (xs : List Value) (A : Option Addr) (m c : Nat) (news : List Value)
    (hown : W.ownsRow base e size v n xs) (hl : news.length = m * size) (hR : Reads W A news) (h1 : ∀ u ∈ news, u.oneCell' = true)
    (hby : (n + m) * bytes ≤ 140737488355328) (hbase : base ≤ W.heap.size) :
    ∃ A1 c1 w1, (Builtin.append_ #[t, t] ty #[v, .slice A m c]).run P W = .ok (.slice A1 (n + m) c1) w1 ∧ w1.ownsRow base e size (.slice A1 (n + m) c1) (n + m) (xs ++ news) ∧ Ext (fun k => v.ownBlock = some k) W w1 ∧
      ((Value.slice A1 (n + m) c1).ownBlock = v.ownBlock ∨ (Value.slice A1 (n + m) c1).ownBlock = some W.heap.size) := by
  obtain ⟨i0, hi, hzz⟩ := Option.map_eq_some_iff.1 hinfo
  simp only [Prod.mk.injEq] at hzz
  obtain ⟨hz0, hz1, hz2⟩ := hzz
  have hlen : n + m ≤ 140737488355328 := Nat.le_trans (Nat.le_mul_of_pos_right _ hb0) hby
  have hrun : ∃ v1 w1, (Builtin.append_ #[t, t] ty #[v, .slice A m c]).run P W = .ok v1 w1 ∧ w1.ownsRow base e size v1 (n + m) (xs ++ news) ∧ W.grownBy w1 v.ownBlock ∧ (v1.ownBlock = v.ownBlock ∨ v1.ownBlock = some W.heap.size) := by
    rcases A with _ | ad
    · have h0 : news = [] := hR.isNil
      subst h0
      have hm0 : m = 0 := by
        rcases Nat.eq_zero_or_pos m with h' | h'
        · exact h'
        · have := Nat.mul_pos h' hsz
          simp only [List.length_nil] at hl
          omega
      subst hm0
      refine ⟨v, W, ?_, by simpa using hown, World.grownBy.refl W _, .inl rfl⟩
      rcases hown.2 with ⟨rfl, hn⟩ | ⟨g, cap, cur, rfl, _, _, hnc, _⟩
      · simp [Builtin.append_, run_underlying ht, sizeOf, typeInfo, hi, Builtin.lenOf, Builtin.firstCells]
      · simp [Builtin.append_, run_underlying ht, sizeOf, typeInfo, hi, Builtin.lenOf, Builtin.firstCells, hnc, storeCells]
    · have hcells : ∀ j u, news[j]? = some u → W.cell? (ad.add j) = some u := by
        intro j u hu
        obtain ⟨ad', h', hc⟩ := hR.2 (by have := (List.getElem?_eq_some_iff.1 hu).1; omega)
        injection h' with h'
        subst h'
        exact hc j u hu
      obtain ⟨v1, w1, hr, h2, h3, _, h5⟩ := run_append_own_at (P := P) W base t ty e i0 z size bytes ht hi hz0 hz1 hz2 hzs hsz v n xs hown ad m c news hl hcells h1 (by simp only [maxLen]; omega) hby hbase
      exact ⟨v1, w1, hr, h2, h3, h5⟩
  obtain ⟨v1, w1, hr, hown1, hg, hat⟩ := hrun
  obtain ⟨A1, c1, rfl, _⟩ := ownSlice hown1
  exact ⟨A1, c1, w1, hr, hown1, Ext.of_grown hg, hat⟩
variable {F : Fence} {nF : Nat} {ops : Array Oper} {rest : List Oper} {o : Oper} {a : Act} {Q : Exit → Act → World → Prop}
theorem wpAppIn {W : World} (base : Nat) (s x : Operand) (t e : TypeId) (z : Value) (size bytes : Nat) (hgd : o.guard = none)
    (ho : o.op = .call { callee := .builtin .append, args := #[s, x], argTypes := #[t, t] })
    (ht : P.underlying t = some (.slice e)) (hinfo : (P.info? e).map (fun i => (i.zero, i.size, i.bytes)) = some (some z, size, bytes)) (hzs : z.cells.size = size) (hsz : 0 < size) (hb0 : 0 < bytes)
    (v : Value) (n : Nat) (xs : List Value) (A : Option Addr) (m c : Nat) (news : List Value) (hs : a.eval s = v) (hx : a.eval x = .slice A m c)
    (hown : W.ownsRow base e size v n xs) (hl : news.length = m * size) (hR : Reads W A news) (h1 : ∀ u ∈ news, u.oneCell' = true)
    (hby : (n + m) * bytes ≤ 140737488355328) (hbase : base ≤ W.heap.size)
    (h : ∀ A' c' w', w'.ownsRow base e size (.slice A' (n + m) c') (n + m) (xs ++ news) → Ext (fun k => v.ownBlock = some k) W w' → ((Value.slice A' (n + m) c').ownBlock = v.ownBlock ∨ (Value.slice A' (n + m) c').ownBlock = some W.heap.size) → wpListIn F nF P ops Q rest (a.put o.dst (.slice A' (n + m) c')) w') :
    wpListIn F nF P ops Q (o :: rest) a W := by
  obtain ⟨A1, c1, w1, hr, h2, h3, h4⟩ := appRun base t e o.type z size bytes ht hinfo hzs hsz hb0 v n xs A m c news hown hl hR h1 hby hbase
  refine wpListIn_plain hgd fun K hK => ?_
  unfold Oper.wpIn
  refine ⟨by simp [Oper.about, ho, resolve, Target.leads, Sem.run_pure], ?_⟩
  rw [Oper.semAt_plain F _ _ (by rw [ho]; intro c hc'; cases hc')]
  simp [execOp, ho, resolve, invoke, builtin, hs, hx, hr, Result.andThen]
  exact hK _ _ (h A1 c1 w1 h2 h3 h4)
end
/-! Two rows of other types lie in other blocks. -/
theorem ownNe {w : World} {b b' n n' s s' : Nat} {e e' : TypeId} {v v' : Value} {xs xs' : List Value} (h : w.ownsRow b e s v n xs) (h' : w.ownsRow b' e' s' v' n' xs') (hne : e ≠ e') : ∀ k, v.ownBlock = some k → ¬ v'.ownBlock = some k := by
  intro k hk hk'
  rcases h.2 with ⟨rfl, _⟩ | ⟨g, cap, cur, rfl, _, hh, _⟩
  · simp [Value.ownBlock] at hk
  · rcases h'.2 with ⟨rfl, _⟩ | ⟨g', cap', cur', rfl, _, hh', _⟩
    · simp [Value.ownBlock] at hk'
    · have e1 : g = k := by simpa [Value.ownBlock] using hk
      have e2 : g' = k := by simpa [Value.ownBlock] using hk'
      subst e1 e2
      rw [hh] at hh'
      injection hh' with hh'
      injection hh' with _ ht
      exact hne ht
theorem ownNeBlk {w : World} {b n s : Nat} {e e' : TypeId} {v : Value} {xs : List Value} {g : Nat} {cs : Array Value} {fr : Nat × Nat} (h : w.ownsRow b e s v n xs) (hb : w.heap[g]? = some (.cells cs e' fr)) (hne : e ≠ e') : ∀ k, v.ownBlock = some k → k ≠ g := by
  rintro k hk rfl
  rcases h.2 with ⟨rfl, _⟩ | ⟨g', cap', cur', rfl, _, hh', _⟩
  · simp [Value.ownBlock] at hk
  · have e2 : g' = k := by simpa [Value.ownBlock] using hk
    subst e2
    rw [hb] at hh'
    injection hh' with hh'
    injection hh' with _ ht
    exact hne ht.symm

/-- What a round keeps of the book-keeping. -/
def Bk (A B : World) : Prop := A.heap.size ≤ B.heap.size ∧ ∀ (k : Nat) (o : Obj), A.heap[k]? = some o → isBk o = true → B.heap[k]? = some o
theorem Bk.refl (A : World) : Bk A A := ⟨Nat.le_refl _, fun _ _ h _ => h⟩
theorem Bk.trans {A B C : World} (h : Bk A B) (k : Bk B C) : Bk A C := ⟨Nat.le_trans h.1 k.1, fun i o hi ho => k.2 i o (h.2 i o hi ho) ho⟩
theorem Bk.of_ext {S : Nat → Prop} {A B : World} (h : Ext S A B) (hS : ∀ k o, S k → A.heap[k]? = some o → isBk o = false) : Bk A B :=
  ⟨h.size, fun k o hk ho => h.blk hk (fun hs => by rw [hS k o hs hk] at ho; cases ho)⟩
theorem Bk.of0 {A B : World} (h : Ext N0 A B) : Bk A B := Bk.of_ext h (fun _ _ hk _ => hk.elim)
/-- What a round keeps for the iterator: the blocks of R. -/
def KpR (R : Nat → Prop) (A B : World) : Prop := ∀ k, R k → k < A.heap.size → B.heap[k]? = A.heap[k]?
theorem KpR.refl (R : Nat → Prop) (A : World) : KpR R A A := fun _ _ _ => rfl
theorem KpR.of_ext {S R : Nat → Prop} {A B : World} (h : Ext S A B) (hS : ∀ k, R k → ¬ S k) : KpR R A B := fun k hk hl => h.block k hl (hS k hk)
theorem KpR.blk {R : Nat → Prop} {A B : World} {g : Nat} {o : Obj} (h : KpR R A B) (hb : A.heap[g]? = some o) (hr : R g) : B.heap[g]? = some o := (h g hr (blkLt hb)).trans hb
theorem KpR.cell {R : Nat → Prop} {A B : World} {a : Addr} {v : Value} (h : KpR R A B) (hc : A.cell? a = some v) (hr : R a.block) : B.cell? a = some v := by
  have := h a.block hr (World.block_lt_of_cell? A a hc)
  simpa [World.cell?, this] using hc
theorem KpR.trans {R : Nat → Prop} {A B C : World} (h : KpR R A B) (hs : A.heap.size ≤ B.heap.size) (k : KpR R B C) : KpR R A C := fun i hr hi => (k i hr (Nat.lt_of_lt_of_le hi hs)).trans (h i hr hi)

/-- THE CONTRACT OF AN ITERATOR: from b0 on, step by step, it hands out what 'Step' tells (of values and of memory); 'Fin': it has ended by itself; 'Bd': what every state that is reached bears (an iterator that goes on for ever ends by it). A round must keep the blocks of R. -/
def Iter {β : Type} (P : Program) (gf : Nat) (lb : Array Value) (Step : β → Array Value → β → World → Prop) (Fin : β → Prop) (Bd : β → Prop) (R : Nat → Prop) (b0 : β) (w0 : World) : Prop :=
  ∀ (l : Nat) (J Jx : β → World → Prop) (W : World), Ext N0 w0 W →
    (∀ b A B, J b A → Kb W.heap.size A B → J b B) → (∀ b A B, Jx b A → Kb W.heap.size A B → Jx b B) → (∀ b A, J b A → Bd b) →
    (∀ b vs b' W1, Step b vs b' W1 → J b W1 → YieldAt Fence.wide 0 P l vs W1 fun e W' =>
      (e = .returned (.bool true) ∧ J b' W' ∧ W1.heap.size ≤ W'.heap.size ∧ KpR R W1 W') ∨ (e = .returned (.bool false) ∧ Jx b' W')) →
    J b0 W →
    CallsIn Fence.wide 0 P gf (#[.func (.yield l) #[] #[]] ++ lb) W fun e W' => (∃ v, e = .returned v) ∧ ((∃ b, Fin b ∧ J b W') ∨ (∃ b, Jx b W'))

/-- How the body of a round may be left. -/
def rfPost {β : Type} (R : Nat → Prop) (I : β → World → Prop) (Ix : Code → β → World → Prop) (b : β) (W : World) : Exit → Act → World → Prop
  | .normal, _, W' => Bk W W' ∧ KpR R W W' ∧ I b W'
  | .ret, _, W' => Bk W W' ∧ Ix .ret b W'
  | .exit id, _, W' => Bk W W' ∧ Ix (.exit id) b W'
  | _, _, _ => False

/-- THE STATEMENT 'for .. := range g { .. }' over an iterator that has its contract. -/
theorem rangeLaw {β : Type} {P : Program} {g : Operand} {ps : Array Tmp} {assign body : Code} {Q : Exit → Act → World → Prop} {a : Act} {w : World}
    {gf : Nat} {lb : Array Value} (hg : a.eval g = .func (.func gf) #[] lb) (eg : ∀ args w, (callFunc gf args).run P w = .ok (.enter gf args) w)
    {Step : β → Array Value → β → World → Prop} {Fin Bd : β → Prop} {R : Nat → Prop} {b0 : β} (hit : Iter P gf lb Step Fin Bd R b0 w) (hR : ∀ k, R k → k < w.heap.size)
    (hps : ∀ b vs b' W, Step b vs b' W → vs.size = ps.size)
    (I : β → World → Prop) (Ix : Code → β → World → Prop) (hI : ∀ b A B, I b A → Kb w.heap.size A B → I b B) (hIx : ∀ c b A B, Ix c b A → Kb w.heap.size A B → Ix c b B) (h0 : I b0 w) (hBd : ∀ b A, I b A → Bd b)
    (Ax : β → β → Act → World → Prop) (hAx : ∀ b b' a' A B, Ax b b' a' A → Kb w.heap.size A B → Ax b b' a' B)
    (hassign : ∀ (l : Nat) (b b' : β) (vs : Array Value) (W : World) (K : Act → World → Prop), Step b vs b' W → I b W → (∀ a' W', Bk W W' → KpR R W W' → I b W' → Ax b b' a' W' → K a' W') →
      assign.wpIn (Fence.wide.inRound l) 0 P (Exit.then K (fun _ _ _ => False)) { tmps := (ps.zip vs).foldl (fun t (p, v) => t.setIfInBounds p v) a.tmps, defers := [] } W)
    (hbody : ∀ (l : Nat) (b b' : β) (a' : Act) (W : World), w.heap.size ≤ l → (∃ r, W.heap[l]? = some (.loop r)) → I b W → Ax b b' a' W → body.wpIn (Fence.wide.inRound l) 0 P (rfPost R I Ix b' W) a' W)
    (hdone : ∀ (D : Nat) (b : β) (W : World), w.heap.size ≤ D → Fin b → I b W → W.heap[D]? = some (.deferred (some [])) → Q .normal { a with defers := { target := .collected D, args := #[] } :: a.defers } W)
    (hstop : ∀ (D : Nat) (c : Code) (b : β) (W : World), w.heap.size ≤ D → Ix c b W → W.heap[D]? = some (.deferred (some [])) → c.wpIn Fence.wide 0 P Q { a with defers := { target := .collected D, args := #[] } :: a.defers } W) :
    (Code.rangeFunc g ps assign body).wpIn Fence.wide 0 P Q a w := by
  refine wpIn_rangeFunc ?_
  intro fn hfn
  obtain ⟨rec, hrec⟩ : ∃ rec : LoopState → Option Code → Loop, rec = fun st pe => { state := st, pending := pe, fn, tmps := a.tmps, params := ps, assign, body, defers := w.heap.size } := ⟨_, rfl⟩
  obtain ⟨W1, hW1⟩ : ∃ W1, (w.alloc (.deferred (some []))).alloc (.loop (rec .ready none)) = W1 := ⟨_, rfl⟩
  have hsz : W1.heap.size = w.heap.size + 2 := by rw [← hW1]; simp
  have hL1 : W1.heap[w.heap.size + 1]? = some (.loop (rec .ready none)) := by rw [← hW1]; exact blkNewG _ _ (by simp)
  have hK1 : W1.heap[w.heap.size]? = some (.deferred (some [])) := by rw [← hW1]; exact blkAlloc (blkNew w _) _
  have hE1 : Ext N0 w W1 := by rw [← hW1]; exact ((Ext.refl _ _).alloc _).alloc _
  refine ⟨w.heap.size + 1, [{ target := .collected w.heap.size, args := #[] }], W1, { target := .fn (.func gf) lb, args := #[.func (.yield (w.heap.size + 1)) #[] #[]] }, W1, gf,
    #[.func (.yield (w.heap.size + 1)) #[] #[]] ++ lb, W1, ?_, ?_, fun _ _ => trivial, ?_, fun h => by simp [Fence.wide] at h, ?_⟩
  · rw [← hW1, hrec]
    exact run_enterLoop_outer _ _ _ _ _
  · simp only [resolve, hg]
    simp [go_sem]
  · simp [invoke, go_sem, eg]
  · refine (hit (w.heap.size + 1)
      (fun b W => I b W ∧ W.heap[w.heap.size + 1]? = some (.loop (rec .ready none)) ∧ W.heap[w.heap.size]? = some (.deferred (some [])))
      (fun b W => ∃ c, Ix c b W ∧ W.heap[w.heap.size + 1]? = some (.loop (rec .done (some c))) ∧ W.heap[w.heap.size]? = some (.deferred (some [])))
      W1 hE1
      (fun b A B hs hk => ⟨hI b A B hs.1 (hk.mono (by omega)), hk.low (by omega) hs.2.1, hk.low (by omega) hs.2.2⟩)
      (fun b A B hs hk => by
        obtain ⟨c, h1, h2, h3⟩ := hs
        exact ⟨c, hIx c b A B h1 (hk.mono (by omega)), hk.low (by omega) h2, hk.low (by omega) h3⟩)
      (fun b A hs => hBd b A hs.1) ?_ ⟨hI _ _ _ h0 (Kb.of0 hE1), hL1, hK1⟩).mono ?_
    · rintro b vs b' W hst ⟨hi, hl, hk⟩
      have hy := run_yield (P := P) (args := vs) hl (by rw [hrec]; exact hps b vs b' W hst)
      rw [hrec] at hy
      refine ⟨fn, _, assign, body, hy, roundIn_of_wpIn hfn (hassign _ b b' vs W _ hst hi ?_)⟩
      clear hy
      intro a' Wa hbk hkp hia hax
      have hla := hbk.2 _ _ hl rfl
      have hka := hbk.2 _ _ hk rfl
      have hlt : w.heap.size + 1 < Wa.heap.size := blkLt hla
      refine ⟨_, run_beginRound hla (by rw [hrec]), ?_⟩
      obtain ⟨Wb, hWb⟩ : ∃ Wb, Wa.putObj (w.heap.size + 1) (.loop { rec .ready none with state := .busy }) = Wb := ⟨_, rfl⟩
      have hkb : Kb w.heap.size Wa Wb := by rw [← hWb]; exact Kb.put _ hla rfl (by omega)
      have hlb : Wb.heap[w.heap.size + 1]? = some (.loop { rec .ready none with state := .busy }) := by rw [← hWb]; exact World.putObj_heap_same hlt
      have hdb : Wb.heap[w.heap.size]? = some (.deferred (some [])) := by rw [← hWb]; exact (World.putObj_heap_other (by omega)).trans hka
      have hpb : ∀ k, R k → Wb.heap[k]? = Wa.heap[k]? := fun k hr => by rw [← hWb]; exact World.putObj_heap_other (by have := hR k hr; omega)
      rw [hWb]
      refine wpIn_mono (hbody _ b b' a' Wb (by omega) ⟨_, hlb⟩ (hI _ _ _ hia hkb) (hAx _ _ _ _ _ hax hkb)) ?_
      have fin : ∀ (jump : Option Code) (W3 : World), Bk Wb W3 →
          (Instr.endRound (w.heap.size + 1) jump).run P W3 = .ok (.bool jump.isNone) (W3.putObj (w.heap.size + 1) (.loop (rec (if jump.isNone then .ready else .done) jump))) ∧
          W3.heap[w.heap.size + 1]? = some (.loop { rec .ready none with state := .busy }) ∧
          (W3.putObj (w.heap.size + 1) (.loop (rec (if jump.isNone then .ready else .done) jump))).heap[w.heap.size + 1]? = some (.loop (rec (if jump.isNone then .ready else .done) jump)) ∧
          (W3.putObj (w.heap.size + 1) (.loop (rec (if jump.isNone then .ready else .done) jump))).heap[w.heap.size]? = some (.deferred (some [])) := fun jump W3 hb3 => by
        have hl3 := hb3.2 _ _ hlb rfl
        have hd3 := hb3.2 _ _ hdb rfl
        have := run_endRound (P := P) jump hl3
        rw [hrec] at this ⊢
        exact ⟨this, by rw [hrec] at hl3; exact hl3, World.putObj_heap_same (blkLt hl3), (World.putObj_heap_other (by omega)).trans hd3⟩
      rintro e a3 W3 hp
      cases e with
      | normal =>
        obtain ⟨hb3, hkp3, hi3⟩ := hp
        obtain ⟨hr, hl3, hl4, hk4⟩ := fin none W3 hb3
        refine ⟨_, _, hr, .inl ⟨rfl, ⟨hI _ _ _ hi3 (Kb.put _ hl3 rfl (by omega)), hl4, hk4⟩, ?_, fun k hrk hlk => ?_⟩⟩
        · have h1 := hbk.1
          have h2 := hkb.size
          have h3 := hb3.1
          simp only [World.putObj_size]
          omega
        · have hlk' : k < Wa.heap.size := Nat.lt_of_lt_of_le hlk hbk.1
          rw [World.putObj_heap_other (by have := hR k hrk; omega), hkp3 k hrk (Nat.lt_of_lt_of_le hlk' hkb.size), hpb k hrk, hkp k hrk hlk]
      | ret =>
        obtain ⟨hb3, hi3⟩ := hp
        obtain ⟨hr, hl3, hl4, hk4⟩ := fin (some .ret) W3 hb3
        exact ⟨_, _, hr, .inr ⟨rfl, .ret, hIx _ _ _ _ hi3 (Kb.put _ hl3 rfl (by omega)), hl4, hk4⟩⟩
      | exit id =>
        obtain ⟨hb3, hi3⟩ := hp
        obtain ⟨hr, hl3, hl4, hk4⟩ := fin (some (.exit id)) W3 hb3
        exact ⟨_, _, hr, .inr ⟨rfl, .exit id, hIx _ _ _ _ hi3 (Kb.put _ hl3 rfl (by omega)), hl4, hk4⟩⟩
      | goto t => exact hp.elim
      | panic ch => exact hp.elim
      | outgrown => exact hp.elim
    · rintro e W2 ⟨⟨v, rfl⟩, (⟨b, hF, hi, hl, hk⟩ | ⟨b, c, hi, hl, hk⟩)⟩
      · exact ⟨none, _, by have := run_endLoop (P := P) hl (by rw [hrec]; simp); rw [hrec] at this; exact this, hdone _ b _ (Nat.le_refl _) hF (hI _ _ _ hi (Kb.put _ hl rfl (by omega))) ((World.putObj_heap_other (by omega)).trans hk)⟩
      · exact ⟨some c, _, by have := run_endLoop (P := P) hl (by rw [hrec]; simp); rw [hrec] at this; exact this, hstop _ c b _ (Nat.le_refl _) (hIx _ _ _ _ hi (Kb.put _ hl rfl (by omega))) ((World.putObj_heap_other (by omega)).trans hk)⟩
end Go.Proofs.Ytjnfapkjmgilcaa
