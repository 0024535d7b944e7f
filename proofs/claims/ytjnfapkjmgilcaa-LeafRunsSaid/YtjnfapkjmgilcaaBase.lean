/- Words of this claim's own: what a call keeps of memory, blocks known whole, slices that are read. No program in sight. -/
import Derived.WalkKit
import Derived.Below
import Derived.OwnWalk
import Derived.Deep.Draws
import Derived.Laws.MakeOwn
import Derived.Laws.OwnMore
import Derived.Laws.NewBlocks
import Derived.Lib.Hide
import Derived.Maps.AppendAt
import Derived.Deep.AppendLies
namespace Go.Proofs.Ytjnfapkjmgilcaa
open Go.RowKit

/-- What a call keeps: the streams; every block but those of S; no block has gone. -/
structure Ext (S : Nat → Prop) (w w' : World) : Prop where
  os : w'.os = w.os
  tape : w'.tape = w.tape
  output : w'.output = w.output
  size : w.heap.size ≤ w'.heap.size
  block : ∀ k, k < w.heap.size → ¬ S k → w'.heap[k]? = w.heap[k]?

def N0 : Nat → Prop := fun _ => False
def At (g : Nat) : Nat → Prop := fun k => k = g

theorem Ext.refl (S : Nat → Prop) (w : World) : Ext S w w := ⟨rfl, rfl, rfl, Nat.le_refl _, fun _ _ _ => rfl⟩
theorem Ext.mono {S S' : Nat → Prop} {w w' : World} (h : Ext S w w') (hs : ∀ k, k < w.heap.size → S k → S' k) : Ext S' w w' :=
  ⟨h.os, h.tape, h.output, h.size, fun k hk hn => h.block k hk (fun hS => hn (hs k hk hS))⟩
theorem Ext.trans {S S2 : Nat → Prop} {a b c : World} (h : Ext S a b) (k : Ext S2 b c) (hs : ∀ k, S2 k → S k ∨ a.heap.size ≤ k) : Ext S a c :=
  ⟨k.os.trans h.os, k.tape.trans h.tape, k.output.trans h.output, Nat.le_trans h.size k.size, fun i hi hn =>
    (k.block i (Nat.lt_of_lt_of_le hi h.size) (fun h2 => (hs i h2).elim hn (fun h3 => absurd hi (Nat.not_lt.2 h3)))).trans (h.block i hi hn)⟩
theorem Ext.then0 {S : Nat → Prop} {a b c : World} (h : Ext S a b) (k : Ext N0 b c) : Ext S a c := h.trans k (fun _ hk => hk.elim)
theorem Ext.same {S : Nat → Prop} {a b c : World} (h : Ext S a b) (k : Ext S b c) : Ext S a c := h.trans k (fun _ hk => .inl hk)
theorem Ext.of0 {S : Nat → Prop} {a b : World} (h : Ext N0 a b) : Ext S a b := (Ext.refl S a).then0 h
theorem Ext.drew {S : Nat → Prop} {a w : World} (h : Ext S a w) : Ext S a w.drew := ⟨h.os, h.tape, h.output, h.size, h.block⟩
theorem Ext.drewN {S : Nat → Prop} {a w : World} (h : Ext S a w) (n : Nat) : Ext S a (w.drewN n) := ⟨h.os, h.tape, h.output, h.size, h.block⟩
theorem Ext.alloc {S : Nat → Prop} {a w : World} (h : Ext S a w) (o : Obj) : Ext S a (w.alloc o) :=
  h.then0 ⟨rfl, rfl, rfl, by simp, fun k hk _ => Below.heap_alloc _ _ _ hk⟩
theorem Ext.setCell {S : Nat → Prop} {a w : World} (h : Ext S a w) {p : Addr} (hp : S p.block ∨ a.heap.size ≤ p.block) (u : Value) : Ext S a (w.setCell p u) :=
  h.trans (S2 := At p.block) ⟨rfl, rfl, rfl, by simp [World.setCell], fun k _ hn => Below.heap_setCell _ _ _ _ hn⟩ (fun k hk => by rw [show k = p.block from hk]; exact hp)
theorem Ext.of_below {S : Nat → Prop} {w w' : World} (h : Below w.heap.size w w') : Ext S w w' := ⟨h.os, h.tape, h.output, h.size, fun k hk _ => h.block k hk⟩
theorem Ext.below {w w' : World} (h : Ext N0 w w') : Below w.heap.size w w' := ⟨h.os, h.tape, h.output, h.size, fun k hk => h.block k hk (fun x => x)⟩
theorem Ext.of_grown {w w' : World} {row : Option Nat} (h : w.grownBy w' row) : Ext (fun k => row = some k) w w' := ⟨h.os, h.tape, h.output, h.size, fun k hk hn => h.block k hk (fun e => hn e.symm)⟩
theorem Ext.grown {S : Nat → Prop} {a w w' : World} {row : Option Nat} (h : Ext S a w) (hg : w.grownBy w' row) (hr : ∀ k, row = some k → S k ∨ a.heap.size ≤ k) : Ext S a w' := h.trans (Ext.of_grown hg) hr
theorem Ext.grownBy {g : Nat} {w w' : World} (h : Ext (At g) w w') : w.grownBy w' (some g) := ⟨h.os, h.tape, h.output, h.size, fun k hk hn => h.block k hk (fun e => hn (by rw [show k = g from e]))⟩
theorem Ext.grownBy0 {w w' : World} (h : Ext N0 w w') (row : Option Nat) : w.grownBy w' row := ⟨h.os, h.tape, h.output, h.size, fun k hk _ => h.block k hk (fun x => x)⟩

/-! Blocks known whole. -/
theorem blkLt {w : World} {g : Nat} {o : Obj} (h : w.heap[g]? = some o) : g < w.heap.size := (Array.getElem?_eq_some_iff.1 h).1
theorem Ext.blk {S : Nat → Prop} {w w' : World} {g : Nat} {o : Obj} (h : Ext S w w') (hb : w.heap[g]? = some o) (hn : ¬ S g) : w'.heap[g]? = some o := (h.block g (blkLt hb) hn).trans hb
theorem Ext.blk0 {w w' : World} {g : Nat} {o : Obj} (h : Ext N0 w w') (hb : w.heap[g]? = some o) : w'.heap[g]? = some o := h.blk hb (fun x => x)
theorem blkCell {w : World} {g : Nat} {t : TypeId} {cs : Array Value} {fr : Nat × Nat} (h : w.heap[g]? = some (.cells cs t fr)) (i : Nat) : w.cell? ⟨g, i, none⟩ = cs[i]? := cell_of_row w g i cs t fr h
theorem blkFrozen {w : World} {g : Nat} {t : TypeId} {cs : Array Value} (h : w.heap[g]? = some (.cells cs t (0, 0))) (i : Nat) : w.frozen? ⟨g, i, none⟩ = false := by simp [World.frozen?, h]
theorem blkSet {w : World} {g : Nat} {t : TypeId} {cs : Array Value} {fr : Nat × Nat} (h : w.heap[g]? = some (.cells cs t fr)) (i : Nat) (u : Value) : (w.setCell ⟨g, i, none⟩ u).heap[g]? = some (.cells (cs.setIfInBounds i u) t fr) := by
  simp [World.setCell, Array.getElem?_modify, h]
theorem blkFar {w : World} {g : Nat} {o : Obj} (h : w.heap[g]? = some o) {p : Addr} (hp : g ≠ p.block) (u : Value) : (w.setCell p u).heap[g]? = some o := (Below.heap_setCell w p u g hp).trans h
theorem blkNew (w : World) (o : Obj) : (w.alloc o).heap[w.heap.size]? = some o := by
  show (w.heap.push o)[w.heap.size]? = _
  simp
theorem blkAlloc {w : World} {g : Nat} {x : Obj} (h : w.heap[g]? = some x) (o : Obj) : (w.alloc o).heap[g]? = some x := (Below.heap_alloc w o g (blkLt h)).trans h
theorem blkDrew {w : World} {g : Nat} {x : Obj} (h : w.heap[g]? = some x) (n : Nat) : (w.drewN n).heap[g]? = some x := h
theorem Ext.cell {S : Nat → Prop} {w w' : World} {a : Addr} {v : Value} (h : Ext S w w') (hc : w.cell? a = some v) (hn : ¬ S a.block) : w'.cell? a = some v := by
  have := h.block a.block (World.block_lt_of_cell? w a hc) hn
  simpa [World.cell?, this] using hc
theorem addPlain (g j : Nat) : (⟨g, 0, none⟩ : Addr).add j = ⟨g, j, none⟩ := by unfold Addr.add; split <;> simp_all
theorem addPlain' (g o j : Nat) : (⟨g, o, none⟩ : Addr).add j = ⟨g, o + j, none⟩ := by unfold Addr.add; split <;> simp_all
theorem addBlock (a : Addr) (j : Nat) : (a.add j).block = a.block := by unfold Addr.add; split <;> simp_all
theorem addAdd (a : Addr) (i j : Nat) : (a.add i).add j = a.add (i + j) := by
  unfold Addr.add
  by_cases h1 : i = 0 <;> by_cases h2 : j = 0 <;> simp [h1, h2, Nat.add_assoc]

/-- As the walk writes it. -/
theorem addSucc (a : Addr) (j : Nat) : a.add (j + 1) = { block := a.block, off := a.off + (j + 1) } := by simp [Addr.add]

/-! A slice that is read: its cells, one behind the other. -/
/-- The slice value at A (nil where there is nothing) leads to the cells vs. -/
def Reads (w : World) (A : Option Addr) (vs : List Value) : Prop := vs.length ≤ 9223372036854775807 ∧ (0 < vs.length → ∃ ad, A = some ad ∧ ∀ j v, vs[j]? = some v → w.cell? (ad.add j) = some v)
theorem Reads.nil (w : World) (A : Option Addr) : Reads w A [] := ⟨by simp, fun h => absurd h (by simp)⟩
theorem Reads.isNil {w : World} {vs : List Value} (h : Reads w none vs) : vs = [] := by
  rcases Nat.eq_zero_or_pos vs.length with h0 | h0
  · exact List.eq_nil_of_length_eq_zero h0
  · obtain ⟨ad, e, _⟩ := h.2 h0
    cases e
theorem Reads.at {w : World} {A : Option Addr} {vs : List Value} (h : Reads w A vs) (j : Nat) (hj : j < vs.length) : ∃ ad, A = some ad ∧ ∀ i v, vs[i]? = some v → w.cell? (ad.add i) = some v := h.2 (by omega)
theorem Reads.mono {S : Nat → Prop} {w w' : World} {A : Option Addr} {vs : List Value} (h : Reads w A vs) (hE : Ext S w w') (hn : ∀ ad, A = some ad → ¬ S ad.block) : Reads w' A vs :=
  ⟨h.1, fun h0 => by
    obtain ⟨ad, e, hc⟩ := h.2 h0
    exact ⟨ad, e, fun j v hv => hE.cell (hc j v hv) (by rw [addBlock]; exact hn ad e)⟩⟩
theorem Reads.mono0 {w w' : World} {A : Option Addr} {vs : List Value} (h : Reads w A vs) (hE : Ext N0 w w') : Reads w' A vs := h.mono hE (fun _ _ x => x)
theorem Reads.take {w : World} {A : Option Addr} {vs : List Value} (h : Reads w A vs) (i : Nat) : Reads w A (vs.take i) := by
  refine ⟨by rw [List.length_take]; have := h.1; omega, fun hp => ?_⟩
  rw [List.length_take] at hp
  obtain ⟨ad, e, hc⟩ := h.2 (by omega)
  refine ⟨ad, e, fun j v hv => hc j v ?_⟩
  rw [List.getElem?_take] at hv
  split at hv
  · exact hv
  · cases hv
theorem Reads.drop {w : World} {A : Option Addr} {vs : List Value} {n c : Nat} (h : Reads w A vs) (hn : vs.length = n) (i : Nat) (hc : n ≤ c) : Reads w (if c = i then A else A.map (·.add i)) (vs.drop i) := by
  refine ⟨by rw [List.length_drop]; have := h.1; omega, fun hp => ?_⟩
  rw [List.length_drop] at hp
  obtain ⟨ad, rfl, hcell⟩ := h.2 (by omega)
  rw [if_neg (by omega)]
  refine ⟨ad.add i, rfl, fun j v hv => ?_⟩
  rw [addAdd]
  refine hcell (i + j) v ?_
  rw [List.getElem?_drop] at hv
  exact hv
theorem Reads.lt {w : World} {A : Option Addr} {vs : List Value} (h : Reads w A vs) (h0 : 0 < vs.length) : ∀ ad, A = some ad → ad.block < w.heap.size := by
  intro ad e
  obtain ⟨ad', e', hc⟩ := h.2 h0
  rw [e] at e'
  injection e' with e'
  subst e'
  have := World.block_lt_of_cell? w _ (hc 0 _ (List.getElem?_eq_getElem h0))
  rwa [addBlock] at this
def ints (k : IntKind) (xs : List Int) : List Value := xs.map (Value.int k)
theorem ints_length (k : IntKind) (xs : List Int) : (ints k xs).length = xs.length := by simp [ints]
theorem ints_get (k : IntKind) (xs : List Int) (j : Nat) (h : j < xs.length) : (ints k xs)[j]? = some (.int k (xs.getD j 0)) := by simp [ints, h]
/-- One number of a slice of numbers. -/
theorem Reads.num {w : World} {A : Option Addr} {k : IntKind} {xs : List Int} (h : Reads w A (ints k xs)) (j : Nat) (hj : j < xs.length) : ∃ ad, A = some ad ∧ w.cell? (ad.add j) = some (.int k (xs.getD j 0)) := by
  obtain ⟨ad, e, hc⟩ := h.at j (by rw [ints_length]; exact hj)
  exact ⟨ad, e, hc j _ (ints_get k xs j hj)⟩

def Bytes (xs : List Int) : Prop := ∀ x, x ∈ xs → 0 ≤ x ∧ x ≤ 255
theorem Bytes.at {xs : List Int} (h : Bytes xs) (j : Nat) (hj : j < xs.length) : 0 ≤ xs.getD j 0 ∧ xs.getD j 0 ≤ 255 := by
  have := h (xs.getD j 0) (by simp [hj])
  exact this
theorem Bytes.app {xs ys : List Int} (h : Bytes xs) (k : Bytes ys) : Bytes (xs ++ ys) := fun x hx => (List.mem_append.1 hx).elim (h x) (k x)
theorem Bytes.take {xs : List Int} (h : Bytes xs) (n : Nat) : Bytes (xs.take n) := fun x hx => h x (List.mem_of_mem_take hx)
theorem Bytes.drop {xs : List Int} (h : Bytes xs) (n : Nat) : Bytes (xs.drop n) := fun x hx => h x (List.mem_of_mem_drop hx)
theorem Bytes.nil : Bytes [] := fun _ hx => by cases hx

/-! What is handed back. -/
theorem retInt {k : IntKind} {a b : Int} (h : a = b) : Ending.returned (.int k a) = .returned (.int k b) := by rw [h]
theorem retBool {a b : Bool} (h : a = b) : Ending.returned (.bool a) = .returned (.bool b) := by rw [h]
theorem retSl {A : Option Addr} {n m c : Nat} (h : n = m) : Ending.returned (.slice A n c) = .returned (.slice A m c) := by rw [h]

/-! A slice of integers that came in. -/
def IsRow (k : IntKind) (w : World) (a : Option Addr) (len cap : Nat) (zs : List Int) : Prop :=
  (a = none ∧ len = 0 ∧ cap = 0 ∧ zs = []) ∨
  ∃ x, a = some x ∧ len ≤ cap ∧ cap ≤ maxLen ∧ zs.length = cap ∧ (∀ i, i < zs.length → w.cell? (x.add i) = some (.int k (zs.getD i 0))) ∧ ∀ n ∈ zs, (Lit.int k n).wf = true
theorem IsRow.reads {k : IntKind} {w : World} {a : Option Addr} {len cap : Nat} {zs : List Int} (h : IsRow k w a len cap zs) :
    Reads w a (ints k (zs.take len)) ∧ (zs.take len).length = len ∧ len ≤ cap ∧ cap ≤ 9223372036854775807 ∧ ∀ n, n ∈ zs.take len → (Lit.int k n).wf = true := by
  rcases h with ⟨rfl, rfl, rfl, rfl⟩ | ⟨x, rfl, hl, hm, hz, hc, hw⟩
  · exact ⟨Reads.nil _ _, rfl, Nat.le_refl _, by omega, fun n hn => by simp at hn⟩
  · simp only [maxLen] at hm
    have hlen : (zs.take len).length = len := by rw [List.length_take]; omega
    refine ⟨⟨by rw [ints_length]; omega, fun h0 => ⟨x, rfl, fun j v hv => ?_⟩⟩, hlen, hl, hm, fun n hn => hw n (List.mem_of_mem_take hn)⟩
    have hj : j < (zs.take len).length := by have := (List.getElem?_eq_some_iff.1 hv).1; rwa [ints_length] at this
    rw [ints_get k _ j hj] at hv
    injection hv with hv
    rw [← hv, hc j (by omega)]
    congr 2
    simp [List.getD_eq_getElem?_getD, show j < len by omega]
theorem wfBytes {xs : List Int} (h : ∀ n, n ∈ xs → (Lit.int .u8 n).wf = true) : Bytes xs := by
  intro x hx
  have := h x hx
  have hmin : IntKind.u8.min = 0 := rfl
  have hmax : IntKind.u8.max = 255 := rfl
  simp only [Lit.wf, Bool.and_eq_true, decide_eq_true_eq] at this
  omega

/-! A row of the call's own. -/
theorem ownSlice {w : World} {base n : Nat} {e : TypeId} {size : Nat} {v : Value} {xs : List Value} (h : w.ownsRow base e size v n xs) : ∃ A c, v = .slice A n c ∧ n ≤ c := by
  rcases h.2 with ⟨rfl, rfl⟩ | ⟨g, cap, cur, rfl, _, _, hc, _⟩
  · exact ⟨none, 0, rfl, Nat.le_refl _⟩
  · exact ⟨_, cap, rfl, hc⟩
theorem ownBase {w : World} {base : Nat} {e : TypeId} {size n : Nat} {v : Value} {xs : List Value} (h : w.ownsRow base e size v n xs) (k : Nat) (hk : v.ownBlock = some k) : base ≤ k ∧ k < w.heap.size := h.lt k hk
theorem ownLen {w : World} {base n : Nat} {e : TypeId} {size : Nat} {v : Value} {xs : List Value} (h : w.ownsRow base e size v n xs) : n ≤ 9223372036854775807 := by
  rcases h.2 with ⟨rfl, rfl⟩ | ⟨g, cap, cur, rfl, _, _, hc, hm, _⟩
  · omega
  · simp only [maxLen] at hm
    omega
theorem ownReads1 {w : World} {base n : Nat} {e : TypeId} {A : Option Addr} {c : Nat} {xs : List Value} (h : w.ownsRow base e 1 (.slice A n c) n xs) : Reads w A xs := by
  have hn := ownLen h
  have hl := h.1
  refine ⟨by omega, fun h0 => ?_⟩
  obtain ⟨g, cap, hv, _, _⟩ := h.form (by omega)
  injection hv with hv
  subst hv
  exact ⟨_, rfl, fun j v hj => h.cells (g := g) rfl j v hj⟩
theorem ownReadsN {w : World} {base n : Nat} {e : TypeId} {size : Nat} {A : Option Addr} {c : Nat} {xs : List Value} (h : w.ownsRow base e size (.slice A n c) n xs) (hb : n * size ≤ 9223372036854775807) : Reads w A xs := by
  have hl := h.1
  refine ⟨by omega, fun h0 => ?_⟩
  have hn : 0 < n := by
    rcases Nat.eq_zero_or_pos n with h' | h'
    · rw [h', Nat.zero_mul] at hl
      omega
    · exact h'
  obtain ⟨g, cap, hv, _, _⟩ := h.form hn
  injection hv with hv
  subst hv
  exact ⟨_, rfl, fun j v hj => h.cells (g := g) rfl j v hj⟩
theorem ownKept {S : Nat → Prop} {w w' : World} {base n : Nat} {e : TypeId} {size : Nat} {v : Value} {xs : List Value} (h : w.ownsRow base e size v n xs) (hE : Ext S w w') (hn : ∀ k, v.ownBlock = some k → ¬ S k) : w'.ownsRow base e size v n xs := by
  obtain ⟨h1, h2⟩ := h
  refine ⟨h1, ?_⟩
  rcases h2 with h2 | ⟨g, cap, cur, rfl, hb, hg, r⟩
  · exact .inl h2
  · exact .inr ⟨g, cap, cur, rfl, hb, hE.blk hg (hn g rfl), r⟩
theorem ownKept0 {w w' : World} {base n : Nat} {e : TypeId} {size : Nat} {v : Value} {xs : List Value} (h : w.ownsRow base e size v n xs) (hE : Ext N0 w w') : w'.ownsRow base e size v n xs := ownKept h hE (fun _ _ x => x)
theorem ownLe {w : World} {base base' size n : Nat} {e : TypeId} {v : Value} {xs : List Value} (h : w.ownsRow base e size v n xs) (hb : base' ≤ base) : w.ownsRow base' e size v n xs :=
  ⟨h.1, h.2.imp id fun ⟨g, cap, cur, a, b, r⟩ => ⟨g, cap, cur, a, Nat.le_trans hb b, r⟩⟩
theorem ownLit (W : World) (base : Nat) (e : TypeId) (size : Nat) (cs : Array Value) (n : Nat) (hb : base ≤ W.heap.size) (hm : n ≤ 9223372036854775807) (hs : cs.size = n * size) :
    (W.alloc (.cells cs e)).ownsRow base e size (.slice (some ⟨W.heap.size, 0, none⟩) n n) n cs.toList := World.ownsRow_lit W cs n hb (by simpa [maxLen] using hm) hs
theorem ownNil (W : World) (base : Nat) (e : TypeId) (size : Nat) : W.ownsRow base e size (.slice none 0 0) 0 [] := ⟨by simp, .inl ⟨rfl, rfl⟩⟩
theorem litReads (W : World) (cs : List Value) (e : TypeId) (hm : cs.length ≤ 9223372036854775807) {fr : Nat × Nat} : Reads (W.alloc (.cells cs.toArray e fr)) (some ⟨W.heap.size, 0, none⟩) cs := by
  refine ⟨hm, fun _ => ⟨_, rfl, fun j v hj => ?_⟩⟩
  rw [addPlain, blkCell (blkNew W _)]
  simpa using hj
/-- .. where the walk has reckoned the heap's size. -/
theorem litReadsG (W : World) (cs : List Value) (e : TypeId) {g : Nat} (hg : W.heap.size = g) (hm : cs.length ≤ 9223372036854775807) {fr : Nat × Nat} : Reads (W.alloc (.cells cs.toArray e fr)) (some ⟨g, 0, none⟩) cs := by
  subst hg
  exact litReads W cs e hm
theorem ownLitG (W : World) (base : Nat) (e : TypeId) (size : Nat) (cs : Array Value) (n : Nat) {g : Nat} (hg : W.heap.size = g) (hb : base ≤ g) (hm : n ≤ 9223372036854775807) (hs : cs.size = n * size) :
    (W.alloc (.cells cs e)).ownsRow base e size (.slice (some ⟨g, 0, none⟩) n n) n cs.toList := by
  subst hg
  exact ownLit W base e size cs n hb hm hs
theorem blkNewG (W : World) (o : Obj) {g : Nat} (hg : W.heap.size = g) : (W.alloc o).heap[g]? = some o := by
  subst hg
  exact blkNew W o

section
variable {P : Program} {ops : Array Oper} {rest : List Oper} {o : Oper} {a : Act} {Q : Exit → Act → World → Prop}
/-- append(s, x...): s a row of the call's own (or nil), x whatever is read. -/
theorem wpApp {W : World} (base : Nat) (s x : Operand) (t e : TypeId) (z : Value) (size bytes : Nat) (hgd : o.guard = none)
    (ho : o.op = .call { callee := .builtin .append, args := #[s, x], argTypes := #[t, t] })
    (ht : P.underlying t = some (.slice e)) (hinfo : (P.info? e).map (fun i => (i.zero, i.size, i.bytes)) = some (some z, size, bytes)) (hzs : z.cells.size = size) (hsz : 0 < size) (hb0 : 0 < bytes)
    (v : Value) (n : Nat) (xs : List Value) (A : Option Addr) (m c : Nat) (news : List Value) (hs : a.eval s = v) (hx : a.eval x = .slice A m c)
    (hown : W.ownsRow base e size v n xs) (hl : news.length = m * size) (hR : Reads W A news) (h1 : ∀ u ∈ news, u.oneCell' = true)
    (hby : (n + m) * bytes ≤ 140737488355328) (hbase : base ≤ W.heap.size)
    (h : ∀ A' c' w', w'.ownsRow base e size (.slice A' (n + m) c') (n + m) (xs ++ news) → Ext (fun k => v.ownBlock = some k) W w' → ((Value.slice A' (n + m) c').ownBlock = v.ownBlock ∨ (Value.slice A' (n + m) c').ownBlock = some W.heap.size) → wpList P ops Q rest (a.put o.dst (.slice A' (n + m) c')) w') :
    wpList P ops Q (o :: rest) a W := by
  obtain ⟨i0, hi, hzz⟩ := Option.map_eq_some_iff.1 hinfo
  simp only [Prod.mk.injEq] at hzz
  obtain ⟨hz0, hz1, hz2⟩ := hzz
  have hlen : n + m ≤ 140737488355328 := Nat.le_trans (Nat.le_mul_of_pos_right _ hb0) hby
  have hrun : ∃ v1 w1, (Builtin.append_ #[t, t] o.type #[v, .slice A m c]).run P W = .ok v1 w1 ∧ w1.ownsRow base e size v1 (n + m) (xs ++ news) ∧ W.grownBy w1 v.ownBlock ∧ (v1.ownBlock = v.ownBlock ∨ v1.ownBlock = some W.heap.size) := by
    rcases A with _ | ad
    · have h0 : news = [] := by
        rcases Nat.eq_zero_or_pos news.length with h0 | h0
        · exact List.eq_nil_of_length_eq_zero h0
        · obtain ⟨ad, h, _⟩ := hR.2 h0
          cases h
      subst h0
      have hm0 : m = 0 := by
        rcases Nat.eq_zero_or_pos m with h' | h'
        · exact h'
        · have := Nat.mul_pos h' hsz
          simp only [List.length_nil] at hl
          omega
      subst hm0
      refine ⟨v, W, ?_, by simpa using hown, World.grownBy.refl W _, .inl rfl⟩
      rcases hown.2 with ⟨rfl, hn⟩ | ⟨g, cap, cur, rfl, _, _, hnc, _⟩
      · simp [Builtin.append_, run_underlying ht, sizeOf, typeInfo, hi, Builtin.lenOf, Builtin.firstCells]
      · simp [Builtin.append_, run_underlying ht, sizeOf, typeInfo, hi, Builtin.lenOf, Builtin.firstCells, hnc, storeCells]
    · have hcells : ∀ j u, news[j]? = some u → W.cell? (ad.add j) = some u := by
        intro j u hu
        obtain ⟨ad', h', hc⟩ := hR.2 (by have := (List.getElem?_eq_some_iff.1 hu).1; omega)
        injection h' with h'
        subst h'
        exact hc j u hu
      obtain ⟨v1, w1, hr, h2, h3, _, h5⟩ := run_append_own_at (P := P) W base t o.type e i0 z size bytes ht hi hz0 hz1 hz2 hzs hsz v n xs hown ad m c news hl hcells h1 (by simp only [maxLen]; omega) hby hbase
      exact ⟨v1, w1, hr, h2, h3, h5⟩
  obtain ⟨v1, w1, hr, hown1, hg, hat⟩ := hrun
  obtain ⟨A1, c1, rfl, _⟩ := ownSlice hown1
  refine wpList_plain hgd fun K hK => ?_
  unfold Oper.wp execOp
  simp only [ho, resolve, invoke, builtin, Sem.run_bind, Sem.run_pure, Result.andThen_ok, List.map_toArray, List.map_cons, List.map_nil, hs, hx, hr]
  exact hK _ _ (h A1 c1 w1 hown1 (Ext.of_grown hg) hat)
end

end Go.Proofs.Ytjnfapkjmgilcaa
