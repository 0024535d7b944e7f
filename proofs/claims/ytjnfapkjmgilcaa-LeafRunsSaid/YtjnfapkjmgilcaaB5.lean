/- Package leaf: what 'far' reckons, by definition; rows of sixteen numbers in memory; marks of loops over functions (the conditions stand in the statements). -/
import Derived.Test.YtjnfapkjmgilcaaB3
namespace Go.Proofs.Ytjnfapkjmgilcaa
open Go.RowKit
/-- How far the leaves, the spines are. -/
abbrev FS := (Nat → Int) × (Nat → Int)
def upd (f : Nat → Int) (i : Nat) (v : Int) : Nat → Int := fun j => if j = i then v else f j
def lStep (s d : Nat) (L : List Bool) (st : FS) (k : Nat) : FS :=
  if L.getD k false = true then
    (if st.1 (k / s) = d ∧ st.2 (k % s) < 0 then (st.1, upd st.2 (k % s) (d + 1))
     else if st.2 (k % s) = d ∧ st.1 (k / s) < 0 then (upd st.1 (k / s) (d + 1), st.2) else st)
  else st
def passK (s d : Nat) (L : List Bool) (st : FS) : Nat → FS
  | 0 => st
  | k + 1 => lStep s d L (passK s d L st k) k
def farS (s : Nat) (L : List Bool) (x : Nat) : Nat → FS
  | 0 => (fun i => if i = x then 0 else -1, fun _ => -1)
  | d + 1 => passK s d L (farS s L x d) L.length
/-- Sixteen numbers. -/
def Arr (w : World) (b : Nat) (f : Nat → Int) : Prop := ∃ cs : Array Value, w.heap[b]? = some (.cells cs 59 (0, 0)) ∧ cs.size = 16 ∧ ∀ i, i < 16 → cs[i]? = some (.int .i64 (f i))
section
variable {w w' : World} {b : Nat} {f : Nat → Int}
theorem Arr.lt (h : Arr w b f) : b < w.heap.size := by
  obtain ⟨cs, h1, _⟩ := h
  exact blkLt h1
theorem Arr.kept {S : Nat → Prop} (h : Arr w b f) (hE : Ext S w w') (hn : ¬ S b) : Arr w' b f := by
  obtain ⟨cs, h1, h2⟩ := h
  exact ⟨cs, hE.blk h1 hn, h2⟩
theorem Arr.kept0 (h : Arr w b f) (hE : Ext N0 w w') : Arr w' b f := h.kept hE (fun x => x)
theorem Arr.kb {z : Nat} (h : Arr w b f) (k : Kb z w w') : Arr w' b f := by
  obtain ⟨cs, h1, h2⟩ := h
  exact ⟨cs, k.blk h1, h2⟩
theorem Arr.cell (h : Arr w b f) {i : Nat} (hi : i < 16) : w.cell? ⟨b, i, none⟩ = some (.int .i64 (f i)) := by
  obtain ⟨cs, h1, _, h3⟩ := h
  exact (blkCell h1 i).trans (h3 i hi)
theorem Arr.frozen (h : Arr w b f) (i : Nat) : w.frozen? ⟨b, i, none⟩ = false := by
  obtain ⟨cs, h1, _⟩ := h
  exact blkFrozen h1 i
theorem Arr.set (h : Arr w b f) {i : Nat} (hi : i < 16) (v : Int) : Arr (w.setCell ⟨b, i, none⟩ (.int .i64 v)) b (upd f i v) := by
  obtain ⟨cs, h1, h2, h3⟩ := h
  refine ⟨_, blkSet h1 i _, by simpa using h2, fun j hj => ?_⟩
  unfold upd
  by_cases e : j = i
  · subst e
    rw [if_pos rfl, Array.getElem?_setIfInBounds_self_of_lt (by omega)]
  · rw [if_neg e, Array.getElem?_setIfInBounds_ne (fun h => e h.symm)]
    exact h3 j hj
theorem Arr.same {f' : Nat → Int} (h : Arr w b f) (e : ∀ i, i < 16 → f i = f' i) : Arr w b f' := by
  obtain ⟨cs, h1, h2, h3⟩ := h
  exact ⟨cs, h1, h2, fun i hi => by rw [← e i hi]; exact h3 i hi⟩
theorem Arr.far (h : Arr w b f) {p : Addr} (hp : b ≠ p.block) (v : Value) : Arr (w.setCell p v) b f := by
  obtain ⟨cs, h1, h2⟩ := h
  exact ⟨cs, blkFar h1 hp v, h2⟩
theorem Arr.cells (h : Arr w b f) : ∃ c : List Value, c = [.int .i64 (f 0), .int .i64 (f 1), .int .i64 (f 2), .int .i64 (f 3), .int .i64 (f 4), .int .i64 (f 5), .int .i64 (f 6), .int .i64 (f 7), .int .i64 (f 8), .int .i64 (f 9), .int .i64 (f 10), .int .i64 (f 11), .int .i64 (f 12), .int .i64 (f 13), .int .i64 (f 14), .int .i64 (f 15)] ∧ w.heap[b]? = some (.cells c.toArray 59 (0, 0)) := by
  obtain ⟨cs, h1, h2, h3⟩ := h
  refine ⟨_, rfl, ?_⟩
  rw [h1]
  congr 2
  apply Array.ext
  · rw [h2]; rfl
  · intro i h4 h5
    have hi : i < 16 := by omega
    have := h3 i hi
    rw [Array.getElem?_eq_getElem h4] at this
    injection this with this
    rw [this]
    rcases i with _ | _ | _ | _ | _ | _ | _ | _ | _ | _ | _ | _ | _ | _ | _ | _ | i
    all_goals first | rfl | omega
end
/-- The marks that loops over functions leave. -/
def Marks (z B : Nat) : List Deferred → World → Prop
  | [], _ => True
  | d :: ds, W => ∃ D, d = { target := .collected D, args := #[] } ∧ (z ≤ D ∧ D < B) ∧ W.heap[D]? = some (.deferred (some [])) ∧ Marks z D ds W
theorem Marks.mono {z B B' : Nat} : ∀ {ds : List Deferred} {W : World}, Marks z B ds W → B ≤ B' → Marks z B' ds W
  | [], _, _, _ => trivial
  | _ :: _, _, ⟨D, h1, h2, h3⟩, h => ⟨D, h1, ⟨h2.1, by omega⟩, h3⟩
theorem Marks.kept {z B : Nat} : ∀ {ds : List Deferred} {W W' : World} {B' : Nat}, Marks z B' ds W → B' ≤ B → (∀ D, D < B → W.heap[D]? = some (.deferred (some [])) → W'.heap[D]? = some (.deferred (some []))) → Marks z B' ds W'
  | [], _, _, _, _, _, _ => trivial
  | _ :: _, _, _, _, ⟨D, h1, h2, h3, h4⟩, hB, h => ⟨D, h1, h2, h D (by omega) h3, Marks.kept h4 (by omega) h⟩
theorem leavesMarks {P : Program} {fn : Func} {tmps : Array Value} {R : Ending → World → Prop} {z : Nat} : ∀ (ds : List Deferred) (B : Nat) (W : World), Marks z B ds W → (∀ W', Kb z W W' → LeavesIn Fence.wide 0 P fn tmps R [] .returning W') → LeavesInM Fence.wide 0 P fn tmps R ds .returning W
  | [], _, W, _, h => h W ⟨rfl, rfl, rfl, Nat.le_refl _, fun _ _ hk _ => hk⟩
  | d :: ds, B, W, ⟨D, h1, h2, h3, h4⟩, h => by
    subst h1
    refine ⟨by simp, .inl ⟨D, _, rfl, run_takeDeferred h3, leavesMarks (z := z) ds D _ ?_ ?_⟩⟩
    · exact h4.kept (Nat.le_refl _) (fun D' hD' hk => (World.putObj_heap_other (by omega)).trans hk)
    · intro W' hk
      exact h W' ((Kb.put (z := z) (.deferred none) h3 rfl h2.1).trans hk)
end Go.Proofs.Ytjnfapkjmgilcaa
