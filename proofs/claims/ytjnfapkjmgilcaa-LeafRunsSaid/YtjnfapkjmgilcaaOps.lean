/- Words of this claim's own: a slice of structs that came in, and a string. No program in sight. -/
import Derived.Test.YtjnfapkjmgilcaaBase
import Derived.Deep.Slices
import Derived.ChangeSame
namespace Go.Proofs.Ytjnfapkjmgilcaa
open Go.RowKit Go.ChangeShapes Go.WideShapes
section
variable {P : Program} {H : Type} {enc : TypeId × Value → H}
theorem openRows {w : World} {t e : TypeId} (n : Nat) (ht : P.underlying t = some (.slice e)) (hn : P.cellsOf e = n) {A : Option Addr} {len cap : Nat} {x : DataW H × List MemPlace}
    (h : ∃ m, DataW.trod enc P w 0 (fun _ => true) true m t (Value.slice A len cap).cells.toList = some x) :
    len ≤ cap ∧ cap ≤ 9223372036854775807 ∧ (0 < len → ∃ a, A = some a ∧ ∀ i, i < len → ∃ (cs' : List Value) (m : Nat) (y : DataW H × List MemPlace), cs'.length = n ∧ (∀ j, j < n → w.cell? ((a.add (i * n)).add j) = cs'[j]?) ∧ DataW.trod enc P w 0 (fun _ => true) true m e cs' = some y) := by
  obtain ⟨f, hf⟩ := h
  rcases Deep.open_slice ht hf with ⟨hcs, _⟩ | ⟨a, l, c, m, k, D, Pl, hcs, _, hl, hm, hmm, _, hel⟩
  · simp [Value.cells] at hcs
    obtain ⟨rfl, rfl, rfl⟩ := hcs
    exact ⟨by omega, by omega, fun h => absurd h (by omega)⟩
  · simp [Value.cells] at hcs
    obtain ⟨rfl, rfl, rfl⟩ := hcs
    simp only [maxLen] at hm
    refine ⟨hl, hm, fun _ => ⟨a, rfl, fun i hi => ?_⟩⟩
    obtain ⟨cs', h1, h2⟩ := hel i (by rw [hmm]; simp; omega)
    rw [hn] at h1
    obtain ⟨_, h3, h4⟩ := World.cells?_some h1
    exact ⟨cs', k, _, h3, h4, h2⟩
/-- The cell of a field of one cell. -/
theorem fieldCell {w : World} {a : Addr} {n : Nat} {cs : List Value} (_hl : cs.length = n) (hc : ∀ j, j < n → w.cell? (a.add j) = cs[j]?) (j : Nat) (hj : j < n) {v : Value} (h : (cs.drop j).take 1 = [v]) : w.cell? (a.add j) = some v := by
  rw [hc j hj]
  have : cs[j]? = ((cs.drop j).take 1)[0]? := by simp
  rw [this, h]
  rfl
end
end Go.Proofs.Ytjnfapkjmgilcaa
