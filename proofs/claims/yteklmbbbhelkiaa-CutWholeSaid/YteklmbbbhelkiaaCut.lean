/- Words of this claim's own: what a cut of a slice leads to. No program in sight. -/
import Derived.Test.YteklmbbbhelkiaaBase
import Derived.Laws.Slices
namespace Go.Proofs.Yteklmbbbhelkiaa
open Go.RowKit

/-! 'xs[l:h]', 'xs[l:]', 'xs[:h]' of elements of one cell, with no case on the capacity: the address is a letter. -/
section
variable {P : Program} (t e : TypeId) {i : TypeInfo} (ht : P.underlying t = some (.slice e)) (hi : P.info? e = some i) (hsz : i.size = 1) (A : Option Addr) (n c : Nat)
/-- What a cut leads to. -/
def CutOf (A A' : Option Addr) (n c lo m : Nat) : Prop :=
  (∀ (w : World) (vs : List Value), vs.length = n → n ≤ c → lo + m ≤ n → Reads w A vs → Reads w A' ((vs.drop lo).take m)) ∧ ∀ ad', A' = some ad' → ∃ ad, A = some ad ∧ ad'.block = ad.block
theorem cutOf_if (lo m : Nat) : CutOf A (if c = lo then A else A.map (·.add lo)) n c lo m := by
  refine ⟨fun w vs hn hc _ h => (h.drop hn lo hc).take m, fun ad' h => ?_⟩
  split at h
  · exact ⟨ad', h, rfl⟩
  · obtain ⟨ad, rfl, h2⟩ := Option.map_eq_some_iff.1 h
    exact ⟨ad, rfl, by rw [← h2, addBlock]⟩
include ht hi hsz
theorem cutLH (kl kh : IntKind) (l h : Int) (lo m : Nat) (hl : l = lo) (hh : h = (lo + m : Nat)) (hc : lo + m ≤ c) :
    ∃ A', (∀ W : World, (Instr.slice t (.slice A n c) (some (.int kl l)) (some (.int kh h)) none).run P W = .ok (.slice A' m (c - lo)) W) ∧ CutOf A A' n c lo m := by
  refine ⟨if c = lo then A else A.map (·.add lo), fun W => ?_, cutOf_if A n c lo m⟩
  have hel : P.elem t = e := by simp [Program.elem, ht]
  have hu : P.underlying t = some (.slice (P.elem t)) := by rw [hel]; exact ht
  subst hl hh
  rw [run_slice_lh W t A n c hu kl kh lo (lo + m : Nat) (by omega) (by omega) (by omega), hel]
  simp [sizeOf, typeInfo, hi, hsz, sliced, Result.andThen]
  omega
theorem cutL (kl : IntKind) (l : Int) (lo : Nat) (hl : l = lo) (hn : lo ≤ n) :
    ∃ A', (∀ W : World, (Instr.slice t (.slice A n c) (some (.int kl l)) none none).run P W = .ok (.slice A' (n - lo) (c - lo)) W) ∧ CutOf A A' n c lo (n - lo) := by
  refine ⟨if c = lo then A else A.map (·.add lo), fun W => ?_, cutOf_if A n c lo _⟩
  have hel : P.elem t = e := by simp [Program.elem, ht]
  have hu : P.underlying t = some (.slice (P.elem t)) := by rw [hel]; exact ht
  subst hl
  rw [run_slice_l W t A n c hu kl lo (by omega) (by omega), hel]
  simp [sizeOf, typeInfo, hi, hsz, sliced, Result.andThen]
end

end Go.Proofs.Yteklmbbbhelkiaa
