/- Contracts of functions of the package and of its reference, each proved for every value that its statement lets in (the conditions stand in the statements). -/
import Derived.Test.YtnmdgkloehbkcaaProg
import Derived.Test.YtnmdgkloehbkcaaBase
import Derived.Outline
import Derived.BigRegion
import Derived.BigQuiet
import Derived.Deep.QuietTactic
import Derived.StillTailTactics
namespace Go.Proofs.Ytnmdgkloehbkcaa
open Go.RowKit

def adA (p : Int × Int) (c : Int) : Int × Int := ((p.1 + c) % 65521, (p.2 + (p.1 + c) % 65521) % 65521)
def adl (p : Int × Int) (xs : List Int) : Int × Int := xs.foldl adA p

theorem adl_take (p : Int × Int) (xs : List Int) (k : Nat) (h : k < xs.length) : adl p (xs.take (k + 1)) = adA (adl p (xs.take k)) (xs.getD k 0) := by
  unfold adl
  rw [List.take_succ_eq_append_getElem h, List.foldl_append]
  simp [h]

set_option maxHeartbeats 400000 in
theorem add_calls (g T : Nat) (a b : Int) (rest : List Value) (A : Option Addr) (cp : Nat) (xs : List Int) (w : World)
   (ha : 0 ≤ a ∧ a < 65521) (hb : 0 ≤ b ∧ b < 65521) (hx : Bytes xs)
   (hI : w.heap[g]? = some (.cells (Value.int .u32 a :: Value.int .u32 b :: rest).toArray T (0, 0)))
   (hr : Reads w A (ints .u8 xs)) (hA : 0 < xs.length → ∀ ad, A = some ad → ad.block ≠ g) :
    Calls Try.prog 27 #[.pointer (some ⟨g, 0, none⟩), .slice A xs.length cp] w fun e w' => e = .returned (.tuple #[]) ∧ Ext (At g) w w' ∧ w'.heap[g]? = some (.cells (Value.int .u32 (adl (a, b) xs).1 :: Value.int .u32 (adl (a, b) xs).2 :: rest).toArray T (0, 0)) := by
  have hmax := hr.1
  rw [ints_length] at hmax
  have HI := Lib.hid hI
  clear hI
  go_enter Try.func27, Try.ntmps27
  go_wp2
  go_loopw [8] (fun i wr => ∃ (k : Nat) (p : Int × Int), k ≤ xs.length ∧ i = .int .i64 k ∧ Hid (p = adl (a, b) (xs.take k)) ∧ 0 ≤ p.1 ∧ p.1 < 65521 ∧ 0 ≤ p.2 ∧ p.2 < 65521 ∧ Hid (Ext (At g) w wr) ∧ Hid (wr.heap[g]? = some (.cells (Value.int .u32 p.1 :: Value.int .u32 p.2 :: rest).toArray T (0, 0))))
                 (fun i _ => xs.length - (intOf i).toNat)
  case atStart => exact ⟨0, (a, b), Nat.zero_le _, rfl, Lib.hid rfl, ha.1, ha.2, hb.1, hb.2, Lib.hid (Ext.refl _ _), HI⟩
  case round =>
    obtain ⟨k, p, hk, rfl, hp, h1, h2, h3, h4, hE, hB⟩ := hrel
    by_cases hlt : k < xs.length
    · obtain ⟨ad, rfl, hc⟩ := hr.num k hlt
      have hc' := hE.out.cell hc (by rw [addBlock]; exact hA (by omega) ad rfl)
      have hxk := hx.at k hlt
      have c0 := (blkCell hB.out 0).trans rfl
      have c1 := (blkCell hB.out 1).trans rfl
      have f0 := blkFrozen hB.out 0
      have f1 := blkFrozen hB.out 1
      clear hc hr hA hx
      obtain ⟨c, hcc⟩ : ∃ c, xs.getD k 0 = c := ⟨_, rfl⟩
      rw [hcc] at hc' hxk
      have HC := Lib.hid hcc
      clear hcc
      go_wp2
      have hB2 := Lib.hid (blkSet hB.out 0 (.int .u32 ((p.1 + c) % 65521)))
      have hE2 := Lib.hid (hE.out.setCell (p := ⟨g, 0, none⟩) (.inl rfl) (.int .u32 ((p.1 + c) % 65521)))
      generalize hw2 : wr.setCell ⟨g, 0, none⟩ (.int .u32 ((p.1 + c) % 65521)) = w2 at *
      clear hw2 c0 c1 f0 f1 hc'
      have c0 := (blkCell hB2.out 0).trans rfl
      have c1 := (blkCell hB2.out 1).trans rfl
      have f1 := blkFrozen hB2.out 1
      simp at c0 c1
      obtain ⟨a', ha'⟩ : ∃ a', (p.1 + c) % 65521 = a' := ⟨_, rfl⟩
      rw [ha'] at c0 hB2
      have ha2 : 0 ≤ a' ∧ a' < 65521 := by omega
      go_region
      go_wp2
      go_roundw
      case rel =>
        refine ⟨k + 1, ((p.1 + c) % 65521, (p.2 + (p.1 + c) % 65521) % 65521), by omega, by go_num, Lib.hid ?_, by omega, by omega, by omega, by omega, Lib.hid ?_, Lib.hid ?_⟩
        · rw [adl_take _ _ _ hlt, ← hp.out, HC.out]
          rfl
        · exact (hE2.out.setCell (p := ⟨g, 1, none⟩) (.inl rfl) _).drew
        · have := blkSet hB2.out 1 (.int .u32 ((p.2 + a') % 65521))
          subst ha'
          exact this
      case measure => simp [intOf]; omega
    · obtain rfl : k = xs.length := by omega
      go_wp2
      go_end0
      rw [List.take_length] at hp
      exact ⟨rfl, hE.out, by rw [← hp.out]; exact hB.out⟩
end Go.Proofs.Ytnmdgkloehbkcaa
