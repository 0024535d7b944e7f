/- The walk of the law BackoffNobody: called with any values that fit its parameters, it returns true and nothing that was in memory before has changed. No other condition. -/
import Derived.Test.YtaafmlbgldnkiaaB5
namespace Go.Proofs.Ytaafmlbgldnkiaa
open Go.RowKit
/-- The two that nobody made. -/
def Two (L : Nat) (W : World) : Prop := ∀ k : Nat, k < 2 → ∃ v, W.cell? ⟨L, k, none⟩ = some v ∧ NoTm W v
namespace backoffNobody
set_option maxRecDepth 100000 in
set_option maxHeartbeats 2000000 in
theorem walk (a0 : Bool) (w : World) :
    Calls Try.prog 4 #[.bool a0] w fun e w' => e = .returned (.bool true) ∧ Below w.heap.size w w' := by
  go_enter Try.func4, Try.ntmps4
  go_wp2_with fail
  obtain ⟨W, hW⟩ : ∃ W, ((w.alloc (.cells #[.int .i64 0, .int .i64 0, .int .i64 0, .int .i64 0, .bool false] 45)).alloc (.cells #[.pointer none, .pointer (some ⟨w.heap.size, 0, none⟩)] 23)) = W := ⟨_, rfl⟩
  have hE : Ext N0 w W := by rw [← hW]; exact ((Ext.refl _ _).alloc _).alloc _
  have hA : W.heap[w.heap.size]? = some (.cells #[.int .i64 0, .int .i64 0, .int .i64 0, .int .i64 0, .bool false] 45 (0, 0)) := by rw [← hW]; exact blkAlloc (blkNew _ _) _
  have hL : W.heap[w.heap.size + 1]? = some (.cells #[.pointer none, .pointer (some ⟨w.heap.size, 0, none⟩)] 23 (0, 0)) := by rw [← hW]; exact blkNewG _ _ (by simp)
  have hv : ∀ k : Nat, k < 2 → ∃ v, W.cell? ⟨w.heap.size + 1, k, none⟩ = some v ∧ NoTm W v := by
    intro k hk
    obtain rfl | rfl : k = 0 ∨ k = 1 := by omega
    · exact ⟨_, (blkCell hL 0).trans rfl, .inl rfl⟩
    · exact ⟨_, (blkCell hL 1).trans rfl, .inr ⟨_, rfl, (blkCell hA 0).trans rfl⟩⟩
  rw [hW]
  have HV : Hid (Two (w.heap.size + 1) W) := Lib.hid hv
  have HE := Lib.hid hE
  clear hW hE hA hL hv
  go_loopw [11] (fun i wr => ∃ k : Nat, k ≤ 2 ∧ i = .int .i64 k ∧ wr = W) (fun i _ => 2 - (intOf i).toNat)
  case atStart => exact ⟨0, by omega, rfl, rfl⟩
  case round =>
    obtain ⟨k, hk, rfl, rfl⟩ := hrel
    by_cases hlt : k < 2
    · obtain ⟨v, hc, hn⟩ := HV.out k hlt
      have HN := Lib.hid hn
      clear hn
      have hlt' : (k : Int) < 2 := by omega
      go_wp2_with (first
        | (go_at_call 8; refine (run_no v a0 _ HN.out).mono ?_; rintro e w1 ⟨rfl, rfl⟩)
        | (go_at_call 10; refine (again_no v _ HN.out).mono ?_; rintro e w1 ⟨rfl, rfl⟩)
        | (go_at_call 12; refine (reset_no v _ HN.out).mono ?_; rintro e w1 ⟨rfl, rfl⟩)
        | (go_at_call 16; refine (tick_no v _ HN.out).mono ?_; rintro e w1 ⟨rfl, rfl⟩)
        | (go_at_call 19; refine (running_no v _ HN.out).mono ?_; rintro e w1 ⟨rfl, rfl⟩)
        | (go_at_call 17; refine (wait_no v _ HN.out).mono ?_; rintro e w1 ⟨rfl, rfl⟩)
        | (go_at_call 18; refine (left_no v _ HN.out).mono ?_; rintro e w1 ⟨rfl, rfl⟩)
        | (go_at_call 14; refine (fork_no v _ HN.out).mono ?_; rintro e w1 ⟨rfl, rfl⟩))
      go_roundw
      case rel => exact ⟨k + 1, by omega, by go_num, trivial⟩
      case measure => simp [intOf]; omega
    · go_wp2_with (go_at_call 7; refine (awake_calls _).mono ?_; rintro e w8 ⟨rfl, hE8⟩)
      go_ret
      exact ⟨rfl, (HE.out.then0 hE8).below⟩
end backoffNobody
end Go.Proofs.Ytaafmlbgldnkiaa
