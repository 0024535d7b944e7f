/- The walk of the law CreditNobody: called with any values that fit its parameters, it returns true and nothing that was in memory before has changed. No other condition. -/
import Derived.Test.YtohflonpinjdaaaB2
namespace Go.Proofs.Ytohflonpinjdaaa
open Go.RowKit
/-- The two that nobody made. -/
def Two (L : Nat) (W : World) : Prop := ∀ k : Nat, k < 2 → ∃ v, W.cell? ⟨L, k, none⟩ = some v ∧ NoAc W v
namespace creditNobody
set_option maxRecDepth 100000 in
set_option maxHeartbeats 2000000 in
theorem walk (a0 : Int) (w : World) (w0 : (Lit.int .i64 a0).wf = true) :
    Calls Try.prog 5 #[.int .i64 a0] w fun e w' => e = .returned (.bool true) ∧ Below w.heap.size w w' := by
  clear w0
  go_enter Try.func5, Try.ntmps5
  go_wp2_with fail
  obtain ⟨W, hW⟩ : ∃ W, ((w.alloc (.cells #[.int .i64 0, .int .i64 0, .int .i64 0, .int .i64 0, .bool false] 54)).alloc (.cells #[.pointer none, .pointer (some ⟨w.heap.size, 0, none⟩)] 24)) = W := ⟨_, rfl⟩
  have hE : Ext N0 w W := by rw [← hW]; exact ((Ext.refl _ _).alloc _).alloc _
  have hA : W.heap[w.heap.size]? = some (.cells #[.int .i64 0, .int .i64 0, .int .i64 0, .int .i64 0, .bool false] 54 (0, 0)) := by rw [← hW]; exact blkAlloc (blkNew _ _) _
  have hL : W.heap[w.heap.size + 1]? = some (.cells #[.pointer none, .pointer (some ⟨w.heap.size, 0, none⟩)] 24 (0, 0)) := by rw [← hW]; exact blkNewG _ _ (by simp)
  have hv : ∀ k : Nat, k < 2 → ∃ v, W.cell? ⟨w.heap.size + 1, k, none⟩ = some v ∧ NoAc W v := by
    intro k hk
    obtain rfl | rfl : k = 0 ∨ k = 1 := by omega
    · exact ⟨_, (blkCell hL 0).trans rfl, .inl rfl⟩
    · exact ⟨_, (blkCell hL 1).trans rfl, .inr ⟨_, rfl, (blkCell hA 4).trans rfl⟩⟩
  rw [hW]
  have HV : Hid (Two (w.heap.size + 1) W) := Lib.hid hv
  have HE := Lib.hid hE
  clear hW hE hA hL hv
  go_loopw [5] (fun i wr => ∃ k : Nat, k ≤ 2 ∧ i = .int .i64 k ∧ Hid (Two (w.heap.size + 1) wr) ∧ Hid (Ext N0 w wr)) (fun i _ => 2 - (intOf i).toNat)
  case atStart => exact ⟨0, by omega, rfl, HV, HE⟩
  case round =>
    clear HV HE
    obtain ⟨k, hk, rfl, HV, HE⟩ := hrel
    by_cases hlt : k < 2
    · obtain ⟨v, hc, hn⟩ := HV.out k hlt
      have HN := Lib.hid hn
      clear hn
      have hlt' : (k : Int) < 2 := by omega
      go_wp2_with (go_at_call 8; refine (pull_no v a0 _ HN.out).mono ?_; rintro e w1 ⟨rfl, rfl⟩)
      go_quiet (first
        | (go_at_call 9; exact Calls.quiet_of_same (spend_no v a0 _ HN.out))
        | (go_at_call 21; exact Calls.quiet_of_same (may_no v _ HN.out))
        | (go_at_call 16; exact Calls.quiet_of_same (take_no v a0 _ HN.out))
        | (go_at_call 22; exact Calls.quiet_of_same (free_no v _ HN.out))
        | (go_at_call 15; exact Calls.quiet_of_same (timer_no v _ HN.out))
        | (go_at_call 23; exact Calls.quiet_of_same (timed_no v _ HN.out))
        | (go_at_call 11; exact Calls.quiet_of_same (pulled_no v _ HN.out))
        | (go_at_call 10; exact Calls.quiet_of_same (spent_no v _ HN.out))
        | (go_at_call 12; exact Calls.quiet_of_same (left_no v _ HN.out))
        | (go_at_call 18; exact Calls.quiet_of_same (fork_no v _ HN.out)))
      have HV' : Hid (Two (w.heap.size + 1) (w1.drewN nq)) := HV
      have HE' : Hid (Ext N0 w (w1.drewN nq)) := Lib.hid (HE.out.drewN nq)
      go_wp2
      go_roundw
      case rel => exact ⟨k + 1, by omega, by go_num, HV', HE'⟩
      case measure => simp [intOf]; omega
    · go_wp2_with (go_at_call 7; refine (awake_calls _).mono ?_; rintro e w8 ⟨rfl, hE8⟩)
      go_ret
      exact ⟨rfl, (HE.out.then0 hE8).below⟩
end creditNobody
end Go.Proofs.Ytohflonpinjdaaa
