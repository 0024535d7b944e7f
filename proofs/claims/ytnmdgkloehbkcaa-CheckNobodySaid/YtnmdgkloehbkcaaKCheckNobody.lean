/- The walk of the law CheckNobody: called with any values that fit its parameters, it returns true and nothing that was in memory before has changed. No other condition. -/
import Derived.Test.YtnmdgkloehbkcaaKCheckTurned
namespace Go.Proofs.Ytnmdgkloehbkcaa
open Go.RowKit
/-- A sum that nobody made: nil, or all zero. -/
def Nobody (w : World) (p : Option Addr) : Prop := p = none ∨ ∃ g, p = some ⟨g, 0, none⟩ ∧ w.cell? ⟨g, 3, none⟩ = some (.bool false)
theorem Nobody.none_ {w : World} {p : Option Addr} (h : Nobody w p) : Calls Try.prog 31 #[.pointer p] w fun e w' => e = .returned (.bool true) ∧ w' = w := by
  rcases h with rfl | ⟨g, rfl, hc⟩
  · exact none_nil w
  · exact none_calls g false w hc
theorem Nobody.write {w : World} {p : Option Addr} (h : Nobody w p) (A : Option Addr) (n c : Nat) : Calls Try.prog 22 #[.pointer p, .slice A n c] w fun e w' => e = .returned (.int .i64 0) ∧ w' = w := by
  have H := Lib.hid h.none_
  clear h
  go_enter Try.func22, Try.ntmps22
  go_wp2_with (go_at_call 31; refine H.out.mono ?_; rintro e w' ⟨rfl, rfl⟩)
  go_ret
  exact ⟨rfl, rfl⟩
theorem Nobody.sum {w : World} {p : Option Addr} (h : Nobody w p) : Calls Try.prog 23 #[.pointer p] w fun e w' => e = .returned (.int .u32 0) ∧ w' = w := by
  have H := Lib.hid h.none_
  clear h
  go_enter Try.func23, Try.ntmps23
  go_wp2_with (go_at_call 31; refine H.out.mono ?_; rintro e w' ⟨rfl, rfl⟩)
  go_ret
  exact ⟨rfl, rfl⟩
theorem Nobody.len {w : World} {p : Option Addr} (h : Nobody w p) : Calls Try.prog 24 #[.pointer p] w fun e w' => e = .returned (.int .i64 0) ∧ w' = w := by
  have H := Lib.hid h.none_
  clear h
  go_enter Try.func24, Try.ntmps24
  go_wp2_with (go_at_call 31; refine H.out.mono ?_; rintro e w' ⟨rfl, rfl⟩)
  go_ret
  exact ⟨rfl, rfl⟩
theorem Nobody.fork {w : World} {p : Option Addr} (h : Nobody w p) : Calls Try.prog 25 #[.pointer p] w fun e w' => e = .returned (.pointer none) ∧ w' = w := by
  have H := Lib.hid h.none_
  clear h
  go_enter Try.func25, Try.ntmps25
  go_wp2_with (go_at_call 31; refine H.out.mono ?_; rintro e w' ⟨rfl, rfl⟩)
  go_ret
  exact ⟨rfl, rfl⟩
theorem Nobody.drewN {w : World} {p : Option Addr} (h : Nobody w p) (n : Nat) : Nobody (w.drewN n) p := h
namespace checkNobody
set_option maxHeartbeats 2000000 in
theorem walk (a0 : Option Addr) (len0 cap0 : Nat) (z0 : List Int) (w : World) (w0 : IsRow .u8 w a0 len0 cap0 z0) :
    Calls Try.prog 7 #[.slice a0 len0 cap0] w fun e w' => e = .returned (.bool true) ∧ Below w.heap.size w w' := by
  obtain ⟨bs, hlen, hr, hb, hlc, hcm⟩ := cutReads w0
  clear w0 hr hb
  go_enter Try.func7, Try.ntmps7
  go_wp2
  go_loopw [5] (fun i wr => ∃ k : Nat, k ≤ 2 ∧ i = .int .i64 k ∧ Hid (Ext N0 w wr) ∧ Hid (wr.heap[w.heap.size]? = some (.cells #[.int .u32 0, .int .u32 0, .int .i64 0, .bool false] 41 (0, 0))) ∧ Hid (wr.heap[w.heap.size + 1]? = some (.cells #[.pointer none, .pointer (some ⟨w.heap.size, 0, none⟩)] 37 (0, 0))))
                 (fun i _ => 2 - (intOf i).toNat)
  case atStart => exact ⟨0, by omega, rfl, Lib.hid (((Ext.refl _ _).alloc _).alloc _), Lib.hid (blkAlloc (blkNew _ _) _), Lib.hid (blkNewG _ _ (by simp))⟩
  case round =>
    obtain ⟨k, hk, rfl, hE, hB, hC⟩ := hrel
    by_cases hlt : k < 2
    · obtain ⟨p, hp, hN⟩ : ∃ p, wr.cell? ⟨w.heap.size + 1, k, none⟩ = some (.pointer p) ∧ Nobody wr p := by
        rw [blkCell hC.out]
        obtain rfl | rfl : k = 0 ∨ k = 1 := by omega
        · exact ⟨none, rfl, .inl rfl⟩
        · exact ⟨_, rfl, .inr ⟨_, rfl, (blkCell hB.out 3).trans rfl⟩⟩
      have HN := Lib.hid hN
      clear hN
      have i1 : (k : Int) < 2 := by omega
      go_wp2
      go_quiet (first
        | (go_at_call 9; exact Calls.quiet_of_same (cut_calls a0 len0 cap0 _ hlc hcm))
        | (go_at_call 22; exact Calls.quiet_of_same ((HN.out.drewN _).write _ _ _))
        | (go_at_call 23; exact Calls.quiet_of_same (HN.out.drewN _).sum)
        | (go_at_call 24; exact Calls.quiet_of_same (HN.out.drewN _).len)
        | (go_at_call 25; exact Calls.quiet_of_same (HN.out.drewN _).fork))
      clear hp i1
      go_wp2
      go_roundw
      case rel => exact ⟨k + 1, by omega, by go_num, Lib.hid (hE.out.drewN _), hB, hC⟩
      case measure => simp [intOf]; omega
    · obtain rfl : k = 2 := by omega
      go_wp2_with (go_at_call 10; refine (awake_calls _).mono ?_; rintro e w9 ⟨rfl, hE9⟩)
      go_ret
      exact ⟨rfl, (hE.out.then0 hE9).below⟩
end checkNobody
end Go.Proofs.Ytnmdgkloehbkcaa
