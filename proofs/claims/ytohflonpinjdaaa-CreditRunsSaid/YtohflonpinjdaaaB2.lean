/- Contracts of functions of package credit and of its law's helpers, each proved for every value that its statement lets in (the conditions stand in the statements). -/
import Derived.Test.YtohflonpinjdaaaB1
namespace Go.Proofs.Ytohflonpinjdaaa
open Go.RowKit

theorem pull_to (g : Nat) (a : Ac) (n k p' : Int) (w : World) (h : IsAc w g a) (ok : a.Ok) (hn : 0 ≤ n ∧ n ≤ 1152921504606846976) (hk : k = max 0 (n - a.p)) (hp : p' = max a.p n) :
    Calls Try.prog 8 #[.pointer (some ⟨g, 0, none⟩), .int .i64 n] w fun e w' => e = .returned (.tuple #[.int .i64 k, .int .i64 0]) ∧ Ext (At g) w w' ∧ IsAc w' g { a with p := p' } := by
  subst hk hp
  exact pull_good g a n w h ok hn
theorem atNew {g : Nat} {w a b : World} (h : Ext N0 w a) (k : Ext (At g) a b) (hg : w.heap.size ≤ g) : Ext N0 w b := h.trans k (fun k hk => .inr (by rw [show k = g from hk]; exact hg))
set_option maxHeartbeats 2000000 in
theorem awake_calls (w : World) : Calls Try.prog 7 #[] w fun e w' => e = .returned (.bool true) ∧ Ext N0 w w' := by
  go_enter Try.func7, Try.ntmps7
  go_wp2_with fail
  refine (new_calls 4 w (by omega)).mono ?_
  rintro e w1 ⟨rfl, hE1, hA1, hs1⟩
  go_wp2_with fail
  refine (pull_to w.heap.size _ 3 3 3 w1 hA1 ⟨by decide, by decide, by decide, by decide, by decide, by decide, by decide⟩ (by omega) (by decide) (by decide)).mono ?_
  rintro e w2 ⟨rfl, hE2, hA2⟩
  go_wp2_with fail
  refine (pull_to w.heap.size _ 1 0 3 w2 hA2 ⟨by decide, by decide, by decide, by decide, by decide, by decide, by decide⟩ (by omega) (by decide) (by decide)).mono ?_
  rintro e w3 ⟨rfl, hE3, hA3⟩
  have ok3 : Ac.Ok ⟨3, 0, 0, 4⟩ := ⟨by decide, by decide, by decide, by decide, by decide, by decide, by decide⟩
  have ok4 : Ac.Ok ⟨3, 2, 0, 4⟩ := ⟨by decide, by decide, by decide, by decide, by decide, by decide, by decide⟩
  have hA3 : IsAc w3 w.heap.size ⟨3, 0, 0, 4⟩ := hA3
  have hS := Lib.hid (spend_calls w.heap.size ⟨3, 0, 0, 4⟩ 2 w3 hA3 ok3)
  have s1 : spendE ⟨3, 0, 0, 4⟩ 2 = 0 := by decide
  have s2 : spendA ⟨3, 0, 0, 4⟩ 2 = ⟨3, 2, 0, 4⟩ := by rfl
  have s3 : spendE ⟨3, 2, 0, 4⟩ 2 = 140 := by decide
  have s4 : spendA ⟨3, 2, 0, 4⟩ 2 = ⟨3, 2, 0, 4⟩ := by rfl
  rw [s1, s2] at hS
  have HE3 := Lib.hid (atNew (atNew hE1 hE2 (Nat.le_refl _)) hE3 (Nat.le_refl _))
  clear s1 s2 hA1 hA2 hA3 hE1 hE2 hE3
  go_wp2_with fail
  refine hS.out.mono ?_
  rintro e w4 ⟨rfl, hE4, hA4⟩
  have HL := Lib.hid (aleft_calls w.heap.size ⟨3, 2, 0, 4⟩ w4 hA4 ok4)
  go_wp2_with fail
  refine HL.out.mono ?_
  rintro e w5 ⟨rfl, m, rfl⟩
  have hA5 : IsAc (w4.drewN m) w.heap.size ⟨3, 2, 0, 4⟩ := hA4
  have hS2 := (spend_calls w.heap.size ⟨3, 2, 0, 4⟩ 2 _ hA5 ok4)
  rw [s3, s4] at hS2
  have HS2 := Lib.hid hS2
  clear hS2 s3 s4
  go_wp2_with fail
  refine HS2.out.mono ?_
  rintro e w6 ⟨rfl, hE6, hA6⟩
  have HM := Lib.hid (may_calls w.heap.size ⟨3, 2, 0, 4⟩ w6 hA6 ok4)
  go_wp2_with fail
  refine HM.out.mono ?_
  rintro e w7 ⟨rfl, m', rfl⟩
  have HF := Lib.hid (free_calls w.heap.size ⟨3, 2, 0, 4⟩ (w6.drewN m') hA6)
  go_wp2_with fail
  refine HF.out.mono ?_
  rintro e w8 ⟨rfl, rfl⟩
  go_wp2
  go_ret
  exact ⟨rfl, (atNew ((atNew HE3.out hE4 (Nat.le_refl _)).drewN m) hE6 (Nat.le_refl _)).drewN m'⟩
/-- An account that nobody made. -/
def NoAc (w : World) (v : Value) : Prop := v = .pointer none ∨ ∃ g, v = .pointer (some ⟨g, 0, none⟩) ∧ w.cell? ⟨g, 4, none⟩ = some (.bool false)
theorem nobody (v : Value) (w : World) (h : NoAc w v) : Calls Try.prog 24 #[v] w fun e w' => e = .returned (.bool true) ∧ w' = w := by
  rcases h with rfl | ⟨g, rfl, h⟩
  · exact none_nil w
  · exact none_calls g false w h
theorem pull_no (v : Value) (n : Int) (w : World) (h : NoAc w v) : Calls Try.prog 8 #[v, .int .i64 n] w fun e w' => e = .returned (.tuple #[.int .i64 0, .int .i64 4]) ∧ w' = w := by
  go_enter Try.func8, Try.ntmps8
  go_wp2_with (go_at_call 24; refine (nobody v w h).mono ?_; rintro e w' ⟨rfl, rfl⟩)
  exact bodyPost_ret (v := .tuple #[.int .i64 0, .int .i64 4]) (by simp [results, Try.results8, go_sem]) rfl ⟨rfl, rfl⟩
theorem spend_no (v : Value) (n : Int) (w : World) (h : NoAc w v) : Calls Try.prog 9 #[v, .int .i64 n] w fun e w' => e = .returned (.int .i64 4) ∧ w' = w := by
  go_enter Try.func9, Try.ntmps9
  go_wp2_with (go_at_call 24; refine (nobody v w h).mono ?_; rintro e w' ⟨rfl, rfl⟩)
  go_ret
  exact ⟨rfl, rfl⟩
theorem take_no (v : Value) (n : Int) (w : World) (h : NoAc w v) : Calls Try.prog 16 #[v, .int .i64 n] w fun e w' => e = .returned (.int .i64 0) ∧ w' = w := by
  go_enter Try.func16, Try.ntmps16
  go_wp2_with (go_at_call 24; refine (nobody v w h).mono ?_; rintro e w' ⟨rfl, rfl⟩)
  go_ret
  exact ⟨rfl, rfl⟩
theorem fork_no (v : Value) (w : World) (h : NoAc w v) : Calls Try.prog 18 #[v] w fun e w' => e = .returned (.pointer none) ∧ w' = w := by
  go_enter Try.func18, Try.ntmps18
  go_wp2_with (go_at_call 24; refine (nobody v w h).mono ?_; rintro e w' ⟨rfl, rfl⟩)
  go_ret
  exact ⟨rfl, rfl⟩
theorem free_no (v : Value) (w : World) (h : NoAc w v) : Calls Try.prog 22 #[v] w fun e w' => e = .returned (.int .i64 0) ∧ w' = w := by
  go_enter Try.func22, Try.ntmps22
  go_wp2_with (go_at_call 24; refine (nobody v w h).mono ?_; rintro e w' ⟨rfl, rfl⟩)
  go_ret
  exact ⟨rfl, rfl⟩
theorem timer_no (v : Value) (w : World) (h : NoAc w v) : Calls Try.prog 15 #[v] w fun e w' => e = .returned (.int .i64 0) ∧ w' = w := by
  go_enter Try.func15, Try.ntmps15
  go_wp2_with (go_at_call 24; refine (nobody v w h).mono ?_; rintro e w' ⟨rfl, rfl⟩)
  go_ret
  exact ⟨rfl, rfl⟩
theorem timed_no (v : Value) (w : World) (h : NoAc w v) : Calls Try.prog 23 #[v] w fun e w' => e = .returned (.int .i64 0) ∧ w' = w := by
  go_enter Try.func23, Try.ntmps23
  go_wp2_with (go_at_call 24; refine (nobody v w h).mono ?_; rintro e w' ⟨rfl, rfl⟩)
  go_ret
  exact ⟨rfl, rfl⟩
theorem pulled_no (v : Value) (w : World) (h : NoAc w v) : Calls Try.prog 11 #[v] w fun e w' => e = .returned (.int .i64 0) ∧ w' = w := by
  go_enter Try.func11, Try.ntmps11
  go_wp2_with (go_at_call 24; refine (nobody v w h).mono ?_; rintro e w' ⟨rfl, rfl⟩)
  go_ret
  exact ⟨rfl, rfl⟩
theorem spent_no (v : Value) (w : World) (h : NoAc w v) : Calls Try.prog 10 #[v] w fun e w' => e = .returned (.int .i64 0) ∧ w' = w := by
  go_enter Try.func10, Try.ntmps10
  go_wp2_with (go_at_call 24; refine (nobody v w h).mono ?_; rintro e w' ⟨rfl, rfl⟩)
  go_ret
  exact ⟨rfl, rfl⟩
theorem left_no (v : Value) (w : World) (h : NoAc w v) : Calls Try.prog 12 #[v] w fun e w' => e = .returned (.int .i64 0) ∧ w' = w := by
  go_enter Try.func12, Try.ntmps12
  go_wp2_with (go_at_call 24; refine (nobody v w h).mono ?_; rintro e w' ⟨rfl, rfl⟩)
  go_ret
  exact ⟨rfl, rfl⟩
theorem may_no (v : Value) (w : World) (h : NoAc w v) : Calls Try.prog 21 #[v] w fun e w' => e = .returned (.bool false) ∧ w' = w := by
  go_enter Try.func21, Try.ntmps21
  go_wp2_with (go_at_call 12; refine (left_no v w h).mono ?_; rintro e w' ⟨rfl, rfl⟩)
  go_ret
  exact ⟨rfl, rfl⟩
end Go.Proofs.Ytohflonpinjdaaa
