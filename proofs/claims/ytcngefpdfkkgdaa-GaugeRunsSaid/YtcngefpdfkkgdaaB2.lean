/- Bounds by powers of package gauge, proved for every value that its statement lets in (the conditions stand in the statements). -/
import Derived.Test.YtcngefpdfkkgdaaGt
namespace Go.Proofs.Ytcngefpdfkkgdaa
open Go.RowKit
/-- The powers. -/
def pw (n : Nat) : List Int := (List.range n).map fun i => if i = 0 then 0 else (2 : Int) ^ (i - 1)
theorem pw_len (n : Nat) : (pw n).length = n := by simp [pw]
theorem pw_one : pw 1 = [0] := rfl
theorem pw_step (n : Nat) (h : 1 ≤ n) : pw (n + 1) = pw n ++ [(2 : Int) ^ (n - 1)] := by
  unfold pw
  rw [List.range_succ, List.map_append]
  simp
  omega
theorem wrap_pw (m : Nat) (h : m ≤ 40) : wrap64 ((2 : Int) ^ m) = 2 ^ m := by
  have : ∀ m : Fin 41, wrap64 ((2 : Int) ^ m.val) = 2 ^ m.val := by decide +kernel
  exact this ⟨m, by omega⟩
theorem powers_bad (n : Int) (w : World) (h : n < 1 ∨ 41 < n) : Calls Try.prog 23 #[.int .i64 n] w fun e w' => e = .returned (.slice none 0 0) ∧ w' = w := by
  have hs : n < 1 ∨ (¬ n < 1 ∧ 41 < n) := by omega
  clear h
  rcases hs with h | ⟨h1, h⟩
  all_goals
    go_enter Try.func23, Try.ntmps23
    go_wp2
    go_ret
    exact ⟨rfl, rfl⟩
set_option maxRecDepth 100000 in
set_option maxHeartbeats 1000000 in
theorem powers_calls (n : Nat) (w : World) (h : 1 ≤ n ∧ n ≤ 41) : Calls Try.prog 23 #[.int .i64 n] w fun e w' => ∃ A c, e = .returned (.slice A n c) ∧ w'.ownsRow w.heap.size 3 1 (.slice A n c) n (iv (pw n)) ∧ Ext N0 w w' := by
  obtain ⟨h1, h2⟩ := h
  have g1 : ¬ (n : Int) < 1 := by omega
  have g2 : ¬ (41 : Int) < n := by omega
  have HE0 := Lib.hid ((Ext.refl N0 w).alloc (.cells #[.int .i64 0] 3))
  have HO0 : Hid ((w.alloc (.cells #[.int .i64 0] 3)).ownsRow w.heap.size 3 1 (.slice (some ⟨w.heap.size, 0, none⟩) 1 1) 1 (iv (pw 1))) := Lib.hid (ownLit w w.heap.size 3 1 #[.int .i64 0] 1 (Nat.le_refl _) (by decide) rfl)
  go_enter Try.func23, Try.ntmps23
  go_wp2_with fail
  go_loopw [3, 4] (fun l i wr => ∃ (j : Nat) (A : Option Addr) (c : Nat), i = .int .i64 j ∧ l = .slice A j c ∧ 1 ≤ j ∧ j ≤ n ∧ Hid (wr.ownsRow w.heap.size 3 1 (.slice A j c) j (iv (pw j))) ∧ Hid (Ext N0 w wr)) (fun _ i _ => n - (intOf i).toNat)
  case atStart => exact ⟨1, _, 1, rfl, rfl, Nat.le_refl _, h1, HO0, HE0⟩
  case round =>
    clear HO0 HE0
    obtain ⟨j, A, c, rfl, rfl, hj1, hjn, HO, HE⟩ := hrel
    by_cases hlt : j < n
    · have hlt' : (j : Int) < n := by omega
      have hs := HE.out.size
      have hv := wrap_pw (j - 1) (by omega)
      have HV := Lib.hid hv
      have hpl := pw_len j
      clear hv
      go_wp2_with (at_builtin; refine wpApp w.heap.size (.tmp 17) (.tmp 21) 22 3 (.int .i64 0) 1 8 rfl rfl Try.underlying22 info3 rfl (by decide) (by decide) (.slice A j c) j (iv (pw j)) (some ⟨wr.heap.size, 0, none⟩) 1 1 [.int .i64 (wrap64 (2 ^ (j - 1)))] rfl rfl (ownKept0 HO.out ((Ext.refl _ _).alloc _)) rfl (litReads wr _ _ (by simp)) (by simp [Value.oneCell']) (by omega) (by simp; omega) ?_; intro A3 c3 w3 ho3 hE3 _; have HO3 := Lib.hid ho3; have HE3 := Lib.hid ((HE.out.alloc (.cells #[.int .i64 (wrap64 (2 ^ (j - 1)))] 3)).trans hE3 (fun x hx => .inr (ownBase HO.out x hx).1)); clear ho3 hE3)
      go_roundw
      case rel => exact ⟨j + 1, A3, c3, by go_num, rfl, by omega, by omega, Lib.hid (by rw [pw_step j hj1, iv_app, ← HV.out]; exact HO3.out), HE3⟩
      case measure => simp only [intOf]; omega
    · have hlt' : ¬ (j : Int) < n := by omega
      obtain rfl : j = n := by omega
      go_wp2
      go_ret
      exact ⟨A, c, rfl, HO.out, HE.out⟩
end Go.Proofs.Ytcngefpdfkkgdaa
