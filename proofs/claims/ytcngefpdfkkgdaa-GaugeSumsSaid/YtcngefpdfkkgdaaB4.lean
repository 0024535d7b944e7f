/- What is told to be above a number is never more than is: plain law; and the document's powers. -/
import Derived.Test.YtcngefpdfkkgdaaGB5
import Derived.Test.YtcngefpdfkkgdaaB2
import Derived.Test.YtcngefpdfkkgdaaB3
namespace Go.Proofs.Ytcngefpdfkkgdaa
open Go.RowKit
def aheadP (bs : List Int) (t : Int) (j : Nat) : Bool := match ((-1 : Int) :: bs)[j]? with | some a => decide (max t (-1) ≤ a) | none => false
theorem abv_eq (bs L : List Int) (t : Int) : ∀ i, i ≤ bs.length + 1 → abvB bs (cnt bs L) t i = (L.filter fun x => decide (bkt bs x < i) && aheadP bs t (bkt bs x)).length := by
  intro i
  induction i with
  | zero =>
    intro _
    have : (L.filter fun x => decide (bkt bs x < 0) && aheadP bs t (bkt bs x)) = [] := by simp
    rw [this]
    rfl
  | succ i ih =>
    intro hi
    obtain ⟨a, ha⟩ : ∃ a, ((-1 : Int) :: bs)[i]? = some a := ⟨_, List.getElem?_eq_getElem (by simp; omega)⟩
    rw [abv_stepB ha (cnt_get bs L (by omega)), ih (by omega)]
    have hadd := filt_add (fun x => decide (bkt bs x < i) && aheadP bs t (bkt bs x)) (fun x => decide (bkt bs x = i) && aheadP bs t i) (fun x => decide (bkt bs x < i + 1) && aheadP bs t (bkt bs x)) (fun x => by
      by_cases h1 : bkt bs x = i
      · simp [h1]
      · have : decide (bkt bs x < i + 1) = decide (bkt bs x < i) := by
          by_cases h2 : bkt bs x < i
          · simp [h2]; omega
          · simp [h2]; omega
        rw [this]
        simp [h1]) (fun x h => by
      obtain ⟨h1, h2⟩ := h
      simp at h1 h2
      omega) L
    rw [hadd]
    have hap : aheadP bs t i = decide (max t (-1) ≤ a) := by unfold aheadP; rw [ha]
    by_cases hc : max t (-1) ≤ a
    · rw [if_pos hc, hap]
      simp only [decide_eq_true hc, Bool.and_true]
      have : (fun x => decide (bkt bs x = i)) = fun x => bkt bs x == i := by
        funext x
        by_cases h : bkt bs x = i <;> simp [h]
      rw [this]
      omega
    · rw [if_neg hc, hap]
      simp only [decide_eq_false hc, Bool.and_false]
      rw [show (L.filter fun _ => false) = [] from List.filter_eq_nil_iff.2 (by simp)]
      simp
theorem abv_count (bs L : List Int) (t : Int) (ht : 0 ≤ t) : abvB bs (cnt bs L) t (bs.length + 1) ≤ (L.filter fun x => decide (t < x)).length := by
  rw [abv_eq bs L t _ (Nat.le_refl _)]
  have := filt_le (fun x => decide (bkt bs x < bs.length + 1) && aheadP bs t (bkt bs x)) (fun x => decide (t < x)) (fun x h => by
    simp only [Bool.and_eq_true] at h
    have h2 := h.2
    unfold aheadP at h2
    cases hb : bkt bs x with
    | zero =>
      rw [hb] at h2
      simp at h2
      omega
    | succ j =>
      rw [hb] at h2
      cases hg : bs[j]? with
      | none => simp [hg] at h2
      | some a =>
        have hlo := bkt_lo x bs j a (by omega) hg
        simp [hg] at h2
        simp
        omega) L
  omega
theorem pw_may : ∀ m : Nat, 1 ≤ m → m ≤ 20 → mayB (pw m) = true := by
  have : ∀ m : Fin 21, 1 ≤ m.val → mayB (pw m.val) = true := by decide +kernel
  exact fun m h1 h2 => this ⟨m, by omega⟩ h1
set_option maxRecDepth 100000 in
set_option maxHeartbeats 1000000 in
theorem rpowers_calls (n : Nat) (w : World) (h : 1 ≤ n ∧ n ≤ 41) : Calls Try.prog 25 #[.int .i64 n] w fun e w' => ∃ A c, e = .returned (.slice A n c) ∧ w'.ownsRow w.heap.size 3 1 (.slice A n c) n (iv (pw n)) ∧ Ext N0 w w' := by
  obtain ⟨h1, h2⟩ := h
  have g1 : ¬ (n : Int) < 1 := by omega
  have g2 : ¬ (41 : Int) < n := by omega
  have HE0 := Lib.hid ((Ext.refl N0 w).alloc (.cells #[.int .i64 0] 3))
  have HO0 : Hid ((w.alloc (.cells #[.int .i64 0] 3)).ownsRow w.heap.size 3 1 (.slice (some ⟨w.heap.size, 0, none⟩) 1 1) 1 (iv (pw 1))) := Lib.hid (ownLit w w.heap.size 3 1 #[.int .i64 0] 1 (Nat.le_refl _) (by decide) rfl)
  go_enter Try.func25, Try.ntmps25
  go_wp2_with fail
  go_loopw [3, 4] (fun l i wr => ∃ (j : Nat) (A : Option Addr) (c : Nat), i = .int .i64 j ∧ l = .slice A j c ∧ 1 ≤ j ∧ j ≤ n ∧ Hid (wr.ownsRow w.heap.size 3 1 (.slice A j c) j (iv (pw j))) ∧ Hid (Ext N0 w wr)) (fun _ i _ => n - (intOf i).toNat)
  case atStart => exact ⟨1, _, 1, rfl, rfl, Nat.le_refl _, h1, HO0, HE0⟩
  case round =>
    clear HO0 HE0
    obtain ⟨j, A, c, rfl, rfl, hj1, hjn, HO, HE⟩ := hrel
    by_cases hlt : j < n
    · have hlt' : (j : Int) < n := by omega
      have hs := HE.out.size
      have hv := wrap_pw (j - 1) (by omega)
      have HV := Lib.hid hv
      have hpl := pw_len j
      clear hv
      go_wp2_with (at_builtin; refine wpApp w.heap.size (.tmp 17) (.tmp 22) 22 3 (.int .i64 0) 1 8 rfl rfl Try.underlying22 info3 rfl (by decide) (by decide) (.slice A j c) j (iv (pw j)) (some ⟨wr.heap.size, 0, none⟩) 1 1 [.int .i64 (wrap64 (2 ^ (j - 1)))] rfl rfl (ownKept0 HO.out ((Ext.refl _ _).alloc _)) rfl (litReads wr _ _ (by simp)) (by simp [Value.oneCell']) (by omega) (by simp; omega) ?_; intro A3 c3 w3 ho3 hE3 _; have HO3 := Lib.hid ho3; have HE3 := Lib.hid ((HE.out.alloc (.cells #[.int .i64 (wrap64 (2 ^ (j - 1)))] 3)).trans hE3 (fun x hx => .inr (ownBase HO.out x hx).1)); clear ho3 hE3)
      go_roundw
      case rel => exact ⟨j + 1, A3, c3, by go_num, rfl, by omega, by omega, Lib.hid (by rw [pw_step j hj1, iv_app, ← HV.out]; exact HO3.out), HE3⟩
      case measure => simp only [intOf]; omega
    · have hlt' : ¬ (j : Int) < n := by omega
      obtain rfl : j = n := by omega
      go_wp2
      go_ret
      exact ⟨A, c, rfl, HO.out, HE.out⟩
end Go.Proofs.Ytcngefpdfkkgdaa
