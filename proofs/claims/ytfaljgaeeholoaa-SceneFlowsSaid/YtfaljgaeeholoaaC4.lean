/- Each pattern of package scene beside the document's: the same flows, the same number of an error, for every value. -/
import Derived.Test.YtfaljgaeeholoaaC3
namespace Go.Proofs.Ytfaljgaeeholoaa
open Go.RowKit
theorem in_yes (n l h : Int) (w : World) (hc : l ≤ n ∧ n ≤ h) : Calls Try.prog 20 #[.int .i64 n, .int .i64 l, .int .i64 h] w fun e w' => e = .returned (.bool true) ∧ w' = w := by
  have := in_calls n l h w
  rwa [decide_eq_true hc] at this
theorem in_no (n l h : Int) (w : World) (hc : ¬ (l ≤ n ∧ n ≤ h)) : Calls Try.prog 20 #[.int .i64 n, .int .i64 l, .int .i64 h] w fun e w' => e = .returned (.bool false) ∧ w' = w := by
  have := in_calls n l h w
  rwa [decide_eq_false hc] at this
theorem in_any (n l h : Int) (w : World) : Calls Try.prog 20 #[.int .i64 n, .int .i64 l, .int .i64 h] w fun e w' => ∃ d, e = .returned (.bool d) ∧ w' = w := (in_calls n l h w).mono fun _ _ h => ⟨_, h.1, h.2⟩
set_option maxRecDepth 100000 in
theorem rand_bad (seed h n most : Int) (w : World) (hb : ¬ (RightP h most ∧ 0 ≤ n ∧ n ≤ 1000)) : Calls Try.prog 12 #[.int .u64 seed, .int .i64 h, .int .i64 n, .int .i64 most] w (Bad w) := by
  have HR := right_calls h most w
  unfold Bad
  by_cases hR : RightP h most
  · rw [decide_eq_true hR] at HR
    have HR2 := Lib.hid HR
    have HI := Lib.hid (in_no n 0 1000 w (fun x => hb ⟨hR, x⟩))
    clear HR hR hb
    go_enter Try.func12, Try.ntmps12
    go_wp2_with (first | (go_at_call 15; refine HR2.out.mono ?_; rintro e w' ⟨rfl, hw⟩; subst hw) | (go_at_call 20; refine HI.out.mono ?_; rintro e w' ⟨rfl, hw⟩; subst hw))
    refine bodyPost_ret (v := .tuple #[.slice none 0 0, .int .i64 330]) (by simp [results, Try.results12, go_sem]) rfl ⟨rfl, Ext.refl _ _⟩
  · rw [decide_eq_false hR] at HR
    have HR2 := Lib.hid HR
    clear HR hR hb
    go_enter Try.func12, Try.ntmps12
    go_wp2_with (go_at_call 15; refine HR2.out.mono ?_; rintro e w' ⟨rfl, hw⟩; subst hw)
    refine bodyPost_ret (v := .tuple #[.slice none 0 0, .int .i64 330]) (by simp [results, Try.results12, go_sem]) rfl ⟨rfl, Ext.refl _ _⟩
set_option maxRecDepth 100000 in
theorem rrand_bad (seed h n most : Int) (w : World) (hb : ¬ (RightP h most ∧ 0 ≤ n ∧ n ≤ 1000)) : Calls Try.prog 13 #[.int .u64 seed, .int .i64 h, .int .i64 n, .int .i64 most] w (Bad w) := by
  have hs : ¬ (2 ≤ h ∧ h ≤ 8) ∨ ((2 ≤ h ∧ h ≤ 8) ∧ ¬ (1 ≤ most ∧ most ≤ 65536)) ∨ ((2 ≤ h ∧ h ≤ 8) ∧ (1 ≤ most ∧ most ≤ 65536) ∧ ¬ (0 ≤ n ∧ n ≤ 1000)) := by
    unfold RightP at hb
    omega
  unfold Bad
  clear hb
  rcases hs with h1 | ⟨h1, h2⟩ | ⟨h1, h2, h3⟩
  all_goals
    go_enter Try.func13, Try.ntmps13
    go_wp2_with (first | (go_at_call 22; refine (within_yes _ _ _ _ ?hc).mono ?_; (case hc => omega); rintro e w' ⟨rfl, rfl⟩) | (go_at_call 22; refine (within_no _ _ _ _ ?hc).mono ?_; (case hc => omega); rintro e w' ⟨rfl, rfl⟩))
    refine bodyPost_ret (v := .tuple #[.slice none 0 0, .int .i64 330]) (by simp [results, Try.results13, go_sem]) rfl ⟨rfl, Ext.refl _ _⟩
set_option maxRecDepth 100000 in
theorem incast_bad2 (h dst bytes : Int) (w : World) (hb : ¬ RightP h bytes) : Calls Try.prog 7 #[.int .i64 h, .int .i64 dst, .int .i64 bytes] w (Bad w) := by
  unfold Bad
  have HS := Lib.hid (some_badI h bytes w.heap.size (w.alloc (.cells #[.int .i64 dst] 3)) hb)
  clear hb
  go_enter Try.func7, Try.ntmps7
  go_wp2_with fail
  refine (in_any _ _ _ _).mono ?_
  rintro e w' ⟨d, rfl, rfl⟩
  cases d
  · go_wp2
    refine bodyPost_ret (v := .tuple #[.slice none 0 0, .int .i64 330]) (by simp [results, Try.results7, go_sem]) rfl ⟨rfl, (Ext.refl _ _).alloc _⟩
  · go_wp2_with (go_at_call 18; refine HS.out.mono ?_; rintro e w' ⟨rfl, hE⟩)
    refine bodyPost_ret (v := .tuple #[.slice none 0 0, .int .i64 330]) (by simp [results, Try.results7, go_sem]) rfl ⟨rfl, ((Ext.refl _ _).alloc _).then0 hE⟩
/-- A row of flows and a number. -/
def GivesE (t : TypeId) (L : List Fl) (er : Int) (w : World) (e : Ending) (w' : World) : Prop := ∃ A c, e = .returned (.tuple #[.slice A L.length c, .int .i64 er]) ∧ IsFl w.heap.size w' t A c L ∧ Ext N0 w w'
theorem GivesF.e {t : TypeId} {L : List Fl} {w : World} {e : Ending} {w' : World} (h : GivesF t L w e w') : GivesE t L 0 w e w' := h
theorem Bad.e {t : TypeId} {w : World} {e : Ending} {w' : World} (h : Bad w e w') : GivesE t [] 330 w e w' := ⟨none, 0, h.1, ownNil _ _ _ _, h.2⟩
def Both (p : World → (Ending → World → Prop) → Prop) (q : World → (Ending → World → Prop) → Prop) : Prop := ∃ (L : List Fl) (er : Int), L.length ≤ 2000 ∧ (∀ w, p w (GivesE 28 L er w)) ∧ ∀ w, q w (GivesE 49 L er w)
theorem nat_of {h : Int} {bytes : Int} (hR : RightP h bytes) : ∃ n : Nat, h = n ∧ n ≤ 8 := by
  unfold RightP at hR
  exact ⟨h.toNat, by omega, by omega⟩
theorem incast_both (h d bytes : Int) : Both (Calls Try.prog 7 #[.int .i64 h, .int .i64 d, .int .i64 bytes]) (Calls Try.prog 8 #[.int .i64 h, .int .i64 d, .int .i64 bytes]) := by
  by_cases hR : RightP h bytes
  · obtain ⟨n, rfl, hn⟩ := nat_of hR
    by_cases hd : 0 ≤ d ∧ d ≤ (n : Int) - 1
    · obtain ⟨k, rfl⟩ : ∃ k : Nat, d = k := ⟨d.toNat, by omega⟩
      exact ⟨_, 0, by rw [ofP_len]; exact Nat.le_trans (incP_len _ _) (by omega), fun w => (incast_f n k bytes w hR (by omega)).mono fun _ _ h => h.e, fun w => (rincast_f n k bytes w hR (by omega)).mono fun _ _ h => h.e⟩
    · exact ⟨[], 330, by simp, fun w => (incast_bad n d bytes w (by omega) (fun x => hd x.2)).mono fun _ _ h => h.e, fun w => (rincast_bad n d bytes w (fun x => hd x.2)).mono fun _ _ h => h.e⟩
  · exact ⟨[], 330, by simp, fun w => (incast_bad2 h d bytes w hR).mono fun _ _ h => h.e, fun w => (rincast_bad h d bytes w (fun x => hR x.1)).mono fun _ _ h => h.e⟩
theorem all_both (h bytes : Int) : Both (Calls Try.prog 9 #[.int .i64 h, .int .i64 bytes]) (Calls Try.prog 10 #[.int .i64 h, .int .i64 bytes]) := by
  by_cases hR : RightP h bytes
  · obtain ⟨n, rfl, hn⟩ := nat_of hR
    have hl : (pairsL n).length ≤ 56 := by have := allP_len n (pairsL n).length hn; unfold allP at this; rwa [List.take_length] at this
    exact ⟨_, 0, by rw [ofP_len]; omega, fun w => (all_f n bytes w hR).mono fun _ _ h => h.e, fun w => (rall_f n bytes w hR).mono fun _ _ h => h.e⟩
  · exact ⟨[], 330, by simp, fun w => (all_bad h bytes w hR).mono fun _ _ h => h.e, fun w => (rall_bad h bytes w hR).mono fun _ _ h => h.e⟩
theorem ring_both (seed h bytes : Int) : Both (Calls Try.prog 5 #[.int .u64 seed, .int .i64 h, .int .i64 bytes]) (Calls Try.prog 11 #[.int .u64 seed, .int .i64 h, .int .i64 bytes]) := by
  by_cases hR : RightP h bytes
  · obtain ⟨n, rfl, hn⟩ := nat_of hR
    exact ⟨_, 0, by rw [ofP_len, ringL_len]; omega, fun w => (ring_f seed n bytes w hR).mono fun _ _ h => h.e, fun w => (rring_f seed n bytes w hR).mono fun _ _ h => h.e⟩
  · exact ⟨[], 330, by simp, fun w => (ring_bad seed h bytes w hR).mono fun _ _ h => h.e, fun w => (rring_bad seed h bytes w hR).mono fun _ _ h => h.e⟩
theorem rand_both (seed h x most : Int) : Both (Calls Try.prog 12 #[.int .u64 seed, .int .i64 h, .int .i64 x, .int .i64 most]) (Calls Try.prog 13 #[.int .u64 seed, .int .i64 h, .int .i64 x, .int .i64 most]) := by
  by_cases hR : RightP h most ∧ 0 ≤ x ∧ x ≤ 1000
  · obtain ⟨hR, hx⟩ := hR
    obtain ⟨n, rfl, hn⟩ := nat_of hR
    obtain ⟨k, rfl⟩ : ∃ k : Nat, x = k := ⟨x.toNat, by omega⟩
    exact ⟨_, 0, by rw [randL_len]; omega, fun w => (rand_f seed n k most w hR (by omega)).mono fun _ _ h => h.e, fun w => (rrand_f seed n k most w hR (by omega)).mono fun _ _ h => h.e⟩
  · exact ⟨[], 330, by simp, fun w => (rand_bad seed h x most w hR).mono fun _ _ h => h.e, fun w => (rrand_bad seed h x most w hR).mono fun _ _ h => h.e⟩
end Go.Proofs.Ytfaljgaeeholoaa
