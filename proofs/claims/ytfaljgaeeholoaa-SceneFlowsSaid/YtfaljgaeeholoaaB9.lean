/- Patterns of the document's answer for package scene, each proved for every value that its statement lets in (the conditions stand in the statements). -/
import Derived.Test.YtfaljgaeeholoaaB8
namespace Go.Proofs.Ytfaljgaeeholoaa
open Go.RowKit
theorem within_yes (n l h : Int) (w : World) (hc : l ≤ n ∧ n ≤ h) : Calls Try.prog 22 #[.int .i64 n, .int .i64 l, .int .i64 h] w fun e w' => e = .returned (.bool true) ∧ w' = w := by
  have := within_calls n l h w
  rwa [decide_eq_true hc] at this
theorem within_no (n l h : Int) (w : World) (hc : ¬ (l ≤ n ∧ n ≤ h)) : Calls Try.prog 22 #[.int .i64 n, .int .i64 l, .int .i64 h] w fun e w' => e = .returned (.bool false) ∧ w' = w := by
  have := within_calls n l h w
  rwa [decide_eq_false hc] at this
set_option maxRecDepth 100000 in
theorem rincast_bad (h d bytes : Int) (w : World) (hb : ¬ (RightP h bytes ∧ 0 ≤ d ∧ d ≤ h - 1)) : Calls Try.prog 8 #[.int .i64 h, .int .i64 d, .int .i64 bytes] w (Bad w) := by
  have hs : ¬ (2 ≤ h ∧ h ≤ 8) ∨ ((2 ≤ h ∧ h ≤ 8) ∧ ¬ (1 ≤ bytes ∧ bytes ≤ 65536)) ∨ ((2 ≤ h ∧ h ≤ 8) ∧ (1 ≤ bytes ∧ bytes ≤ 65536) ∧ ¬ (0 ≤ d ∧ d ≤ h - 1)) := by
    unfold RightP at hb
    omega
  unfold Bad
  clear hb
  rcases hs with h1 | ⟨h1, h2⟩ | ⟨h1, h2, h3⟩
  all_goals
    go_enter Try.func8, Try.ntmps8
    go_wp2_with (first | (go_at_call 22; refine (within_yes _ _ _ _ ?hc).mono ?_; (case hc => omega); rintro e w' ⟨rfl, rfl⟩) | (go_at_call 22; refine (within_no _ _ _ _ ?hc).mono ?_; (case hc => omega); rintro e w' ⟨rfl, rfl⟩))
    refine bodyPost_ret (v := .tuple #[.slice none 0 0, .int .i64 330]) (by simp [results, Try.results8, go_sem]) rfl ⟨rfl, Ext.refl _ _⟩
theorem lacks2 {h bytes : Int} (hR : ¬ RightP h bytes) : ¬ (2 ≤ h ∧ h ≤ 8) ∨ ((2 ≤ h ∧ h ≤ 8) ∧ ¬ (1 ≤ bytes ∧ bytes ≤ 65536)) := by
  unfold RightP at hR
  omega
set_option maxRecDepth 100000 in
theorem rall_bad (h bytes : Int) (w : World) (hb : ¬ RightP h bytes) : Calls Try.prog 10 #[.int .i64 h, .int .i64 bytes] w (Bad w) := by
  have hs := lacks2 hb
  unfold Bad
  clear hb
  rcases hs with h1 | ⟨h1, h2⟩
  all_goals
    go_enter Try.func10, Try.ntmps10
    go_wp2_with (first | (go_at_call 22; refine (within_yes _ _ _ _ ?hc).mono ?_; (case hc => omega); rintro e w' ⟨rfl, rfl⟩) | (go_at_call 22; refine (within_no _ _ _ _ ?hc).mono ?_; (case hc => omega); rintro e w' ⟨rfl, rfl⟩))
    refine bodyPost_ret (v := .tuple #[.slice none 0 0, .int .i64 330]) (by simp [results, Try.results10, go_sem]) rfl ⟨rfl, Ext.refl _ _⟩
set_option maxRecDepth 100000 in
theorem rring_bad (seed h bytes : Int) (w : World) (hb : ¬ RightP h bytes) : Calls Try.prog 11 #[.int .u64 seed, .int .i64 h, .int .i64 bytes] w (Bad w) := by
  have hs := lacks2 hb
  unfold Bad
  clear hb
  rcases hs with h1 | ⟨h1, h2⟩
  all_goals
    go_enter Try.func11, Try.ntmps11
    go_wp2_with (first | (go_at_call 22; refine (within_yes _ _ _ _ ?hc).mono ?_; (case hc => omega); rintro e w' ⟨rfl, rfl⟩) | (go_at_call 22; refine (within_no _ _ _ _ ?hc).mono ?_; (case hc => omega); rintro e w' ⟨rfl, rfl⟩))
    refine bodyPost_ret (v := .tuple #[.slice none 0 0, .int .i64 330]) (by simp [results, Try.results11, go_sem]) rfl ⟨rfl, Ext.refl _ _⟩
def allP (h i : Nat) : List (Nat × Nat) := (pairsL h).take i
theorem allP_step {h i : Nat} {p : Nat × Nat} (hp : (pairsL h)[i]? = some p) : allP h (i + 1) = allP h i ++ [p] := by
  obtain ⟨hl, hp⟩ := List.getElem?_eq_some_iff.1 hp
  unfold allP
  rw [List.take_add_one, List.getElem?_eq_getElem hl, hp]
  rfl
theorem allP_len (h i : Nat) (hh : h ≤ 8) : (allP h i).length ≤ 56 := by
  unfold allP
  rw [List.length_take, pairs_len h hh]
  have : ∀ h : Fin 9, h.val * (h.val - 1) ≤ 56 := by decide
  have := this ⟨h, by omega⟩
  simp at this
  omega
set_option maxRecDepth 100000 in
set_option maxHeartbeats 1000000 in
theorem rall_f (h : Nat) (bytes : Int) (w : World) (hR : RightP h bytes) : Calls Try.prog 10 #[.int .i64 h, .int .i64 bytes] w (GivesF 49 (ofP bytes (pairsL h)) w) := by
  unfold RightP at hR
  obtain ⟨⟨r1, r2⟩, r3, r4⟩ := hR
  have hh : h ≤ 8 := by omega
  unfold GivesF
  go_enter Try.func10, Try.ntmps10
  go_wp2_with (go_at_call 22; refine (within_calls _ _ _ _).mono ?_; rintro e w' ⟨rfl, rfl⟩)
  go_loopw [6, 7] (fun l v wr => ∃ (a : Nat) (A : Option Addr) (c : Nat), v = .int .i64 a ∧ a ≤ h ∧ l = .slice A (allP h (pos h a 0)).length c ∧ Hid (wr.ownsRow w'.heap.size 49 5 (.slice A (allP h (pos h a 0)).length c) (allP h (pos h a 0)).length (flV (ofP bytes (allP h (pos h a 0))))) ∧ Hid (Ext N0 w' wr)) (fun _ v _ => h - (intOf v).toNat)
  case atStart => exact ⟨0, none, 0, rfl, by omega, by simp [pos, allP], Lib.hid (by simpa [pos, allP, ofP, flV] using ownNil w' w'.heap.size 49 5), Lib.hid (Ext.refl _ _)⟩
  case round =>
    obtain ⟨a, A0, c0, rfl, ha, rfl, HO0, HE0⟩ := hrel
    by_cases hlta : a < h
    · have hlta' : (a : Int) < h := by omega
      go_wp2_with fail
      go_loopw [6, 8] (fun l v wr => ∃ (b : Nat) (A : Option Addr) (c : Nat), v = .int .i64 b ∧ b ≤ h ∧ l = .slice A (allP h (pos h a b)).length c ∧ Hid (wr.ownsRow w'.heap.size 49 5 (.slice A (allP h (pos h a b)).length c) (allP h (pos h a b)).length (flV (ofP bytes (allP h (pos h a b))))) ∧ Hid (Ext N0 w' wr)) (fun _ v _ => h - (intOf v).toNat)
      case atStart => exact ⟨0, A0, c0, rfl, by omega, rfl, HO0, HE0⟩
      case round =>
        clear HO0 HE0
        obtain ⟨b, A, c, rfl, hb, rfl, HO, HE⟩ := hrel
        have hln := allP_len h (pos h a b) hh
        have hsz := HE.out.size
        obtain ⟨k, hk⟩ : ∃ k, (allP h (pos h a b)).length = k := ⟨_, rfl⟩
        rw [hk] at HO hln
        simp only [hk]
        by_cases hltb : b < h
        · have hltb' : (b : Int) < h := by omega
          by_cases hab : a = b
          · subst hab
            have hpos : pos h a (a + 1) = pos h a a := by unfold pos; rw [if_pos (by omega), if_neg (by omega)]; omega
            have HP := Lib.hid hpos
            have HK := Lib.hid hk
            clear hpos hk
            go_wp2
            go_roundw
            case rel => exact ⟨a + 1, A, c, by go_num, by omega, by rw [HP.out, HK.out], Lib.hid (by rw [HP.out, HK.out]; exact HO.out), HE⟩
            case measure => simp only [intOf]; omega
          · have hab' : ¬ (a : Int) = b := by omega
            have hst := allP_step (pairs_pos h a b hh hlta hltb hab)
            have hpos : pos h a (b + 1) = pos h a b + 1 := by unfold pos; split <;> split <;> omega
            rw [← hpos] at hst
            have HST := Lib.hid hst
            have HK := Lib.hid hk
            clear hst hk hpos
            go_wp2_with (at_builtin; refine wpApp w'.heap.size (.tmp 30) (.tmp 35) 32 49 (.agg #[.int .i64 0, .int .i64 0, .int .i64 0, .int .i64 0, .int .i64 0]) 5 40 rfl rfl Try.underlying32 info49 rfl (by decide) (by decide) (.slice A k c) k (flV (ofP bytes (allP h (pos h a b)))) _ 1 _ [.int .i64 (a : Int), .int .i64 (b : Int), .int .i64 0, .int .i64 bytes, .int .i64 0] rfl rfl (ownKept0 HO.out ((Ext.refl _ _).alloc _)) rfl (litReads wr _ _ (by simp)) (by simp [Value.oneCell']) (by omega) (by simp; omega) ?_; intro A5 c5 w5 ho5 hE5 _; have HO5 := Lib.hid ho5; have HE5 := Lib.hid (((HE.out).alloc _).trans hE5 (fun x hx => .inr (ownBase HO.out x hx).1)); clear ho5 hE5)
            have hlk : (allP h (pos h a (b + 1))).length = k + 1 := by rw [HST.out, List.length_append, HK.out]; rfl
            have hfl : flV (ofP bytes (allP h (pos h a b))) ++ [.int .i64 (a : Int), .int .i64 (b : Int), .int .i64 0, .int .i64 bytes, .int .i64 0] = flV (ofP bytes (allP h (pos h a (b + 1)))) := by rw [HST.out, ofP_app]; simp [flV, flC, ofP]
            go_roundw
            case rel => exact ⟨b + 1, A5, c5, by go_num, by omega, by rw [hlk], Lib.hid (by rw [hlk, ← hfl]; exact HO5.out), HE5⟩
            case measure => simp only [intOf]; omega
        · have hltb' : ¬ (b : Int) < h := by omega
          have hpos : pos h a b = pos h (a + 1) 0 := by
            obtain rfl : b = h := by omega
            unfold pos
            rw [if_pos hlta, if_neg (by omega), Nat.add_mul]
            omega
          have HP := Lib.hid hpos
          have HK := Lib.hid hk
          clear hpos hk
          go_wp2
          go_roundw
          case rel => exact ⟨a + 1, A, c, by go_num, by omega, by rw [← HP.out, HK.out], Lib.hid (by rw [← HP.out, HK.out]; exact HO.out), HE⟩
          case measure => simp only [intOf]; omega
    · have hlta' : ¬ (a : Int) < h := by omega
      obtain rfl : a = h := by omega
      have hpos : allP a (pos a a 0) = pairsL a := by
        unfold allP
        rw [show pos a a 0 = (pairsL a).length by rw [pairs_len a hh]; unfold pos; rw [if_neg (by omega)]; omega]
        exact List.take_length
      rw [hpos] at HO0
      simp only [hpos]
      clear hpos
      go_wp2
      refine bodyPost_ret (v := .tuple #[.slice A0 (pairsL a).length c0, .int .i64 0]) (by simp [results, Try.results10, go_sem]) rfl ?_
      refine ⟨A0, c0, by rw [ofP_len], ?_, HE0.out⟩
      unfold IsFl
      rw [ofP_len]
      exact HO0.out
end Go.Proofs.Ytfaljgaeeholoaa
