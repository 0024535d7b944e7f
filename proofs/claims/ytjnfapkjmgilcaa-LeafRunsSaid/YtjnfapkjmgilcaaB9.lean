/- Package leaf: the page's example; what ways have (the conditions stand in the statements). -/
import Derived.Test.YtjnfapkjmgilcaaD2
namespace Go.Proofs.Ytjnfapkjmgilcaa
open Go.RowKit
set_option maxRecDepth 100000 in
set_option maxHeartbeats 1000000 in
theorem same_yes (L : List Int) (A B : Option Addr) (c d : Nat) (w : World) (hA : Reads w A (iv L)) (hB : Reads w B (iv L)) :
    Calls Try.prog 11 #[.slice A L.length c, .slice B L.length d] w fun e w' => e = .returned (.bool true) ∧ Ext N0 w w' := by
  have HA := Lib.hid hA
  have HB := Lib.hid hB
  have HE0 := Lib.hid (Ext.refl N0 w)
  obtain ⟨n, hn⟩ : ∃ n, L.length = n := ⟨_, rfl⟩
  have HN := Lib.hid hn
  have hnb : n ≤ 9223372036854775807 := by have := hA.1; rw [iv_len, hn] at this; exact this
  rw [hn]
  clear hA hB hn
  go_enter Try.func11, Try.ntmps11
  go_wp2_with fail
  go_loopw [5] (fun v wr => ∃ i : Nat, v = .int .i64 i ∧ i ≤ n ∧ Hid (Ext N0 w wr)) (fun v _ => n - (intOf v).toNat)
  case atStart => exact ⟨0, rfl, by omega, HE0⟩
  case round =>
    clear HE0
    obtain ⟨i, rfl, hi, HE⟩ := hrel
    by_cases hlt : i < n
    · have hlt' : (i : Int) < n := by omega
      obtain ⟨y, hy⟩ : ∃ y, L[i]? = some y := ⟨_, List.getElem?_eq_getElem (by rw [HN.out]; exact hlt)⟩
      have HD := Lib.hid (HE.out.drew)
      obtain ⟨a, rfl, ha⟩ := (HA.out.mono0 HD.out).2 (by rw [iv_len, HN.out]; omega)
      obtain ⟨b, rfl, hb⟩ := (HB.out.mono0 HD.out).2 (by rw [iv_len, HN.out]; omega)
      have a1 := ha i _ (iv_get hy)
      have b1 := hb i _ (iv_get hy)
      clear hy ha hb
      go_wp2_with fail
      go_region
      all_goals
        go_wp2
        go_roundw
        case rel => exact ⟨i + 1, by go_num, by omega, HD⟩
        case measure => simp only [intOf]; omega
    · have hlt' : ¬ (i : Int) < n := by omega
      go_wp2
      go_ret
      exact ⟨rfl, HE.out⟩
section
open Classical
variable {L : List Bool} {l s h : Nat}
theorem hops_isD (hL : L.length = l * s) (hl : l ≤ 16) {a b : Int} (ha : lfB l h a = true) (hb : lfB l h b = true) : IsD L l s (lfV l h a) (lfV l h b) (hopsV L l s h a b) := by
  unfold hopsV
  rw [if_pos (by rw [ha, hb]; rfl)]
  exact far_isD hL hl (lfV_lt hb)
theorem cntP_one (hall : ∀ x y, x < l → y < l → rch L l s x y) : ∀ i, 1 ≤ i → i ≤ l → cntP L l s i = 1
  | 0, h, _ => by omega
  | 1, _, h => by
    unfold cntP
    rw [if_pos (fun y hy => absurd hy (Nat.not_lt_zero y))]
    rfl
  | i + 2, _, h => by
    have := cntP_one hall (i + 1) (by omega) (by omega)
    unfold cntP
    rw [this, if_neg (fun hn => hn 0 (by omega) (hall _ _ (by omega) (by omega)))]
theorem IsD.one {x y : Nat} {v : Int} (h : IsD L l s x y v) (hx : x < l) (hne : x ≠ y) (hn : nr L s x y) : v = 2 := by
  have hw : wlk L l s 1 x y := ⟨x, hx, rfl, hn⟩
  rcases h with ⟨_, h2⟩ | ⟨j, h1, h2, h3⟩
  · exact absurd hw (h2 1)
  · rcases j with _ | _ | j
    · exact absurd h2 hne
    · rw [h1]; rfl
    · exact absurd hw (h3 1 (by omega))
theorem IsD.two {x y : Nat} (h : IsD L l s x y 2) : x ≠ y ∧ nr L s x y := by
  rcases h with ⟨h1, _⟩ | ⟨j, h1, h2, h3⟩
  · omega
  · obtain rfl : j = 1 := by omega
    obtain ⟨z, hz, hw, hn⟩ := h2
    have hw : x = z := hw
    subst hw
    exact ⟨fun e => h3 0 (by omega) e, hn⟩
theorem pth_ne (p : Nat → Bool) (k : Nat) : (pth p k).length ≠ 0 ↔ ∃ j, j < k ∧ p j = true := by
  unfold pth
  rw [List.length_map, ← Nat.pos_iff_ne_zero, List.length_filter_pos_iff]
  simp
end
theorem net0 : List.replicate (2 * 2) true = [true, true, true, true] := rfl
theorem awake_facts : lk [true, true, true, true] 2 0 1 = true ∧ psV [true, false, true, true] 2 2 1 0 1 = [0] ∧ hopsV [true, false, true, true] 2 2 1 0 1 = 2 ∧ (pS 2 [true, false, true, true] 2).1 = 1 := by
  have hn : nr [true, false, true, true] 2 0 1 := ⟨0, by omega, rfl, rfl⟩
  have hd := hops_isD (L := [true, false, true, true]) (l := 2) (s := 2) (h := 1) rfl (by omega) (a := 0) (b := 1) rfl rfl
  have e0 : lfV 2 1 0 = 0 := rfl
  have e1 : lfV 2 1 1 = 1 := rfl
  rw [e0, e1] at hd
  refine ⟨rfl, by decide, hd.one (by omega) (by omega) hn, ?_⟩
  rw [(parts_cnt (L := [true, false, true, true]) (l := 2) (s := 2) rfl (by omega) 2 (Nat.le_refl _)).1]
  refine cntP_one (fun x y hx hy => ?_) 2 (by omega) (Nat.le_refl _)
  have hxs : x = 0 ∨ x = 1 := by omega
  have hys : y = 0 ∨ y = 1 := by omega
  refine ⟨1, x, hx, rfl, 0, by omega, ?_, ?_⟩
  · rcases hxs with rfl | rfl <;> rfl
  · rcases hys with rfl | rfl <;> rfl
set_option maxHeartbeats 1000000 in
theorem awake_calls (w : World) : Calls Try.prog 6 #[] w fun e w' => e = .returned (.bool true) ∧ Ext N0 w w' := by
  obtain ⟨f1, f2, f3, f4⟩ := awake_facts
  have HN1 : Hid (Calls Try.prog 5 #[.int .i64 2, .int .i64 2, .int .i64 1] w fun e w' => e = .returned (.tuple #[.pointer (some ⟨w.heap.size, 0, none⟩), .int .i64 0]) ∧ IsNet w' w.heap.size 2 2 1 [true, true, true, true] ∧ Ext N0 w w') := Lib.hid (new_good w 2 2 1 (by omega) (by omega) (by omega))
  have HN2 : Hid (∀ W : World, Calls Try.prog 5 #[.int .i64 0, .int .i64 1, .int .i64 1] W fun e w' => e = .returned (.tuple #[.pointer none, .int .i64 370]) ∧ w' = W) := Lib.hid (fun W => new_bad W 0 1 1 rfl)
  have HF : Hid (∀ (W : World) (g : Nat), IsNet W g 2 2 1 [true, true, true, true] → Calls Try.prog 8 #[.pointer (some ⟨g, 0, none⟩), .int .i64 0, .int .i64 1] W fun e w' => e = .returned (.tuple #[.bool true, .int .i64 0]) ∧ IsNet w' g 2 2 1 [true, false, true, true] ∧ Ext (At g) W w') := Lib.hid (fun W g k => by
    have := fail_yes W g 2 2 1 _ 0 1 k (by omega) (by omega)
    rw [f1] at this
    exact this)
  have HP : Hid (∀ (W : World) (g : Nat), IsNet W g 2 2 1 [true, false, true, true] → Calls Try.prog 7 #[.pointer (some ⟨g, 0, none⟩), .int .i64 0, .int .i64 1] W fun e w' => ∃ A c, e = .returned (.slice A 1 c) ∧ Reads w' A (iv [0]) ∧ Ext N0 W w') := Lib.hid (fun W g k => by
    refine (paths_calls W g 2 2 1 _ 0 1 k).mono ?_
    rw [f2]
    rintro e w' ⟨A, c, rfl, ho, hE⟩
    exact ⟨A, c, rfl, ownReads1 ho, hE⟩)
  have HH : Hid (∀ (W : World) (g : Nat), IsNet W g 2 2 1 [true, false, true, true] → Calls Try.prog 9 #[.pointer (some ⟨g, 0, none⟩), .int .i64 0, .int .i64 1] W fun e w' => e = .returned (.int .i64 2) ∧ Ext N0 W w') := Lib.hid (fun W g k => by
    have := hops_calls W g 2 2 1 _ 0 1 k
    rw [f3] at this
    exact this)
  have HPt : Hid (∀ (W : World) (g : Nat), IsNet W g 2 2 1 [true, false, true, true] → Calls Try.prog 12 #[.pointer (some ⟨g, 0, none⟩)] W fun e w' => e = .returned (.int .i64 1) ∧ Ext N0 W w') := Lib.hid (fun W g k => by
    have := parts_calls W g 2 2 1 _ k
    rw [f4] at this
    exact this)
  have HJ : Hid (∀ (W : World) (g : Nat), IsNet W g 2 2 1 [true, false, true, true] → Calls Try.prog 17 #[.pointer (some ⟨g, 0, none⟩), .int .i64 0, .int .i64 1] W fun e w' => e = .returned (.bool true) ∧ Ext N0 W w') := Lib.hid (fun W g k => by
    have := joined_calls W g 2 2 1 _ 0 1 k
    rw [f3] at this
    exact this)
  have HS : Hid (∀ (W : World) (A B : Option Addr) (c d : Nat), Reads W A (iv [0]) → Reads W B (iv [0]) → Calls Try.prog 11 #[.slice A 1 c, .slice B 1 d] W fun e w' => e = .returned (.bool true) ∧ Ext N0 W w') := Lib.hid (fun W A B c d h1 h2 => same_yes [0] A B c d W h1 h2)
  clear f1 f2 f3 f4
  go_enter Try.func6, Try.ntmps6
  go_wp2_with (first
    | (have hx := X7; clear hx; go_at_call 17; refine (HJ.out _ _ (K2.out.kept0 X7.out)).mono ?_; rintro e w8 ⟨rfl, hE⟩; have X8 := Lib.hid (X7.out.then0 hE); clear hE)
    | (have hx := X6; clear hx; go_at_call 12; refine (HPt.out _ _ (K2.out.kept0 X6.out)).mono ?_; rintro e w7 ⟨rfl, hE⟩; have X7 := Lib.hid (X6.out.then0 hE); clear hE)
    | (have hx := X5; clear hx; go_at_call 9; refine (HH.out _ _ (K2.out.kept0 X5.out)).mono ?_; rintro e w6 ⟨rfl, hE⟩; have X6 := Lib.hid (X5.out.then0 hE); clear hE)
    | (have hx := X4; clear hx; go_at_call 11; refine (HS.out _ _ _ _ _ (R4.out.mono0 ((Ext.refl _ _).alloc _)) (litReads _ [.int .i64 0] 3 (by simp))).mono ?_; rintro e w5 ⟨rfl, hE⟩; have X5 := Lib.hid ((X4.out.alloc _).then0 hE); clear hE)
    | (have hx := X3; clear hx; go_at_call 7; refine (HP.out _ _ K2.out).mono ?_; rintro e w4 ⟨A4, c4, rfl, hr, hE⟩; have X4 := Lib.hid hE; have R4 := Lib.hid hr; clear hE hr)
    | (have hx := X2; clear hx; go_at_call 5; refine (HN2.out _).mono ?_; rintro e w3 ⟨rfl, hw⟩; subst w3; have X3 := trivial)
    | (have hx := X1; clear hx; go_at_call 8; refine (HF.out _ _ K1.out.1).mono ?_; rintro e w2 ⟨rfl, hk, hE⟩; have X2 := Lib.hid (K1.out.2.trans hE (fun y (hy : y = w.heap.size) => .inr (by omega))); have K2 := Lib.hid hk; clear hE hk)
    | (go_at_call 5; refine HN1.out.mono ?_; rintro e w1 ⟨rfl, hk, hE⟩; have K1 := Lib.hid (And.intro hk hE); have X1 := trivial; clear hE hk))
  go_ret
  exact ⟨rfl, X2.out.then0 X8.out⟩
end Go.Proofs.Ytjnfapkjmgilcaa
