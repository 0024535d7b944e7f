/- The page's example of package gauge (the conditions stand in the statements). -/
import Derived.Test.YtcngefpdfkkgdaaGI4
import Derived.Test.YtcngefpdfkkgdaaB2
namespace Go.Proofs.Ytcngefpdfkkgdaa
open Go.RowKit Go.Maps
def ga0 : Ga Int := ⟨[1, 4], [], fun _ => []⟩
noncomputable def ga3 : Ga Int := ((ga0.note 7 0).note 7 2).note 7 9
theorem ga0_ok : ga0.Ok 0 := ⟨by decide, by decide, List.nodup_nil, fun k x hx => (by cases hx), fun k => Nat.le_refl _, fun k _ => rfl, Nat.le_refl _⟩
theorem ga3_f : ga3.f 7 = [0, 2, 9] := by
  unfold ga3 Ga.note
  simp [Ga.add, Ga.push_f, ga0]
theorem ga3_bs : ga3.bs = [1, 4] := by
  unfold ga3 Ga.note
  show (Ga.push _ 7).bs = _
  rw [Ga.push_bs]
  show (Ga.push _ 7).bs = _
  rw [Ga.push_bs]
  show (Ga.push _ 7).bs = _
  rw [Ga.push_bs]
  rfl
theorem ga3_ks : (7 : Int) ∈ ga3.ks := by
  unfold ga3 Ga.note
  exact Ga.push_mem _ 7
theorem ga3_cnt : cnt ga3.bs (ga3.f 7) = [1, 1, 1] := by
  rw [ga3_bs, ga3_f]
  decide
theorem ga3_abv : abvI ga3.bs (cnt ga3.bs (ga3.f 7)) 4 (ga3.bs.length + 1) = 1 := by
  rw [ga3_cnt, ga3_bs]
  decide
theorem ga3_most : mostL (ga3.f 7) = 9 := by
  rw [ga3_f]
  decide
set_option maxRecDepth 100000 in
set_option maxHeartbeats 2000000 in
theorem awake_calls (w : World) : Calls Try.prog 8 #[] w fun e w' => e = .returned (.bool true) ∧ Ext N0 w w' := by
  have k7 : keyOf Try.prog 3 (.int .i64 7) = some (.int .i64 7) := keyOf_int_mk Try.underlying3 (by decide)
  have ok1 := ga0_ok.note 7 (x := 0) (by omega)
  have ok2 := ok1.note 7 (x := 2) (by omega)
  have ok3 : ga3.Ok 3 := ok2.note 7 (x := 9) (by omega)
  have K7 := Lib.hid k7
  have OK := Lib.hid (And.intro ok1 (And.intro ok2 ok3))
  have hE0 := (Ext.refl N0 w).alloc (.cells #[.int .i64 1, .int .i64 4] 3)
  obtain ⟨B, hB⟩ : ∃ B, (w.alloc (.cells #[.int .i64 1, .int .i64 4] 3)).heap.size = B := ⟨_, rfl⟩
  have hwB : w.heap.size ≤ B := by rw [← hB]; exact hE0.size
  have hN : Calls Try.prog 32 #[.slice (some ⟨w.heap.size, 0, none⟩) 2 2] (w.alloc (.cells #[.int .i64 1, .int .i64 4] 3)) fun e w' => ∃ g, e = .returned (.tuple #[.pointer (some ⟨g, 0, none⟩), .int .i64 0]) ∧ IsGI B w' g ga0 0 (fun x => B ≤ x) ∧ Ext N0 w w' ∧ B ≤ w'.heap.size :=
    (new_goodI (some ⟨w.heap.size, 0, none⟩) 2 [1, 4] (w.alloc (.cells #[.int .i64 1, .int .i64 4] 3)) (litReads w (iv [1, 4]) 3 (by decide)) (by decide)).mono (by
      rintro e w' ⟨g, h1, _, h2, h3⟩
      rw [hB] at h2
      exact ⟨g, h1, h2, hE0.then0 h3, by rw [← hB]; exact h3.size⟩)
  have hNo : ∀ (g u N : Nat) (G : Ga Int) (x : Int) (W : World), IsGI B W g G u (fun x => B ≤ x) → Ext N0 w W → B ≤ W.heap.size → G.Ok N → N ≤ 900 → 0 ≤ x ∧ x ≤ 1099511627776 → u ≤ 100000 →
      Calls Try.prog 33 #[.pointer (some ⟨g, 0, none⟩), .int .i64 7, .int .i64 x] W fun e w' => e = .returned (.int .i64 0) ∧ IsGI B w' g (G.note 7 x) (u + 1) (fun x => B ≤ x) ∧ Ext N0 w w' ∧ B ≤ w'.heap.size := fun g u N G x W h hE hb hok hN hx hu =>
    (note_callsI B g u N G 7 x (fun x => B ≤ x) W h (fun y hy => Nat.le_trans hb hy) hok hN k7 hx hu hb).mono (by
      rintro e w' ⟨h1, h2, h3⟩
      exact ⟨h1, h2, hE.trans h3 (fun y hy => .inr (Nat.le_trans hwB hy)), Nat.le_trans hb h3.size⟩)
  have hBad : ∀ W : World, Calls Try.prog 32 #[.slice none 0 0] W fun e w' => e = .returned (.tuple #[.pointer none, .int .i64 310]) ∧ w' = W := fun W => new_badI none 0 [] W (ownReads1 (ownNil W 0 3 1)) (by decide)
  have hC : ∀ (g : Nat) (W : World), IsGI B W g ga3 3 (fun x => B ≤ x) → Calls Try.prog 34 #[.pointer (some ⟨g, 0, none⟩), .int .i64 7] W fun e w' => ∃ A c, e = .returned (.slice A 3 c) ∧ Reads w' A (iv [1, 1, 1]) ∧ Ext N0 W w' := fun g W h =>
    (counts_inI B g 3 ga3 7 _ W h (by rw [ga3_bs]; decide) k7 ga3_ks).mono (by
      rintro e w' ⟨A, c, h1, h2, h3⟩
      rw [ga3_cnt, ga3_bs] at h2
      rw [ga3_bs] at h1
      exact ⟨A, c, h1, ownReads1 h2, h3⟩)
  have hM : ∀ (g : Nat) (W : World), IsGI B W g ga3 3 (fun x => B ≤ x) → Calls Try.prog 35 #[.pointer (some ⟨g, 0, none⟩), .int .i64 7] W fun e w' => e = .returned (.int .i64 9) ∧ Ext N0 W w' := fun g W h => by
    have := most_inI B g 3 ga3 7 _ W h k7 ga3_ks
    rw [ga3_most] at this
    exact this
  have hA : ∀ (g : Nat) (W : World), IsGI B W g ga3 3 (fun x => B ≤ x) → Calls Try.prog 36 #[.pointer (some ⟨g, 0, none⟩), .int .i64 7, .int .i64 4] W fun e w' => e = .returned (.int .i64 1) ∧ Ext N0 W w' := fun g W h => by
    have := above_inI B g 3 3 ga3 7 4 _ W h ok3 (by decide) k7 ga3_ks
    rw [ga3_abv] at this
    exact this
  have hP : ∀ W : World, Calls Try.prog 23 #[.int .i64 4] W fun e w' => ∃ A c, e = .returned (.slice A 4 c) ∧ Reads w' A (iv [0, 1, 2, 4]) ∧ Ext N0 W w' := fun W => (powers_calls 4 W ⟨by decide, by decide⟩).mono (by
    rintro e w' ⟨A, c, h1, h2, h3⟩
    exact ⟨A, c, h1, ownReads1 h2, h3⟩)
  have HN := Lib.hid hN
  have HNo := Lib.hid hNo
  have HBad := Lib.hid hBad
  have HC := Lib.hid hC
  have HM := Lib.hid hM
  have HA := Lib.hid hA
  have HP := Lib.hid hP
  have HO := Lib.hid (And.intro ga0_ok (And.intro ok1 ok2))
  have HE0 := Lib.hid hE0
  clear k7 ok1 ok2 ok3 hE0 hB hwB hN hNo hBad hC hM hA hP
  go_enter Try.func8, Try.ntmps8
  go_wp2_with fail
  refine HN.out.mono ?_
  rintro e w1 ⟨g, rfl, hG1, hX1, hb1⟩
  have HG1 := Lib.hid hG1
  have HX1 := Lib.hid (And.intro hX1 hb1)
  clear hG1 hX1 hb1
  go_wp2_with (first
    | (have hx := HG4; clear hx; go_at_call 34; refine (HC.out g _ (HG4.out.kept0 HX5.out)).mono ?_; rintro e w6 ⟨A6, c6, rfl, hR6, hE6⟩; have HR6 := Lib.hid hR6; have HX6 := Lib.hid (HX5.out.then0 hE6); clear hR6 hE6)
    | (have hx := HP9; clear hx; go_at_call 12; refine (same_yes [0, 1, 2, 4] _ _ _ _ _ (HP9.out.1.mono0 ((Ext.refl _ _).alloc _)) (litReads _ (iv [0, 1, 2, 4]) 3 (by decide))).mono ?_; rintro e w10 ⟨rfl, hE10⟩; have HX10 := Lib.hid ((HP9.out.2.alloc (.cells #[.int .i64 0, .int .i64 1, .int .i64 2, .int .i64 4] 3)).then0 hE10); clear hE10)
    | (have hx := HR6; clear hx; go_at_call 12; refine (same_yes [1, 1, 1] _ _ _ _ _ (HR6.out.mono0 ((Ext.refl _ _).alloc _)) (litReads _ (iv [1, 1, 1]) 3 (by decide))).mono ?_; rintro e w7 ⟨rfl, hE7⟩; have HX7 := Lib.hid ((HX6.out.alloc (.cells #[.int .i64 1, .int .i64 1, .int .i64 1] 3)).then0 hE7); clear hE7)
    | (go_at_call 35; refine (HM.out g _ (HG4.out.kept0 HX7.out)).mono ?_; rintro e w8 ⟨rfl, hE8⟩; have HX8 := Lib.hid (HX7.out.then0 hE8); clear hE8)
    | (go_at_call 36; refine (HA.out g _ (HG4.out.kept0 HX8.out)).mono ?_; rintro e w9 ⟨rfl, hE9⟩; have HX9 := Lib.hid (HX8.out.then0 hE9); clear hE9)
    | (go_at_call 23; refine (HP.out _).mono ?_; rintro e w9' ⟨A9, c9, rfl, hR9, hE9⟩; have HP9 := Lib.hid (And.intro hR9 (HX9.out.then0 hE9)); clear hR9 hE9)
    | (have hx := HG4; clear hx; go_at_call 32; refine (HBad.out _).mono ?_; rintro e w5 ⟨rfl, hw5⟩; have HX5 : Hid (Ext N0 w4 w5) := Lib.hid (by rw [hw5]; exact Ext.refl _ _); clear hw5)
    | (have hx := HG3; clear hx; go_at_call 33; refine (HNo.out g 2 2 _ 9 _ HG3.out HX3.out.1 HX3.out.2 HO.out.2.2 (by decide) (by decide) (by decide)).mono ?_; rintro e w4 ⟨rfl, hG4, hX4, _⟩; have HG4 : Hid (IsGI B w4 g ga3 3 (fun x => B ≤ x)) := Lib.hid hG4; have HX4 := Lib.hid hX4; clear hG4 hX4)
    | (have hx := HG2; clear hx; go_at_call 33; refine (HNo.out g 1 1 _ 2 _ HG2.out HX2.out.1 HX2.out.2 HO.out.2.1 (by decide) (by decide) (by decide)).mono ?_; rintro e w3 ⟨rfl, hG3, hX3, hb3⟩; have HG3 := Lib.hid hG3; have HX3 := Lib.hid (And.intro hX3 hb3); clear hG3 hX3 hb3)
    | (go_at_call 33; refine (HNo.out g 0 0 _ 0 _ HG1.out HX1.out.1 HX1.out.2 HO.out.1 (by decide) (by decide) (by decide)).mono ?_; rintro e w2 ⟨rfl, hG2, hX2, hb2⟩; have HG2 := Lib.hid hG2; have HX2 := Lib.hid (And.intro hX2 hb2); clear hG2 hX2 hb2))
  go_ret
  exact ⟨rfl, HX4.out.then0 HX10.out⟩
end Go.Proofs.Ytcngefpdfkkgdaa
