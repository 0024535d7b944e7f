/- Contracts of functions of package backoff and of its reference, each proved for every value that its statement lets in (the conditions stand in the statements). -/
import Derived.Test.YtaafmlbgldnkiaaB2
namespace Go.Proofs.Ytaafmlbgldnkiaa
open Go.RowKit

def agg (a : Tm) : Value := .agg #[.int .i64 a.b, .int .i64 a.c, .int .i64 a.v, .int .i64 a.l]
theorem tick_calls (g : Nat) (a : Tm) (w : World) (h : IsTm w g a) (ok : a.Ok) : Calls Try.prog 16 #[.pointer (some ⟨g, 0, none⟩)] w fun e w' => e = .returned (.bool (tickB a)) ∧ Ext (At g) w w' ∧ IsTm w' g (tickA a) := by
  have ok' := Lib.hid ok
  obtain ⟨b1, bc, cm, v1, vc, l0, lc⟩ := ok
  obtain ⟨c0, c1, c2, c3, c4, f2, f3, f4⟩ := IsT.alls h
  by_cases hl : a.l = 0
  · have e1 : tickA a = a := if_pos hl
    have e2 : tickB a = false := by unfold tickB; rw [hl]; rfl
    have hT : IsT w g a.b a.c a.v a.l false := by have := h; unfold IsTm at this; rwa [hl] at this ⊢
    have hd : decide (0 < a.l) = false := decide_eq_false (by omega)
    rw [hd] at c4
    rw [e1, e2]
    have H := Lib.hid h
    clear e1 e2 h hl hd
    go_enter Try.func16, Try.ntmps16
    go_wp2_with (go_at_call 19; refine (running_calls g _ _ _ _ false w hT b1).mono ?_; rintro e w' ⟨rfl, rfl⟩)
    go_ret
    exact ⟨rfl, Ext.refl _ _, H.out⟩
  · have hl1 : 0 < a.l := by omega
    have hT : IsT w g a.b a.c a.v a.l true := by have := h; unfold IsTm at this; rwa [decide_eq_true hl1] at this
    have hd : decide (0 < a.l) = true := decide_eq_true hl1
    rw [hd] at c4
    have HT := Lib.hid hT
    by_cases h2 : 1 < a.l
    · have e1 : tickA a = { a with l := a.l - 1 } := (if_neg hl).trans (if_pos h2)
      have e2 : tickB a = false := decide_eq_false (by omega)
      have hd2 : decide (0 < a.l - 1) = true := decide_eq_true (by omega)
      rw [e1, e2]
      clear e1 e2 h hl hd hT
      go_enter Try.func16, Try.ntmps16
      go_wp2_with (go_at_call 19; refine (running_calls g _ _ _ _ true w HT.out b1).mono ?_; rintro e w' ⟨rfl, rfl⟩)
      go_ret
      exact ⟨rfl, extSet 3 _, by show IsT _ g a.b a.c a.v (a.l - 1) (decide (0 < a.l - 1)); rw [hd2]; exact IsT.set3 HT.out rfl⟩
    · have hl3 : a.l = 1 := by omega
      have e1 : tickA a = { a with v := min a.c (2 * a.v), l := min a.c (2 * a.v) } := (if_neg hl).trans (if_neg h2)
      have e2 : tickB a = true := decide_eq_true hl3
      have hl4 : ¬ 0 < a.l - 1 := by omega
      have hd2 : decide (0 < min a.c (2 * a.v)) = true := decide_eq_true (by omega)
      obtain ⟨v', hv'⟩ : ∃ v', min a.c (2 * a.v) = v' := ⟨_, rfl⟩
      have HL : Hid (∀ W, Calls Try.prog 22 #[.agg #[.int .i64 a.b, .int .i64 a.c], .int .i64 a.v] W fun e w' => e = .returned (.int .i64 v') ∧ Ext N0 W w') := Lib.hid (fun W => by have := longer_calls a.b a.c a.v W (by omega) (by omega); rwa [hv'] at this)
      rw [hv'] at e1 hd2
      rw [e1, e2]
      clear e1 e2 h hl hd hT hl3 hv'
      have hT2 : IsT (w.setCell ⟨g, 3, none⟩ (.int .i64 (a.l - 1))) g a.b a.c a.v (a.l - 1) true := IsT.set3 HT.out rfl
      have hT3 : IsT (w.setCell ⟨g, 3, none⟩ (.int .i64 (a.l - 1))).drew g a.b a.c a.v (a.l - 1) true := hT2
      obtain ⟨d0, d1, d2, d3, d4, k2, k3, k4⟩ := IsT.alls hT3
      have HT3 := Lib.hid hT3
      clear hT2 hT3
      go_enter Try.func16, Try.ntmps16
      go_wp2_with (go_at_call 19; refine (running_calls g _ _ _ _ true w HT.out b1).mono ?_; rintro e w' ⟨rfl, rfl⟩)
      go_region_with (go_at_call 22; refine (HL.out _).mono ?_; rintro e w2 ⟨rfl, hE2⟩; have hT4 : IsT w2 g a.b a.c a.v (a.l - 1) true := hE2.blk0 HT3.out; obtain ⟨m0, m1, m2, m3, m4, j2, j3, j4⟩ := IsT.alls hT4; have HT4 := Lib.hid hT4; clear hT4)
      all_goals
        go_wp2_with (go_at_call 10; refine (again_calls g a.b a.c v' (a.l - 1) true _ (IsT.set2 HT4.out rfl) b1).mono ?_; rintro e w5 ⟨rfl, h5, h6⟩)
        go_ret
        exact ⟨rfl, (((extSet 3 _).drew).then0 hE2).same ((extSet 2 _).same h5), by simpa [IsTm, hd2] using h6⟩
theorem rnew_good (b c : Int) (w : World) (h : 1 ≤ b ∧ b ≤ c ∧ c ≤ 1048576) : Calls Try.prog 6 #[.int .i64 b, .int .i64 c] w fun e w' => e = .returned (.tuple #[.agg #[.int .i64 b, .int .i64 c, .int .i64 b, .int .i64 0], .int .i64 0]) ∧ Ext N0 w w' := by
  obtain ⟨h1, h2, h3⟩ := h
  go_enter Try.func6, Try.ntmps6
  go_wp2
  exact bodyPost_ret (v := .tuple #[.agg #[.int .i64 b, .int .i64 c, .int .i64 b, .int .i64 0], .int .i64 0]) (by simp [results, Try.results6, go_sem]) rfl ⟨rfl, (Ext.refl _ _).alloc _⟩
theorem rnew_bad (b c : Int) (w : World) (h : ¬ (1 ≤ b ∧ b ≤ c ∧ c ≤ 1048576)) : Calls Try.prog 6 #[.int .i64 b, .int .i64 c] w fun e w' => e = .returned (.tuple #[.agg #[.int .i64 0, .int .i64 0, .int .i64 0, .int .i64 0], .int .i64 150]) ∧ Ext N0 w w' := by
  by_cases h1 : b < 1
  · go_enter Try.func6, Try.ntmps6
    go_wp2
    exact bodyPost_ret (v := .tuple #[.agg #[.int .i64 0, .int .i64 0, .int .i64 0, .int .i64 0], .int .i64 150]) (by simp [results, Try.results6, go_sem]) rfl ⟨rfl, (Ext.refl _ _).alloc _⟩
  · by_cases h2 : 1048576 < b
    · go_enter Try.func6, Try.ntmps6
      go_wp2
      exact bodyPost_ret (v := .tuple #[.agg #[.int .i64 0, .int .i64 0, .int .i64 0, .int .i64 0], .int .i64 150]) (by simp [results, Try.results6, go_sem]) rfl ⟨rfl, (Ext.refl _ _).alloc _⟩
    · by_cases h3 : c < b
      · go_enter Try.func6, Try.ntmps6
        go_wp2
        exact bodyPost_ret (v := .tuple #[.agg #[.int .i64 0, .int .i64 0, .int .i64 0, .int .i64 0], .int .i64 150]) (by simp [results, Try.results6, go_sem]) rfl ⟨rfl, (Ext.refl _ _).alloc _⟩
      · have h4 : 1048576 < c := by omega
        go_enter Try.func6, Try.ntmps6
        go_wp2
        exact bodyPost_ret (v := .tuple #[.agg #[.int .i64 0, .int .i64 0, .int .i64 0, .int .i64 0], .int .i64 150]) (by simp [results, Try.results6, go_sem]) rfl ⟨rfl, (Ext.refl _ _).alloc _⟩
theorem rrun_calls (a : Tm) (on : Bool) (w : World) (ok : a.Ok) : Calls Try.prog 9 #[agg a, .bool on] w fun e w' => e = .returned (agg (runA a on)) ∧ Ext N0 w w' := by
  obtain ⟨b1, bc, cm, v1, vc, l0, lc⟩ := ok
  unfold agg
  cases on with
  | false =>
    rw [show runA a false = { a with l := 0 } from if_pos rfl]
    go_enter Try.func9, Try.ntmps9
    go_wp2
    exact bodyPost_ret (v := .agg #[.int .i64 a.b, .int .i64 a.c, .int .i64 a.v, .int .i64 0]) (by simp [results, Try.results9, go_sem]) rfl ⟨rfl, ((Ext.refl _ _).alloc _).alloc _⟩
  | true =>
    by_cases hl : a.l = 0
    · rw [show runA a true = { a with l := a.v } from (if_neg (by decide)).trans (if_pos hl)]
      have hz : (a.l == 0) = true := beq_iff_eq.mpr hl
      go_enter Try.func9, Try.ntmps9
      go_wp2
      exact bodyPost_ret (v := .agg #[.int .i64 a.b, .int .i64 a.c, .int .i64 a.v, .int .i64 a.v]) (by simp [results, Try.results9, go_sem]) rfl ⟨rfl, ((Ext.refl _ _).alloc _).alloc _⟩
    · rw [show runA a true = a from (if_neg (by decide)).trans (if_neg hl)]
      have hz : (a.l == 0) = false := beq_eq_false_iff_ne.mpr hl
      go_enter Try.func9, Try.ntmps9
      go_wp2
      exact bodyPost_ret (v := .agg #[.int .i64 a.b, .int .i64 a.c, .int .i64 a.v, .int .i64 a.l]) (by simp [results, Try.results9, go_sem]) rfl ⟨rfl, ((Ext.refl _ _).alloc _).alloc _⟩
theorem ragain_calls (a : Tm) (w : World) : Calls Try.prog 11 #[agg a] w fun e w' => e = .returned (agg (againA a)) ∧ Ext N0 w w' := by
  unfold agg
  by_cases hl : 0 < a.l
  · rw [show againA a = { a with l := a.v } from if_pos hl]
    go_enter Try.func11, Try.ntmps11
    go_wp2
    exact bodyPost_ret (v := .agg #[.int .i64 a.b, .int .i64 a.c, .int .i64 a.v, .int .i64 a.v]) (by simp [results, Try.results11, go_sem]) rfl ⟨rfl, ((Ext.refl _ _).alloc _).alloc _⟩
  · rw [show againA a = a from if_neg hl]
    go_enter Try.func11, Try.ntmps11
    go_wp2
    exact bodyPost_ret (v := .agg #[.int .i64 a.b, .int .i64 a.c, .int .i64 a.v, .int .i64 a.l]) (by simp [results, Try.results11, go_sem]) rfl ⟨rfl, ((Ext.refl _ _).alloc _).alloc _⟩
theorem rreset_calls (a : Tm) (w : World) : Calls Try.prog 13 #[agg a] w fun e w' => e = .returned (agg (resetA a)) ∧ Ext N0 w w' := by
  unfold agg
  by_cases hl : 0 < a.l
  · rw [show resetA a = { a with v := a.b, l := a.b } from if_pos hl]
    go_enter Try.func13, Try.ntmps13
    go_wp2
    exact bodyPost_ret (v := .agg #[.int .i64 a.b, .int .i64 a.c, .int .i64 a.b, .int .i64 a.b]) (by simp [results, Try.results13, go_sem]) rfl ⟨rfl, ((Ext.refl _ _).alloc _).alloc _⟩
  · rw [show resetA a = { a with v := a.b } from if_neg hl]
    go_enter Try.func13, Try.ntmps13
    go_wp2
    exact bodyPost_ret (v := .agg #[.int .i64 a.b, .int .i64 a.c, .int .i64 a.b, .int .i64 a.l]) (by simp [results, Try.results13, go_sem]) rfl ⟨rfl, ((Ext.refl _ _).alloc _).alloc _⟩
theorem rtick_calls (a : Tm) (w : World) (ok : a.Ok) : Calls Try.prog 15 #[agg a] w fun e w' => e = .returned (.tuple #[agg (tickA a), .bool (tickB a)]) ∧ Ext N0 w w' := by
  obtain ⟨b1, bc, cm, v1, vc, l0, lc⟩ := ok
  unfold agg
  by_cases hl : a.l = 0
  · rw [show tickA a = a from if_pos hl, show tickB a = false from by unfold tickB; rw [hl]; rfl]
    have hz : (a.l == 0) = true := beq_iff_eq.mpr hl
    clear hl
    go_enter Try.func15, Try.ntmps15
    go_wp2
    exact bodyPost_ret (v := .tuple #[.agg #[.int .i64 a.b, .int .i64 a.c, .int .i64 a.v, .int .i64 a.l], .bool false]) (by simp [results, Try.results15, go_sem]) rfl ⟨rfl, ((Ext.refl _ _).alloc _).alloc _⟩
  · have hz : (a.l == 0) = false := beq_eq_false_iff_ne.mpr hl
    by_cases h2 : 1 < a.l
    · rw [show tickA a = { a with l := a.l - 1 } from (if_neg hl).trans (if_pos h2), show tickB a = false from decide_eq_false (by omega)]
      have h3 : 0 < a.l - 1 := by omega
      go_enter Try.func15, Try.ntmps15
      go_wp2
      exact bodyPost_ret (v := .tuple #[.agg #[.int .i64 a.b, .int .i64 a.c, .int .i64 a.v, .int .i64 (a.l - 1)], .bool false]) (by simp [results, Try.results15, go_sem]) rfl ⟨rfl, ((Ext.refl _ _).alloc _).alloc _⟩
    · rw [show tickA a = { a with v := min a.c (2 * a.v), l := min a.c (2 * a.v) } from (if_neg hl).trans (if_neg h2), show tickB a = true from decide_eq_true (by omega)]
      have h3 : ¬ 0 < a.l - 1 := by omega
      obtain ⟨v', hv', hcs⟩ : ∃ v', min a.c (2 * a.v) = v' ∧ ((2 * a.v < a.c ∧ v' = 2 * a.v) ∨ (¬ 2 * a.v < a.c ∧ v' = a.c)) := ⟨_, rfl, by omega⟩
      rw [hv']
      clear hv' hl h2
      rcases hcs with ⟨h4, rfl⟩ | ⟨h4, rfl⟩
      · go_enter Try.func15, Try.ntmps15
        go_wp2
        exact bodyPost_ret (v := .tuple #[.agg #[.int .i64 a.b, .int .i64 a.c, .int .i64 (2 * a.v), .int .i64 (2 * a.v)], .bool true]) (by simp [results, Try.results15, go_sem]) rfl ⟨rfl, ((Ext.refl _ _).alloc _).alloc _⟩
      · go_enter Try.func15, Try.ntmps15
        go_wp2
        exact bodyPost_ret (v := .tuple #[.agg #[.int .i64 a.b, .int .i64 a.c, .int .i64 a.c, .int .i64 a.c], .bool true]) (by simp [results, Try.results15, go_sem]) rfl ⟨rfl, ((Ext.refl _ _).alloc _).alloc _⟩
end Go.Proofs.Ytaafmlbgldnkiaa
