/- Contracts of functions of package backoff and of its reference, each proved for every value that its statement lets in (the conditions stand in the statements). -/
import Derived.Test.YtaafmlbgldnkiaaB1
namespace Go.Proofs.Ytaafmlbgldnkiaa
open Go.RowKit

/-- A timer: base, cap, wait, left. -/
structure Tm where
  b : Int
  c : Int
  v : Int
  l : Int
deriving DecidableEq
def IsTm (w : World) (g : Nat) (a : Tm) : Prop := IsT w g a.b a.c a.v a.l (decide (0 < a.l))
structure Tm.Ok (a : Tm) : Prop where
  b1 : 1 ≤ a.b
  bc : a.b ≤ a.c
  cm : a.c ≤ 1048576
  v1 : 1 ≤ a.v
  vc : a.v ≤ a.c
  l0 : 0 ≤ a.l
  lc : a.l ≤ a.c
/-- The document's answers, by definition. -/
def runA (a : Tm) (on : Bool) : Tm := if on = false then { a with l := 0 } else if a.l = 0 then { a with l := a.v } else a
def againA (a : Tm) : Tm := if 0 < a.l then { a with l := a.v } else a
def resetA (a : Tm) : Tm := if 0 < a.l then { a with v := a.b, l := a.b } else { a with v := a.b }
def tickB (a : Tm) : Bool := decide (a.l = 1)
def tickA (a : Tm) : Tm := if a.l = 0 then a else if 1 < a.l then { a with l := a.l - 1 } else { a with v := min a.c (2 * a.v), l := min a.c (2 * a.v) }
theorem runA_ok {a : Tm} (h : a.Ok) (on : Bool) : (runA a on).Ok := by
  obtain ⟨b1, bc, cm, v1, vc, l0, lc⟩ := h
  unfold runA
  split
  · exact ⟨b1, bc, cm, v1, vc, Int.le_refl 0, by show (0 : Int) ≤ a.c; omega⟩
  · split
    · exact ⟨b1, bc, cm, v1, vc, by show 0 ≤ a.v; omega, vc⟩
    · exact ⟨b1, bc, cm, v1, vc, l0, lc⟩
theorem againA_ok {a : Tm} (h : a.Ok) : (againA a).Ok := by
  obtain ⟨b1, bc, cm, v1, vc, l0, lc⟩ := h
  unfold againA
  split
  · exact ⟨b1, bc, cm, v1, vc, by show 0 ≤ a.v; omega, vc⟩
  · exact ⟨b1, bc, cm, v1, vc, l0, lc⟩
theorem resetA_ok {a : Tm} (h : a.Ok) : (resetA a).Ok := by
  obtain ⟨b1, bc, cm, v1, vc, l0, lc⟩ := h
  unfold resetA
  split
  · exact ⟨b1, bc, cm, b1, bc, by show 0 ≤ a.b; omega, bc⟩
  · exact ⟨b1, bc, cm, b1, bc, l0, lc⟩
theorem tickA_ok {a : Tm} (h : a.Ok) : (tickA a).Ok := by
  obtain ⟨b1, bc, cm, v1, vc, l0, lc⟩ := h
  unfold tickA
  split
  · exact ⟨b1, bc, cm, v1, vc, l0, lc⟩
  · split
    · exact ⟨b1, bc, cm, v1, vc, by show 0 ≤ a.l - 1; omega, by show a.l - 1 ≤ a.c; omega⟩
    · exact ⟨b1, bc, cm, by show 1 ≤ min a.c (2 * a.v); omega, by show min a.c (2 * a.v) ≤ a.c; omega, by show 0 ≤ min a.c (2 * a.v); omega, by show min a.c (2 * a.v) ≤ a.c; omega⟩
theorem run_calls (g : Nat) (a : Tm) (on : Bool) (w : World) (h : IsTm w g a) (ok : a.Ok) : Calls Try.prog 8 #[.pointer (some ⟨g, 0, none⟩), .bool on] w fun e w' => e = .returned (.tuple #[]) ∧ Ext (At g) w w' ∧ IsTm w' g (runA a on) := by
  obtain ⟨b1, bc, cm, v1, vc, l0, lc⟩ := ok
  obtain ⟨c0, c1, c2, c3, c4, f2, f3, f4⟩ := IsT.alls h
  by_cases hl : 0 < a.l
  · rw [decide_eq_true hl] at c4
    have hT : IsT w g a.b a.c a.v a.l true := by have := h; unfold IsTm at this; rwa [decide_eq_true hl] at this
    cases on with
    | true =>
      have e : runA a true = a := (if_neg (by decide)).trans (if_neg (by omega))
      rw [e]
      have H := Lib.hid h
      clear e h
      go_enter Try.func8, Try.ntmps8
      go_wp2_with (go_at_call 21; refine (made_calls g a.b w c0 b1).mono ?_; rintro e w' ⟨rfl, rfl⟩)
      exact bodyPost_ret (v := .tuple #[]) (by simp [results, Try.results8, go_sem]) rfl ⟨rfl, Ext.refl _ _, H.out⟩
    | false =>
      have e : runA a false = { a with l := 0 } := if_pos rfl
      rw [e]
      have HT := Lib.hid hT
      clear e h hT
      go_enter Try.func8, Try.ntmps8
      go_wp2_with (first | (go_at_call 21; refine (made_calls g a.b w c0 b1).mono ?_; rintro e w' ⟨rfl, rfl⟩) | (go_at_call 10; refine (again_calls g a.b a.c a.v 0 false _ ((HT.out.set4 false).set3 rfl) b1).mono ?_; rintro e w2 ⟨rfl, h2, h3⟩))
      go_end0
      exact ⟨rfl, ((extSet 4 _).same (extSet 3 _)).same h2, by simpa [IsTm] using h3⟩
  · have hl0 : a.l = 0 := by omega
    rw [decide_eq_false hl] at c4
    have hT : IsT w g a.b a.c a.v a.l false := by have := h; unfold IsTm at this; rwa [decide_eq_false hl] at this
    cases on with
    | true =>
      have e : runA a true = { a with l := a.v } := (if_neg (by decide)).trans (if_pos hl0)
      rw [e]
      have HT := Lib.hid hT
      clear e h hT hl0
      have hv : 0 < a.v := by omega
      go_enter Try.func8, Try.ntmps8
      go_wp2_with (first | (go_at_call 21; refine (made_calls g a.b w c0 b1).mono ?_; rintro e w' ⟨rfl, rfl⟩) | (go_at_call 10; refine (again_calls g a.b a.c a.v 0 true _ ((HT.out.set4 true).set3 rfl) b1).mono ?_; rintro e w2 ⟨rfl, h2, h3⟩))
      go_end0
      exact ⟨rfl, ((extSet 4 _).same (extSet 3 _)).same h2, by simpa [IsTm, hv] using h3⟩
    | false =>
      have e : runA a false = a := by rw [show runA a false = { a with l := 0 } from if_pos rfl, ← hl0]
      rw [e]
      have H := Lib.hid h
      clear e h hl0
      go_enter Try.func8, Try.ntmps8
      go_wp2_with (go_at_call 21; refine (made_calls g a.b w c0 b1).mono ?_; rintro e w' ⟨rfl, rfl⟩)
      exact bodyPost_ret (v := .tuple #[]) (by simp [results, Try.results8, go_sem]) rfl ⟨rfl, Ext.refl _ _, H.out⟩
theorem tagain_calls (g : Nat) (a : Tm) (w : World) (h : IsTm w g a) (ok : a.Ok) : Calls Try.prog 10 #[.pointer (some ⟨g, 0, none⟩)] w fun e w' => e = .returned (.tuple #[]) ∧ Ext (At g) w w' ∧ IsTm w' g (againA a) := by
  refine (again_calls g _ _ _ _ _ w h ok.b1).mono ?_
  rintro e w' ⟨rfl, h2, h3⟩
  refine ⟨rfl, h2, ?_⟩
  by_cases hl : 0 < a.l
  · rw [show againA a = { a with l := a.v } from if_pos hl]
    have hv : 0 < a.v := by have := ok.v1; omega
    simpa [IsTm, hl, hv] using h3
  · rw [show againA a = a from if_neg hl]
    simpa [IsTm, hl] using h3
theorem reset_calls (g : Nat) (a : Tm) (w : World) (h : IsTm w g a) (ok : a.Ok) : Calls Try.prog 12 #[.pointer (some ⟨g, 0, none⟩)] w fun e w' => e = .returned (.tuple #[]) ∧ Ext (At g) w w' ∧ IsTm w' g (resetA a) := by
  obtain ⟨b1, bc, cm, v1, vc, l0, lc⟩ := ok
  obtain ⟨c0, c1, c2, c3, c4, f2, f3, f4⟩ := IsT.alls h
  have H := Lib.hid h
  clear h
  go_enter Try.func12, Try.ntmps12
  go_wp2_with (first | (go_at_call 21; refine (made_calls g a.b w c0 b1).mono ?_; rintro e w' ⟨rfl, rfl⟩) | (go_at_call 10; refine (again_calls g a.b a.c a.b a.l (decide (0 < a.l)) _ (IsT.set2 H.out rfl) b1).mono ?_; rintro e w2 ⟨rfl, h2, h3⟩))
  go_end0
  refine ⟨rfl, (extSet 2 _).same h2, ?_⟩
  by_cases hl : 0 < a.l
  · rw [show resetA a = { a with v := a.b, l := a.b } from if_pos hl]
    have hv : 0 < a.b := by omega
    simpa [IsTm, hl, hv] using h3
  · rw [show resetA a = { a with v := a.b } from if_neg hl]
    simpa [IsTm, hl] using h3
end Go.Proofs.Ytaafmlbgldnkiaa
