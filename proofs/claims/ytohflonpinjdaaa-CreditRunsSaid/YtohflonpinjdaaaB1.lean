/- Contracts of functions of package credit, each proved for every value that its statement lets in (the conditions stand in the statements). -/
import Derived.Test.YtohflonpinjdaaaProg
import Derived.Test.YtohflonpinjdaaaBase
import Derived.WalkSpells
import Derived.Outline
import Derived.BigRegion
import Derived.BigQuiet
import Derived.Deep.RegionHeld3
namespace Go.Proofs.Ytohflonpinjdaaa
open Go.RowKit

/-- An account: pulled, spent, timed, free. -/
structure Ac where
  p : Int
  s : Int
  t : Int
  f : Int
def Ac.cells (a : Ac) : Array Value := #[.int .i64 a.p, .int .i64 a.s, .int .i64 a.t, .int .i64 a.f, .bool true]
def IsAc (w : World) (g : Nat) (a : Ac) : Prop := w.heap[g]? = some (.cells #[.int .i64 a.p, .int .i64 a.s, .int .i64 a.t, .int .i64 a.f, .bool true] 54 (0, 0))
structure Ac.Ok (a : Ac) : Prop where
  s0 : 0 ≤ a.s
  sp : a.s ≤ a.p
  pm : a.p ≤ 1152921504606846976
  t0 : 0 ≤ a.t
  tm : a.t ≤ 100000
  f0 : 0 ≤ a.f
  fm : a.f ≤ 256
theorem none_calls (g : Nat) (b : Bool) (w : World) (h : w.cell? ⟨g, 4, none⟩ = some (.bool b)) : Calls Try.prog 24 #[.pointer (some ⟨g, 0, none⟩)] w fun e w' => e = .returned (.bool (!b)) ∧ w' = w := by
  go_enter Try.func24, Try.ntmps24
  go_wp2
  go_ret
  exact ⟨rfl, rfl⟩
theorem none_nil (w : World) : Calls Try.prog 24 #[.pointer none] w fun e w' => e = .returned (.bool true) ∧ w' = w := by
  go_enter Try.func24, Try.ntmps24
  go_wp2
  go_ret
  exact ⟨rfl, rfl⟩
theorem made_calls (g : Nat) (a : Ac) (w : World) (h : IsAc w g a) : Calls Try.prog 24 #[.pointer (some ⟨g, 0, none⟩)] w fun e w' => e = .returned (.bool false) ∧ w' = w :=
  none_calls g true w ((blkCell h 4).trans rfl)
theorem IsAc.set0 {w : World} {g : Nat} {a : Ac} (h : IsAc w g a) {v n : Int} (e : v = n) : IsAc (w.setCell ⟨g, 0, none⟩ (.int .i64 v)) g { a with p := n } := by subst e; exact (blkSet h 0 _).trans (by simp)
theorem IsAc.set1 {w : World} {g : Nat} {a : Ac} (h : IsAc w g a) {v n : Int} (e : v = n) : IsAc (w.setCell ⟨g, 1, none⟩ (.int .i64 v)) g { a with s := n } := by subst e; exact (blkSet h 1 _).trans (by simp)
theorem IsAc.set2 {w : World} {g : Nat} {a : Ac} (h : IsAc w g a) {v n : Int} (e : v = n) : IsAc (w.setCell ⟨g, 2, none⟩ (.int .i64 v)) g { a with t := n } := by subst e; exact (blkSet h 2 _).trans (by simp)
theorem IsAc.set3 {w : World} {g : Nat} {a : Ac} (h : IsAc w g a) {v n : Int} (e : v = n) : IsAc (w.setCell ⟨g, 3, none⟩ (.int .i64 v)) g { a with f := n } := by subst e; exact (blkSet h 3 _).trans (by simp)
theorem extSet {w : World} {g : Nat} (i : Nat) (v : Value) : Ext (At g) w (w.setCell ⟨g, i, none⟩ v) := (Ext.refl (At g) w).setCell (p := ⟨g, i, none⟩) (.inl rfl) _
theorem raise_calls (g : Nat) (a : Ac) (n : Int) (w : World) (h : IsAc w g a) (ok : a.Ok) (hn : 0 ≤ n ∧ n ≤ 1152921504606846976) :
    Calls Try.prog 25 #[.pointer (some ⟨g, 0, none⟩), .int .i64 n] w fun e w' => e = .returned (.int .i64 (max 0 (n - a.p))) ∧ Ext (At g) w w' ∧ IsAc w' g { a with p := max a.p n } := by
  obtain ⟨s0, sp, pm, t0, tm, f0, fm⟩ := ok
  have c0 := (blkCell h 0).trans rfl
  simp at c0
  have f0 := blkFrozen h 0
  by_cases hl : a.p < n
  · have e1 : max 0 (n - a.p) = n - a.p := by omega
    have e2 : max a.p n = n := by omega
    have E1 := Lib.hid e1
    have E2 := Lib.hid e2
    have H := Lib.hid h
    clear e1 e2 h
    go_enter Try.func25, Try.ntmps25
    go_wp2
    go_ret
    exact ⟨retInt E1.out.symm, extSet 0 _, H.out.set0 (by rw [E2.out]; omega)⟩
  · have e1 : max 0 (n - a.p) = 0 := by omega
    have e2 : max a.p n = a.p := by omega
    have E1 := Lib.hid e1
    have E2 := Lib.hid e2
    have H := Lib.hid h
    clear e1 e2 h
    go_enter Try.func25, Try.ntmps25
    go_wp2
    go_ret
    exact ⟨retInt E1.out.symm, extSet 0 _, H.out.set0 (by rw [E2.out])⟩
theorem left_calls (g : Nat) (a : Ac) (w : World) (h : IsAc w g a) (ok : a.Ok) : Calls Try.prog 26 #[.pointer (some ⟨g, 0, none⟩)] w fun e w' => e = .returned (.int .i64 (a.p - a.s)) ∧ ∃ m, w' = w.drewN m := by
  obtain ⟨s0, sp, pm, t0, tm, f0, fm⟩ := ok
  have c0 := (blkCell h 0).trans rfl
  have c1 := (blkCell h 1).trans rfl
  simp at c0 c1
  go_enter Try.func26, Try.ntmps26
  go_wp2_with fail
  go_quiet (fail)
  go_wp2
  go_ret
  exact ⟨rfl, _, rfl⟩
theorem pull_bad (g : Nat) (a : Ac) (n : Int) (w : World) (h : IsAc w g a) (hn : n < 0 ∨ 1152921504606846976 < n) :
    Calls Try.prog 8 #[.pointer (some ⟨g, 0, none⟩), .int .i64 n] w fun e w' => e = .returned (.tuple #[.int .i64 0, .int .i64 5]) ∧ w' = w := by
  rcases hn with hn | hn
  · go_enter Try.func8, Try.ntmps8
    go_wp2_with (go_at_call 24; refine (made_calls g a w h).mono ?_; rintro e w' ⟨rfl, rfl⟩)
    exact bodyPost_ret (v := .tuple #[.int .i64 0, .int .i64 5]) (by simp [results, Try.results8, go_sem]) rfl ⟨rfl, rfl⟩
  · have hn' : ¬ n < 0 := by omega
    go_enter Try.func8, Try.ntmps8
    go_wp2_with (go_at_call 24; refine (made_calls g a w h).mono ?_; rintro e w' ⟨rfl, rfl⟩)
    exact bodyPost_ret (v := .tuple #[.int .i64 0, .int .i64 5]) (by simp [results, Try.results8, go_sem]) rfl ⟨rfl, rfl⟩
theorem pull_good (g : Nat) (a : Ac) (n : Int) (w : World) (h : IsAc w g a) (ok : a.Ok) (hn : 0 ≤ n ∧ n ≤ 1152921504606846976) :
    Calls Try.prog 8 #[.pointer (some ⟨g, 0, none⟩), .int .i64 n] w fun e w' => e = .returned (.tuple #[.int .i64 (max 0 (n - a.p)), .int .i64 0]) ∧ Ext (At g) w w' ∧ IsAc w' g { a with p := max a.p n } := by
  have hr := Lib.hid (raise_calls g a n w h ok hn)
  go_enter Try.func8, Try.ntmps8
  go_wp2_with (first | (go_at_call 24; refine (made_calls g a w h).mono ?_; rintro e w' ⟨rfl, rfl⟩) | (go_at_call 25; refine hr.out.mono ?_; rintro e w2 ⟨rfl, h2, h3⟩))
  exact bodyPost_ret (v := .tuple #[.int .i64 (max 0 (n - a.p)), .int .i64 0]) (by simp [results, Try.results8, go_sem]) rfl ⟨rfl, h2, h3⟩
/-- What 'Spend' tells, and what then is spent. -/
def spendE (a : Ac) (n : Int) : Int := if n < 0 then 1 else if n > a.p - a.s then 140 else 0
def spendA (a : Ac) (n : Int) : Ac := if n < 0 then a else if n > a.p - a.s then a else { a with s := a.s + n }
theorem Ext.ofDrewN {S : Nat → Prop} {w : World} (m : Nat) : Ext S w (w.drewN m) := (Ext.refl S w).drewN m
theorem spend_calls (g : Nat) (a : Ac) (n : Int) (w : World) (h : IsAc w g a) (ok : a.Ok) :
    Calls Try.prog 9 #[.pointer (some ⟨g, 0, none⟩), .int .i64 n] w fun e w' => e = .returned (.int .i64 (spendE a n)) ∧ Ext (At g) w w' ∧ IsAc w' g (spendA a n) := by
  obtain ⟨s0, sp, pm, t0, tm, f0, fm⟩ := ok
  have ok : a.Ok := ⟨s0, sp, pm, t0, tm, f0, fm⟩
  have hl := Lib.hid (left_calls g a w h ok)
  have H := Lib.hid h
  have c1 := (blkCell h 1).trans rfl
  simp at c1
  by_cases h1 : n < 0
  · have e1 : spendE a n = 1 := if_pos h1
    have e2 : spendA a n = a := if_pos h1
    rw [e1, e2]
    clear e1 e2
    go_enter Try.func9, Try.ntmps9
    go_wp2_with (go_at_call 24; refine (made_calls g a w h).mono ?_; rintro e w' ⟨rfl, rfl⟩)
    go_ret
    exact ⟨rfl, Ext.refl _ _, H.out⟩
  · by_cases h2 : n > a.p - a.s
    · have e1 : spendE a n = 140 := (if_neg h1).trans (if_pos h2)
      have e2 : spendA a n = a := (if_neg h1).trans (if_pos h2)
      rw [e1, e2]
      clear e1 e2
      have h2' : a.p - a.s < n := h2
      go_enter Try.func9, Try.ntmps9
      go_wp2_with (first | (go_at_call 24; refine (made_calls g a w h).mono ?_; rintro e w' ⟨rfl, rfl⟩) | (go_at_call 26; refine hl.out.mono ?_; rintro e w2 ⟨rfl, m, rfl⟩))
      go_ret
      exact ⟨rfl, Ext.ofDrewN _, H.out⟩
    · have e1 : spendE a n = 0 := (if_neg h1).trans (if_neg h2)
      have e2 : spendA a n = { a with s := a.s + n } := (if_neg h1).trans (if_neg h2)
      rw [e1, e2]
      clear e1 e2
      have h2' : ¬ a.p - a.s < n := h2
      have f1 := blkFrozen h 1
      go_enter Try.func9, Try.ntmps9
      go_wp2_with (first | (go_at_call 24; refine (made_calls g a w h).mono ?_; rintro e w' ⟨rfl, rfl⟩) | (go_at_call 26; refine hl.out.mono ?_; rintro e w2 ⟨rfl, m, rfl⟩))
      go_ret
      exact ⟨rfl, (Ext.ofDrewN m).same (extSet 1 _), IsAc.set1 (w := w'.drewN m) H.out rfl⟩
theorem free_calls (g : Nat) (a : Ac) (w : World) (h : IsAc w g a) : Calls Try.prog 22 #[.pointer (some ⟨g, 0, none⟩)] w fun e w' => e = .returned (.int .i64 a.f) ∧ w' = w := by
  have c := (blkCell h 3).trans rfl
  simp at c
  go_enter Try.func22, Try.ntmps22
  go_wp2_with (go_at_call 24; refine (made_calls g a w h).mono ?_; rintro e w' ⟨rfl, rfl⟩)
  go_ret
  exact ⟨rfl, rfl⟩
theorem pulled_calls (g : Nat) (a : Ac) (w : World) (h : IsAc w g a) : Calls Try.prog 11 #[.pointer (some ⟨g, 0, none⟩)] w fun e w' => e = .returned (.int .i64 a.p) ∧ w' = w := by
  have c := (blkCell h 0).trans rfl
  simp at c
  go_enter Try.func11, Try.ntmps11
  go_wp2_with (go_at_call 24; refine (made_calls g a w h).mono ?_; rintro e w' ⟨rfl, rfl⟩)
  go_ret
  exact ⟨rfl, rfl⟩
theorem spent_calls (g : Nat) (a : Ac) (w : World) (h : IsAc w g a) : Calls Try.prog 10 #[.pointer (some ⟨g, 0, none⟩)] w fun e w' => e = .returned (.int .i64 a.s) ∧ w' = w := by
  have c := (blkCell h 1).trans rfl
  simp at c
  go_enter Try.func10, Try.ntmps10
  go_wp2_with (go_at_call 24; refine (made_calls g a w h).mono ?_; rintro e w' ⟨rfl, rfl⟩)
  go_ret
  exact ⟨rfl, rfl⟩
theorem timed_calls (g : Nat) (a : Ac) (w : World) (h : IsAc w g a) : Calls Try.prog 23 #[.pointer (some ⟨g, 0, none⟩)] w fun e w' => e = .returned (.int .i64 a.t) ∧ w' = w := by
  have c := (blkCell h 2).trans rfl
  simp at c
  go_enter Try.func23, Try.ntmps23
  go_wp2_with (go_at_call 24; refine (made_calls g a w h).mono ?_; rintro e w' ⟨rfl, rfl⟩)
  go_ret
  exact ⟨rfl, rfl⟩
theorem aleft_calls (g : Nat) (a : Ac) (w : World) (h : IsAc w g a) (ok : a.Ok) : Calls Try.prog 12 #[.pointer (some ⟨g, 0, none⟩)] w fun e w' => e = .returned (.int .i64 (a.p - a.s)) ∧ ∃ m, w' = w.drewN m := by
  have hl := Lib.hid (left_calls g a w h ok)
  go_enter Try.func12, Try.ntmps12
  go_wp2_with (first | (go_at_call 24; refine (made_calls g a w h).mono ?_; rintro e w' ⟨rfl, rfl⟩) | (go_at_call 26; refine hl.out.mono ?_; rintro e w2 ⟨rfl, m, rfl⟩))
  go_ret
  exact ⟨rfl, _, rfl⟩
theorem may_calls (g : Nat) (a : Ac) (w : World) (h : IsAc w g a) (ok : a.Ok) : Calls Try.prog 21 #[.pointer (some ⟨g, 0, none⟩)] w fun e w' => e = .returned (.bool (decide (a.s < a.p))) ∧ ∃ m, w' = w.drewN m := by
  have hl := Lib.hid (aleft_calls g a w h ok)
  go_enter Try.func21, Try.ntmps21
  go_wp2_with (go_at_call 12; refine hl.out.mono ?_; rintro e w2 ⟨rfl, m, rfl⟩)
  go_ret
  exact ⟨rfl, _, rfl⟩
theorem new_calls (n : Int) (w : World) (hn : 0 ≤ n ∧ n ≤ 256) : Calls Try.prog 6 #[.int .i64 n] w fun e w' => e = .returned (.tuple #[.pointer (some ⟨w.heap.size, 0, none⟩), .int .i64 0]) ∧ Ext N0 w w' ∧ IsAc w' w.heap.size ⟨0, 0, 0, n⟩ ∧ w'.heap.size = w.heap.size + 1 := by
  go_enter Try.func6, Try.ntmps6
  go_wp2
  exact bodyPost_ret (v := .tuple #[.pointer (some ⟨w.heap.size, 0, none⟩), .int .i64 0]) (by simp [results, Try.results6, go_sem]) rfl ⟨rfl, (Ext.refl _ _).alloc _, blkNew _ _, by simp⟩
theorem new_bad (n : Int) (w : World) (hn : n < 0 ∨ 256 < n) : Calls Try.prog 6 #[.int .i64 n] w fun e w' => e = .returned (.tuple #[.pointer none, .int .i64 140]) ∧ w' = w := by
  rcases hn with hn | hn
  · go_enter Try.func6, Try.ntmps6
    go_wp2
    exact bodyPost_ret (v := .tuple #[.pointer none, .int .i64 140]) (by simp [results, Try.results6, go_sem]) rfl ⟨rfl, rfl⟩
  · have : ¬ n < 0 := by omega
    go_enter Try.func6, Try.ntmps6
    go_wp2
    exact bodyPost_ret (v := .tuple #[.pointer none, .int .i64 140]) (by simp [results, Try.results6, go_sem]) rfl ⟨rfl, rfl⟩
end Go.Proofs.Ytohflonpinjdaaa
