/- Contracts of functions of package credit and of its reference, each proved for every value that its statement lets in (the conditions stand in the statements). -/
import Derived.Test.YtohflonpinjdaaaB2
namespace Go.Proofs.Ytohflonpinjdaaa
open Go.RowKit

/-- An account, as the reference has it. -/
def agg (a : Ac) : Value := .agg #[.int .i64 a.f, .int .i64 a.p, .int .i64 a.s, .int .i64 a.t]
theorem rnew_calls (n : Int) (w : World) (hn : 0 ≤ n ∧ n ≤ 256) : Calls Try.prog 13 #[.int .i64 n] w fun e w' => e = .returned (.tuple #[.agg #[.int .i64 n, .int .i64 0, .int .i64 0, .int .i64 0], .int .i64 0]) ∧ Ext N0 w w' := by
  go_enter Try.func13, Try.ntmps13
  go_wp2
  exact bodyPost_ret (v := .tuple #[.agg #[.int .i64 n, .int .i64 0, .int .i64 0, .int .i64 0], .int .i64 0]) (by simp [results, Try.results13, go_sem]) rfl ⟨rfl, (Ext.refl _ _).alloc _⟩
theorem rnew_bad (n : Int) (w : World) (hn : n < 0 ∨ 256 < n) : Calls Try.prog 13 #[.int .i64 n] w fun e w' => e = .returned (.tuple #[.agg #[.int .i64 0, .int .i64 0, .int .i64 0, .int .i64 0], .int .i64 140]) ∧ Ext N0 w w' := by
  rcases hn with hn | hn
  · go_enter Try.func13, Try.ntmps13
    go_wp2
    exact bodyPost_ret (v := .tuple #[.agg #[.int .i64 0, .int .i64 0, .int .i64 0, .int .i64 0], .int .i64 140]) (by simp [results, Try.results13, go_sem]) rfl ⟨rfl, (Ext.refl _ _).alloc _⟩
  · have : ¬ n < 0 := by omega
    go_enter Try.func13, Try.ntmps13
    go_wp2
    exact bodyPost_ret (v := .tuple #[.agg #[.int .i64 0, .int .i64 0, .int .i64 0, .int .i64 0], .int .i64 140]) (by simp [results, Try.results13, go_sem]) rfl ⟨rfl, (Ext.refl _ _).alloc _⟩
theorem rspend_calls (a : Ac) (n : Int) (w : World) (ok : a.Ok) : Calls Try.prog 14 #[agg a, .int .i64 n] w fun e w' => e = .returned (.tuple #[agg (spendA a n), .int .i64 (spendE a n)]) ∧ Ext N0 w w' := by
  obtain ⟨s0, sp, pm, t0, tm, f0, fm⟩ := ok
  unfold agg
  by_cases h1 : n < 0
  · have e1 : spendE a n = 1 := if_pos h1
    have e2 : spendA a n = a := if_pos h1
    rw [e1, e2]
    clear e1 e2
    go_enter Try.func14, Try.ntmps14
    go_wp2
    exact bodyPost_ret (v := .tuple #[.agg #[.int .i64 a.f, .int .i64 a.p, .int .i64 a.s, .int .i64 a.t], .int .i64 1]) (by simp [results, Try.results14, go_sem]) rfl ⟨rfl, ((Ext.refl _ _).alloc _).alloc _⟩
  · by_cases h2 : n > a.p - a.s
    · have e1 : spendE a n = 140 := (if_neg h1).trans (if_pos h2)
      have e2 : spendA a n = a := (if_neg h1).trans (if_pos h2)
      rw [e1, e2]
      clear e1 e2
      have h2' : a.p - a.s < n := h2
      go_enter Try.func14, Try.ntmps14
      go_wp2
      exact bodyPost_ret (v := .tuple #[.agg #[.int .i64 a.f, .int .i64 a.p, .int .i64 a.s, .int .i64 a.t], .int .i64 140]) (by simp [results, Try.results14, go_sem]) rfl ⟨rfl, ((Ext.refl _ _).alloc _).alloc _⟩
    · have e1 : spendE a n = 0 := (if_neg h1).trans (if_neg h2)
      have e2 : spendA a n = { a with s := a.s + n } := (if_neg h1).trans (if_neg h2)
      rw [e1, e2]
      clear e1 e2
      have h2' : ¬ a.p - a.s < n := h2
      go_enter Try.func14, Try.ntmps14
      go_wp2
      exact bodyPost_ret (v := .tuple #[.agg #[.int .i64 a.f, .int .i64 a.p, .int .i64 (a.s + n), .int .i64 a.t], .int .i64 0]) (by simp [results, Try.results14, go_sem]) rfl ⟨rfl, ((Ext.refl _ _).alloc _).alloc _⟩
theorem rpull_bad (a : Ac) (n : Int) (w : World) (hn : n < 0 ∨ 1152921504606846976 < n) : Calls Try.prog 19 #[agg a, .int .i64 n] w fun e w' => e = .returned (.tuple #[agg a, .int .i64 0, .int .i64 5]) ∧ Ext N0 w w' := by
  unfold agg
  rcases hn with hn | hn
  · go_enter Try.func19, Try.ntmps19
    go_wp2
    exact bodyPost_ret (v := .tuple #[.agg #[.int .i64 a.f, .int .i64 a.p, .int .i64 a.s, .int .i64 a.t], .int .i64 0, .int .i64 5]) (by simp [results, Try.results19, go_sem]) rfl ⟨rfl, ((Ext.refl _ _).alloc _).alloc _⟩
  · have : ¬ n < 0 := by omega
    go_enter Try.func19, Try.ntmps19
    go_wp2
    exact bodyPost_ret (v := .tuple #[.agg #[.int .i64 a.f, .int .i64 a.p, .int .i64 a.s, .int .i64 a.t], .int .i64 0, .int .i64 5]) (by simp [results, Try.results19, go_sem]) rfl ⟨rfl, ((Ext.refl _ _).alloc _).alloc _⟩
theorem rpull_good (a : Ac) (n k p' : Int) (w : World) (ok : a.Ok) (hn : 0 ≤ n ∧ n ≤ 1152921504606846976) (hk : k = max 0 (n - a.p)) (hp : p' = max a.p n) :
    Calls Try.prog 19 #[agg a, .int .i64 n] w fun e w' => e = .returned (.tuple #[agg { a with p := p' }, .int .i64 k, .int .i64 0]) ∧ Ext N0 w w' := by
  obtain ⟨s0, sp, pm, t0, tm, f0, fm⟩ := ok
  unfold agg
  have hcs : (a.p < n ∧ k = n - a.p ∧ p' = n) ∨ (¬ a.p < n ∧ k = 0 ∧ p' = a.p) := by omega
  clear hk hp
  rcases hcs with ⟨h1, rfl, rfl⟩ | ⟨h1, rfl, rfl⟩
  · have e : a.p + (p' - a.p) = p' := by omega
    go_enter Try.func19, Try.ntmps19
    go_wp2
    exact bodyPost_ret (v := .tuple #[.agg #[.int .i64 a.f, .int .i64 p', .int .i64 a.s, .int .i64 a.t], .int .i64 (p' - a.p), .int .i64 0]) (by simp [results, Try.results19, go_sem]) rfl ⟨rfl, ((Ext.refl _ _).alloc _).alloc _⟩
  · go_enter Try.func19, Try.ntmps19
    go_wp2
    exact bodyPost_ret (v := .tuple #[.agg #[.int .i64 a.f, .int .i64 a.p, .int .i64 a.s, .int .i64 a.t], .int .i64 0, .int .i64 0]) (by simp [results, Try.results19, go_sem]) rfl ⟨rfl, ((Ext.refl _ _).alloc _).alloc _⟩
theorem fork_calls (g : Nat) (a : Ac) (w : World) (h : IsAc w g a) : Calls Try.prog 18 #[.pointer (some ⟨g, 0, none⟩)] w fun e w' => e = .returned (.pointer (some ⟨w.heap.size, 0, none⟩)) ∧ Ext N0 w w' ∧ IsAc w' w.heap.size a := by
  have c0 := (blkCell h 0).trans rfl
  have c1 := (blkCell h 1).trans rfl
  have c2 := (blkCell h 2).trans rfl
  have c3 := (blkCell h 3).trans rfl
  have c4 := (blkCell h 4).trans rfl
  simp at c0 c1 c2 c3 c4
  go_enter Try.func18, Try.ntmps18
  go_wp2_with (go_at_call 24; refine (made_calls g a w h).mono ?_; rintro e w' ⟨rfl, rfl⟩)
  go_ret
  exact ⟨rfl, (Ext.refl _ _).alloc _, blkNew _ _⟩
theorem timer_calls (g : Nat) (a : Ac) (w : World) (h : IsAc w g a) (ok : a.Ok) : Calls Try.prog 15 #[.pointer (some ⟨g, 0, none⟩)] w fun e w' => e = .returned (.int .i64 (a.t + 1)) ∧ Ext (At g) w w' ∧ IsAc w' g { a with t := a.t + 1 } := by
  obtain ⟨s0, sp, pm, t0, tm, f0, fm⟩ := ok
  have c2 := (blkCell h 2).trans rfl
  simp at c2
  have f2 := blkFrozen h 2
  have H := Lib.hid h
  go_enter Try.func15, Try.ntmps15
  go_wp2_with (go_at_call 24; refine (made_calls g a w h).mono ?_; rintro e w' ⟨rfl, rfl⟩)
  go_ret
  exact ⟨rfl, extSet 2 _, H.out.set2 rfl⟩
/-- What 'TakeFree' takes. -/
def takeK (a : Ac) (n : Int) : Int := max 0 (min n a.f)
theorem take_calls (g : Nat) (a : Ac) (n : Int) (w : World) (h : IsAc w g a) (ok : a.Ok) : Calls Try.prog 16 #[.pointer (some ⟨g, 0, none⟩), .int .i64 n] w fun e w' => e = .returned (.int .i64 (takeK a n)) ∧ Ext (At g) w w' ∧ IsAc w' g { a with f := a.f - takeK a n } := by
  obtain ⟨s0, sp, pm, t0, tm, f0, fm⟩ := ok
  have c3 := (blkCell h 3).trans rfl
  simp at c3
  have f3 := blkFrozen h 3
  have H := Lib.hid h
  obtain ⟨k, hk⟩ : ∃ k, takeK a n = k := ⟨_, rfl⟩
  rw [hk]
  have hcs : (a.f < n ∧ k = a.f) ∨ (¬ a.f < n ∧ 0 < n ∧ k = n) ∨ (¬ a.f < n ∧ ¬ 0 < n ∧ k = 0) := by unfold takeK at hk; omega
  clear hk
  rcases hcs with ⟨h1, rfl⟩ | ⟨h1, h2, rfl⟩ | ⟨h1, h2, rfl⟩
  · by_cases hz : 0 < a.f
    · go_enter Try.func16, Try.ntmps16
      go_wp2_with (go_at_call 24; refine (made_calls g a w h).mono ?_; rintro e w' ⟨rfl, rfl⟩)
      go_ret
      exact ⟨rfl, extSet 3 _, H.out.set3 (by omega)⟩
    · have hz' : a.f = 0 := by omega
      have HZ := Lib.hid hz'
      clear hz'
      go_enter Try.func16, Try.ntmps16
      go_wp2_with (go_at_call 24; refine (made_calls g a w h).mono ?_; rintro e w' ⟨rfl, rfl⟩)
      go_ret
      exact ⟨retInt HZ.out.symm, extSet 3 _, H.out.set3 (by have := HZ.out; omega)⟩
  · go_enter Try.func16, Try.ntmps16
    go_wp2_with (go_at_call 24; refine (made_calls g a w h).mono ?_; rintro e w' ⟨rfl, rfl⟩)
    go_ret
    exact ⟨rfl, extSet 3 _, H.out.set3 (by omega)⟩
  · go_enter Try.func16, Try.ntmps16
    go_wp2_with (go_at_call 24; refine (made_calls g a w h).mono ?_; rintro e w' ⟨rfl, rfl⟩)
    go_ret
    exact ⟨rfl, extSet 3 _, H.out.set3 (by omega)⟩
theorem rtake_calls (a : Ac) (n : Int) (w : World) (ok : a.Ok) : Calls Try.prog 17 #[agg a, .int .i64 n] w fun e w' => e = .returned (.tuple #[agg { a with f := a.f - takeK a n }, .int .i64 (takeK a n)]) ∧ Ext N0 w w' := by
  obtain ⟨s0, sp, pm, t0, tm, f0, fm⟩ := ok
  unfold agg
  obtain ⟨k, hk⟩ : ∃ k, takeK a n = k := ⟨_, rfl⟩
  rw [hk]
  have hcs : (a.f < n ∧ 0 < a.f ∧ k = a.f) ∨ (a.f < n ∧ ¬ 0 < a.f ∧ k = 0) ∨ (¬ a.f < n ∧ 0 < n ∧ k = n) ∨ (¬ a.f < n ∧ ¬ 0 < n ∧ k = 0) := by unfold takeK at hk; omega
  clear hk
  rcases hcs with ⟨h1, h2, rfl⟩ | ⟨h1, h2, rfl⟩ | ⟨h1, h2, rfl⟩ | ⟨h1, h2, rfl⟩
  · go_enter Try.func17, Try.ntmps17
    go_wp2
    exact bodyPost_ret (v := .tuple #[.agg #[.int .i64 (a.f - a.f), .int .i64 a.p, .int .i64 a.s, .int .i64 a.t], .int .i64 a.f]) (by simp [results, Try.results17, go_sem]) rfl ⟨rfl, ((Ext.refl _ _).alloc _).alloc _⟩
  · go_enter Try.func17, Try.ntmps17
    go_wp2
    exact bodyPost_ret (v := .tuple #[.agg #[.int .i64 a.f, .int .i64 a.p, .int .i64 a.s, .int .i64 a.t], .int .i64 0]) (by simp [results, Try.results17, go_sem]) rfl ⟨rfl, ((Ext.refl _ _).alloc _).alloc _⟩
  · go_enter Try.func17, Try.ntmps17
    go_wp2
    exact bodyPost_ret (v := .tuple #[.agg #[.int .i64 (a.f - k), .int .i64 a.p, .int .i64 a.s, .int .i64 a.t], .int .i64 k]) (by simp [results, Try.results17, go_sem]) rfl ⟨rfl, ((Ext.refl _ _).alloc _).alloc _⟩
  · go_enter Try.func17, Try.ntmps17
    go_wp2
    exact bodyPost_ret (v := .tuple #[.agg #[.int .i64 a.f, .int .i64 a.p, .int .i64 a.s, .int .i64 a.t], .int .i64 0]) (by simp [results, Try.results17, go_sem]) rfl ⟨rfl, ((Ext.refl _ _).alloc _).alloc _⟩
theorem same_calls (g : Nat) (a : Ac) (w : World) (h : IsAc w g a) (ok : a.Ok) : Calls Try.prog 20 #[.pointer (some ⟨g, 0, none⟩), agg a] w fun e w' => e = .returned (.bool true) ∧ Ext N0 w w' := by
  have ok' := Lib.hid ok
  obtain ⟨s0, sp, pm, t0, tm, f0, fm⟩ := ok
  unfold agg
  have hE : Ext N0 w (w.alloc (.cells #[.int .i64 a.f, .int .i64 a.p, .int .i64 a.s, .int .i64 a.t] 37)) := (Ext.refl _ _).alloc _
  have HA : Hid (IsAc (w.alloc (.cells #[.int .i64 a.f, .int .i64 a.p, .int .i64 a.s, .int .i64 a.t] 37)) g a) := Lib.hid (hE.blk0 h)
  have HE := Lib.hid hE
  clear hE h
  go_enter Try.func20, Try.ntmps20
  go_wp2_with fail
  go_quiet (first
    | (go_at_call 22; exact Calls.quiet_of_same (free_calls g a _ HA.out))
    | (go_at_call 11; exact Calls.quiet_of_same (pulled_calls g a _ HA.out))
    | (go_at_call 10; exact Calls.quiet_of_same (spent_calls g a _ HA.out))
    | (go_at_call 23; exact Calls.quiet_of_same (timed_calls g a _ HA.out))
    | (go_at_call 12; exact Calls.quiet_of (aleft_calls g a _ HA.out ok'.out))
    | (go_at_call 21; exact Calls.quiet_of (may_calls g a _ HA.out ok'.out)))
  go_wp2
  go_ret
  exact ⟨rfl, HE.out.drewN _⟩
end Go.Proofs.Ytohflonpinjdaaa
