/- Contracts of functions of package backoff and of its reference, each proved for every value that its statement lets in (the conditions stand in the statements). -/
import Derived.Test.YtaafmlbgldnkiaaProg
import Derived.Test.YtaafmlbgldnkiaaBase
import Derived.WalkSpells
import Derived.Outline
import Derived.BigRegion
import Derived.BigQuiet
import Derived.Deep.RegionHeld3
namespace Go.Proofs.Ytaafmlbgldnkiaa
open Go.RowKit

/-- A timer's block: its bounds, its wait, what is left, does it run? -/
def IsT (w : World) (g : Nat) (b c v l : Int) (o : Bool) : Prop := w.heap[g]? = some (.cells #[.int .i64 b, .int .i64 c, .int .i64 v, .int .i64 l, .bool o] 45 (0, 0))
theorem IsT.alls {w : World} {g : Nat} {b c v l : Int} {o : Bool} (h : IsT w g b c v l o) :
    w.cell? ⟨g, 0, none⟩ = some (.int .i64 b) ∧ w.cell? ⟨g, 1, none⟩ = some (.int .i64 c) ∧ w.cell? ⟨g, 2, none⟩ = some (.int .i64 v) ∧ w.cell? ⟨g, 3, none⟩ = some (.int .i64 l) ∧ w.cell? ⟨g, 4, none⟩ = some (.bool o) ∧
    w.frozen? ⟨g, 2, none⟩ = false ∧ w.frozen? ⟨g, 3, none⟩ = false ∧ w.frozen? ⟨g, 4, none⟩ = false :=
  ⟨(blkCell h 0).trans rfl, (blkCell h 1).trans rfl, (blkCell h 2).trans rfl, (blkCell h 3).trans rfl, (blkCell h 4).trans rfl, blkFrozen h 2, blkFrozen h 3, blkFrozen h 4⟩
theorem IsT.set2 {w : World} {g : Nat} {b c v l : Int} {o : Bool} (h : IsT w g b c v l o) {x y : Int} (e : x = y) : IsT (w.setCell ⟨g, 2, none⟩ (.int .i64 x)) g b c y l o := by subst e; exact (blkSet h 2 _).trans (by simp)
theorem IsT.set3 {w : World} {g : Nat} {b c v l : Int} {o : Bool} (h : IsT w g b c v l o) {x y : Int} (e : x = y) : IsT (w.setCell ⟨g, 3, none⟩ (.int .i64 x)) g b c v y o := by subst e; exact (blkSet h 3 _).trans (by simp)
theorem IsT.set4 {w : World} {g : Nat} {b c v l : Int} {o : Bool} (h : IsT w g b c v l o) (x : Bool) : IsT (w.setCell ⟨g, 4, none⟩ (.bool x)) g b c v l x := (blkSet h 4 _).trans (by simp)
theorem extSet {w : World} {g : Nat} (i : Nat) (v : Value) : Ext (At g) w (w.setCell ⟨g, i, none⟩ v) := (Ext.refl (At g) w).setCell (p := ⟨g, i, none⟩) (.inl rfl) _
theorem atNew {g : Nat} {w a b : World} (h : Ext N0 w a) (k : Ext (At g) a b) (hg : w.heap.size ≤ g) : Ext N0 w b := h.trans k (fun k hk => .inr (by rw [show k = g from hk]; exact hg))
theorem none_calls (g : Nat) (b : Int) (w : World) (h : w.cell? ⟨g, 0, none⟩ = some (.int .i64 b)) : Calls Try.prog 21 #[.pointer (some ⟨g, 0, none⟩)] w fun e w' => e = .returned (.bool (b == 0)) ∧ w' = w := by
  go_enter Try.func21, Try.ntmps21
  go_wp2
  go_ret
  exact ⟨rfl, rfl⟩
theorem none_nil (w : World) : Calls Try.prog 21 #[.pointer none] w fun e w' => e = .returned (.bool true) ∧ w' = w := by
  go_enter Try.func21, Try.ntmps21
  go_wp2
  go_ret
  exact ⟨rfl, rfl⟩
theorem made_calls (g : Nat) (b : Int) (w : World) (h : w.cell? ⟨g, 0, none⟩ = some (.int .i64 b)) (hb : 1 ≤ b) : Calls Try.prog 21 #[.pointer (some ⟨g, 0, none⟩)] w fun e w' => e = .returned (.bool false) ∧ w' = w := by
  have := none_calls g b w h
  rwa [show (b == 0) = false from beq_eq_false_iff_ne.mpr (by omega)] at this
theorem running_calls (g : Nat) (b c v l : Int) (o : Bool) (w : World) (h : IsT w g b c v l o) (hb : 1 ≤ b) : Calls Try.prog 19 #[.pointer (some ⟨g, 0, none⟩)] w fun e w' => e = .returned (.bool o) ∧ w' = w := by
  obtain ⟨c0, c1, c2, c3, c4, _, _, _⟩ := h.alls
  go_enter Try.func19, Try.ntmps19
  go_wp2_with (go_at_call 21; refine (made_calls g b w c0 hb).mono ?_; rintro e w' ⟨rfl, rfl⟩)
  go_ret
  exact ⟨rfl, rfl⟩
theorem again_calls (g : Nat) (b c v l : Int) (o : Bool) (w : World) (h : IsT w g b c v l o) (hb : 1 ≤ b) : Calls Try.prog 10 #[.pointer (some ⟨g, 0, none⟩)] w fun e w' => e = .returned (.tuple #[]) ∧ Ext (At g) w w' ∧ IsT w' g b c v (if o then v else l) o := by
  obtain ⟨c0, c1, c2, c3, c4, f2, f3, f4⟩ := h.alls
  have H := Lib.hid h
  clear h
  cases o with
  | true =>
    go_enter Try.func10, Try.ntmps10
    go_wp2_with (go_at_call 19; refine (running_calls g b c v l true w H.out hb).mono ?_; rintro e w' ⟨rfl, rfl⟩)
    go_end0
    exact ⟨rfl, extSet 3 _, H.out.set3 rfl⟩
  | false =>
    go_enter Try.func10, Try.ntmps10
    go_wp2_with (go_at_call 19; refine (running_calls g b c v l false w H.out hb).mono ?_; rintro e w' ⟨rfl, rfl⟩)
    go_end0
    exact ⟨rfl, Ext.refl _ _, H.out⟩
theorem longer_calls (b c v : Int) (w : World) (hv : 0 ≤ v ∧ v ≤ 1048576) (_hc : 0 ≤ c ∧ c ≤ 1048576) : Calls Try.prog 22 #[.agg #[.int .i64 b, .int .i64 c], .int .i64 v] w fun e w' => e = .returned (.int .i64 (min c (2 * v))) ∧ Ext N0 w w' := by
  by_cases h : c < 2 * v
  · have e1 : min c (2 * v) = c := by omega
    rw [e1]
    clear e1
    go_enter Try.func22, Try.ntmps22
    go_wp2
    go_ret
    exact ⟨rfl, (Ext.refl _ _).alloc _⟩
  · have e1 : min c (2 * v) = 2 * v := by omega
    rw [e1]
    clear e1
    go_enter Try.func22, Try.ntmps22
    go_wp2
    go_ret
    exact ⟨rfl, (Ext.refl _ _).alloc _⟩
theorem may_calls (b c : Int) (w : World) : Calls Try.prog 24 #[.agg #[.int .i64 b, .int .i64 c]] w fun e w' => e = .returned (.bool (decide (1 ≤ b) && decide (b ≤ c) && decide (c ≤ 1048576))) ∧ Ext N0 w w' := by
  by_cases h1 : 1 ≤ b
  · by_cases h2 : b ≤ c
    · by_cases h3 : c ≤ 1048576
      · go_enter Try.func24, Try.ntmps24
        go_wp2
        go_ret
        exact ⟨by simp [h1, h2, h3], (Ext.refl _ _).alloc _⟩
      · go_enter Try.func24, Try.ntmps24
        go_wp2
        go_ret
        exact ⟨by simp [h3], (Ext.refl _ _).alloc _⟩
    · go_enter Try.func24, Try.ntmps24
      go_wp2
      go_ret
      exact ⟨by simp; omega, (Ext.refl _ _).alloc _⟩
  · go_enter Try.func24, Try.ntmps24
    go_wp2
    go_ret
    exact ⟨by simp; omega, (Ext.refl _ _).alloc _⟩
theorem wait_calls (g : Nat) (b c v l : Int) (o : Bool) (w : World) (h : IsT w g b c v l o) (hb : 1 ≤ b) : Calls Try.prog 17 #[.pointer (some ⟨g, 0, none⟩)] w fun e w' => e = .returned (.int .i64 v) ∧ w' = w := by
  obtain ⟨c0, c1, c2, c3, c4, _, _, _⟩ := h.alls
  go_enter Try.func17, Try.ntmps17
  go_wp2_with (go_at_call 21; refine (made_calls g b w c0 hb).mono ?_; rintro e w' ⟨rfl, rfl⟩)
  go_ret
  exact ⟨rfl, rfl⟩
theorem left_calls (g : Nat) (b c v l : Int) (o : Bool) (w : World) (h : IsT w g b c v l o) (hb : 1 ≤ b) : Calls Try.prog 18 #[.pointer (some ⟨g, 0, none⟩)] w fun e w' => e = .returned (.int .i64 l) ∧ w' = w := by
  obtain ⟨c0, c1, c2, c3, c4, _, _, _⟩ := h.alls
  go_enter Try.func18, Try.ntmps18
  go_wp2_with (go_at_call 21; refine (made_calls g b w c0 hb).mono ?_; rintro e w' ⟨rfl, rfl⟩)
  go_ret
  exact ⟨rfl, rfl⟩
theorem fork_calls (g : Nat) (b c v l : Int) (o : Bool) (w : World) (h : IsT w g b c v l o) (hb : 1 ≤ b) : Calls Try.prog 14 #[.pointer (some ⟨g, 0, none⟩)] w fun e w' => e = .returned (.pointer (some ⟨w.heap.size, 0, none⟩)) ∧ Ext N0 w w' ∧ IsT w' w.heap.size b c v l o := by
  obtain ⟨c0, c1, c2, c3, c4, _, _, _⟩ := h.alls
  go_enter Try.func14, Try.ntmps14
  go_wp2_with (go_at_call 21; refine (made_calls g b w c0 hb).mono ?_; rintro e w' ⟨rfl, rfl⟩)
  go_ret
  exact ⟨rfl, (Ext.refl _ _).alloc _, blkNew _ _⟩
end Go.Proofs.Ytaafmlbgldnkiaa
