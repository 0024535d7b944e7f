/- The document's answer for package leaf: New (the conditions stand in the statements). -/
import Derived.Test.YtjnfapkjmgilcaaE7
namespace Go.Proofs.Ytjnfapkjmgilcaa
open Go.RowKit
theorem rnew_bad (w : World) (x y z : Int) (hb : newB x y z = false) : Calls Try.prog 13 #[.int .i64 x, .int .i64 y, .int .i64 z] w fun e w' => e = .returned (.tuple #[.agg #[.int .i64 0, .int .i64 0, .int .i64 0, .slice none 0 0], .int .i64 370]) ∧ Ext N0 w w' := by
  have hb := of_decide_eq_false hb
  have HE : Hid (∀ cs : Array Value, Ext N0 w (w.alloc (.cells cs 42))) := Lib.hid (fun cs => (Ext.refl _ _).alloc _)
  have HW1 := Lib.hid (fun W => within_calls W x 1 16)
  have HW2 := Lib.hid (fun W => within_calls W y 1 16)
  have HW3 := Lib.hid (fun W => within_calls W z 1 64)
  have hcs : ¬ (1 ≤ x ∧ x ≤ 16) ∨ ((1 ≤ x ∧ x ≤ 16) ∧ ¬ (1 ≤ y ∧ y ≤ 16)) ∨ ((1 ≤ x ∧ x ≤ 16) ∧ (1 ≤ y ∧ y ≤ 16) ∧ ¬ (1 ≤ z ∧ z ≤ 64)) := by omega
  clear hb
  rcases hcs with h1 | ⟨h1, h2⟩ | ⟨h1, h2, h3⟩
  · simp only [decide_eq_false h1] at HW1
    clear h1
    go_enter Try.func13, Try.ntmps13
    go_wp2_with (go_at_call 23; refine (HW1.out _).mono ?_; rintro e w1 ⟨rfl, hw⟩; subst w1)
    exact bodyPost_ret (v := .tuple #[.agg #[.int .i64 0, .int .i64 0, .int .i64 0, .slice none 0 0], .int .i64 370]) (by simp [results, Try.results13, go_sem]) rfl ⟨rfl, HE.out _⟩
  · simp only [decide_eq_true h1] at HW1
    simp only [decide_eq_false h2] at HW2
    clear h1 h2
    go_enter Try.func13, Try.ntmps13
    go_wp2_with (first | (have hx := X1; clear hx; go_at_call 23; refine (HW2.out _).mono ?_; rintro e w1 ⟨rfl, hw⟩; subst w1) | (go_at_call 23; refine (HW1.out _).mono ?_; rintro e w1 ⟨rfl, hw⟩; subst w1; have X1 := trivial))
    exact bodyPost_ret (v := .tuple #[.agg #[.int .i64 0, .int .i64 0, .int .i64 0, .slice none 0 0], .int .i64 370]) (by simp [results, Try.results13, go_sem]) rfl ⟨rfl, HE.out _⟩
  · simp only [decide_eq_true h1] at HW1
    simp only [decide_eq_true h2] at HW2
    simp only [decide_eq_false h3] at HW3
    clear h1 h2 h3
    go_enter Try.func13, Try.ntmps13
    go_wp2_with (first | (have hx := X2; clear hx; go_at_call 23; refine (HW3.out _).mono ?_; rintro e w1 ⟨rfl, hw⟩; subst w1) | (have hx := X1; clear hx; go_at_call 23; refine (HW2.out _).mono ?_; rintro e w1 ⟨rfl, hw⟩; subst w1; have X2 := trivial) | (go_at_call 23; refine (HW1.out _).mono ?_; rintro e w1 ⟨rfl, hw⟩; subst w1; have X1 := trivial))
    exact bodyPost_ret (v := .tuple #[.agg #[.int .i64 0, .int .i64 0, .int .i64 0, .slice none 0 0], .int .i64 370]) (by simp [results, Try.results13, go_sem]) rfl ⟨rfl, HE.out _⟩
set_option maxHeartbeats 4000000 in
theorem rnew_good (w : World) (l s h : Nat) (hl : 1 ≤ l ∧ l ≤ 16) (hs : 1 ≤ s ∧ s ≤ 16) (hh : 1 ≤ h ∧ h ≤ 64) : Calls Try.prog 13 #[.int .i64 l, .int .i64 s, .int .i64 h] w fun e w' => ∃ A c, e = .returned (.tuple #[.agg (nG l s h A (l * s) c), .int .i64 0]) ∧ w'.ownsRow w.heap.size 4 1 (.slice A (l * s) c) (l * s) (bv (List.replicate (l * s) true)) ∧ Ext N0 w w' := by
  have HW1 := Lib.hid (fun W => within_calls W l 1 16)
  have HW2 := Lib.hid (fun W => within_calls W s 1 16)
  have HW3 := Lib.hid (fun W => within_calls W h 1 64)
  simp only [decide_eq_true (show 1 ≤ (l : Int) ∧ (l : Int) ≤ 16 by omega)] at HW1
  simp only [decide_eq_true (show 1 ≤ (s : Int) ∧ (s : Int) ≤ 16 by omega)] at HW2
  simp only [decide_eq_true (show 1 ≤ (h : Int) ∧ (h : Int) ≤ 64 by omega)] at HW3
  have hls : l * s ≤ 256 := Nat.mul_le_mul hl.2 hs.2
  obtain ⟨n, hn⟩ : ∃ n, l * s = n := ⟨_, rfl⟩
  have hn' : (l : Int) * (s : Int) = (n : Int) := by rw [← hn, Int.natCast_mul]
  rw [hn] at hls ⊢
  have HI0 : Hid (((w.alloc (.cells #[.int .i64 0, .int .i64 0, .int .i64 0, .slice none 0 0] 42)).alloc (.cells (nG l s h none 0 0) 42)).heap[w.heap.size]? = some (.cells #[.int .i64 0, .int .i64 0, .int .i64 0, .slice none 0 0] 42 (0, 0))) := Lib.hid (blkAlloc (blkNew w _) _)
  have HJ0 : Hid (((w.alloc (.cells #[.int .i64 0, .int .i64 0, .int .i64 0, .slice none 0 0] 42)).alloc (.cells (nG l s h none 0 0) 42)).heap[w.heap.size + 1]? = some (.cells (nG l s h none 0 0) 42 (0, 0))) := Lib.hid (blkNewG _ _ (by simp))
  have HE0 : Hid (Ext N0 w ((w.alloc (.cells #[.int .i64 0, .int .i64 0, .int .i64 0, .slice none 0 0] 42)).alloc (.cells (nG l s h none 0 0) 42))) := Lib.hid (((Ext.refl _ _).alloc _).alloc _)
  clear hn hl hs hh
  go_enter Try.func13, Try.ntmps13
  go_wp2_with (first | (have hx := X2; clear hx; go_at_call 23; refine (HW3.out _).mono ?_; rintro e w1 ⟨rfl, hw⟩; subst w1) | (have hx := X1; clear hx; go_at_call 23; refine (HW2.out _).mono ?_; rintro e w1 ⟨rfl, hw⟩; subst w1; have X2 := trivial) | (go_at_call 23; refine (HW1.out _).mono ?_; rintro e w1 ⟨rfl, hw⟩; subst w1; have X1 := trivial))
  clear HW1 HW2 HW3
  obtain ⟨bb, hbb⟩ : ∃ bb, w.heap.size = bb := ⟨_, rfl⟩
  rw [hbb] at HI0 HJ0
  simp only [hbb]
  have HBB := Lib.hid hbb
  clear hbb
  go_loopw [9] (fun v wr => ∃ (i : Nat) (A : Option Addr) (c : Nat), v = .int .i64 i ∧ i ≤ n ∧ Hid (wr.heap[bb]? = some (.cells #[.int .i64 0, .int .i64 0, .int .i64 0, .slice none 0 0] 42 (0, 0))) ∧ Hid (wr.heap[bb + 1]? = some (.cells (nG l s h A i c) 42 (0, 0))) ∧ Hid (wr.ownsRow bb 4 1 (.slice A i c) i (bv (List.replicate i true))) ∧ Hid (Ext N0 w wr)) (fun v _ => n - (intOf v).toNat)
  case atStart => exact ⟨0, none, 0, rfl, by omega, HI0, HJ0, Lib.hid (ownNil _ _ _ _), HE0⟩
  case round =>
    clear HI0 HJ0 HE0
    obtain ⟨i, A, c, rfl, hi, HI, HJ, HO, HE⟩ := hrel
    have d3 : wr.cell? ⟨bb + 1, 3, none⟩ = some (.slice A i c) := (blkCell HJ.out 3).trans rfl
    by_cases hlt : i < n
    · have hlt' : (i : Int) < n := by omega
      have hbw : bb ≤ wr.heap.size := by have := HE.out.size; rw [HBB.out] at this; exact this
      have HSt := Lib.hid (show bv (List.replicate (i + 1) true) = bv (List.replicate i true) ++ [.bool true] by rw [List.replicate_succ', bv_app]; rfl)
      have HLn : Hid ((bv (List.replicate i true)).length = i) := Lib.hid (by rw [bv_len, List.length_replicate])
      go_wp2_with (at_builtin; refine wpApp bb (.tmp 36) (.tmp 37) 40 4 (.bool false) 1 1 rfl rfl Try.underlying40 info4 rfl (by decide) (by decide) (.slice A i c) i (bv (List.replicate i true)) (some ⟨wr.heap.size, 0, none⟩) 1 1 [.bool true] rfl rfl (ownKept0 HO.out ((Ext.refl _ _).alloc _)) rfl (litReads wr _ _ (by simp)) (by simp [Value.oneCell']) (by omega) (by simp; omega) ?_; intro A3 c3 w3 ho3 hE3 _; have hb3 := hE3.blk (blkAlloc HI.out (.cells #[.bool true] 4)) (fun h => ownNeBlk HO.out HI.out (by decide) _ h rfl); have hj3 := hE3.blk (blkAlloc HJ.out (.cells #[.bool true] 4)) (fun h => ownNeBlk HO.out HJ.out (by decide) _ h rfl); have y3 : w3.cell? ⟨bb + 1, 3, none⟩ = some (.slice A i c) := (blkCell hj3 3).trans rfl; have yf := blkFrozen hj3 3; have H3 := Lib.hid (And.intro hb3 (And.intro hj3 (And.intro ho3 ((HE.out.alloc (.cells #[.bool true] 4)).trans hE3 (fun y hy => .inr (by rw [HBB.out]; exact (ownBase HO.out y hy).1)))))); clear hb3 hj3 ho3 hE3)
      have hx : Ext (At (bb + 1)) w3 (w3.setCell ⟨bb + 1, 3, none⟩ (.slice A3 (i + 1) c3)) := extSet _ _ _ _
      have H4 := Lib.hid (And.intro (hx.blk H3.out.1 (fun (e : bb = bb + 1) => by omega)) (And.intro ((blkSet H3.out.2.1 3 (.slice A3 (i + 1) c3)).trans (by simp : _ = some (Obj.cells (nG l s h A3 (i + 1) c3) 42 (0, 0)))) (And.intro (ownKept H3.out.2.2.1 hx (fun y hy (e : y = bb + 1) => ownNeBlk H3.out.2.2.1 H3.out.2.1 (by decide) y hy e)) (H3.out.2.2.2.trans hx (fun y (hy : y = bb + 1) => .inr (by rw [hy, HBB.out]; omega))))))
      clear hx y3 yf d3
      go_roundw
      case rel => exact ⟨i + 1, A3, c3, by go_num, by omega, Lib.hid H4.out.1, Lib.hid H4.out.2.1, Lib.hid (by rw [HSt.out]; exact H4.out.2.2.1), Lib.hid H4.out.2.2.2⟩
      case measure => simp only [intOf]; omega
    · have hlt' : ¬ (i : Int) < n := by omega
      obtain rfl : i = n := by omega
      have d0 : wr.cell? ⟨bb + 1, 0, none⟩ = some (.int .i64 l) := (blkCell HJ.out 0).trans rfl
      have d1 : wr.cell? ⟨bb + 1, 1, none⟩ = some (.int .i64 s) := (blkCell HJ.out 1).trans rfl
      have d2 : wr.cell? ⟨bb + 1, 2, none⟩ = some (.int .i64 h) := (blkCell HJ.out 2).trans rfl
      have e0 : wr.cell? ⟨bb, 0, none⟩ = some (.int .i64 0) := (blkCell HI.out 0).trans rfl
      have e1 : wr.cell? ⟨bb, 1, none⟩ = some (.int .i64 0) := (blkCell HI.out 1).trans rfl
      have e2 : wr.cell? ⟨bb, 2, none⟩ = some (.int .i64 0) := (blkCell HI.out 2).trans rfl
      have e3 : wr.cell? ⟨bb, 3, none⟩ = some (.slice none 0 0) := (blkCell HI.out 3).trans rfl
      have f0 := blkFrozen HI.out 0
      have f1 := blkFrozen HI.out 1
      have f2 := blkFrozen HI.out 2
      have f3 := blkFrozen HI.out 3
      have hx : Ext (At bb) wr ((((wr.setCell ⟨bb, 0, none⟩ (.int .i64 l)).setCell ⟨bb, 1, none⟩ (.int .i64 s)).setCell ⟨bb, 2, none⟩ (.int .i64 h)).setCell ⟨bb, 3, none⟩ (.slice A i c)) := (((extSet _ _ _ _).same (extSet _ _ _ _)).same (extSet _ _ _ _)).same (extSet _ _ _ _)
      have HX := Lib.hid (And.intro (ownKept HO.out hx (fun y hy (e : y = bb) => ownNeBlk HO.out HI.out (by decide) y hy e)) (HE.out.trans hx (fun y (hy : y = bb) => .inr (by rw [hy, ← HBB.out]; exact Nat.le_refl _))))
      have HFin := Lib.hid (blkSet (blkSet (blkSet (blkSet HI.out 0 (.int .i64 l)) 1 (.int .i64 s)) 2 (.int .i64 h)) 3 (.slice A i c))
      clear hx
      go_wp2_with fail
      obtain ⟨W4, hW4⟩ : ∃ W4, (((wr.setCell ⟨bb, 0, none⟩ (.int .i64 l)).setCell ⟨bb, 1, none⟩ (.int .i64 s)).setCell ⟨bb, 2, none⟩ (.int .i64 h)).setCell ⟨bb, 3, none⟩ (.slice A i c) = W4 := ⟨_, rfl⟩
      rw [hW4] at HX HFin
      simp only [hW4]
      clear hW4
      have r0 : W4.cell? ⟨bb, 0, none⟩ = some (.int .i64 l) := (blkCell HFin.out 0).trans (by simp)
      have r1 : W4.cell? ⟨bb, 1, none⟩ = some (.int .i64 s) := (blkCell HFin.out 1).trans (by simp)
      have r2 : W4.cell? ⟨bb, 2, none⟩ = some (.int .i64 h) := (blkCell HFin.out 2).trans (by simp)
      have r3 : W4.cell? ⟨bb, 3, none⟩ = some (.slice A i c) := (blkCell HFin.out 3).trans (by simp)
      exact bodyPost_ret (v := .tuple #[.agg (nG l s h A i c), .int .i64 0]) (by simp [results, Try.results13, go_sem, r0, r1, r2, r3]) rfl ⟨A, c, rfl, by rw [HBB.out]; exact HX.out.1, HX.out.2⟩
end Go.Proofs.Ytjnfapkjmgilcaa
