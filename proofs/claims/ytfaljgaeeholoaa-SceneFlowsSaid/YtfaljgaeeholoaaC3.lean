/- 'Random' of package scene, proved for every value that its statement lets in (the conditions stand in the statements). -/
import Derived.Test.YtfaljgaeeholoaaC2
namespace Go.Proofs.Ytfaljgaeeholoaa
open Go.RowKit
/-- One cell of a flow's block set. -/
theorem set5 {w : World} {g : Nat} {x0 x1 x2 x3 x4 : Value} (h : w.heap[g]? = some (.cells #[x0, x1, x2, x3, x4] 28 (0, 0))) (i : Nat) (v : Value) : (w.setCell ⟨g, i, none⟩ v).heap[g]? = some (.cells (#[x0, x1, x2, x3, x4].setIfInBounds i v) 28 (0, 0)) := blkSet h i v
set_option maxRecDepth 100000 in
set_option maxHeartbeats 4000000 in
theorem rand_f (seed : Int) (h n : Nat) (most : Int) (w : World) (hR : RightP h most) (hn : n ≤ 1000) : Calls Try.prog 12 #[.int .u64 seed, .int .i64 h, .int .i64 n, .int .i64 most] w (GivesF 28 (randL seed h n most n) w) := by
  have HR1 := right_calls h most w
  rw [decide_eq_true hR] at HR1
  have HI1 := in_calls n 0 1000 w
  rw [decide_eq_true (show (0 : Int) ≤ n ∧ (n : Int) ≤ 1000 by omega)] at HI1
  have HR2 := Lib.hid HR1
  have HI2 := Lib.hid HI1
  clear HR1 HI1
  unfold RightP at hR
  obtain ⟨⟨r1, r2⟩, r3, r4⟩ := hR
  unfold GivesF
  go_enter Try.func12, Try.ntmps12
  go_wp2_with (first | (go_at_call 15; refine HR2.out.mono ?_; rintro e w' ⟨rfl, hw⟩; subst hw) | (go_at_call 20; refine HI2.out.mono ?_; rintro e w' ⟨rfl, hw⟩; subst hw) | (go_at_call 16; refine (dnew_calls seed _).mono ?_; rintro e w1 ⟨rfl, hS0, hE0⟩; have HS0 := Lib.hid hS0; have HE0 := Lib.hid hE0; clear hS0 hE0))
  obtain ⟨g, hg⟩ : ∃ g, w'.heap.size = g := ⟨_, rfl⟩
  rw [hg] at HS0
  simp only [hg]
  go_loopw [11, 25] (fun l v wr => ∃ (i : Nat) (A : Option Addr) (c : Nat), v = .int .i64 i ∧ i ≤ n ∧ l = .slice A i c ∧ Hid (IsS wr g seed (5 * i)) ∧ Hid (wr.ownsRow g 28 5 (.slice A i c) i (flV (randL seed h n most i))) ∧ Hid (Ext N0 w' wr)) (fun _ v _ => n - (intOf v).toNat)
  case atStart => exact ⟨0, none, 0, rfl, by omega, rfl, HS0, Lib.hid (ownNil _ _ _ _), HE0⟩
  case round =>
    clear HS0 HE0 HR2 HI2
    obtain ⟨i, A, c, rfl, hi, rfl, HS, HO, HE⟩ := hrel
    by_cases hlt : i < n
    · have hlt' : (i : Int) < n := by omega
      obtain ⟨n0, n1, n2, n3, n4, n5, s, y, d, cl, b, t, e0, e1, e2, e3, e4, e5, v1, v2, hd, v3, v4, v5, q1, q2, q3, q4, q5, q6, hF⟩ := drawn seed h n most i ⟨r1, r2⟩ ⟨r3, r4⟩ (by omega)
      have hst := randL_step seed h n most i
      rw [hF] at hst
      rw [← e0] at HS
      have R1 := Lib.hid (fun W hW => below_calls g seed n0 h W hW (by omega) (by omega))
      have R2 := Lib.hid (fun W hW => below_calls g seed n1 (h - 1) W hW (by omega) (by omega))
      have R3 := Lib.hid (fun W hW => below_calls g seed n2 2 W hW (by omega) (by omega))
      have R4 := Lib.hid (fun W hW => below_calls g seed n3 most W hW (by omega) (by omega))
      have R5 := Lib.hid (fun W hW => below_calls g seed n4 n W hW (by omega) (by omega))
      rw [v1, ← e1] at R1
      rw [v2, ← e2] at R2
      rw [v3, ← e3] at R3
      rw [v4, ← e4] at R4
      rw [v5, ← e5] at R5
      have HF : Hid (flV (randL seed h n most i) ++ [.int .i64 s, .int .i64 d, .int .i64 cl, .int .i64 (1 + b), .int .i64 t] = flV (randL seed h n most (i + 1))) := Lib.hid (by rw [hst, flV_app]; rfl)
      have HN5 : Hid (n5 = 5 * (i + 1)) := Lib.hid (by omega)
      have hhz : ((h : Int) == 0) = false := beq_eq_false_iff_ne.mpr (by omega)
      have hhz2 : ¬ (h : Int) = 0 := by omega
      have hgl : g < wr.heap.size := blkLt HS.out.blk
      have hw1 : IntKind.i64.wrap (s + 1) = s + 1 := IntWalk.i64_in _ (by omega)
      have hw2 : IntKind.i64.wrap (s + 1 + y) = s + 1 + y := IntWalk.i64_in _ (by omega)
      have hw3 : IntKind.i64.wrap ((h : Int) - 1) = h - 1 := IntWalk.i64_in _ (by omega)
      have hw4 : IntKind.i64.wrap d = d := IntWalk.i64_in _ (by omega)
      clear e0 e1 e2 e3 e4 e5 v1 v2 v3 v4 v5 hF hst
      go_wp2_with (go_at_call 17; refine (R1.out _ HS.out).mono ?_; rintro e w1 ⟨rfl, hS1, hE1⟩; have hgn : w1.heap.size ≠ g := (by have := hE1.size; omega); have c0 := (blkCell (blkNew w1 (.cells #[.int .i64 s, .int .i64 0, .int .i64 0, .int .i64 0, .int .i64 0] 28)) 0).trans rfl; simp at c0; have HS1 : Hid (IsS (w1.alloc (.cells #[.int .i64 s, .int .i64 0, .int .i64 0, .int .i64 0, .int .i64 0] 28)).drew g seed n1) := Lib.hid ⟨blkAlloc hS1.blk _⟩; have HE1 := Lib.hid hE1; clear hS1 hE1)
      go_region_with (first | (go_at_call 17; refine (R2.out _ HS1.out).mono ?_; rintro e w2 ⟨rfl, hS2, hE2⟩; have bk2 := hE2.blk (blkNew w1 (.cells #[.int .i64 s, .int .i64 0, .int .i64 0, .int .i64 0, .int .i64 0] 28)) hgn; have d0 := (blkCell bk2 0).trans rfl; have d1 := (blkCell bk2 1).trans rfl; have f1 := blkFrozen bk2 1; have d0' := (blkCell (set5 bk2 1 (.int .i64 d)) 0).trans rfl; simp at d0 d1 d0'; have HS2 := Lib.hid hS2; have HB2 := Lib.hid bk2; have HE2 := Lib.hid (((HE1.out.alloc _).drew).same hE2); clear hS2 bk2 hE2))
      all_goals
        clear hw1 hw2 hw3 hw4
        go_wp2_with (first
          | (go_at_call 17; have hx := HE4; clear hx; refine (R5.out _ ⟨blkFar HS4.out.blk (p := ⟨w1.heap.size, 3, none⟩) (fun h => hgn h.symm) (.int .i64 (1 + b))⟩).mono ?_; rintro e w5 ⟨rfl, hS5, hE5⟩; have bk5 := hE5.blk (set5 HB4.out 3 (.int .i64 (1 + b))) hgn; have x4 := (blkCell bk5 4).trans rfl; have fz4 := blkFrozen bk5 4; have bk6 := set5 bk5 4 (.int .i64 t); have z0 := (blkCell bk6 0).trans rfl; have z1 := (blkCell bk6 1).trans rfl; have z2 := (blkCell bk6 2).trans rfl; have z3 := (blkCell bk6 3).trans rfl; have z4 := (blkCell bk6 4).trans rfl; simp at x4 z0 z1 z2 z3 z4; have HS5 := Lib.hid hS5; have HE5 := Lib.hid (((HE4.out.setCell (p := ⟨w1.heap.size, 3, none⟩) (.inr HE1.out.size) (.int .i64 (1 + b))).same hE5).setCell (p := ⟨w1.heap.size, 4, none⟩) (.inr HE1.out.size) (.int .i64 t)); have hS6 := blkFar hS5.blk (p := ⟨w1.heap.size, 4, none⟩) (fun h => hgn h.symm) (.int .i64 t); have HS6 := Lib.hid hS6; have HO6 := Lib.hid (ownKept HO.out HE5.out (fun x hx hs => ownNeBlk HO.out HS.out.blk (by decide) x hx hs)); have hsz5 := HE5.out.size; clear hS5 hE5 bk5 bk6 hS6)
          | (go_at_call 17; have hx := HE3; clear hx; refine (R4.out _ ⟨blkFar HS3.out.blk (p := ⟨w1.heap.size, 2, none⟩) (fun h => hgn h.symm) (.int .i64 cl)⟩).mono ?_; rintro e w4 ⟨rfl, hS4, hE4⟩; have bk4 := hE4.blk (set5 HB3.out 2 (.int .i64 cl)) hgn; have x3 := (blkCell bk4 3).trans rfl; have fz3 := blkFrozen bk4 3; simp at x3; have HS4 := Lib.hid hS4; have HB4 := Lib.hid (bk4.trans (by simp : _ = some (.cells #[.int .i64 s, .int .i64 d, .int .i64 cl, .int .i64 0, .int .i64 0] 28 (0, 0)))); have HE4 := Lib.hid ((HE3.out.setCell (p := ⟨w1.heap.size, 2, none⟩) (.inr HE1.out.size) (.int .i64 cl)).same hE4); clear hS4 hE4 bk4)
          | (go_at_call 17; refine (R3.out _ ⟨blkFar HS2.out.blk (p := ⟨w1.heap.size, 1, none⟩) (fun h => hgn h.symm) (.int .i64 d)⟩).mono ?_; rintro e w3 ⟨rfl, hS3, hE3⟩; have bk3 := hE3.blk (set5 HB2.out 1 (.int .i64 d)) hgn; have x2 := (blkCell bk3 2).trans rfl; have fz2 := blkFrozen bk3 2; simp at x2; have HS3 := Lib.hid hS3; have HB3 := Lib.hid (bk3.trans (by simp : _ = some (.cells #[.int .i64 s, .int .i64 d, .int .i64 0, .int .i64 0, .int .i64 0] 28 (0, 0)))); have HE3 := Lib.hid ((HE2.out.setCell (p := ⟨w1.heap.size, 1, none⟩) (.inr HE1.out.size) (.int .i64 d)).same hE3); clear hS3 hE3 bk3)
          | (at_builtin; refine wpApp g (.tmp 54) (.tmp 56) 23 28 (.agg #[.int .i64 0, .int .i64 0, .int .i64 0, .int .i64 0, .int .i64 0]) 5 40 rfl rfl Try.underlying23 info28 rfl (by decide) (by decide) (.slice A i c) i (flV (randL seed h n most i)) _ 1 _ [.int .i64 s, .int .i64 d, .int .i64 cl, .int .i64 (1 + b), .int .i64 t] rfl rfl (ownKept0 HO6.out ((Ext.refl _ _).alloc _)) rfl (litReadsG (w5.setCell ⟨w1.heap.size, 4, none⟩ (.int .i64 t)) [.int .i64 s, .int .i64 d, .int .i64 cl, .int .i64 (1 + b), .int .i64 t] 28 (g := w5.heap.size) (by simp) (by simp)) (by simp [Value.oneCell']) (by omega) ?hb ?_; (case hb => (simp at hsz5 ⊢; omega)); intro A6 c6 w6 ho6 hE6 _; have HO7 := Lib.hid ho6; have HE7 := Lib.hid hE6; clear ho6 hE6))
        have hal := (Ext.refl N0 (w5.setCell ⟨w1.heap.size, 4, none⟩ (.int .i64 t))).alloc (.cells [Value.int .i64 s, .int .i64 d, .int .i64 cl, .int .i64 (1 + b), .int .i64 t].toArray 28)
        have hS8 := HE7.out.blk (hal.blk0 HS6.out) (fun h => ownNeBlk (ownKept0 HO6.out hal) (hal.blk0 HS6.out) (by decide) _ h rfl)
        have hE8 := ((HE.out.trans HE5.out (fun x hx => .inr (by have hx : x = g := hx; omega))).then0 hal).trans HE7.out (fun x hx => .inr (by have := (ownBase HO6.out x hx).1; omega))
        have HS8 := Lib.hid hS8
        have HE8 := Lib.hid hE8
        clear hal hS8 hE8
        go_roundw
        case rel => exact ⟨i + 1, A6, c6, by go_num, by omega, rfl, Lib.hid ⟨by rw [← HN5.out]; exact HS8.out⟩, Lib.hid (by rw [← HF.out]; exact HO7.out), HE8⟩
        case measure => simp only [intOf]; omega
    · have hlt' : ¬ (i : Int) < n := by omega
      obtain rfl : i = n := by omega
      go_wp2
      refine bodyPost_ret (v := .tuple #[.slice A i c, .int .i64 0]) (by simp [results, Try.results12, go_sem]) rfl ?_
      refine ⟨A, c, by rw [randL_len], ?_, HE.out⟩
      unfold IsFl
      rw [randL_len]
      exact HO.out
end Go.Proofs.Ytfaljgaeeholoaa
