/- 'Random' of package scene and of the document's answer, proved for every value that its statement lets in (the conditions stand in the statements). -/
import Derived.Test.YtfaljgaeeholoaaC1
namespace Go.Proofs.Ytfaljgaeeholoaa
open Go.RowKit
def randF (seed h n most : Int) (j : Nat) : Fl := (belowV seed (5 * j) h, (belowV seed (5 * j) h + 1 + belowV seed (5 * j + 1) (h - 1)) % h, belowV seed (5 * j + 2) 2, 1 + belowV seed (5 * j + 3) most, belowV seed (5 * j + 4) n)
def randL (seed h n most : Int) (i : Nat) : List Fl := (List.range i).map (randF seed h n most)
theorem randL_step (seed h n most : Int) (i : Nat) : randL seed h n most (i + 1) = randL seed h n most i ++ [randF seed h n most i] := by
  unfold randL
  rw [List.range_succ, List.map_append]
  rfl
theorem randL_len (seed h n most : Int) (i : Nat) : (randL seed h n most i).length = i := by simp [randL]
/-- One round's draws. -/
theorem drawn (seed h n most : Int) (i : Nat) (hh : 2 ≤ h ∧ h ≤ 8) (hm : 1 ≤ most ∧ most ≤ 65536) (hn : 1 ≤ n ∧ n ≤ 1000) : ∃ (n0 n1 n2 n3 n4 n5 : Nat) (s y d c b t : Int),
    n0 = 5 * i ∧ n1 = n0 + 1 ∧ n2 = n1 + 1 ∧ n3 = n2 + 1 ∧ n4 = n3 + 1 ∧ n5 = n4 + 1 ∧ belowV seed n0 h = s ∧ belowV seed n1 (h - 1) = y ∧ (s + 1 + y).tmod h = d ∧ belowV seed n2 2 = c ∧ belowV seed n3 most = b ∧ belowV seed n4 n = t ∧
    (0 ≤ s ∧ s < 8) ∧ (0 ≤ y ∧ y < 8) ∧ (0 ≤ d ∧ d < 8) ∧ (0 ≤ c ∧ c < 2) ∧ (0 ≤ b ∧ b < 65536) ∧ (0 ≤ t ∧ t < 1000) ∧ randF seed h n most i = (s, d, c, 1 + b, t) := by
  have h1 := belowV_in seed (5 * i) (k := h) (by omega)
  have h2 := belowV_in seed (5 * i + 1) (k := h - 1) (by omega)
  have h3 := belowV_in seed (5 * i + 2) (k := 2) (by omega)
  have h4 := belowV_in seed (5 * i + 3) (k := most) (by omega)
  have h5 := belowV_in seed (5 * i + 4) (k := n) (by omega)
  have e : (belowV seed (5 * i) h + 1 + belowV seed (5 * i + 1) (h - 1)).tmod h = (belowV seed (5 * i) h + 1 + belowV seed (5 * i + 1) (h - 1)) % h := Int.tmod_eq_emod_of_nonneg (by omega)
  have h6 := Int.emod_nonneg (belowV seed (5 * i) h + 1 + belowV seed (5 * i + 1) (h - 1)) (show h ≠ 0 by omega)
  have h7 := Int.emod_lt_of_pos (belowV seed (5 * i) h + 1 + belowV seed (5 * i + 1) (h - 1)) (show 0 < h by omega)
  exact ⟨5 * i, 5 * i + 1, 5 * i + 2, 5 * i + 3, 5 * i + 4, 5 * i + 5, _, _, _, _, _, _, rfl, rfl, rfl, rfl, rfl, rfl, rfl, rfl, e, rfl, rfl, rfl, by omega, by omega, by omega, by omega, by omega, by omega, rfl⟩
set_option maxRecDepth 100000 in
set_option maxHeartbeats 2000000 in
theorem rrand_f (seed : Int) (h n : Nat) (most : Int) (w : World) (hR : RightP h most) (hn : n ≤ 1000) : Calls Try.prog 13 #[.int .u64 seed, .int .i64 h, .int .i64 n, .int .i64 most] w (GivesF 49 (randL seed h n most n) w) := by
  unfold RightP at hR
  obtain ⟨⟨r1, r2⟩, r3, r4⟩ := hR
  unfold GivesF
  go_enter Try.func13, Try.ntmps13
  go_wp2_with (first | (go_at_call 22; refine (within_yes _ _ _ _ ?hc).mono ?_; (case hc => omega); rintro e w' ⟨rfl, rfl⟩))
  obtain ⟨S, hS⟩ : ∃ S, w'.heap.size = S := ⟨_, rfl⟩
  simp only [hS]
  have hB0 := blkNewG w' (.cells #[.int .u64 seed, .int .i64 0] 51) hS
  have hE0 : Ext N0 w' (w'.alloc (.cells #[.int .u64 seed, .int .i64 0] 51)) := (Ext.refl _ _).alloc _
  have hh2 : (2 : Int) ≤ h ∧ (h : Int) ≤ 8 := ⟨r1, r2⟩
  go_loopw [11, 12] (fun l v wr => ∃ (i : Nat) (A : Option Addr) (c : Nat), v = .int .i64 i ∧ i ≤ n ∧ l = .slice A i c ∧ Hid (wr.heap[S]? = some (.cells #[.int .u64 seed, .int .i64 ((5 * i : Nat) : Int)] 51 (0, 0))) ∧ Hid (wr.ownsRow S 49 5 (.slice A i c) i (flV (randL seed h n most i))) ∧ Hid (Ext N0 w' wr)) (fun _ v _ => n - (intOf v).toNat)
  case atStart => exact ⟨0, none, 0, rfl, by omega, rfl, Lib.hid hB0, Lib.hid (ownNil _ _ _ _), Lib.hid hE0⟩
  case round =>
    clear hB0 hE0
    obtain ⟨i, A, c, rfl, hi, rfl, HB, HO, HE⟩ := hrel
    by_cases hlt : i < n
    · have hlt' : (i : Int) < n := by omega
      obtain ⟨n0, n1, n2, n3, n4, n5, s, y, d, cl, b, t, e0, e1, e2, e3, e4, e5, v1, v2, hd, v3, v4, v5, q1, q2, q3, q4, q5, q6, hF⟩ := drawn seed h n most i ⟨r1, r2⟩ ⟨r3, r4⟩ (by omega)
      have hst := randL_step seed h n most i
      rw [hF] at hst
      rw [← e0] at HB
      have R1 := Lib.hid (fun W => rbelow_calls seed n0 h W (by omega) (by omega))
      have R2 := Lib.hid (fun W => rbelow_calls seed n1 (h - 1) W (by omega) (by omega))
      have R3 := Lib.hid (fun W => rbelow_calls seed n2 2 W (by omega) (by omega))
      have R4 := Lib.hid (fun W => rbelow_calls seed n3 most W (by omega) (by omega))
      have R5 := Lib.hid (fun W => rbelow_calls seed n4 n W (by omega) (by omega))
      rw [v1, ← e1] at R1
      rw [v2, ← e2] at R2
      rw [v3, ← e3] at R3
      rw [v4, ← e4] at R4
      rw [v5, ← e5] at R5
      have HF : Hid (flV (randL seed h n most i) ++ [.int .i64 s, .int .i64 d, .int .i64 cl, .int .i64 (1 + b), .int .i64 t] = flV (randL seed h n most (i + 1))) := Lib.hid (by rw [hst, flV_app]; rfl)
      have HN5 : Hid (n5 = 5 * (i + 1)) := Lib.hid (by omega)
      have hhz : ((h : Int) == 0) = false := beq_eq_false_iff_ne.mpr (by omega)
      have g0 := (blkCell HB.out 0).trans rfl
      have g1 := (blkCell HB.out 1).trans rfl
      simp at g0 g1
      clear e0 e1 e2 e3 e4 e5 v1 v2 v3 v4 v5 hF hst
      go_wp2_with (first
        | (go_at_call 24; have hx := hE4; clear hx; refine (R5.out _).mono ?_; rintro e w5 ⟨rfl, hE5⟩; have b5 := hE5.blk0 (blkAlloc (hE4.blk0 (blkAlloc (hE3.blk0 (blkAlloc (hE2.blk0 (blkAlloc (hE1.blk0 HB.out) (.cells #[.int .u64 seed, .int .i64 n1] 51))) (.cells #[.int .u64 seed, .int .i64 n2] 51))) (.cells #[.int .u64 seed, .int .i64 n3] 51))) (.cells #[.int .u64 seed, .int .i64 n4] 51)); have s5 := set2 (x := .int .u64 seed) (y := .int .i64 n5) b5; have hl5 : S < w5.heap.size := blkLt b5; have u0 := (blkCell b5 0).trans rfl; have u1 := (blkCell b5 1).trans rfl; have f0 := blkFrozen b5 0; have f1 := blkFrozen b5 1; simp at u0 u1; have hX := ((((((((hE1.alloc _).then0 hE2).alloc _).then0 hE3).alloc _).then0 hE4).alloc _).then0 hE5); have ho5 := ownKept0 HO.out hX; have HO6 := Lib.hid (ownKept ho5 s5.2 (fun x hx h => ownNeBlk ho5 b5 (by decide) x hx h)); have HE6 := Lib.hid ((HE.out.then0 hX).trans s5.2 (fun x hx => .inr (by have hx : x = S := hx; omega))); have HS5 := Lib.hid s5.1; clear s5 b5 hX ho5)
        | (go_at_call 24; have hx := hE3; clear hx; refine (R4.out _).mono ?_; rintro e w4 ⟨rfl, hE4⟩)
        | (go_at_call 24; have hx := hE2; clear hx; refine (R3.out _).mono ?_; rintro e w3 ⟨rfl, hE3⟩)
        | (go_at_call 24; have hx := hE1; clear hx; refine (R2.out _).mono ?_; rintro e w2 ⟨rfl, hE2⟩)
        | (go_at_call 24; refine (R1.out _).mono ?_; rintro e w1 ⟨rfl, hE1⟩)
        | (at_builtin; refine wpApp S (.tmp 74) (.tmp 87) 32 49 (.agg #[.int .i64 0, .int .i64 0, .int .i64 0, .int .i64 0, .int .i64 0]) 5 40 rfl rfl Try.underlying32 info49 rfl (by decide) (by decide) (.slice A i c) i (flV (randL seed h n most i)) _ 1 _ [.int .i64 s, .int .i64 d, .int .i64 cl, .int .i64 (1 + b), .int .i64 t] rfl rfl (ownKept0 HO6.out (((Ext.refl _ _).alloc _).alloc _)) rfl (litReadsG (((w5.setCell ⟨S, 0, none⟩ (.int .u64 seed)).setCell ⟨S, 1, none⟩ (.int .i64 n5)).alloc (.cells #[.int .u64 seed, .int .i64 n5] 51)) [.int .i64 s, .int .i64 d, .int .i64 cl, .int .i64 (1 + b), .int .i64 t] 49 (g := w5.heap.size + 1) (by simp) (by simp)) (by simp [Value.oneCell']) (by omega) (by simp; omega) ?_; intro A6 c6 w6 ho6 hE6 _; have HO7 := Lib.hid ho6; have HE7 := Lib.hid hE6; clear ho6 hE6))
      have hal := ((Ext.refl N0 ((w5.setCell ⟨S, 0, none⟩ (.int .u64 seed)).setCell ⟨S, 1, none⟩ (.int .i64 n5))).alloc (.cells #[.int .u64 seed, .int .i64 n5] 51)).alloc (.cells [Value.int .i64 s, .int .i64 d, .int .i64 cl, .int .i64 (1 + b), .int .i64 t].toArray 49)
      have hB8 := HE7.out.blk (hal.blk0 HS5.out) (fun h => ownNeBlk (ownKept0 HO6.out hal) (hal.blk0 HS5.out) (by decide) _ h rfl)
      have hE8 := (HE6.out.then0 hal).trans HE7.out (fun x hx => .inr (by have := (ownBase HO6.out x hx).1; omega))
      have HB8 := Lib.hid hB8
      have HE8 := Lib.hid hE8
      clear hal hB8 hE8
      go_roundw
      case rel => exact ⟨i + 1, A6, c6, by go_num, by omega, rfl, Lib.hid (by rw [← HN5.out]; exact HB8.out), Lib.hid (by rw [← HF.out]; exact HO7.out), HE8⟩
      case measure => simp only [intOf]; omega
    · have hlt' : ¬ (i : Int) < n := by omega
      obtain rfl : i = n := by omega
      go_wp2
      refine bodyPost_ret (v := .tuple #[.slice A i c, .int .i64 0]) (by simp [results, Try.results13, go_sem]) rfl ?_
      refine ⟨A, c, by rw [randL_len], ?_, HE.out⟩
      unfold IsFl
      rw [randL_len]
      exact HO.out
end Go.Proofs.Ytfaljgaeeholoaa
