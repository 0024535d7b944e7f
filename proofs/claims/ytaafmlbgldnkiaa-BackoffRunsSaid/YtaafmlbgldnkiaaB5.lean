/- Contracts of the laws of package backoff: the page's example, and timers that nobody made. -/
import Derived.Test.YtaafmlbgldnkiaaB4
namespace Go.Proofs.Ytaafmlbgldnkiaa
open Go.RowKit

/-- The example's timer ahead of its n-th tick; how many times it has fired; when it fires. -/
def st (n : Nat) : Tm := ⟨2, 5, if n ≤ 2 then 2 else if n ≤ 6 then 4 else 5, if n ≤ 2 then 3 - n else if n ≤ 6 then 7 - n else if n ≤ 11 then 12 - n else if n ≤ 16 then 17 - n else 22 - n⟩
def kk (n : Nat) : Nat := if n ≤ 2 then 0 else if n ≤ 6 then 1 else if n ≤ 11 then 2 else 3
def atv (k : Nat) : Int := if k = 0 then 2 else if k = 1 then 6 else if k = 2 then 11 else 16
theorem st_step : ∀ n, n < 17 → 1 ≤ n → tickA (st n) = st (n + 1) ∧ tickB (st n) = ((n : Int) == atv (kk n)) ∧ (((n : Int) == atv (kk n)) = true → kk n < 3 → kk (n + 1) = kk n + 1) ∧ (¬ (((n : Int) == atv (kk n)) = true ∧ kk n < 3) → kk (n + 1) = kk n) ∧ kk n ≤ 3 := by decide
theorem st_ok : ∀ n, n < 18 → 1 ≤ n → (1 : Int) ≤ (st n).b ∧ (st n).b ≤ (st n).c ∧ (st n).c ≤ 1048576 ∧ 1 ≤ (st n).v ∧ (st n).v ≤ (st n).c ∧ 0 ≤ (st n).l ∧ (st n).l ≤ (st n).c := by decide
theorem st_Ok {n : Nat} (h : n < 18) (h1 : 1 ≤ n) : (st n).Ok := by
  obtain ⟨a, b, c, d, e, f, g⟩ := st_ok n h h1
  exact ⟨a, b, c, d, e, f, g⟩
set_option maxRecDepth 100000 in
set_option maxHeartbeats 1000000 in
theorem awake_calls (w : World) : Calls Try.prog 7 #[] w fun e w' => e = .returned (.bool true) ∧ Ext N0 w w' := by
  go_enter Try.func7, Try.ntmps7
  go_wp2_with fail
  refine (new_calls 2 5 w).mono ?_
  rintro e w1 ⟨hE1, (⟨hm, _⟩ | ⟨_, g, hg, rfl, hT1⟩)⟩
  · exact absurd hm (by decide)
  go_wp2_with fail
  refine (run_calls g ⟨2, 5, 2, 0⟩ true w1 hT1 ⟨by decide, by decide, by decide, by decide, by decide, by decide, by decide⟩).mono ?_
  rintro e w2 ⟨rfl, hE2, hT2⟩
  have hT2 : IsTm w2 g (st 1) := hT2
  have hE := atNew hE1 hE2 hg
  go_wp2_with fail
  obtain ⟨L, hL⟩ : ∃ L, w2.heap.size = L := ⟨_, rfl⟩
  obtain ⟨W, hW⟩ : ∃ W, w2.alloc (.cells #[.int .i64 2, .int .i64 6, .int .i64 11, .int .i64 16] 3) = W := ⟨_, rfl⟩
  have hX : Ext N0 w2 W := by rw [← hW]; exact (Ext.refl _ _).alloc _
  have hB : W.heap[L]? = some (.cells #[.int .i64 2, .int .i64 6, .int .i64 11, .int .i64 16] 3 (0, 0)) := by rw [← hW]; exact blkNewG _ _ hL
  have hgl : g < L := by rw [← hL]; exact blkLt hT2
  have hsL : w.heap.size ≤ L := by rw [← hL]; exact hE.size
  simp only [hW, hL]
  have HT := Lib.hid (show IsTm W g (st 1) from hX.blk0 hT2)
  have HE := Lib.hid (hE.then0 hX)
  have HB := Lib.hid hB
  clear hW hL hX hB hT2 hE hE1 hE2 hT1
  go_loopw [4, 5] (fun i k wr => ∃ n : Nat, 1 ≤ n ∧ n ≤ 17 ∧ i = .int .i64 n ∧ k = .int .i64 (kk n : Nat) ∧ Hid (IsTm wr g (st n)) ∧ Hid (wr.heap[L]? = some (.cells #[.int .i64 2, .int .i64 6, .int .i64 11, .int .i64 16] 3 (0, 0))) ∧ Hid (Ext N0 w wr))
    (fun i _ _ => 18 - (intOf i).toNat)
  case atStart => exact ⟨1, by omega, by omega, rfl, rfl, HT, HB, HE⟩
  case round =>
    clear HT HB HE
    obtain ⟨n, hn1, hn2, rfl, rfl, HT, HB, HE⟩ := hrel
    by_cases hlt : n < 17
    · have hlt' : (n : Int) ≤ 16 := by omega
      obtain ⟨q1, q2, q3, q4, q5⟩ := st_step n hlt hn1
      have hC := tick_calls g (st n) wr.drew HT.out (st_Ok (by omega) hn1)
      rw [q1, q2] at hC
      obtain ⟨k, hk⟩ : ∃ k, kk n = k := ⟨_, rfl⟩
      rw [hk] at q2 q3 q4 q5 hC
      rw [hk]
      have hcell : ∀ W : World, W.heap[L]? = some (.cells #[.int .i64 2, .int .i64 6, .int .i64 11, .int .i64 16] 3 (0, 0)) → W.cell? ⟨L, k, none⟩ = some (.int .i64 (atv k)) := by
        intro W hW
        obtain rfl | rfl | rfl | rfl : k = 0 ∨ k = 1 ∨ k = 2 ∨ k = 3 := by omega
        · exact (blkCell hW 0).trans rfl
        · exact (blkCell hW 1).trans rfl
        · exact (blkCell hW 2).trans rfl
        · exact (blkCell hW 3).trans rfl
      obtain ⟨av, hav⟩ : ∃ av, atv k = av := ⟨_, rfl⟩
      rw [hav] at q2 q3 q4 hC
      simp only [hav] at hcell
      have r0 := hcell wr HB.out
      have HC := Lib.hid hC
      have HCL := Lib.hid hcell
      have Q3 := Lib.hid q3
      have Q4 := Lib.hid q4
      have hk4 : (k : Int) < 4 := by omega
      have hk0 : (0 : Int) ≤ k := by omega
      clear q1 q2 q3 q4 hC hcell hav hk
      have hcs : ((n : Int) == av) = true ∧ k < 3 ∨ ((n : Int) == av) = true ∧ ¬ k < 3 ∨ ((n : Int) == av) = false := by
        cases ((n : Int) == av)
        · exact .inr (.inr rfl)
        · rcases Nat.lt_or_ge k 3 with h | h
          · exact .inl ⟨rfl, h⟩
          · exact .inr (.inl ⟨rfl, by omega⟩)
      rcases hcs with ⟨hq, hk3⟩ | ⟨hq, hk3⟩ | hq
      · have hk3' : (k : Int) < 3 := by omega
        have hkn := Q3.out hq hk3
        have HKN := Lib.hid hkn
        clear hkn
        have hr0 : wr.drew.cell? ⟨L, k, none⟩ = some (.int .i64 av) := r0
        go_wp2_with fail
        go_region_with (go_at_call 16; refine HC.out.mono ?_; rintro e w6 ⟨rfl, hE6, hT6⟩; have hB6 := hE6.blk HB.out (show ¬ L = g by omega); have r6 := HCL.out w6 hB6; have HT6 := Lib.hid hT6; have HB6 := Lib.hid hB6; have HE6 := Lib.hid (atNew HE.out.drew hE6 hg); clear hE6 hT6 hB6)
        all_goals
          go_wp2
          go_roundw
          case rel => exact ⟨n + 1, by omega, by omega, by go_num, by rw [HKN.out]; go_num, HT6, HB6, HE6⟩
          case measure => simp [intOf]; omega
      · have hk3' : ¬ (k : Int) < 3 := by omega
        have hkn := Q4.out (fun h => hk3 h.2)
        have HKN := Lib.hid hkn
        clear hkn
        have hr0 : wr.drew.cell? ⟨L, k, none⟩ = some (.int .i64 av) := r0
        go_wp2_with fail
        go_region_with (go_at_call 16; refine HC.out.mono ?_; rintro e w6 ⟨rfl, hE6, hT6⟩; have hB6 := hE6.blk HB.out (show ¬ L = g by omega); have r6 := HCL.out w6 hB6; have HT6 := Lib.hid hT6; have HB6 := Lib.hid hB6; have HE6 := Lib.hid (atNew HE.out.drew hE6 hg); clear hE6 hT6 hB6)
        all_goals
          go_wp2
          go_roundw
          case rel => exact ⟨n + 1, by omega, by omega, by go_num, by rw [HKN.out], HT6, HB6, HE6⟩
          case measure => simp [intOf]; omega
      · have hkn := Q4.out (fun h => by rw [hq] at h; cases h.1)
        have HKN := Lib.hid hkn
        clear hkn
        have hr0 : wr.drew.cell? ⟨L, k, none⟩ = some (.int .i64 av) := r0
        go_wp2_with fail
        go_region_with (go_at_call 16; refine HC.out.mono ?_; rintro e w6 ⟨rfl, hE6, hT6⟩; have hB6 := hE6.blk HB.out (show ¬ L = g by omega); have r6 := HCL.out w6 hB6; have HT6 := Lib.hid hT6; have HB6 := Lib.hid hB6; have HE6 := Lib.hid (atNew HE.out.drew hE6 hg); clear hE6 hT6 hB6)
        all_goals
          go_wp2
          go_roundw
          case rel => exact ⟨n + 1, by omega, by omega, by go_num, by rw [HKN.out], HT6, HB6, HE6⟩
          case measure => simp [intOf]; omega
    · obtain rfl : n = 17 := by omega
      have hT : IsT wr g 2 5 5 5 true := HT.out
      have HT' := Lib.hid hT
      clear hT
      go_wp2_with (first
        | (go_at_call 17; refine (wait_calls g 2 5 5 5 true _ HT'.out (by decide)).mono ?_; rintro e w6 ⟨rfl, rfl⟩)
        | (go_at_call 18; refine (left_calls g 2 5 5 5 true _ HT'.out (by decide)).mono ?_; rintro e w6 ⟨rfl, rfl⟩))
      go_ret
      exact ⟨rfl, HE.out⟩
/-- A timer that nobody made. -/
def NoTm (w : World) (v : Value) : Prop := v = .pointer none ∨ ∃ g, v = .pointer (some ⟨g, 0, none⟩) ∧ w.cell? ⟨g, 0, none⟩ = some (.int .i64 0)
theorem nobody (v : Value) (w : World) (h : NoTm w v) : Calls Try.prog 21 #[v] w fun e w' => e = .returned (.bool true) ∧ w' = w := by
  rcases h with rfl | ⟨g, rfl, h⟩
  · exact none_nil w
  · exact none_calls g 0 w h
theorem running_no (v : Value) (w : World) (h : NoTm w v) : Calls Try.prog 19 #[v] w fun e w' => e = .returned (.bool false) ∧ w' = w := by
  go_enter Try.func19, Try.ntmps19
  go_wp2_with (go_at_call 21; refine (nobody v w h).mono ?_; rintro e w' ⟨rfl, rfl⟩)
  go_ret
  exact ⟨rfl, rfl⟩
theorem run_no (v : Value) (on : Bool) (w : World) (h : NoTm w v) : Calls Try.prog 8 #[v, .bool on] w fun e w' => e = .returned (.tuple #[]) ∧ w' = w := by
  go_enter Try.func8, Try.ntmps8
  go_wp2_with (go_at_call 21; refine (nobody v w h).mono ?_; rintro e w' ⟨rfl, rfl⟩)
  exact bodyPost_ret (v := .tuple #[]) (by simp [results, Try.results8, go_sem]) rfl ⟨rfl, rfl⟩
theorem again_no (v : Value) (w : World) (h : NoTm w v) : Calls Try.prog 10 #[v] w fun e w' => e = .returned (.tuple #[]) ∧ w' = w := by
  go_enter Try.func10, Try.ntmps10
  go_wp2_with (go_at_call 19; refine (running_no v w h).mono ?_; rintro e w' ⟨rfl, rfl⟩)
  go_end0
  exact ⟨rfl, rfl⟩
theorem reset_no (v : Value) (w : World) (h : NoTm w v) : Calls Try.prog 12 #[v] w fun e w' => e = .returned (.tuple #[]) ∧ w' = w := by
  go_enter Try.func12, Try.ntmps12
  go_wp2_with (go_at_call 21; refine (nobody v w h).mono ?_; rintro e w' ⟨rfl, rfl⟩)
  exact bodyPost_ret (v := .tuple #[]) (by simp [results, Try.results12, go_sem]) rfl ⟨rfl, rfl⟩
theorem tick_no (v : Value) (w : World) (h : NoTm w v) : Calls Try.prog 16 #[v] w fun e w' => e = .returned (.bool false) ∧ w' = w := by
  go_enter Try.func16, Try.ntmps16
  go_wp2_with (go_at_call 19; refine (running_no v w h).mono ?_; rintro e w' ⟨rfl, rfl⟩)
  go_ret
  exact ⟨rfl, rfl⟩
theorem wait_no (v : Value) (w : World) (h : NoTm w v) : Calls Try.prog 17 #[v] w fun e w' => e = .returned (.int .i64 0) ∧ w' = w := by
  go_enter Try.func17, Try.ntmps17
  go_wp2_with (go_at_call 21; refine (nobody v w h).mono ?_; rintro e w' ⟨rfl, rfl⟩)
  go_ret
  exact ⟨rfl, rfl⟩
theorem left_no (v : Value) (w : World) (h : NoTm w v) : Calls Try.prog 18 #[v] w fun e w' => e = .returned (.int .i64 0) ∧ w' = w := by
  go_enter Try.func18, Try.ntmps18
  go_wp2_with (go_at_call 21; refine (nobody v w h).mono ?_; rintro e w' ⟨rfl, rfl⟩)
  go_ret
  exact ⟨rfl, rfl⟩
theorem fork_no (v : Value) (w : World) (h : NoTm w v) : Calls Try.prog 14 #[v] w fun e w' => e = .returned (.pointer none) ∧ w' = w := by
  go_enter Try.func14, Try.ntmps14
  go_wp2_with (go_at_call 21; refine (nobody v w h).mono ?_; rintro e w' ⟨rfl, rfl⟩)
  go_ret
  exact ⟨rfl, rfl⟩
end Go.Proofs.Ytaafmlbgldnkiaa
