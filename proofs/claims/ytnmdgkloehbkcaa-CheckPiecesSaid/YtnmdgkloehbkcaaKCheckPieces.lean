/- The walk of the law CheckPieces: called with any values that fit its parameters, it returns true and nothing that was in memory before has changed. No other condition. -/
import Derived.Test.YtnmdgkloehbkcaaKCheckTurned
import Derived.Test.YtnmdgkloehbkcaaCut
import Derived.WalkLawsBesides
namespace Go.Proofs.Ytnmdgkloehbkcaa
open Go.RowKit
theorem spl_asum (p : Int × Int) (h1 : 0 ≤ p.1 ∧ p.1 < 65521) (h2 : 0 ≤ p.2 ∧ p.2 < 65521) : spl (asum p) = p := by
  obtain ⟨a, b⟩ := p
  unfold spl asum
  simp only at h1 h2 ⊢
  rw [Prod.mk.injEq]
  omega
theorem asum_bd (p : Int × Int) (h1 : 0 ≤ p.1 ∧ p.1 < 65521) (h2 : 0 ≤ p.2 ∧ p.2 < 65521) : 0 ≤ asum p ∧ asum p < 4294967296 := by
  unfold asum
  omega
/-- The contracts of 'sum' and 'Sum' again, with the world itself. -/
theorem sum_q (g T : Nat) (a b : Int) (rest : List Value) (w : World) (ha : 0 ≤ a ∧ a < 65521) (hb : 0 ≤ b ∧ b < 65521)
   (hI : w.heap[g]? = some (.cells (Value.int .u32 a :: Value.int .u32 b :: rest).toArray T (0, 0))) :
    Calls Try.prog 28 #[.pointer (some ⟨g, 0, none⟩)] w fun e w' => e = .returned (.int .u32 (65536 * b + a)) ∧ ∃ m, w' = w.drewN m := by
  have c0 := (blkCell hI 0).trans rfl
  have c1 := (blkCell hI 1).trans rfl
  simp at c0 c1
  have HI := Lib.hid hI
  clear hI
  have H := Lib.hid (bits_or16 a b ha hb)
  go_enter Try.func28, Try.ntmps28
  go_wp2
  go_quiet (fail)
  go_wp2
  go_ret
  exact ⟨retInt H.out, _, rfl⟩
theorem summ_q (g : Nat) (p : Int × Int) (n : Int) (w : World) (hI : IsSum w g p n) (ha : 0 ≤ p.1 ∧ p.1 < 65521) (hb : 0 ≤ p.2 ∧ p.2 < 65521) : Calls Try.prog 23 #[.pointer (some ⟨g, 0, none⟩)] w fun e w' => e = .returned (.int .u32 (asum p)) ∧ ∃ m, w' = w.drewN m := by
  have c3 := (blkCell hI 3).trans rfl
  simp at c3
  have hh := Lib.hid (sum_q g 41 p.1 p.2 _ w ha hb hI)
  clear hI
  go_enter Try.func23, Try.ntmps23
  go_wp2_with (first | (go_at_call 31; refine (none_calls g true _ c3).mono ?_; rintro e w1 ⟨rfl, rfl⟩) | (go_at_call 28; refine hh.out.mono ?_; rintro e w1 ⟨rfl, m, rfl⟩))
  go_ret
  exact ⟨rfl, m, rfl⟩
namespace checkPieces
set_option maxRecDepth 100000 in
set_option maxHeartbeats 2000000 in
theorem walk (a0 : Option Addr) (len0 cap0 : Nat) (z0 : List Int) (a1 : Option Addr) (len1 cap1 : Nat) (z1 : List Int) (w : World) (w0 : IsRow .u8 w a0 len0 cap0 z0) (w1 : IsRow .u8 w a1 len1 cap1 z1) :
    Calls Try.prog 8 #[.slice a0 len0 cap0, .slice a1 len1 cap1] w fun e w' => e = .returned (.bool true) ∧ Below w.heap.size w w' := by
  obtain ⟨bs, hlen, hr, hb, hlc, hcm⟩ := cutReads w0
  obtain ⟨hr2, hl2, hlc2, hcm2, hw2⟩ := w1.reads
  have hb2 := wfBytes hw2
  obtain ⟨ys, hys⟩ : ∃ ys, z1.take len1 = ys := ⟨_, rfl⟩
  rw [hys] at hr2 hl2 hb2
  subst hl2
  have hc9 := cut_calls a0 len0 cap0 w hlc hcm
  rw [← hlen] at hc9
  have hbc : bs.length ≤ cap0 := by omega
  have hm1 : bs.length ≤ 1500 := by omega
  have H9 := Lib.hid hc9
  have HR := Lib.hid hr
  have HS := Lib.hid hr2
  clear hr hr2 hlen hlc hc9 hw2 hys w0 w1
  go_enter Try.func8, Try.ntmps8
  go_wp2_with fail
  refine H9.out.mono ?_
  rintro e w1 ⟨rfl, rfl⟩
  go_wp2_with fail
  refine (new_calls _).mono ?_
  rintro e w2 ⟨rfl, hE2, hI2⟩
  obtain ⟨g, hg⟩ : ∃ g, w1.heap.size = g := ⟨_, rfl⟩
  rw [hg] at hI2 ⊢
  have HG := Lib.hid hg
  have HI2 := Lib.hid hI2
  clear hg hI2
  go_wp2_with fail
  refine (adler_nil _).mono ?_
  rintro e w3 ⟨rfl, hE3⟩
  have hE := hE2.then0 hE3
  have hI := hE3.blk0 HI2.out
  clear hE2 hE3 HI2 H9
  go_wp2
  go_loopw [6, 7, 8] (fun s at_ i wr => ∃ (k n : Nat) (p : Int × Int), k ≤ ys.length ∧ k ≤ 30 ∧ n ≤ bs.length ∧ i = .int .i64 k ∧ at_ = .int .i64 n ∧ s = .int .u32 (asum p) ∧ Hid (p = adl (1, 0) (bs.take n)) ∧ Hid (Ext N0 w1 wr) ∧ Hid (IsSum wr g p n))
                 (fun _ _ i _ => 31 - (intOf i).toNat)
  case atStart => exact ⟨0, 0, (1, 0), by omega, by omega, by omega, rfl, rfl, rfl, Lib.hid rfl, Lib.hid hE, Lib.hid hI⟩
  case round =>
    obtain ⟨k, n, p, hk, hk2, hn, rfl, rfl, rfl, hp, hE, hI⟩ := hrel
    have hbd := adl_bd (1, 0) (bs.take n) (by decide) (by decide)
    rw [← hp.out] at hbd
    by_cases h1 : k < ys.length ∧ k < 30 ∧ n < bs.length
    · obtain ⟨h1, h2, h3⟩ := h1
      have h1' : (k : Int) < ys.length := by omega
      have h2' : (k : Int) < 30 := by omega
      have h3' : (n : Int) < bs.length := by omega
      obtain ⟨ad, rfl, hc⟩ := HS.out.num k h1
      have hxk := hb2.at k h1
      obtain ⟨c, hcc⟩ : ∃ c, ys.getD k 0 = c := ⟨_, rfl⟩
      rw [hcc] at hc hxk
      have hc' := hE.out.cell hc (fun x => x)
      clear hc hcc
      obtain ⟨m, hm1, hm2⟩ : ∃ m : Nat, n + m ≤ bs.length ∧ ((c = m ∧ ¬ (bs.length : Int) - n < c) ∨ ((bs.length : Int) - n < c ∧ (bs.length : Int) - n = m)) := by
        rcases Int.lt_or_le ((bs.length : Int) - n) c with h | h
        · exact ⟨bs.length - n, by omega, .inr ⟨h, by omega⟩⟩
        · exact ⟨c.toNat, by omega, .inl ⟨by omega, by omega⟩⟩
      obtain ⟨i5, hi5, _, hsz5, _⟩ := info_parts info5
      obtain ⟨A1, hcut1, hC1⟩ := cutLH 22 5 Try.underlying22 hi5 hsz5 a0 bs.length cap0 .i64 .i64 (n : Int) ((n : Int) + m) n m rfl (by omega) (by omega)
      have hC1' := Lib.hid hC1
      clear hC1 hi5 hsz5
      obtain ⟨xs, hxs⟩ : ∃ xs, (bs.drop n).take m = xs := ⟨_, rfl⟩
      have hxl : xs.length = m := by rw [← hxs]; simp; omega
      have hxb : Bytes xs := by rw [← hxs]; exact (hb.drop n).take m
      have hrx : ∀ W, Ext N0 w1 W → Reads W A1 (ints .u8 xs) := by
        intro W hW
        have := hC1'.out.1 W (ints .u8 bs) (by simp [ints]) hbc hm1 (HR.out.mono0 hW)
        rwa [show ((ints .u8 bs).drop n).take m = ints .u8 xs from by rw [← hxs]; simp [ints]] at this
      have hrt : ∀ W, Ext N0 w1 W → Reads W a0 (ints .u8 (bs.take (n + m))) := by
        intro W hW
        have := (HR.out.mono0 hW).take (n + m)
        rwa [show (ints .u8 bs).take (n + m) = ints .u8 (bs.take (n + m)) from by simp [ints]] at this
      have htl : (bs.take (n + m)).length = n + m := by simp; omega
      have hpq : adl p xs = adl (1, 0) (bs.take (n + m)) := by rw [List.take_add, adl_app, ← hp.out, hxs]
      obtain ⟨q, hq⟩ : ∃ q, adl p xs = q := ⟨_, rfl⟩
      have hqb := adl_bd p xs hbd.1 hbd.2
      rw [hq] at hpq hqb
      have hnx : ∀ W, Ext N0 w1 W → Calls Try.prog 14 #[.int .u32 (asum p), .slice A1 m (cap0 - n)] W fun e w' => e = .returned (.int .u32 (asum q)) ∧ Ext N0 W w' := by
        intro W hW
        have := next_calls (asum p) A1 (cap0 - n) xs W (asum_bd p hbd.1 hbd.2).1 (asum_bd p hbd.1 hbd.2).2 (hrx W hW) hxb
        rwa [spl_asum p hbd.1 hbd.2, hq, hxl] at this
      have hof : ∀ W, Ext N0 w1 W → Calls Try.prog 13 #[.slice a0 (n + m) cap0] W fun e w' => e = .returned (.int .u32 (asum q)) ∧ w' = W := by
        intro W hW
        have := of_calls a0 cap0 (bs.take (n + m)) W (hrt W hW) (hb.take _)
        rwa [htl, ← hpq] at this
      have hne : 0 < xs.length → ∀ ad, A1 = some ad → ad.block ≠ g := by
        intro _ ad' e
        obtain ⟨ad0, e0, eb⟩ := hC1'.out.2 ad' e
        have := HR.out.lt (by rw [ints_length]; omega) ad0 e0
        rw [HG.out] at this
        omega
      have hw := write_calls g p n A1 (cap0 - n) xs wr hI.out hbd.1 hbd.2 hxb (hrx wr hE.out) hne (by omega) (by omega)
      rw [hxl, hq] at hw
      have HW := Lib.hid hw
      have HNX := Lib.hid hnx
      have HOF := Lib.hid hof
      have HPQ := Lib.hid hpq
      clear hw hxs hxl hrx hne hrt htl hpq hq hnx hof
      rcases hm2 with ⟨rfl, hm3⟩ | ⟨hm3, hm4⟩
      all_goals
        go_wp2_with fail
        refine HW.out.mono ?_
        rintro e w4 ⟨rfl, hE4, hI4⟩
        have hE5 := hE.out.trans hE4 (fun k hk => .inr (by rw [show k = g from hk, ← HG.out]; exact Nat.le_refl _))
        have HI4 := Lib.hid hI4
        clear hI4 HW hE4
        go_wp2_with fail
        refine (HNX.out _ hE5).mono ?_
        rintro e w5 ⟨rfl, hE6⟩
        have hE7 := hE5.then0 hE6
        have hI5 : IsSum w5 g q (n + m) := hE6.blk0 HI4.out
        have HI5 := Lib.hid hI5
        have i1 : ((n : Int) + m).toNat = n + m := by omega
        have i2 : 0 ≤ (n : Int) + m := by omega
        have i3 : (n : Int) + m ≤ cap0 := by omega
        clear hI5 HI4 hE6 hE5
        go_wp2_with fail
        go_quiet (first
          | (go_at_call 23; exact Calls.quiet_of (summ_q g q (n + m) _ HI5.out hqb.1 hqb.2))
          | (go_at_call 13; exact Calls.quiet_of_same (HOF.out _ (hE7.drewN _)))
          | (go_at_call 24; exact Calls.quiet_of_same (len_calls g q (n + m) _ HI5.out)))
        clear i1 i2 i3 hc' hxk
        go_wp2
        go_roundw
        case rel => exact ⟨k + 1, n + m, q, by omega, by omega, by omega, by go_num, by go_num, rfl, HPQ, Lib.hid (hE7.drewN _), Lib.hid (by rw [show ((n + m : Nat) : Int) = (n : Int) + m from by omega]; exact HI5.out)⟩
        case measure => simp [intOf]; omega
    · have h1' : ¬ ((k : Int) < ys.length) ∨ ((k : Int) < ys.length ∧ ¬ ((k : Int) < 30)) ∨ ((k : Int) < ys.length ∧ (k : Int) < 30 ∧ ¬ ((n : Int) < bs.length)) := by omega
      clear h1
      obtain ⟨i5, hi5, _, hsz5, _⟩ := info_parts info5
      obtain ⟨A1, hcut1, hC1⟩ := cutL 22 5 Try.underlying22 hi5 hsz5 a0 bs.length cap0 .i64 (n : Int) n rfl hn
      have hC1' := Lib.hid hC1
      clear hC1 hi5 hsz5
      obtain ⟨m, hm⟩ : ∃ m, bs.length - n = m := ⟨_, rfl⟩
      rw [hm] at hcut1 hC1'
      have hm1 : n + m ≤ bs.length := by omega
      obtain ⟨xs, hxs⟩ : ∃ xs, bs.drop n = xs := ⟨_, rfl⟩
      have hxl : xs.length = m := by rw [← hxs]; simp; omega
      have hxb : Bytes xs := by rw [← hxs]; exact hb.drop n
      have hrx : ∀ W, Ext N0 w1 W → Reads W A1 (ints .u8 xs) := by
        intro W hW
        have := hC1'.out.1 W (ints .u8 bs) (by simp [ints]) hbc hm1 (HR.out.mono0 hW)
        rwa [show ((ints .u8 bs).drop n).take m = ints .u8 xs from by rw [← hxs, List.take_of_length_le (by simp [ints]; omega)]; simp [ints]] at this
      have hlt : 0 < xs.length → ∀ ad, A1 = some ad → ad.block < w1.heap.size := by
        intro h0 ad' e
        obtain ⟨ad0, e0, eb⟩ := hC1'.out.2 ad' e
        have := HR.out.lt (by rw [ints_length]; omega) ad0 e0
        omega
      have hpq : adl p xs = adl (1, 0) bs := by rw [hp.out, ← hxs, ← adl_app, List.take_append_drop]
      have hqb := adl_bd p xs hbd.1 hbd.2
      obtain ⟨q, hq⟩ : ∃ q, adl p xs = q := ⟨_, rfl⟩
      rw [hq] at hpq hqb
      have HXL := Lib.hid hxl
      have HRX := Lib.hid hrx
      have HLT := Lib.hid hlt
      have HPQ := Lib.hid hpq
      have HQ := Lib.hid hq
      clear hm hxs hxl hrx hlt hpq hq
      rcases h1' with h1 | ⟨h1, h2⟩ | ⟨h1, h2, h3⟩
      all_goals
        go_wp2_with fail
        refine (fork_calls g p n _ hI.out).mono ?_
        rintro e w5 ⟨rfl, hE5, hI5⟩
        obtain ⟨f, hf⟩ : ∃ f, wr.heap.size = f := ⟨_, rfl⟩
        have hgf : g < f := by rw [← hf]; exact blkLt hI.out
        have hgw := hE.out.size
        rw [HG.out, hf] at hgw
        rw [hf] at hI5 ⊢
        have hE6 := hE.out.then0 hE5
        have hIg := hE5.blk0 hI.out
        have HF := Lib.hid hf
        have HI5 := Lib.hid hI5
        clear hf hI5 hE5
        go_wp2_with fail
        refine (write_calls g p n _ 3 [1, 2, 3] _ (blkAlloc hIg _) hbd.1 hbd.2 (by unfold Bytes; decide) (litReads w5 [.int .u8 1, .int .u8 2, .int .u8 3] 5 (by simp)) (fun _ ad e => by injection e with e; rw [← e]; have := blkLt hIg; show w5.heap.size ≠ g; omega) (by omega) (by simp)).mono ?_
        rintro e w6 ⟨rfl, hE7, _⟩
        have hB6 := hE7.blk (blkAlloc HI5.out _) (show ¬ f = g by omega)
        have hE8 : Ext N0 w1 w6 := (hE6.alloc _).trans hE7 (fun k hk => .inr (by rw [show k = g from hk, ← HG.out]; exact Nat.le_refl _))
        have hw := write_calls f p n A1 (cap0 - n) xs w6 hB6 hbd.1 hbd.2 hxb (HRX.out _ hE8) (fun h0 ad e => by have := HLT.out h0 ad e; rw [HG.out] at this; omega) (by omega) (by have := HXL.out; omega)
        rw [HXL.out, HQ.out] at hw
        have HW := Lib.hid hw
        clear hw hIg hE7 hB6 hE6 HI5
        go_wp2_with fail
        refine HW.out.mono ?_
        rintro e w7 ⟨rfl, hE9, hI7⟩
        have hE10 := hE8.trans hE9 (fun k hk => .inr (by rw [show k = f from hk, HG.out]; omega))
        have HI7 := Lib.hid hI7
        clear hI7 hE8 hE9 HW
        go_wp2_with fail
        refine (summ_calls f q _ _ HI7.out hqb.1 hqb.2).mono ?_
        rintro e w8 ⟨rfl, hE11⟩
        have hE12 := hE10.then0 hE11
        have hI8 := hE11.blk0 HI7.out
        have HI8 := Lib.hid hI8
        clear hE10 hE11 HI7 hI8
        go_wp2_with fail
        refine (of_calls a0 cap0 bs _ (HR.out.mono0 hE12) hb).mono ?_
        rintro e w9 ⟨rfl, rfl⟩
        rw [← HPQ.out]
        go_wp2_with fail
        refine (adler_one _ _ _ _ cap0 bs _ (litReads _ [Value.slice a0 bs.length cap0] 22 (by simp)) rfl ((HR.out.mono0 hE12).mono0 ((Ext.refl _ _).alloc _)) hb).mono ?_
        rintro e w10 ⟨rfl, hE13⟩
        have hE14 := (hE12.alloc _).then0 hE13
        have hI9 := hE13.blk0 (blkAlloc HI8.out _)
        have HI9 := Lib.hid hI9
        rw [← HPQ.out]
        clear hE12 hE13 HI8 hI9
        go_wp2_with fail
        refine (summ_calls f q _ _ HI9.out hqb.1 hqb.2).mono ?_
        rintro e w11 ⟨rfl, hE15⟩
        have hE16 := hE14.then0 hE15
        clear hE14 hE15
        go_wp2_with (go_at_call 10; refine (awake_calls _).mono ?_; rintro e w12 ⟨rfl, hE17⟩)
        go_ret
        exact ⟨rfl, (hE16.then0 hE17).below⟩
end checkPieces
end Go.Proofs.Ytnmdgkloehbkcaa
