/- The walk of the law CheckSums: called with any values that fit its parameters, it returns true and nothing that was in memory before has changed. No other condition. -/
import Derived.Test.YtnmdgkloehbkcaaKCheckTurned
namespace Go.Proofs.Ytnmdgkloehbkcaa
open Go.RowKit
namespace checkSums
set_option maxHeartbeats 1000000 in
theorem walk (a0 : Option Addr) (len0 cap0 : Nat) (z0 : List Int) (a1 : Option Addr) (len1 cap1 : Nat) (z1 : List Int) (a2 : Int) (w : World) (w0 : IsRow .u8 w a0 len0 cap0 z0) (w1 : IsRow .u8 w a1 len1 cap1 z1) (w2 : (Lit.int .u32 a2).wf = true) :
    Calls Try.prog 4 #[.slice a0 len0 cap0, .slice a1 len1 cap1, .int .u32 a2] w fun e w' => e = .returned (.bool true) ∧ Below w.heap.size w w' := by
  obtain ⟨bs, hlen, hr, hb, hlc, hcm⟩ := cutReads w0
  obtain ⟨ds, hlen2, hr2, hb2, hlc2, hcm2⟩ := cutReads w1
  have b2 := bd32 w2
  clear w0 w1 w2
  have hc9 := cut_calls a0 len0 cap0 w hlc hcm
  have hc8 := cut_calls a1 len1 cap1 w hlc2 hcm2
  rw [← hlen] at hc9
  rw [← hlen2] at hc8
  have hm1 : bs.length ≤ 1500 := by omega
  have hm2 : ds.length ≤ 1500 := by omega
  have H9 := Lib.hid hc9
  have H8 := Lib.hid hc8
  have HR := Lib.hid hr
  have HS := Lib.hid hr2
  clear hr hr2 hlen hlen2 hlc hlc2 hcm hcm2 hc9 hc8
  go_enter Try.func4, Try.ntmps4
  go_wp2_with fail
  refine H9.out.mono ?_
  rintro e w1 ⟨rfl, rfl⟩
  go_wp2_with fail
  refine H8.out.mono ?_
  rintro e w2 ⟨rfl, rfl⟩
  go_wp2_with fail
  refine (join_calls a0 a1 cap0 cap1 bs ds _ HR.out HS.out (by omega)).mono ?_
  rintro e w3 ⟨A, c, rfl, ho, hE3⟩
  clear H8 H9
  have r3 := ownReads1 ho
  have hbd := hb.app hb2
  have hl : (bs ++ ds).length ≤ 3000 := by simp; omega
  clear ho
  obtain ⟨al, hal⟩ : ∃ l, bs ++ ds = l := ⟨_, rfl⟩
  rw [hal] at r3 hbd hl ⊢
  have HAL := Lib.hid hal
  clear hal
  go_wp2_with fail
  refine (adler_two _ _ _ 2 cap0 cap1 _ _ bs ds _ (litReads w3 [Value.slice a0 bs.length cap0, .slice a1 ds.length cap1] 22 (by simp)) rfl rfl ((HR.out.mono0 hE3).mono0 ((Ext.refl _ _).alloc _)) ((HS.out.mono0 hE3).mono0 ((Ext.refl _ _).alloc _)) hb hb2).mono ?_
  rintro e w4 ⟨rfl, hE4⟩
  have hE34 := ((Ext.refl N0 w3).alloc (.cells [Value.slice a0 bs.length cap0, .slice a1 ds.length cap1].toArray 22)).then0 hE4
  have hE5 := hE3.then0 hE34
  have r4 := r3.mono0 hE34
  clear hE3 hE4 hE34 r3
  rw [HAL.out]
  go_wp2_with fail
  refine (of_calls A c al _ r4 hbd).mono ?_
  rintro e w5 ⟨rfl, rfl⟩
  obtain ⟨s1, hs1⟩ : ∃ s, asum (adl (1, 0) al) = s := ⟨_, rfl⟩
  rw [hs1]
  clear hs1
  go_wp2_with fail
  refine (next_calls a2 a0 cap0 bs _ b2.1 b2.2 (HR.out.mono0 hE5) hb).mono ?_
  rintro e w6 ⟨rfl, hE6⟩
  have hE7 := hE5.then0 hE6
  have r6 := r4.mono0 hE6
  clear hE5 hE6 r4
  go_wp2_with fail
  refine (on_calls a2 a0 cap0 bs _ b2.1 b2.2 (HR.out.mono0 hE7) hb).mono ?_
  rintro e w7 ⟨rfl, rfl⟩
  obtain ⟨s2, hs2⟩ : ∃ s, asum (adl (spl a2) bs) = s := ⟨_, rfl⟩
  rw [hs2]
  clear hs2
  go_wp2_with fail
  refine (ones_two _ _ _ 2 cap0 cap1 _ _ bs ds _ (litReads _ [Value.slice a0 bs.length cap0, .slice a1 ds.length cap1] 22 (by simp)) rfl rfl ((HR.out.mono0 hE7).mono0 ((Ext.refl _ _).alloc _)) ((HS.out.mono0 hE7).mono0 ((Ext.refl _ _).alloc _)) hb hb2).mono ?_
  rintro e w8 ⟨rfl, rfl⟩
  have hE8 := hE7.alloc (.cells [Value.slice a0 bs.length cap0, .slice a1 ds.length cap1].toArray 22)
  rw [HAL.out]
  go_wp2_with fail
  refine (rones_calls A c al _ (r6.mono0 ((Ext.refl _ _).alloc _)) hbd (by omega)).mono ?_
  rintro e w9 ⟨rfl, rfl⟩
  obtain ⟨s3, hs3⟩ : ∃ s, on2 0 al = s := ⟨_, rfl⟩
  rw [hs3]
  clear hs3 r6
  go_wp2_with fail
  refine (ones_nil _).mono ?_
  rintro e w10 ⟨rfl, rfl⟩
  go_wp2_with fail
  refine (awake_calls _).mono ?_
  rintro e w11 ⟨rfl, hE11⟩
  have hE12 := hE8.then0 hE11
  go_wp2
  go_ret
  exact ⟨rfl, hE12.below⟩
end checkSums
end Go.Proofs.Ytnmdgkloehbkcaa
