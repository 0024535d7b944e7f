/- The document's answer for package gauge: Counts, Above (the conditions stand in the statements). -/
import Derived.Test.YtcngefpdfkkgdaaS3
import Derived.Test.YtcngefpdfkkgdaaGS5
namespace Go.Proofs.Ytcngefpdfkkgdaa
open Go.RowKit
theorem rcounts_nil (A0 A1 A : Option Addr) (n0 c0 n1 c1 c : Nat) (at' : Int) (key : ByteArray) (w : World) (hof : ∀ W, Ext N0 w W → Calls Try.prog 37 #[.agg (rG A0 n0 c0 A1 n1 c1), .string key] W fun e w' => e = .returned (.tuple #[.slice A 0 c, .int .i64 at']) ∧ Ext N0 W w') :
    Calls Try.prog 14 #[.agg (rG A0 n0 c0 A1 n1 c1), .string key] w fun e w' => e = .returned (.slice none 0 0) ∧ Ext N0 w w' := by
  have hE0 : Ext N0 w (w.alloc (.cells (rG A0 n0 c0 A1 n1 c1) 30)) := (Ext.refl _ _).alloc _
  have HOf := Lib.hid (hof _ hE0)
  have HE0 := Lib.hid hE0
  clear hof hE0
  go_enter Try.func14, Try.ntmps14
  go_wp2_with (go_at_call 37; refine HOf.out.mono ?_; rintro e w2 ⟨rfl, hE2⟩; have HE2 := Lib.hid (HE0.out.then0 hE2); clear hE2)
  go_ret
  exact ⟨rfl, HE2.out⟩
set_option maxRecDepth 100000 in
set_option maxHeartbeats 2000000 in
theorem rcounts_calls (A0 A1 A : Option Addr) (c0 n1 c1 c : Nat) (at' : Int) (bs l : List Int) (key : ByteArray) (w : World) (hof : ∀ W, Ext N0 w W → Calls Try.prog 37 #[.agg (rG A0 bs.length c0 A1 n1 c1), .string key] W fun e w' => e = .returned (.tuple #[.slice A l.length c, .int .i64 at']) ∧ Ext N0 W w')
    (hb : Reads w A0 (iv bs)) (hbl : bs.length ≤ 64) (hs : Srt bs) (hr : Reads w A (iv l)) (hl0 : 1 ≤ l.length) (hl : l.length ≤ 1000) :
    Calls Try.prog 14 #[.agg (rG A0 bs.length c0 A1 n1 c1), .string key] w fun e w' => ∃ A c, e = .returned (.slice A (bs.length + 1) c) ∧ Reads w' A (iv (cnt bs l)) ∧ Ext N0 w w' := by
  have hE0 : Ext N0 w (w.alloc (.cells (rG A0 bs.length c0 A1 n1 c1) 30)) := (Ext.refl _ _).alloc _
  have HOf := Lib.hid (hof _ hE0)
  have HE0 := Lib.hid hE0
  have HB := Lib.hid (blkNew w (.cells (rG A0 bs.length c0 A1 n1 c1) 30))
  have HBk := Lib.hid (fun x W (h : Reads W A0 (iv bs)) => rbucket_calls A0 c0 (.slice A1 n1 c1) bs x W ⟨_, _, _, rfl⟩ h hbl hs)
  have HRb := Lib.hid hb
  have HR := Lib.hid hr
  obtain ⟨i0, hi0, hzz⟩ := Option.map_eq_some_iff.1 info3
  simp only [Prod.mk.injEq] at hzz
  have HMk : Hid (∀ W : World, w.heap.size ≤ W.heap.size → ∃ wA, (Instr.makeSlice 22 (.int .i64 ((bs.length : Int) + 1)) (.int .i64 ((bs.length : Int) + 1))).run Try.prog W = .ok (.slice (some ⟨W.heap.size, 0, none⟩) (bs.length + 1) (bs.length + 1)) wA ∧ wA.ownsRow w.heap.size 3 1 (.slice (some ⟨W.heap.size, 0, none⟩) (bs.length + 1) (bs.length + 1)) (bs.length + 1) (iv (cnt bs [])) ∧ Ext N0 W wA) := Lib.hid (fun W hW => by
    obtain ⟨wA, hmk, hrowA, hgA⟩ := run_makeSlice_full (P := Try.prog) W w.heap.size 22 3 i0 (.int .i64 0) 1 Try.underlying22 hi0 hzz.1 hzz.2.1 .i64 .i64 (bs.length + 1) (by omega) (by rw [hzz.2.2]; omega) (by simp only [maxLen]; omega) hW
    rw [show ((bs.length + 1 : Nat) : Int) = (bs.length : Int) + 1 by omega] at hmk
    refine ⟨wA, hmk, ?_, (Ext.of_grown hgA).mono (fun y _ hy => by cases hy)⟩
    rw [cnt_nil, ← made_ivS (bs.length + 1)]
    exact hrowA)
  have hbk := fun x => bkt_le x bs
  obtain ⟨n, hn⟩ : ∃ n, l.length = n := ⟨_, rfl⟩
  obtain ⟨nb, hnb⟩ : ∃ nb, bs.length = nb := ⟨_, rfl⟩
  have HN := Lib.hid hn
  have HNb := Lib.hid hnb
  rw [hn, hnb] at HOf
  rw [hn] at hl hl0
  rw [hnb] at HMk HB HBk HE0 hbl ⊢
  simp only [hnb] at hbk
  have HK := Lib.hid hbk
  have hn0 : ¬ n = 0 := by omega
  have hn0' : ¬ (n : Int) = 0 := by omega
  have hbeq : ((n : Int) == 0) = false := beq_eq_false_iff_ne.mpr hn0'
  clear hof hE0 hb hr hn hnb hs hi0 hzz hbk
  go_enter Try.func14, Try.ntmps14
  go_wp2_with (go_at_call 37; refine HOf.out.mono ?_; rintro e w2 ⟨rfl, hE2⟩; have hb2 := hE2.blk0 HB.out; have d0 : w2.cell? ⟨w.heap.size, 0, none⟩ = some (.slice A0 nb c0) := (blkCell hb2 0).trans rfl; obtain ⟨wA, hmk, hrow, hEA⟩ := HMk.out w2 (HE0.out.then0 hE2).size; have HI := Lib.hid (And.intro hrow (And.intro ((HE0.out.then0 hE2).then0 hEA) (hEA.blk0 hb2))); clear hE2 hrow hEA hb2)
  clear HMk HB
  obtain ⟨ga, hga⟩ : ∃ ga, w2.heap.size = ga := ⟨_, rfl⟩
  rw [hga] at HI hmk
  simp only [hga]
  clear hga hmk d0 hn0 hn0'
  go_loopw [8] (fun i wr => ∃ k : Nat, i = .int .i64 k ∧ k ≤ n ∧ Hid (wr.ownsRow w.heap.size 3 1 (.slice (some ⟨ga, 0, none⟩) (nb + 1) (nb + 1)) (nb + 1) (iv (cnt bs (l.take k))) ∧ Ext N0 w wr ∧ wr.heap[w.heap.size]? = some (.cells (rG A0 nb c0 A1 n1 c1) 30 (0, 0)))) (fun i _ => n - (intOf i).toNat)
  case atStart => exact ⟨0, rfl, by omega, Lib.hid (by simpa using HI.out)⟩
  case round =>
    clear HI
    obtain ⟨k, rfl, hk, HI⟩ := hrel
    by_cases hlt : k < n
    · have hlt' : (k : Int) < n := by omega
      have hD := (Ext.refl N0 wr).drew
      obtain ⟨ad, rfl, hc⟩ := (HR.out.mono0 (HI.out.2.1.then0 hD)).2 (by rw [iv_len, HN.out]; omega)
      obtain ⟨x, hx⟩ : ∃ x, l[k]? = some x := ⟨_, List.getElem?_eq_getElem (by rw [HN.out]; exact hlt)⟩
      have cx := hc k _ (iv_get hx)
      have d0 : wr.drew.cell? ⟨w.heap.size, 0, none⟩ = some (.slice A0 nb c0) := (blkCell (hD.blk0 HI.out.2.2) 0).trans rfl
      have d1 : wr.drew.cell? ⟨w.heap.size, 1, none⟩ = some (.slice A1 n1 c1) := (blkCell (hD.blk0 HI.out.2.2) 1).trans rfl
      have HCall := Lib.hid (HBk.out x wr.drew (HRb.out.mono0 (HI.out.2.1.then0 hD)))
      have hp := HK.out x
      have HPush : Hid (cnt bs (l.take (k + 1)) = (cnt bs (l.take k)).set (bkt bs x) ((((l.take k).filter fun y => bkt bs y == bkt bs x).length : Int) + 1)) := Lib.hid (by rw [List.take_add_one, hx]; exact cnt_push bs (l.take k) x)
      have HGet := Lib.hid (cnt_get bs (l.take k) (i := bkt bs x) (by rw [HNb.out]; exact hp))
      have hcl := List.length_filter_le (fun y => bkt bs y == bkt bs x) (l.take k)
      rw [List.length_take] at hcl
      obtain ⟨p, hpe⟩ : ∃ p, bkt bs x = p := ⟨_, rfl⟩
      rw [hpe] at hp HPush HGet HCall hcl
      obtain ⟨cp, hcp⟩ : ∃ cp : Int, (((l.take k).filter fun y => bkt bs y == p).length : Int) = cp := ⟨_, rfl⟩
      have hcb : 0 ≤ cp ∧ cp ≤ 1000 := by omega
      rw [hcp] at HPush HGet
      have hw : IntKind.i64.wrap (cp + 1) = cp + 1 := IntWalk.i64_in _ (by omega)
      have hpI : (p : Int) < ((nb + 1 : Nat) : Int) := by omega
      have HD := Lib.hid hD
      clear hc hx hD hpe hcp hcl
      go_wp2_with fail
      go_region_with (go_at_call 41; refine HCall.out.mono ?_; rintro e w7 ⟨rfl, hE7⟩; have hr7 := ownKept0 (ownKept0 HI.out.1 HD.out) hE7; have r0 : w7.cell? ⟨ga, p, none⟩ = some (.int .i64 cp) := (congrArg w7.cell? (addPlain ga p)).symm.trans (World.ownsRow.cells (g := ga) hr7 rfl p _ (iv_get HGet.out)); have rf := hr7.frozenAt p; have HR7 := Lib.hid (And.intro hr7 (HD.out.then0 hE7)); clear hr7 hE7)
      all_goals
        obtain ⟨w8, hw8⟩ : ∃ w8, w7.setCell ⟨ga, p, none⟩ (.int .i64 (cp + 1)) = w8 := ⟨_, rfl⟩
        have hx8 : Ext (At ga) w7 w8 := by rw [← hw8]; exact extSet _ _ _ _
        have hr8 := (World.ownsRow.stored HR7.out.1 p (.int .i64 (cp + 1))).1
        rw [iv_set, ← HPush.out, hw8] at hr8
        have hbg := (ownBase HR7.out.1 ga rfl).1
        have hE8 : Ext N0 w w8 := (HI.out.2.1.then0 HR7.out.2).trans hx8 (fun y hy => .inr (by have hy : y = ga := hy; omega))
        have hb7 := HR7.out.2.blk0 HI.out.2.2
        have hb8 := hx8.blk hb7 (fun (e : w.heap.size = ga) => ownNeBlk HR7.out.1 hb7 (by decide) ga rfl e.symm)
        have HI8 := Lib.hid (And.intro hr8 (And.intro hE8 hb8))
        simp only [hw8]
        clear hw8 hx8 hr8 hbg hE8 hb7 hb8 cx d0 d1 r0 rf
        go_wp2
        go_roundw
        case rel => exact ⟨k + 1, by go_num, by omega, HI8⟩
        case measure => simp only [intOf]; omega
    · have hlt' : ¬ (k : Int) < n := by omega
      obtain rfl : k = n := by omega
      go_wp2
      go_ret
      have h1 := HI.out.1
      rw [List.take_of_length_le (by rw [HN.out]; omega)] at h1
      first | exact ⟨_, _, rfl, ownReads1 h1, HI.out.2.1⟩ | exact ⟨_, ⟨_, rfl⟩, ownReads1 h1, HI.out.2.1⟩
set_option maxRecDepth 100000 in
set_option maxHeartbeats 2000000 in
theorem rabove_calls (A0 A1 : Option Addr) (c0 n1 c1 : Nat) (bs cs : List Int) (t : Int) (key : ByteArray) (w : World) (hcs : ∀ W, Ext N0 w W → Calls Try.prog 14 #[.agg (rG A0 bs.length c0 A1 n1 c1), .string key] W fun e w' => ∃ A c, e = .returned (.slice A cs.length c) ∧ Reads w' A (iv cs) ∧ Ext N0 W w')
    (hb : Reads w A0 (iv bs)) (hbl : bs.length ≤ 64) (hbp : ∀ x ∈ bs, 0 ≤ x) (hcl : cs.length ≤ bs.length + 1) (hcp : ∀ c ∈ cs, 0 ≤ c ∧ c ≤ 1000000) :
    Calls Try.prog 19 #[.agg (rG A0 bs.length c0 A1 n1 c1), .string key, .int .i64 t] w fun e w' => e = .returned (.int .i64 (abvS bs cs t cs.length)) ∧ Ext N0 w w' := by
  have hE0 : Ext N0 w (w.alloc (.cells (rG A0 bs.length c0 A1 n1 c1) 30)) := (Ext.refl _ _).alloc _
  have HC := Lib.hid (hcs _ hE0)
  have HE0 := Lib.hid hE0
  have HB := Lib.hid (blkNew w (.cells (rG A0 bs.length c0 A1 n1 c1) 30))
  have HRb := Lib.hid hb
  have HBp := Lib.hid hbp
  have HBd := Lib.hid (abv_bdS bs cs t hcp)
  obtain ⟨n, hn⟩ : ∃ n, cs.length = n := ⟨_, rfl⟩
  obtain ⟨nb, hnb⟩ : ∃ nb, bs.length = nb := ⟨_, rfl⟩
  have HN := Lib.hid hn
  have HNb := Lib.hid hnb
  rw [hn, hnb] at HC
  rw [hnb] at HB HE0 hbl
  rw [hn, hnb] at hcl
  rw [hn, hnb]
  clear hcs hE0 hb hbp hcp hn hnb
  go_enter Try.func19, Try.ntmps19
  go_wp2_with (go_at_call 14; refine HC.out.mono ?_; rintro e w2 ⟨A2, c2, rfl, hR2, hE2⟩; have HR2 := Lib.hid hR2; have HE2 := Lib.hid (And.intro (HE0.out.then0 hE2) (hE2.blk0 HB.out)); clear hR2 hE2)
  go_loopw [8, 9] (fun s i wr => ∃ (k : Nat) (S : Int), s = .int .i64 S ∧ i = .int .i64 k ∧ k ≤ n ∧ (0 ≤ S ∧ S ≤ 65000000) ∧ Hid (S = abvS bs cs t k) ∧ wr = w2) (fun _ i _ => n - (intOf i).toNat)
  case atStart => exact ⟨0, 0, rfl, rfl, by omega, by omega, Lib.hid rfl, rfl⟩
  case round =>
    obtain ⟨k, S, rfl, rfl, hk, hS, HS, rfl⟩ := hrel
    by_cases hlt : k < n
    · have hlt' : (k : Int) < n := by omega
      obtain ⟨ad, rfl, hc⟩ := HR2.out.2 (by rw [iv_len, HN.out]; omega)
      obtain ⟨x, hx⟩ : ∃ x, cs[k]? = some x := ⟨_, List.getElem?_eq_getElem (by rw [HN.out]; exact hlt)⟩
      have cx := hc k _ (iv_get hx)
      have hbd := HBd.out (k + 1)
      have hkk : ((k + 1 : Nat) : Int) * 1000000 ≤ 65000000 := by omega
      have d0 : wr.cell? ⟨w.heap.size, 0, none⟩ = some (.slice A0 nb c0) := (blkCell HE2.out.2 0).trans rfl
      rcases Nat.eq_zero_or_pos k with hk0 | hk0
      · have hst : abvS bs cs t (k + 1) = abvS bs cs t k + (if max t (-1) ≤ -1 then x else 0) := abv_stepS (by rw [hk0]; rfl) hx
        rw [← HS.out] at hst
        rw [hst] at hbd
        have HST := Lib.hid hst
        clear hc hx hst
        have e1 : ((k : Int) == 0) = true := by rw [hk0]; rfl
        have e2 : ¬ (0 : Int) < (k : Int) := by omega
        have e3 : ¬ 0 < k := by omega
        clear hk0
        by_cases ht : t < 0
        · rw [if_pos (by omega)] at hbd HST
          have hsx : 0 ≤ S + x ∧ S + x ≤ 65000000 := by omega
          have HS2 : Hid (S + x = abvS bs cs t (k + 1)) := Lib.hid HST.out.symm
          clear hbd HST hkk
          go_wp2
          go_roundw
          case rel => exact ⟨k + 1, S + x, rfl, by go_num, by omega, hsx, HS2, trivial⟩
          case measure => simp only [intOf]; omega
        · rw [if_neg (by omega)] at HST
          have HS2 : Hid (S = abvS bs cs t (k + 1)) := Lib.hid (by rw [HST.out]; omega)
          clear hbd HST hkk
          go_wp2
          go_roundw
          case rel => exact ⟨k + 1, S, rfl, by go_num, by omega, hS, HS2, trivial⟩
          case measure => simp only [intOf]; omega
      · obtain ⟨k', hkk'⟩ : ∃ k', k = k' + 1 := ⟨k - 1, by omega⟩
        obtain ⟨b, hb⟩ : ∃ b, bs[k']? = some b := ⟨_, List.getElem?_eq_getElem (by rw [HNb.out]; omega)⟩
        have hb0 := HBp.out b (List.mem_of_getElem? hb)
        obtain ⟨ab, rfl, hcb⟩ := (HRb.out.mono0 HE2.out.1).2 (by rw [iv_len, HNb.out]; omega)
        have cb := hcb k' _ (iv_get hb)
        have hst : abvS bs cs t (k + 1) = abvS bs cs t k + (if max t (-1) ≤ b then x else 0) := abv_stepS (by rw [hkk']; simpa using hb) hx
        rw [← HS.out] at hst
        rw [hst] at hbd
        have HST := Lib.hid hst
        have hk0' : (0 : Int) < (k : Int) := by omega
        have hkz : ¬ (k : Int) = 0 := by omega
        have hkz2 : ¬ k = 0 := by omega
        have hsub : (k : Int) - 1 = (k' : Int) := by omega
        have hk'n : (k' : Int) < (nb : Int) := by omega
        clear hc hx hst hcb hb hkk'
        by_cases ht : t ≤ b
        · rw [if_pos (by omega)] at hbd HST
          have hsx : 0 ≤ S + x ∧ S + x ≤ 65000000 := by omega
          have HS2 : Hid (S + x = abvS bs cs t (k + 1)) := Lib.hid HST.out.symm
          clear hbd HST hkk
          go_wp2
          go_roundw
          case rel => exact ⟨k + 1, S + x, rfl, by go_num, by omega, hsx, HS2, trivial⟩
          case measure => simp only [intOf]; omega
        · rw [if_neg (by omega)] at HST
          have HS2 : Hid (S = abvS bs cs t (k + 1)) := Lib.hid (by rw [HST.out]; omega)
          clear hbd HST hkk
          go_wp2
          go_roundw
          case rel => exact ⟨k + 1, S, rfl, by go_num, by omega, hS, HS2, trivial⟩
          case measure => simp only [intOf]; omega
    · have hlt' : ¬ (k : Int) < n := by omega
      obtain rfl : k = n := by omega
      go_wp2
      go_ret
      exact ⟨by rw [← HS.out]; rfl, HE2.out.1⟩
end Go.Proofs.Ytcngefpdfkkgdaa
