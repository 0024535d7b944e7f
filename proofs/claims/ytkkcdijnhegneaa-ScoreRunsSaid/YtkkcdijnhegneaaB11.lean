/- 'shows' of the law of package score comes out true where both stand alike (the conditions stand in the statements). -/
import Derived.Test.YtkkcdijnhegneaaB10
namespace Go.Proofs.Ytkkcdijnhegneaa
open Go.RowKit
theorem range_get (n i : Nat) (h : i < n) : (nats (List.range n))[i]? = some (.int .i64 (i : Int)) := by simp [nats, h]
theorem bools_get {l : List Pa} {i : Nat} {p : Pa} (hp : l[i]? = some p) : (bools l)[i]? = some (.bool (p.r == 0)) := by simp [bools, hp]
theorem eql3 (a b c : Int) (W : World) : (binOp .eql 54 (.agg #[.int .i64 a, .int .i64 b, .int .i64 c]) (.agg #[.int .i64 a, .int .i64 b, .int .i64 c])).run Try.prog W = .ok (.bool true) W := by
  have h3 : ∀ (d : Nat) (x : Int) (W : World), (Op.equalIn (d + 1) 3 (.int .i64 x) (.int .i64 x)).run Try.prog W = .ok true W := fun d x W => by
    simp [Op.equalIn, run_underlying Try.underlying3]
  have h : ∀ d : Nat, (Op.equalIn (d + 2) 54 (.agg #[.int .i64 a, .int .i64 b, .int .i64 c]) (.agg #[.int .i64 a, .int .i64 b, .int .i64 c])).run Try.prog W = .ok true W := fun d => by
    rw [Op.equalIn]
    have hA : ∀ W, (isAgg 3).run Try.prog W = .ok false W := fun W => by simp [isAgg, run_underlying Try.underlying3]
    simp [run_underlying Try.underlying54, go_sem, h3, List.range', hA]
  simp only [binOp]
  simp [Op.equal, Op.maxDepth, h 9998]
theorem neq3 (a b c : Int) (W : World) : (binOp .neq 54 (.agg #[.int .i64 a, .int .i64 b, .int .i64 c]) (.agg #[.int .i64 a, .int .i64 b, .int .i64 c])).run Try.prog W = .ok (.bool false) W := by
  have h3 : ∀ (d : Nat) (x : Int) (W : World), (Op.equalIn (d + 1) 3 (.int .i64 x) (.int .i64 x)).run Try.prog W = .ok true W := fun d x W => by
    simp [Op.equalIn, run_underlying Try.underlying3]
  have h : ∀ d : Nat, (Op.equalIn (d + 2) 54 (.agg #[.int .i64 a, .int .i64 b, .int .i64 c]) (.agg #[.int .i64 a, .int .i64 b, .int .i64 c])).run Try.prog W = .ok true W := fun d => by
    rw [Op.equalIn]
    have hA : ∀ W, (isAgg 3).run Try.prog W = .ok false W := fun W => by simp [isAgg, run_underlying Try.underlying3]
    simp [run_underlying Try.underlying54, go_sem, h3, List.range', hA]
  simp only [binOp]
  simp [Op.equal, Op.maxDepth, h 9998]
set_option maxRecDepth 100000 in
set_option maxHeartbeats 1000000 in
theorem shows_calls (base base2 g gr c : Nat) (s : Sc) (u : Int) (k : Int) (w : World) (h : IsSc base w g s) (hr : RR base2 w gr c s) (hok : s.Ok u) :
    Calls Try.prog 19 #[.pointer (some ⟨g, 0, none⟩), .agg #[.int .i64 s.rest, .slice (some ⟨gr, 0, none⟩) s.ps.length c], .int .i64 k] w fun e w' => e = .returned (.bool true) ∧ Ext N0 w w' := by
  have hlen := hok.len
  have hE0 : Ext N0 w (w.alloc (.cells #[.int .i64 s.rest, .slice (some ⟨gr, 0, none⟩) s.ps.length c] 37)) := (Ext.refl _ _).alloc _
  have HA := Lib.hid (actives_calls base g s u _ (h.kept0 hE0) hok)
  have HL := Lib.hid (show s.act.length ≤ 1000 by have := s.actP_len s.ps.length; exact Nat.le_trans this (by omega))
  have HS := Lib.hid h
  have HR := Lib.hid hr
  have HO := Lib.hid hok
  have HE0 := Lib.hid hE0
  have hb := blkNew w (.cells #[.int .i64 s.rest, .slice (some ⟨gr, 0, none⟩) s.ps.length c] 37)
  have CB0 := Lib.hid ((blkCell hb 0).trans rfl)
  have CB1 := Lib.hid ((blkCell hb 1).trans rfl)
  clear h hr hok hE0 hb
  go_enter Try.func19, Try.ntmps19
  go_wp2_with (go_at_call 26; refine HA.out.mono ?_; rintro e w2 ⟨A, ca, B, cb, rfl, ho, hp, hE⟩; have HA2 := Lib.hid (ownReads1 ho); have HB2 := Lib.hid (ownReads1 hp); have k0 := hE.cell CB0.out (fun x => x); have k1 := hE.cell CB1.out (fun x => x); have HE2 := Lib.hid (HE0.out.then0 hE); simp at k0 k1; clear ho hp hE)
  clear HA CB0 CB1 HE0
  have K0 := Lib.hid k0
  have K1 := Lib.hid k1
  clear k0 k1
  go_loopw [9] (fun v wr => ∃ i : Nat, v = .int .i64 i ∧ i ≤ s.ps.length ∧ Hid (Ext N0 w2 wr)) (fun v _ => s.ps.length - (intOf v).toNat)
  case atStart => exact ⟨0, rfl, by omega, Lib.hid (Ext.refl N0 w2)⟩
  case round =>
    obtain ⟨i, rfl, hi, HE⟩ := hrel
    have HS2 := Lib.hid (HS.out.kept0 (HE2.out.then0 HE.out))
    have HR2 := Lib.hid (HR.out.kept0 (HE2.out.then0 HE.out))
    have k0 := HE.out.cell K0.out (fun x => x)
    have k1 := HE.out.cell K1.out (fun x => x)
    by_cases hl : i < s.ps.length
    · have hl' : (i : Int) < s.ps.length := by omega
      obtain ⟨p, hp⟩ : ∃ p, s.ps[i]? = some p := ⟨_, List.getElem?_eq_getElem hl⟩
      obtain ⟨a, rfl, ha⟩ := HA2.out.at i (by simp [nats]; omega)
      obtain ⟨b, rfl, hb⟩ := HB2.out.at i (by simp [bools]; omega)
      have c0 := HE.out.cell (ha i _ (range_get _ i hl)) (fun x => x)
      have c1 := HE.out.cell (hb i _ (bools_get hp)) (fun x => x)
      obtain ⟨d0, d1, d2, d3⟩ := HR2.out.path hp
      have hq := rests_calls base g s i wr.drew (HS2.out.kept0 (Ext.refl N0 wr).drew) hlen
      have hc := counts_calls base g s i wr.drew (HS2.out.kept0 (Ext.refl N0 wr).drew) hlen
      have hh : s.has (i : Int) := ⟨by omega, by omega⟩
      rw [show s.restV (i : Int) = p.r by simp [Sc.restV, hh, hp]] at hq
      rw [show s.cnt (i : Int) = p by simp [Sc.cnt, hh, hp]] at hc
      unfold cntV at hc
      have q3 := neq3 p.a p.n p.b
      have HQ := Lib.hid hq
      have HC := Lib.hid hc
      have HP := Lib.hid hp
      clear hq hc hp ha hb hh
      go_wp2_with fail
      go_region_held3 (fun w' => w'.cell? ⟨w.heap.size, 1, none⟩ = some (.slice (some ⟨gr, 0, none⟩) s.ps.length c) ∧ w'.cell? (a.add i) = some (.int .i64 i) ∧ w'.cell? (b.add i) = some (.bool (p.r == 0)) ∧ w'.cell? ⟨gr, i * 4, none⟩ = some (.int .i64 p.r) ∧ w'.cell? ⟨gr, i * 4 + 1, none⟩ = some (.int .i64 p.a) ∧ w'.cell? ⟨gr, i * 4 + 2, none⟩ = some (.int .i64 p.n) ∧ w'.cell? ⟨gr, i * 4 + 3, none⟩ = some (.int .i64 p.b)) (first | go_keep | (refine ⟨?_, ?_, ?_, ?_, ?_, ?_, ?_⟩ <;> exact hE5.cell (by simp_all) (fun x => x))) (first | (go_at_call 27; refine HC.out.mono ?_; rintro e w5 ⟨rfl, hE5⟩) | (go_at_call 20; refine HQ.out.mono ?_; rintro e w4 ⟨rfl, rfl⟩))
      all_goals
        have HX := Lib.hid ((HE.out.then0 (Ext.refl N0 wr).drew).then0 hE5)
        clear hE5
        go_wp2
        go_roundw
        case rel => exact ⟨i + 1, by go_num, by omega, HX⟩
        case measure => simp only [intOf]; omega
    · have hl' : ¬ (i : Int) < s.ps.length := by omega
      have HD := Lib.hid (Ext.refl N0 wr).drew
      have HT := Lib.hid (active_calls base g s u wr.drew (HS2.out.kept0 HD.out) HO.out)
      have q3 := eql3 (s.cnt k).a (s.cnt k).n (s.cnt k).b
      have HF := Lib.hid (fun W (hW : IsSc base W g s) => counts_calls base g s k W hW hlen)
      have HG := Lib.hid (fun W (hW : RR base2 W gr c s) => rcounts_calls base2 gr c s k W hW)
      unfold cntV at HF HG
      clear hl hi
      go_wp2_with fail
      go_region_held3 (fun w' => w'.cell? ⟨w.heap.size, 0, none⟩ = some (.int .i64 s.rest) ∧ w'.cell? ⟨w.heap.size, 1, none⟩ = some (.slice (some ⟨gr, 0, none⟩) s.ps.length c)) (first | go_keep | (refine ⟨?_, ?_⟩ <;> exact y8.cell (by simp_all) (fun x => x)) | (refine ⟨?_, ?_⟩ <;> exact y7.cell (by simp_all) (fun x => x)) | (refine ⟨?_, ?_⟩ <;> exact y6.cell (by simp_all) (fun x => x)) | (refine ⟨?_, ?_⟩ <;> exact y5.cell (by simp_all) (fun x => x)) | (refine ⟨?_, ?_⟩ <;> exact y4.cell (by simp_all) (fun x => x)) | (refine ⟨?_, ?_⟩ <;> exact y3.cell (by simp_all) (fun x => x))) (first | (go_at_call 29; refine (HG.out _ (HR2.out.kept0 X7.out)).mono ?_; rintro e w8 ⟨rfl, y8⟩; have X8 := Lib.hid (X7.out.then0 y8)) | (go_at_call 27; refine (HF.out _ (HS2.out.kept0 X6.out)).mono ?_; rintro e w7 ⟨rfl, y7⟩; have X7 := Lib.hid (X6.out.then0 y7)) | (go_at_call 28; refine (rrests_calls base2 gr c s k _ (HR2.out.kept0 X5.out)).mono ?_; rintro e w6 ⟨rfl, y6⟩; have X6 := Lib.hid (X5.out.then0 y6)) | (go_at_call 20; refine (rests_calls base g s k _ (HS2.out.kept0 X5.out) hlen).mono ?_; rintro e w9 ⟨rfl, rfl⟩) | (go_at_call 15; refine (same_calls T1 T2 s.act s.act.length t1 t2 rfl _ ((ownReads1 z3).mono0 y4) (ownReads1 z4) HL.out).mono ?_; rintro e w5 ⟨rfl, y5⟩; have X5 := Lib.hid (X4.out.then0 y5)) | (go_at_call 24; refine (ractive_calls base2 gr c s u _ (HR2.out.kept0 X3.out) HO.out).mono ?_; rintro e w4 ⟨T2, t2, rfl, z4, y4⟩; have X4 := Lib.hid (X3.out.then0 y4)) | (go_at_call 11; refine HT.out.mono ?_; rintro e w3 ⟨T1, t1, rfl, z3, y3⟩; have X3 := Lib.hid (HD.out.then0 y3)))
      all_goals
        go_wp2
        go_ret
        exact ⟨rfl, (HE2.out.then0 HE.out).then0 X8.out⟩
end Go.Proofs.Ytkkcdijnhegneaa
