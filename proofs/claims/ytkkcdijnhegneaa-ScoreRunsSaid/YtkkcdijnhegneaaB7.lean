/- 'Count' of the document's answer for package score, at the other counts. -/
import Derived.Test.YtkkcdijnhegneaaB6
namespace Go.Proofs.Ytkkcdijnhegneaa
open Go.RowKit
set_option maxRecDepth 100000 in
set_option maxHeartbeats 1000000 in
theorem rcount_calls2 (base gr c : Nat) (s : Sc) (u : Int) (k : Nat) (p : Pa) (w : World) (h : RR base w gr c s) (hok : s.Ok u) (hu : u ≤ 900000) (hp : s.ps[k]? = some p) :
    Calls Try.prog 13 #[.agg #[.int .i64 s.rest, .slice (some ⟨gr, 0, none⟩) s.ps.length c], .int .i64 k, .int .i64 2] w (GivesR (s.count k 2 p) 0 w) := by
  have hk := (List.getElem?_eq_some_iff.1 hp).1
  have hkI : ¬ (s.ps.length : Int) ≤ k := by omega
  have hkI2 : (k : Int) < s.ps.length := by omega
  have hk0 : ¬ (k : Int) < 0 := by omega
  have hlen := hok.len
  obtain ⟨⟨a0, a1⟩, ⟨n0, n1⟩, ⟨b0, b1⟩, r0, r1⟩ := hok.num p (List.mem_of_getElem? hp)
  have hok1 := Sc.Ok.inc hok hp 2
  have hp1 : (s.setP k (p.inc 2)).ps[k]? = some (p.inc 2) := by simp [Sc.setP, hk]
  have hcl := count_len s k 2 p
  have hcr := count_rest s k 2 p
  obtain ⟨x, hx⟩ : ∃ x, p.b = x := ⟨_, rfl⟩
  have hE0 : Ext N0 w (((w.alloc (.cells #[.int .i64 s.rest, .slice (some ⟨gr, 0, none⟩) s.ps.length c] 37)).alloc (.cells #[.int .i64 0, .slice none 0 0] 37)).alloc (.cells #[] 61)) := (((Ext.refl _ _).alloc _).alloc _).alloc _
  have hrd := ownReadsN (h.kept0 hE0) (by omega)
  have HRD := Lib.hid hrd
  have HE0 := Lib.hid hE0
  have hrl := rcCells_len s.ps
  have HOK1 := Lib.hid hok1
  have HP1 := Lib.hid hp1
  have HP := Lib.hid hp
  have HCL := Lib.hid (And.intro hcl hcr)
  have hxa := b0
  have hxb := b1
  rw [hx] at hxa hxb
  have HX := Lib.hid hx
  clear h hrd hE0 hok hok1 hp hp1 hcl hcr hx
  unfold GivesR
  go_enter Try.func13, Try.ntmps13
  go_wp2_with (at_builtin; refine wpApp w.heap.size (.tmp 20) (.tmp 22) 35 61 (.agg #[.int .i64 0, .int .i64 0, .int .i64 0, .int .i64 0]) 4 32 rfl rfl Try.underlying35 info61 rfl (by decide) (by decide) (.slice (some ⟨w.heap.size + 1 + 1, 0, none⟩) 0 0) 0 [] _ s.ps.length _ (rcCells s.ps) rfl rfl (ownLitG ((w.alloc (.cells #[.int .i64 s.rest, .slice (some ⟨gr, 0, none⟩) s.ps.length c] 37)).alloc (.cells #[.int .i64 0, .slice none 0 0] 37)) w.heap.size 61 4 #[] 0 (by simp) (by omega) (by decide) rfl) hrl HRD.out (rc_one _) (by omega) (by simp; omega) ?_; intro An cn w2 ho2 hE2 _; have hb2 := hE2.blk (blkAlloc (blkAlloc (blkNew w (.cells #[.int .i64 s.rest, .slice (some ⟨gr, 0, none⟩) s.ps.length c] 37)) (.cells #[.int .i64 0, .slice none 0 0] 37)) (.cells #[] 61)) (not_own2 w.heap.size 0 0); have e1 := (blkCell hb2 1).trans rfl; have f1 := blkFrozen hb2 1; simp at e1; have HO2 := Lib.hid ho2; have HE2 := Lib.hid hE2; have HB2 := Lib.hid hb2; clear ho2 hE2 hb2)
  have ho2 := HO2.out
  simp only [Nat.zero_add, List.nil_append] at ho2
  obtain ⟨gn, cap, hvv, hgb, hgl⟩ := ho2.form (by omega)
  injection hvv with hv1 hv2 hv3
  subst hv1
  clear hv2 hv3 cap
  have hc2 := HE2.out.blk (blkAlloc (blkNewG (w.alloc (.cells #[.int .i64 s.rest, .slice (some ⟨gr, 0, none⟩) s.ps.length c] 37)) (.cells #[.int .i64 0, .slice none 0 0] 37) (g := w.heap.size + 1) (by simp)) (.cells #[] 61)) (not_own1 w.heap.size 0 0)
  have hX2 : Ext N0 w w2 := HE0.out.trans HE2.out (fun x hx => .inr (by have := own_is hx; omega))
  have hs3 : Ext (At w.heap.size) w2 (w2.setCell ⟨w.heap.size, 1, none⟩ (.slice (some ⟨gn, 0, none⟩) s.ps.length cn)) := (Ext.refl (At w.heap.size) w2).setCell (p := ⟨w.heap.size, 1, none⟩) (.inl (show w.heap.size = w.heap.size from rfl)) _
  have hb3 := (blkSet HB2.out 1 (.slice (some ⟨gn, 0, none⟩) s.ps.length cn)).trans (by simp : _ = some (Obj.cells #[.int .i64 s.rest, .slice (some ⟨gn, 0, none⟩) s.ps.length cn] 37 (0, 0)))
  have hM3 : Mid w (w2.setCell ⟨w.heap.size, 1, none⟩ (.slice (some ⟨gn, 0, none⟩) s.ps.length cn)) gn cn s s := ⟨ownKept ho2 hs3 (fun x hx hh => ownNeBlk ho2 HB2.out (by decide) x hx hh), hb3, blkFar hc2 (p := ⟨w.heap.size, 1, none⟩) (show w.heap.size + 1 ≠ w.heap.size by omega) _, hX2.trans hs3 (fun x hx => .inr (by have hx : x = w.heap.size := hx; omega))⟩
  clear hs3 hb3 hX2 hc2 ho2 HO2 HE2 HB2 e1 f1 HRD
  obtain ⟨w3, hw3⟩ : ∃ w3, w2.setCell ⟨w.heap.size, 1, none⟩ (.slice (some ⟨gn, 0, none⟩) s.ps.length cn) = w3 := ⟨_, rfl⟩
  rw [hw3] at hM3
  simp only [hw3]
  clear hw3
  have hMd := hM3.kept0 (Ext.refl N0 w3).drew
  have d0 := (blkCell hMd.box 1).trans rfl
  simp at d0
  have dd := hMd.row.path HP.out
  have d1 := dd.2.2.2
  have f1 := hMd.row.frozenAt (k * 4 + 3)
  rw [HX.out] at d1
  obtain ⟨s1, s2⟩ := hM3.row.set HP.out 3 (by decide) (.int .i64 (x + 1)) (p.inc 2) (by rw [← HX.out]; rfl)
  have hM4 : Mid w (w3.setCell ⟨gn, k * 4 + 3, none⟩ (.int .i64 (x + 1))).drew gn cn s (s.setP k (p.inc 2)) := ⟨s1, s2.blk hM3.box (fun hs => ownNeBlk hM3.row hM3.box (by decide) gn rfl hs.symm), s2.blk hM3.res (fun hs => ownNeBlk hM3.row hM3.res (by decide) gn rfl hs.symm), (hM3.ext.trans s2 (fun x hx => .inr (by have hx : x = gn := hx; omega))).drew⟩
  clear s1 s2 hM3 hMd dd
  go_region
  all_goals
    obtain ⟨w4, hw4⟩ : ∃ w4, (w3.setCell ⟨gn, k * 4 + 3, none⟩ (.int .i64 (x + 1))).drew = w4 := ⟨_, rfl⟩
    rw [hw4] at hM4
    simp only [hw4]
    clear hw4 d0 d1 f1
    have HM4 := Lib.hid hM4
    have c0 := (blkCell hM4.box 0).trans rfl
    have c1 := (blkCell hM4.box 1).trans rfl
    have l0 := blkLt hM4.box
    have l1 := blkLt hM4.res
    have l2 := hM4.row.lt
    simp at c0 c1
    obtain ⟨p0, p1, p2, p3⟩ := hM4.row.path HP1.out
    have er : (p.inc 2).r = p.r := rfl
    rw [er] at p0
    have fr0 := blkFrozen hM4.res 0
    have fr1 := blkFrozen hM4.res 1
    have cr0 := (blkCell hM4.res 0).trans rfl
    have cr1 := (blkCell hM4.res 1).trans rfl
    simp at cr0 cr1
    have hI := HOK1.out.num _ (List.mem_of_getElem? HP1.out)
    obtain ⟨qa, qn, qb, hq⟩ : ∃ qa qn qb, (p.inc 2).a = qa ∧ (p.inc 2).n = qn ∧ (p.inc 2).b = qb := ⟨_, _, _, rfl, rfl, rfl⟩
    obtain ⟨hqa, hqn, hqb⟩ := hq
    rw [hqa, hqn, hqb] at hI
    rw [hqa] at p1
    rw [hqn] at p2
    rw [hqb] at p3
    have hbad : (p.inc 2).bad ↔ qa + 4 < qn + 2 * qb := by unfold Pa.bad; rw [hqa, hqn, hqb]
    have HQ := Lib.hid (And.intro hqa (And.intro hqn hqb))
    have HC := Lib.hid (Sc.count_eq s k 2 p (by decide))
    have hA4 : Ext N0 w4 (w4.alloc (.cells #[.int .i64 qa, .int .i64 qn, .int .i64 qb] 54)) := (Ext.refl _ _).alloc _
    have HA4 := Lib.hid hA4
    have hact := fun W (hW : RR w.heap.size W gn cn (s.setP k (p.inc 2))) => ractive_calls w.heap.size gn cn _ (u + 1) W hW HOK1.out
    simp only [show (s.setP k (p.inc 2)).ps.length = s.ps.length by simp [Sc.setP], show (s.setP k (p.inc 2)).rest = s.rest from rfl] at hact
    have HAct := Lib.hid hact
    clear hact
    clear hM4 hqa hqn hqb hA4 er
    by_cases g1 : qa + 4 < qn + 2 * qb
    · by_cases g2 : p.r = 0
      · by_cases g3 : 1 < (s.setP k (p.inc 2)).act.length
        · have g3' : 1 < ((s.setP k (p.inc 2)).act.length : Int) := by omega
          by_cases g4 : 0 < s.rest
          · have hc := HC.out
            rw [if_pos ⟨g4, g2, hbad.2 g1, g3⟩] at hc
            have HC2 := Lib.hid hc
            clear hc hbad HC
            go_wp2_with (go_at_call 24; refine (HAct.out _ (HM4.out.row.kept0 HA4.out)).mono ?_; rintro e w5 ⟨A5, c5, rfl, _, hE5⟩; have hM5 := (HM4.out.kept0 HA4.out).kept0 hE5; have v0 := (blkCell hM5.box 0).trans rfl; have v1 := (blkCell hM5.box 1).trans rfl; have m0 := blkLt hM5.box; have m1 := blkLt hM5.res; have m2 := hM5.row.lt; obtain ⟨y0, y1, y2, y3⟩ := hM5.row.path HP1.out; have z0 := hM5.row.frozenAt (k * 4); have z1 := hM5.row.frozenAt (k * 4 + 1); have z2 := hM5.row.frozenAt (k * 4 + 2); have z3 := hM5.row.frozenAt (k * 4 + 3); have t0 := blkFrozen hM5.res 0; have t1 := blkFrozen hM5.res 1; have x0 := (blkCell hM5.res 0).trans rfl; have x1 := (blkCell hM5.res 1).trans rfl; simp at v0 v1 x0 x1; have hM6 := hM5.put HP1.out ⟨0, 0, 0, s.rest⟩; have V0 := (blkCell hM6.box 0).trans rfl; have V1 := (blkCell hM6.box 1).trans rfl; have T0 := blkFrozen hM6.res 0; have T1 := blkFrozen hM6.res 1; have X0 := (blkCell hM6.res 0).trans rfl; have X1 := (blkCell hM6.res 1).trans rfl; simp at V0 V1 X0 X1; have HM5 := Lib.hid hM5; have HM6 := Lib.hid hM6; clear hE5 hM5 hM6)
            obtain ⟨k0, k1, rr, ex⟩ := HM6.out.done (by simp [Sc.setP]) rfl
            refine bodyPost_ret (v := .tuple #[.agg #[.int .i64 s.rest, .slice (some ⟨gn, 0, none⟩) s.ps.length cn], .int .i64 0]) (by simp [results, Try.results13, go_sem, k0, k1]) rfl ⟨gn, cn, by rw [HCL.out.1, HCL.out.2], ?_, ex⟩
            rw [HC2.out]
            have := rr
            simpa [Sc.setP] using this
          · have hc := HC.out
            rw [if_neg (fun h => g4 h.1)] at hc
            have HC2 := Lib.hid hc
            clear hc hbad HC
            go_wp2_with (go_at_call 24; refine (HAct.out _ (HM4.out.row.kept0 HA4.out)).mono ?_; rintro e w5 ⟨A5, c5, rfl, _, hE5⟩; have hM5 := (HM4.out.kept0 HA4.out).kept0 hE5; have v0 := (blkCell hM5.box 0).trans rfl; have v1 := (blkCell hM5.box 1).trans rfl; have m0 := blkLt hM5.box; have m1 := blkLt hM5.res; have m2 := hM5.row.lt; obtain ⟨y0, y1, y2, y3⟩ := hM5.row.path HP1.out; have z0 := hM5.row.frozenAt (k * 4); have z1 := hM5.row.frozenAt (k * 4 + 1); have z2 := hM5.row.frozenAt (k * 4 + 2); have z3 := hM5.row.frozenAt (k * 4 + 3); have t0 := blkFrozen hM5.res 0; have t1 := blkFrozen hM5.res 1; have x0 := (blkCell hM5.res 0).trans rfl; have x1 := (blkCell hM5.res 1).trans rfl; simp at v0 v1 x0 x1; have hM6 := hM5.put HP1.out ⟨0, 0, 0, s.rest⟩; have V0 := (blkCell hM6.box 0).trans rfl; have V1 := (blkCell hM6.box 1).trans rfl; have T0 := blkFrozen hM6.res 0; have T1 := blkFrozen hM6.res 1; have X0 := (blkCell hM6.res 0).trans rfl; have X1 := (blkCell hM6.res 1).trans rfl; simp at V0 V1 X0 X1; have HM5 := Lib.hid hM5; have HM6 := Lib.hid hM6; clear hE5 hM5 hM6)
            obtain ⟨k0, k1, rr, ex⟩ := HM5.out.done (by simp [Sc.setP]) rfl
            refine bodyPost_ret (v := .tuple #[.agg #[.int .i64 s.rest, .slice (some ⟨gn, 0, none⟩) s.ps.length cn], .int .i64 0]) (by simp [results, Try.results13, go_sem, k0, k1]) rfl ⟨gn, cn, by rw [HCL.out.1, HCL.out.2], ?_, ex⟩
            rw [HC2.out]
            exact rr
        · have g3' : ¬ 1 < ((s.setP k (p.inc 2)).act.length : Int) := by omega
          have hc := HC.out
          rw [if_neg (fun h => g3 h.2.2.2)] at hc
          have HC2 := Lib.hid hc
          clear hc hbad HC
          go_wp2_with (go_at_call 24; refine (HAct.out _ (HM4.out.row.kept0 HA4.out)).mono ?_; rintro e w5 ⟨A5, c5, rfl, _, hE5⟩; have hM5 := (HM4.out.kept0 HA4.out).kept0 hE5; have v0 := (blkCell hM5.box 0).trans rfl; have v1 := (blkCell hM5.box 1).trans rfl; have m0 := blkLt hM5.box; have m1 := blkLt hM5.res; have m2 := hM5.row.lt; obtain ⟨y0, y1, y2, y3⟩ := hM5.row.path HP1.out; have z0 := hM5.row.frozenAt (k * 4); have z1 := hM5.row.frozenAt (k * 4 + 1); have z2 := hM5.row.frozenAt (k * 4 + 2); have z3 := hM5.row.frozenAt (k * 4 + 3); have t0 := blkFrozen hM5.res 0; have t1 := blkFrozen hM5.res 1; have x0 := (blkCell hM5.res 0).trans rfl; have x1 := (blkCell hM5.res 1).trans rfl; simp at v0 v1 x0 x1; have hM6 := hM5.put HP1.out ⟨0, 0, 0, s.rest⟩; have V0 := (blkCell hM6.box 0).trans rfl; have V1 := (blkCell hM6.box 1).trans rfl; have T0 := blkFrozen hM6.res 0; have T1 := blkFrozen hM6.res 1; have X0 := (blkCell hM6.res 0).trans rfl; have X1 := (blkCell hM6.res 1).trans rfl; simp at V0 V1 X0 X1; have HM5 := Lib.hid hM5; have HM6 := Lib.hid hM6; clear hE5 hM5 hM6)
          obtain ⟨k0, k1, rr, ex⟩ := HM5.out.done (by simp [Sc.setP]) rfl
          refine bodyPost_ret (v := .tuple #[.agg #[.int .i64 s.rest, .slice (some ⟨gn, 0, none⟩) s.ps.length cn], .int .i64 0]) (by simp [results, Try.results13, go_sem, k0, k1]) rfl ⟨gn, cn, by rw [HCL.out.1, HCL.out.2], ?_, ex⟩
          rw [HC2.out]
          exact rr
      · have hc := HC.out
        rw [if_neg (fun h => g2 h.2.1)] at hc
        have HC2 := Lib.hid hc
        clear hc hbad HC
        go_wp2_with fail
        obtain ⟨k0, k1, rr, ex⟩ := HM4.out.done (by simp [Sc.setP]) rfl
        have kk0 := ((Ext.refl N0 _).alloc (.cells #[.int .i64 qa, .int .i64 qn, .int .i64 qb] 54)).cell k0 (fun h => h)
        have kk1 := ((Ext.refl N0 _).alloc (.cells #[.int .i64 qa, .int .i64 qn, .int .i64 qb] 54)).cell k1 (fun h => h)
        refine bodyPost_ret (v := .tuple #[.agg #[.int .i64 s.rest, .slice (some ⟨gn, 0, none⟩) s.ps.length cn], .int .i64 0]) (by simp [results, Try.results13, go_sem, kk0, kk1]) rfl ⟨gn, cn, by rw [HCL.out.1, HCL.out.2], ?_, ex.alloc _⟩
        rw [HC2.out]
        exact rr.kept0 ((Ext.refl N0 _).alloc _)
    · have hc := HC.out
      rw [if_neg (fun h => g1 (hbad.1 h.2.2.1))] at hc
      have HC2 := Lib.hid hc
      clear hc hbad HC
      go_wp2_with fail
      obtain ⟨k0, k1, rr, ex⟩ := HM4.out.done (by simp [Sc.setP]) rfl
      have kk0 := ((Ext.refl N0 _).alloc (.cells #[.int .i64 qa, .int .i64 qn, .int .i64 qb] 54)).cell k0 (fun h => h)
      have kk1 := ((Ext.refl N0 _).alloc (.cells #[.int .i64 qa, .int .i64 qn, .int .i64 qb] 54)).cell k1 (fun h => h)
      refine bodyPost_ret (v := .tuple #[.agg #[.int .i64 s.rest, .slice (some ⟨gn, 0, none⟩) s.ps.length cn], .int .i64 0]) (by simp [results, Try.results13, go_sem, kk0, kk1]) rfl ⟨gn, cn, by rw [HCL.out.1, HCL.out.2], ?_, ex.alloc _⟩
      rw [HC2.out]
      exact rr.kept0 ((Ext.refl N0 _).alloc _)
set_option maxRecDepth 100000 in
set_option maxHeartbeats 1000000 in
theorem rcount_calls0 (base gr c : Nat) (s : Sc) (u : Int) (k : Nat) (p : Pa) (w : World) (h : RR base w gr c s) (hok : s.Ok u) (hu : u ≤ 900000) (hp : s.ps[k]? = some p) :
    Calls Try.prog 13 #[.agg #[.int .i64 s.rest, .slice (some ⟨gr, 0, none⟩) s.ps.length c], .int .i64 k, .int .i64 0] w (GivesR (s.count k 0 p) 0 w) := by
  have hk := (List.getElem?_eq_some_iff.1 hp).1
  have hkI : ¬ (s.ps.length : Int) ≤ k := by omega
  have hkI2 : (k : Int) < s.ps.length := by omega
  have hk0 : ¬ (k : Int) < 0 := by omega
  have hlen := hok.len
  obtain ⟨⟨a0, a1⟩, ⟨n0, n1⟩, ⟨b0, b1⟩, r0, r1⟩ := hok.num p (List.mem_of_getElem? hp)
  have hok1 := Sc.Ok.inc hok hp 0
  have hp1 : (s.setP k (p.inc 0)).ps[k]? = some (p.inc 0) := by simp [Sc.setP, hk]
  have hcl := count_len s k 0 p
  have hcr := count_rest s k 0 p
  obtain ⟨x, hx⟩ : ∃ x, p.a = x := ⟨_, rfl⟩
  have hE0 : Ext N0 w (((w.alloc (.cells #[.int .i64 s.rest, .slice (some ⟨gr, 0, none⟩) s.ps.length c] 37)).alloc (.cells #[.int .i64 0, .slice none 0 0] 37)).alloc (.cells #[] 61)) := (((Ext.refl _ _).alloc _).alloc _).alloc _
  have hrd := ownReadsN (h.kept0 hE0) (by omega)
  have HRD := Lib.hid hrd
  have HE0 := Lib.hid hE0
  have hrl := rcCells_len s.ps
  have HOK1 := Lib.hid hok1
  have HP1 := Lib.hid hp1
  have HP := Lib.hid hp
  have HCL := Lib.hid (And.intro hcl hcr)
  have hxa := a0
  have hxb := a1
  rw [hx] at hxa hxb
  have HX := Lib.hid hx
  clear h hrd hE0 hok hok1 hp hp1 hcl hcr hx
  unfold GivesR
  go_enter Try.func13, Try.ntmps13
  go_wp2_with (at_builtin; refine wpApp w.heap.size (.tmp 20) (.tmp 22) 35 61 (.agg #[.int .i64 0, .int .i64 0, .int .i64 0, .int .i64 0]) 4 32 rfl rfl Try.underlying35 info61 rfl (by decide) (by decide) (.slice (some ⟨w.heap.size + 1 + 1, 0, none⟩) 0 0) 0 [] _ s.ps.length _ (rcCells s.ps) rfl rfl (ownLitG ((w.alloc (.cells #[.int .i64 s.rest, .slice (some ⟨gr, 0, none⟩) s.ps.length c] 37)).alloc (.cells #[.int .i64 0, .slice none 0 0] 37)) w.heap.size 61 4 #[] 0 (by simp) (by omega) (by decide) rfl) hrl HRD.out (rc_one _) (by omega) (by simp; omega) ?_; intro An cn w2 ho2 hE2 _; have hb2 := hE2.blk (blkAlloc (blkAlloc (blkNew w (.cells #[.int .i64 s.rest, .slice (some ⟨gr, 0, none⟩) s.ps.length c] 37)) (.cells #[.int .i64 0, .slice none 0 0] 37)) (.cells #[] 61)) (not_own2 w.heap.size 0 0); have e1 := (blkCell hb2 1).trans rfl; have f1 := blkFrozen hb2 1; simp at e1; have HO2 := Lib.hid ho2; have HE2 := Lib.hid hE2; have HB2 := Lib.hid hb2; clear ho2 hE2 hb2)
  have ho2 := HO2.out
  simp only [Nat.zero_add, List.nil_append] at ho2
  obtain ⟨gn, cap, hvv, hgb, hgl⟩ := ho2.form (by omega)
  injection hvv with hv1 hv2 hv3
  subst hv1
  clear hv2 hv3 cap
  have hc2 := HE2.out.blk (blkAlloc (blkNewG (w.alloc (.cells #[.int .i64 s.rest, .slice (some ⟨gr, 0, none⟩) s.ps.length c] 37)) (.cells #[.int .i64 0, .slice none 0 0] 37) (g := w.heap.size + 1) (by simp)) (.cells #[] 61)) (not_own1 w.heap.size 0 0)
  have hX2 : Ext N0 w w2 := HE0.out.trans HE2.out (fun x hx => .inr (by have := own_is hx; omega))
  have hs3 : Ext (At w.heap.size) w2 (w2.setCell ⟨w.heap.size, 1, none⟩ (.slice (some ⟨gn, 0, none⟩) s.ps.length cn)) := (Ext.refl (At w.heap.size) w2).setCell (p := ⟨w.heap.size, 1, none⟩) (.inl (show w.heap.size = w.heap.size from rfl)) _
  have hb3 := (blkSet HB2.out 1 (.slice (some ⟨gn, 0, none⟩) s.ps.length cn)).trans (by simp : _ = some (Obj.cells #[.int .i64 s.rest, .slice (some ⟨gn, 0, none⟩) s.ps.length cn] 37 (0, 0)))
  have hM3 : Mid w (w2.setCell ⟨w.heap.size, 1, none⟩ (.slice (some ⟨gn, 0, none⟩) s.ps.length cn)) gn cn s s := ⟨ownKept ho2 hs3 (fun x hx hh => ownNeBlk ho2 HB2.out (by decide) x hx hh), hb3, blkFar hc2 (p := ⟨w.heap.size, 1, none⟩) (show w.heap.size + 1 ≠ w.heap.size by omega) _, hX2.trans hs3 (fun x hx => .inr (by have hx : x = w.heap.size := hx; omega))⟩
  clear hs3 hb3 hX2 hc2 ho2 HO2 HE2 HB2 e1 f1 HRD
  obtain ⟨w3, hw3⟩ : ∃ w3, w2.setCell ⟨w.heap.size, 1, none⟩ (.slice (some ⟨gn, 0, none⟩) s.ps.length cn) = w3 := ⟨_, rfl⟩
  rw [hw3] at hM3
  simp only [hw3]
  clear hw3
  have hMd := hM3.kept0 (Ext.refl N0 w3).drew
  have d0 := (blkCell hMd.box 1).trans rfl
  simp at d0
  have dd := hMd.row.path HP.out
  have d1 := dd.2.1
  have f1 := hMd.row.frozenAt (k * 4 + 1)
  rw [HX.out] at d1
  obtain ⟨s1, s2⟩ := hM3.row.set HP.out 1 (by decide) (.int .i64 (x + 1)) (p.inc 0) (by rw [← HX.out]; rfl)
  have hM4 : Mid w (w3.setCell ⟨gn, k * 4 + 1, none⟩ (.int .i64 (x + 1))).drew gn cn s (s.setP k (p.inc 0)) := ⟨s1, s2.blk hM3.box (fun hs => ownNeBlk hM3.row hM3.box (by decide) gn rfl hs.symm), s2.blk hM3.res (fun hs => ownNeBlk hM3.row hM3.res (by decide) gn rfl hs.symm), (hM3.ext.trans s2 (fun x hx => .inr (by have hx : x = gn := hx; omega))).drew⟩
  clear s1 s2 hM3 hMd dd
  go_region
  all_goals
    obtain ⟨w4, hw4⟩ : ∃ w4, (w3.setCell ⟨gn, k * 4 + 1, none⟩ (.int .i64 (x + 1))).drew = w4 := ⟨_, rfl⟩
    rw [hw4] at hM4
    simp only [hw4]
    clear hw4 d0 d1 f1
    have HM4 := Lib.hid hM4
    have c0 := (blkCell hM4.box 0).trans rfl
    have c1 := (blkCell hM4.box 1).trans rfl
    have l0 := blkLt hM4.box
    have l1 := blkLt hM4.res
    have l2 := hM4.row.lt
    simp at c0 c1
    obtain ⟨p0, p1, p2, p3⟩ := hM4.row.path HP1.out
    have er : (p.inc 0).r = p.r := rfl
    rw [er] at p0
    have fr0 := blkFrozen hM4.res 0
    have fr1 := blkFrozen hM4.res 1
    have cr0 := (blkCell hM4.res 0).trans rfl
    have cr1 := (blkCell hM4.res 1).trans rfl
    simp at cr0 cr1
    have hI := HOK1.out.num _ (List.mem_of_getElem? HP1.out)
    obtain ⟨qa, qn, qb, hq⟩ : ∃ qa qn qb, (p.inc 0).a = qa ∧ (p.inc 0).n = qn ∧ (p.inc 0).b = qb := ⟨_, _, _, rfl, rfl, rfl⟩
    obtain ⟨hqa, hqn, hqb⟩ := hq
    rw [hqa, hqn, hqb] at hI
    rw [hqa] at p1
    rw [hqn] at p2
    rw [hqb] at p3
    have HQ := Lib.hid (And.intro hqa (And.intro hqn hqb))
    have HC2 : Hid (s.count k 0 p = s.setP k (p.inc 0)) := Lib.hid (by unfold Sc.count; rw [if_neg (fun h => h.1 rfl)])
    have hA4 : Ext N0 w4 (w4.alloc (.cells #[.int .i64 qa, .int .i64 qn, .int .i64 qb] 54)) := (Ext.refl _ _).alloc _
    have HA4 := Lib.hid hA4
    clear hM4 hqa hqn hqb hA4 er
    go_wp2_with fail
    obtain ⟨k0, k1, rr, ex⟩ := HM4.out.done (by simp [Sc.setP]) rfl
    have kk0 := ((Ext.refl N0 _).alloc (.cells #[.int .i64 qa, .int .i64 qn, .int .i64 qb] 54)).cell k0 (fun h => h)
    have kk1 := ((Ext.refl N0 _).alloc (.cells #[.int .i64 qa, .int .i64 qn, .int .i64 qb] 54)).cell k1 (fun h => h)
    refine bodyPost_ret (v := .tuple #[.agg #[.int .i64 s.rest, .slice (some ⟨gn, 0, none⟩) s.ps.length cn], .int .i64 0]) (by simp [results, Try.results13, go_sem, kk0, kk1]) rfl ⟨gn, cn, by rw [HCL.out.1, HCL.out.2], ?_, ex.alloc _⟩
    rw [HC2.out]
    exact rr.kept0 ((Ext.refl N0 _).alloc _)
theorem rcount_out (base gr c : Nat) (s : Sc) (k what : Int) (w : World) (h : RR base w gr c s) (hk : ¬ s.has k) :
    Calls Try.prog 13 #[.agg #[.int .i64 s.rest, .slice (some ⟨gr, 0, none⟩) s.ps.length c], .int .i64 k, .int .i64 what] w fun e w' => e = .returned (.tuple #[.agg #[.int .i64 s.rest, .slice (some ⟨gr, 0, none⟩) s.ps.length c], .int .i64 5]) ∧ Ext N0 w w' := by
  unfold Sc.has at hk
  clear h
  by_cases h1 : k < 0
  · clear hk
    go_enter Try.func13, Try.ntmps13
    go_wp2
    refine bodyPost_ret (v := .tuple #[.agg #[.int .i64 s.rest, .slice (some ⟨gr, 0, none⟩) s.ps.length c], .int .i64 5]) (by simp [results, Try.results13, go_sem]) rfl ⟨rfl, ((Ext.refl _ _).alloc _).alloc _⟩
  · have h2 : (s.ps.length : Int) ≤ k := by omega
    clear hk
    go_enter Try.func13, Try.ntmps13
    go_wp2
    refine bodyPost_ret (v := .tuple #[.agg #[.int .i64 s.rest, .slice (some ⟨gr, 0, none⟩) s.ps.length c], .int .i64 5]) (by simp [results, Try.results13, go_sem]) rfl ⟨rfl, ((Ext.refl _ _).alloc _).alloc _⟩
end Go.Proofs.Ytkkcdijnhegneaa
