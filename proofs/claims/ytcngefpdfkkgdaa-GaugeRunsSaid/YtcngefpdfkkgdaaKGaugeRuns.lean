/- The walk of the law GaugeRuns: called with any values that fit its parameters, it returns true and nothing that was in memory before has changed. No other condition. -/
import Derived.Test.YtcngefpdfkkgdaaS11
import Derived.Deep.DeepCutAuto
import Derived.Deep.CutBlock
import Derived.Deep.RegionHeld3
namespace Go.Proofs.Ytcngefpdfkkgdaa
open Go.RowKit Go.ChangeShapes Go.WideShapes Go.Maps
namespace gaugeRuns
/-- The bounds, cut. -/
theorem bounds {a0 : Option Addr} {len0 cap0 : Nat} {z0 : List Int} {w : World} (w0 : IsRow .i64 w a0 len0 cap0 z0) :
    ∃ (A : Option Addr) (bs : List Int), min len0 70 = bs.length ∧ (∀ W : World, (Instr.slice 22 (.slice a0 len0 cap0) none (some (.int .i64 (bs.length : Int))) none).run Try.prog W = .ok (.slice A bs.length cap0) W) ∧ Reads w A (iv bs) := by
  obtain ⟨h1, h2, h3, h4, _⟩ := w0.reads
  obtain ⟨A, hA, hR⟩ := cut22 a0 len0 cap0 (min len0 70) (by omega) (by omega)
  have hl : min len0 70 = ((z0.take len0).take (min len0 70)).length := by rw [List.length_take, h2]; omega
  refine ⟨A, (z0.take len0).take (min len0 70), hl, ?_, ?_⟩
  · rw [← hl]
    exact hA
  have := hR (ints .i64 (z0.take len0)) w (by rw [ints_length, h2]) h3 h1
  unfold ints at this
  unfold iv
  rwa [List.map_take]
theorem held2 {w w' : World} {a b : Addr} {u v : Value} (hE : Ext N0 w w') (h : w.cell? a = some u ∧ w.cell? b = some v) : w'.cell? a = some u ∧ w'.cell? b = some v := ⟨hE.cell h.1 (fun h => h), hE.cell h.2 (fun h => h)⟩
set_option maxRecDepth 100000 in
set_option maxHeartbeats 8000000 in
theorem walk (a0 : Option Addr) (len0 cap0 : Nat) (z0 : List Int) (a1 : Option Addr) (len1 cap1 : Nat) (z1 : Nat → ByteArray × Int) (a2 : Int) (w : World) (w0 : IsRow .i64 w a0 len0 cap0 z0) (w1 : IsOps w a1 len1 cap1 z1) (_w2 : (Lit.int .i64 a2).wf = true) :
    Calls Try.prog 3 #[.slice a0 len0 cap0, .slice a1 len1 cap1, .int .i64 a2] w fun e w' => e = .returned (.bool true) ∧ Below w.heap.size w w' := by
  have HW := Lib.hid w1
  obtain ⟨A, bs, hm, hsl, hrd⟩ := bounds w0
  have hlc : len0 ≤ cap0 := w0.reads.2.2.1
  have HRd := Lib.hid hrd
  have HM70 := Lib.hid (show bs.length ≤ 70 by omega)
  have HCs := Lib.hid (show (bs.length = len0 ∧ len0 ≤ 70) ∨ (bs.length = 70 ∧ 70 < len0) by omega)
  have HSl := Lib.hid hsl
  clear w0 w1 hrd hsl _w2 hm hlc
  by_cases hmay : mayB bs = true
  · have HN : Hid (Calls Try.prog 6 #[.slice A bs.length cap0] w fun e w' => ∃ g, e = .returned (.tuple #[.pointer (some ⟨g, 0, none⟩), .int .i64 0]) ∧ w.heap.size ≤ g ∧ IsGS w.heap.size w' g ⟨bs, [], fun _ => []⟩ 0 (fun x => w.heap.size ≤ x) ∧ Ext N0 w w') := Lib.hid (new_goodS A cap0 bs w HRd.out hmay)
    have HMn : Hid (∀ W, Ext N0 w W → Calls Try.prog 7 #[.slice A bs.length cap0] W fun e w' => ∃ A c, e = .returned (.tuple #[.agg (rG A bs.length c none 0 0), .int .i64 0]) ∧ RS W.heap.size w' A c none 0 bs [] ∧ Ext N0 W w') := Lib.hid (fun W hW => by
      refine (rnew_calls A cap0 bs W (HRd.out.mono0 hW) (by have := HM70.out; omega)).mono ?_
      rintro e w' (⟨_, A', c', h1, h2, h3⟩ | ⟨h1, _⟩)
      · exact ⟨A', c', h1, h2, h3⟩
      · rw [hmay] at h1; cases h1)
    have HOk0 := Lib.hid (ok0 hmay)
    clear hmay HRd
    go_enter Try.func3, Try.ntmps3
    go_upto_region 1 with fail
    go_cut [0] (fun s0 wx => s0 = .slice A bs.length cap0 ∧ w = wx)
    case first =>
      have hsl := HSl.out
      rcases HCs.out with ⟨h1, h2⟩ | ⟨h1, h2⟩
      · rw [h1] at hsl
        have hc : ¬ (70 : Int) < len0 := by omega
        go_wp2_with fail
        go_meet
        case rel => exact ⟨by rw [h1], rfl⟩
      · rw [h1] at hsl
        have hc : (70 : Int) < len0 := by omega
        have hc2 : ¬ (len0 : Int) < 70 := by omega
        simp only [Int.cast_ofNat_Int] at hsl
        go_wp2_with fail
        go_meet
        case rel => exact ⟨by rw [h1], rfl⟩
    case rest =>
      clear HSl HCs HM70
      obtain ⟨rfl, hwc⟩ := hcut
      subst hwc
      go_wp2_with fail
      refine HN.out.mono ?_
      rintro e w1 ⟨g, rfl, hgl, hG, hE⟩
      have HG := Lib.hid hG
      have HE := Lib.hid hE
      clear hG hE hgl HN
      go_wp2_with fail
      refine (HMn.out _ HE.out).mono ?_
      rintro e w2 ⟨A0, c0, rfl, hR, hE2⟩
      have HA0 := Lib.hid (al0 HG.out HE.out hR hE2)
      clear HMn HG HE hR hE2
      go_wp2_with (go_at_call 8; refine (awake_calls _).mono ?_; rintro e w3 ⟨rfl, hE3⟩; have HA3 := Lib.hid (HA0.out.kept0 hE3); clear hE3)
      clear HA0
      obtain ⟨x, hx⟩ : ∃ x, w2.heap.size = x := ⟨_, rfl⟩
      rw [hx] at HA3
      simp only [hx]
      clear hx
      have HF0 : Hid ((⟨bs, [], fun _ => []⟩ : Ga ByteArray).Ok 0 ∧ (⟨bs, [], fun _ => []⟩ : Ga ByteArray).bs = bs ∧ Rel ⟨bs, [], fun _ => []⟩ bs []) := Lib.hid ⟨HOk0.out, rfl, rel0 bs⟩
      clear HOk0
      go_loopw [11] (fun i wr => ∃ (k : Nat) (G : Ga ByteArray) (R : List Rk) (A1 : Option Addr) (c1 : Nat), k ≤ 50 ∧ i = .int .i64 k ∧ Hid (G.Ok k ∧ G.bs = bs ∧ Rel G bs R) ∧ Hid (Al w wr g x bs G R A0 c0 A1 c1 k)) (fun i _ => 51 - (intOf i).toNat)
      case atStart => exact ⟨0, _, _, _, _, by omega, rfl, HF0, HA3⟩
      case round =>
        clear HA3 HF0
        obtain ⟨k, G, R, A1, c1, hk, rfl, HF, HA⟩ := hrel
        by_cases hl : k < len1
        · have hl' : (k : Int) < len1 := by omega
          by_cases h6 : k < 50
          · have h6' : (k : Int) < 50 := by omega
            obtain ⟨hx1, hx2, hx3⟩ := HW.out
            obtain ⟨ad, rfl, hc⟩ := hx3 (by omega)
            obtain ⟨p0, p1, d1⟩ := hc k hl
            obtain ⟨key, hke⟩ : ∃ key, (z1 k).1 = key := ⟨_, rfl⟩
            obtain ⟨n, hn⟩ : ∃ n, (z1 k).2 = n := ⟨_, rfl⟩
            rw [hke] at p0 d1
            rw [hn] at p1
            have HKey : Hid (keyOf Try.prog 9 (.string key) = some (.string key.data.toList)) := Lib.hid (WideMaps.keyOf_string_mk Try.underlying9 d1)
            rw [addSucc] at p1
            simp only [Nat.zero_add] at p1
            have HP1 := Lib.hid p1
            have p0 := HA.out.ext.cell p0 (fun h => h)
            have p1 := HA.out.ext.cell p1 (fun h => h)
            obtain ⟨hok, hgb, hrel⟩ := HF.out
            obtain ⟨er, G', hok', hgb', hN9, hN10⟩ := note_al w g x k G key n bs R hok (by omega) hrel HKey.out
            have HOk := Lib.hid (And.intro hok' hgb')
            have HN9 := Lib.hid hN9
            have HN10 := Lib.hid hN10
            clear hx1 hx2 hx3 hc hke hn d1 hok hgb hrel hok' hgb' hN9 hN10 HF
            go_upto_region 10 with fail
            go_cut [13, 14] (fun s13 s14 wx => ∃ (b : Nat) (A1' : Option Addr) (c1' : Nat) (R' : List Rk), s13 = .pointer (some ⟨b, 0, none⟩) ∧ s14 = .int .i64 er ∧ Hid (wx.heap[b]? = some (.cells (rG A0 bs.length c0 A1' R'.length c1') 30 (0, 0))) ∧ Hid (RS w.heap.size wx A0 c0 A1' c1' bs R') ∧ Hid (Ext N0 wr wx) ∧ Hid (∀ y, RB A0 c0 A1' c1' bs R' y → RB A0 c0 A1 c1 bs R y ∨ wr.heap.size ≤ y) ∧ Hid (Rel G' bs R'))
            case first =>
              have HD : Hid (Ext N0 wr wr.drew) := Lib.hid (Ext.refl N0 wr).drew
              obtain ⟨⟨x0, x1⟩, _⟩ := HA.out.cells
              have q0 := p1
              change wr.drew.cell? _ = _ at q0
              have q1 : wr.drew.cell? ⟨x, 0, none⟩ = some (.slice A0 bs.length c0) := x0
              have q2 : wr.drew.cell? ⟨x, 1, none⟩ = some (.slice A1 R.length c1) := x1
              have HAl := Lib.hid (fun (y : Nat) (hy : RB A0 c0 A1 c1 bs R y) => (HA.out.row.lt y hy).2)
              have HX0 : Hid (Ext N0 wr (wr.alloc (.cells #[.slice none 0 0, .slice none 0 0] 30)).drew) := Lib.hid ((Ext.refl N0 wr).alloc _).drew
              have r0 := HX0.out.cell p1 (fun h => h)
              have r1 := HX0.out.cell x0 (fun h => h)
              have r2 := HX0.out.cell x1 (fun h => h)
              have HZ0 : Hid ((wr.alloc (.cells #[.slice none 0 0, .slice none 0 0] 30)).drew.heap[wr.heap.size]? = some (.cells #[.slice none 0 0, .slice none 0 0] 30 (0, 0))) := Lib.hid (blkNew wr (.cells #[.slice none 0 0, .slice none 0 0] 30))
              go_region_with (first
                | (go_at_call 9; refine (HN9.out _ _ _ _ _ _ (HA.out.kept0 HX0.out)).mono ?_; rintro e w4 ⟨A1', c1', R', rfl, hR4, hE4, hB4, hrel4⟩; have hZ := hE4.blk0 HZ0.out; have z0 : w4.cell? ⟨wr.heap.size, 0, none⟩ = some (.slice none 0 0) := (blkCell hZ 0).trans rfl; have z1 : w4.cell? ⟨wr.heap.size, 1, none⟩ = some (.slice none 0 0) := (blkCell hZ 1).trans rfl; have zf0 := blkFrozen hZ 0; have zf1 := blkFrozen hZ 1; have HZ4 := Lib.hid hZ; have H4 := Lib.hid (And.intro hR4 (And.intro (HX0.out.then0 hE4) (And.intro hB4 hrel4))); clear hR4 hE4 hB4 hrel4 hZ)
                | (go_at_call 9; refine (HN9.out _ _ _ _ _ _ (HA.out.kept0 HD.out)).mono ?_; rintro e w4 ⟨A1', c1', R', rfl, hR4, hE4, hB4, hrel4⟩; have H5 := Lib.hid (And.intro hR4 (And.intro (HD.out.then0 hE4) (And.intro hB4 hrel4))); clear hR4 hE4 hB4 hrel4))
              all_goals first
                | (have hB5 : ∀ y, RB A0 c0 A1' c1' bs R' y → RB A0 c0 A1 c1 bs R y ∨ wr.heap.size + 1 ≤ y := fun y hy => (H4.out.2.2.1 y hy).imp id (fun h => by simpa using h)
                   have hS5 : Ext (At wr.heap.size) w4 ((w4.setCell ⟨wr.heap.size, 0, none⟩ (.slice A0 bs.length c0)).setCell ⟨wr.heap.size, 1, none⟩ (.slice A1' R'.length c1')) := extSet2 _ _ _ _ _ _
                   go_wp2_with fail
                   go_meet
                   case rel => exact ⟨_, A1', c1', R', rfl, rfl, Lib.hid (set2b HZ4.out), Lib.hid (H4.out.1.kept hS5 (fun y hy (e : y = wr.heap.size) => (hB5 y hy).elim (fun h => by have := HAl.out y h; omega) (fun h => by omega))), Lib.hid (H4.out.2.1.trans hS5 (fun y (hy : y = wr.heap.size) => .inr (by omega))), Lib.hid (fun y hy => (hB5 y hy).imp id (fun h => by omega)), Lib.hid H4.out.2.2.2⟩)
                | (go_wp2_with fail
                   go_meet
                   case rel => exact ⟨_, A1', c1', R', rfl, rfl, Lib.hid (blkNew _ _), Lib.hid (H5.out.1.kept0 ((Ext.refl _ _).alloc _)), Lib.hid (H5.out.2.1.alloc _), Lib.hid H5.out.2.2.1, Lib.hid H5.out.2.2.2⟩)
            case rest =>
              clear p0 p1 HN9
              obtain ⟨b, A1', c1', R', rfl, rfl, HBk, HR4, HE4, HB4, HRel⟩ := hcut
              go_upto_region 11 with fail
              go_cut [] (fun wx => Hid (Al w wx g x bs G R' A0 c0 A1' c1' k))
              case first =>
                have q0 : wc.cell? ⟨b, 0, none⟩ = some (.slice A0 bs.length c0) := (blkCell HBk.out 0).trans rfl
                have q1 : wc.cell? ⟨b, 1, none⟩ = some (.slice A1' R'.length c1') := (blkCell HBk.out 1).trans rfl
                obtain ⟨⟨y0, y1⟩, f0, f1⟩ := (HA.out.kept0 HE4.out).cells
                go_wp2_with fail
                go_meet
                case rel => exact Lib.hid (HA.out.put HE4.out HR4.out HB4.out)
              case rest =>
                clear HBk HR4 HE4 HB4 HA
                have HA := hcut
                have p1 := HA.out.ext.cell HP1.out (fun h => h)
                obtain ⟨L, cs, v, hT⟩ := told w g x (k + 1) bs G' R' key a2 HOk.out.1 (by omega) HRel.out HKey.out
                have HT := Lib.hid hT
                have hk' : k ≤ 100000 := by omega
                clear hT hcut
                go_upto_region 14 with (first
                  | (go_at_call 10; refine (HN10.out _ _ _ _ _ _ _ HA.out hk').mono ?_; rintro e w5 ⟨rfl, hA5⟩; obtain ⟨⟨y0, y1⟩, _⟩ := hA5.cells; have HA5 := Lib.hid hA5; clear hA5)
                  | (go_at_call 11; refine (HT.out.tot _ _ _ _ _ _ HA5.out).mono ?_; rintro e w6 ⟨rfl, hE6⟩; have HA6 := Lib.hid (HA5.out.kept0 hE6); clear hE6))
                clear HA HA5 y0 y1 p1 HN10 hk'
                go_cut [139] (fun s139 wx => s139 = .bool false ∧ Hid (Al w wx g x bs G' R' A0 c0 A1' c1' (k + 1)))
                case first =>
                  have HD : Hid (Ext N0 w6 w6.drew) := Lib.hid (Ext.refl N0 w6).drew
                  obtain ⟨⟨y0, y1⟩, _⟩ := HA6.out.cells
                  clear HW HP1 HOk HKey HRel hl hl' h6 h6' hk
                  go_region_held3 (fun w' => w'.cell? ⟨x, 0, none⟩ = some (.slice A0 bs.length c0) ∧ w'.cell? ⟨x, 1, none⟩ = some (.slice A1' R'.length c1')) (first | go_keep | exact held2 y14 (by assumption) | exact held2 y13 (by assumption) | exact held2 y12 (by assumption) | exact held2 y11 (by assumption) | exact held2 y10 (by assumption) | exact held2 y9 (by assumption) | exact held2 y8 (by assumption) | exact held2 y7 (by assumption)) (first
                    | (have hx := X7; clear hx; go_at_call 19; refine (HT.out.c19 _ _ _ _ _ _ (HA6.out.kept0 X7.out)).mono ?_; rintro e w14 ⟨rfl, y14⟩; have X8 := Lib.hid (X7.out.then0 y14))
                    | (have hx := X6; clear hx; go_at_call 18; refine (HT.out.c18 _ _ _ _ _ _ (HA6.out.kept0 X6.out)).mono ?_; rintro e w13 ⟨rfl, y13⟩; have X7 := Lib.hid (X6.out.then0 y13))
                    | (have hx := X5; clear hx; go_at_call 17; refine (HT.out.c17 _ _ _ _ _ _ (HA6.out.kept0 X5.out)).mono ?_; rintro e w12 ⟨rfl, y12⟩; have X6 := Lib.hid (X5.out.then0 y12))
                    | (have hx := X4; clear hx; go_at_call 16; refine (HT.out.c16 _ _ _ _ _ _ (HA6.out.kept0 X4.out)).mono ?_; rintro e w11 ⟨rfl, y11⟩; have X5 := Lib.hid (X4.out.then0 y11))
                    | (have hx := X3; clear hx; go_at_call 15; refine (HT.out.c15 _ _ _ _ _ _ (HA6.out.kept0 X3.out)).mono ?_; rintro e w10 ⟨rfl, y10⟩; have X4 := Lib.hid (X3.out.then0 y10))
                    | (have hx := X2; clear hx; go_at_call 12; refine (same_yes cs _ _ _ _ _ R1.out R2.out).mono ?_; rintro e w9 ⟨rfl, y9⟩; have X3 := Lib.hid (X2.out.then0 y9))
                    | (have hx := X1; clear hx; go_at_call 14; refine (HT.out.c14 _ _ _ _ _ _ (HA6.out.kept0 X1.out)).mono ?_; rintro e w8 ⟨A8, c8, rfl, r8, y8⟩; have X2 := Lib.hid (X1.out.then0 y8); have R1 := Lib.hid (R0.out.mono0 y8); have R2 := Lib.hid r8; clear r8)
                    | (go_at_call 13; refine (HT.out.c13 _ _ _ _ _ _ (HA6.out.kept0 HD.out)).mono ?_; rintro e w7 ⟨A7, c7, rfl, r7, y7⟩; have X1 := Lib.hid (HD.out.then0 y7); have R0 := Lib.hid r7; clear r7))
                  all_goals
                    go_wp2_with fail
                    go_meet
                    case rel => exact ⟨rfl, Lib.hid (HA6.out.kept0 X8.out)⟩
                case rest =>
                  clear HT HA6 HP1
                  obtain ⟨rfl, HA7⟩ := hcut
                  obtain ⟨L2, hL2⟩ : ∃ L2, (rKeys R').length = L2 := ⟨_, rfl⟩
                  have hLe : L2 ≤ 51 := by have := HOk.out.1.kl; rw [← HRel.out.ks] at this; omega
                  have hR1 : R'.length ≤ 1000 := by have h := hL2; unfold rKeys at h; rw [List.length_map] at h; omega
                  have hK0 := fun W (h : Al w W g x bs G' R' A0 c0 A1' c1' (k + 1)) => rkeys_calls w.heap.size c0 c1' bs.length A0 A1' bs R' W h.row hR1
                  have hK1 : ∀ W, Al w W g x bs G' R' A0 c0 A1' c1' (k + 1) → Calls Try.prog 22 #[.pointer (some ⟨g, 0, none⟩), .int .i64 ((L2 + 1 : Nat) : Int)] W fun e w' => ∃ A c, e = .returned (.slice A L2 c) ∧ Reads w' A (sv (rKeys R')) ∧ Ext N0 W w' := fun W h => by
                    obtain ⟨F, hF, _⟩ := h.ga
                    have := keysG_yes w.heap.size g (k + 1) G' F (by rw [← HRel.out.ks]; omega) (L2 + 1) (by omega) W hF
                    rw [← HRel.out.ks, List.take_of_length_le (by omega), hL2] at this
                    exact this
                  have hK2 : ∀ W, Al w W g x bs G' R' A0 c0 A1' c1' (k + 1) → Calls Try.prog 22 #[.pointer (some ⟨g, 0, none⟩), .int .i64 1] W fun e w' => ∃ A c, e = .returned (.slice A ((rKeys R').take 1).length c) ∧ Reads w' A (sv ((rKeys R').take 1)) ∧ Ext N0 W w' := fun W h => by
                    obtain ⟨F, hF, _⟩ := h.ga
                    have := keysG_yes w.heap.size g (k + 1) G' F (by rw [← HRel.out.ks]; omega) 1 (by omega) W hF
                    rw [← HRel.out.ks] at this
                    exact this
                  have hS1 := fun W A B c d (h1 : Reads W A (sv (rKeys R'))) (h2 : Reads W B (sv (rKeys R'))) => sameS_yes (rKeys R') A B c d W h1 h2
                  have hS2 := fun W A B c d (h1 : Reads W A (sv ((rKeys R').take 1))) (h2 : Reads W B (sv ((rKeys R').take 1))) => sameS_yes ((rKeys R').take 1) A B c d W h1 h2
                  have hT1 : ((rKeys R').take 1).length = min 1 L2 := by rw [List.length_take, hL2]
                  rw [hL2] at hS1
                  simp only [hL2] at hK0
                  rw [show ((L2 + 1 : Nat) : Int) = IntKind.i64.wrap ((L2 : Int) + 1) from (IntWalk.i64_in _ (by omega)).symm] at hK1
                  rw [hT1] at hS2 hK2
                  have HT1 := Lib.hid hT1
                  have HL2 := Lib.hid hL2
                  have HK0 := Lib.hid hK0
                  have HK1 := Lib.hid hK1
                  have HK2 := Lib.hid hK2
                  have HS1 := Lib.hid hS1
                  have HS2 := Lib.hid hS2
                  have HLe := Lib.hid hLe
                  clear hK0 hK1 hK2 hS1 hS2 hT1 hL2 hR1 hLe
                  obtain ⟨⟨y0, y1⟩, _⟩ := HA7.out.cells
                  go_upto_region 17 with (go_at_call 20; refine (HK0.out _ HA7.out).mono ?_; rintro e w7 ⟨A3, c3, rfl, hlc, hr7, hE7⟩; have HA8 := Lib.hid (HA7.out.kept0 hE7); have HR3 := Lib.hid hr7; clear hE7 hr7)
                  clear y0 y1 HA7 HK0
                  go_cut [160] (fun s160 wx => s160 = .bool false ∧ Hid (Al w wx g x bs G' R' A0 c0 A1' c1' (k + 1)))
                  case first =>
                    obtain ⟨A9, hsl, hrd⟩ := cut46 A3 L2 c3 (min 1 L2) (by omega) (by omega)
                    have HRd : Hid (∀ W : World, Reads W A3 (sv (rKeys R')) → Reads W A9 (sv ((rKeys R').take 1))) := Lib.hid (fun W h => by
                      have h2 := hrd (sv (rKeys R')) W (by rw [sv_len]; exact HL2.out) hlc h
                      rcases Nat.eq_zero_or_pos L2 with h0 | h0
                      · have e : rKeys R' = [] := List.eq_nil_of_length_eq_zero (HL2.out.trans h0)
                        rw [e]
                        exact Reads.nil _ _
                      · rw [show min 1 L2 = 1 by omega] at h2
                        unfold sv at h2 ⊢
                        rwa [List.map_take])
                    have HD : Hid (Ext N0 w7 w7.drew) := Lib.hid (Ext.refl N0 w7).drew
                    have HA9 := HA8
                    clear hrd HT1 HL2 HW HOk HKey HRel hl hl' h6 h6' hk
                    by_cases hL1 : 1 ≤ L2
                    · rw [show min 1 L2 = 1 by omega] at hsl HK2 HS2
                      have hsl : ∀ W : World, (Instr.slice 46 (.slice A3 L2 c3) none (some (.int .i64 1)) none).run Try.prog W = .ok (.slice A9 1 c3) W := hsl
                      have hm2 : ¬ (L2 : Int) < 1 := by omega
                      have hl1 : (if (L2 : Int) < 1 then (L2 : Int) else 1) = 1 := if_neg hm2
                      have hm1 : (1 : Int) ≤ L2 := by omega
                      have hc1 : (1 : Int) ≤ c3 := by omega
                      clear HLe
                      go_region_held3 (fun _ => True) (first | trivial | go_keep) (first
                        | (have hx := X3; clear hx; go_at_call 21; refine (HS2.out _ _ _ _ _ R4.out (HRd.out _ (HR3.out.mono0 X3.out))).mono ?_; rintro e w11 ⟨rfl, y11⟩; have X4 := Lib.hid (X3.out.then0 y11))
                        | (have hx := X2; clear hx; go_at_call 22; refine (HK2.out _ (HA8.out.kept0 X2.out)).mono ?_; rintro e w10 ⟨A10, c10, rfl, r10, y10⟩; have X3 := Lib.hid (X2.out.then0 y10); have R4 := Lib.hid r10; clear r10)
                        | (have hx := X1; clear hx; go_at_call 21; refine (HS1.out _ _ _ _ _ R5.out (HR3.out.mono0 X1.out)).mono ?_; rintro e w9 ⟨rfl, y9⟩; have X2 := Lib.hid (X1.out.then0 y9))
                        | (go_at_call 22; refine (HK1.out _ (HA8.out.kept0 HD.out)).mono ?_; rintro e w8 ⟨A8, c8, rfl, r8, y8⟩; have X1 := Lib.hid (HD.out.then0 y8); have R5 := Lib.hid r8; clear r8))
                      all_goals
                        go_wp2_with fail
                        go_meet
                        case rel => exact ⟨rfl, Lib.hid (HA8.out.kept0 X4.out)⟩
                    · obtain rfl : L2 = 0 := by omega
                      have hsl : ∀ W : World, (Instr.slice 46 (.slice A3 0 c3) none (some (.int .i64 0)) none).run Try.prog W = .ok (.slice A9 0 c3) W := hsl
                      rw [show min 1 0 = 0 by omega] at HK2 HS2
                      clear HLe
                      go_region_held3 (fun _ => True) (first | trivial | go_keep) (first
                        | (have hx := X3; clear hx; go_at_call 21; refine (HS2.out _ _ _ _ _ R4.out (HRd.out _ (HR3.out.mono0 X3.out))).mono ?_; rintro e w11 ⟨rfl, y11⟩; have X4 := Lib.hid (X3.out.then0 y11))
                        | (have hx := X2; clear hx; go_at_call 22; refine (HK2.out _ (HA8.out.kept0 X2.out)).mono ?_; rintro e w10 ⟨A10, c10, rfl, r10, y10⟩; have X3 := Lib.hid (X2.out.then0 y10); have R4 := Lib.hid r10; clear r10)
                        | (have hx := X1; clear hx; go_at_call 21; refine (HS1.out _ _ _ _ _ R5.out (HR3.out.mono0 X1.out)).mono ?_; rintro e w9 ⟨rfl, y9⟩; have X2 := Lib.hid (X1.out.then0 y9))
                        | (go_at_call 22; refine (HK1.out _ (HA8.out.kept0 HD.out)).mono ?_; rintro e w8 ⟨A8, c8, rfl, r8, y8⟩; have X1 := Lib.hid (HD.out.then0 y8); have R5 := Lib.hid r8; clear r8))
                      all_goals
                        go_wp2_with fail
                        go_meet
                        case rel => exact ⟨rfl, Lib.hid (HA8.out.kept0 X4.out)⟩
                  case rest =>
                    obtain ⟨rfl, HA9⟩ := hcut
                    have HF9 := Lib.hid (And.intro HOk.out.1 (And.intro HOk.out.2 HRel.out))
                    have hk9 : k + 1 ≤ 50 := by omega
                    clear HA8 HR3 HK1 HK2 HS1 HS2 HLe HL2 HT1 HOk HRel hlc HKey
                    go_wp2
                    go_roundw
                    case rel => exact ⟨k + 1, G', R', A1', c1', by omega, by go_num, HF9, HA9⟩
                    case measure => simp only [intOf]; omega
          · have h6' : ¬ (k : Int) < 50 := by omega
            clear hl hl'
            have hq : (k : Int) < len1 ∨ ¬ (k : Int) < len1 := by omega
            rcases hq with hq | hq
            all_goals
              go_wp2
              go_ret
              exact ⟨rfl, HA.out.ext.below⟩
        · have hl' : ¬ (k : Int) < len1 := by omega
          go_wp2
          go_ret
          exact ⟨rfl, HA.out.ext.below⟩
  · have hmay2 : mayB bs = false := by simpa using hmay
    have HN : Hid (Calls Try.prog 6 #[.slice A bs.length cap0] w fun e w' => e = .returned (.tuple #[.pointer none, .int .i64 310]) ∧ w' = w) := Lib.hid (new_badS A cap0 bs w HRd.out hmay2)
    have HMn : Hid (Calls Try.prog 7 #[.slice A bs.length cap0] w fun e w' => e = .returned (.tuple #[.agg #[.slice none 0 0, .slice none 0 0], .int .i64 310]) ∧ Ext N0 w w') := Lib.hid ((rnew_calls A cap0 bs w HRd.out (by have := HM70.out; omega)).mono (by
      rintro e w' (⟨h1, _⟩ | ⟨_, h2, h3⟩)
      · rw [hmay2] at h1; cases h1
      · exact ⟨h2, h3⟩))
    clear hmay hmay2 HRd
    go_enter Try.func3, Try.ntmps3
    go_upto_region 1 with fail
    go_cut [0] (fun s0 wx => s0 = .slice A bs.length cap0 ∧ w = wx)
    case first =>
      have hsl := HSl.out
      rcases HCs.out with ⟨h1, h2⟩ | ⟨h1, h2⟩
      · rw [h1] at hsl
        have hc : ¬ (70 : Int) < len0 := by omega
        go_wp2_with fail
        go_meet
        case rel => exact ⟨by rw [h1], rfl⟩
      · rw [h1] at hsl
        have hc : (70 : Int) < len0 := by omega
        have hc2 : ¬ (len0 : Int) < 70 := by omega
        simp only [Int.cast_ofNat_Int] at hsl
        go_wp2_with fail
        go_meet
        case rel => exact ⟨by rw [h1], rfl⟩
    case rest =>
      clear HSl HCs HM70
      obtain ⟨rfl, hwc⟩ := hcut
      subst hwc
      go_wp2_with fail
      refine HN.out.mono ?_
      rintro e w1 ⟨rfl, rfl⟩
      go_wp2_with fail
      refine HMn.out.mono ?_
      rintro e w2 ⟨rfl, hE⟩
      have HE := Lib.hid hE
      clear HN HMn hE
      go_wp2_with (go_at_call 8; refine (awake_calls _).mono ?_; rintro e w3 ⟨rfl, hE3⟩; have HX := Lib.hid ((HE.out.alloc _).then0 hE3); clear hE3)
      clear HE
      go_loopw [11] (fun i wr => i = .int .i64 0 ∧ Hid (Ext N0 w1 wr)) (fun _ _ => 0)
      case atStart => exact ⟨rfl, HX⟩
      case round =>
        clear HX
        obtain ⟨rfl, HX⟩ := hrel
        have hq : (0 : Int) < len1 ∨ ¬ (0 : Int) < len1 := by omega
        rcases hq with hq | hq
        all_goals
          go_wp2
          go_ret
          exact ⟨rfl, HX.out.below⟩
end gaugeRuns
end Go.Proofs.Ytcngefpdfkkgdaa
