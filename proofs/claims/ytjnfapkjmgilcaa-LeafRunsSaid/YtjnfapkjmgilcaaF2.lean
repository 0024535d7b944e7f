/- The law's look at both networks (the conditions stand in the statements). -/
import Derived.Test.YtjnfapkjmgilcaaF1
import Derived.Test.YtjnfapkjmgilcaaE6
import Derived.Deep.DeepCutAuto
import Derived.Deep.CutBlock
import Derived.Deep.RegionHeld3
namespace Go.Proofs.Ytjnfapkjmgilcaa
open Go.RowKit
theorem held9 {w w' : World} {a1 a2 a3 a4 a5 a6 a7 a8 a9 : Addr} {v1 v2 v3 v4 v5 v6 v7 v8 v9 : Value} (hE : Ext N0 w w') (h : w.cell? a1 = some v1 ∧ w.cell? a2 = some v2 ∧ w.cell? a3 = some v3 ∧ w.cell? a4 = some v4 ∧ w.cell? a5 = some v5 ∧ w.cell? a6 = some v6 ∧ w.cell? a7 = some v7 ∧ w.cell? a8 = some v8 ∧ w.cell? a9 = some v9) :
    w'.cell? a1 = some v1 ∧ w'.cell? a2 = some v2 ∧ w'.cell? a3 = some v3 ∧ w'.cell? a4 = some v4 ∧ w'.cell? a5 = some v5 ∧ w'.cell? a6 = some v6 ∧ w'.cell? a7 = some v7 ∧ w'.cell? a8 = some v8 ∧ w'.cell? a9 = some v9 := by
  obtain ⟨h1, h2, h3, h4, h5, h6, h7, h8, h9⟩ := h
  exact ⟨hE.cell h1 (fun x => x), hE.cell h2 (fun x => x), hE.cell h3 (fun x => x), hE.cell h4 (fun x => x), hE.cell h5 (fun x => x), hE.cell h6 (fun x => x), hE.cell h7 (fun x => x), hE.cell h8 (fun x => x), hE.cell h9 (fun x => x)⟩
theorem boxes (w : World) (a b c d o0 o1 o2 o3 o4 o5 : Value) {w' : World} (hE : Ext N0 ((w.alloc (.cells #[a, b, c, d] 42)).alloc (.cells #[o0, o1, o2, o3, o4, o5] 35)) w') :
    w'.cell? ⟨w.heap.size, 0, none⟩ = some a ∧ w'.cell? ⟨w.heap.size, 1, none⟩ = some b ∧ w'.cell? ⟨w.heap.size, 2, none⟩ = some c ∧ w'.cell? ⟨w.heap.size, 3, none⟩ = some d ∧ w'.cell? ⟨w.heap.size + 1, 1, none⟩ = some o1 ∧ w'.cell? ⟨w.heap.size + 1, 2, none⟩ = some o2 ∧ w'.cell? ⟨w.heap.size + 1, 3, none⟩ = some o3 ∧ w'.cell? ⟨w.heap.size + 1, 4, none⟩ = some o4 ∧ w'.cell? ⟨w.heap.size + 1, 5, none⟩ = some o5 := by
  have hb := hE.blk0 (blkAlloc (blkNew w (.cells #[a, b, c, d] 42)) _)
  have hc := hE.blk0 (blkNewG (w.alloc (.cells #[a, b, c, d] 42)) (.cells #[o0, o1, o2, o3, o4, o5] 35) (g := w.heap.size + 1) (by simp))
  exact ⟨(blkCell hb 0).trans rfl, (blkCell hb 1).trans rfl, (blkCell hb 2).trans rfl, (blkCell hb 3).trans rfl, (blkCell hc 1).trans rfl, (blkCell hc 2).trans rfl, (blkCell hc 3).trans rfl, (blkCell hc 4).trans rfl, (blkCell hc 5).trans rfl⟩
set_option maxRecDepth 100000 in
set_option maxHeartbeats 20000000 in
theorem shows_calls (w : World) (g l s h c : Nat) (A : Option Addr) (L : List Bool) (kd lf sp a b : Int) (key : Nat) (hkey : key ≤ 18446744073709551615) (k : IsNet w g l s h L) (r : RN w l s h A L) :
    Calls Try.prog 15 #[.pointer (some ⟨g, 0, none⟩), .agg (nG l s h A L.length c), .agg #[.int .u8 kd, .int .i64 lf, .int .i64 sp, .int .i64 a, .int .i64 b, .int .u64 key]] w fun e w' => e = .returned (.bool true) ∧ Ext N0 w w' := by
  have HE0 : Hid (Ext N0 w ((w.alloc (.cells (nG l s h A L.length c) 42)).alloc (.cells #[.int .u8 kd, .int .i64 lf, .int .i64 sp, .int .i64 a, .int .i64 b, .int .u64 key] 35))) := Lib.hid (((Ext.refl _ _).alloc _).alloc _)
  have C18 := Lib.hid (fun W (hE : Ext N0 w W) => leaf_calls W g l s h L a (k.kept0 hE))
  have C25 := Lib.hid (fun (W : World) => rleaf_calls W l s h L.length c A a k.lb k.hb)
  have C26 := Lib.hid (fun W (hE : Ext N0 w W) => pick_calls W g l s h L a b key hkey (k.kept0 hE))
  have C27 := Lib.hid (fun W (hE : Ext N0 w W) => rpick_calls W l s h c A L a b key hkey (r.kept0 hE))
  have C7 : Hid (∀ W, Ext N0 w W → Calls Try.prog 7 #[.pointer (some ⟨g, 0, none⟩), .int .i64 a, .int .i64 b] W fun e w' => ∃ A' c', e = .returned (.slice A' (psV L l s h a b).length c') ∧ Reads w' A' (iv (psV L l s h a b)) ∧ Ext N0 W w') := Lib.hid (fun W hE => (paths_calls W g l s h L a b (k.kept0 hE)).mono (by rintro e w' ⟨A', c', h1, h2, h3⟩; exact ⟨A', c', h1, ownReads1 h2, h3⟩))
  have C28 : Hid (∀ W, Ext N0 w W → Calls Try.prog 28 #[.agg (nG l s h A L.length c), .int .i64 a, .int .i64 b] W fun e w' => ∃ A' c', e = .returned (.slice A' (psV L l s h a b).length c') ∧ Reads w' A' (iv (psV L l s h a b)) ∧ Ext N0 W w') := Lib.hid (fun W hE => (rpaths_calls W l s h c A L a b (r.kept0 hE)).mono (by rintro e w' ⟨A', c', h1, h2, h3⟩; exact ⟨A', c', h1, ownReads1 h2, h3⟩))
  have C11 := Lib.hid (fun W A1 A2 c1 c2 h1 h2 => same_yes (psV L l s h a b) A1 A2 c1 c2 W h1 h2)
  have C29 := Lib.hid (fun W (hE : Ext N0 w W) => rhops_calls W l s h c A L a b (r.kept0 hE))
  have C9 := Lib.hid (fun W (hE : Ext N0 w W) => hops_calls W g l s h L a b (k.kept0 hE))
  have C17 := Lib.hid (fun W (hE : Ext N0 w W) => joined_calls W g l s h L a b (k.kept0 hE))
  have C19 := Lib.hid (fun W (hE : Ext N0 w W) => works_calls W g l s h L lf sp (k.kept0 hE))
  have C24 := Lib.hid (fun W (hE : Ext N0 w W) => rworks_calls W l s h c A L lf sp (r.kept0 hE))
  have C12 := Lib.hid (fun W (hE : Ext N0 w W) => parts_calls W g l s h L (k.kept0 hE))
  have C30 := Lib.hid (fun W (hE : Ext N0 w W) => rparts_calls W l s h c A L (r.kept0 hE))
  have C31 := Lib.hid (fun W (hE : Ext N0 w W) => hosts_calls W g l s h L (k.kept0 hE))
  have hlh := mulIn k.lb.2 k.hb.2
  obtain ⟨n, hn⟩ : ∃ n, L.length = n := ⟨_, rfl⟩
  rw [hn] at HE0 C25 C27 C28 C29 C24 C30 ⊢
  have HBx := Lib.hid (fun W (hE : Ext N0 ((w.alloc (.cells (nG l s h A n c) 42)).alloc (.cells #[.int .u8 kd, .int .i64 lf, .int .i64 sp, .int .i64 a, .int .i64 b, .int .u64 key] 35)) W) => boxes w (.int .i64 l) (.int .i64 s) (.int .i64 h) (.slice A n c) (.int .u8 kd) (.int .i64 lf) (.int .i64 sp) (.int .i64 a) (.int .i64 b) (.int .u64 key) hE)
  obtain ⟨ps, hps⟩ : ∃ ps, psV L l s h a b = ps := ⟨_, rfl⟩
  simp only [hps] at C26 C27 C7 C28 C11
  obtain ⟨pv, hpv⟩ : ∃ pv, pkV ps key = pv := ⟨_, rfl⟩
  obtain ⟨pb, hpb⟩ : ∃ pb, pkB ps = pb := ⟨_, rfl⟩
  simp only [hpv, hpb] at C26 C27
  obtain ⟨x, hx⟩ : ∃ x, lfV l h a = x := ⟨_, rfl⟩
  obtain ⟨xb, hxb⟩ : ∃ xb, lfB l h a = xb := ⟨_, rfl⟩
  simp only [hx, hxb] at C18 C25
  obtain ⟨H, hH⟩ : ∃ H, hopsV L l s h a b = H := ⟨_, rfl⟩
  simp only [hH] at C29 C9 C17
  obtain ⟨jb, hjb⟩ : ∃ jb, decide (0 ≤ H) = jb := ⟨_, rfl⟩
  simp only [hjb] at C17
  obtain ⟨wv, hwv⟩ : ∃ wv, wk L l s lf sp = wv := ⟨_, rfl⟩
  simp only [hwv] at C19 C24
  obtain ⟨pn, hpn⟩ : ∃ pn, (pS s L l).1 = pn := ⟨_, rfl⟩
  simp only [hpn] at C12 C30
  obtain ⟨lh, hlh2⟩ : ∃ lh, l * h = lh := ⟨_, rfl⟩
  have hlh' : (l : Int) * (h : Int) = (lh : Int) := by rw [← hlh2, Int.natCast_mul]
  simp only [hlh2] at C31
  rw [hlh2] at hlh
  have hwlh : IntKind.i64.wrap (lh : Int) = (lh : Int) := IntWalk.i64_in _ (by omega)
  obtain ⟨np, hnp⟩ : ∃ np, ps.length = np := ⟨_, rfl⟩
  simp only [hnp] at C7 C28 C11
  clear k r hn hps hpv hpb hx hxb hH hwv hpn hlh2 hkey hnp
  go_enter Try.func15, Try.ntmps15
  go_upto_region 1 with fail
  obtain ⟨w1, hw1⟩ : ∃ w1, (w.alloc (.cells (nG l s h A n c) 42)).alloc (.cells #[.int .u8 kd, .int .i64 lf, .int .i64 sp, .int .i64 a, .int .i64 b, .int .u64 key] 35) = w1 := ⟨_, rfl⟩
  rw [hw1] at HE0 HBx
  simp only [hw1]
  obtain ⟨b5, hb5⟩ : ∃ b5, w.heap.size + 1 = b5 := ⟨_, rfl⟩
  simp only [hb5] at HBx ⊢
  obtain ⟨b4, hb4⟩ : ∃ b4, w.heap.size = b4 := ⟨_, rfl⟩
  simp only [hb4] at HBx ⊢
  clear hw1 hb5 hb4
  have X0 := Lib.hid (Ext.refl N0 w1)
  obtain ⟨d0, d1, d2, d3, o1, o2, o3, o4, o5⟩ := HBx.out w1 X0.out
  go_upto_region 5 with (first
    | (have hx := X3; clear hx; go_at_call 27; refine (C27.out _ (HE0.out.then0 X3.out)).mono ?_; rintro e w5 ⟨rfl, hE⟩; have X4 := Lib.hid (X3.out.then0 hE); clear d0 d1 d2 d3 o1 o2 o3 o4 o5; obtain ⟨d0, d1, d2, d3, o1, o2, o3, o4, o5⟩ := HBx.out _ X4.out; clear hE)
    | (have hx := X2; clear hx; go_at_call 26; refine (C26.out _ (HE0.out.then0 X2.out)).mono ?_; rintro e w4 ⟨rfl, hE⟩; have X3 := Lib.hid (X2.out.then0 hE); clear d0 d1 d2 d3 o1 o2 o3 o4 o5; obtain ⟨d0, d1, d2, d3, o1, o2, o3, o4, o5⟩ := HBx.out _ X3.out; clear hE)
    | (have hx := X1; clear hx; go_at_call 25; refine (C25.out _).mono ?_; rintro e w3 ⟨rfl, hE⟩; have X2 := Lib.hid (X1.out.then0 hE); clear d0 d1 d2 d3 o1 o2 o3 o4 o5; obtain ⟨d0, d1, d2, d3, o1, o2, o3, o4, o5⟩ := HBx.out _ X2.out; clear hE)
    | (go_at_call 18; refine (C18.out _ (HE0.out.then0 X0.out)).mono ?_; rintro e w2 ⟨rfl, hE⟩; have X1 := Lib.hid (X0.out.then0 hE); clear d0 d1 d2 d3 o1 o2 o3 o4 o5; obtain ⟨d0, d1, d2, d3, o1, o2, o3, o4, o5⟩ := HBx.out _ X1.out; clear hE))
  clear X0 X1 X2 X3 C18 C25 C26 C27
  go_cut [85] (fun s85 wx => s85 = .bool false ∧ Hid (Ext N0 w1 wx))
  case first =>
    have HD : Hid (Ext N0 w1 w5.drew) := Lib.hid X4.out.drew
    clear C29 C9 C17 C19 C24 C12 C30 C31
    go_region_held3 (fun w' => w'.cell? ⟨b4, 0, none⟩ = some (.int .i64 l) ∧ w'.cell? ⟨b4, 1, none⟩ = some (.int .i64 s) ∧ w'.cell? ⟨b4, 2, none⟩ = some (.int .i64 h) ∧ w'.cell? ⟨b4, 3, none⟩ = some (.slice A n c) ∧ w'.cell? ⟨b5, 1, none⟩ = some (.int .i64 lf) ∧ w'.cell? ⟨b5, 2, none⟩ = some (.int .i64 sp) ∧ w'.cell? ⟨b5, 3, none⟩ = some (.int .i64 a) ∧ w'.cell? ⟨b5, 4, none⟩ = some (.int .i64 b) ∧ w'.cell? ⟨b5, 5, none⟩ = some (.int .u64 key)) (first | go_keep | exact held9 hE3 (by assumption) | exact held9 hE2 (by assumption) | exact held9 hE1 (by assumption)) (first
      | (have hx := Y2; clear hx; go_at_call 11; refine (C11.out _ _ _ _ _ R1.out R2.out).mono ?_; rintro e w8 ⟨rfl, hE3⟩; have Y3 := Lib.hid (Y2.out.then0 hE3))
      | (have hx := Y1; clear hx; go_at_call 28; refine (C28.out _ (HE0.out.then0 Y1.out)).mono ?_; rintro e w7 ⟨A7, c7, rfl, hr, hE2⟩; have Y2 := Lib.hid (Y1.out.then0 hE2); have R1 := Lib.hid (R0.out.mono0 hE2); have R2 := Lib.hid hr; clear hr)
      | (go_at_call 7; refine (C7.out _ (HE0.out.then0 HD.out)).mono ?_; rintro e w6 ⟨A6, c6, rfl, hr, hE1⟩; have Y1 := Lib.hid (HD.out.then0 hE1); have R0 := Lib.hid hr; clear hr))
    all_goals
      go_wp2_with fail
      go_meet
      case rel => exact ⟨rfl, Y3⟩
  case rest =>
    clear X4 C7 C28 C11
    clear d0 d1 d2 d3 o1 o2 o3 o4 o5
    obtain ⟨rfl, X5⟩ := hcut
    obtain ⟨d0, d1, d2, d3, o1, o2, o3, o4, o5⟩ := HBx.out _ X5.out
    go_upto_region 8 with (go_at_call 29; refine (C29.out _ (HE0.out.then0 X5.out)).mono ?_; rintro e w6 ⟨rfl, hE⟩; have X6 := Lib.hid (X5.out.then0 hE); clear d0 d1 d2 d3 o1 o2 o3 o4 o5; obtain ⟨d0, d1, d2, d3, o1, o2, o3, o4, o5⟩ := HBx.out _ X6.out; clear hE)
    clear X5 C29
    have HD : Hid (Ext N0 w1 w6.drew) := Lib.hid X6.out.drew
    go_region_held3 (fun w' => w'.cell? ⟨b4, 0, none⟩ = some (.int .i64 l) ∧ w'.cell? ⟨b4, 1, none⟩ = some (.int .i64 s) ∧ w'.cell? ⟨b4, 2, none⟩ = some (.int .i64 h) ∧ w'.cell? ⟨b4, 3, none⟩ = some (.slice A n c) ∧ w'.cell? ⟨b5, 1, none⟩ = some (.int .i64 lf) ∧ w'.cell? ⟨b5, 2, none⟩ = some (.int .i64 sp) ∧ w'.cell? ⟨b5, 3, none⟩ = some (.int .i64 a) ∧ w'.cell? ⟨b5, 4, none⟩ = some (.int .i64 b) ∧ w'.cell? ⟨b5, 5, none⟩ = some (.int .u64 key)) (first | go_keep | exact held9 hE7 (by assumption) | exact held9 hE6 (by assumption) | exact held9 hE5 (by assumption) | exact held9 hE4 (by assumption) | exact held9 hE2 (by assumption) | exact held9 hE1 (by assumption)) (first
      | (have hx := Y6; clear hx; go_at_call 31; refine (C31.out _ (HE0.out.then0 Y6.out)).mono ?_; rintro e w13 ⟨rfl, hE7⟩; have Y7 := Lib.hid (Y6.out.then0 hE7))
      | (have hx := Y5; clear hx; go_at_call 30; refine (C30.out _ (HE0.out.then0 Y5.out)).mono ?_; rintro e w12 ⟨rfl, hE6⟩; have Y6 := Lib.hid (Y5.out.then0 hE6))
      | (have hx := Y4; clear hx; go_at_call 12; refine (C12.out _ (HE0.out.then0 Y4.out)).mono ?_; rintro e w11 ⟨rfl, hE5⟩; have Y5 := Lib.hid (Y4.out.then0 hE5))
      | (have hx := Y2; clear hx; go_at_call 24; refine (C24.out _ (HE0.out.then0 Y2.out)).mono ?_; rintro e w10 ⟨rfl, hE4⟩; have Y4 := Lib.hid (Y2.out.then0 hE4))
      | (have hx := Y2; clear hx; go_at_call 19; refine (C19.out _ (HE0.out.then0 Y2.out)).mono ?_; rintro e w9 ⟨rfl, hww⟩; subst hww)
      | (have hx := Y1; clear hx; go_at_call 17; refine (C17.out _ (HE0.out.then0 Y1.out)).mono ?_; rintro e w8 ⟨rfl, hE2⟩; have Y2 := Lib.hid (Y1.out.then0 hE2))
      | (go_at_call 9; refine (C9.out _ (HE0.out.then0 HD.out)).mono ?_; rintro e w7 ⟨rfl, hE1⟩; have Y1 := Lib.hid (HD.out.then0 hE1)))
    all_goals
      go_wp2
      go_ret
      exact ⟨rfl, HE0.out.then0 Y7.out⟩
end Go.Proofs.Ytjnfapkjmgilcaa
