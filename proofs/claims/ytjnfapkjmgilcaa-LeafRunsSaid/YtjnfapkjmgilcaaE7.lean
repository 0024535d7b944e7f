/- The document's answer for package leaf: New, Turn (the conditions stand in the statements). -/
import Derived.Test.YtjnfapkjmgilcaaE5
import Derived.Deep.DeepCutAuto
namespace Go.Proofs.Ytjnfapkjmgilcaa
open Go.RowKit
theorem info4 : (Try.prog.info? 4).map (fun i => (i.zero, i.size, i.bytes)) = some (some (.bool false), 1, 1) := by kernel_rfl
theorem bv_app (l m : List Bool) : bv (l ++ m) = bv l ++ bv m := by simp [bv]
theorem bv_set (l : List Bool) (i : Nat) (y : Bool) : (bv l).set i (.bool y) = bv (l.set i y) := by simp [bv, List.map_set]
theorem rturn_no (w : World) (l s h n c : Nat) (A : Option Addr) (x y : Int) (b : Bool) (hl : 1 ≤ l ∧ l ≤ 16) (hs : 1 ≤ s ∧ s ≤ 16) (hin : inN l s x y = false) : Calls Try.prog 14 #[.agg (nG l s h A n c), .int .i64 x, .int .i64 y, .bool b] w fun e w' => e = .returned (.tuple #[.agg (nG l s h A n c), .bool false, .int .i64 5]) ∧ Ext N0 w w' := by
  have HE0 : Hid (∀ cs : Array Value, Ext N0 w ((w.alloc (.cells (nG l s h A n c) 42)).alloc (.cells cs 42))) := Lib.hid (fun cs => ((Ext.refl _ _).alloc _).alloc _)
  have HW1 := Lib.hid (fun W => within_calls W x 0 ((l : Int) - 1))
  have HW2 := Lib.hid (fun W => within_calls W y 0 ((s : Int) - 1))
  have wl : IntKind.i64.wrap ((l : Int) - 1) = (l : Int) - 1 := IntWalk.i64_in _ (by omega)
  have ws : IntKind.i64.wrap ((s : Int) - 1) = (s : Int) - 1 := IntWalk.i64_in _ (by omega)
  have hno := of_decide_eq_false hin
  have hcs : ¬ (0 ≤ x ∧ x ≤ (l : Int) - 1) ∨ ((0 ≤ x ∧ x ≤ (l : Int) - 1) ∧ ¬ (0 ≤ y ∧ y ≤ (s : Int) - 1)) := by omega
  clear hin hno
  rcases hcs with h1 | ⟨h1, h2⟩
  · simp only [decide_eq_false h1] at HW1
    clear h1
    go_enter Try.func14, Try.ntmps14
    go_wp2_with (go_at_call 23; refine (HW1.out _).mono ?_; rintro e w1 ⟨rfl, hw⟩; subst w1)
    exact bodyPost_ret (v := .tuple #[.agg (nG l s h A n c), .bool false, .int .i64 5]) (by simp [results, Try.results14, go_sem]) rfl ⟨rfl, HE0.out _⟩
  · simp only [decide_eq_true h1] at HW1
    simp only [decide_eq_false h2] at HW2
    clear h1 h2
    go_enter Try.func14, Try.ntmps14
    go_wp2_with (first | (have hx := X1; clear hx; go_at_call 23; refine (HW2.out _).mono ?_; rintro e w1 ⟨rfl, hw⟩; subst w1) | (go_at_call 23; refine (HW1.out _).mono ?_; rintro e w1 ⟨rfl, hw⟩; subst w1; have X1 := trivial))
    exact bodyPost_ret (v := .tuple #[.agg (nG l s h A n c), .bool false, .int .i64 5]) (by simp [results, Try.results14, go_sem]) rfl ⟨rfl, HE0.out _⟩
set_option maxHeartbeats 4000000 in
theorem rturn_yes (w : World) (l s h c i j : Nat) (A : Option Addr) (L : List Bool) (b : Bool) (k : RN w l s h A L) (hi : i < l) (hj : j < s) : Calls Try.prog 14 #[.agg (nG l s h A L.length c), .int .i64 i, .int .i64 j, .bool b] w fun e w' => ∃ A' c', e = .returned (.tuple #[.agg (nG l s h A' L.length c'), .bool (lk L s i j != b), .int .i64 0]) ∧ w'.ownsRow w.heap.size 4 1 (.slice A' L.length c') L.length (bv (L.set (i * s + j) b)) ∧ Ext N0 w w' := by
  have hl := k.lb
  have hs := k.sb
  have hp := posLt hi hj
  have hlen := k.len
  have hls : l * s ≤ 256 := Nat.mul_le_mul hl.2 hs.2
  have HK := Lib.hid k
  have HW1 := Lib.hid (fun W => within_calls W i 0 ((l : Int) - 1))
  have HW2 := Lib.hid (fun W => within_calls W j 0 ((s : Int) - 1))
  have wl : IntKind.i64.wrap ((l : Int) - 1) = (l : Int) - 1 := IntWalk.i64_in _ (by omega)
  have ws : IntKind.i64.wrap ((s : Int) - 1) = (s : Int) - 1 := IntWalk.i64_in _ (by omega)
  simp only [decide_eq_true (show 0 ≤ (i : Int) ∧ (i : Int) ≤ (l : Int) - 1 by omega)] at HW1
  simp only [decide_eq_true (show 0 ≤ (j : Int) ∧ (j : Int) ≤ (s : Int) - 1 by omega)] at HW2
  have HWk := Lib.hid (fun W (hE : Ext N0 w W) => rworks_calls W l s h c A L i j (k.kept0 hE))
  simp only [wk_in' hi hj] at HWk
  have hE1 : Ext N0 w ((w.alloc (.cells (nG l s h A L.length c) 42)).alloc (.cells #[.int .i64 0, .int .i64 0, .int .i64 0, .slice none 0 0] 42)) := ((Ext.refl _ _).alloc _).alloc _
  have HB1 := Lib.hid (blkAlloc (blkNew w (.cells (nG l s h A L.length c) 42)) (.cells #[.int .i64 0, .int .i64 0, .int .i64 0, .slice none 0 0] 42))
  have HB2 := Lib.hid (blkNewG (w.alloc (.cells (nG l s h A L.length c) 42)) (.cells #[.int .i64 0, .int .i64 0, .int .i64 0, .slice none 0 0] 42) (g := w.heap.size + 1) (by simp))
  have HE1 := Lib.hid hE1
  obtain ⟨was, hwas⟩ : ∃ was, lk L s i j = was := ⟨_, rfl⟩
  obtain ⟨n, hn⟩ : ∃ n, L.length = n := ⟨_, rfl⟩
  have HN := Lib.hid hn
  simp only [hwas] at HWk
  rw [hwas]
  rw [hn] at HWk HB1 HB2 HE1 hlen ⊢
  obtain ⟨m, hm⟩ : ∃ m, i * s = m := ⟨_, rfl⟩
  have hm' : (i : Int) * (s : Int) = (m : Int) := by rw [← hm, Int.natCast_mul]
  rw [hm] at hp ⊢
  obtain ⟨q, hq⟩ : ∃ q, m + j = q := ⟨_, rfl⟩
  have hq' : (m : Int) + (j : Int) = (q : Int) := by omega
  rw [hq] at hp ⊢
  have hqn : (q : Int) < n := by omega
  have hn256 : n ≤ 256 := by omega
  have hm256 : m ≤ 256 := by omega
  have hq256 : q ≤ 256 := by omega
  clear k hE1 hwas hn hm hq hlen hls hi hj
  go_enter Try.func14, Try.ntmps14
  go_upto_region 4 with (first
    | (go_at_call 24; refine (HWk.out _ HE1.out).mono ?_; rintro e w2 ⟨rfl, hE⟩; have X2 := Lib.hid hE; clear hE)
    | (have hx := X1; clear hx; go_at_call 23; refine (HW2.out _).mono ?_; rintro e w1 ⟨rfl, hw⟩; subst w1)
    | (go_at_call 23; refine (HW1.out _).mono ?_; rintro e w1 ⟨rfl, hw⟩; subst w1; have X1 := trivial))
  have HY1 := Lib.hid (X2.out.blk0 HB1.out)
  have HY2 := Lib.hid (X2.out.blk0 HB2.out)
  have HE2 := Lib.hid (HE1.out.then0 X2.out)
  clear HB1 HB2 HE1 X2 HWk HW1 HW2 X1
  obtain ⟨bb, hbb⟩ : ∃ bb, w.heap.size = bb := ⟨_, rfl⟩
  rw [hbb] at HY1 HY2
  have hbw : bb ≤ w2.heap.size := by have := HE2.out.size; omega
  simp only [hbb]
  have HBB := Lib.hid hbb
  clear hbb
  go_cut [] (fun wx => ∃ (g c' : Nat), Hid (wx.heap[bb]? = some (.cells (nG l s h (some ⟨g, 0, none⟩) n c') 42 (0, 0))) ∧ Hid (wx.heap[bb + 1]? = some (.cells #[.int .i64 0, .int .i64 0, .int .i64 0, .slice none 0 0] 42 (0, 0))) ∧ Hid (wx.ownsRow bb 4 1 (.slice (some ⟨g, 0, none⟩) n c') n (bv L)) ∧ Hid (Ext N0 w wx))
  case first =>
    have d3 : w2.cell? ⟨bb, 3, none⟩ = some (.slice A n c) := (blkCell HY1.out 3).trans rfl
    have d3' : (w2.alloc (.cells #[] 4)).cell? ⟨bb, 3, none⟩ = some (.slice A n c) := ((Ext.refl N0 w2).alloc (.cells #[] 4)).cell d3 (fun h => h)
    have hbl : (bv L).length = n * 1 := by rw [bv_len, HN.out, Nat.mul_one]
    have HBl := Lib.hid hbl
    clear hbl
    go_wp2_with (at_builtin; refine wpApp bb (.tmp 31) (.tmp 33) 40 4 (.bool false) 1 1 rfl rfl Try.underlying40 info4 rfl (by decide) (by decide) (.slice (some ⟨w2.heap.size, 0, none⟩) 0 0) 0 [] A n c (bv L) rfl rfl (ownLitG w2 bb 4 1 #[] 0 rfl (by omega) (by decide) rfl) HBl.out ((HK.out.kept0 HE2.out).rd.mono0 ((Ext.refl _ _).alloc _)) (bv_one L) (by omega) (by simp; omega) ?_; intro A3 c3 w3 ho3 hE3 _; have hX3 : Ext N0 w2 w3 := ((Ext.refl N0 w2).alloc (.cells #[] 4)).trans hE3 (fun y hy => .inr (by have := own_is hy; omega)); obtain ⟨g3, _, hv3, _, _⟩ := World.ownsRow.form ho3 (by omega); injection hv3 with hv3 hv4 hv5; subst hv3; clear hv4 hv5; have HO3 : Hid (w3.ownsRow bb 4 1 (.slice (some ⟨g3, 0, none⟩) n c3) n (bv L)) := Lib.hid (by simpa using ho3); have HX3 := Lib.hid hX3; have y3 := hX3.cell d3 (fun h => h); have yf := blkFrozen (hX3.blk0 HY1.out) 3; clear ho3 hE3 hX3)
    go_meet
    case rel =>
      have hb3 := HX3.out.blk0 HY1.out
      have hx : Ext (At bb) w3 (w3.setCell ⟨bb, 3, none⟩ (.slice (some ⟨g3, 0, none⟩) n c3)) := extSet _ _ _ _
      exact ⟨g3, c3, Lib.hid ((blkSet hb3 3 _).trans (by simp)), Lib.hid (hx.blk (HX3.out.blk0 HY2.out) (fun (e : bb + 1 = bb) => by omega)), Lib.hid (ownKept HO3.out hx (fun y hy (e : y = bb) => ownNeBlk HO3.out hb3 (by decide) y hy e)), Lib.hid ((HE2.out.then0 HX3.out).trans hx (fun y (hy : y = bb) => .inr (by rw [hy, ← HBB.out]; exact Nat.le_refl _)))⟩
  case rest =>
    clear HY1 HY2 HE2 hbw
    obtain ⟨g, c', HY1, HY2, HO, HE⟩ := hcut
    go_upto_region 5 with fail
    go_cut [] (fun wx => Hid (wx.heap[bb]? = some (.cells (nG l s h (some ⟨g, 0, none⟩) n c') 42 (0, 0))) ∧ Hid (wx.heap[bb + 1]? = some (.cells #[.int .i64 0, .int .i64 0, .int .i64 0, .slice none 0 0] 42 (0, 0))) ∧ Hid (wx.ownsRow bb 4 1 (.slice (some ⟨g, 0, none⟩) n c') n (bv (L.set q b))) ∧ Hid (Ext N0 w wx))
    case first =>
      have d1 : wc.cell? ⟨bb, 1, none⟩ = some (.int .i64 s) := (blkCell HY1.out 1).trans rfl
      have d3 : wc.cell? ⟨bb, 3, none⟩ = some (.slice (some ⟨g, 0, none⟩) n c') := (blkCell HY1.out 3).trans rfl
      have hgt : L[q]? = some (L.getD q false) := by rw [List.getD_eq_getElem?_getD, List.getElem?_eq_getElem (by rw [HN.out]; exact (by omega))]; rfl
      have cq : wc.cell? ⟨g, q, none⟩ = some (.bool (L.getD q false)) := (congrArg wc.cell? (addPlain g q)).symm.trans (World.ownsRow.cells (g := g) HO.out rfl q _ (bv_get hgt))
      have fq := World.ownsRow.frozenAt HO.out q
      have HSt := Lib.hid (World.ownsRow.stored HO.out q (.bool b)).1
      rw [bv_set] at HSt
      obtain ⟨ob, hob⟩ : ∃ ob, L.getD q false = ob := ⟨_, rfl⟩
      rw [hob] at cq
      clear hgt hob
      go_wp2_with fail
      go_meet
      case rel =>
        have hx : Ext (At g) wc (wc.setCell ⟨g, q, none⟩ (.bool b)) := extSet _ _ _ _
        exact ⟨Lib.hid (hx.blk HY1.out (fun (e : bb = g) => ownNeBlk HO.out HY1.out (by decide) g rfl e.symm)), Lib.hid (hx.blk HY2.out (fun (e : bb + 1 = g) => ownNeBlk HO.out HY2.out (by decide) g rfl e.symm)), HSt, Lib.hid (HE.out.trans hx (fun y (hy : y = g) => .inr (by rw [hy, HBB.out]; exact (ownBase HO.out g rfl).1)))⟩
    case rest =>
      clear HY1 HY2 HO HE
      obtain ⟨HY1, HY2, HO, HE⟩ := hcut
      have d0 : wc.cell? ⟨bb, 0, none⟩ = some (.int .i64 l) := (blkCell HY1.out 0).trans rfl
      have d1 : wc.cell? ⟨bb, 1, none⟩ = some (.int .i64 s) := (blkCell HY1.out 1).trans rfl
      have d2 : wc.cell? ⟨bb, 2, none⟩ = some (.int .i64 h) := (blkCell HY1.out 2).trans rfl
      have d3 : wc.cell? ⟨bb, 3, none⟩ = some (.slice (some ⟨g, 0, none⟩) n c') := (blkCell HY1.out 3).trans rfl
      have e0 : wc.cell? ⟨bb + 1, 0, none⟩ = some (.int .i64 0) := (blkCell HY2.out 0).trans rfl
      have e1 : wc.cell? ⟨bb + 1, 1, none⟩ = some (.int .i64 0) := (blkCell HY2.out 1).trans rfl
      have e2 : wc.cell? ⟨bb + 1, 2, none⟩ = some (.int .i64 0) := (blkCell HY2.out 2).trans rfl
      have e3 : wc.cell? ⟨bb + 1, 3, none⟩ = some (.slice none 0 0) := (blkCell HY2.out 3).trans rfl
      have f0 := blkFrozen HY2.out 0
      have f1 := blkFrozen HY2.out 1
      have f2 := blkFrozen HY2.out 2
      have f3 := blkFrozen HY2.out 3
      have hx : Ext (At (bb + 1)) wc ((((wc.setCell ⟨bb + 1, 0, none⟩ (.int .i64 l)).setCell ⟨bb + 1, 1, none⟩ (.int .i64 s)).setCell ⟨bb + 1, 2, none⟩ (.int .i64 h)).setCell ⟨bb + 1, 3, none⟩ (.slice (some ⟨g, 0, none⟩) n c')) := (((extSet _ _ _ _).same (extSet _ _ _ _)).same (extSet _ _ _ _)).same (extSet _ _ _ _)
      have HX := Lib.hid (And.intro (ownKept HO.out hx (fun y hy (e : y = bb + 1) => ownNeBlk HO.out HY2.out (by decide) y hy e)) (HE.out.trans hx (fun y (hy : y = bb + 1) => .inr (by rw [hy, ← HBB.out]; omega))))
      clear hx
      have hfin := blkSet (blkSet (blkSet (blkSet HY2.out 0 (.int .i64 l)) 1 (.int .i64 s)) 2 (.int .i64 h)) 3 (.slice (some ⟨g, 0, none⟩) n c')
      have HFin := Lib.hid hfin
      clear hfin
      go_wp2_with fail
      obtain ⟨W4, hW4⟩ : ∃ W4, (((wc.setCell ⟨bb + 1, 0, none⟩ (.int .i64 l)).setCell ⟨bb + 1, 1, none⟩ (.int .i64 s)).setCell ⟨bb + 1, 2, none⟩ (.int .i64 h)).setCell ⟨bb + 1, 3, none⟩ (.slice (some ⟨g, 0, none⟩) n c') = W4 := ⟨_, rfl⟩
      rw [hW4] at HX HFin
      simp only [hW4]
      clear hW4
      have r0 : W4.cell? ⟨bb + 1, 0, none⟩ = some (.int .i64 l) := (blkCell HFin.out 0).trans (by simp)
      have r1 : W4.cell? ⟨bb + 1, 1, none⟩ = some (.int .i64 s) := (blkCell HFin.out 1).trans (by simp)
      have r2 : W4.cell? ⟨bb + 1, 2, none⟩ = some (.int .i64 h) := (blkCell HFin.out 2).trans (by simp)
      have r3 : W4.cell? ⟨bb + 1, 3, none⟩ = some (.slice (some ⟨g, 0, none⟩) n c') := (blkCell HFin.out 3).trans (by simp)
      exact bodyPost_ret (v := .tuple #[.agg (nG l s h (some ⟨g, 0, none⟩) n c'), .bool (!(was == b)), .int .i64 0]) (by simp [results, Try.results14, go_sem, r0, r1, r2, r3]) rfl ⟨_, c', rfl, by rw [HBB.out]; exact HX.out.1, HX.out.2⟩
end Go.Proofs.Ytjnfapkjmgilcaa
