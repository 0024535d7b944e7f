/- The document's answer for package leaf: Hops, Parts (the conditions stand in the statements). -/
import Derived.Test.YtjnfapkjmgilcaaE3
namespace Go.Proofs.Ytjnfapkjmgilcaa
open Go.RowKit
set_option maxHeartbeats 4000000 in
theorem rhops_calls (w : World) (l s h c : Nat) (A : Option Addr) (L : List Bool) (a b : Int) (k : RN w l s h A L) : Calls Try.prog 29 #[.agg (nG l s h A L.length c), .int .i64 a, .int .i64 b] w fun e w' => e = .returned (.int .i64 (hopsV L l s h a b)) ∧ Ext N0 w w' := by
  have hl16 := k.lb.2
  have HE0 : Hid (Ext N0 w (w.alloc (.cells (nG l s h A L.length c) 42))) := Lib.hid ((Ext.refl _ _).alloc _)
  have HL1 := Lib.hid (fun W => rleaf_calls W l s h L.length c A a k.lb k.hb)
  have HL2 := Lib.hid (fun W => rleaf_calls W l s h L.length c A b k.lb k.hb)
  by_cases hc : (lfB l h a && lfB l h b) = true
  · have hx : lfB l h a = true := by rw [Bool.and_eq_true] at hc; exact hc.1
    have hy : lfB l h b = true := by rw [Bool.and_eq_true] at hc; exact hc.2
    have hxl := lfV_lt hx
    have hyl := lfV_lt hy
    have hd := hops_isD k.len hl16 hx hy
    have HF := Lib.hid (fun W (hE : Ext N0 w W) => rfar_calls W l s h c (lfV l h a) A L (k.kept0 hE) hxl)
    obtain ⟨r1, r2, r3, _⟩ := rS_isD (L := L) (s := s) (x := lfV l h a) hyl
    have hu := hd.uniq r1
    simp only [hx] at HL1
    simp only [hy] at HL2
    obtain ⟨x, hx2⟩ : ∃ x, lfV l h a = x := ⟨_, rfl⟩
    obtain ⟨y, hy2⟩ : ∃ y, lfV l h b = y := ⟨_, rfl⟩
    obtain ⟨H, hH⟩ : ∃ H, hopsV L l s h a b = H := ⟨_, rfl⟩
    obtain ⟨n, hn⟩ : ∃ n, L.length = n := ⟨_, rfl⟩
    rw [hn] at HE0 HL1 HL2 HF ⊢
    rw [hx2] at HF hu r2 r3
    rw [hy2] at hu hyl r2 r3
    simp only [hx2] at HL1
    simp only [hy2] at HL2
    rw [hH] at hu ⊢
    have HBx := Lib.hid (fun W (hE : Ext N0 (w.alloc (.cells (nG l s h A n c) 42)) W) => box4 w (.int .i64 l) (.int .i64 s) (.int .i64 h) (.slice A n c) hE)
    have HRow := Lib.hid (fun (W : World) (B d : Nat) (hr : IRow B W d l (rS L l s x l)) => hr.cell hyl)
    obtain ⟨v, hv⟩ : ∃ v, rS L l s x l y = v := ⟨_, rfl⟩
    rw [hv] at hu r2 r3
    simp only [hv] at HRow
    have hyl' : (y : Int) < l := by omega
    have HU := Lib.hid hu
    clear k hc hx hy hxl hyl hx2 hy2 hd r1 hu hH hn hv
    go_enter Try.func29, Try.ntmps29
    go_wp2_with fail
    obtain ⟨w1, hw1⟩ : ∃ w1, w.alloc (.cells (nG l s h A n c) 42) = w1 := ⟨_, rfl⟩
    rw [hw1] at HE0 HBx
    simp only [hw1]
    obtain ⟨bb, hbb⟩ : ∃ bb, w.heap.size = bb := ⟨_, rfl⟩
    simp only [hbb] at HBx ⊢
    clear hw1 hbb
    refine (HL1.out _).mono ?_
    rintro e w2 ⟨rfl, hE⟩
    have X1 := Lib.hid hE
    obtain ⟨d0, d1, d2, d3⟩ := HBx.out w2 hE
    clear hE
    go_wp2_with fail
    clear d0 d1 d2 d3
    refine (HL2.out _).mono ?_
    rintro e w3 ⟨rfl, hE⟩
    have X2 := Lib.hid (X1.out.then0 hE)
    obtain ⟨d0, d1, d2, d3⟩ := HBx.out w3 X2.out
    clear hE X1
    by_cases hv0 : v < 0
    · go_wp2_with (go_at_call 34; refine (HF.out _ (HE0.out.then0 X2.out)).mono ?_; rintro e w4 ⟨d, rfl, hr, hE⟩; have cy := HRow.out _ _ _ hr; have X3 := Lib.hid ((HE0.out.then0 X2.out).then0 hE); clear hE hr)
      go_ret
      exact ⟨retInt (by rw [HU.out, if_pos hv0]), X3.out⟩
    · have hm : IntKind.i64.wrap (2 * v) = 2 * v := IntWalk.i64_in _ (by omega)
      go_wp2_with (go_at_call 34; refine (HF.out _ (HE0.out.then0 X2.out)).mono ?_; rintro e w4 ⟨d, rfl, hr, hE⟩; have cy := HRow.out _ _ _ hr; have X3 := Lib.hid ((HE0.out.then0 X2.out).then0 hE); clear hE hr)
      go_ret
      exact ⟨retInt (by rw [HU.out, if_neg (by omega)]), X3.out⟩
  · have hcs : lfB l h a = false ∨ (lfB l h a = true ∧ lfB l h b = false) := by
      rcases h1 : lfB l h a with _ | _
      · exact .inl rfl
      · rw [h1, Bool.true_and] at hc
        exact .inr ⟨rfl, by simpa using hc⟩
    unfold hopsV
    rw [if_neg hc]
    obtain ⟨n, hn⟩ : ∃ n, L.length = n := ⟨_, rfl⟩
    rw [hn] at HE0 HL1 HL2 ⊢
    have HBx := Lib.hid (fun W (hE : Ext N0 (w.alloc (.cells (nG l s h A n c) 42)) W) => box4 w (.int .i64 l) (.int .i64 s) (.int .i64 h) (.slice A n c) hE)
    obtain ⟨x, hx2⟩ : ∃ x, lfV l h a = x := ⟨_, rfl⟩
    obtain ⟨y, hy2⟩ : ∃ y, lfV l h b = y := ⟨_, rfl⟩
    simp only [hx2] at HL1
    simp only [hy2] at HL2
    obtain ⟨b2, hb2⟩ : ∃ b2, lfB l h b = b2 := ⟨_, rfl⟩
    simp only [hb2] at HL2
    rw [hb2] at hcs
    clear k hc hx2 hy2 hb2 hn
    rcases hcs with h1 | ⟨h1, h2⟩
    all_goals
      simp only [h1] at HL1
      try subst h2
      clear h1
      go_enter Try.func29, Try.ntmps29
      go_wp2_with fail
      obtain ⟨w1, hw1⟩ : ∃ w1, w.alloc (.cells (nG l s h A n c) 42) = w1 := ⟨_, rfl⟩
      rw [hw1] at HE0 HBx
      simp only [hw1]
      obtain ⟨bb, hbb⟩ : ∃ bb, w.heap.size = bb := ⟨_, rfl⟩
      simp only [hbb] at HBx ⊢
      clear hw1 hbb
      refine (HL1.out _).mono ?_
      rintro e w2 ⟨rfl, hE⟩
      have X1 := Lib.hid hE
      obtain ⟨d0, d1, d2, d3⟩ := HBx.out w2 hE
      clear hE
      go_wp2_with fail
      clear d0 d1 d2 d3
      refine (HL2.out _).mono ?_
      rintro e w3 ⟨rfl, hE⟩
      have X2 := Lib.hid (X1.out.then0 hE)
      obtain ⟨d0, d1, d2, d3⟩ := HBx.out w3 X2.out
      clear hE X1
      go_wp2
      go_ret
      exact ⟨rfl, HE0.out.then0 X2.out⟩
set_option maxHeartbeats 4000000 in
theorem rparts_calls (w : World) (l s h c : Nat) (A : Option Addr) (L : List Bool) (k : RN w l s h A L) : Calls Try.prog 30 #[.agg (nG l s h A L.length c)] w fun e w' => e = .returned (.int .i64 (pS s L l).1) ∧ Ext N0 w w' := by
  have hl16 := k.lb.2
  have hpc := (parts_cnt k.len hl16 l (Nat.le_refl _)).1
  rw [hpc]
  have HE0 : Hid (Ext N0 w (w.alloc (.cells (nG l s h A L.length c) 42))) := Lib.hid ((Ext.refl _ _).alloc _)
  have HF := Lib.hid (fun W (x : Nat) (hx : x < l) (hE : Ext N0 w W) => rfar_calls W l s h c x A L (k.kept0 hE) hx)
  have HEr := Lib.hid (Ext.refl N0 (w.alloc (.cells (nG l s h A L.length c) 42)))
  obtain ⟨n, hn⟩ : ∃ n, L.length = n := ⟨_, rfl⟩
  rw [hn] at HE0 HF HEr ⊢
  have HBx := Lib.hid (fun W (hE : Ext N0 (w.alloc (.cells (nG l s h A n c) 42)) W) => box4 w (.int .i64 l) (.int .i64 s) (.int .i64 h) (.slice A n c) hE)
  clear k hpc hn
  go_enter Try.func30, Try.ntmps30
  go_wp2_with fail
  obtain ⟨w1, hw1⟩ : ∃ w1, w.alloc (.cells (nG l s h A n c) 42) = w1 := ⟨_, rfl⟩
  rw [hw1] at HE0 HBx HEr
  simp only [hw1]
  obtain ⟨bb, hbb⟩ : ∃ bb, w.heap.size = bb := ⟨_, rfl⟩
  simp only [hbb] at HBx ⊢
  clear hw1 hbb
  go_loopw [3, 4] (fun p v wr => ∃ i pn : Nat, v = .int .i64 i ∧ p = .int .i64 pn ∧ i ≤ l ∧ pn ≤ i ∧ Hid (pn = cntP L l s i) ∧ Hid (Ext N0 w1 wr)) (fun _ v _ => l - (intOf v).toNat)
  case atStart => exact ⟨0, 0, rfl, rfl, by omega, by omega, Lib.hid rfl, HEr⟩
  case round =>
    clear HEr
    obtain ⟨i, pn, rfl, rfl, hi, hpi, HPn, HE⟩ := hrel
    obtain ⟨d0, d1, d2, d3⟩ := HBx.out wr HE.out
    by_cases hlt : i < l
    · have hlt' : (i : Int) < l := by omega
      have HFi := Lib.hid (HF.out wr i hlt (HE0.out.then0 HE.out))
      have HC := Lib.hid (fun y (hy : y < l) => (rS_isD (L := L) (s := s) (x := i) hy).2.2.2)
      have HNx : Hid (∀ f : Bool, (f = true ↔ ∀ y, y < i → ¬ rch L l s i y) → cntP L l s (i + 1) = cntP L l s i + if f = true then 1 else 0) := Lib.hid (fun f hf => by
        conv => lhs; unfold cntP
        by_cases e : ∀ y, y < i → ¬ rch L l s i y
        · rw [if_pos e, if_pos (hf.2 e)]
        · rw [if_neg e, if_neg (fun h => e (hf.1 h))])
      obtain ⟨F, hF⟩ : ∃ F, rS L l s i l = F := ⟨_, rfl⟩
      rw [hF] at HFi
      simp only [hF] at HC
      clear hF
      go_wp2_with (go_at_call 34; refine HFi.out.mono ?_; rintro e w2 ⟨d, rfl, hr, hE⟩; have HR0 := Lib.hid (And.intro hr (HE.out.then0 hE)); clear hr hE)
      clear d0 d1 d2 d3 HE HFi
      obtain ⟨B, hB⟩ : ∃ B, wr.heap.size = B := ⟨_, rfl⟩
      rw [hB] at HR0
      clear hB
      go_loopw [6, 7] (fun f v wr => ∃ (j : Nat) (fb : Bool), v = .int .i64 j ∧ f = .bool fb ∧ j ≤ i ∧ Hid (fb = true ↔ ∀ y, y < j → F y < 0) ∧ Hid (IRow B wr d l F ∧ Ext N0 w1 wr)) (fun _ v _ => i - (intOf v).toNat)
      case atStart => exact ⟨0, true, rfl, rfl, by omega, Lib.hid ⟨fun _ y hy => by omega, fun _ => rfl⟩, HR0⟩
      case round =>
        clear HR0
        obtain ⟨j, fb, rfl, rfl, hj, HFb, HR⟩ := hrel
        by_cases hlt2 : j < i
        · have hlt2' : (j : Int) < i := by omega
          have hjl : (j : Int) < l := by omega
          have cj := HR.out.1.cell (i := j) (by omega)
          rcases fb with _ | _
          · have HF2 : Hid (false = true ↔ ∀ y, y < j + 1 → F y < 0) := Lib.hid ⟨fun h => (by cases h), fun h => HFb.out.2 (fun y hy => h y (by omega))⟩
            clear HFb
            go_wp2_with fail
            clear cj
            go_roundw
            case rel => exact ⟨j + 1, false, by go_num, rfl, by omega, HF2, HR⟩
            case measure => simp only [intOf]; omega
          · obtain ⟨v, hv⟩ : ∃ v, F j = v := ⟨_, rfl⟩
            rw [hv] at cj
            by_cases hv0 : v < 0
            · have HF2 : Hid (true = true ↔ ∀ y, y < j + 1 → F y < 0) := Lib.hid ⟨fun _ y hy => by
                by_cases e : y = j
                · rw [e, hv]; exact hv0
                · exact HFb.out.1 rfl y (by omega), fun _ => rfl⟩
              clear HFb hv
              go_wp2_with fail
              clear cj
              go_roundw
              case rel => exact ⟨j + 1, true, by go_num, by first | rfl | simp [hv0], by omega, HF2, HR⟩
              case measure => simp only [intOf]; omega
            · have HF2 : Hid (false = true ↔ ∀ y, y < j + 1 → F y < 0) := Lib.hid ⟨fun h => (by cases h), fun h => absurd (h j (by omega)) (by rw [hv]; exact hv0)⟩
              clear HFb hv
              go_wp2_with fail
              clear cj
              go_roundw
              case rel => exact ⟨j + 1, false, by go_num, by first | rfl | simp [hv0], by omega, HF2, HR⟩
              case measure => simp only [intOf]; omega
        · have hlt2' : ¬ (j : Int) < i := by omega
          obtain rfl : j = i := by omega
          have HNj := Lib.hid (HNx.out fb (HFb.out.trans ⟨fun h y hy => (HC.out y (by omega)).1 (h y hy), fun h y hy => (HC.out y (by omega)).2 (h y hy)⟩))
          rcases fb with _ | _
          · go_wp2_with fail
            go_roundw
            case rel => exact ⟨j + 1, pn, by go_num, rfl, by omega, by omega, Lib.hid (by rw [HNj.out, HPn.out]; simp), Lib.hid HR.out.2⟩
            case measure => simp only [intOf]; omega
          · go_wp2_with fail
            go_roundw
            case rel => exact ⟨j + 1, pn + 1, by go_num, by go_num, by omega, by omega, Lib.hid (by rw [HNj.out, HPn.out]; simp), Lib.hid HR.out.2⟩
            case measure => simp only [intOf]; omega
    · have hlt' : ¬ (i : Int) < l := by omega
      obtain rfl : i = l := by omega
      go_wp2
      go_ret
      exact ⟨retInt (by rw [← HPn.out]), HE0.out.then0 HE.out⟩
end Go.Proofs.Ytjnfapkjmgilcaa
