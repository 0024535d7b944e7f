/- The document's answer for package leaf: Paths, Pick; the package's Pick (the conditions stand in the statements). -/
import Derived.Test.YtjnfapkjmgilcaaE4
namespace Go.Proofs.Ytjnfapkjmgilcaa
open Go.RowKit
set_option maxHeartbeats 8000000 in
theorem rpaths_calls (w : World) (l s h c : Nat) (A : Option Addr) (L : List Bool) (a b : Int) (k : RN w l s h A L) : Calls Try.prog 28 #[.agg (nG l s h A L.length c), .int .i64 a, .int .i64 b] w fun e w' => ∃ A' c', e = .returned (.slice A' (psV L l s h a b).length c') ∧ w'.ownsRow w.heap.size 3 1 (.slice A' (psV L l s h a b).length c') (psV L l s h a b).length (iv (psV L l s h a b)) ∧ Ext N0 w w' := by
  have hs16 := k.sb.2
  have HE0 : Hid (Ext N0 w (w.alloc (.cells (nG l s h A L.length c) 42))) := Lib.hid ((Ext.refl _ _).alloc _)
  have HL1 := Lib.hid (fun W => rleaf_calls W l s h L.length c A a k.lb k.hb)
  have HL2 := Lib.hid (fun W => rleaf_calls W l s h L.length c A b k.lb k.hb)
  have HW := Lib.hid (fun W x z (hE : Ext N0 w W) => rworks_calls W l s h c A L x z (k.kept0 hE))
  obtain ⟨n, hn⟩ : ∃ n, L.length = n := ⟨_, rfl⟩
  rw [hn] at HE0 HL1 HL2 HW ⊢
  have HBx := Lib.hid (fun W (hE : Ext N0 (w.alloc (.cells (nG l s h A n c) 42)) W) => box4 w (.int .i64 l) (.int .i64 s) (.int .i64 h) (.slice A n c) hE)
  by_cases hc : (lfB l h a && lfB l h b && decide (lfV l h a ≠ lfV l h b)) = true
  · have hx : lfB l h a = true := by simp only [Bool.and_eq_true] at hc; exact hc.1.1
    have hy : lfB l h b = true := by simp only [Bool.and_eq_true] at hc; exact hc.1.2
    have hne : lfV l h a ≠ lfV l h b := by simp only [Bool.and_eq_true] at hc; exact of_decide_eq_true hc.2
    have HLx := Lib.hid (lfV_lt hx)
    have HLy := Lib.hid (lfV_lt hy)
    unfold psV
    rw [if_pos hc]
    simp only [hx] at HL1
    simp only [hy] at HL2
    obtain ⟨x, hx2⟩ : ∃ x, lfV l h a = x := ⟨_, rfl⟩
    obtain ⟨y, hy2⟩ : ∃ y, lfV l h b = y := ⟨_, rfl⟩
    simp only [hx2] at HL1
    simp only [hy2] at HL2
    rw [hx2] at HLx hne
    rw [hy2] at HLy hne
    rw [hx2, hy2]
    have hne' : ¬ (x : Int) = y := by omega
    have hne2 : ((x : Int) == (y : Int)) = false := beq_eq_false_iff_ne.2 hne'
    obtain ⟨p, hp⟩ : ∃ p : Nat → Bool, (fun k => lk L s x k && lk L s y k) = p := ⟨_, rfl⟩
    have HP := Lib.hid (fun k : Nat => show (lk L s x k && lk L s y k) = p k by rw [← hp])
    rw [hp]
    clear k hc hx hy hne hx2 hy2 hp hn
    go_enter Try.func28, Try.ntmps28
    go_wp2_with fail
    obtain ⟨w1, hw1⟩ : ∃ w1, w.alloc (.cells (nG l s h A n c) 42) = w1 := ⟨_, rfl⟩
    rw [hw1] at HE0 HBx
    simp only [hw1]
    obtain ⟨bb, hbb⟩ : ∃ bb, w.heap.size = bb := ⟨_, rfl⟩
    simp only [hbb] at HBx ⊢
    have HB := Lib.hid hbb
    clear hw1 hbb
    refine (HL1.out _).mono ?_
    rintro e w2 ⟨rfl, hE⟩
    have X1 := Lib.hid hE
    obtain ⟨d0, d1, d2, d3⟩ := HBx.out w2 hE
    clear hE
    go_wp2_with fail
    clear d0 d1 d2 d3
    refine (HL2.out _).mono ?_
    rintro e w3 ⟨rfl, hE⟩
    have X2 := Lib.hid (X1.out.then0 hE)
    clear hE X1
    go_wp2_with fail
    go_loopw [11, 12] (fun v i wr => ∃ (j : Nat) (A' : Option Addr) (m c' : Nat), i = .int .i64 j ∧ v = .slice A' m c' ∧ j ≤ s ∧ m ≤ j ∧ Hid (wr.ownsRow w1.heap.size 3 1 (.slice A' m c') m (iv (pth p j)) ∧ (pth p j).length = m) ∧ Hid (Ext N0 w1 wr)) (fun _ i _ => s - (intOf i).toNat)
    case atStart => exact ⟨0, none, 0, 0, rfl, rfl, by omega, by omega, Lib.hid ⟨ownNil _ _ _ _, rfl⟩, X2⟩
    case round =>
      clear X2
      obtain ⟨j, A', m, c', rfl, rfl, hj, hnj, HO, HE⟩ := hrel
      obtain ⟨d0, d1, d2, d3⟩ := HBx.out wr HE.out
      by_cases hlt : j < s
      · have hlt' : (j : Int) < s := by omega
        have HW1 := Lib.hid (HW.out wr x j (HE0.out.then0 HE.out))
        have HW2 := Lib.hid (fun W (hE : Ext N0 wr W) => HW.out W y j ((HE0.out.then0 HE.out).then0 hE))
        rw [wk_in' HLx.out hlt] at HW1
        simp only [wk_in' HLy.out hlt] at HW2
        have HPs := Lib.hid (pth_succ p j)
        have hpj := HP.out j
        obtain ⟨b1, hb1⟩ : ∃ b1, lk L s x j = b1 := ⟨_, rfl⟩
        obtain ⟨b2, hb2⟩ : ∃ b2, lk L s y j = b2 := ⟨_, rfl⟩
        rw [hb1] at HW1 hpj
        simp only [hb2] at HW2
        rw [hb2] at hpj
        rw [← hpj] at HPs
        have HPl : Hid ((iv (pth p j)).length = m) := Lib.hid (by rw [iv_len]; exact HO.out.2)
        have hs : w1.heap.size ≤ wr.heap.size := HE.out.size
        clear hb1 hb2 hpj
        rcases b1 with _ | _
        · have HO2 : Hid (∀ W, Ext N0 wr W → W.ownsRow w1.heap.size 3 1 (.slice A' m c') m (iv (pth p (j + 1))) ∧ (pth p (j + 1)).length = m) := Lib.hid (fun W hE => by rw [HPs.out]; simpa using And.intro (ownKept0 HO.out.1 hE) HO.out.2)
          clear HPs HO
          go_wp2_with (go_at_call 24; refine HW1.out.mono ?_; rintro e w4 ⟨rfl, hE⟩; have X3 := Lib.hid hE; clear hE)
          clear d0 d1 d2 d3
          go_roundw
          case rel => exact ⟨j + 1, A', m, c', by go_num, rfl, by omega, by omega, Lib.hid (HO2.out _ X3.out), Lib.hid (HE.out.then0 X3.out)⟩
          case measure => simp only [intOf]; omega
        · rcases b2 with _ | _
          · have HO2 : Hid (∀ W, Ext N0 wr W → W.ownsRow w1.heap.size 3 1 (.slice A' m c') m (iv (pth p (j + 1))) ∧ (pth p (j + 1)).length = m) := Lib.hid (fun W hE => by rw [HPs.out]; simpa using And.intro (ownKept0 HO.out.1 hE) HO.out.2)
            clear HPs HO
            go_wp2_with (first
              | (have hx := X3; clear hx; go_at_call 24; refine (HW2.out _ X3.out).mono ?_; rintro e w5 ⟨rfl, hE⟩; have X4 := Lib.hid (X3.out.then0 hE); clear hE)
              | (go_at_call 24; refine HW1.out.mono ?_; rintro e w4 ⟨rfl, hE⟩; have X3 := Lib.hid hE; obtain ⟨e0, e1, e2, e3⟩ := HBx.out w4 (HE.out.then0 hE); clear hE))
            clear d0 d1 d2 d3 e0 e1 e2 e3
            go_roundw
            case rel => exact ⟨j + 1, A', m, c', by go_num, rfl, by omega, by omega, Lib.hid (HO2.out _ X4.out), Lib.hid (HE.out.then0 X4.out)⟩
            case measure => simp only [intOf]; omega
          · go_wp2_with (first
              | (have hx := X3; clear hx; go_at_call 24; refine (HW2.out _ X3.out).mono ?_; rintro e w5 ⟨rfl, hE⟩; have X4 := Lib.hid (X3.out.then0 hE); have hs5 : w1.heap.size ≤ w5.heap.size := Nat.le_trans hs X4.out.size; clear hE)
              | (go_at_call 24; refine HW1.out.mono ?_; rintro e w4 ⟨rfl, hE⟩; have X3 := Lib.hid hE; obtain ⟨e0, e1, e2, e3⟩ := HBx.out w4 (HE.out.then0 hE); clear hE)
              | (at_builtin; refine wpApp w1.heap.size (.tmp 52) (.tmp 54) 28 3 (.int .i64 0) 1 8 rfl rfl Try.underlying28 info3 rfl (by decide) (by decide) (.slice A' m c') m (iv (pth p j)) (some ⟨w5.heap.size, 0, none⟩) 1 1 [.int .i64 j] rfl rfl (ownKept0 HO.out.1 (X4.out.alloc _)) rfl (litReads w5 _ _ (by simp)) (by simp [Value.oneCell']) (by omega) (by simp; omega) ?_; intro A3 c3 w6 ho3 hE3 _; have HO3 := Lib.hid ho3; have HE3 := Lib.hid (((HE.out.then0 X4.out).alloc (.cells #[.int .i64 j] 3)).trans hE3 (fun x hx => .inr (ownBase HO.out.1 x hx).1)); clear ho3 hE3))
            clear d0 d1 d2 d3 e0 e1 e2 e3
            go_roundw
            case rel => exact ⟨j + 1, A3, m + 1, c3, by go_num, rfl, by omega, by omega, Lib.hid ⟨by rw [HPs.out, iv_app]; exact HO3.out, by rw [HPs.out, List.length_append, HO.out.2]; rfl⟩, HE3⟩
            case measure => simp only [intOf]; omega
      · have hlt' : ¬ (j : Int) < s := by omega
        obtain rfl : j = s := by omega
        go_wp2
        go_ret
        have h1 := HO.out
        exact ⟨A', c', retSl h1.2.symm, by rw [h1.2]; exact ownLe h1.1 HE0.out.size, HE0.out.then0 HE.out⟩
  · have hn2 : psV L l s h a b = [] := by unfold psV; rw [if_neg hc]
    rw [hn2]
    have hcs : lfB l h a = false ∨ (lfB l h a = true ∧ lfB l h b = false) ∨ (lfB l h a = true ∧ lfB l h b = true ∧ lfV l h a = lfV l h b) := by
      rcases h1 : lfB l h a with _ | _
      · exact .inl rfl
      · rcases h2 : lfB l h b with _ | _
        · exact .inr (.inl ⟨rfl, rfl⟩)
        · refine .inr (.inr ⟨rfl, rfl, ?_⟩)
          rw [h1, h2] at hc
          simpa using hc
    have hs1 : (0 : Int) < s := by have := k.sb.1; omega
    clear k hc hn2 hn HW
    obtain ⟨x, hx2⟩ : ∃ x, lfV l h a = x := ⟨_, rfl⟩
    obtain ⟨y, hy2⟩ : ∃ y, lfV l h b = y := ⟨_, rfl⟩
    obtain ⟨b1, hb1⟩ : ∃ b1, lfB l h a = b1 := ⟨_, rfl⟩
    obtain ⟨b2, hb2⟩ : ∃ b2, lfB l h b = b2 := ⟨_, rfl⟩
    simp only [hx2, hb1] at HL1
    simp only [hy2, hb2] at HL2
    rw [hx2, hy2, hb1, hb2] at hcs
    clear hx2 hy2 hb1 hb2
    rcases hcs with rfl | ⟨rfl, rfl⟩ | ⟨rfl, rfl, rfl⟩
    all_goals
      go_enter Try.func28, Try.ntmps28
      go_wp2_with fail
      obtain ⟨w1, hw1⟩ : ∃ w1, w.alloc (.cells (nG l s h A n c) 42) = w1 := ⟨_, rfl⟩
      rw [hw1] at HE0 HBx
      simp only [hw1]
      obtain ⟨bb, hbb⟩ : ∃ bb, w.heap.size = bb := ⟨_, rfl⟩
      simp only [hbb] at HBx ⊢
      clear hw1 hbb
      refine (HL1.out _).mono ?_
      rintro e w2 ⟨rfl, hE⟩
      have X1 := Lib.hid hE
      obtain ⟨d0, d1, d2, d3⟩ := HBx.out w2 hE
      clear hE
      go_wp2_with fail
      clear d0 d1 d2 d3
      refine (HL2.out _).mono ?_
      rintro e w3 ⟨rfl, hE⟩
      have X2 := Lib.hid (X1.out.then0 hE)
      clear hE X1
      go_wp2_with fail
      go_loopw [11, 12] (fun v i wr => v = .slice none 0 0 ∧ i = .int .i64 0 ∧ wr = w3) (fun _ _ _ => 0)
      case atStart => exact ⟨rfl, rfl, rfl⟩
      case round =>
        obtain ⟨rfl, rfl, hwr⟩ := hrel
        subst hwr
        obtain ⟨d0, d1, d2, d3⟩ := HBx.out _ X2.out
        go_wp2
        go_ret
        exact ⟨none, 0, rfl, ownNil _ _ _ _, HE0.out.then0 X2.out⟩
/-- One of the paths. -/
def pkV (ps : List Int) (key : Nat) : Int := ps.getD (key % ps.length) 0
end Go.Proofs.Ytjnfapkjmgilcaa
