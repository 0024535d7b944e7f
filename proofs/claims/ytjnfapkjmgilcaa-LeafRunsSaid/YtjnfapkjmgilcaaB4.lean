/- Package leaf: Paths (the conditions stand in the statements). -/
import Derived.Test.YtjnfapkjmgilcaaB2
namespace Go.Proofs.Ytjnfapkjmgilcaa
open Go.RowKit
theorem info3 : (Try.prog.info? 3).map (fun i => (i.zero, i.size, i.bytes)) = some (some (.int .i64 0), 1, 8) := by kernel_rfl
def iv (l : List Int) : List Value := l.map (Value.int .i64)
theorem iv_len (l : List Int) : (iv l).length = l.length := by simp [iv]
theorem iv_get {l : List Int} {j : Nat} {y : Int} (h : l[j]? = some y) : (iv l)[j]? = some (.int .i64 y) := by simp [iv, h]
theorem iv_one (l : List Int) : ∀ u ∈ iv l, u.oneCell' = true := by
  intro u hu
  unfold iv at hu
  rw [List.mem_map] at hu
  obtain ⟨x, _, rfl⟩ := hu
  rfl
theorem iv_app (l m : List Int) : iv (l ++ m) = iv l ++ iv m := by simp [iv]
theorem own_is {a c n k : Nat} (h : (Value.slice (some ⟨a, 0, none⟩) n c).ownBlock = some k) : k = a := by
  simpa [Value.ownBlock] using h.symm
/-- The numbers up to k of which p is true. -/
def pth (p : Nat → Bool) (k : Nat) : List Int := ((List.range k).filter p).map (fun i : Nat => (i : Int))
theorem pth_succ (p : Nat → Bool) (k : Nat) : pth p (k + 1) = pth p k ++ (if p k = true then [(k : Int)] else []) := by
  unfold pth
  rw [List.range_succ, List.filter_append, List.map_append]
  congr 1
  by_cases h : p k = true
  · rw [if_pos h, List.filter_cons_of_pos h]
    rfl
  · rw [if_neg h, List.filter_cons_of_neg h]
    rfl
theorem pth_len (p : Nat → Bool) (k : Nat) : (pth p k).length ≤ k := by
  unfold pth
  rw [List.length_map]
  have := List.length_filter_le p (List.range k)
  rwa [List.length_range] at this
/-- The paths between two hosts. -/
def psV (L : List Bool) (l s h : Nat) (a b : Int) : List Int :=
  if (lfB l h a && lfB l h b && decide (lfV l h a ≠ lfV l h b)) = true then pth (fun k => lk L s (lfV l h a) k && lk L s (lfV l h b) k) s else []
theorem lfV_lt {l h : Nat} {a : Int} (hb : lfB l h a = true) : lfV l h a < l := by
  unfold lfV
  rw [if_pos hb]
  have hr := of_decide_eq_true hb
  have hh : 0 < h := by
    rcases Nat.eq_zero_or_pos h with e | e
    · rw [e, Nat.mul_zero] at hr; omega
    · exact e
  rw [Nat.div_lt_iff_lt_mul hh]
  omega
set_option maxHeartbeats 1000000 in
theorem paths_calls (w : World) (g l s h : Nat) (L : List Bool) (a b : Int) (k : IsNet w g l s h L) : Calls Try.prog 7 #[.pointer (some ⟨g, 0, none⟩), .int .i64 a, .int .i64 b] w fun e w' => ∃ A c, e = .returned (.slice A (psV L l s h a b).length c) ∧ w'.ownsRow w.heap.size 3 1 (.slice A (psV L l s h a b).length c) (psV L l s h a b).length (iv (psV L l s h a b)) ∧ Ext N0 w w' := by
  have HK := Lib.hid k
  have HL1 := Lib.hid (leaf_calls w g l s h L a k)
  have HL2 := Lib.hid (fun W (hE : Ext N0 w W) => leaf_calls W g l s h L b (k.kept0 hE))
  have hs16 := k.sb.2
  by_cases hc : (lfB l h a && lfB l h b && decide (lfV l h a ≠ lfV l h b)) = true
  · have hx : lfB l h a = true := by simp only [Bool.and_eq_true] at hc; exact hc.1.1
    have hy : lfB l h b = true := by simp only [Bool.and_eq_true] at hc; exact hc.1.2
    have hne : lfV l h a ≠ lfV l h b := by simp only [Bool.and_eq_true] at hc; exact of_decide_eq_true hc.2
    have HLx := Lib.hid (lfV_lt hx)
    have HLy := Lib.hid (lfV_lt hy)
    unfold psV
    rw [if_pos hc]
    rw [hx] at HL1
    rw [hy] at HL2
    obtain ⟨x, hx2⟩ : ∃ x, lfV l h a = x := ⟨_, rfl⟩
    obtain ⟨y, hy2⟩ : ∃ y, lfV l h b = y := ⟨_, rfl⟩
    rw [hx2] at HL1 HLx hne
    rw [hy2] at HL2 HLy hne
    rw [hx2, hy2]
    have hne' : ¬ (x : Int) = y := by omega
    have hne2 : ((x : Int) == (y : Int)) = false := beq_eq_false_iff_ne.2 hne'
    obtain ⟨p, hp⟩ : ∃ p : Nat → Bool, (fun k => lk L s x k && lk L s y k) = p := ⟨_, rfl⟩
    have HP := Lib.hid (fun k : Nat => show (lk L s x k && lk L s y k) = p k by rw [← hp])
    rw [hp]
    have HE0 := Lib.hid (Ext.refl N0 w)
    clear k hc hx hy hne hx2 hy2 hp
    go_enter Try.func7, Try.ntmps7
    go_wp2_with fail
    refine HL1.out.mono ?_
    rintro e w1 ⟨rfl, hE1⟩
    have HE1 := Lib.hid hE1
    clear hE1 HL1
    go_wp2_with fail
    refine (HL2.out _ HE1.out).mono ?_
    rintro e w2 ⟨rfl, hE2⟩
    have HE2 := Lib.hid (HE1.out.then0 hE2)
    obtain ⟨c0, c1, c2⟩ := (HK.out.kept0 HE2.out).cells
    clear hE2 HL2 HE1
    go_wp2_with fail
    clear c0 c1 c2
    go_loopw [11, 40] (fun v i wr => ∃ (j : Nat) (A : Option Addr) (n c : Nat), i = .int .i64 j ∧ v = .slice A n c ∧ j ≤ s ∧ n ≤ j ∧ Hid (wr.ownsRow w.heap.size 3 1 (.slice A n c) n (iv (pth p j)) ∧ (pth p j).length = n) ∧ Hid (Ext N0 w wr)) (fun _ i _ => s - (intOf i).toNat)
    case atStart => exact ⟨0, none, 0, 0, rfl, rfl, by omega, by omega, Lib.hid ⟨ownNil _ _ _ _, rfl⟩, HE2⟩
    case round =>
      clear HE2
      obtain ⟨j, A, n, c, rfl, rfl, hj, hnj, HO, HE⟩ := hrel
      by_cases hlt : j < s
      · have hlt' : (j : Int) < s := by omega
        have HW1 := Lib.hid (works_calls wr g l s h L x j (HK.out.kept0 HE.out))
        have HW2 := Lib.hid (works_calls wr g l s h L y j (HK.out.kept0 HE.out))
        rw [wk_in' HLx.out hlt] at HW1
        rw [wk_in' HLy.out hlt] at HW2
        have HPs := Lib.hid (pth_succ p j)
        have hpj := HP.out j
        obtain ⟨b1, hb1⟩ : ∃ b1, lk L s x j = b1 := ⟨_, rfl⟩
        obtain ⟨b2, hb2⟩ : ∃ b2, lk L s y j = b2 := ⟨_, rfl⟩
        rw [hb1] at HW1 hpj
        rw [hb2] at HW2 hpj
        rw [← hpj] at HPs
        have HPl : Hid ((iv (pth p j)).length = n) := Lib.hid (by rw [iv_len]; exact HO.out.2)
        have hs := HE.out.size
        clear hb1 hb2 hpj
        rcases b1 with _ | _
        · have HO2 : Hid (wr.ownsRow w.heap.size 3 1 (.slice A n c) n (iv (pth p (j + 1))) ∧ (pth p (j + 1)).length = n) := Lib.hid (by rw [HPs.out]; simpa using HO.out)
          clear HPs HO
          go_wp2_with (go_at_call 19; refine HW1.out.mono ?_; rintro e w3 ⟨rfl, hw⟩; subst w3)
          go_roundw
          case rel => exact ⟨j + 1, A, n, c, by go_num, rfl, by omega, by omega, HO2, HE⟩
          case measure => simp only [intOf]; omega
        · rcases b2 with _ | _
          · have HO2 : Hid (wr.ownsRow w.heap.size 3 1 (.slice A n c) n (iv (pth p (j + 1))) ∧ (pth p (j + 1)).length = n) := Lib.hid (by rw [HPs.out]; simpa using HO.out)
            clear HPs HO
            go_wp2_with (first | (have hx := X1; clear hx; go_at_call 19; refine HW2.out.mono ?_; rintro e w3 ⟨rfl, hw⟩; subst w3) | (go_at_call 19; refine HW1.out.mono ?_; rintro e w3 ⟨rfl, hw⟩; subst w3; have X1 := trivial))
            go_roundw
            case rel => exact ⟨j + 1, A, n, c, by go_num, rfl, by omega, by omega, HO2, HE⟩
            case measure => simp only [intOf]; omega
          · go_wp2_with (first | (have hx := X1; clear hx; go_at_call 19; refine HW2.out.mono ?_; rintro e w3 ⟨rfl, hw⟩; subst w3) | (go_at_call 19; refine HW1.out.mono ?_; rintro e w3 ⟨rfl, hw⟩; subst w3; have X1 := trivial) | (at_builtin; refine wpApp w.heap.size (.tmp 53) (.tmp 55) 28 3 (.int .i64 0) 1 8 rfl rfl Try.underlying28 info3 rfl (by decide) (by decide) (.slice A n c) n (iv (pth p j)) (some ⟨wr.heap.size, 0, none⟩) 1 1 [.int .i64 j] rfl rfl (ownKept0 HO.out.1 ((Ext.refl _ _).alloc _)) rfl (litReads wr _ _ (by simp)) (by simp [Value.oneCell']) (by omega) (by simp; omega) ?_; intro A3 c3 w3 ho3 hE3 _; have HO3 := Lib.hid ho3; have HE3 := Lib.hid ((HE.out.alloc (.cells #[.int .i64 j] 3)).trans hE3 (fun x hx => .inr (ownBase HO.out.1 x hx).1)); clear ho3 hE3))
            go_roundw
            case rel => exact ⟨j + 1, A3, n + 1, c3, by go_num, rfl, by omega, by omega, Lib.hid ⟨by rw [HPs.out, iv_app]; exact HO3.out, by rw [HPs.out, List.length_append, HO.out.2]; rfl⟩, HE3⟩
            case measure => simp only [intOf]; omega
      · have hlt' : ¬ (j : Int) < s := by omega
        obtain rfl : j = s := by omega
        go_wp2
        go_ret
        have h1 := HO.out
        exact ⟨A, c, retSl h1.2.symm, by rw [h1.2]; exact h1.1, HE.out⟩
  · have hn : psV L l s h a b = [] := by unfold psV; rw [if_neg hc]
    rw [hn]
    have hcs : lfB l h a = false ∨ (lfB l h a = true ∧ lfB l h b = false) ∨ (lfB l h a = true ∧ lfB l h b = true ∧ lfV l h a = lfV l h b) := by
      rcases h1 : lfB l h a with _ | _
      · exact .inl rfl
      · rcases h2 : lfB l h b with _ | _
        · exact .inr (.inl ⟨rfl, rfl⟩)
        · refine .inr (.inr ⟨rfl, rfl, ?_⟩)
          rw [h1, h2] at hc
          simpa using hc
    clear k hc hn
    obtain ⟨x, hx2⟩ : ∃ x, lfV l h a = x := ⟨_, rfl⟩
    obtain ⟨y, hy2⟩ : ∃ y, lfV l h b = y := ⟨_, rfl⟩
    rw [hx2] at HL1
    rw [hy2] at HL2
    rw [hx2, hy2] at hcs
    clear hx2 hy2
    rcases hcs with h1 | ⟨h1, h2⟩ | ⟨h1, h2, h3⟩
    all_goals
      rw [h1] at HL1
      try rw [h2] at HL2
      try subst h3
      clear h1
      try clear h2
      go_enter Try.func7, Try.ntmps7
      go_wp2_with fail
      refine HL1.out.mono ?_
      rintro e w1 ⟨rfl, hE1⟩
      have HE1 := Lib.hid hE1
      clear hE1 HL1
      go_wp2_with fail
      refine (HL2.out _ HE1.out).mono ?_
      rintro e w2 ⟨rfl, hE2⟩
      have HE2 := Lib.hid (HE1.out.then0 hE2)
      clear hE2 HL2 HE1
      go_wp2
      go_ret
      exact ⟨none, 0, rfl, ownNil _ _ _ _, HE2.out⟩
end Go.Proofs.Ytjnfapkjmgilcaa
