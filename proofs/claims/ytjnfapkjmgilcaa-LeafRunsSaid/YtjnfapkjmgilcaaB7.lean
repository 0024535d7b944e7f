/- Package leaf: Hops, Joined (the conditions stand in the statements). -/
import Derived.Test.YtjnfapkjmgilcaaB4
import Derived.Test.YtjnfapkjmgilcaaB6
namespace Go.Proofs.Ytjnfapkjmgilcaa
open Go.RowKit
theorem run_ix (F : Nat → Int) (y : Nat) (hy : y < 16) (W : World) : (Instr.index 59 (agg16 F) (.int .i64 y)).run Try.prog W = .ok (.int .i64 (F y)) W := by
  rcases y with _ | _ | _ | _ | _ | _ | _ | _ | _ | _ | _ | _ | _ | _ | _ | _ | y
  all_goals first | omega | kernel_rfl
/-- How many links a way has. -/
def hopsV (L : List Bool) (l s h : Nat) (a b : Int) : Int := if (lfB l h a && lfB l h b) = true then (farS s L (lfV l h a) 33).1 (lfV l h b) else -1
theorem hops_calls (w : World) (g l s h : Nat) (L : List Bool) (a b : Int) (k : IsNet w g l s h L) : Calls Try.prog 9 #[.pointer (some ⟨g, 0, none⟩), .int .i64 a, .int .i64 b] w fun e w' => e = .returned (.int .i64 (hopsV L l s h a b)) ∧ Ext N0 w w' := by
  have HK := Lib.hid k
  have HL1 := Lib.hid (leaf_calls w g l s h L a k)
  have HL2 := Lib.hid (fun W (hE : Ext N0 w W) => leaf_calls W g l s h L b (k.kept0 hE))
  have hl16 := k.lb.2
  by_cases hc : (lfB l h a && lfB l h b) = true
  · have hx : lfB l h a = true := by rw [Bool.and_eq_true] at hc; exact hc.1
    have hy : lfB l h b = true := by rw [Bool.and_eq_true] at hc; exact hc.2
    unfold hopsV
    rw [if_pos hc]
    have hxl := lfV_lt hx
    have hyl := lfV_lt hy
    have HF := Lib.hid (fun W (hE : Ext N0 w W) => far_calls W g l s h L (lfV l h a) hxl (k.kept0 hE))
    rw [hx] at HL1
    rw [hy] at HL2
    obtain ⟨x, hx2⟩ : ∃ x, lfV l h a = x := ⟨_, rfl⟩
    obtain ⟨y, hy2⟩ : ∃ y, lfV l h b = y := ⟨_, rfl⟩
    rw [hx2] at HL1 HF
    rw [hy2] at HL2 hyl
    rw [hx2, hy2]
    obtain ⟨F, hF⟩ : ∃ F, (farS s L x 33).1 = F := ⟨_, rfl⟩
    rw [hF] at HF ⊢
    have hix := run_ix F y (by omega)
    clear k hc hx hy hxl hyl hx2 hy2 hF HK
    go_enter Try.func9, Try.ntmps9
    go_wp2_with fail
    refine HL1.out.mono ?_
    rintro e w1 ⟨rfl, hE1⟩
    have HE1 := Lib.hid hE1
    clear hE1 HL1
    go_wp2_with fail
    refine (HL2.out _ HE1.out).mono ?_
    rintro e w2 ⟨rfl, hE2⟩
    have HE2 := Lib.hid (HE1.out.then0 hE2)
    clear hE2 HL2 HE1
    go_wp2_with (go_at_call 21; refine (HF.out _ HE2.out).mono ?_; rintro e w3 ⟨rfl, hE3⟩; have HE3 := Lib.hid (HE2.out.then0 hE3); clear hE3)
    go_ret
    exact ⟨rfl, HE3.out⟩
  · unfold hopsV
    rw [if_neg hc]
    have hcs : lfB l h a = false ∨ (lfB l h a = true ∧ lfB l h b = false) := by
      rcases h1 : lfB l h a with _ | _
      · exact .inl rfl
      · rw [h1, Bool.true_and] at hc
        exact .inr ⟨rfl, by simpa using hc⟩
    obtain ⟨x, hx2⟩ : ∃ x, lfV l h a = x := ⟨_, rfl⟩
    obtain ⟨y, hy2⟩ : ∃ y, lfV l h b = y := ⟨_, rfl⟩
    rw [hx2] at HL1
    rw [hy2] at HL2
    obtain ⟨b2, hb2⟩ : ∃ b2, lfB l h b = b2 := ⟨_, rfl⟩
    rw [hb2] at HL2 hcs
    clear k hc hx2 hy2 HK hb2
    rcases hcs with h1 | ⟨h1, h2⟩
    all_goals
      rw [h1] at HL1
      try subst h2
      clear h1
      go_enter Try.func9, Try.ntmps9
      go_wp2_with fail
      refine HL1.out.mono ?_
      rintro e w1 ⟨rfl, hE1⟩
      have HE1 := Lib.hid hE1
      clear hE1 HL1
      go_wp2_with fail
      refine (HL2.out _ HE1.out).mono ?_
      rintro e w2 ⟨rfl, hE2⟩
      have HE2 := Lib.hid (HE1.out.then0 hE2)
      clear hE2 HL2 HE1
      go_wp2
      go_ret
      exact ⟨rfl, HE2.out⟩
theorem joined_calls (w : World) (g l s h : Nat) (L : List Bool) (a b : Int) (k : IsNet w g l s h L) : Calls Try.prog 17 #[.pointer (some ⟨g, 0, none⟩), .int .i64 a, .int .i64 b] w fun e w' => e = .returned (.bool (decide (0 ≤ hopsV L l s h a b))) ∧ Ext N0 w w' := by
  have HH := Lib.hid (hops_calls w g l s h L a b k)
  obtain ⟨v, hv⟩ : ∃ v, hopsV L l s h a b = v := ⟨_, rfl⟩
  rw [hv] at HH ⊢
  clear k hv
  go_enter Try.func17, Try.ntmps17
  go_wp2_with (go_at_call 9; refine HH.out.mono ?_; rintro e w1 ⟨rfl, hE⟩; have HE := Lib.hid hE; clear hE)
  go_ret
  exact ⟨rfl, HE.out⟩
end Go.Proofs.Ytjnfapkjmgilcaa
