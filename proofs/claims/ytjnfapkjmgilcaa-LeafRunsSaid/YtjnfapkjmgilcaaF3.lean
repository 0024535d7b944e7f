/- Both networks turned (the conditions stand in the statements). -/
import Derived.Test.YtjnfapkjmgilcaaE8
namespace Go.Proofs.Ytjnfapkjmgilcaa
open Go.RowKit
theorem turn_both (l s h n : Nat) (L : List Bool) (lf sp : Int) (tb : Bool) (hn : L.length = n) (hls : n = l * s) (hl : 1 ≤ l ∧ l ≤ 16) (hs : 1 ≤ s ∧ s ≤ 16) (hh : 1 ≤ h ∧ h ≤ 64) : ∃ (ob : Bool) (ov : Int) (L' : List Bool), L'.length = n ∧
    (tb = false → ∀ (W : World) (g : Nat), IsNet W g l s h L → Calls Try.prog 8 #[.pointer (some ⟨g, 0, none⟩), .int .i64 lf, .int .i64 sp] W fun e w' => e = .returned (.tuple #[.bool ob, .int .i64 ov]) ∧ IsNet w' g l s h L' ∧ Ext (At g) W w') ∧
    (tb = true → ∀ (W : World) (g : Nat), IsNet W g l s h L → Calls Try.prog 10 #[.pointer (some ⟨g, 0, none⟩), .int .i64 lf, .int .i64 sp] W fun e w' => e = .returned (.tuple #[.bool ob, .int .i64 ov]) ∧ IsNet w' g l s h L' ∧ Ext (At g) W w') ∧
    (∀ (W : World) (B : Nat) (A : Option Addr) (c : Nat), W.ownsRow B 4 1 (.slice A n c) n (bv L) → B ≤ W.heap.size → Calls Try.prog 14 #[.agg (nG l s h A n c), .int .i64 lf, .int .i64 sp, .bool tb] W fun e w' => ∃ A' c', e = .returned (.tuple #[.agg (nG l s h A' n c'), .bool ob, .int .i64 ov]) ∧ w'.ownsRow B 4 1 (.slice A' n c') n (bv L') ∧ Ext N0 W w') := by
  by_cases hin : inN l s lf sp = true
  · have hb := of_decide_eq_true hin
    obtain ⟨i, rfl⟩ : ∃ i : Nat, lf = i := ⟨lf.toNat, by omega⟩
    obtain ⟨j, rfl⟩ : ∃ j : Nat, sp = j := ⟨sp.toNat, by omega⟩
    have hi : i < l := by omega
    have hj : j < s := by omega
    refine ⟨lk L s i j != tb, 0, L.set (i * s + j) tb, by rw [List.length_set]; exact hn, ?_, ?_, fun W B A c ho hB => ?_⟩
    · rintro rfl W g k
      refine (fail_yes W g l s h L i j k hi hj).mono ?_
      rintro e w' ⟨rfl, h1, h2⟩
      exact ⟨by simp, h1, h2⟩
    · rintro rfl W g k
      refine (mend_yes W g l s h L i j k hi hj).mono ?_
      rintro e w' ⟨rfl, h1, h2⟩
      exact ⟨by simp, h1, h2⟩
    · have := rturn_yes W l s h c i j A L tb ⟨ownReads1 ho, hn.trans hls, hl, hs, hh⟩ hi hj
      rw [hn] at this
      refine this.mono ?_
      rintro e w' ⟨A', c', rfl, h1, h2⟩
      exact ⟨A', c', rfl, ownLe h1 hB, h2⟩
  · have hin : inN l s lf sp = false := by simpa using hin
    refine ⟨false, 5, L, hn, ?_, ?_, fun W B A c ho hB => ?_⟩
    · rintro _ W g k
      refine (fail_no W g l s h L lf sp k hin).mono ?_
      rintro e w' ⟨rfl, hw⟩
      subst hw
      exact ⟨rfl, k, Ext.refl _ _⟩
    · rintro _ W g k
      refine (mend_no W g l s h L lf sp k hin).mono ?_
      rintro e w' ⟨rfl, hw⟩
      subst hw
      exact ⟨rfl, k, Ext.refl _ _⟩
    · refine (rturn_no W l s h n c A lf sp tb hl hs hin).mono ?_
      rintro e w' ⟨rfl, hE⟩
      exact ⟨A, c, rfl, ownKept0 ho hE, hE⟩
end Go.Proofs.Ytjnfapkjmgilcaa
