/- What 'far' reckons is the length of the shortest way. No program's walk in sight. -/
import Derived.Test.YtjnfapkjmgilcaaD1
namespace Go.Proofs.Ytjnfapkjmgilcaa
open Go.RowKit
open Classical
theorem ifIff {p q : Prop} [Decidable p] [Decidable q] {x y : Int} (h : p ↔ q) : (if p then x else y) = if q then x else y := by
  by_cases hq : q
  · rw [if_pos hq, if_pos (h.2 hq)]
  · rw [if_neg hq, if_neg (fun hp => hq (h.1 hp))]
section
variable {L : List Bool} {l s : Nat}
theorem exNext {a b k i : Nat} (hb : b < s) (hk : k = a * s + b) (P : Nat → Prop) : (∃ j, j < s ∧ i * s + j < k + 1 ∧ P j) ↔ (∃ j, j < s ∧ i * s + j < k ∧ P j) ∨ (i = a ∧ P b) := by
  constructor
  · rintro ⟨j, hj, h1, h2⟩
    by_cases e : i * s + j = k
    · obtain ⟨e1, e2⟩ := posInj hj hb (e.trans hk)
      subst e2
      exact .inr ⟨e1, h2⟩
    · exact .inl ⟨j, hj, by omega, h2⟩
  · rintro (⟨j, hj, h1, h2⟩ | ⟨rfl, h2⟩)
    · exact ⟨j, hj, by omega, h2⟩
    · exact ⟨b, hb, by omega, h2⟩
theorem exNext2 {a b k j : Nat} (hb : b < s) (hj : j < s) (ha : a < l) (hk : k = a * s + b) (P : Nat → Prop) : (∃ i, i < l ∧ i * s + j < k + 1 ∧ P i) ↔ (∃ i, i < l ∧ i * s + j < k ∧ P i) ∨ (j = b ∧ P a) := by
  constructor
  · rintro ⟨i, hi, h1, h2⟩
    by_cases e : i * s + j = k
    · obtain ⟨e1, e2⟩ := posInj hj hb (e.trans hk)
      subst e1
      exact .inr ⟨e2, h2⟩
    · exact .inl ⟨i, hi, by omega, h2⟩
  · rintro (⟨i, hi, h1, h2⟩ | ⟨rfl, h2⟩)
    · exact ⟨i, hi, by omega, h2⟩
    · exact ⟨a, ha, by omega, h2⟩
theorem passK_at (d : Nat) (st : FS) : ∀ k, k ≤ l * s →
    (∀ i, i < l → (passK s d L st k).1 i = if st.1 i < 0 ∧ ∃ j, j < s ∧ i * s + j < k ∧ lk L s i j = true ∧ st.2 j = d then (d : Int) + 1 else st.1 i) ∧
    (∀ j, j < s → (passK s d L st k).2 j = if st.2 j < 0 ∧ ∃ i, i < l ∧ i * s + j < k ∧ lk L s i j = true ∧ st.1 i = d then (d : Int) + 1 else st.2 j)
  | 0, _ => ⟨fun i _ => by rw [if_neg (by rintro ⟨_, j, _, h, _⟩; omega)]; rfl, fun j _ => by rw [if_neg (by rintro ⟨_, i, _, h, _⟩; omega)]; rfl⟩
  | k + 1, hk => by
    obtain ⟨h1, h2⟩ := passK_at d st k (by omega)
    have hs : 0 < s := by
      rcases Nat.eq_zero_or_pos s with e | e
      · rw [e, Nat.mul_zero] at hk; omega
      · exact e
    obtain ⟨a, ha'⟩ : ∃ a, k / s = a := ⟨_, rfl⟩
    obtain ⟨b, hb'⟩ : ∃ b, k % s = b := ⟨_, rfl⟩
    have hb : b < s := by rw [← hb']; exact Nat.mod_lt _ hs
    have ha : a < l := by rw [← ha', Nat.div_lt_iff_lt_mul hs]; omega
    have hkab : k = a * s + b := by
      have := Nat.div_add_mod k s
      rw [ha', hb', Nat.mul_comm] at this
      exact this.symm
    have hg : L.getD k false = lk L s a b := by rw [hkab]; rfl
    obtain ⟨cur, hcur⟩ : ∃ cur, passK s d L st k = cur := ⟨_, rfl⟩
    rw [hcur] at h1 h2
    have hn : passK s d L st (k + 1) = lStep s d L cur k := by rw [← hcur]; rfl
    rw [hn]
    unfold lStep
    rw [hg, ha', hb']
    have hA := h1 a ha
    have hB := h2 b hb
    have hAd : cur.1 a = d → st.1 a = d := fun h => by
      rw [hA] at h
      split at h
      · omega
      · exact h
    have hBn : cur.2 b < 0 → st.2 b < 0 := fun h => by
      rw [hB] at h
      split at h
      · omega
      · exact h
    have hBd : cur.2 b = d → st.2 b = d := fun h => by
      rw [hB] at h
      split at h
      · omega
      · exact h
    have hAn : cur.1 a < 0 → st.1 a < 0 := fun h => by
      rw [hA] at h
      split at h
      · omega
      · exact h
    have leaf0 : ∀ i, i < l → ¬ (i = a ∧ lk L s a b = true ∧ st.2 b = d ∧ st.1 a < 0 ∧ ¬ ∃ j, j < s ∧ a * s + j < k ∧ lk L s a j = true ∧ st.2 j = d) → cur.1 i = if st.1 i < 0 ∧ ∃ j, j < s ∧ i * s + j < k + 1 ∧ lk L s i j = true ∧ st.2 j = d then (d : Int) + 1 else st.1 i := fun i hi hno => by
      rw [h1 i hi]
      refine ifIff ?_
      rw [exNext hb hkab (fun j => lk L s i j = true ∧ st.2 j = d)]
      constructor
      · rintro ⟨p, q⟩
        exact ⟨p, .inl q⟩
      · rintro ⟨p, q | ⟨rfl, q⟩⟩
        · exact ⟨p, q⟩
        · refine ⟨p, ?_⟩
          rcases Classical.em (∃ j, j < s ∧ i * s + j < k ∧ lk L s i j = true ∧ st.2 j = d) with hE | hE
          · exact hE
          · exact absurd ⟨rfl, q.1, q.2, p, hE⟩ hno
    have spine0 : ∀ j, j < s → ¬ (j = b ∧ lk L s a b = true ∧ st.1 a = d ∧ st.2 b < 0 ∧ ¬ ∃ i, i < l ∧ i * s + b < k ∧ lk L s i b = true ∧ st.1 i = d) → cur.2 j = if st.2 j < 0 ∧ ∃ i, i < l ∧ i * s + j < k + 1 ∧ lk L s i j = true ∧ st.1 i = d then (d : Int) + 1 else st.2 j := fun j hj hno => by
      rw [h2 j hj]
      refine ifIff ?_
      rw [exNext2 hb hj ha hkab (fun i => lk L s i j = true ∧ st.1 i = d)]
      constructor
      · rintro ⟨p, q⟩
        exact ⟨p, .inl q⟩
      · rintro ⟨p, q | ⟨rfl, q⟩⟩
        · exact ⟨p, q⟩
        · refine ⟨p, ?_⟩
          rcases Classical.em (∃ i, i < l ∧ i * s + j < k ∧ lk L s i j = true ∧ st.1 i = d) with hE | hE
          · exact hE
          · exact absurd ⟨rfl, q.1, q.2, p, hE⟩ hno
    by_cases hp : lk L s a b = true
    · rw [if_pos hp]
      by_cases c1 : cur.1 a = d ∧ cur.2 b < 0
      · rw [if_pos c1]
        refine ⟨fun i hi => leaf0 i hi (fun h => by have := hAd c1.1; omega), fun j hj => ?_⟩
        show upd cur.2 b (d + 1) j = _
        unfold upd
        by_cases e : j = b
        · subst e
          rw [if_pos rfl, if_pos ⟨hBn c1.2, a, ha, by omega, hp, hAd c1.1⟩]
        · rw [if_neg e]
          exact spine0 j hj (fun h => e h.1)
      · rw [if_neg c1]
        have hsp : ∀ j, j < s → cur.2 j = if st.2 j < 0 ∧ ∃ i, i < l ∧ i * s + j < k + 1 ∧ lk L s i j = true ∧ st.1 i = d then (d : Int) + 1 else st.2 j := fun j hj => spine0 j hj (fun ⟨e, _, q1, q2, q3⟩ => c1 ⟨by rw [hA, if_neg (fun h => by omega)]; exact q1, by rw [hB, if_neg (fun h => q3 h.2)]; exact q2⟩)
        by_cases c2 : cur.2 b = d ∧ cur.1 a < 0
        · rw [if_pos c2]
          refine ⟨fun i hi => ?_, hsp⟩
          show upd cur.1 a (d + 1) i = _
          unfold upd
          by_cases e : i = a
          · subst e
            rw [if_pos rfl, if_pos ⟨hAn c2.2, b, hb, by omega, hp, hBd c2.1⟩]
          · rw [if_neg e]
            exact leaf0 i hi (fun h => e h.1)
        · rw [if_neg c2]
          exact ⟨fun i hi => leaf0 i hi (fun ⟨e, _, q1, q2, q3⟩ => c2 ⟨by rw [hB, if_neg (fun h => by omega)]; exact q1, by rw [hA, if_neg (fun h => q3 h.2)]; exact q2⟩), hsp⟩
    · rw [if_neg hp]
      exact ⟨fun i hi => leaf0 i hi (fun h => hp h.2.1), fun j hj => spine0 j hj (fun h => hp h.2.1)⟩
/-- A spine is so far. -/
def sw (L : List Bool) (l s x j b : Nat) : Prop := ∃ z, z < l ∧ wlk L l s j x z ∧ lk L s z b = true
theorem wlk_sw {x j y : Nat} : wlk L l s (j + 1) x y ↔ ∃ b, b < s ∧ sw L l s x j b ∧ lk L s y b = true := by
  constructor
  · rintro ⟨z, h1, h2, b, h3, h4, h5⟩
    exact ⟨b, h3, ⟨z, h1, h2, h4⟩, h5⟩
  · rintro ⟨b, h3, ⟨z, h1, h2, h4⟩, h5⟩
    exact ⟨z, h1, h2, b, h3, h4, h5⟩
/-- What holds behind so many passes. -/
structure FInv (L : List Bool) (l s x d : Nat) (st : FS) : Prop where
  lf : ∀ y, y < l → (st.1 y = -1 ∧ ∀ j, 2 * j ≤ d → ¬ wlk L l s j x y) ∨ ∃ j : Nat, 2 * j ≤ d ∧ st.1 y = 2 * j ∧ wlk L l s j x y ∧ ∀ i, i < j → ¬ wlk L l s i x y
  sp : ∀ b, b < s → (st.2 b = -1 ∧ ∀ j, 2 * j + 1 ≤ d → ¬ sw L l s x j b) ∨ ∃ j : Nat, 2 * j + 1 ≤ d ∧ st.2 b = 2 * j + 1 ∧ sw L l s x j b ∧ ∀ i, i < j → ¬ sw L l s x i b
theorem finv (hL : L.length = l * s) (x : Nat) : ∀ d, FInv L l s x d (farS s L x d)
  | 0 => by
    refine ⟨fun y hy => ?_, fun b hb => .inl ⟨rfl, fun j hj => by omega⟩⟩
    show ((if y = x then (0 : Int) else -1) = -1 ∧ _) ∨ _
    by_cases e : y = x
    · subst e
      exact .inr ⟨0, by omega, if_pos rfl, rfl, fun i hi => by omega⟩
    · refine .inl ⟨if_neg e, fun j hj hw => ?_⟩
      obtain rfl : j = 0 := by omega
      have hw : x = y := hw
      exact e hw.symm
  | d + 1 => by
    have ih := finv hL x d
    obtain ⟨st, hst⟩ : ∃ st, farS s L x d = st := ⟨_, rfl⟩
    rw [hst] at ih
    have hn : farS s L x (d + 1) = passK s d L st (l * s) := by rw [← hst, ← hL]; rfl
    rw [hn]
    obtain ⟨p1, p2⟩ := passK_at (L := L) (l := l) d st (l * s) (Nat.le_refl _)
    refine ⟨fun y hy => ?_, fun b hb => ?_⟩
    · rw [p1 y hy]
      by_cases hc : st.1 y < 0 ∧ ∃ j, j < s ∧ y * s + j < l * s ∧ lk L s y j = true ∧ st.2 j = d
      · rw [if_pos hc]
        obtain ⟨h0, b, hb, _, hlk, hbd⟩ := hc
        rcases ih.sp b hb with ⟨q1, _⟩ | ⟨t, q1, q2, q3, q4⟩
        · omega
        · rcases ih.lf y hy with ⟨r1, r2⟩ | ⟨t2, _, r2, _⟩
          · exact .inr ⟨t + 1, by omega, by omega, wlk_sw.2 ⟨b, hb, q3, hlk⟩, fun i hi => r2 i (by omega)⟩
          · omega
      · rw [if_neg hc]
        rcases ih.lf y hy with ⟨r1, r2⟩ | ⟨t2, r1, r2, r3, r4⟩
        · refine .inl ⟨r1, fun j hj hw => ?_⟩
          by_cases hj2 : 2 * j ≤ d
          · exact r2 j hj2 hw
          · obtain ⟨t, rfl⟩ : ∃ t, j = t + 1 := ⟨j - 1, by omega⟩
            obtain ⟨b, hb, hsw, hlk⟩ := wlk_sw.1 hw
            rcases ih.sp b hb with ⟨q1, q2⟩ | ⟨t2, q1, q2, q3, q4⟩
            · exact q2 t (by omega) hsw
            · by_cases e : t2 = t
              · subst e
                exact hc ⟨by omega, b, hb, posLt hy hb, hlk, by omega⟩
              · exact r2 (t2 + 1) (by
                  have : ¬ t < t2 := fun h => q4 t h hsw
                  omega) (wlk_sw.2 ⟨b, hb, q3, hlk⟩)
        · exact .inr ⟨t2, by omega, r2, r3, r4⟩
    · rw [p2 b hb]
      by_cases hc : st.2 b < 0 ∧ ∃ i, i < l ∧ i * s + b < l * s ∧ lk L s i b = true ∧ st.1 i = d
      · rw [if_pos hc]
        obtain ⟨h0, z, hz, _, hlk, hzd⟩ := hc
        rcases ih.lf z hz with ⟨q1, _⟩ | ⟨t, q1, q2, q3, q4⟩
        · omega
        · rcases ih.sp b hb with ⟨r1, r2⟩ | ⟨t2, _, r2, _⟩
          · exact .inr ⟨t, by omega, by omega, ⟨z, hz, q3, hlk⟩, fun i hi => r2 i (by omega)⟩
          · omega
      · rw [if_neg hc]
        rcases ih.sp b hb with ⟨r1, r2⟩ | ⟨t2, r1, r2, r3, r4⟩
        · refine .inl ⟨r1, fun j hj hw => ?_⟩
          by_cases hj2 : 2 * j + 1 ≤ d
          · exact r2 j hj2 hw
          · obtain ⟨z, hz, hw2, hlk⟩ := hw
            rcases ih.lf z hz with ⟨q1, q2⟩ | ⟨t2, q1, q2, q3, q4⟩
            · exact q2 j (by omega) hw2
            · by_cases e : t2 = j
              · subst e
                exact hc ⟨by omega, z, hz, posLt hz hb, hlk, by omega⟩
              · exact r2 t2 (by
                  have : ¬ j < t2 := fun h => q4 j h hw2
                  omega) ⟨z, hz, q3, hlk⟩
        · exact .inr ⟨t2, by omega, r2, r3, r4⟩
theorem far_isD (hL : L.length = l * s) (hl : l ≤ 16) {x y : Nat} (hy : y < l) : IsD L l s x y ((farS s L x 33).1 y) := by
  rcases (finv hL x 33).lf y hy with ⟨h1, h2⟩ | ⟨j, _, h2, h3, h4⟩
  · refine .inl ⟨h1, fun j hw => ?_⟩
    obtain ⟨i, hi, _, hw2, _⟩ := wlk_short hy j hw
    exact h2 i (by omega) hw2
  · exact .inr ⟨j, h2, h3, h4⟩
/-- How many leaves no leaf of before reaches. -/
noncomputable def cntP (L : List Bool) (l s : Nat) : Nat → Nat
  | 0 => 0
  | i + 1 => cntP L l s i + if ∀ y, y < i → ¬ rch L l s i y then 1 else 0
theorem rch_symm {x y : Nat} (hy : y < l) (h : rch L l s x y) : rch L l s y x := by
  obtain ⟨j, h⟩ := h
  exact ⟨j, wlk_symm hy h⟩
theorem rch_trans {x y z : Nat} (h : rch L l s x y) (k : rch L l s y z) : rch L l s x z := by
  obtain ⟨i, h⟩ := h
  obtain ⟨j, k⟩ := k
  exact ⟨i + j, wlk_trans h k⟩
theorem parts_cnt (hL : L.length = l * s) (hl : l ≤ 16) : ∀ i, i ≤ l → (pS s L i).1 = cntP L l s i ∧ ∀ z, z < l → ((pS s L i).2 z = true ↔ ∃ y, y < i ∧ rch L l s y z)
  | 0, _ => ⟨rfl, fun z _ => ⟨fun h => (by cases h), fun ⟨y, hy, _⟩ => by omega⟩⟩
  | i + 1, hi => by
    obtain ⟨h1, h2⟩ := parts_cnt hL hl i (by omega)
    have hii := h2 i (by omega)
    unfold pS cntP
    by_cases hs : (pS s L i).2 i = true
    · obtain ⟨y0, hy0, hr0⟩ := hii.1 hs
      rw [if_pos hs, if_neg (fun h => h y0 hy0 (rch_symm (by omega) hr0))]
      refine ⟨by omega, fun z hz => ?_⟩
      rw [h2 z hz]
      constructor
      · rintro ⟨y, hy, hr⟩
        exact ⟨y, by omega, hr⟩
      · rintro ⟨y, hy, hr⟩
        by_cases e : y = i
        · subst e
          exact ⟨y0, hy0, rch_trans hr0 hr⟩
        · exact ⟨y, by omega, hr⟩
    · rw [if_neg hs, if_pos (fun y hy hr => hs (hii.2 ⟨y, hy, rch_symm (by omega) hr⟩))]
      refine ⟨by dsimp only; omega, fun z hz => ?_⟩
      dsimp only
      rw [Bool.or_eq_true, decide_eq_true_eq, h2 z hz, (far_isD hL hl (x := i) hz).rch]
      constructor
      · rintro (⟨y, hy, hr⟩ | hr)
        · exact ⟨y, by omega, hr⟩
        · exact ⟨i, by omega, hr⟩
      · rintro ⟨y, hy, hr⟩
        by_cases e : y = i
        · subst e
          exact .inr hr
        · exact .inl ⟨y, by omega, hr⟩
end
end Go.Proofs.Ytjnfapkjmgilcaa
