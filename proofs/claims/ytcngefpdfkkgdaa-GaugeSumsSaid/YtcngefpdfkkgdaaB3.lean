/- Counts together are how many were noted: plain law. No program in sight. -/
import Derived.Test.YtcngefpdfkkgdaaGt
namespace Go.Proofs.Ytcngefpdfkkgdaa
theorem sum_set : ∀ (l : List Int) (i : Nat) (v : Int), l[i]? = some v → (l.set i (v + 1)).sum = l.sum + 1 := by
  intro l
  induction l with
  | nil => intro i v h; simp at h
  | cons a l ih =>
    intro i v h
    cases i with
    | zero =>
      simp at h
      subst h
      simp
      omega
    | succ i =>
      have := ih i v (by simpa using h)
      simp
      omega
theorem rev_ind {P : List Int → Prop} (h0 : P []) (hs : ∀ L x, P L → P (L ++ [x])) : ∀ L, P L := by
  intro L
  have : ∀ n (L : List Int), L.length = n → P L := by
    intro n
    induction n with
    | zero => intro L h; rw [List.eq_nil_of_length_eq_zero h]; exact h0
    | succ n ih =>
      intro L h
      have hne : L ≠ [] := by rintro rfl; simp at h
      have e := List.dropLast_concat_getLast hne
      rw [← e]
      exact hs _ _ (ih _ (by rw [List.length_dropLast, h]; omega))
  exact this _ L rfl
theorem sum_rep (n : Nat) : (List.replicate n (0 : Int)).sum = 0 := by
  induction n with
  | zero => rfl
  | succ n ih => rw [List.replicate_succ, List.sum_cons, ih]; rfl
theorem cnt_sum (bs : List Int) : ∀ L, (cnt bs L).sum = L.length := by
  refine rev_ind ?_ ?_
  · rw [cnt_nil, sum_rep]
    rfl
  · intro L x ih
    rw [cnt_push, sum_set _ _ _ (cnt_get bs L (bkt_le x bs)), ih]
    simp
theorem filt_le (p q : Int → Bool) (h : ∀ x, p x = true → q x = true) : ∀ L : List Int, (L.filter p).length ≤ (L.filter q).length := by
  intro L
  induction L with
  | nil => simp
  | cons a L ih =>
    rw [List.filter_cons, List.filter_cons]
    by_cases hp : p a = true
    · rw [if_pos hp, if_pos (h a hp)]
      simp
      exact ih
    · rw [if_neg hp]
      split
      · simp; omega
      · exact ih
theorem filt_add (p q r : Int → Bool) (h : ∀ x, r x = (p x || q x)) (hd : ∀ x, ¬ (p x = true ∧ q x = true)) : ∀ L : List Int, (L.filter r).length = (L.filter p).length + (L.filter q).length := by
  intro L
  induction L with
  | nil => simp
  | cons a L ih =>
    have ha := h a
    have hda := hd a
    rw [List.filter_cons, List.filter_cons, List.filter_cons, ha]
    cases hp : p a <;> cases hq : q a <;> simp_all <;> omega
end Go.Proofs.Ytcngefpdfkkgdaa
