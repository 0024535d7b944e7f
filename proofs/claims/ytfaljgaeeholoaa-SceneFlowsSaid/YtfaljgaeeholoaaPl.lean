/- A ring by swaps, in plain words: every place leads to another one, and all stand in one circle. No program in sight but the draws by definition. -/
import Derived.Test.YtfaljgaeeholoaaB4
namespace Go.Proofs.Ytfaljgaeeholoaa
open Go.RowKit
/-- From a by t to b. -/
def walkTo (p : Nat → Nat) (a : Nat) : List Nat → Nat → Prop
  | [], b => p a = b
  | x :: t, b => p a = x ∧ walkTo p x t b
theorem walkTo_app (p : Nat → Nat) (s : List Nat) : ∀ (a x : Nat) (t : List Nat) (b : Nat), walkTo p a (s ++ x :: t) b ↔ walkTo p a s x ∧ walkTo p x t b := by
  induction s with
  | nil => intro a x t b; exact Iff.rfl
  | cons y s ih =>
    intro a x t b
    show (p a = y ∧ walkTo p y (s ++ x :: t) b) ↔ (p a = y ∧ walkTo p y s x) ∧ walkTo p x t b
    rw [ih, and_assoc]
theorem walkTo_turn {p q : Nat → Nat} {t : List Nat} : ∀ {a a' b : Nat}, q a' = p a → (∀ x, x ∈ t → q x = p x) → walkTo p a t b → walkTo q a' t b := by
  induction t with
  | nil => intro a a' b h _ hw; exact h.trans hw
  | cons y t ih =>
    intro a a' b h hx hw
    exact ⟨h.trans hw.1, ih (hx y (by simp)) (fun x hm => hx x (by simp [hm])) hw.2⟩
/-- Where the first k are still free, each of them has a circle of its own, and what is above stands in one of those. -/
structure Sat (n k : Nat) (p : Nat → Nat) (T : Nat → List Nat) : Prop where
  rng : ∀ x, x < n → p x < n
  ne : ∀ x, k < x → x < n → p x ≠ x
  big : ∀ j, j ≤ k → ∀ x, x ∈ T j → k < x
  cyc : ∀ j, j ≤ k → walkTo p j (T j) j
  sum : ((List.range (k + 1)).map fun j => (T j).length + 1).sum = n
theorem sum_change (f g : Nat → Nat) (i d : Nat) : ∀ k, i < k → (∀ j, j < k → j ≠ i → g j = f j) → g i = f i + d → ((List.range k).map g).sum = ((List.range k).map f).sum + d := by
  intro k
  induction k with
  | zero => intro h; omega
  | succ k ih =>
    intro hi hj hd
    rw [List.range_succ, List.map_append, List.map_append, List.sum_append, List.sum_append]
    simp only [List.map_cons, List.map_nil, List.sum_cons, List.sum_nil, Nat.add_zero]
    by_cases e : i = k
    · subst e
      have : (List.range i).map g = (List.range i).map f := List.map_congr_left (fun j hm => hj j (by have := List.mem_range.1 hm; omega) (by have := List.mem_range.1 hm; omega))
      rw [this, hd]
      omega
    · rw [ih (by omega) (fun j hjk hne => hj j (by omega) hne) hd, hj k (by omega) (fun h => e h.symm)]
      omega
theorem sum_ones (n : Nat) : ((List.range n).map fun _ => 0 + 1).sum = n := by
  induction n with
  | zero => rfl
  | succ n ih => rw [List.range_succ, List.map_append, List.sum_append, ih]; rfl
theorem Sat.first (n : Nat) (hn : 1 ≤ n) : Sat n (n - 1) (fun x => x) (fun _ => []) where
  rng := fun x h => h
  ne := fun x h1 h2 => by omega
  big := fun j _ x hx => by simp at hx
  cyc := fun j _ => rfl
  sum := by rw [show n - 1 + 1 = n by omega]; exact sum_ones n
theorem Sat.step {n k : Nat} {p : Nat → Nat} {T : Nat → List Nat} (h : Sat n (k + 1) p T) (hk : k + 1 < n) {i : Nat} (hi : i ≤ k) :
    Sat n k (fun x => if x = k + 1 then p i else if x = i then p (k + 1) else p x) (fun j => if j = i then T (k + 1) ++ (k + 1) :: T i else T j) where
  rng := fun x hx => by
    show (if x = k + 1 then p i else if x = i then p (k + 1) else p x) < n
    split
    · exact h.rng i (by omega)
    · split
      · exact h.rng _ hk
      · exact h.rng x hx
  ne := fun x h1 h2 => by
    show (if x = k + 1 then p i else if x = i then p (k + 1) else p x) ≠ x
    split
    · rename_i hx
      have hc := h.cyc i (by omega)
      cases ht : T i with
      | nil => rw [ht] at hc; have hc : p i = i := hc; omega
      | cons y t =>
        rw [ht] at hc
        have := h.big i (by omega) y (by rw [ht]; simp)
        have hc : p i = y ∧ _ := hc
        omega
    · rw [if_neg (by omega)]
      exact h.ne x (by omega) h2
  big := fun j hj x hx => by
    have hx : x ∈ (if j = i then T (k + 1) ++ (k + 1) :: T i else T j) := hx
    split at hx
    · rw [List.mem_append, List.mem_cons] at hx
      rcases hx with hx | hx | hx
      · have := h.big (k + 1) (Nat.le_refl _) x hx; omega
      · omega
      · have := h.big i (by omega) x hx; omega
    · have := h.big j (by omega) x hx; omega
  cyc := fun j hj => by
    have hsame : ∀ j, j ≤ k + 1 → ∀ x, x ∈ T j → (if x = k + 1 then p i else if x = i then p (k + 1) else p x) = p x := fun j hj x hx => by
      have := h.big j hj x hx
      rw [if_neg (by omega), if_neg (by omega)]
    show walkTo _ j (if j = i then T (k + 1) ++ (k + 1) :: T i else T j) j
    split
    · rename_i e
      subst e
      rw [walkTo_app]
      refine ⟨walkTo_turn ?_ (hsame _ (Nat.le_refl _)) (h.cyc (k + 1) (Nat.le_refl _)), walkTo_turn ?_ (hsame _ (by omega)) (h.cyc j (by omega))⟩
      · show (if j = k + 1 then p j else if j = j then p (k + 1) else p j) = p (k + 1)
        rw [if_neg (by omega), if_pos rfl]
      · show (if k + 1 = k + 1 then p j else _) = p j
        rw [if_pos rfl]
    · rename_i e
      refine walkTo_turn ?_ (hsame _ (by omega)) (h.cyc j (by omega))
      show (if j = k + 1 then p i else if j = i then p (k + 1) else p j) = p j
      rw [if_neg (by omega), if_neg e]
  sum := by
    have h1 := h.sum
    rw [List.range_succ, List.map_append, List.sum_append] at h1
    simp only [List.map_cons, List.map_nil, List.sum_cons, List.sum_nil, Nat.add_zero] at h1
    rw [sum_change (fun j => (T j).length + 1) (fun j => (if j = i then T (k + 1) ++ (k + 1) :: T i else T j).length + 1) i ((T (k + 1)).length + 1) (k + 1) (by omega) (fun j _ hne => by simp only [if_neg hne]) (by simp; omega)]
    exact h1
/-! The row. -/
def swapN (l : List Nat) (k i : Nat) : List Nat := (l.set k (l.getD i 0)).set i (l.getD k 0)
theorem swapN_len (l : List Nat) (k i : Nat) : (swapN l k i).length = l.length := by simp [swapN]
theorem swapN_get (l : List Nat) (k i x : Nat) (hk : k < l.length) (hi : i < k) : (swapN l k i).getD x 0 = if x = k then l.getD i 0 else if x = i then l.getD k 0 else l.getD x 0 := by
  unfold swapN
  simp only [List.getD_eq_getElem?_getD, List.getElem?_set]
  by_cases h1 : i = x
  · subst h1
    rw [if_pos rfl, if_pos (by simp; omega), if_neg (by omega), if_pos rfl]
    simp
  · rw [if_neg h1]
    by_cases h2 : k = x
    · subst h2
      rw [if_pos rfl, if_pos (by omega), if_pos rfl]
      simp
    · rw [if_neg h2, if_neg (by omega), if_neg (by omega)]
/-- The row behind j swaps. -/
def ringN (seed : Int) (n : Nat) : Nat → List Nat
  | 0 => List.range n
  | j + 1 => swapN (ringN seed n j) (n - 1 - j) (belowV seed j ((n - 1 - j : Nat) : Int)).toNat
theorem ringN_len (seed : Int) (n : Nat) : ∀ j, (ringN seed n j).length = n
  | 0 => by simp [ringN]
  | j + 1 => by rw [ringN, swapN_len, ringN_len seed n j]
theorem ring_sat (seed : Int) (n : Nat) (hn : 1 ≤ n) : ∀ j, j ≤ n - 1 → ∃ T, Sat n (n - 1 - j) (fun x => if x < n then (ringN seed n j).getD x 0 else x) T := by
  intro j
  induction j with
  | zero =>
    intro _
    have := Sat.first n hn
    have e : (fun x => if x < n then (ringN seed n 0).getD x 0 else x) = fun x => x := by
      funext x
      split
      · rename_i hx
        simp [ringN, List.getD_eq_getElem?_getD, hx]
      · rfl
    rw [← e] at this
    exact ⟨_, this⟩
  | succ j ih =>
    intro hj
    obtain ⟨T, hT⟩ := ih (by omega)
    have hk : n - 1 - j = (n - 1 - (j + 1)) + 1 := by omega
    have hb := belowV_in seed j (k := ((n - 1 - j : Nat) : Int)) (by omega)
    obtain ⟨i, hi⟩ : ∃ i, (belowV seed j ((n - 1 - j : Nat) : Int)).toNat = i := ⟨_, rfl⟩
    have hik : i < n - 1 - j := by omega
    have hs : ringN seed n (j + 1) = swapN (ringN seed n j) (n - 1 - j) i := by rw [ringN, hi]
    rw [hk] at hT
    have := hT.step (by omega) (i := i) (by omega)
    have e : (fun x => if x < n then (ringN seed n (j + 1)).getD x 0 else x) = fun x => if x = n - 1 - (j + 1) + 1 then (if i < n then (ringN seed n j).getD i 0 else i) else if x = i then (if n - 1 - (j + 1) + 1 < n then (ringN seed n j).getD (n - 1 - (j + 1) + 1) 0 else n - 1 - (j + 1) + 1) else (if x < n then (ringN seed n j).getD x 0 else x) := by
      funext x
      rw [hs, swapN_get _ _ _ _ (by rw [ringN_len]; omega) hik, ← hk]
      rw [if_pos (show i < n by omega), if_pos (show n - 1 - j < n by omega)]
      by_cases hx : x < n
      · rw [if_pos hx, if_pos hx]
      · rw [if_neg hx, if_neg hx, if_neg (by omega), if_neg (by omega)]
    rw [← e] at this
    exact ⟨_, this⟩
/-- The whole row: each leads to another one, and from 0 all of them go round. -/
theorem ring_all (seed : Int) (n : Nat) (hn : 2 ≤ n) : (∀ x, x < n → (ringN seed n (n - 1)).getD x 0 < n ∧ (ringN seed n (n - 1)).getD x 0 ≠ x) ∧
    ∃ t : List Nat, t.length + 1 = n ∧ (∀ x, x ∈ t → 0 < x ∧ x < n) ∧ walkTo (fun x => if x < n then (ringN seed n (n - 1)).getD x 0 else x) 0 t 0 := by
  obtain ⟨T, hT⟩ := ring_sat seed n (by omega) (n - 1) (Nat.le_refl _)
  rw [show n - 1 - (n - 1) = 0 by omega] at hT
  have hs := hT.sum
  simp at hs
  have hc := hT.cyc 0 (Nat.le_refl _)
  have hlt : ∀ (t : List Nat) (a : Nat), a < n → walkTo (fun x => if x < n then (ringN seed n (n - 1)).getD x 0 else x) a t 0 → ∀ x, x ∈ t → x < n := by
    intro t
    induction t with
    | nil => intro a _ _ x hx; simp at hx
    | cons y t ih =>
      intro a ha hw x hx
      have hy : y < n := by have h1 := hT.rng a ha; have h2 := hw.1; simp only [] at h1 h2; omega
      rcases List.mem_cons.1 hx with rfl | hx
      · exact hy
      · exact ih y hy hw.2 x hx
  refine ⟨fun x hx => ?_, T 0, hs, fun x hx => ⟨hT.big 0 (Nat.le_refl _) x hx, hlt _ 0 (by omega) hc x hx⟩, hc⟩
  have h1 := hT.rng x hx
  simp only [if_pos hx] at h1
  refine ⟨h1, ?_⟩
  rcases Nat.eq_zero_or_pos x with rfl | h0
  · intro h2
    cases ht : T 0 with
    | nil => rw [ht] at hs; simp at hs; omega
    | cons y t =>
      rw [ht] at hc
      have h3 := hc.1
      simp only [if_pos hx] at h3
      have := hT.big 0 (Nat.le_refl _) y (by rw [ht]; simp)
      omega
  · have := hT.ne x h0 hx
    simp only [if_pos hx] at this
    exact this
end Go.Proofs.Ytfaljgaeeholoaa
