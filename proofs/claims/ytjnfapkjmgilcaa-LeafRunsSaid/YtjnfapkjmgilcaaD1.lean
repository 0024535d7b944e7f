/- Ways between leaves, by definition, and what 'far' reckons of them. No program's walk in sight. -/
import Derived.Test.YtjnfapkjmgilcaaB8
namespace Go.Proofs.Ytjnfapkjmgilcaa
open Go.RowKit
open Classical
/-- Two leaves have a spine to which both links work. -/
def nr (L : List Bool) (s x y : Nat) : Prop := ∃ k, k < s ∧ lk L s x k = true ∧ lk L s y k = true
theorem nr_symm {L : List Bool} {s x y : Nat} (h : nr L s x y) : nr L s y x := by
  obtain ⟨k, h1, h2, h3⟩ := h
  exact ⟨k, h1, h3, h2⟩
/-- A way of so many steps. -/
def wlk (L : List Bool) (l s : Nat) : Nat → Nat → Nat → Prop
  | 0, x, y => x = y
  | j + 1, x, y => ∃ z, z < l ∧ wlk L l s j x z ∧ nr L s z y
section
variable {L : List Bool} {l s : Nat}
theorem wlk_pre {x z : Nat} (hx : x < l) (h : nr L s x z) : ∀ {j y : Nat}, wlk L l s j z y → wlk L l s (j + 1) x y
  | 0, y, h2 => by
    have h2 : z = y := h2
    subst h2
    exact ⟨x, hx, rfl, h⟩
  | j + 1, y, ⟨u, h1, h2, h3⟩ => ⟨u, h1, wlk_pre hx h h2, h3⟩
theorem wlk_symm {x : Nat} : ∀ {j y : Nat}, y < l → wlk L l s j x y → wlk L l s j y x
  | 0, y, _, h => Eq.symm h
  | j + 1, y, hy, ⟨z, h1, h2, h3⟩ => wlk_pre hy (nr_symm h3) (wlk_symm h1 h2)
theorem wlk_trans {x y : Nat} {i : Nat} (h : wlk L l s i x y) : ∀ {j z : Nat}, wlk L l s j y z → wlk L l s (i + j) x z
  | 0, z, h2 => by
    have h2 : y = z := h2
    subst h2
    exact h
  | j + 1, z, ⟨u, h1, h2, h3⟩ => ⟨u, h1, wlk_trans h h2, h3⟩
/-- There is a way. -/
def rch (L : List Bool) (l s x y : Nat) : Prop := ∃ j, wlk L l s j x y
theorem nodupLen : ∀ (n : Nat) (vs : List Nat), vs.Nodup → (∀ v ∈ vs, v < n) → vs.length ≤ n
  | 0, vs, _, h => by
    rcases vs with _ | ⟨v, vs⟩
    · exact Nat.le_refl _
    · exact absurd (h v List.mem_cons_self) (by omega)
  | n + 1, vs, hn, h => by
    by_cases hm : n ∈ vs
    · have h1 := nodupLen n (vs.erase n) (hn.erase n) (fun v hv => by
        rw [hn.mem_erase_iff] at hv
        have := h v hv.2
        omega)
      rw [List.length_erase_of_mem hm] at h1
      omega
    · have h1 := nodupLen n vs hn (fun v hv => by
        have h2 := h v hv
        rcases Nat.lt_or_ge v n with h3 | h3
        · exact h3
        · exact absurd (show n ∈ vs by rw [show n = v by omega]; exact hv) hm)
      omega
theorem lev_list {x : Nat} : ∀ (j y : Nat), y < l → wlk L l s j x y → (∀ i, i < j → ¬ wlk L l s i x y) → ∃ vs : List Nat, vs.length = j + 1 ∧ vs.Nodup ∧ ∀ v ∈ vs, v < l ∧ ∃ i, i ≤ j ∧ wlk L l s i x v
  | 0, y, hy, h, _ => ⟨[y], rfl, by simp, fun v hv => by
      rw [List.mem_singleton] at hv
      subst hv
      exact ⟨hy, 0, Nat.le_refl _, h⟩⟩
  | j + 1, y, hy, ⟨z, hz, h1, h2⟩, hm => by
    obtain ⟨vs, e1, e2, e3⟩ := lev_list j z hz h1 (fun i hi hw => hm (i + 1) (by omega) ⟨z, hz, hw, h2⟩)
    refine ⟨y :: vs, by rw [List.length_cons, e1], List.nodup_cons.2 ⟨fun hy2 => ?_, e2⟩, fun v hv => ?_⟩
    · obtain ⟨_, i, hi, hw⟩ := e3 y hy2
      exact hm i (by omega) hw
    · rcases List.mem_cons.1 hv with rfl | hv
      · exact ⟨hy, j + 1, Nat.le_refl _, z, hz, h1, h2⟩
      · obtain ⟨h4, i, hi, hw⟩ := e3 v hv
        exact ⟨h4, i, by omega, hw⟩
theorem wlk_short {x y : Nat} (hy : y < l) : ∀ j, wlk L l s j x y → ∃ i, i < l ∧ i ≤ j ∧ wlk L l s i x y ∧ ∀ i', i' < i → ¬ wlk L l s i' x y := by
  intro j
  induction j using Nat.strongRecOn with
  | _ j ih =>
    intro h
    by_cases hm : ∃ i, i < j ∧ wlk L l s i x y
    · obtain ⟨i, hi, hw⟩ := hm
      obtain ⟨i2, h1, h2, h3⟩ := ih i hi hw
      exact ⟨i2, h1, by omega, h3⟩
    · have hmin : ∀ i, i < j → ¬ wlk L l s i x y := fun i hi hw => hm ⟨i, hi, hw⟩
      obtain ⟨vs, e1, e2, e3⟩ := lev_list j y hy h hmin
      have := nodupLen l vs e2 (fun v hv => (e3 v hv).1)
      exact ⟨j, by omega, Nat.le_refl _, h, hmin⟩
/-- The length of the shortest way, in links; -1: none. -/
def IsD (L : List Bool) (l s x y : Nat) (v : Int) : Prop := (v = -1 ∧ ∀ j, ¬ wlk L l s j x y) ∨ ∃ j : Nat, v = 2 * j ∧ wlk L l s j x y ∧ ∀ i, i < j → ¬ wlk L l s i x y
theorem IsD.uniq {x y : Nat} {v v' : Int} (h : IsD L l s x y v) (h' : IsD L l s x y v') : v = v' := by
  rcases h with ⟨h1, h2⟩ | ⟨j, h1, h2, h3⟩
  · rcases h' with ⟨k1, _⟩ | ⟨j', _, k2, _⟩
    · rw [h1, k1]
    · exact absurd k2 (h2 j')
  · rcases h' with ⟨_, k2⟩ | ⟨j', k1, k2, k3⟩
    · exact absurd h2 (k2 j)
    · have : j = j' := by
        rcases Nat.lt_trichotomy j j' with e | e | e
        · exact absurd h2 (k3 j e)
        · exact e
        · exact absurd k2 (h3 j' e)
      rw [h1, k1, this]
theorem IsD.symm {x y : Nat} {v : Int} (hx : x < l) (hy : y < l) (h : IsD L l s x y v) : IsD L l s y x v := by
  rcases h with ⟨h1, h2⟩ | ⟨j, h1, h2, h3⟩
  · exact .inl ⟨h1, fun j hw => h2 j (wlk_symm hx hw)⟩
  · exact .inr ⟨j, h1, wlk_symm hy h2, fun i hi hw => h3 i hi (wlk_symm hx hw)⟩
theorem IsD.rch {x y : Nat} {v : Int} (h : IsD L l s x y v) : 0 ≤ v ↔ rch L l s x y := by
  rcases h with ⟨h1, h2⟩ | ⟨j, h1, h2, h3⟩
  · exact ⟨fun h => by omega, fun ⟨j, hw⟩ => absurd hw (h2 j)⟩
  · exact ⟨fun _ => ⟨j, h2⟩, fun _ => by omega⟩
end
end Go.Proofs.Ytjnfapkjmgilcaa
