/- The plain laws of layer 2: no program in sight. -/
import Derived.Test.YtnmdgkloehbkcaaB6
namespace Go.Proofs.Ytnmdgkloehbkcaa
open Go.RowKit

theorem bits_xor8 (a b : Nat) (ha : a < 256) (hb : b < 256) : bits .xor .u8 a b = ((a ^^^ b : Nat) : Int) := by
  have ha' : a % 2 ^ IntKind.u8.bits = a := Nat.mod_eq_of_lt ha
  have hb' : b % 2 ^ IntKind.u8.bits = b := Nat.mod_eq_of_lt hb
  have hx : a ^^^ b < 2 ^ 8 := Nat.xor_lt_two_pow (n := 8) ha hb
  simp only [bits, BitVec.ofInt_natCast, BitVec.toNat_xor, BitVec.toNat_ofNat, ha', hb']
  exact wraps_u8 _ (Int.natCast_nonneg _) (by omega)
theorem xor8 (a b : Int) (ha : 0 ≤ a ∧ a ≤ 255) (hb : 0 ≤ b ∧ b ≤ 255) : (0 ≤ bits .xor .u8 a b ∧ bits .xor .u8 a b ≤ 255) ∧ (bits .xor .u8 a b = a ↔ b = 0) := by
  obtain ⟨x, rfl⟩ := Int.eq_ofNat_of_zero_le ha.1
  obtain ⟨y, rfl⟩ := Int.eq_ofNat_of_zero_le hb.1
  rw [bits_xor8 x y (by omega) (by omega)]
  have hx : x ^^^ y < 2 ^ 8 := Nat.xor_lt_two_pow (n := 8) (by omega) (by omega)
  refine ⟨by omega, ?_⟩
  constructor
  · intro h
    have h' : x ^^^ y = x := by omega
    have : x ^^^ (x ^^^ y) = y := by rw [← Nat.xor_assoc, Nat.xor_self, Nat.zero_xor]
    rw [h', Nat.xor_self] at this
    omega
  · intro h
    have : y = 0 := by omega
    subst this
    simp
theorem adl_fst (p : Int × Int) (xs : List Int) (hp : 0 ≤ p.1 ∧ p.1 < 65521) : (adl p xs).1 = (p.1 + xs.sum) % 65521 := by
  induction xs generalizing p with
  | nil => simp [adl]; omega
  | cons x xs ih =>
    have := ih (adA p x) (by unfold adA; simp only; omega)
    unfold adl at this ⊢
    rw [List.foldl_cons, this, List.sum_cons]
    unfold adA
    simp only
    omega
theorem sum_set (xs : List Int) (k : Nat) (v : Int) (h : k < xs.length) : (xs.set k v).sum = xs.sum - xs.getD k 0 + v := by
  induction xs generalizing k with
  | nil => simp at h
  | cons x xs ih =>
    cases k with
    | zero => simp; omega
    | succ k =>
      have := ih k (by simpa using h)
      simp only [List.set_cons_succ, List.sum_cons, List.getD_cons_succ]
      omega
theorem asum_inj (p q : Int × Int) (hp : 0 ≤ p.1 ∧ p.1 < 65521) (hq : 0 ≤ q.1 ∧ q.1 < 65521) (h : asum p = asum q) : p.1 = q.1 := by
  unfold asum at h
  omega
theorem set_self (xs : List Int) (k : Nat) (h : k < xs.length) : xs.set k (xs.getD k 0) = xs := by
  simp [h]
/-- One byte that is another one turns Adler's sum. -/
theorem turned (xs : List Int) (k : Nat) (v : Int) (h : k < xs.length) (hx : Bytes xs) (hv : 0 ≤ v ∧ v ≤ 255) : asum (adl (1, 0) (xs.set k v)) = asum (adl (1, 0) xs) ↔ v = xs.getD k 0 := by
  constructor
  · intro he
    have hk := hx.at k h
    have e := asum_inj _ _ (adl_bd (1, 0) _ (by decide) (by decide)).1 (adl_bd (1, 0) _ (by decide) (by decide)).1 he
    rw [adl_fst _ _ (by decide), adl_fst _ _ (by decide), sum_set xs k v h] at e
    simp only at e
    omega
  · rintro rfl
    rw [set_self xs k h]
theorem Bytes.set {xs : List Int} (h : Bytes xs) (k : Nat) (v : Int) (hv : 0 ≤ v ∧ v ≤ 255) : Bytes (xs.set k v) := by
  intro x hx
  rcases List.mem_or_eq_of_mem_set hx with hx | rfl
  · exact h x hx
  · exact hv
end Go.Proofs.Ytnmdgkloehbkcaa
