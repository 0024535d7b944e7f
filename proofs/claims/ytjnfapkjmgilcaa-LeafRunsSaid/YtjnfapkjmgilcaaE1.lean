/- The document's answer for package leaf: within, Works, Leaf, near (the conditions stand in the statements). -/
import Derived.Test.YtjnfapkjmgilcaaB9
namespace Go.Proofs.Ytjnfapkjmgilcaa
open Go.RowKit
def bv (L : List Bool) : List Value := L.map Value.bool
theorem bv_len (L : List Bool) : (bv L).length = L.length := by simp [bv]
theorem bv_get {L : List Bool} {j : Nat} {y : Bool} (h : L[j]? = some y) : (bv L)[j]? = some (.bool y) := by simp [bv, h]
theorem bv_one (L : List Bool) : ∀ u ∈ bv L, u.oneCell' = true := by
  intro u hu
  unfold bv at hu
  rw [List.mem_map] at hu
  obtain ⟨x, _, rfl⟩ := hu
  rfl
/-- The document's network, as a value. -/
abbrev nG (l s h : Nat) (A : Option Addr) (n c : Nat) : Array Value := #[.int .i64 l, .int .i64 s, .int .i64 h, .slice A n c]
/-- .. that stands in memory. -/
structure RN (w : World) (l s h : Nat) (A : Option Addr) (L : List Bool) : Prop where
  rd : Reads w A (bv L)
  len : L.length = l * s
  lb : 1 ≤ l ∧ l ≤ 16
  sb : 1 ≤ s ∧ s ≤ 16
  hb : 1 ≤ h ∧ h ≤ 64
theorem RN.kept0 {w w' : World} {l s h : Nat} {A : Option Addr} {L : List Bool} (k : RN w l s h A L) (hE : Ext N0 w w') : RN w' l s h A L := ⟨k.rd.mono0 hE, k.len, k.lb, k.sb, k.hb⟩
theorem within_calls (w : World) (x lo hi : Int) : Calls Try.prog 23 #[.int .i64 x, .int .i64 lo, .int .i64 hi] w fun e w' => e = .returned (.bool (decide (lo ≤ x ∧ x ≤ hi))) ∧ w' = w := by
  have hcs : ¬ lo ≤ x ∨ (lo ≤ x ∧ ¬ x ≤ hi) ∨ (lo ≤ x ∧ x ≤ hi) := by omega
  rcases hcs with h1 | ⟨h1, h2⟩ | ⟨h1, h2⟩
  all_goals
    first
      | rw [decide_eq_false (show ¬ (lo ≤ x ∧ x ≤ hi) by omega)]
      | rw [decide_eq_true (show lo ≤ x ∧ x ≤ hi by omega)]
    go_enter Try.func23, Try.ntmps23
    go_wp2
    go_ret
    first | exact ⟨rfl, rfl⟩ | exact ⟨retBool (by simp only [decide_eq_true_eq, decide_eq_false_iff_not]; omega), rfl⟩
theorem box4 (w : World) (a b c d : Value) {w' : World} (hE : Ext N0 (w.alloc (.cells #[a, b, c, d] 42)) w') : w'.cell? ⟨w.heap.size, 0, none⟩ = some a ∧ w'.cell? ⟨w.heap.size, 1, none⟩ = some b ∧ w'.cell? ⟨w.heap.size, 2, none⟩ = some c ∧ w'.cell? ⟨w.heap.size, 3, none⟩ = some d := by
  have hb := hE.blk0 (blkNew w (.cells #[a, b, c, d] 42))
  exact ⟨(blkCell hb 0).trans rfl, (blkCell hb 1).trans rfl, (blkCell hb 2).trans rfl, (blkCell hb 3).trans rfl⟩
theorem rworks_calls (w : World) (l s h c : Nat) (A : Option Addr) (L : List Bool) (x y : Int) (k : RN w l s h A L) : Calls Try.prog 24 #[.agg (nG l s h A L.length c), .int .i64 x, .int .i64 y] w fun e w' => e = .returned (.bool (wk L l s x y)) ∧ Ext N0 w w' := by
  have hl := k.lb
  have hs := k.sb
  have hE0 : Ext N0 w (w.alloc (.cells (nG l s h A L.length c) 42)) := (Ext.refl _ _).alloc _
  have HE0 := Lib.hid hE0
  have HW1 := Lib.hid (fun W => within_calls W x 0 ((l : Int) - 1))
  have HW2 := Lib.hid (fun W => within_calls W y 0 ((s : Int) - 1))
  have wl : IntKind.i64.wrap ((l : Int) - 1) = (l : Int) - 1 := IntWalk.i64_in _ (by omega)
  have ws : IntKind.i64.wrap ((s : Int) - 1) = (s : Int) - 1 := IntWalk.i64_in _ (by omega)
  obtain ⟨n, hn⟩ : ∃ n, L.length = n := ⟨_, rfl⟩
  have hln := k.len
  have hcs : ¬ (0 ≤ x ∧ x ≤ (l : Int) - 1) ∨ ((0 ≤ x ∧ x ≤ (l : Int) - 1) ∧ ¬ (0 ≤ y ∧ y ≤ (s : Int) - 1)) ∨ ((0 ≤ x ∧ x ≤ (l : Int) - 1) ∧ (0 ≤ y ∧ y ≤ (s : Int) - 1)) := by omega
  rcases hcs with h1 | ⟨h1, h2⟩ | ⟨h1, h2⟩
  · have hk : wk L l s x y = false := by
      unfold wk
      rw [show inN l s x y = false from decide_eq_false (by omega)]
      rfl
    rw [hk]
    rw [hn] at HE0 ⊢
    simp only [decide_eq_false h1] at HW1
    clear k hl hs hE0 hk h1 hn hln
    go_enter Try.func24, Try.ntmps24
    go_wp2_with (go_at_call 23; refine (HW1.out _).mono ?_; rintro e w1 ⟨rfl, hw⟩; subst w1)
    go_ret
    exact ⟨rfl, HE0.out⟩
  · have hk : wk L l s x y = false := by
      unfold wk
      rw [show inN l s x y = false from decide_eq_false (by omega)]
      rfl
    rw [hk]
    rw [hn] at HE0 ⊢
    simp only [decide_eq_true h1] at HW1
    simp only [decide_eq_false h2] at HW2
    clear k hl hs hE0 hk h1 h2 hn hln
    go_enter Try.func24, Try.ntmps24
    go_wp2_with (first | (have hx := X1; clear hx; go_at_call 23; refine (HW2.out _).mono ?_; rintro e w1 ⟨rfl, hw⟩; subst w1) | (go_at_call 23; refine (HW1.out _).mono ?_; rintro e w1 ⟨rfl, hw⟩; subst w1; have X1 := trivial))
    go_ret
    exact ⟨rfl, HE0.out⟩
  · obtain ⟨i, rfl⟩ : ∃ i : Nat, x = i := ⟨x.toNat, by omega⟩
    obtain ⟨j, rfl⟩ : ∃ j : Nat, y = j := ⟨y.toNat, by omega⟩
    have hi : i < l := by omega
    have hj : j < s := by omega
    have hp := posLt hi hj
    rw [wk_in' hi hj]
    obtain ⟨ad, rfl, hc⟩ := (k.rd.mono0 hE0).2 (by rw [bv_len]; omega)
    have hgt : L[i * s + j]? = some (lk L s i j) := by
      unfold lk
      rw [List.getD_eq_getElem?_getD, List.getElem?_eq_getElem (by omega)]
      rfl
    have cc := hc _ _ (bv_get hgt)
    simp only [decide_eq_true h1] at HW1
    simp only [decide_eq_true h2] at HW2
    have hm16 : i * s ≤ 256 := Nat.mul_le_mul (show i ≤ 16 by omega) hs.2
    obtain ⟨m, hm⟩ : ∃ m, i * s = m := ⟨_, rfl⟩
    have hm' : (i : Int) * (s : Int) = (m : Int) := by rw [← hm, Int.natCast_mul]
    rw [hm] at cc hp hm16
    obtain ⟨q, hq⟩ : ∃ q, m + j = q := ⟨_, rfl⟩
    have hq' : (m : Int) + (j : Int) = (q : Int) := by omega
    rw [hq] at cc hp
    rw [hn] at HE0 cc ⊢
    have hqn : (q : Int) < n := by omega
    have hq16 : q ≤ 300 := by omega
    obtain ⟨b, hb⟩ : ∃ b, lk L s i j = b := ⟨_, rfl⟩
    rw [hb] at cc ⊢
    clear k hl hE0 h1 h2 hn hln hc hgt hm hq hb hi hj hp
    go_enter Try.func24, Try.ntmps24
    go_wp2_with (first | (have hx := X1; clear hx; go_at_call 23; refine (HW2.out _).mono ?_; rintro e w1 ⟨rfl, hw⟩; subst w1) | (go_at_call 23; refine (HW1.out _).mono ?_; rintro e w1 ⟨rfl, hw⟩; subst w1; have X1 := trivial))
    go_ret
    exact ⟨rfl, HE0.out⟩
theorem rleaf_calls (w : World) (l s h n c : Nat) (A : Option Addr) (a : Int) (hl : 1 ≤ l ∧ l ≤ 16) (hh : 1 ≤ h ∧ h ≤ 64) : Calls Try.prog 25 #[.agg (nG l s h A n c), .int .i64 a] w fun e w' => e = .returned (.tuple #[.int .i64 (lfV l h a), .bool (lfB l h a)]) ∧ Ext N0 w w' := by
  have HE0 : Hid (Ext N0 w (w.alloc (.cells (nG l s h A n c) 42))) := Lib.hid ((Ext.refl _ _).alloc _)
  have hm := mulIn hl.2 hh.2
  unfold lfV
  obtain ⟨H, hH⟩ : ∃ H, l * h = H := ⟨_, rfl⟩
  have hH' : (l : Int) * (h : Int) = (H : Int) := by rw [← hH, Int.natCast_mul]
  rw [hH] at hm
  have HW1 := Lib.hid (fun W => within_calls W a 0 ((H : Int) - 1))
  by_cases h1 : 0 ≤ a ∧ a ≤ (H : Int) - 1
  · have hF : lfB l h a = true := decide_eq_true (by rw [hH]; omega)
    rw [hF]
    simp only [decide_eq_true h1] at HW1
    obtain ⟨k, rfl⟩ : ∃ k : Nat, a = k := ⟨a.toNat, by omega⟩
    simp only [Int.toNat_natCast, if_true]
    have hq : k / h ≤ k := Nat.div_le_self k h
    have q : (k : Int).tdiv (h : Int) = ((k / h : Nat) : Int) := Int.ofNat_tdiv k h
    obtain ⟨v, hv⟩ : ∃ v, k / h = v := ⟨_, rfl⟩
    rw [hv] at hq q ⊢
    have hz : ¬ (h : Int) = 0 := by omega
    have hvb : v ≤ 1024 := by omega
    clear hv hF h1 hH hq
    go_enter Try.func25, Try.ntmps25
    go_wp2_with (go_at_call 23; refine (HW1.out _).mono ?_; rintro e w1 ⟨rfl, hw⟩; subst w1)
    exact bodyPost_ret (v := .tuple #[.int .i64 v, .bool true]) (by simp [results, Try.results25, go_sem]) rfl ⟨rfl, HE0.out⟩
  · have hF : lfB l h a = false := decide_eq_false (by rw [hH]; omega)
    rw [hF]
    simp only [decide_eq_false h1] at HW1
    clear hF h1 hH
    go_enter Try.func25, Try.ntmps25
    go_wp2_with (go_at_call 23; refine (HW1.out _).mono ?_; rintro e w1 ⟨rfl, hw⟩; subst w1)
    exact bodyPost_ret (v := .tuple #[.int .i64 0, .bool false]) (by simp [results, Try.results25, go_sem]) rfl ⟨rfl, HE0.out⟩
end Go.Proofs.Ytjnfapkjmgilcaa
