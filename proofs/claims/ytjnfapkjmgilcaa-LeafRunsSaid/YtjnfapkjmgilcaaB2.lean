/- Package leaf: New, Hosts, Leaf, Fail, Mend, Links (the conditions stand in the statements). -/
import Derived.Test.YtjnfapkjmgilcaaB1
namespace Go.Proofs.Ytjnfapkjmgilcaa
open Go.RowKit
theorem posDiv {s j : Nat} (i : Nat) (hj : j < s) : (i * s + j) / s = i ∧ (i * s + j) % s = j := by
  have hs : 0 < s := by omega
  constructor
  · rw [Nat.mul_comm, Nat.mul_add_div hs, Nat.div_eq_of_lt hj, Nat.add_zero]
  · rw [Nat.mul_comm, Nat.mul_add_mod, Nat.mod_eq_of_lt hj]
theorem posInj {s i i' j j' : Nat} (hj : j < s) (hj' : j' < s) (e : i * s + j = i' * s + j') : i = i' ∧ j = j' := by
  have h1 := posDiv i hj
  have h2 := posDiv i' hj'
  rw [e] at h1
  exact ⟨h1.1.symm.trans h2.1, h1.2.symm.trans h2.2⟩
theorem posLt {l s i j : Nat} (hi : i < l) (hj : j < s) : i * s + j < l * s := by
  have : (i + 1) * s ≤ l * s := Nat.mul_le_mul_right s hi
  rw [Nat.add_mul] at this
  omega
theorem lk_set {L : List Bool} {l s i j : Nat} (hL : L.length = l * s) (hi : i < l) (hj : j < s) (b : Bool) {i' j' : Nat} (hj' : j' < s) : lk (L.set (i * s + j) b) s i' j' = if i = i' ∧ j = j' then b else lk L s i' j' := by
  unfold lk
  rw [List.getD_eq_getElem?_getD, List.getD_eq_getElem?_getD]
  by_cases e : i = i' ∧ j = j'
  · obtain ⟨rfl, rfl⟩ := e
    rw [if_pos ⟨rfl, rfl⟩, List.getElem?_set_self (by rw [hL]; exact posLt hi hj)]
    rfl
  · rw [if_neg e, List.getElem?_set_ne (fun h => e (posInj hj hj' h))]
theorem IsNet.set {w : World} {g l s h : Nat} {L : List Bool} (k : IsNet w g l s h L) {i j : Nat} (hi : i < l) (hj : j < s) (b : Bool) : IsNet (w.setCell ⟨g, 3 + i * 16 + j, none⟩ (.bool (!b))) g l s h (L.set (i * s + j) b) := by
  obtain ⟨⟨cs, h1, h2⟩, h3, h4, h5, h6⟩ := k
  refine ⟨⟨_, blkSet h1 _ _, ⟨by simpa using h2.sz, ?_, ?_, ?_, fun i' j' hi' hj' => ?_⟩⟩, by rw [List.length_set]; exact h3, h4, h5, h6⟩
  · rw [Array.getElem?_setIfInBounds_ne (by omega)]; exact h2.c0
  · rw [Array.getElem?_setIfInBounds_ne (by omega)]; exact h2.c1
  · rw [Array.getElem?_setIfInBounds_ne (by omega)]; exact h2.c2
  · rw [lk_set h3 hi hj b hj']
    by_cases e : i = i' ∧ j = j'
    · obtain ⟨rfl, rfl⟩ := e
      rw [if_pos ⟨rfl, rfl⟩, Array.getElem?_setIfInBounds_self_of_lt (by rw [h2.sz]; omega)]
    · rw [if_neg e, Array.getElem?_setIfInBounds_ne (by omega)]
      exact h2.br i' j' hi' hj'
theorem wk_in' {l s i j : Nat} {L : List Bool} (hi : i < l) (hj : j < s) : wk L l s i j = lk L s i j := by
  unfold wk
  rw [show inN l s i j = true from decide_eq_true (by omega), Bool.true_and]
  rfl
theorem mulIn {l h : Nat} (hl : l ≤ 16) (hh : h ≤ 64) : l * h ≤ 1024 := Nat.mul_le_mul hl hh
theorem hosts_calls (w : World) (g l s h : Nat) (L : List Bool) (k : IsNet w g l s h L) : Calls Try.prog 31 #[.pointer (some ⟨g, 0, none⟩)] w fun e w' => e = .returned (.int .i64 (l * h : Nat)) ∧ Ext N0 w w' := by
  obtain ⟨c0, c1, c2⟩ := k.cells
  have HN := Lib.hid (none_calls w g l s h L k)
  have hm := mulIn k.lb.2 k.hb.2
  have e : IntKind.i64.wrap ((l : Int) * (h : Int)) = ((l * h : Nat) : Int) := by
    rw [← Int.natCast_mul]
    exact IntWalk.i64_in _ (by omega)
  clear k hm
  go_enter Try.func31, Try.ntmps31
  go_wp2_with (go_at_call 22; refine HN.out.mono ?_; rintro e w1 ⟨rfl, hw⟩; subst hw)
  go_quiet (fail)
  go_wp2
  go_ret
  exact ⟨retInt (by first | exact e | rfl), (Ext.refl _ _).drewN _⟩
/-- A host's leaf. -/
def lfB (l h : Nat) (a : Int) : Bool := decide (0 ≤ a ∧ a < (l * h : Nat))
def lfV (l h : Nat) (a : Int) : Nat := if lfB l h a = true then a.toNat / h else 0
theorem leaf_calls (w : World) (g l s h : Nat) (L : List Bool) (a : Int) (k : IsNet w g l s h L) : Calls Try.prog 18 #[.pointer (some ⟨g, 0, none⟩), .int .i64 a] w fun e w' => e = .returned (.tuple #[.int .i64 (lfV l h a), .bool (lfB l h a)]) ∧ Ext N0 w w' := by
  obtain ⟨c0, c1, c2⟩ := k.cells
  have HN := Lib.hid (hosts_calls w g l s h L k)
  have hh := k.hb
  have hm := mulIn k.lb.2 k.hb.2
  unfold lfV
  clear c0 c1 k
  obtain ⟨H, hH⟩ : ∃ H, l * h = H := ⟨_, rfl⟩
  rw [hH] at HN hm
  have hcs : a < 0 ∨ (0 ≤ a ∧ (H : Int) ≤ a) ∨ (0 ≤ a ∧ a < H) := by omega
  rcases hcs with h1 | ⟨h1, h2⟩ | ⟨h1, h2⟩
  · have hF : lfB l h a = false := decide_eq_false (by rw [hH]; omega)
    rw [hF]
    clear hF hH
    go_enter Try.func18, Try.ntmps18
    go_wp2
    exact bodyPost_ret (v := .tuple #[.int .i64 0, .bool false]) (by simp [results, Try.results18, go_sem]) rfl ⟨rfl, Ext.refl _ _⟩
  · have hF : lfB l h a = false := decide_eq_false (by rw [hH]; omega)
    rw [hF]
    clear hF hH
    go_enter Try.func18, Try.ntmps18
    go_wp2_with (go_at_call 31; refine HN.out.mono ?_; rintro e w1 ⟨rfl, hE⟩; have HE := Lib.hid hE; clear hE)
    exact bodyPost_ret (v := .tuple #[.int .i64 0, .bool false]) (by simp [results, Try.results18, go_sem]) rfl ⟨rfl, HE.out⟩
  · have hF : lfB l h a = true := decide_eq_true (by rw [hH]; omega)
    rw [hF]
    clear hF hH
    obtain ⟨n, rfl⟩ : ∃ n : Nat, a = n := ⟨a.toNat, by omega⟩
    simp only [Int.toNat_natCast, if_true]
    have hq : n / h ≤ n := Nat.div_le_self n h
    have q : (n : Int).tdiv (h : Int) = ((n / h : Nat) : Int) := Int.ofNat_tdiv n h
    obtain ⟨v, hv⟩ : ∃ v, n / h = v := ⟨_, rfl⟩
    rw [hv] at hq q ⊢
    have hz : ¬ (h : Int) = 0 := by omega
    clear hv
    go_enter Try.func18, Try.ntmps18
    go_wp2_with (go_at_call 31; refine HN.out.mono ?_; rintro e w1 ⟨rfl, hE⟩; have c2' := hE.cell c2 (fun x => x); have HE := Lib.hid hE; clear hE)
    exact bodyPost_ret (v := .tuple #[.int .i64 v, .bool true]) (by simp [results, Try.results18, go_sem]) rfl ⟨rfl, HE.out⟩
/-- A link that there is turned. -/
theorem turn_yes (w : World) (g l s h : Nat) (L : List Bool) (i j : Nat) (b : Bool) (k : IsNet w g l s h L) (hi : i < l) (hj : j < s) : Calls Try.prog 20 #[.pointer (some ⟨g, 0, none⟩), .int .i64 i, .int .i64 j, .bool b] w fun e w' => e = .returned (.tuple #[.bool (lk L s i j == b), .int .i64 0]) ∧ IsNet w' g l s h (L.set (i * s + j) (!b)) ∧ Ext (At g) w w' := by
  have c := k.br hi hj
  have f := k.frozen (3 + i * 16 + j)
  have HN := Lib.hid (none_calls w g l s h L k)
  have HH := Lib.hid (has_calls w g l s h L i j k)
  rw [show inN l s i j = true from decide_eq_true (by omega)] at HH
  have h1 : (i : Int) < 16 := by have := k.lb; omega
  have h2 : (j : Int) < 16 := by have := k.sb; omega
  have HX := Lib.hid (And.intro (k.set hi hj (!b)) (extSet w g (3 + i * 16 + j) (.bool b)))
  rw [Bool.not_not] at HX
  obtain ⟨was, hwas⟩ : ∃ was, lk L s i j = was := ⟨_, rfl⟩
  rw [hwas] at c ⊢
  clear k hi hj hwas
  go_enter Try.func20, Try.ntmps20
  go_wp2_with (first | (go_at_call 22; refine HN.out.mono ?_; rintro e w1 ⟨rfl, hw⟩; subst hw) | (go_at_call 33; refine HH.out.mono ?_; rintro e w1 ⟨rfl, hw⟩; subst hw))
  exact bodyPost_ret (v := .tuple #[.bool (!((!was) == b)), .int .i64 0]) (by simp [results, Try.results20, go_sem]) rfl ⟨by cases was <;> cases b <;> rfl, HX.out.1, HX.out.2⟩
theorem turn_no (w : World) (g l s h : Nat) (L : List Bool) (x y : Int) (b : Bool) (k : IsNet w g l s h L) (hin : inN l s x y = false) : Calls Try.prog 20 #[.pointer (some ⟨g, 0, none⟩), .int .i64 x, .int .i64 y, .bool b] w fun e w' => e = .returned (.tuple #[.bool false, .int .i64 5]) ∧ w' = w := by
  have HN := Lib.hid (none_calls w g l s h L k)
  have HH := Lib.hid (has_calls w g l s h L x y k)
  rw [hin] at HH
  clear k hin
  go_enter Try.func20, Try.ntmps20
  go_wp2_with (first | (go_at_call 22; refine HN.out.mono ?_; rintro e w1 ⟨rfl, hw⟩; subst hw) | (go_at_call 33; refine HH.out.mono ?_; rintro e w1 ⟨rfl, hw⟩; subst hw))
  exact bodyPost_ret (v := .tuple #[.bool false, .int .i64 5]) (by simp [results, Try.results20, go_sem]) rfl ⟨rfl, rfl⟩
theorem fail_yes (w : World) (g l s h : Nat) (L : List Bool) (i j : Nat) (k : IsNet w g l s h L) (hi : i < l) (hj : j < s) : Calls Try.prog 8 #[.pointer (some ⟨g, 0, none⟩), .int .i64 i, .int .i64 j] w fun e w' => e = .returned (.tuple #[.bool (lk L s i j), .int .i64 0]) ∧ IsNet w' g l s h (L.set (i * s + j) false) ∧ Ext (At g) w w' := by
  have HT := Lib.hid (turn_yes w g l s h L i j true k hi hj)
  clear k hi hj
  go_enter Try.func8, Try.ntmps8
  go_wp2_with (go_at_call 20; refine HT.out.mono ?_; rintro e w1 ⟨rfl, hX⟩; have HX := Lib.hid hX; clear hX)
  exact bodyPost_ret (v := .tuple #[.bool (lk L s i j), .int .i64 0]) (by simp [results, Try.results8, go_sem]) rfl ⟨rfl, HX.out⟩
theorem fail_no (w : World) (g l s h : Nat) (L : List Bool) (x y : Int) (k : IsNet w g l s h L) (hin : inN l s x y = false) : Calls Try.prog 8 #[.pointer (some ⟨g, 0, none⟩), .int .i64 x, .int .i64 y] w fun e w' => e = .returned (.tuple #[.bool false, .int .i64 5]) ∧ w' = w := by
  have HT := Lib.hid (turn_no w g l s h L x y true k hin)
  clear k hin
  go_enter Try.func8, Try.ntmps8
  go_wp2_with (go_at_call 20; refine HT.out.mono ?_; rintro e w1 ⟨rfl, hw⟩; subst hw)
  exact bodyPost_ret (v := .tuple #[.bool false, .int .i64 5]) (by simp [results, Try.results8, go_sem]) rfl ⟨rfl, rfl⟩
theorem mend_yes (w : World) (g l s h : Nat) (L : List Bool) (i j : Nat) (k : IsNet w g l s h L) (hi : i < l) (hj : j < s) : Calls Try.prog 10 #[.pointer (some ⟨g, 0, none⟩), .int .i64 i, .int .i64 j] w fun e w' => e = .returned (.tuple #[.bool (!lk L s i j), .int .i64 0]) ∧ IsNet w' g l s h (L.set (i * s + j) true) ∧ Ext (At g) w w' := by
  have HT := Lib.hid (turn_yes w g l s h L i j false k hi hj)
  clear k hi hj
  go_enter Try.func10, Try.ntmps10
  go_wp2_with (go_at_call 20; refine HT.out.mono ?_; rintro e w1 ⟨rfl, hX⟩; have HX := Lib.hid hX; clear hX)
  exact bodyPost_ret (v := .tuple #[.bool (!lk L s i j), .int .i64 0]) (by simp [results, Try.results10, go_sem]) rfl ⟨by simp, HX.out⟩
theorem mend_no (w : World) (g l s h : Nat) (L : List Bool) (x y : Int) (k : IsNet w g l s h L) (hin : inN l s x y = false) : Calls Try.prog 10 #[.pointer (some ⟨g, 0, none⟩), .int .i64 x, .int .i64 y] w fun e w' => e = .returned (.tuple #[.bool false, .int .i64 5]) ∧ w' = w := by
  have HT := Lib.hid (turn_no w g l s h L x y false k hin)
  clear k hin
  go_enter Try.func10, Try.ntmps10
  go_wp2_with (go_at_call 20; refine HT.out.mono ?_; rintro e w1 ⟨rfl, hw⟩; subst hw)
  exact bodyPost_ret (v := .tuple #[.bool false, .int .i64 5]) (by simp [results, Try.results10, go_sem]) rfl ⟨rfl, rfl⟩
theorem links_calls (p : Option Addr) (w : World) : Calls Try.prog 32 #[.pointer p] w fun e w' => e = .returned (.func (.func 35) #[] #[.pointer (some ⟨w.heap.size, 0, none⟩)]) ∧ w' = w.alloc (.cells #[.pointer p] 23) := by
  go_enter Try.func32, Try.ntmps32
  go_wp2
  go_ret
  exact ⟨rfl, rfl⟩
/-- May a network be so large? -/
def newB (x y z : Int) : Bool := decide (1 ≤ x ∧ x ≤ 16 ∧ 1 ≤ y ∧ y ≤ 16 ∧ 1 ≤ z ∧ z ≤ 64)
theorem new_bad (w : World) (x y z : Int) (hb : newB x y z = false) : Calls Try.prog 5 #[.int .i64 x, .int .i64 y, .int .i64 z] w fun e w' => e = .returned (.tuple #[.pointer none, .int .i64 370]) ∧ w' = w := by
  have hb := of_decide_eq_false hb
  have hcs : x < 1 ∨ (1 ≤ x ∧ 16 < x) ∨ (1 ≤ x ∧ x ≤ 16 ∧ y < 1) ∨ (1 ≤ x ∧ x ≤ 16 ∧ 1 ≤ y ∧ 16 < y) ∨ (1 ≤ x ∧ x ≤ 16 ∧ 1 ≤ y ∧ y ≤ 16 ∧ z < 1) ∨ (1 ≤ x ∧ x ≤ 16 ∧ 1 ≤ y ∧ y ≤ 16 ∧ 1 ≤ z ∧ 64 < z) := by omega
  clear hb
  rcases hcs with h1 | ⟨h1, h2⟩ | ⟨h1, h2, h3⟩ | ⟨h1, h2, h3, h4⟩ | ⟨h1, h2, h3, h4, h5⟩ | ⟨h1, h2, h3, h4, h5, h6⟩
  all_goals
    go_enter Try.func5, Try.ntmps5
    go_wp2
    exact bodyPost_ret (v := .tuple #[.pointer none, .int .i64 370]) (by simp [results, Try.results5, go_sem]) rfl ⟨rfl, rfl⟩
/-- The cells of a network that nothing was put into. -/
theorem zero54 : ∃ zs : Array Value, (∀ w, (zeroValue 54).run Try.prog w = .ok (.agg zs) w) ∧ zs.size = 259 ∧ ∀ i, i < 256 → zs[3 + i]? = some (.bool false) := by
  refine ⟨#[.int .i64 0, .int .i64 0, .int .i64 0] ++ Array.replicate 256 (.bool false), fun w => by kernel_rfl, by simp, fun i h => ?_⟩
  rw [Array.getElem?_append_right (by simp), Array.getElem?_replicate, if_pos (by simp; omega)]
theorem netNew {zs : Array Value} (z : zs.size = 259) (hz : ∀ i, i < 256 → zs[3 + i]? = some (.bool false)) {l s h : Nat} (hl : l ≤ 16) (hs : s ≤ 16) : NetC (((zs.setIfInBounds 0 (.int .i64 l)).setIfInBounds 1 (.int .i64 s)).setIfInBounds 2 (.int .i64 h)) l s h (List.replicate (l * s) true) := by
  refine ⟨by simpa using z, ?_, ?_, ?_, fun i j hi hj => ?_⟩
  · rw [Array.getElem?_setIfInBounds_ne (by omega), Array.getElem?_setIfInBounds_ne (by omega), Array.getElem?_setIfInBounds_self_of_lt (by omega)]
  · rw [Array.getElem?_setIfInBounds_ne (by omega), Array.getElem?_setIfInBounds_self_of_lt (by simp; omega)]
  · rw [Array.getElem?_setIfInBounds_self_of_lt (by simp; omega)]
  · rw [Array.getElem?_setIfInBounds_ne (by omega), Array.getElem?_setIfInBounds_ne (by omega), Array.getElem?_setIfInBounds_ne (by omega), Nat.add_assoc, hz _ (by omega)]
    unfold lk
    rw [List.getD_eq_getElem?_getD, List.getElem?_replicate, if_pos (posLt hi hj)]
    rfl
theorem new_good (w : World) (l s h : Nat) (hl : 1 ≤ l ∧ l ≤ 16) (hs : 1 ≤ s ∧ s ≤ 16) (hh : 1 ≤ h ∧ h ≤ 64) : Calls Try.prog 5 #[.int .i64 l, .int .i64 s, .int .i64 h] w fun e w' => e = .returned (.tuple #[.pointer (some ⟨w.heap.size, 0, none⟩), .int .i64 0]) ∧ IsNet w' w.heap.size l s h (List.replicate (l * s) true) ∧ Ext N0 w w' := by
  obtain ⟨zs, z0, hz1, hz2⟩ := zero54
  have HI := Lib.hid (show IsNet (w.alloc (.cells (((zs.setIfInBounds 0 (.int .i64 l)).setIfInBounds 1 (.int .i64 s)).setIfInBounds 2 (.int .i64 h)) 54)) w.heap.size l s h (List.replicate (l * s) true) from ⟨⟨_, blkNew _ _, netNew hz1 hz2 hl.2 hs.2⟩, by simp, hl, hs, hh⟩)
  obtain ⟨h1, h2⟩ := hl
  obtain ⟨h3, h4⟩ := hs
  obtain ⟨h5, h6⟩ := hh
  have z1 : ¬ zs = #[] := fun h => by rw [h] at hz1; simp at hz1
  have z2 : ¬ zs.size < 2 := by omega
  have z3 : ¬ zs.size < 3 := by omega
  clear hz1 hz2
  have k1 : 1 ≤ (l : Int) := by omega
  have k2 : (l : Int) ≤ 16 := by omega
  have k3 : 1 ≤ (s : Int) := by omega
  have k4 : (s : Int) ≤ 16 := by omega
  have k5 : 1 ≤ (h : Int) := by omega
  have k6 : (h : Int) ≤ 64 := by omega
  go_enter Try.func5, Try.ntmps5
  go_wp2
  exact bodyPost_ret (v := .tuple #[.pointer (some ⟨w.heap.size, 0, none⟩), .int .i64 0]) (by simp [results, Try.results5, go_sem]) rfl ⟨rfl, HI.out, (Ext.refl _ _).alloc _⟩
end Go.Proofs.Ytjnfapkjmgilcaa
