/- A network of package leaf in memory, and what reads it (the conditions stand in the statements). -/
import Derived.Test.YtjnfapkjmgilcaaProg
import Derived.Test.YtjnfapkjmgilcaaRf
import Derived.WalkSpells
import Derived.Outline
import Derived.BigRegion
import Derived.BigQuiet
import Derived.Lib.SliceRun
namespace Go.Proofs.Ytjnfapkjmgilcaa
open Go.RowKit
theorem extSet (w : World) (g i : Nat) (v : Value) : Ext (At g) w (w.setCell ⟨g, i, none⟩ v) := (Ext.refl (At g) w).setCell (p := ⟨g, i, none⟩) (.inl (show g = g from rfl)) v
/-- The link of leaf i to spine j works. -/
def lk (L : List Bool) (s i j : Nat) : Bool := L.getD (i * s + j) false
/-- A network's cells. -/
structure NetC (cs : Array Value) (l s h : Nat) (L : List Bool) : Prop where
  sz : cs.size = 259
  c0 : cs[0]? = some (.int .i64 l)
  c1 : cs[1]? = some (.int .i64 s)
  c2 : cs[2]? = some (.int .i64 h)
  br : ∀ i j : Nat, i < l → j < s → cs[3 + i * 16 + j]? = some (.bool (!lk L s i j))
/-- .. in memory. -/
structure IsNet (w : World) (g l s h : Nat) (L : List Bool) : Prop where
  blk : ∃ cs, w.heap[g]? = some (.cells cs 54 (0, 0)) ∧ NetC cs l s h L
  len : L.length = l * s
  lb : 1 ≤ l ∧ l ≤ 16
  sb : 1 ≤ s ∧ s ≤ 16
  hb : 1 ≤ h ∧ h ≤ 64
section
variable {w w' : World} {g l s h : Nat} {L : List Bool}
theorem IsNet.kept (k : IsNet w g l s h L) {S : Nat → Prop} (hE : Ext S w w') (hn : ¬ S g) : IsNet w' g l s h L := by
  obtain ⟨⟨cs, h1, h2⟩, h3, h4, h5, h6⟩ := k
  exact ⟨⟨cs, hE.blk h1 hn, h2⟩, h3, h4, h5, h6⟩
theorem IsNet.kept0 (k : IsNet w g l s h L) (hE : Ext N0 w w') : IsNet w' g l s h L := k.kept hE (fun x => x)
theorem IsNet.lt (k : IsNet w g l s h L) : g < w.heap.size := by
  obtain ⟨⟨cs, h1, _⟩, _⟩ := k
  exact blkLt h1
theorem IsNet.cells (k : IsNet w g l s h L) : w.cell? ⟨g, 0, none⟩ = some (.int .i64 l) ∧ w.cell? ⟨g, 1, none⟩ = some (.int .i64 s) ∧ w.cell? ⟨g, 2, none⟩ = some (.int .i64 h) := by
  obtain ⟨⟨cs, h1, h2⟩, _⟩ := k
  exact ⟨(blkCell h1 0).trans h2.c0, (blkCell h1 1).trans h2.c1, (blkCell h1 2).trans h2.c2⟩
theorem IsNet.br (k : IsNet w g l s h L) {i j : Nat} (hi : i < l) (hj : j < s) : w.cell? ⟨g, 3 + i * 16 + j, none⟩ = some (.bool (!lk L s i j)) := by
  obtain ⟨⟨cs, h1, h2⟩, _⟩ := k
  exact (blkCell h1 _).trans (h2.br i j hi hj)
theorem IsNet.frozen (k : IsNet w g l s h L) (i : Nat) : w.frozen? ⟨g, i, none⟩ = false := by
  obtain ⟨⟨cs, h1, h2⟩, _⟩ := k
  exact blkFrozen h1 i
end
theorem none_calls (w : World) (g l s h : Nat) (L : List Bool) (k : IsNet w g l s h L) : Calls Try.prog 22 #[.pointer (some ⟨g, 0, none⟩)] w fun e w' => e = .returned (.bool false) ∧ w' = w := by
  obtain ⟨c0, _, _⟩ := k.cells
  have hl : ¬ (l : Int) = 0 := by have := k.lb; omega
  clear k
  go_enter Try.func22, Try.ntmps22
  go_wp2
  go_ret
  exact ⟨retBool (beq_eq_false_iff_ne.2 hl), rfl⟩
/-- Is there such a link? -/
def inN (l s : Nat) (x y : Int) : Bool := decide (0 ≤ x ∧ x < l ∧ 0 ≤ y ∧ y < s)
theorem has_calls (w : World) (g l s h : Nat) (L : List Bool) (x y : Int) (k : IsNet w g l s h L) : Calls Try.prog 33 #[.pointer (some ⟨g, 0, none⟩), .int .i64 x, .int .i64 y] w fun e w' => e = .returned (.bool (inN l s x y)) ∧ w' = w := by
  obtain ⟨c0, c1, _⟩ := k.cells
  have HN := Lib.hid (none_calls w g l s h L k)
  clear k
  have hcs : (x < 0) ∨ (0 ≤ x ∧ ¬ x < l) ∨ (0 ≤ x ∧ x < l ∧ y < 0) ∨ (0 ≤ x ∧ x < l ∧ 0 ≤ y ∧ ¬ y < s) ∨ (0 ≤ x ∧ x < l ∧ 0 ≤ y ∧ y < s) := by omega
  rcases hcs with h1 | ⟨h1, h2⟩ | ⟨h1, h2, h3⟩ | ⟨h1, h2, h3, h4⟩ | ⟨h1, h2, h3, h4⟩
  all_goals
    first
      | have HI := Lib.hid (show inN l s x y = false from decide_eq_false (by omega))
      | have HI := Lib.hid (show inN l s x y = true from decide_eq_true (by omega))
    go_enter Try.func33, Try.ntmps33
    go_wp2_with (go_at_call 22; refine HN.out.mono ?_; rintro e w1 ⟨rfl, hw⟩; subst hw)
    go_ret
    first
      | exact ⟨retBool HI.out.symm, rfl⟩
      | exact ⟨retBool (by rw [HI.out]; simp only [decide_eq_true_eq, decide_eq_false_iff_not]; omega), rfl⟩
/-- Does the link work? -/
def wk (L : List Bool) (l s : Nat) (x y : Int) : Bool := inN l s x y && lk L s x.toNat y.toNat
theorem works_calls (w : World) (g l s h : Nat) (L : List Bool) (x y : Int) (k : IsNet w g l s h L) : Calls Try.prog 19 #[.pointer (some ⟨g, 0, none⟩), .int .i64 x, .int .i64 y] w fun e w' => e = .returned (.bool (wk L l s x y)) ∧ w' = w := by
  have HN := Lib.hid (has_calls w g l s h L x y k)
  unfold wk
  by_cases hin : inN l s x y = true
  · have hb := of_decide_eq_true hin
    have hls := k.lb
    have hss := k.sb
    obtain ⟨i, rfl⟩ : ∃ i : Nat, x = i := ⟨x.toNat, by omega⟩
    obtain ⟨j, rfl⟩ : ∃ j : Nat, y = j := ⟨y.toNat, by omega⟩
    have c := k.br (i := i) (j := j) (by omega) (by omega)
    have h1 : (i : Int) < 16 := by omega
    have h2 : (j : Int) < 16 := by omega
    rw [hin] at HN ⊢
    simp only [Int.toNat_natCast]
    obtain ⟨b, hb2⟩ : ∃ b, lk L s i j = b := ⟨_, rfl⟩
    rw [hb2] at c ⊢
    clear k hin hb hls hss hb2
    go_enter Try.func19, Try.ntmps19
    go_wp2_with (go_at_call 33; refine HN.out.mono ?_; rintro e w1 ⟨rfl, hw⟩; subst hw)
    go_ret
    exact ⟨retBool (by simp), rfl⟩
  · have hin : inN l s x y = false := by simpa using hin
    rw [hin] at HN ⊢
    clear k hin
    go_enter Try.func19, Try.ntmps19
    go_wp2_with (go_at_call 33; refine HN.out.mono ?_; rintro e w1 ⟨rfl, hw⟩; subst hw)
    go_ret
    exact ⟨retBool rfl, rfl⟩
end Go.Proofs.Ytjnfapkjmgilcaa
