/- Contracts of functions of package meter, each proved for every value that its statement lets in (the conditions stand in the statements). -/
import Derived.Test.YthjeaalnlagpbaaProg
import Derived.Test.YthjeaalnlagpbaaMp
import Derived.WalkSpells
import Derived.Outline
import Derived.BigRegion
import Derived.BigQuiet
import Derived.Deep.RegionHeld3
namespace Go.Proofs.Ythjeaalnlagpbaa
open Go.RowKit Go.Maps

/-- A bucket: tokens, at. -/
abbrev Bu := Int × Int
def buV (a : Bu) : Value := .agg #[.int .i64 a.1, .int .i64 a.2]
def buD (a : Bu) : DataW Unit := .agg [.lit (.int .i64 a.1), .lit (.int .i64 a.2)]
noncomputable def buR : Value → Option (DataW Unit × List MemPlace) := tellR buV buD
theorem buT : Tells buR buV buD := tells
  (fun a b h => by
    unfold buV at h
    simp at h
    exact Prod.ext h.1 h.2)
  (fun a b h => by
    unfold buD at h
    injection h with h
    simp at h
    exact Prod.ext h.1 h.2)
theorem wait_calls (r b n : Int) (w : World) (hr : 1 ≤ r ∧ r ≤ 1048576) (hn : -2000000000 ≤ n ∧ n ≤ 2000000000) : Calls Try.prog 36 #[.agg #[.int .i64 r, .int .i64 b], .int .i64 n] w fun e w' => e = .returned (.int .i64 ((max 0 n + r - 1) / r)) ∧ Ext N0 w w' := by
  have hq : (max 0 n + r - 1).tdiv r = (max 0 n + r - 1) / r := Int.tdiv_eq_ediv_of_nonneg (by omega)
  have h0 : 0 ≤ (max 0 n + r - 1) / r := Int.ediv_nonneg (by omega) (by omega)
  have h1 : (max 0 n + r - 1) / r ≤ max 0 n + r - 1 := Int.ediv_le_self _ (by omega)
  have hz : (r == 0) = false := beq_eq_false_iff_ne.mpr (by omega)
  have hw : IntKind.i64.wrap ((max 0 n + r - 1).tdiv r) = (max 0 n + r - 1) / r := by rw [hq]; exact IntWalk.i64_in _ (by omega)
  obtain ⟨m, hm, hcs⟩ : ∃ m, max 0 n = m ∧ ((0 < n ∧ m = n) ∨ (¬ 0 < n ∧ m = 0)) := ⟨_, rfl, by omega⟩
  rw [hm] at hq h0 h1 hw
  rw [hm]
  clear hm hq
  rcases hcs with ⟨hc, rfl⟩ | ⟨hc, rfl⟩
  · go_enter Try.func36, Try.ntmps36
    go_wp2
    go_ret
    exact ⟨rfl, (Ext.refl _ _).alloc _⟩
  · go_enter Try.func36, Try.ntmps36
    go_wp2
    go_ret
    exact ⟨rfl, (Ext.refl _ _).alloc _⟩
/-- How many tokens there are behind so many ticks, by definition. -/
def afterV (r b tok ticks : Int) : Int := min b (tok + r * ticks)
theorem after_need {r b tok ticks : Int} (hr : 1 ≤ r) (_ht : 0 ≤ ticks) (hb : tok ≤ b) : (max 0 (b - tok) + r - 1) / r ≤ ticks ↔ b ≤ tok + r * ticks := by
  rw [show max 0 (b - tok) = b - tok by omega]
  constructor
  · intro h
    have h1 := Int.lt_ediv_add_one_mul_self (b - tok + r - 1) (show 0 < r by omega)
    have h2 : ((b - tok + r - 1) / r + 1) * r ≤ (ticks + 1) * r := Int.mul_le_mul_of_nonneg_right (by omega) (by omega)
    have h3 : (ticks + 1) * r = r * ticks + r := by rw [Int.add_mul, Int.one_mul, Int.mul_comm]
    omega
  · intro h
    have h1 : (b - tok + r - 1) / r ≤ (r * ticks + r - 1) / r := Int.ediv_le_ediv (by omega) (by omega)
    have h2 : (r * ticks + r - 1) / r = ticks := by
      rw [show r * ticks + r - 1 = (r - 1) + ticks * r by rw [Int.mul_comm]; omega, Int.add_mul_ediv_right _ _ (by omega), Int.ediv_eq_zero_of_lt (by omega) (by omega)]
      omega
    omega
theorem after_calls (r b tok ticks : Int) (w : World) (hr : 1 ≤ r ∧ r ≤ 1048576) (hb : 1 ≤ b ∧ b ≤ 1073741824) (htk : 0 ≤ tok ∧ tok ≤ b) (ht : 0 ≤ ticks) :
    Calls Try.prog 35 #[.agg #[.int .i64 r, .int .i64 b], .int .i64 tok, .int .i64 ticks] w fun e w' => e = .returned (.int .i64 (afterV r b tok ticks)) ∧ Ext N0 w w' := by
  have hn := after_need (b := b) (tok := tok) hr.1 ht htk.2
  obtain ⟨q, hq⟩ : ∃ q, (max 0 (b - tok) + r - 1) / r = q := ⟨_, rfl⟩
  have hW := fun W => wait_calls r b (b - tok) W hr (by omega)
  rw [hq] at hn
  simp only [hq] at hW
  have HW := Lib.hid hW
  clear hW hq
  by_cases h : q ≤ ticks
  · have e : afterV r b tok ticks = b := by have := hn.1 h; unfold afterV; omega
    rw [e]
    clear e hn
    go_enter Try.func35, Try.ntmps35
    go_wp2_with (go_at_call 36; refine (HW.out _).mono ?_; rintro e w1 ⟨rfl, hE⟩; have c0 := (blkCell (hE.blk0 (blkNew w (.cells #[.int .i64 r, .int .i64 b] 65))) 0).trans rfl; have c1 := (blkCell (hE.blk0 (blkNew w (.cells #[.int .i64 r, .int .i64 b] 65))) 1).trans rfl)
    go_ret
    exact ⟨rfl, ((Ext.refl N0 w).alloc _).then0 hE⟩
  · obtain ⟨m, hm⟩ : ∃ m, r * ticks = m := ⟨_, rfl⟩
    have e : afterV r b tok ticks = tok + m := by have : ¬ b ≤ tok + r * ticks := fun h' => h (hn.2 h'); unfold afterV; omega
    have hb2 : tok + m < b := by have : ¬ b ≤ tok + r * ticks := fun h' => h (hn.2 h'); omega
    have hm0 : 0 ≤ m := by rw [← hm]; exact Int.mul_nonneg (by omega) ht
    rw [e]
    clear e hn
    go_enter Try.func35, Try.ntmps35
    go_wp2_with (go_at_call 36; refine (HW.out _).mono ?_; rintro e w1 ⟨rfl, hE⟩; have c0 := (blkCell (hE.blk0 (blkNew w (.cells #[.int .i64 r, .int .i64 b] 65))) 0).trans rfl; have c1 := (blkCell (hE.blk0 (blkNew w (.cells #[.int .i64 r, .int .i64 b] 65))) 1).trans rfl)
    go_ret
    exact ⟨rfl, ((Ext.refl N0 w).alloc _).then0 hE⟩
end Go.Proofs.Ythjeaalnlagpbaa
