/- Contracts of functions of the package and of its reference, each proved for every value that its statement lets in (the conditions stand in the statements). -/
import Derived.Test.YtnmdgkloehbkcaaAd
import Derived.Laws.BitsLemmas
import Derived.WalkSpells
namespace Go.Proofs.Ytnmdgkloehbkcaa
open Go.RowKit

theorem info5 : (Try.prog.info? 5).map (fun i => (i.zero, i.size, i.bytes)) = some (some (.int .u8 0), 1, 1) := by kernel_rfl
theorem info22 : (Try.prog.info? 22).map (fun i => (i.zero, i.size, i.bytes)) = some (some (.slice none 0 0), 1, 24) := by kernel_rfl

theorem cut_calls (A : Option Addr) (n c : Nat) (w : World) (hn : n ≤ c) (hc : c ≤ 9223372036854775807) :
    Calls Try.prog 9 #[.slice A n c] w fun e w' => e = .returned (.slice A (min n 1500) c) ∧ w' = w := by
  by_cases h : n ≤ 1500
  · go_enter Try.func9, Try.ntmps9
    go_wp2
    go_ret
    exact ⟨retSl (Nat.min_eq_left h).symm, rfl⟩
  · go_enter Try.func9, Try.ntmps9
    go_wp2
    go_ret
    exact ⟨retSl (Nat.min_eq_right (by omega)).symm, rfl⟩

theorem wraps_u32 (n : Int) (h₀ : 0 ≤ n) (h₁ : n < 2 ^ 32) : IntKind.u32.wrap n = n := by rw [IntKind.wrap_u32]; omega
theorem bits_or16 (a b : Int) (ha : 0 ≤ a ∧ a < 65521) (hb : 0 ≤ b ∧ b < 65521) : bits .or .u32 (b * 65536) a = 65536 * b + a := by
  rw [bits_join .u32 32 (by decide) wraps_u32 16 (b * 65536) a (by omega) (by omega) (by omega) (by omega) (by omega) (by omega)]
  omega
theorem bits_and16 (a : Int) (h0 : 0 ≤ a) (h1 : a < 4294967296) : bits .and .u32 a 65535 = a % 65536 := bits_mask .u32 32 (by decide) wraps_u32 16 (by decide) a h0 (by omega)

theorem sum_calls (g T : Nat) (a b : Int) (rest : List Value) (w : World) (ha : 0 ≤ a ∧ a < 65521) (hb : 0 ≤ b ∧ b < 65521)
   (hI : w.heap[g]? = some (.cells (Value.int .u32 a :: Value.int .u32 b :: rest).toArray T (0, 0))) :
    Calls Try.prog 28 #[.pointer (some ⟨g, 0, none⟩)] w fun e w' => e = .returned (.int .u32 (65536 * b + a)) ∧ Ext N0 w w' := by
  have c0 := (blkCell hI 0).trans rfl
  have c1 := (blkCell hI 1).trans rfl
  simp at c0 c1
  have HI := Lib.hid hI
  clear hI
  have H := Lib.hid (bits_or16 a b ha hb)
  go_enter Try.func28, Try.ntmps28
  go_wp2
  go_quiet (fail)
  go_wp2
  go_ret
  exact ⟨retInt H.out, (Ext.refl _ _).drewN _⟩

/-- 'split': the pair by value. -/
theorem split_calls (s : Int) (w : World) (h0 : 0 ≤ s) (h1 : s < 4294967296) :
    Calls Try.prog 29 #[.int .u32 s] w fun e w' => e = .returned (.agg #[.int .u32 (s % 65536 % 65521), .int .u32 (s / 65536 % 65521)]) ∧ Ext N0 w w' := by
  have H := Lib.hid (bits_and16 s h0 h1)
  go_enter Try.func29, Try.ntmps29
  go_wp2
  refine bodyPost_ret (v := .agg #[.int .u32 ((bits .and .u32 s 65535).tmod 65521), .int .u32 (s / 65536 % 65521)]) (by simp [results, Try.results29, go_sem]) rfl ⟨?_, (Ext.refl _ _).alloc _⟩
  rw [H.out, Int.tmod_eq_emod_of_nonneg (by omega)]

/-- 'slices.Clone' of bytes: nil stays nil. -/
theorem clone_calls (A : Option Addr) (c : Nat) (xs : List Int) (w : World) (hr : Reads w A (ints .u8 xs)) (hn : xs.length ≤ 140737488355328) :
    Calls Try.prog 30 #[.slice A xs.length c] w fun e w' => ∃ v, e = .returned v ∧ w'.ownsRow w.heap.size 5 1 v xs.length (ints .u8 xs) ∧ Ext N0 w w' := by
  have qT : ∀ (w : World) (a : Option Addr) (n c n' c' : Nat), (binOp .eql 22 (.slice a n c) (.slice none n' c')).run Try.prog w = .ok (.bool a.isNone) w := fun w a n c n' c' => Lib.run_eql_slice_nil w _ _ a n c n' c' Try.underlying22
  rcases A with _ | ad
  · obtain rfl : xs = [] := by have := hr.isNil; simpa [ints] using this
    go_enter Try.func30, Try.ntmps30
    go_wp2
    go_ret
    exact ⟨_, rfl, ownNil _ _ _ _, Ext.refl _ _⟩
  · have hl : (ints .u8 xs).length = xs.length * 1 := by simp [ints]
    go_enter Try.func30, Try.ntmps30
    go_wp2_with (at_builtin; refine wpApp w.heap.size (.tmp 5) (.tmp 6) 22 5 (.int .u8 0) 1 1 rfl rfl Try.underlying22 info5 rfl (by decide) (by decide) _ 0 [] _ xs.length _ (ints .u8 xs) rfl rfl (ownLit _ _ _ _ _ _ (Nat.le_refl _) (by decide) rfl) hl (hr.mono0 ((Ext.refl _ _).alloc _)) (by simp [ints, Value.oneCell']) (by omega) (by simp) ?_; intro A' c' w' ho hE hat)
    go_ret
    simp only [Nat.zero_add, List.nil_append] at ho
    exact ⟨_, rfl, ho, ((Ext.refl _ _).alloc _).trans hE (fun k hk => .inr (by injection hk with hk; rw [← hk]; exact Nat.le_refl _))⟩
end Go.Proofs.Ytnmdgkloehbkcaa
