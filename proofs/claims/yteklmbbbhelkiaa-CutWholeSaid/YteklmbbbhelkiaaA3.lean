/- Contracts of functions of package cut and of its reference, each proved for every value that its statement lets in (the conditions stand in the statements). -/
import Derived.Test.YteklmbbbhelkiaaA2
import Derived.Laws.BytesArg
namespace Go.Proofs.Yteklmbbbhelkiaa
open Go.RowKit

/-- What may be cut. -/
def May (n m : Int) : Prop := (1 ≤ n ∧ n ≤ 65536) ∧ (1 ≤ m ∧ m ≤ 1024)
instance (n m : Int) : Decidable (May n m) := by unfold May; infer_instance
theorem may_yes (n m : Int) (w : World) (h : May n m) : Calls Try.prog 12 #[.int .i64 n, .int .i64 m] w fun e w' => e = .returned (.bool true) ∧ w' = w := may_calls n m w h.1.1 h.1.2 h.2.1 h.2.2
theorem may_no (n m : Int) (w : World) (h : ¬ May n m) : Calls Try.prog 12 #[.int .i64 n, .int .i64 m] w fun e w' => e = .returned (.bool false) ∧ w' = w := by
  by_cases h1 : 1 ≤ n
  · by_cases h2 : n ≤ 65536
    · by_cases h3 : 1 ≤ m
      · by_cases h4 : m ≤ 1024
        · exact absurd ⟨⟨h1, h2⟩, h3, h4⟩ h
        · go_enter Try.func12, Try.ntmps12
          go_wp2
          go_ret
          exact ⟨rfl, rfl⟩
      · go_enter Try.func12, Try.ntmps12
        go_wp2
        go_ret
        exact ⟨rfl, rfl⟩
    · go_enter Try.func12, Try.ntmps12
      go_wp2
      go_ret
      exact ⟨rfl, rfl⟩
  · go_enter Try.func12, Try.ntmps12
    go_wp2
    go_ret
    exact ⟨rfl, rfl⟩
/-- The count of the pieces, by definition. -/
def cnt (n m : Int) : Int := if May n m then (n - 1) / m + 1 else 0
theorem divBd {a m : Int} (ha : 0 ≤ a) (ha2 : a ≤ 70000) (hm : 1 ≤ m) : 0 ≤ a / m ∧ a / m ≤ 70000 := ⟨Int.ediv_nonneg ha (by omega), Int.le_trans (Int.ediv_le_self _ ha) ha2⟩
theorem cnt_bd (n m : Int) : 0 ≤ cnt n m ∧ cnt n m ≤ 70001 := by
  unfold cnt
  split
  · rename_i h
    have := divBd (a := n - 1) (m := m) (by have := h.1; omega) (by have := h.1; omega) h.2.1
    omega
  · omega
theorem count_calls (n m : Int) (w : World) : Calls Try.prog 9 #[.int .i64 n, .int .i64 m] w fun e w' => e = .returned (.int .i64 (cnt n m)) ∧ w' = w := by
  by_cases h : May n m
  · obtain ⟨⟨h1, h2⟩, h3, h4⟩ := h
    have hc := Lib.hid (show cnt n m = (n - 1) / m + 1 from if_pos ⟨⟨h1, h2⟩, h3, h4⟩)
    have hq : (n - 1).tdiv m = (n - 1) / m := Int.tdiv_eq_ediv_of_nonneg (by omega)
    have hb := divBd (a := n - 1) (m := m) (by omega) (by omega) h3
    have hw : IntKind.i64.wrap ((n - 1).tdiv m) = (n - 1) / m := by rw [hq]; exact IntWalk.i64_in _ (by omega)
    have hz : (m == 0) = false := beq_eq_false_iff_ne.mpr (by omega)
    go_enter Try.func9, Try.ntmps9
    go_wp2_with (refine (may_calls n m w h1 h2 h3 h4).mono ?_; rintro e w1 ⟨rfl, rfl⟩)
    go_ret
    exact ⟨retInt hc.out.symm, rfl⟩
  · have hc := Lib.hid (show cnt n m = 0 from if_neg h)
    go_enter Try.func9, Try.ntmps9
    go_wp2_with (refine (may_no n m w h).mono ?_; rintro e w1 ⟨rfl, rfl⟩)
    go_ret
    exact ⟨retInt hc.out.symm, rfl⟩
theorem rcount_calls (n m : Int) (w : World) (hn : -9223372036854775808 ≤ n ∧ n ≤ 9223372036854775807) (hm : -9223372036854775808 ≤ m ∧ m ≤ 9223372036854775807) :
    Calls Try.prog 10 #[.int .i64 n, .int .i64 m] w fun e w' => e = .returned (.int .i64 (cnt n m)) ∧ w' = w := by
  by_cases h1 : 1 ≤ n
  · by_cases h2 : n ≤ 65536
    · by_cases h3 : 1 ≤ m
      · by_cases h4 : m ≤ 1024
        · have hq : (n + m - 1).tdiv m = (n + m - 1) / m := Int.tdiv_eq_ediv_of_nonneg (by omega)
          have he : (n + m - 1) / m = (n - 1) / m + 1 := by
            have := Int.add_mul_ediv_right (n - 1) 1 (show m ≠ 0 by omega)
            rw [← this]
            congr 1
            omega
          have hb := divBd (a := n + m - 1) (m := m) (by omega) (by omega) h3
          have hw : IntKind.i64.wrap ((n + m - 1).tdiv m) = (n + m - 1) / m := by rw [hq]; exact IntWalk.i64_in _ (by omega)
          have hz : (m == 0) = false := beq_eq_false_iff_ne.mpr (by omega)
          have hc := Lib.hid (show cnt n m = (n - 1) / m + 1 from if_pos ⟨⟨h1, h2⟩, h3, h4⟩)
          go_enter Try.func10, Try.ntmps10
          go_wp2
          go_ret
          exact ⟨retInt hc.out.symm, rfl⟩
        · have hc := Lib.hid (show cnt n m = 0 from if_neg (fun h => h4 h.2.2))
          go_enter Try.func10, Try.ntmps10
          go_wp2
          go_ret
          exact ⟨retInt hc.out.symm, rfl⟩
      · have hc := Lib.hid (show cnt n m = 0 from if_neg (fun h => h3 h.2.1))
        go_enter Try.func10, Try.ntmps10
        go_wp2
        go_ret
        exact ⟨retInt hc.out.symm, rfl⟩
    · have hc := Lib.hid (show cnt n m = 0 from if_neg (fun h => h2 h.1.2))
      go_enter Try.func10, Try.ntmps10
      go_wp2
      go_ret
      exact ⟨retInt hc.out.symm, rfl⟩
  · have hc := Lib.hid (show cnt n m = 0 from if_neg (fun h => h1 h.1.1))
    go_enter Try.func10, Try.ntmps10
    go_wp2
    go_ret
    exact ⟨retInt hc.out.symm, rfl⟩
/-- 'few': at most 3000 bytes. -/
theorem few_calls (A : Option Addr) (n c : Nat) (w : World) (hn : n ≤ c) (hc : c ≤ 9223372036854775807) : Calls Try.prog 5 #[.slice A n c] w fun e w' => e = .returned (.slice A (min n 3000) c) ∧ w' = w := by
  by_cases h : n ≤ 3000
  · go_enter Try.func5, Try.ntmps5
    go_wp2
    go_ret
    exact ⟨retSl (by omega), rfl⟩
  · go_enter Try.func5, Try.ntmps5
    go_wp2
    go_ret
    exact ⟨retSl (by omega), rfl⟩
theorem fin_calls (w : World) : Calls Try.prog 15 #[] w fun e w' => e = .returned (.agg #[.slice none 0 0, .bool false, .bool true]) ∧ Ext N0 w w' := by
  go_enter Try.func15, Try.ntmps15
  go_wp2
  have k0 := (blkCell (blkNew w (.cells #[.slice none 0 0, .bool false, .bool true] 35)) 0).trans rfl
  have k1 := (blkCell (blkNew w (.cells #[.slice none 0 0, .bool false, .bool true] 35)) 1).trans rfl
  have k2 := (blkCell (blkNew w (.cells #[.slice none 0 0, .bool false, .bool true] 35)) 2).trans rfl
  refine bodyPost_ret (v := .agg #[.slice none 0 0, .bool false, .bool true]) ?_ rfl ⟨rfl, (Ext.refl _ _).alloc _⟩
  simp [results, Try.results15, go_sem, k0, k1, k2]
/-- string(x) of bytes of the call's own. -/
theorem ownStr {w : World} {base n : Nat} {A : Option Addr} {c : Nat} {xs : List Int} (h : w.ownsRow base 5 1 (.slice A n c) n (ints .u8 xs)) (hn : 0 < n) :
    (convert 22 9 (.slice A n c)).run Try.prog w = .ok (.string (strOfNums xs)) w := by
  have hl : xs.length = n := by have := h.1; simp [ints] at this; exact this
  obtain ⟨g, cap, hv, _, _⟩ := h.form hn
  injection hv with hv1 hv2 hv3
  subst hv1
  refine run_convert_bytes_arg w 22 5 Try.underlying22 Try.underlying5 g 0 n c xs hl (fun i hi => ?_) 9 Try.underlying9
  have := h.cellAt i (by omega)
  rw [ints_get _ _ _ (by omega)] at this
  simpa using this
/-- 'Same' of two pieces that tell the same. -/
theorem same_calls (A1 A2 : Option Addr) (c1 c2 : Nat) (xs : List Int) (b : Bool) (b1 b2 : Nat) (w : World) (hp : w.ownsRow b1 5 1 (.slice A1 xs.length c1) xs.length (ints .u8 xs)) (hq : w.ownsRow b2 5 1 (.slice A2 xs.length c2) xs.length (ints .u8 xs)) (h0 : 0 < xs.length) :
    Calls Try.prog 14 #[.agg #[.slice A1 xs.length c1, .bool b, .bool false], .agg #[.slice A2 xs.length c2, .bool b, .bool false]] w fun e w' => e = .returned (.bool true) ∧ Ext N0 w w' := by
  have hE : Ext N0 w ((w.alloc (.cells #[.slice A1 xs.length c1, .bool b, .bool false] 35)).alloc (.cells #[.slice A2 xs.length c2, .bool b, .bool false] 35)) := ((Ext.refl _ _).alloc _).alloc _
  have k1 := ownStr (ownKept0 hp hE) h0
  have k2 := ownStr (ownKept0 hq hE) h0
  have HE := Lib.hid hE
  clear hE
  go_enter Try.func14, Try.ntmps14
  go_wp2
  go_ret
  exact ⟨rfl, HE.out⟩
/-- 'Cut' of what may not be cut. -/
theorem cut_no (A : Option Addr) (n c : Nat) (m : Int) (w : World) (h : ¬ May n m) : Calls Try.prog 6 #[.slice A n c, .int .i64 m] w fun e w' => e = .returned (.tuple #[.slice none 0 0, .int .i64 110]) ∧ w' = w := by
  refine callsIn_wide (n := 0) |>.1 ?_
  refine callsIn_of_wp_marks Try.func6 rfl trivial ?_ rfl
  simp only [Try.ntmps6, List.size_toArray, List.length_cons, List.length_nil, Nat.reduceAdd, Nat.reduceSub, Array.replicate_succ, Array.replicate_zero, List.push_toArray, List.append_toArray, List.nil_append, List.cons_append]
  gi_wp2_with fail
  refine ⟨trivial, rfl, (callsIn_wide.2 (may_no _ _ _ h)).mono ?_⟩
  rintro e w' ⟨rfl, rfl⟩
  gi_wp2
  exact ⟨.tuple #[.slice none 0 0, .int .i64 110], by simp [results, Try.f6, go_sem], rfl, rfl⟩
end Go.Proofs.Yteklmbbbhelkiaa
