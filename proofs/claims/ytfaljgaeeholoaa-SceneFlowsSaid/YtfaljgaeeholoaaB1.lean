/- Contracts of functions of package draws and of its reference, each proved for every value that its statement lets in (the conditions stand in the statements). -/
import Derived.Test.YtfaljgaeeholoaaProg
import Derived.Test.YtfaljgaeeholoaaRf
import Derived.WalkSpells
import Derived.Outline
import Derived.BigRegion
import Derived.BigQuiet
import Derived.Deep.RegionHeld3
import Derived.Laws.Bits64
import Derived.Stop.RegionWithIn
namespace Go.Proofs.Ytfaljgaeeholoaa
open Go.RowKit
/-- z with itself, shifted down. -/
def turnV (z : Int) (k : Nat) : Int := bits .xor .u64 z (z / 2 ^ k)
def mixV (z : Int) : Int := turnV (IntKind.u64.wrap (turnV (IntKind.u64.wrap (turnV z 30 * 13787848793156543929)) 27 * 10723151780598845931)) 31
/-- A draw of a seed. -/
def atV (seed i : Int) : Int := mixV (IntKind.u64.wrap (seed + IntKind.u64.wrap (11400714819323198485 * IntKind.u64.wrap (IntKind.u64.wrap i + 1))))
def In64 (z : Int) : Prop := 0 ≤ z ∧ z < 18446744073709551616
theorem in64_wrap (z : Int) : In64 (IntKind.u64.wrap z) := by
  rw [IntKind.wrap_u64]
  exact ⟨Int.emod_nonneg _ (by decide), Int.emod_lt_of_pos _ (by decide)⟩
theorem in64_turn {z : Int} (h : In64 z) (k : Nat) : In64 (turnV z k) := by
  obtain ⟨x, rfl⟩ := Int.eq_ofNat_of_zero_le h.1
  have hx : x < 18446744073709551616 := by have := h.2; omega
  have e := xorShift_u64 x (2 ^ k) hx
  unfold turnV
  rw [show ((2 : Int) ^ k) = ((2 ^ k : Nat) : Int) by push_cast; rfl, e]
  have h2 : x / 2 ^ k < 2 ^ 64 := Nat.lt_of_le_of_lt (Nat.div_le_self _ _) (by simpa using hx)
  have := Nat.xor_lt_two_pow (n := 64) (x := x) (y := x / 2 ^ k) (by simpa using hx) h2
  unfold In64
  have h3 : (2 : Nat) ^ 64 = 18446744073709551616 := by decide
  rw [h3] at this
  omega
theorem in64_at (seed i : Int) : In64 (atV seed i) := by
  unfold atV mixV
  exact in64_turn (in64_wrap _) 31
theorem turn_calls (z k : Int) (w : World) (hk : 0 ≤ k ∧ k < 64) : Calls Try.prog 36 #[.int .u64 z, .int .u64 k] w fun e w' => e = .returned (.int .u64 (turnV z k.toNat)) ∧ w' = w := by
  go_enter Try.func36, Try.ntmps36
  go_wp2
  go_ret
  exact ⟨rfl, rfl⟩
theorem mixed_calls (z : Int) (w : World) : Calls Try.prog 35 #[.int .u64 z] w fun e w' => e = .returned (.int .u64 (mixV z)) ∧ w' = w := by
  go_enter Try.func35, Try.ntmps35
  go_wp2_with (go_at_call 36; refine (turn_calls _ _ _ (by decide)).mono ?_; rintro e w' ⟨rfl, rfl⟩)
  go_ret
  exact ⟨rfl, rfl⟩
theorem mix_calls (z : Int) (w : World) : Calls Try.prog 34 #[.int .u64 z] w fun e w' => e = .returned (.int .u64 (mixV z)) ∧ w' = w := by
  go_enter Try.func34, Try.ntmps34
  go_wp2
  go_ret
  exact ⟨rfl, rfl⟩
theorem at_calls (z i : Int) (w : World) : Calls Try.prog 33 #[.int .u64 z, .int .i64 i] w fun e w' => e = .returned (.int .u64 (atV z i)) ∧ w' = w := by
  go_enter Try.func33, Try.ntmps33
  go_wp2_with (go_at_call 35; refine (mixed_calls _ _).mono ?_; rintro e w' ⟨rfl, rfl⟩)
  go_ret
  exact ⟨rfl, rfl⟩
theorem rat_calls (z i : Int) (w : World) : Calls Try.prog 31 #[.int .u64 z, .int .i64 i] w fun e w' => e = .returned (.int .u64 (atV z i)) ∧ w' = w := by
  have hm : ∀ x : Int, x * 11400714819323198485 = 11400714819323198485 * x := fun x => Int.mul_comm _ _
  have HM := Lib.hid hm
  clear hm
  go_enter Try.func31, Try.ntmps31
  go_wp2_with fail
  rw [HM.out]
  refine (mix_calls _ _).mono ?_
  rintro e w' ⟨rfl, rfl⟩
  go_wp2
  go_ret
  exact ⟨rfl, rfl⟩
/-! The source. -/
structure IsS (w : World) (g : Nat) (seed : Int) (n : Nat) : Prop where
  blk : w.heap[g]? = some (.cells #[.int .u64 seed, .int .i64 n, .bool true] 55 (0, 0))
theorem none_calls (g : Nat) (seed : Int) (n : Nat) (w : World) (h : IsS w g seed n) : Calls Try.prog 25 #[.pointer (some ⟨g, 0, none⟩)] w fun e w' => e = .returned (.bool false) ∧ w' = w := by
  have c2 := (blkCell h.blk 2).trans rfl
  simp at c2
  clear h
  go_enter Try.func25, Try.ntmps25
  go_wp2
  go_ret
  exact ⟨rfl, rfl⟩
theorem draws_calls (s i : Int) (w : World) : Calls Try.prog 29 #[.int .u64 s, .int .i64 i] w fun e w' => e = .returned (.func (.func 32) #[] #[.pointer (some ⟨w.heap.size + 1, 0, none⟩), .pointer (some ⟨w.heap.size, 0, none⟩)]) ∧
    w' = (w.alloc (.cells #[.int .u64 s] 22)).alloc (.cells #[.int .i64 i] 3) := by
  go_enter Try.func29, Try.ntmps29
  go_wp2
  go_ret
  exact ⟨rfl, rfl⟩
def DStep (s : Int) (n : Nat) (i : Nat) (vs : Array Value) (i' : Nat) (_ : World) : Prop := i = 0 ∧ i' = 1 ∧ vs = #[.int .i64 n, .int .u64 (atV s n)]
set_option maxRecDepth 100000 in
set_option maxHeartbeats 1000000 in
theorem draws_iter (F S : Nat) (s : Int) (n : Nat) (hn : n ≤ 1000000000) (w : World) (hF : w.heap[F]? = some (.cells #[.int .i64 n] 3 (0, 0))) (hS : w.heap[S]? = some (.cells #[.int .u64 s] 22 (0, 0))) :
    Iter Try.prog 32 #[.pointer (some ⟨F, 0, none⟩), .pointer (some ⟨S, 0, none⟩)] (DStep s n) (fun _ => False) (fun i => i = 0) (fun _ => False) 0 w := by
  intro l J Jx W hW hJ hJx hB hY h0
  refine callsIn_of_wp Try.func32 rfl trivial ?_ rfl
  simp only [Try.ntmps32, List.size_toArray, List.length_cons, List.length_nil, Nat.reduceAdd, Nat.reduceSub, Array.replicate_succ, Array.replicate_zero, List.push_toArray, List.append_toArray, List.nil_append, List.cons_append]
  have b0 := (blkCell (hW.blk0 hF) 0).trans rfl
  have b1 := (blkCell (hW.blk0 hS) 0).trans rfl
  simp at b0 b1
  have HY := Lib.hid hY
  have HJ := Lib.hid hJ
  have HB := Lib.hid hB
  have H0 := Lib.hid h0
  have hle : (n : Int) ≤ 4611686018427387904 := by omega
  have HS := Lib.hid (hW.blk0 hS)
  clear hY hJ hJx hB h0
  gi_wp2_with fail
  gi_loopw [4] (fun v wr => v = .int .i64 n ∧ wr = W) (fun _ _ => 0)
  case atStart => exact ⟨rfl, rfl⟩
  case round =>
    obtain ⟨rfl, rfl⟩ := hrel
    gi_wp2_with fail
    refine ⟨trivial, rfl, (callsIn_wide.2 (at_calls s n _)).mono ?_⟩
    rintro e w' ⟨rfl, rfl⟩
    obtain ⟨fn, tmps, assign, body, hy, hRd⟩ := HY.out 0 _ 1 _ ⟨rfl, rfl, rfl⟩ H0.out
    have HRd := Lib.hid hRd
    clear hRd
    gi_wp2
    refine ⟨rfl, HRd.out.mono ?_⟩
    rintro e w2 (⟨rfl, hJ1, _⟩ | ⟨rfl, hJx⟩)
    · exact absurd (HB.out _ _ hJ1) (by decide)
    · gi_wp2
      exact bodyPost_ret (v := .tuple #[]) (by simp [results, Try.results32, go_sem]) rfl ⟨⟨_, rfl⟩, .inr ⟨_, hJx⟩⟩
attribute [local go_sem] Oper.semAt_some
set_option maxRecDepth 100000 in
set_option maxHeartbeats 1000000 in
theorem next_calls (g : Nat) (seed : Int) (n : Nat) (w : World) (h : IsS w g seed n) (hn : n ≤ 1000000000) : Calls Try.prog 26 #[.pointer (some ⟨g, 0, none⟩)] w fun e w' => e = .returned (.int .u64 (atV seed n)) ∧ IsS w' g seed (n + 1) ∧ Ext (At g) w w' := by
  have hgl := blkLt h.blk
  refine callsIn_wide (n := 0) |>.1 ?_
  refine callsIn_of_wp_marks Try.func26 rfl trivial ?_ rfl
  simp only [Try.ntmps26, List.size_toArray, List.length_cons, List.length_nil, Nat.reduceAdd, Nat.reduceSub, Array.replicate_succ, Array.replicate_zero, List.push_toArray, List.append_toArray, List.nil_append, List.cons_append]
  have HS : IsS ((w.alloc (.cells #[.pointer (some ⟨g, 0, none⟩)] 44)).alloc (.cells #[.int .u64 0] 22)) g seed n := ⟨blkAlloc (blkAlloc h.blk _) _⟩
  have c0 := (blkCell HS.blk 0).trans rfl
  have c1 := (blkCell HS.blk 1).trans rfl
  have d0 := (blkCell (blkDrew HS.blk 1) 0).trans rfl
  have d1 := (blkCell (blkDrew HS.blk 1) 1).trans rfl
  simp at c0 c1 d0 d1
  have H := Lib.hid HS
  clear HS h
  gi_wp2_with fail
  refine ⟨trivial, rfl, (callsIn_wide.2 (none_calls g seed n _ H.out)).mono ?_⟩
  rintro e w1 ⟨rfl, rfl⟩
  gi_wp2_with fail
  refine wpIn_mono (Q := NoPanic _) ?_ NoPanic.imp
  gi_region_with (refine ⟨trivial, rfl, (callsIn_wide.2 (draws_calls seed n _)).mono ?_⟩; rintro e w2 ⟨rfl, hw2⟩; have HW2 := Lib.hid hw2; clear hw2)
  all_goals
    refine NoPanic.normal ?_
    gi_wp2_with fail
    clear c0 c1 d0 d1
    have hsz : w2.heap.size = w.heap.size + 4 := by rw [HW2.out]; simp
    have hE0 : Ext N0 w w2 := by rw [HW2.out]; exact ((((Ext.refl _ _).alloc _).alloc _).drew.alloc _).alloc _
    have h0 : w2.heap[w.heap.size]? = some (.cells #[.pointer (some ⟨g, 0, none⟩)] 44 (0, 0)) := by rw [HW2.out]; exact blkAlloc (blkAlloc (blkDrew (blkAlloc (blkNew _ _) _) 1) _) _
    have h1 : w2.heap[w.heap.size + 1]? = some (.cells #[.int .u64 0] 22 (0, 0)) := by rw [HW2.out]; exact blkAlloc (blkAlloc (blkDrew (blkNewG _ _ (by simp)) 1) _) _
    have h2 : w2.heap[w.heap.size + 1 + 1]? = some (.cells #[.int .u64 seed] 22 (0, 0)) := by rw [HW2.out]; exact blkAlloc (blkNewG _ _ (by simp)) _
    have h3 : w2.heap[w.heap.size + 1 + 1 + 1]? = some (.cells #[.int .i64 n] 3 (0, 0)) := by rw [HW2.out]; exact blkNewG _ _ (by simp)
    have hS : IsS w2 g seed n := ⟨by rw [HW2.out]; exact blkAlloc (blkAlloc (blkDrew H.out.blk 1) _) _⟩
    clear H HW2
    refine rangeLaw (β := Nat) (b0 := 0) (Step := DStep seed n) (Fin := fun _ => False) (Bd := fun i => i = 0) (R := fun _ => False) (gf := 32) (lb := #[.pointer (some ⟨w.heap.size + 1 + 1 + 1, 0, none⟩), .pointer (some ⟨w.heap.size + 1 + 1, 0, none⟩)]) rfl (enters_of Try.func32 (by kernel_rfl) rfl)
      (draws_iter _ _ seed n hn w2 h3 h2) (fun k hk => (show False from hk).elim) (fun b vs b' W hs => by obtain ⟨_, _, rfl⟩ := hs; rfl)
      (fun i W => i = 0 ∧ Ext N0 w2 W) (fun code _ W => code = .ret ∧ IsS W g seed (n + 1) ∧ W.heap[w.heap.size + 1]? = some (.cells #[.int .u64 (atV seed n)] 22 (0, 0)) ∧ Ext (fun k => k = g ∨ k = w.heap.size + 1) w2 W)
      (fun i A B h k => ⟨h.1, k.ext h.2 (Nat.le_refl _)⟩)
      (fun code i A B h k => ⟨h.1, ⟨k.blk h.2.1.blk⟩, k.blk h.2.2.1, k.ext h.2.2.2 (Nat.le_refl _)⟩)
      ⟨rfl, Ext.refl N0 w2⟩ (fun i A h => h.1)
      (fun i i' a' W => a' = { tmps := #[.pointer (some ⟨g, 0, none⟩), .pointer (some ⟨w.heap.size, 0, none⟩), .pointer (some ⟨w.heap.size + 1, 0, none⟩), undef, .int .u64 (atV seed n), .pointer (some ⟨g, 0, none⟩), .bool false,
        .pointer (some ⟨g, 0, none⟩), .pointer (some ⟨g, 0, none⟩), .pointer (some ⟨g, 0, none⟩), .int .u64 seed, .pointer (some ⟨g, 0, none⟩), .pointer (some ⟨g, 0, none⟩), .pointer (some ⟨g, 1, none⟩), .int .i64 n,
        .func (.func 32) #[] #[.pointer (some ⟨w.heap.size + 1 + 1 + 1, 0, none⟩), .pointer (some ⟨w.heap.size + 1 + 1, 0, none⟩)], .int .i64 n, .int .u64 (atV seed n), undef, undef, undef, undef, undef, undef, undef, undef], defers := [] })
      (fun i i' a' A B h k => h) ?assign ?body ?done ?stop
    case assign =>
      rintro l i i' vs W K ⟨_, _, rfl⟩ hi hK
      gi_wp2
      exact hK _ _ (Bk.refl _) (KpR.refl _ _) hi rfl
    case body =>
      rintro l i i' a' W hl hlo ⟨_, hE⟩ rfl
      have x0 := (blkCell (hE.blk0 h0) 0).trans rfl
      have y1 := hE.blk0 h1
      have yS := hE.blk0 hS.blk
      have c1 := (blkCell yS 1).trans rfl
      have f1 := blkFrozen yS 1
      have f2 := blkFrozen y1 0
      have c2 := (blkCell y1 0).trans rfl
      simp at x0 c1 c2
      have HE := Lib.hid hE
      have Y1 := Lib.hid y1
      have YS := Lib.hid yS
      clear hE y1 yS
      gi_wp2
      have z1 := blkSet YS.out 1 (.int .i64 (n + 1))
      have z2 := blkFar z1 (p := ⟨w.heap.size + 1, 0, none⟩) (show g ≠ w.heap.size + 1 by omega) (.int .u64 (atV seed n))
      have z3 := blkFar Y1.out (p := ⟨g, 1, none⟩) (show w.heap.size + 1 ≠ g by omega) (.int .i64 (n + 1))
      have z4 := blkSet z3 0 (.int .u64 (atV seed n))
      have hX2 : Ext (fun k => k = g ∨ k = w.heap.size + 1) W ((W.setCell ⟨g, 1, none⟩ (.int .i64 (n + 1))).setCell ⟨w.heap.size + 1, 0, none⟩ (.int .u64 (atV seed n))) :=
        ((Ext.refl _ _).setCell (p := ⟨g, 1, none⟩) (.inl (.inl rfl)) _).setCell (p := ⟨w.heap.size + 1, 0, none⟩) (.inl (.inr rfl)) _
      refine ⟨Bk.of_ext hX2 ?_, rfl, ⟨z2.trans (by simp)⟩, z4, (Ext.of0 HE.out).trans hX2 (fun k hk => .inl hk)⟩
      rintro k o (rfl | rfl) ho
      · rw [YS.out] at ho
        injection ho with ho
        rw [← ho]
        rfl
      · rw [Y1.out] at ho
        injection ho with ho
        rw [← ho]
        rfl
    case done => exact fun D b W _ hF _ _ => (show False from hF).elim
    case stop =>
      rintro D code i W hD ⟨rfl, hS', x5, x7⟩ hK
      gi_wp2
      have kb := Kb.put (z := w2.heap.size) (.deferred none) hK rfl hD
      have v2 := (blkCell (kb.blk x5) 0).trans rfl
      simp at v2
      refine ⟨by simp, .inl ⟨_, _, rfl, run_takeDeferred hK, ?_⟩⟩
      refine ⟨.int .u64 (atV seed n), by simp [results, Try.f26, go_sem, v2], rfl, ⟨kb.blk hS'.blk⟩, ?_⟩
      exact kb.ext ((Ext.of0 (S := At g) hE0).trans x7 (fun k hk => by rcases hk with rfl | rfl; exact .inl rfl; exact .inr (by omega))) (by omega)
/-- A draw below k. -/
def belowV (seed : Int) (n : Nat) (k : Int) : Int := atV seed n % k
theorem belowV_in (seed : Int) (n : Nat) {k : Int} (hk : 1 ≤ k) : 0 ≤ belowV seed n k ∧ belowV seed n k < k := ⟨Int.emod_nonneg _ (by omega), Int.emod_lt_of_pos _ (by omega)⟩
theorem below_calls (g : Nat) (seed : Int) (n : Nat) (k : Int) (w : World) (h : IsS w g seed n) (hn : n ≤ 1000000000) (hk : 1 ≤ k ∧ k ≤ 4611686018427387904) :
    Calls Try.prog 17 #[.pointer (some ⟨g, 0, none⟩), .int .i64 k] w fun e w' => e = .returned (.int .i64 (belowV seed n k)) ∧ IsS w' g seed (n + 1) ∧ Ext (At g) w w' := by
  have hq := belowV_in seed n hk.1
  have hu := in64_at seed n
  have e1 : (atV seed n).tmod k = belowV seed n k := Int.tmod_eq_emod_of_nonneg hu.1
  have e2 : IntKind.u64.wrap k = k := by rw [IntKind.wrap_u64]; omega
  have e3 : (k == 0) = false := beq_eq_false_iff_ne.mpr (by omega)
  have HN := Lib.hid (next_calls g seed n w h hn)
  have H0 := Lib.hid (none_calls g seed n w h)
  obtain ⟨q, hqe⟩ : ∃ q, belowV seed n k = q := ⟨_, rfl⟩
  rw [hqe] at hq e1 ⊢
  clear h hu hqe
  go_enter Try.func17, Try.ntmps17
  go_wp2_with (first | (go_at_call 25; refine H0.out.mono ?_; rintro e w1 ⟨rfl, rfl⟩) | (go_at_call 26; refine HN.out.mono ?_; rintro e w2 ⟨rfl, hS, hE⟩))
  go_ret
  exact ⟨rfl, hS, hE⟩
theorem dnew_calls (seed : Int) (w : World) : Calls Try.prog 16 #[.int .u64 seed] w fun e w' => e = .returned (.pointer (some ⟨w.heap.size, 0, none⟩)) ∧ IsS w' w.heap.size seed 0 ∧ Ext N0 w w' := by
  go_enter Try.func16, Try.ntmps16
  go_wp2
  go_ret
  exact ⟨rfl, ⟨blkNew _ _⟩, (Ext.refl _ _).alloc _⟩
end Go.Proofs.Ytfaljgaeeholoaa
