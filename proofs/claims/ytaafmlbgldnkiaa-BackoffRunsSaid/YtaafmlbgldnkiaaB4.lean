/- 'New' of package backoff: a range over an iterator that never ends by itself, left at the first round. -/
import Derived.Test.YtaafmlbgldnkiaaB3
import Derived.Test.YtaafmlbgldnkiaaRf
namespace Go.Proofs.Ytaafmlbgldnkiaa
open Go.RowKit
attribute [local go_sem] Oper.semAt_some

def mayB (b c : Int) : Bool := decide (1 ≤ b) && decide (b ≤ c) && decide (c ≤ 1048576)
def WStep (b c : Int) (i : Nat) (vs : Array Value) (i' : Nat) (_ : World) : Prop := i = 0 ∧ i' = 1 ∧ vs = #[.int .i64 b] ∧ mayB b c = true
set_option maxRecDepth 100000 in
set_option maxHeartbeats 1000000 in
theorem waits_iter (Bb Bt : Nat) (b c : Int) (w : World) (hBb : w.heap[Bb]? = some (.cells #[.int .i64 b, .int .i64 c] 43 (0, 0))) (hBt : w.heap[Bt]? = some (.cells #[.int .i64 b] 3 (0, 0))) :
    Iter Try.prog 23 #[.pointer (some ⟨Bb, 0, none⟩), .pointer (some ⟨Bt, 0, none⟩)] (WStep b c) (fun _ => mayB b c = false) (fun i => i = 0) (fun _ => False) 0 w := by
  intro l J Jx W hW hJ hJx hB hY h0
  refine callsIn_of_wp Try.func23 rfl trivial ?_ rfl
  simp only [Try.ntmps23, List.size_toArray, List.length_cons, List.length_nil, Nat.reduceAdd, Nat.reduceSub, Array.replicate_succ, Array.replicate_zero, List.push_toArray, List.append_toArray, List.nil_append, List.cons_append]
  have b0 := (blkCell (hW.blk0 hBb) 0).trans rfl
  have b1 := (blkCell (hW.blk0 hBb) 1).trans rfl
  simp at b0 b1
  have HY := Lib.hid hY
  have HJ := Lib.hid hJ
  have HB := Lib.hid hB
  have HM := Lib.hid (may_calls b c W)
  clear hY hJ hJx hB
  gi_wp2_with fail
  refine ⟨trivial, rfl, (callsIn_wide.2 HM.out).mono ?_⟩
  rintro e w' ⟨rfl, hE⟩
  have hm : (decide (1 ≤ b) && decide (b ≤ c) && decide (c ≤ 1048576)) = mayB b c := rfl
  rw [hm]
  clear hm
  have hj := HJ.out _ _ _ h0 (Kb.of0 hE)
  have t0 := (blkCell (hE.blk0 (hW.blk0 hBt)) 0).trans rfl
  simp at t0
  cases hmb : mayB b c with
  | false =>
    gi_wp2
    exact bodyPost_ret (v := .tuple #[]) (by simp [results, Try.results23, go_sem]) rfl ⟨⟨_, rfl⟩, .inl ⟨0, hmb, hj⟩⟩
  | true =>
    gi_wp2
    gi_loopw [4] (fun v wr => v = .int .i64 b ∧ J 0 wr) (fun _ _ => 0)
    case atStart => exact ⟨rfl, hj⟩
    case round =>
      obtain ⟨rfl, hJ0⟩ := hrel
      obtain ⟨fn, tmps, assign, body, hy, hRd⟩ := HY.out 0 _ 1 wr ⟨rfl, rfl, rfl, hmb⟩ hJ0
      have HRd := Lib.hid hRd
      clear hRd
      gi_wp2
      refine ⟨rfl, HRd.out.mono ?_⟩
      rintro e w2 (⟨rfl, hJ1, _⟩ | ⟨rfl, hJx⟩)
      · exact absurd (HB.out _ _ hJ1) (by decide)
      · gi_wp2
        exact bodyPost_end (results_none rfl _ _ _) rfl ⟨⟨_, rfl⟩, .inr ⟨_, hJx⟩⟩
theorem waits_calls (b c : Int) (w : World) : Calls Try.prog 20 #[.int .i64 b, .int .i64 c] w fun e w' => e = .returned (.func (.func 23) #[] #[.pointer (some ⟨w.heap.size + 1, 0, none⟩), .pointer (some ⟨w.heap.size, 0, none⟩)]) ∧
    w' = (w.alloc (.cells #[.int .i64 b] 3)).alloc (.cells #[.int .i64 b, .int .i64 c] 43) := by
  go_enter Try.func20, Try.ntmps20
  go_wp2
  go_ret
  exact ⟨rfl, rfl⟩
def NI (W0 : World) (i : Nat) (W : World) : Prop := i = 0 ∧ Ext N0 W0 W
set_option maxRecDepth 100000 in
set_option maxHeartbeats 1000000 in
theorem new_calls (b c : Int) (w : World) : Calls Try.prog 5 #[.int .i64 b, .int .i64 c] w fun e w' => Ext N0 w w' ∧
    ((mayB b c = false ∧ e = .returned (.tuple #[.pointer none, .int .i64 150])) ∨
     (mayB b c = true ∧ ∃ g, w.heap.size ≤ g ∧ e = .returned (.tuple #[.pointer (some ⟨g, 0, none⟩), .int .i64 0]) ∧ IsTm w' g ⟨b, c, b, 0⟩)) := by
  refine callsIn_wide (n := 0) |>.1 ?_
  refine callsIn_of_wp_marks Try.func5 rfl trivial ?_ rfl
  simp only [Try.ntmps5, List.size_toArray, List.length_cons, List.length_nil, Nat.reduceAdd, Nat.reduceSub, Array.replicate_succ, Array.replicate_zero, List.push_toArray, List.append_toArray, List.nil_append, List.cons_append]
  gi_wp2_with fail
  refine ⟨trivial, rfl, (callsIn_wide.2 (waits_calls b c _)).mono ?_⟩
  rintro e w1 ⟨rfl, hw1⟩
  subst hw1
  gi_wp2_with fail
  obtain ⟨W0, hW0⟩ : ∃ W0, ((((((w.alloc (.cells #[.int .i64 b] 3)).alloc (.cells #[.int .i64 c] 3)).alloc (.cells #[.pointer none] 23)).alloc (.cells #[.int .i64 0] 24)).alloc (.cells #[.int .i64 b] 3)).alloc (.cells #[.int .i64 b, .int .i64 c] 43)) = W0 := ⟨_, rfl⟩
  have hsz : W0.heap.size = w.heap.size + 6 := by rw [← hW0]; simp
  have hE0 : Ext N0 w W0 := by rw [← hW0]; exact ((((((Ext.refl _ _).alloc _).alloc _).alloc _).alloc _).alloc _).alloc _
  have h0 : W0.heap[w.heap.size]? = some (.cells #[.int .i64 b] 3 (0, 0)) := by rw [← hW0]; exact blkAlloc (blkAlloc (blkAlloc (blkAlloc (blkAlloc (blkNew _ _) _) _) _) _) _
  have h1 : W0.heap[w.heap.size + 1]? = some (.cells #[.int .i64 c] 3 (0, 0)) := by rw [← hW0]; exact blkAlloc (blkAlloc (blkAlloc (blkAlloc (blkNewG _ _ (by simp)) _) _) _) _
  have h2 : W0.heap[w.heap.size + 1 + 1]? = some (.cells #[.pointer none] 23 (0, 0)) := by rw [← hW0]; exact blkAlloc (blkAlloc (blkAlloc (blkNewG _ _ (by simp)) _) _) _
  have h3 : W0.heap[w.heap.size + 1 + 1 + 1]? = some (.cells #[.int .i64 0] 24 (0, 0)) := by rw [← hW0]; exact blkAlloc (blkAlloc (blkNewG _ _ (by simp)) _) _
  have h4 : W0.heap[w.heap.size + 1 + 1 + 1 + 1]? = some (.cells #[.int .i64 b] 3 (0, 0)) := by rw [← hW0]; exact blkAlloc (blkNewG _ _ (by simp)) _
  have h5 : W0.heap[w.heap.size + 1 + 1 + 1 + 1 + 1]? = some (.cells #[.int .i64 b, .int .i64 c] 43 (0, 0)) := by rw [← hW0]; exact blkNewG _ _ (by simp)
  rw [hW0]
  clear hW0
  refine rangeLaw (gf := 23) (lb := #[.pointer (some ⟨w.heap.size + 1 + 1 + 1 + 1 + 1, 0, none⟩), .pointer (some ⟨w.heap.size + 1 + 1 + 1 + 1, 0, none⟩)]) rfl (enters_of Try.func23 (by kernel_rfl) rfl)
    (waits_iter _ _ b c W0 h5 h4) (fun k hk => hk.elim) (fun b vs b' W hs => by obtain ⟨_, _, rfl, _⟩ := hs; rfl)
    (NI W0) (fun code _ W => code = .ret ∧ mayB b c = true ∧ ∃ g, W0.heap.size ≤ g ∧ IsTm W g ⟨b, c, b, 0⟩ ∧ W.heap[w.heap.size + 1 + 1]? = some (.cells #[.pointer (some ⟨g, 0, none⟩)] 23 (0, 0)) ∧ W.heap[w.heap.size + 1 + 1 + 1]? = some (.cells #[.int .i64 0] 24 (0, 0)) ∧ Ext (fun k => k = w.heap.size + 1 + 1 ∨ k = w.heap.size + 1 + 1 + 1) W0 W)
    (fun i A B h k => ⟨h.1, k.ext h.2 (Nat.le_refl _)⟩)
    (fun code i A B h k => by
      obtain ⟨x1, x2, g, x3, x4, x5, x6, x7⟩ := h
      exact ⟨x1, x2, g, x3, k.blk x4, k.blk x5, k.blk x6, k.ext x7 (Nat.le_refl _)⟩)
    ⟨rfl, Ext.refl _ _⟩ (fun i A h => h.1)
    (fun i i' a' W => mayB b c = true ∧ a' = { tmps := #[.int .i64 b, .int .i64 c, .pointer (some ⟨w.heap.size, 0, none⟩), .pointer (some ⟨w.heap.size + 1, 0, none⟩), .pointer (some ⟨w.heap.size + 1 + 1, 0, none⟩), .pointer (some ⟨w.heap.size + 1 + 1 + 1, 0, none⟩), .int .i64 b, .int .i64 b, .int .i64 c,
      .func (.func 23) #[] #[.pointer (some ⟨w.heap.size + 1 + 1 + 1 + 1 + 1, 0, none⟩), .pointer (some ⟨w.heap.size + 1 + 1 + 1 + 1, 0, none⟩)], .int .i64 b, undef, undef, undef, undef, undef, undef], defers := [] })
    (fun i i' a' A B h k => h) ?assign ?body ?done ?stop
  case assign =>
    rintro l i i' vs W K ⟨_, _, rfl, hm⟩ hi hK
    gi_wp2
    exact hK _ _ (Bk.refl _) (KpR.refl _ _) hi ⟨hm, rfl⟩
  case body =>
    rintro l i i' a' W hl hlo ⟨_, hE⟩ ⟨hm, rfl⟩
    have hX : Ext N0 W0 (W.alloc (.cells #[.int .i64 b, .int .i64 c, .int .i64 b, .int .i64 0, .bool false] 45)) := hE.alloc _
    have hs := hE.size
    have c0 := (blkCell (hE.blk0 h0) 0).trans rfl
    have c1 := (blkCell (hE.blk0 h1) 0).trans rfl
    have y2 := hX.blk0 h2
    have y3 := hX.blk0 h3
    have c2 := (blkCell y2 0).trans rfl
    have c3 := (blkCell y3 0).trans rfl
    have f2 := blkFrozen y2 0
    have f3 := blkFrozen y3 0
    have hT : IsTm (W.alloc (.cells #[.int .i64 b, .int .i64 c, .int .i64 b, .int .i64 0, .bool false] 45)) W.heap.size ⟨b, c, b, 0⟩ := blkNew _ _
    have HE := Lib.hid hE
    have HX := Lib.hid hX
    have Y2 := Lib.hid y2
    have Y3 := Lib.hid y3
    have HT := Lib.hid hT
    clear hE hX y2 y3 hT
    gi_wp2
    have z1 := blkSet Y2.out 0 (.pointer (some ⟨W.heap.size, 0, none⟩))
    have z2 := blkFar z1 (p := ⟨w.heap.size + 1 + 1 + 1, 0, none⟩) (show w.heap.size + 1 + 1 ≠ w.heap.size + 1 + 1 + 1 by omega) (.int .i64 0)
    have z3 := blkFar Y3.out (p := ⟨w.heap.size + 1 + 1, 0, none⟩) (show w.heap.size + 1 + 1 + 1 ≠ w.heap.size + 1 + 1 by omega) (.pointer (some ⟨W.heap.size, 0, none⟩))
    have z4 := blkSet z3 0 (.int .i64 0)
    have z5 : IsTm _ W.heap.size ⟨b, c, b, 0⟩ := blkFar (blkFar HT.out (p := ⟨w.heap.size + 1 + 1, 0, none⟩) (show W.heap.size ≠ w.heap.size + 1 + 1 by omega) (.pointer (some ⟨W.heap.size, 0, none⟩))) (p := ⟨w.heap.size + 1 + 1 + 1, 0, none⟩) (show W.heap.size ≠ w.heap.size + 1 + 1 + 1 by omega) (.int .i64 0)
    have hX2 : Ext (fun k => k = w.heap.size + 1 + 1 ∨ k = w.heap.size + 1 + 1 + 1) (W.alloc (.cells #[.int .i64 b, .int .i64 c, .int .i64 b, .int .i64 0, .bool false] 45)) (((W.alloc (.cells #[.int .i64 b, .int .i64 c, .int .i64 b, .int .i64 0, .bool false] 45)).setCell ⟨w.heap.size + 1 + 1, 0, none⟩ (.pointer (some ⟨W.heap.size, 0, none⟩))).setCell ⟨w.heap.size + 1 + 1 + 1, 0, none⟩ (.int .i64 0)) :=
      ((Ext.refl _ _).setCell (p := ⟨w.heap.size + 1 + 1, 0, none⟩) (.inl (.inl rfl)) _).setCell (p := ⟨w.heap.size + 1 + 1 + 1, 0, none⟩) (.inl (.inr rfl)) _
    refine ⟨(Bk.of0 ((Ext.refl _ _).alloc _)).trans (Bk.of_ext hX2 ?_), rfl, hm, W.heap.size, hs, z5, z2, z4, (Ext.of0 HX.out).trans hX2 (fun k hk => .inl hk)⟩
    rintro k o (rfl | rfl) ho
    · rw [Y2.out] at ho
      injection ho with ho
      rw [← ho]
      rfl
    · rw [Y3.out] at ho
      injection ho with ho
      rw [← ho]
      rfl
  case done =>
    rintro D i W hD hF ⟨_, hE⟩ hK
    have y2 := hE.blk0 h2
    have y3 := hE.blk0 h3
    have c2 := (blkCell y2 0).trans rfl
    have c3 := (blkCell y3 0).trans rfl
    have f2 := blkFrozen y2 0
    have f3 := blkFrozen y3 0
    have HE := Lib.hid hE
    have Y2 := Lib.hid y2
    have Y3 := Lib.hid y3
    clear hE y2 y3
    gi_wp2
    have z1 := blkSet Y2.out 0 (.pointer none)
    have z2 := blkFar z1 (p := ⟨w.heap.size + 1 + 1 + 1, 0, none⟩) (show w.heap.size + 1 + 1 ≠ w.heap.size + 1 + 1 + 1 by omega) (.int .i64 150)
    have z3 := blkFar Y3.out (p := ⟨w.heap.size + 1 + 1, 0, none⟩) (show w.heap.size + 1 + 1 + 1 ≠ w.heap.size + 1 + 1 by omega) (.pointer none)
    have z4 := blkSet z3 0 (.int .i64 150)
    have z6 := blkFar (blkFar hK (p := ⟨w.heap.size + 1 + 1, 0, none⟩) (show D ≠ w.heap.size + 1 + 1 by omega) (.pointer none)) (p := ⟨w.heap.size + 1 + 1 + 1, 0, none⟩) (show D ≠ w.heap.size + 1 + 1 + 1 by omega) (.int .i64 150)
    have hX2 : Ext (fun k => k = w.heap.size + 1 + 1 ∨ k = w.heap.size + 1 + 1 + 1) W ((W.setCell ⟨w.heap.size + 1 + 1, 0, none⟩ (.pointer none)).setCell ⟨w.heap.size + 1 + 1 + 1, 0, none⟩ (.int .i64 150)) :=
      ((Ext.refl _ _).setCell (p := ⟨w.heap.size + 1 + 1, 0, none⟩) (.inl (.inl rfl)) _).setCell (p := ⟨w.heap.size + 1 + 1 + 1, 0, none⟩) (.inl (.inr rfl)) _
    have kb := Kb.put (z := W0.heap.size) (.deferred none) z6 rfl hD
    have v2 := (blkCell (kb.blk z2) 0).trans rfl
    have v4 := (blkCell (kb.blk z4) 0).trans rfl
    simp at v2 v4
    refine ⟨by simp, .inl ⟨_, _, rfl, run_takeDeferred z6, ?_⟩⟩
    refine ⟨.tuple #[.pointer none, .int .i64 150], by simp [results, Try.f5, go_sem, v2, v4], ?_, .inl ⟨hF, rfl⟩⟩
    exact kb.ext (hE0.trans ((Ext.of0 HE.out).trans hX2 (fun k hk => .inl hk)) (fun k hk => .inr (by rcases hk with rfl | rfl <;> omega))) (by omega)
  case stop =>
    rintro D code i W hD ⟨rfl, hm, g, hg, hT, x5, x6, x7⟩ hK
    gi_wp2
    have kb := Kb.put (z := W0.heap.size) (.deferred none) hK rfl hD
    have v2 := (blkCell (kb.blk x5) 0).trans rfl
    have v4 := (blkCell (kb.blk x6) 0).trans rfl
    simp at v2 v4
    refine ⟨by simp, .inl ⟨_, _, rfl, run_takeDeferred hK, ?_⟩⟩
    refine ⟨.tuple #[.pointer (some ⟨g, 0, none⟩), .int .i64 0], by simp [results, Try.f5, go_sem, v2, v4], ?_, .inr ⟨hm, g, by omega, rfl, kb.blk hT⟩⟩
    exact kb.ext (hE0.trans x7 (fun k hk => .inr (by rcases hk with rfl | rfl <;> omega))) (by omega)
end Go.Proofs.Ytaafmlbgldnkiaa
