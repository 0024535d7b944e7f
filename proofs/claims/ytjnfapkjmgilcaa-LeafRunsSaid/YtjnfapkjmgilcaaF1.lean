/- The law's rows of links (the conditions stand in the statements). -/
import Derived.Test.YtjnfapkjmgilcaaE8
namespace Go.Proofs.Ytjnfapkjmgilcaa
open Go.RowKit
theorem eqlFuncNil {P : Program} (w : World) {t : TypeId} {ps rs : Array TypeId} {vd : Bool} (f : Fn) (bs cs : Array Value) (ht : P.underlying t = some (.func ps rs vd)) : (binOp .eql t (.func f bs cs) .nilFunc).run P w = .ok (.bool false) w := by
  have h : ∀ d : Nat, (Op.equalIn (d + 1) t (.func f bs cs) .nilFunc).run P w = .ok false w := fun d => by
    simp [Op.equalIn, run_underlying ht]
  simp only [binOp]
  simp [Op.equal, Op.maxDepth, h 9999]
/-- The row that is gathered. -/
structure Gth (w2 : World) (x : Nat) (L : List Bool) (i : Nat) (W : World) (A : Option Addr) (c : Nat) : Prop where
  box : W.heap[x]? = some (.cells #[.slice A i c] 40 (0, 0))
  own : W.ownsRow w2.heap.size 4 1 (.slice A i c) i (bv (L.take i))
  ext : Ext (At x) w2 W
theorem ownBkS {w : World} {b n s : Nat} {e : TypeId} {v : Value} {xs : List Value} (h : w.ownsRow b e s v n xs) : ∀ (k : Nat) (o : Obj), v.ownBlock = some k → w.heap[k]? = some o → isBk o = false := by
  intro k o hk ho
  rcases h.2 with ⟨rfl, _⟩ | ⟨g, cap, cur, rfl, _, hh, _⟩
  · simp [Value.ownBlock] at hk
  · have e2 : g = k := by simpa [Value.ownBlock] using hk
    subst e2
    rw [hh] at ho
    injection ho with ho
    rw [← ho]
    rfl
attribute [local go_sem] Oper.semAt_some
set_option maxRecDepth 100000 in
set_option maxHeartbeats 4000000 in
theorem links_law (w : World) (g l s h : Nat) (L : List Bool) (mm : Nat) (hmm : 1 ≤ mm ∧ mm ≤ 300) (k : IsNet w g l s h L) : Calls Try.prog 16 #[.pointer (some ⟨g, 0, none⟩), .int .i64 s, .int .i64 mm] w fun e w' => ∃ A c, e = .returned (.tuple #[.slice A (L.take mm).length c, .bool true]) ∧ Reads w' A (bv (L.take mm)) ∧ Ext N0 w w' := by
  refine callsIn_wide (n := 0) |>.1 ?_
  refine callsIn_of_wp_marks Try.func16 rfl trivial ?_ rfl
  simp only [Try.ntmps16, List.size_toArray, List.length_cons, List.length_nil, Nat.reduceAdd, Nat.reduceSub, Array.replicate_succ, Array.replicate_zero, List.push_toArray, List.append_toArray, List.nil_append, List.cons_append]
  have HK := Lib.hid k
  have hs16 := k.sb.2
  have hs1 := k.sb.1
  have hlen : L.length ≤ 256 := by rw [k.len]; exact Nat.mul_le_mul k.lb.2 k.sb.2
  clear k
  gi_wp2_with fail
  refine ⟨trivial, rfl, (callsIn_wide.2 (links_calls (some ⟨g, 0, none⟩) _)).mono ?_⟩
  rintro e w2 ⟨rfl, hw2⟩
  have HW2 := Lib.hid hw2
  -- GO ON
  clear hw2
  have qf := fun (W : World) (x : Nat) => eqlFuncNil (P := Try.prog) W (.func 35) #[] #[.pointer (some ⟨x, 0, none⟩)] Try.underlying70
  gi_wp2_with fail
  have hE2 : Ext N0 w w2 := by rw [HW2.out]; exact ((((((Ext.refl _ _).alloc _).alloc _).alloc _).alloc _).alloc _).alloc _
  have HB4 : Hid (w2.heap[w.heap.size]? = some (.cells #[.int .i64 s] 3 (0, 0))) := Lib.hid (by rw [HW2.out]; exact blkAlloc (blkAlloc (blkAlloc (blkAlloc (blkAlloc (blkNew w _) _) _) _) _) _)
  have HB5 : Hid (w2.heap[w.heap.size + 1]? = some (.cells #[.int .i64 mm] 3 (0, 0))) := Lib.hid (by rw [HW2.out]; exact blkAlloc (blkAlloc (blkAlloc (blkAlloc (blkNewG _ _ (by simp)) _) _) _) _)
  have HB6 : Hid (w2.heap[w.heap.size + 1 + 1]? = some (.cells #[.slice none 0 0] 40 (0, 0))) := Lib.hid (by rw [HW2.out]; exact blkAlloc (blkAlloc (blkAlloc (blkNewG _ _ (by simp)) _) _) _)
  have HB7 : Hid (w2.heap[w.heap.size + 1 + 1 + 1]? = some (.cells #[.bool false] 4 (0, 0))) := Lib.hid (by rw [HW2.out]; exact blkAlloc (blkAlloc (blkNewG _ _ (by simp)) _) _)
  have HB8 : Hid (w2.heap[w.heap.size + 1 + 1 + 1 + 1]? = some (.cells #[.slice none 0 0] 40 (0, 0))) := Lib.hid (by rw [HW2.out]; exact blkAlloc (blkNewG _ _ (by simp)) _)
  have HIL : Hid (IL w2 g (w.heap.size + 1 + 1 + 1 + 1 + 1) l s h L) := Lib.hid ⟨HK.out.kept0 hE2, by rw [HW2.out]; exact blkNewG _ _ (by simp)⟩
  have HSz : Hid (w2.heap.size = w.heap.size + 1 + 1 + 1 + 1 + 1 + 1) := Lib.hid (by rw [HW2.out]; simp)
  clear HW2 qf
  obtain ⟨C, hC⟩ : ∃ C, w.heap.size + 1 + 1 + 1 + 1 + 1 = C := ⟨_, rfl⟩
  rw [hC] at HIL HSz
  simp only [hC]
  obtain ⟨b8, h8⟩ : ∃ b8, w.heap.size + 1 + 1 + 1 + 1 = b8 := ⟨_, rfl⟩
  rw [h8] at HB8
  simp only [h8]
  obtain ⟨b7, h7⟩ : ∃ b7, w.heap.size + 1 + 1 + 1 = b7 := ⟨_, rfl⟩
  rw [h7] at HB7
  simp only [h7]
  obtain ⟨b6, h6⟩ : ∃ b6, w.heap.size + 1 + 1 = b6 := ⟨_, rfl⟩
  rw [h6] at HB6
  simp only [h6]
  obtain ⟨b5, h5⟩ : ∃ b5, w.heap.size + 1 = b5 := ⟨_, rfl⟩
  rw [h5] at HB5
  simp only [h5]
  have HOrd := Lib.hid (show w2.heap.size = C + 1 ∧ C = b8 + 1 ∧ b8 = b7 + 1 ∧ b7 = b6 + 1 ∧ b6 = b5 + 1 ∧ b5 = w.heap.size + 1 ∧ g < w.heap.size from ⟨by rw [HSz.out], by omega, by omega, by omega, by omega, by omega, HK.out.lt⟩)
  clear hC h8 h7 h6 h5 HSz
  obtain ⟨b4, hb4⟩ : ∃ b4, w.heap.size = b4 := ⟨_, rfl⟩
  rw [hb4] at HB4
  simp only [hb4]
  clear hb4
  refine rangeLaw (β := Nat) (b0 := 0) (Step := LStep L s) (Fin := fun k => k = l * s) (Bd := fun _ => True) (R := fun k => k = C ∨ k = g) (gf := 35) (lb := #[.pointer (some ⟨C, 0, none⟩)]) rfl (enters_of Try.func35 (by kernel_rfl) rfl)
    (links_iter g C l s h L w2 HIL.out) (fun k hk => by have := HOrd.out; rcases hk with rfl | rfl <;> omega) (fun b vs b' W hs => by obtain ⟨_, _, rfl⟩ := hs; rfl)
    (fun k W => k ≤ mm ∧ ∃ A c, Gth w2 b8 L k W A c)
    (fun code _ W => code = .exit 0 ∧ mm < L.length ∧ ∃ A c, Gth w2 b8 L mm W A c)
    (fun k A B hh kk => by
      obtain ⟨h0, x, c, h⟩ := hh
      exact ⟨h0, x, c, ⟨kk.blk h.box, kk.own h.own, kk.ext h.ext (Nat.le_refl _)⟩⟩)
    (fun code k A B hh kk => by
      obtain ⟨h0, h1, x, c, h⟩ := hh
      exact ⟨h0, h1, x, c, kk.blk h.box, kk.own h.own, kk.ext h.ext (Nat.le_refl _)⟩)
    ⟨Nat.zero_le _, none, 0, ⟨HB8.out, ownNil _ _ _ _, Ext.refl _ w2⟩⟩ (fun _ _ _ => trivial)
    (fun k k' a' A => k < L.length ∧ k' = k + 1 ∧ ∃ b9 : Nat, A.heap[b9]? = some (.cells #[.int .i64 (k / s : Nat), .int .i64 (k % s : Nat)] 72 (0, 0)) ∧ a' = { tmps := #[.pointer (some ⟨g, 0, none⟩), .int .i64 s, .int .i64 mm, undef, .pointer (some ⟨b4, 0, none⟩), .pointer (some ⟨b5, 0, none⟩), .pointer (some ⟨b6, 0, none⟩), .pointer (some ⟨b7, 0, none⟩), .pointer (some ⟨b8, 0, none⟩), .func (.func 35) #[] #[.pointer (some ⟨C, 0, none⟩)], .pointer (some ⟨b9, 0, none⟩), .bool (L.getD k false), .pointer (some ⟨g, 0, none⟩), .func (.func 35) #[] #[.pointer (some ⟨C, 0, none⟩)], .func (.func 35) #[] #[.pointer (some ⟨C, 0, none⟩)], .bool false, .func (.func 35) #[] #[.pointer (some ⟨C, 0, none⟩)], .agg #[.int .i64 (k / s : Nat), .int .i64 (k % s : Nat)], .bool (L.getD k false), undef, undef, undef, undef, undef, undef, undef, undef, undef, undef, undef, undef, undef, undef, undef, undef, undef, undef, undef, undef, undef, undef, undef, undef, undef], defers := [] })
    (fun k k' a' A B hh kk => by obtain ⟨h1, h2, b9, h3, h4⟩ := hh; exact ⟨h1, h2, b9, kk.blk h3, h4⟩) ?assign ?body ?done ?stop
  case assign =>
    rintro l0 k k' vs W K ⟨hkL, rfl, rfl⟩ hi hKK
    have HKK := Lib.hid hKK
    have hE9 : Ext N0 W (W.alloc (.cells #[.int .i64 (k / s : Nat), .int .i64 (k % s : Nat)] 72)) := (Ext.refl _ _).alloc _
    have HI := Lib.hid (show k < L.length ∧ Ext N0 W (W.alloc (.cells #[.int .i64 (k / s : Nat), .int .i64 (k % s : Nat)] 72)) ∧ (k ≤ mm ∧ ∃ A c, Gth w2 b8 L k (W.alloc (.cells #[.int .i64 (k / s : Nat), .int .i64 (k % s : Nat)] 72)) A c) from ⟨hkL, hE9, by
      obtain ⟨h0, x, c, h⟩ := hi
      exact ⟨h0, x, c, ⟨hE9.blk0 h.box, ownKept0 h.own hE9, h.ext.then0 hE9⟩⟩⟩)
    clear hKK hi hE9 hkL
    gi_wp2
    exact HKK.out _ _ (Bk.of0 HI.out.2.1) (KpR.of_ext HI.out.2.1 (fun _ _ h => h)) HI.out.2.2 (by first | exact ⟨HI.out.1, rfl, _, blkNew _ _, rfl⟩ | exact ⟨HI.out.1, trivial, _, blkNew _ _, rfl⟩)
  case body =>
    rintro l0 k k' a' W hl0 hlo ⟨hkm, A, c, hG⟩ ⟨hkL, rfl, b9, hb9, rfl⟩
    have c8 : W.cell? ⟨b8, 0, none⟩ = some (.slice A k c) := (blkCell hG.box 0).trans rfl
    have c5 : W.cell? ⟨b5, 0, none⟩ = some (.int .i64 mm) := (blkCell (hG.ext.blk HB5.out (fun (e : b5 = b8) => by have := HOrd.out; omega)) 0).trans rfl
    by_cases hlt : k < mm
    · have hlt' : ¬ (mm : Int) ≤ k := by omega
      have c4 : W.cell? ⟨b4, 0, none⟩ = some (.int .i64 s) := (blkCell (hG.ext.blk HB4.out (fun (e : b4 = b8) => by
        have h1 := HB4.out
        rw [e, HB8.out] at h1
        cases h1)) 0).trans rfl
      have c90 : W.cell? ⟨b9, 0, none⟩ = some (.int .i64 (k / s : Nat)) := (blkCell hb9 0).trans rfl
      have c91 : W.cell? ⟨b9, 1, none⟩ = some (.int .i64 (k % s : Nat)) := (blkCell hb9 1).trans rfl
      have q1 : (k : Int).tdiv (s : Int) = ((k / s : Nat) : Int) := Int.ofNat_tdiv k s
      have q2 : (k : Int).tmod (s : Int) = ((k % s : Nat) : Int) := Int.ofNat_tmod k s
      have hks : k / s ≤ k := Nat.div_le_self k s
      have hkr : k % s ≤ k := Nat.mod_le k s
      have hz : ¬ (s : Int) = 0 := by omega
      have HSt := Lib.hid (show bv (L.take (k + 1)) = bv (L.take k) ++ [.bool (L.getD k false)] by
        rw [List.take_add_one, List.getElem?_eq_getElem hkL, bv_app]
        congr 1
        rw [List.getD_eq_getElem?_getD, List.getElem?_eq_getElem hkL]
        rfl)
      obtain ⟨d, hd⟩ : ∃ d, k / s = d := ⟨_, rfl⟩
      obtain ⟨r, hr⟩ : ∃ r, k % s = r := ⟨_, rfl⟩
      obtain ⟨v, hv⟩ : ∃ v, L.getD k false = v := ⟨_, rfl⟩
      rw [hd] at c90 q1 hks
      rw [hr] at c91 q2 hkr
      rw [hv] at HSt
      simp only [hd, hr, hv]
      have htl : (bv (L.take k)).length = k := by rw [bv_len, List.length_take]; omega
      have HTL := Lib.hid htl
      have HG := Lib.hid hG
      have hb2' := hG.ext.size
      clear hd hr hv htl hG hb9 hlo hE2 HIL
      gi_wp2_with fail
      refine quietRound (by kernel_rfl) (by kernel_rfl) (by kernel_rfl) ?_
      repeat (gi_big_quiet_step (fail))
      refine wpQuietIn_nil ?_
      intro _ hw'
      obtain ⟨nq, hw''⟩ := hw'
      subst hw''
      have hEd : Ext N0 W (W.drewN nq) := (Ext.refl _ _).drewN _
      have HEd := Lib.hid hEd
      have hb3' : w2.heap.size ≤ (W.drewN nq).heap.size := Nat.le_trans hb2' hEd.size
      clear hEd
      gi_wp2_with (gi_at_builtin; (refine wpAppIn w2.heap.size (.tmp 39) (.tmp 41) 40 4 (.bool false) 1 1 rfl rfl Try.underlying40 info4 rfl (by decide) (by decide) (.slice A k c) k (bv (L.take k)) (some ⟨(W.drewN nq).heap.size, 0, none⟩) 1 1 [.bool v] rfl rfl (ownKept0 (ownKept0 HG.out.own HEd.out) ((Ext.refl _ _).alloc _)) rfl (litReads (W.drewN nq) _ _ (by simp)) (by simp [Value.oneCell']) (by omega) (by simp; omega) ?_); intro A' c' w4 ho2 hE4 _; have hE1 : Ext N0 W ((W.drewN nq).alloc (Obj.cells #[.bool v] 4)) := HEd.out.alloc _; have n4 : w4.heap[b8]? = some (.cells #[.slice A k c] 40 (0, 0)) := hE4.blk (hE1.blk0 HG.out.box) (fun h => ownNeBlk HG.out.own HG.out.box (by decide) _ h rfl); have y4 := (blkCell n4 0).trans rfl; have f4 := blkFrozen n4 0)
      have ex : Ext (At b8) w4 (w4.setCell ⟨b8, 0, none⟩ (.slice A' (k + 1) c')) := extSet _ _ _ _
      have hX : Ext (fun y => y = b8 ∨ (Value.slice A k c).ownBlock = some y) W (w4.setCell ⟨b8, 0, none⟩ (.slice A' (k + 1) c')) :=
        ((Ext.of0 hE1).trans hE4 (fun y hy => .inl (.inr hy))).trans ex (fun y hy => .inl (.inl hy))
      refine ⟨Bk.of_ext hX ?_, KpR.of_ext hX ?_, by omega, A', c', ⟨blkSet n4 0 _, ?_, ?_⟩⟩
      · rintro y o (rfl | hy) ho
        · rw [HG.out.box] at ho
          injection ho with ho
          rw [← ho]
          rfl
        · exact ownBkS HG.out.own y o hy ho
      · have hord := HOrd.out
        rintro y hy (hs | hs)
        · rcases hy with hy | hy <;> omega
        · have := (ownBase HG.out.own y hs).1
          rcases hy with hy | hy <;> omega
      · rw [HSt.out]
        exact ownKept ho2 ex (fun y hy h => ownNeBlk ho2 n4 (by decide) y hy h)
      · exact ((HG.out.ext.then0 hE1).trans hE4 (fun y hy => .inr (ownBase HG.out.own y hy).1)).same ex
    · have hlt' : (mm : Int) ≤ k := by omega
      obtain rfl : k = mm := by omega
      gi_wp2
      exact ⟨Bk.refl _, rfl, hkL, A, c, hG⟩
  case done =>
    rintro D k W hD hF ⟨hkm, A, c, hG⟩ hDD
    have HFk := Lib.hid (show k = l * s from hF)
    clear hF
    have c8 : W.cell? ⟨b8, 0, none⟩ = some (.slice A k c) := (blkCell hG.box 0).trans rfl
    have y6 := hG.ext.blk HB6.out (fun (e : b6 = b8) => by have := HOrd.out; omega)
    have y7 := hG.ext.blk HB7.out (fun (e : b7 = b8) => by have := HOrd.out; omega)
    have e6 : W.cell? ⟨b6, 0, none⟩ = some (.slice none 0 0) := (blkCell y6 0).trans rfl
    have e7 : W.cell? ⟨b7, 0, none⟩ = some (.bool false) := (blkCell y7 0).trans rfl
    have f6 := blkFrozen y6 0
    have f7 := blkFrozen y7 0
    have hne67 : ¬ b6 = b7 := fun e => by have := HOrd.out; omega
    have hx6 : Ext (At b6) W (W.setCell ⟨b6, 0, none⟩ (.slice A k c)) := extSet _ _ _ _
    have hx7 : Ext (At b7) (W.setCell ⟨b6, 0, none⟩ (.slice A k c)) ((W.setCell ⟨b6, 0, none⟩ (.slice A k c)).setCell ⟨b7, 0, none⟩ (.bool true)) := extSet _ _ _ _
    have z6 := hx7.blk (blkSet y6 0 (.slice A k c)) (fun (e : b6 = b7) => hne67 e)
    have z7 := blkSet (hx6.blk y7 (fun (e : b7 = b6) => hne67 e.symm)) 0 (.bool true)
    have zD := hx7.blk (hx6.blk hDD (fun (e : D = b6) => by rw [e, y6] at hDD; cases hDD)) (fun (e : D = b7) => by rw [e, y7] at hDD; cases hDD)
    have zO := ownKept (ownKept hG.own hx6 (fun y hy (e : y = b6) => ownNeBlk hG.own y6 (by decide) y hy e)) hx7 (fun y hy (e : y = b7) => by have h1 := (ownBase hG.own y hy).1; have h2 := HOrd.out; omega)
    have zE : Ext N0 w ((W.setCell ⟨b6, 0, none⟩ (.slice A k c)).setCell ⟨b7, 0, none⟩ (.bool true)) := (((hE2.trans hG.ext (fun y (hy : y = b8) => .inr (by have := HOrd.out; omega))).trans hx6 (fun y (hy : y = b6) => .inr (by have := HOrd.out; omega))).trans hx7 (fun y (hy : y = b7) => .inr (by have := HOrd.out; omega)))
    have HZ := Lib.hid (And.intro z6 (And.intro z7 (And.intro zD (And.intro zO zE))))
    have hDw : w.heap.size ≤ D := by have := hE2.size; omega
    clear y6 y7 hx6 hx7 z6 z7 zD zO zE hG hDD HB6 HB7 HIL hE2
    gi_wp2_with fail
    obtain ⟨W4, hW4⟩ : ∃ W4, (W.setCell ⟨b6, 0, none⟩ (.slice A k c)).setCell ⟨b7, 0, none⟩ (.bool true) = W4 := ⟨_, rfl⟩
    rw [hW4] at HZ
    simp only [hW4]
    clear hW4
    refine leavesMarks (z := w.heap.size) [{ target := .collected D, args := #[] }] (D + 1) W4 ⟨D, rfl, ⟨hDw, Nat.lt_succ_self _⟩, HZ.out.2.2.1, trivial⟩ ?_
    intro W' hk
    have r6 : W'.cell? ⟨b6, 0, none⟩ = some (.slice A k c) := (blkCell (hk.blk HZ.out.1) 0).trans (by simp)
    have r7 : W'.cell? ⟨b7, 0, none⟩ = some (.bool true) := (blkCell (hk.blk HZ.out.2.1) 0).trans (by simp)
    have HR := Lib.hid (And.intro (ownReads1 (hk.own HZ.out.2.2.2.1)) (Kb.ext HZ.out.2.2.2.2 hk (Nat.le_refl _)))
    clear hk
    exact ⟨.tuple #[.slice A k c, .bool true], by simp [results, Try.f16, go_sem, r6, r7], A, c, by rw [List.length_take, HK.out.len, ← HFk.out, Nat.min_eq_right hkm], by rw [List.take_of_length_le (by rw [HK.out.len, ← HFk.out]; exact hkm)]; have := HR.out.1; rwa [List.take_of_length_le (by rw [HK.out.len, ← HFk.out]; exact Nat.le_refl _)] at this, HR.out.2⟩
  case stop =>
    rintro D code k W hD ⟨rfl, hml, A, c, hG⟩ hDD
    have c8 : W.cell? ⟨b8, 0, none⟩ = some (.slice A mm c) := (blkCell hG.box 0).trans rfl
    have y6 := hG.ext.blk HB6.out (fun (e : b6 = b8) => by have := HOrd.out; omega)
    have y7 := hG.ext.blk HB7.out (fun (e : b7 = b8) => by have := HOrd.out; omega)
    have e6 : W.cell? ⟨b6, 0, none⟩ = some (.slice none 0 0) := (blkCell y6 0).trans rfl
    have e7 : W.cell? ⟨b7, 0, none⟩ = some (.bool false) := (blkCell y7 0).trans rfl
    have f6 := blkFrozen y6 0
    have f7 := blkFrozen y7 0
    have hne67 : ¬ b6 = b7 := fun e => by have := HOrd.out; omega
    have hx6 : Ext (At b6) W (W.setCell ⟨b6, 0, none⟩ (.slice A mm c)) := extSet _ _ _ _
    have hx7 : Ext (At b7) (W.setCell ⟨b6, 0, none⟩ (.slice A mm c)) ((W.setCell ⟨b6, 0, none⟩ (.slice A mm c)).setCell ⟨b7, 0, none⟩ (.bool true)) := extSet _ _ _ _
    have z6 := hx7.blk (blkSet y6 0 (.slice A mm c)) (fun (e : b6 = b7) => hne67 e)
    have z7 := blkSet (hx6.blk y7 (fun (e : b7 = b6) => hne67 e.symm)) 0 (.bool true)
    have zD := hx7.blk (hx6.blk hDD (fun (e : D = b6) => by rw [e, y6] at hDD; cases hDD)) (fun (e : D = b7) => by rw [e, y7] at hDD; cases hDD)
    have zO := ownKept (ownKept hG.own hx6 (fun y hy (e : y = b6) => ownNeBlk hG.own y6 (by decide) y hy e)) hx7 (fun y hy (e : y = b7) => by have h1 := (ownBase hG.own y hy).1; have h2 := HOrd.out; omega)
    have zE : Ext N0 w ((W.setCell ⟨b6, 0, none⟩ (.slice A mm c)).setCell ⟨b7, 0, none⟩ (.bool true)) := (((hE2.trans hG.ext (fun y (hy : y = b8) => .inr (by have := HOrd.out; omega))).trans hx6 (fun y (hy : y = b6) => .inr (by have := HOrd.out; omega))).trans hx7 (fun y (hy : y = b7) => .inr (by have := HOrd.out; omega)))
    have HZ := Lib.hid (And.intro z6 (And.intro z7 (And.intro zD (And.intro zO zE))))
    have hDw : w.heap.size ≤ D := by have := hE2.size; omega
    clear y6 y7 hx6 hx7 z6 z7 zD zO zE hG hDD HB6 HB7 HIL hE2
    gi_wp2_with fail
    obtain ⟨W4, hW4⟩ : ∃ W4, (W.setCell ⟨b6, 0, none⟩ (.slice A mm c)).setCell ⟨b7, 0, none⟩ (.bool true) = W4 := ⟨_, rfl⟩
    rw [hW4] at HZ
    simp only [hW4]
    clear hW4
    refine leavesMarks (z := w.heap.size) [{ target := .collected D, args := #[] }] (D + 1) W4 ⟨D, rfl, ⟨hDw, Nat.lt_succ_self _⟩, HZ.out.2.2.1, trivial⟩ ?_
    intro W' hk
    have r6 : W'.cell? ⟨b6, 0, none⟩ = some (.slice A mm c) := (blkCell (hk.blk HZ.out.1) 0).trans (by simp)
    have r7 : W'.cell? ⟨b7, 0, none⟩ = some (.bool true) := (blkCell (hk.blk HZ.out.2.1) 0).trans (by simp)
    have HR := Lib.hid (And.intro (ownReads1 (hk.own HZ.out.2.2.2.1)) (Kb.ext HZ.out.2.2.2.2 hk (Nat.le_refl _)))
    clear hk
    exact ⟨.tuple #[.slice A mm c, .bool true], by simp [results, Try.f16, go_sem, r6, r7], A, c, by rw [List.length_take, Nat.min_eq_left (by omega)], HR.out.1, HR.out.2⟩
end Go.Proofs.Ytjnfapkjmgilcaa
