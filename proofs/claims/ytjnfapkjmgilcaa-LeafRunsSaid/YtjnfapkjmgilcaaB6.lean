/- Package leaf: far (the conditions stand in the statements). -/
import Derived.Test.YtjnfapkjmgilcaaB5
import Derived.Test.YtjnfapkjmgilcaaQr
namespace Go.Proofs.Ytjnfapkjmgilcaa
open Go.RowKit
abbrev agg16 (f : Nat → Int) : Value := .agg #[.int .i64 (f 0), .int .i64 (f 1), .int .i64 (f 2), .int .i64 (f 3), .int .i64 (f 4), .int .i64 (f 5), .int .i64 (f 6), .int .i64 (f 7), .int .i64 (f 8), .int .i64 (f 9), .int .i64 (f 10), .int .i64 (f 11), .int .i64 (f 12), .int .i64 (f 13), .int .i64 (f 14), .int .i64 (f 15)]
theorem arrZero (w : World) (b : Nat) (h : w.heap[b]? = some (.cells #[.int .i64 0, .int .i64 0, .int .i64 0, .int .i64 0, .int .i64 0, .int .i64 0, .int .i64 0, .int .i64 0, .int .i64 0, .int .i64 0, .int .i64 0, .int .i64 0, .int .i64 0, .int .i64 0, .int .i64 0, .int .i64 0] 59 (0, 0))) : Arr w b (fun _ => 0) := by
  refine ⟨_, h, rfl, fun i hi => ?_⟩
  rcases i with _ | _ | _ | _ | _ | _ | _ | _ | _ | _ | _ | _ | _ | _ | _ | _ | i
  all_goals first | rfl | omega
/-- What of memory stands fast while 'far' reckons. -/
structure FI (w : World) (b4 b5 b6 : Nat) (st : FS) (W : World) : Prop where
  a4 : Arr W b4 (fun _ => 0)
  a5 : Arr W b5 st.1
  a6 : Arr W b6 st.2
  ne : w.heap.size ≤ b4 ∧ b4 < b5 ∧ b5 < b6
  ext : Ext N0 w W
theorem FI.kept0 {w W W' : World} {b4 b5 b6 : Nat} {st : FS} (h : FI w b4 b5 b6 st W) (hE : Ext N0 W W') : FI w b4 b5 b6 st W' := ⟨h.a4.kept0 hE, h.a5.kept0 hE, h.a6.kept0 hE, h.ne, h.ext.then0 hE⟩
theorem FI.kb {w W W' : World} {b4 b5 b6 z : Nat} {st : FS} (h : FI w b4 b5 b6 st W) (k : Kb z W W') (hz : w.heap.size ≤ z) : FI w b4 b5 b6 st W' := ⟨h.a4.kb k, h.a5.kb k, h.a6.kb k, h.ne, k.ext h.ext hz⟩
theorem FI.set5 {w W : World} {b4 b5 b6 : Nat} {st : FS} (h : FI w b4 b5 b6 st W) {i : Nat} (hi : i < 16) (v : Int) : FI w b4 b5 b6 (upd st.1 i v, st.2) (W.setCell ⟨b5, i, none⟩ (.int .i64 v)) := by
  have hn := h.ne
  exact ⟨h.a4.far (show b4 ≠ b5 by omega) _, h.a5.set hi v, h.a6.far (show b6 ≠ b5 by omega) _, hn, h.ext.trans (extSet W b5 i (.int .i64 v)) (fun y (hy : y = b5) => .inr (by omega))⟩
theorem FI.set6 {w W : World} {b4 b5 b6 : Nat} {st : FS} (h : FI w b4 b5 b6 st W) {i : Nat} (hi : i < 16) (v : Int) : FI w b4 b5 b6 (st.1, upd st.2 i v) (W.setCell ⟨b6, i, none⟩ (.int .i64 v)) := by
  have hn := h.ne
  exact ⟨h.a4.far (show b4 ≠ b6 by omega) _, h.a5.far (show b5 ≠ b6 by omega) _, h.a6.set hi v, hn, h.ext.trans (extSet W b6 i (.int .i64 v)) (fun y (hy : y = b6) => .inr (by omega))⟩
theorem FI.same {w W : World} {b4 b5 b6 : Nat} {st st' : FS} (h : FI w b4 b5 b6 st W) (h1 : ∀ i, i < 16 → st.1 i = st'.1 i) (h2 : ∀ i, i < 16 → st.2 i = st'.2 i) : FI w b4 b5 b6 st' W := by
  obtain ⟨a4, ⟨c5, p1, p2, p3⟩, ⟨c6, q1, q2, q3⟩, hn, hE⟩ := h
  exact ⟨a4, ⟨c5, p1, p2, fun i hi => by rw [← h1 i hi]; exact p3 i hi⟩, ⟨c6, q1, q2, fun i hi => by rw [← h2 i hi]; exact q3 i hi⟩, hn, hE⟩
/-- The number in a box. -/
def dOf (W : World) : Value → Nat
  | .pointer (some p) => match W.cell? p with | some u => (intOf u).toNat | none => 0
  | _ => 0
theorem dOf_eq {W : World} {b d : Nat} (h : W.heap[b]? = some (.cells #[.int .i64 d] 3 (0, 0))) : dOf W (.pointer (some ⟨b, 0, none⟩)) = d := by
  have c : W.cell? ⟨b, 0, none⟩ = some (.int .i64 d) := (blkCell h 0).trans rfl
  unfold dOf
  simp [c, intOf]
attribute [local go_sem] Oper.semAt_some
set_option maxRecDepth 100000 in
set_option maxHeartbeats 20000000 in
theorem far_calls (w : World) (g l s h : Nat) (L : List Bool) (x : Nat) (hx : x < l) (k : IsNet w g l s h L) : Calls Try.prog 21 #[.pointer (some ⟨g, 0, none⟩), .int .i64 x] w fun e w' => e = .returned (agg16 (farS s L x 33).1) ∧ Ext N0 w w' := by
  refine callsIn_wide (n := 0) |>.1 ?_
  refine callsIn_of_wp_marks Try.func21 rfl trivial ?_ rfl
  simp only [Try.ntmps21, List.size_toArray, List.length_cons, List.length_nil, Nat.reduceAdd, Nat.reduceSub, Array.replicate_succ, Array.replicate_zero, List.push_toArray, List.append_toArray, List.nil_append, List.cons_append]
  have HK := Lib.hid k
  have hx16 : x < 16 := by have := k.lb; omega
  clear k
  gi_wp2_with fail
  have HF0 : Hid (FI w w.heap.size (w.heap.size + 1) (w.heap.size + 1 + 1) (fun i => if i < 0 then -1 else 0, fun i => if i < 0 then -1 else 0) (((w.alloc (.cells #[.int .i64 0, .int .i64 0, .int .i64 0, .int .i64 0, .int .i64 0, .int .i64 0, .int .i64 0, .int .i64 0, .int .i64 0, .int .i64 0, .int .i64 0, .int .i64 0, .int .i64 0, .int .i64 0, .int .i64 0, .int .i64 0] 59)).alloc (.cells #[.int .i64 0, .int .i64 0, .int .i64 0, .int .i64 0, .int .i64 0, .int .i64 0, .int .i64 0, .int .i64 0, .int .i64 0, .int .i64 0, .int .i64 0, .int .i64 0, .int .i64 0, .int .i64 0, .int .i64 0, .int .i64 0] 59)).alloc (.cells #[.int .i64 0, .int .i64 0, .int .i64 0, .int .i64 0, .int .i64 0, .int .i64 0, .int .i64 0, .int .i64 0, .int .i64 0, .int .i64 0, .int .i64 0, .int .i64 0, .int .i64 0, .int .i64 0, .int .i64 0, .int .i64 0] 59))) :=
    Lib.hid ⟨arrZero _ _ (blkAlloc (blkAlloc (blkNew w _) _) _), arrZero _ _ (blkAlloc (blkNewG _ _ (by simp)) _), arrZero _ _ (blkNewG _ _ (by simp)), ⟨by omega, by omega, by omega⟩, (((Ext.refl _ _).alloc _).alloc _).alloc _⟩
  have hne : w.heap.size + 1 ≠ w.heap.size + 1 + 1 := by omega
  obtain ⟨b6, h6⟩ : ∃ b, w.heap.size + 1 + 1 = b := ⟨_, rfl⟩
  rw [h6] at HF0 hne
  simp only [h6]
  clear h6
  obtain ⟨b5, h5⟩ : ∃ b, w.heap.size + 1 = b := ⟨_, rfl⟩
  rw [h5] at HF0 hne
  simp only [h5]
  clear h5
  have HZ := Lib.hid (show w.heap.size ≤ w.heap.size from Nat.le_refl _)
  obtain ⟨b4, h4⟩ : ∃ b, w.heap.size = b := ⟨_, rfl⟩
  rw [h4] at HF0
  simp only [h4]
  clear h4
  gi_loopw [13] (fun v wr => ∃ j : Nat, v = .int .i64 j ∧ j ≤ 16 ∧ Hid (FI w b4 b5 b6 (fun i => if i < j then -1 else 0, fun i => if i < j then -1 else 0) wr)) (fun v _ => 16 - (intOf v).toNat)
  case atStart => exact ⟨0, rfl, by omega, HF0⟩
  case round =>
    clear HF0
    obtain ⟨j, rfl, hj, HF⟩ := hrel
    by_cases hlt : j < 16
    · have hlt' : (j : Int) < 16 := by omega
      have c5 := HF.out.a5.cell hlt
      have c6 := HF.out.a6.cell hlt
      have f5 := HF.out.a5.frozen j
      have f6 := HF.out.a6.frozen j
      simp only [Nat.lt_irrefl, if_false] at c5 c6
      have HF2 : Hid (FI w b4 b5 b6 (fun i => if i < j + 1 then -1 else 0, fun i => if i < j + 1 then -1 else 0) ((wr.setCell ⟨b5, j, none⟩ (.int .i64 (-1))).setCell ⟨b6, j, none⟩ (.int .i64 (-1)))) := Lib.hid (((HF.out.set5 hlt (-1)).set6 hlt (-1)).same (fun i hi => by unfold upd; dsimp only; (repeat' split) <;> omega) (fun i hi => by unfold upd; dsimp only; (repeat' split) <;> omega))
      clear HF
      gi_wp2
      go_roundw
      case rel => exact ⟨j + 1, by go_num, by omega, HF2⟩
      case measure => simp only [intOf]; omega
    · have hlt' : ¬ (j : Int) < 16 := by omega
      obtain rfl : j = 16 := by omega
      have c5 := HF.out.a5.cell hx16
      have f5 := HF.out.a5.frozen x
      dsimp only at c5
      rw [if_pos hx16] at c5
      have hx' : (x : Int) < 16 := by omega
      have HF2 : Hid (FI w b4 b5 b6 (farS s L x 0) (wr.setCell ⟨b5, x, none⟩ (.int .i64 0))) := Lib.hid ((HF.out.set5 hx16 0).same (fun i hi => by unfold upd farS; dsimp only; (repeat' split) <;> omega) (fun i hi => by unfold farS; dsimp only; (repeat' split) <;> omega))
      clear HF
      -- THE LOOP
      gi_wp2_with fail
      have HS0 : Hid (FI w b4 b5 b6 (farS s L x 0) ((wr.setCell ⟨b5, x, none⟩ (.int .i64 0)).alloc (.cells #[.int .i64 0] 3)) ∧ ((wr.setCell ⟨b5, x, none⟩ (.int .i64 0)).alloc (.cells #[.int .i64 0] 3)).heap[wr.heap.size]? = some (.cells #[.int .i64 (0 : Nat)] 3 (0, 0)) ∧ w.heap.size ≤ wr.heap.size ∧ Marks w.heap.size ((wr.setCell ⟨b5, x, none⟩ (.int .i64 0)).alloc (.cells #[.int .i64 0] 3)).heap.size [] ((wr.setCell ⟨b5, x, none⟩ (.int .i64 0)).alloc (.cells #[.int .i64 0] 3))) := Lib.hid ⟨HF2.out.kept0 ((Ext.refl _ _).alloc _), blkNewG _ _ (by simp), by have := HF2.out.ext.size; simpa using this, trivial⟩
      clear HF2 c5 f5
      refine wpIn_loop (fun a W => ∃ (u8 u23 u24 u25 u26 u27 u28 u70 : Value) (ds : List Deferred), (∃ d b8 : Nat, d ≤ 33 ∧ u8 = .pointer (some ⟨b8, 0, none⟩) ∧ Hid (FI w b4 b5 b6 (farS s L x d) W ∧ W.heap[b8]? = some (.cells #[.int .i64 d] 3 (0, 0)) ∧ w.heap.size ≤ b8 ∧ Marks w.heap.size W.heap.size ds W)) ∧ a = { tmps := #[.pointer (some ⟨g, 0, none⟩), .int .i64 x, undef, undef, .pointer (some ⟨b4, 0, none⟩), .pointer (some ⟨b5, 0, none⟩), .pointer (some ⟨b6, 0, none⟩), u7, u8, undef, undef, undef, undef, .int .i64 16, .bool false, u15, u16, u17, u18, u19, u20, .int .i64 x, .pointer (some ⟨b5, x, none⟩), u23, u24, u25, u26, u27, u28, undef, undef, undef, undef, undef, undef, undef, undef, undef, undef, undef, undef, undef, undef, undef, undef, undef, undef, undef, undef, undef, undef, undef, undef, undef, undef, undef, undef, undef, undef, undef, undef, undef, undef, undef, undef, undef, undef, undef, undef, undef, u70, undef], defers := ds }) (fun a W => 34 - dOf W (a.tmps.getD 8 undef)) ⟨_, _, _, _, _, _, _, _, _, ⟨0, _, by omega, rfl, HS0⟩, rfl⟩ ?_
      clear HS0 hlt hj hlt'
      rintro a wr ⟨u8, u23, u24, u25, u26, u27, u28, u70, ds, ⟨d, b8, hd, rfl, HS⟩, rfl⟩
      dsimp only
      have c8 : wr.cell? ⟨b8, 0, none⟩ = some (.int .i64 d) := (blkCell HS.out.2.1 0).trans rfl
      have f8 := blkFrozen HS.out.2.1 0
      by_cases hd2 : d ≤ 32
      · have hd2' : (d : Int) ≤ 32 := by omega
        gi_wp2_with fail
        refine ⟨trivial, rfl, (callsIn_wide.2 (links_calls (some ⟨g, 0, none⟩) _)).mono ?_⟩
        rintro e w2 ⟨rfl, hw2⟩
        have HW2 := Lib.hid hw2
        clear hw2
        gi_wp2_with fail
        have hsz : w2.heap.size = wr.heap.size + 1 := by rw [HW2.out]; simp
        have hE2 : Ext N0 wr w2 := by rw [HW2.out]; exact (Ext.refl _ _).alloc _
        have hC : w2.heap[wr.heap.size]? = some (.cells #[.pointer (some ⟨g, 0, none⟩)] 23 (0, 0)) := by rw [HW2.out]; exact blkNew _ _
        have hIL : IL w2 g wr.heap.size l s h L := ⟨HK.out.kept0 (HS.out.1.ext.then0 hE2), hC⟩
        have hgl := HK.out.lt
        have HIL := Lib.hid hIL
        have hlen := HK.out.len
        have hne := HS.out.1.ne
        have hsz2 := HS.out.1.a6.lt
        have hM2 : Marks w.heap.size wr.heap.size ds w2 := HS.out.2.2.2.kept (Nat.le_refl _) (fun D _ hk => hE2.blk0 hk)
        have hb8 := blkLt HS.out.2.1
        clear HW2 c8 f8
        refine rangeLaw (β := Nat) (b0 := 0) (Step := LStep L s) (Fin := fun k => k = l * s) (Bd := fun _ => True) (R := fun k => k = wr.heap.size ∨ k = g) (gf := 35) (lb := #[.pointer (some ⟨wr.heap.size, 0, none⟩)]) rfl (enters_of Try.func35 (by kernel_rfl) rfl)
          (links_iter g wr.heap.size l s h L w2 hIL) (fun k hk => by rcases hk with rfl | rfl <;> omega) (fun b vs b' W hs => by obtain ⟨_, _, rfl⟩ := hs; rfl)
          (fun k A => k ≤ L.length ∧ FI w b4 b5 b6 (passK s d L (farS s L x d) k) A ∧ A.heap[b8]? = some (.cells #[.int .i64 d] 3 (0, 0)) ∧ Marks w.heap.size wr.heap.size ds A)
          (fun _ _ _ => False)
          (fun k A B hh kk => ⟨hh.1, hh.2.1.kb kk (by omega), kk.blk hh.2.2.1, hh.2.2.2.kept (Nat.le_refl _) (fun D hD hk => kk.low (by omega) hk)⟩)
          (fun _ _ _ _ hh _ => hh)
          ⟨Nat.zero_le _, HS.out.1.kept0 hE2, hE2.blk0 HS.out.2.1, hM2⟩ (fun _ _ _ => trivial)
          (fun k k' a' A => k < L.length ∧ k' = k + 1 ∧ ∃ b9 : Nat, A.heap[b9]? = some (.cells #[.int .i64 (k / s : Nat), .int .i64 (k % s : Nat)] 72 (0, 0)) ∧ a' = { tmps := #[.pointer (some ⟨g, 0, none⟩), .int .i64 x, undef, undef, .pointer (some ⟨b4, 0, none⟩), .pointer (some ⟨b5, 0, none⟩), .pointer (some ⟨b6, 0, none⟩), u7, .pointer (some ⟨b8, 0, none⟩), .pointer (some ⟨b9, 0, none⟩), .bool (L.getD k false), undef, undef, .int .i64 16, .bool false, u15, u16, u17, u18, u19, u20, .int .i64 x, .pointer (some ⟨b5, x, none⟩), .int .i64 d, .bool true, u25, u26, .pointer (some ⟨g, 0, none⟩), .func (.func 35) #[] #[.pointer (some ⟨wr.heap.size, 0, none⟩)], .agg #[.int .i64 (k / s : Nat), .int .i64 (k % s : Nat)], .bool (L.getD k false), undef, undef, undef, undef, undef, undef, undef, undef, undef, undef, undef, undef, undef, undef, undef, undef, undef, undef, undef, undef, undef, undef, undef, undef, undef, undef, undef, undef, undef, undef, undef, undef, undef, undef, undef, undef, undef, undef, undef, u70, undef], defers := [] })
          (fun k k' a' A B hh kk => by obtain ⟨h1, h2, b9, h3, h4⟩ := hh; exact ⟨h1, h2, b9, kk.blk h3, h4⟩) ?assign ?body ?done ?stop
        case assign =>
          rintro l0 k k' vs W K ⟨hkL, rfl, rfl⟩ hi hKK
          have HKK := Lib.hid hKK
          have hE9 : Ext N0 W (W.alloc (.cells #[.int .i64 (k / s : Nat), .int .i64 (k % s : Nat)] 72)) := (Ext.refl _ _).alloc _
          have HI := Lib.hid (And.intro hkL (And.intro hE9 (And.intro hi.1 (And.intro (hi.2.1.kept0 hE9) (And.intro (hE9.blk0 hi.2.2.1) (hi.2.2.2.kept (Nat.le_refl _) (fun D _ hk => hE9.blk0 hk)))))))
          clear hKK hi hE9 hkL hIL hC hM2
          gi_wp2
          exact HKK.out _ _ (Bk.of0 HI.out.2.1) (KpR.of_ext HI.out.2.1 (fun _ _ h => h)) HI.out.2.2 (by first | exact ⟨HI.out.1, rfl, _, blkNew _ _, rfl⟩ | exact ⟨HI.out.1, trivial, _, blkNew _ _, rfl⟩)
        case body =>
          rintro l0 k k' a' W hl0 hlo ⟨hkl, hFI, h8, hM⟩ ⟨hkL, rfl, b9, hb9, rfl⟩
          dsimp only
          have hs0 : 0 < s := by have := HK.out.sb; omega
          have hks : k % s < s := Nat.mod_lt _ hs0
          have hkd : k / s < l := by rw [Nat.div_lt_iff_lt_mul hs0, ← hlen]; exact hkL
          have hl16 := HK.out.lb.2
          have hs16 := HK.out.sb.2
          have c90 : W.cell? ⟨b9, 0, none⟩ = some (.int .i64 (k / s : Nat)) := (blkCell hb9 0).trans rfl
          have c91 : W.cell? ⟨b9, 1, none⟩ = some (.int .i64 (k % s : Nat)) := (blkCell hb9 1).trans rfl
          have c8 : W.cell? ⟨b8, 0, none⟩ = some (.int .i64 d) := (blkCell h8 0).trans rfl
          have c5 := hFI.a5.cell (i := k / s) (by omega)
          have c6 := hFI.a6.cell (i := k % s) (by omega)
          have f5 := hFI.a5.frozen (k / s)
          have f6 := hFI.a6.frozen (k % s)
          obtain ⟨st, hst⟩ : ∃ st, passK s d L (farS s L x d) k = st := ⟨_, rfl⟩
          have hnx : passK s d L (farS s L x d) (k + 1) = lStep s d L st k := by rw [← hst]; rfl
          rw [hst] at hFI c5 c6
          obtain ⟨i, hi⟩ : ∃ i, k / s = i := ⟨_, rfl⟩
          obtain ⟨j, hj⟩ : ∃ j, k % s = j := ⟨_, rfl⟩
          obtain ⟨b, hb⟩ : ∃ b, L.getD k false = b := ⟨_, rfl⟩
          obtain ⟨v5, hv5⟩ : ∃ v, st.1 i = v := ⟨_, rfl⟩
          obtain ⟨v6, hv6⟩ : ∃ v, st.2 j = v := ⟨_, rfl⟩
          have hls : lStep s d L st k = if b = true then (if v5 = d ∧ v6 < 0 then (st.1, upd st.2 j (d + 1)) else if v6 = d ∧ v5 < 0 then (upd st.1 i (d + 1), st.2) else st) else st := by
            unfold lStep
            rw [hi, hj, hb, hv5, hv6]
          rw [hi, hv5] at c5
          rw [hj, hv6] at c6
          rw [hi] at c90 f5 hkd
          rw [hj] at c91 f6 hks
          simp only [hi, hj, hb]
          have hi16 : (i : Int) < 16 := by omega
          have hj16 : (j : Int) < 16 := by omega
          have hw : IntKind.i64.wrap ((d : Int) + 1) = (d : Int) + 1 := IntWalk.i64_in _ (by omega)
          have hlt5 := hFI.a5.lt
          have hne2 := hFI.ne
          have HQ : Hid (∀ (W' : World) (st' : FS), Ext (fun y => y = b5 ∨ y = b6) W W' → FI w b4 b5 b6 st' W' → passK s d L (farS s L x d) (k + 1) = st' → Bk W W' ∧ KpR (fun k => k = wr.heap.size ∨ k = g) W W' ∧ (k + 1 ≤ L.length ∧ FI w b4 b5 b6 (passK s d L (farS s L x d) (k + 1)) W' ∧ W'.heap[b8]? = some (.cells #[.int .i64 d] 3 (0, 0)) ∧ Marks w.heap.size wr.heap.size ds W')) := Lib.hid (fun W' st' hE hF e => by
            have hc5 : ∃ cs, W.heap[b5]? = some (.cells cs 59 (0, 0)) := by obtain ⟨cs, h1, _⟩ := hFI.a5; exact ⟨cs, h1⟩
            have hc6 : ∃ cs, W.heap[b6]? = some (.cells cs 59 (0, 0)) := by obtain ⟨cs, h1, _⟩ := hFI.a6; exact ⟨cs, h1⟩
            have hbb : ∀ y, y = b5 ∨ y = b6 → ∃ cs, W.heap[y]? = some (.cells cs 59 (0, 0)) := fun y hy => by
              rcases hy with rfl | rfl
              · exact hc5
              · exact hc6
            refine ⟨Bk.of_ext hE (fun y o hy ho => ?_), KpR.of_ext hE (fun y hy hs => ?_), by omega, by rw [e]; exact hF, hE.blk h8 (fun hy => ?_), hM.kept (Nat.le_refl _) (fun D _ hk => hE.blk hk (fun hy => ?_))⟩
            · obtain ⟨cs, h1⟩ := hbb y hy
              rw [h1] at ho
              injection ho with ho
              rw [← ho]
              rfl
            · rcases hy with rfl | rfl
              · omega
              · omega
            · obtain ⟨cs, h1⟩ := hbb b8 hy
              rw [h8] at h1
              injection h1 with h1
              injection h1 with _ h1
              exact absurd h1 (by decide)
            · obtain ⟨cs, h1⟩ := hbb D hy
              rw [hk] at h1
              cases h1)
          have HN := Lib.hid (hnx.trans hls)
          have HFI := Lib.hid (And.intro hFI (And.intro (show i < 16 by omega) (show j < 16 by omega)))
          clear hls hnx hst hFI h8 hM hb9 hkl hkL hlo hl0 hi hj hb hv5 hv6 hs0 hks hkd hl16 hs16 hlt5 hne2 hIL hC hM2 hgl hlen hsz hsz2 hb8 hE2 hne HIL HS hd
          rcases b with _ | _
          · have HN2 := Lib.hid (HN.out.trans (if_neg (by decide)))
            clear HN
            gi_wp2_with fail
            refine quietRound (by kernel_rfl) (by kernel_rfl) (by kernel_rfl) ?_
            repeat (gi_big_quiet_step (fail))
            refine wpQuietIn_nil ?_
            intro _ hw'
            obtain ⟨nq, hw''⟩ := hw'
            subst hw''
            gi_wp2_with fail
            exact HQ.out _ _ ((Ext.refl _ _).drewN _) (HFI.out.1.kept0 ((Ext.refl _ _).drewN _)) HN2.out
          · have HN1 := Lib.hid (HN.out.trans (if_pos rfl))
            clear HN
            have hcs : (v5 = d ∧ v6 < 0) ∨ (v5 = d ∧ ¬ v6 < 0 ∧ v6 = d ∧ ¬ v5 < 0) ∨ (v5 = d ∧ ¬ v6 < 0 ∧ ¬ v6 = d) ∨ (¬ v5 = d ∧ v6 = d ∧ v5 < 0) ∨ (¬ v5 = d ∧ v6 = d ∧ ¬ v5 < 0) ∨ (¬ v5 = d ∧ ¬ v6 = d) := by omega
            rcases hcs with ⟨h1, h2⟩ | ⟨h1, h2, h3, h4⟩ | ⟨h1, h2, h3⟩ | ⟨h1, h3, h4⟩ | ⟨h1, h3, h4⟩ | ⟨h1, h3⟩
            · have HN2 := Lib.hid (HN1.out.trans (if_pos ⟨h1, h2⟩))
              have e1 : (v5 == (d : Int)) = true := beq_iff_eq.2 h1
              clear HN1 h1
              gi_wp2_with fail
              refine quietRound (by kernel_rfl) (by kernel_rfl) (by kernel_rfl) ?_
              repeat (gi_big_quiet_step (fail))
              refine wpQuietIn_nil ?_
              intro _ hw'
              obtain ⟨nq, hw''⟩ := hw'
              subst hw''
              gi_wp2_with fail
              refine quietRound (by kernel_rfl) (by kernel_rfl) (by kernel_rfl) ?_
              repeat (gi_big_quiet_step (fail))
              refine wpQuietIn_nil ?_
              intro _ hw'
              obtain ⟨nq, hw''⟩ := hw'
              subst hw''
              gi_wp2_with fail
              exact HQ.out _ _ (((Ext.refl (fun y => y = b5 ∨ y = b6) W).drewN _).setCell (p := ⟨b6, j, none⟩) (Or.inl (Or.inr rfl)) _) ((HFI.out.1.kept0 ((Ext.refl _ W).drewN _)).set6 HFI.out.2.2 _) HN2.out
            · have HN2 := Lib.hid (HN1.out.trans ((if_neg (fun h => h2 h.2)).trans (if_neg (fun h => h4 h.2))))
              have e1 : (v5 == (d : Int)) = true := beq_iff_eq.2 h1
              have e3 : (v6 == (d : Int)) = true := beq_iff_eq.2 h3
              clear HN1 h1 h3
              gi_wp2_with fail
              refine quietRound (by kernel_rfl) (by kernel_rfl) (by kernel_rfl) ?_
              repeat (gi_big_quiet_step (fail))
              refine wpQuietIn_nil ?_
              intro _ hw'
              obtain ⟨nq, hw''⟩ := hw'
              subst hw''
              gi_wp2_with fail
              refine quietRound (by kernel_rfl) (by kernel_rfl) (by kernel_rfl) ?_
              repeat (gi_big_quiet_step (fail))
              refine wpQuietIn_nil ?_
              intro _ hw'
              obtain ⟨nq, hw''⟩ := hw'
              subst hw''
              gi_wp2_with fail
              refine quietRound (by kernel_rfl) (by kernel_rfl) (by kernel_rfl) ?_
              repeat (gi_big_quiet_step (fail))
              refine wpQuietIn_nil ?_
              intro _ hw'
              obtain ⟨nq, hw''⟩ := hw'
              subst hw''
              gi_wp2_with fail
              exact HQ.out _ _ ((((Ext.refl _ _).drewN _).drewN _).drewN _) (HFI.out.1.kept0 ((((Ext.refl _ _).drewN _).drewN _).drewN _)) HN2.out
            · have HN2 := Lib.hid (HN1.out.trans ((if_neg (fun h => h2 h.2)).trans (if_neg (fun h => h3 h.1))))
              have e1 : (v5 == (d : Int)) = true := beq_iff_eq.2 h1
              have e3 : (v6 == (d : Int)) = false := beq_eq_false_iff_ne.2 h3
              clear HN1 h1 h3
              gi_wp2_with fail
              refine quietRound (by kernel_rfl) (by kernel_rfl) (by kernel_rfl) ?_
              repeat (gi_big_quiet_step (fail))
              refine wpQuietIn_nil ?_
              intro _ hw'
              obtain ⟨nq, hw''⟩ := hw'
              subst hw''
              gi_wp2_with fail
              refine quietRound (by kernel_rfl) (by kernel_rfl) (by kernel_rfl) ?_
              repeat (gi_big_quiet_step (fail))
              refine wpQuietIn_nil ?_
              intro _ hw'
              obtain ⟨nq, hw''⟩ := hw'
              subst hw''
              gi_wp2_with fail
              refine quietRound (by kernel_rfl) (by kernel_rfl) (by kernel_rfl) ?_
              repeat (gi_big_quiet_step (fail))
              refine wpQuietIn_nil ?_
              intro _ hw'
              obtain ⟨nq, hw''⟩ := hw'
              subst hw''
              gi_wp2_with fail
              exact HQ.out _ _ ((((Ext.refl _ _).drewN _).drewN _).drewN _) (HFI.out.1.kept0 ((((Ext.refl _ _).drewN _).drewN _).drewN _)) HN2.out
            · have HN2 := Lib.hid (HN1.out.trans ((if_neg (fun h => h1 h.1)).trans (if_pos ⟨h3, h4⟩)))
              have e1 : (v5 == (d : Int)) = false := beq_eq_false_iff_ne.2 h1
              have e3 : (v6 == (d : Int)) = true := beq_iff_eq.2 h3
              clear HN1 h1 h3
              gi_wp2_with fail
              refine quietRound (by kernel_rfl) (by kernel_rfl) (by kernel_rfl) ?_
              repeat (gi_big_quiet_step (fail))
              refine wpQuietIn_nil ?_
              intro _ hw'
              obtain ⟨nq, hw''⟩ := hw'
              subst hw''
              gi_wp2_with fail
              refine quietRound (by kernel_rfl) (by kernel_rfl) (by kernel_rfl) ?_
              repeat (gi_big_quiet_step (fail))
              refine wpQuietIn_nil ?_
              intro _ hw'
              obtain ⟨nq, hw''⟩ := hw'
              subst hw''
              gi_wp2_with fail
              refine quietRound (by kernel_rfl) (by kernel_rfl) (by kernel_rfl) ?_
              repeat (gi_big_quiet_step (fail))
              refine wpQuietIn_nil ?_
              intro _ hw'
              obtain ⟨nq, hw''⟩ := hw'
              subst hw''
              gi_wp2_with fail
              exact HQ.out _ _ (((Ext.refl (fun y => y = b5 ∨ y = b6) W).drewN _).setCell (p := ⟨b5, i, none⟩) (Or.inl (Or.inl rfl)) _) ((HFI.out.1.kept0 ((Ext.refl _ W).drewN _)).set5 HFI.out.2.1 _) HN2.out
            · have HN2 := Lib.hid (HN1.out.trans ((if_neg (fun h => h1 h.1)).trans (if_neg (fun h => h4 h.2))))
              have e1 : (v5 == (d : Int)) = false := beq_eq_false_iff_ne.2 h1
              have e3 : (v6 == (d : Int)) = true := beq_iff_eq.2 h3
              clear HN1 h1 h3
              gi_wp2_with fail
              refine quietRound (by kernel_rfl) (by kernel_rfl) (by kernel_rfl) ?_
              repeat (gi_big_quiet_step (fail))
              refine wpQuietIn_nil ?_
              intro _ hw'
              obtain ⟨nq, hw''⟩ := hw'
              subst hw''
              gi_wp2_with fail
              refine quietRound (by kernel_rfl) (by kernel_rfl) (by kernel_rfl) ?_
              repeat (gi_big_quiet_step (fail))
              refine wpQuietIn_nil ?_
              intro _ hw'
              obtain ⟨nq, hw''⟩ := hw'
              subst hw''
              gi_wp2_with fail
              refine quietRound (by kernel_rfl) (by kernel_rfl) (by kernel_rfl) ?_
              repeat (gi_big_quiet_step (fail))
              refine wpQuietIn_nil ?_
              intro _ hw'
              obtain ⟨nq, hw''⟩ := hw'
              subst hw''
              gi_wp2_with fail
              exact HQ.out _ _ ((((Ext.refl _ _).drewN _).drewN _).drewN _) (HFI.out.1.kept0 ((((Ext.refl _ _).drewN _).drewN _).drewN _)) HN2.out
            · have HN2 := Lib.hid (HN1.out.trans ((if_neg (fun h => h1 h.1)).trans (if_neg (fun h => h3 h.1))))
              have e1 : (v5 == (d : Int)) = false := beq_eq_false_iff_ne.2 h1
              have e3 : (v6 == (d : Int)) = false := beq_eq_false_iff_ne.2 h3
              clear HN1 h1 h3
              gi_wp2_with fail
              refine quietRound (by kernel_rfl) (by kernel_rfl) (by kernel_rfl) ?_
              repeat (gi_big_quiet_step (fail))
              refine wpQuietIn_nil ?_
              intro _ hw'
              obtain ⟨nq, hw''⟩ := hw'
              subst hw''
              gi_wp2_with fail
              refine quietRound (by kernel_rfl) (by kernel_rfl) (by kernel_rfl) ?_
              repeat (gi_big_quiet_step (fail))
              refine wpQuietIn_nil ?_
              intro _ hw'
              obtain ⟨nq, hw''⟩ := hw'
              subst hw''
              gi_wp2_with fail
              refine quietRound (by kernel_rfl) (by kernel_rfl) (by kernel_rfl) ?_
              repeat (gi_big_quiet_step (fail))
              refine wpQuietIn_nil ?_
              intro _ hw'
              obtain ⟨nq, hw''⟩ := hw'
              subst hw''
              gi_wp2_with fail
              exact HQ.out _ _ ((((Ext.refl _ _).drewN _).drewN _).drewN _) (HFI.out.1.kept0 ((((Ext.refl _ _).drewN _).drewN _).drewN _)) HN2.out
        case done =>
          rintro D k W hD hF ⟨hkl, hFI, h8, hM⟩ hDD
          have hF : k = l * s := hF
          subst hF
          have hFI' : FI w b4 b5 b6 (farS s L x (d + 1)) W := by
            rw [← hlen] at hFI
            exact hFI
          have c8 : W.cell? ⟨b8, 0, none⟩ = some (.int .i64 d) := (blkCell h8 0).trans rfl
          have hWs := hFI'.ext.size
          have hDl := blkLt hDD
          have HX := Lib.hid (And.intro hFI' (show Marks w.heap.size W.heap.size ({ target := .collected D, args := #[] } :: ds) W from ⟨D, rfl, ⟨by omega, hDl⟩, hDD, hM.mono (by omega)⟩))
          have HB8 := Lib.hid h8
          have HDw := Lib.hid (dOf_eq HS.out.2.1)
          clear hFI hFI' hM hIL hC hM2 h8 hDD HIL
          gi_wp2
          refine ⟨⟨d + 1, by omega, Lib.hid ⟨HX.out.1.kept0 ((Ext.refl _ _).alloc _), (Array.getElem?_eq_some_iff.1 (blkNew W _)).2, (HX.out.2.kept (Nat.le_refl _) (fun D _ hk => blkAlloc hk _)).mono (by omega)⟩⟩, ?_⟩
          rw [HDw.out, show dOf (W.alloc (.cells #[.int .i64 ((d : Int) + 1)] 3)) (.pointer (some ⟨W.heap.size, 0, none⟩)) = d + 1 from dOf_eq (d := d + 1) (blkNew _ _)]
          omega
        case stop =>
          rintro D c k W hD hF hDD
          exact hF.elim
      · have hd2' : ¬ (d : Int) ≤ 32 := by omega
        obtain rfl : d = 33 := by omega
        have HM := Lib.hid (And.intro HS.out.1 HS.out.2.2.2)
        obtain ⟨F, hF⟩ : ∃ F, (farS s L x 33).1 = F := ⟨_, rfl⟩
        have p0 := HS.out.1.a5.cell (i := 0) (by decide)
        have p1 := HS.out.1.a5.cell (i := 1) (by decide)
        have p2 := HS.out.1.a5.cell (i := 2) (by decide)
        have p3 := HS.out.1.a5.cell (i := 3) (by decide)
        have p4 := HS.out.1.a5.cell (i := 4) (by decide)
        have p5 := HS.out.1.a5.cell (i := 5) (by decide)
        have p6 := HS.out.1.a5.cell (i := 6) (by decide)
        have p7 := HS.out.1.a5.cell (i := 7) (by decide)
        have p8 := HS.out.1.a5.cell (i := 8) (by decide)
        have p9 := HS.out.1.a5.cell (i := 9) (by decide)
        have p10 := HS.out.1.a5.cell (i := 10) (by decide)
        have p11 := HS.out.1.a5.cell (i := 11) (by decide)
        have p12 := HS.out.1.a5.cell (i := 12) (by decide)
        have p13 := HS.out.1.a5.cell (i := 13) (by decide)
        have p14 := HS.out.1.a5.cell (i := 14) (by decide)
        have p15 := HS.out.1.a5.cell (i := 15) (by decide)
        rw [hF] at p0 p1 p2 p3 p4 p5 p6 p7 p8 p9 p10 p11 p12 p13 p14 p15
        have q0 := HS.out.1.a4.cell (i := 0) (by decide)
        have f0 := HS.out.1.a4.frozen 0
        have q1 := HS.out.1.a4.cell (i := 1) (by decide)
        have f1 := HS.out.1.a4.frozen 1
        have q2 := HS.out.1.a4.cell (i := 2) (by decide)
        have f2 := HS.out.1.a4.frozen 2
        have q3 := HS.out.1.a4.cell (i := 3) (by decide)
        have f3 := HS.out.1.a4.frozen 3
        have q4 := HS.out.1.a4.cell (i := 4) (by decide)
        have f4 := HS.out.1.a4.frozen 4
        have q5 := HS.out.1.a4.cell (i := 5) (by decide)
        have f5 := HS.out.1.a4.frozen 5
        have q6 := HS.out.1.a4.cell (i := 6) (by decide)
        have f6 := HS.out.1.a4.frozen 6
        have q7 := HS.out.1.a4.cell (i := 7) (by decide)
        have f7 := HS.out.1.a4.frozen 7
        have q8 := HS.out.1.a4.cell (i := 8) (by decide)
        have f8 := HS.out.1.a4.frozen 8
        have q9 := HS.out.1.a4.cell (i := 9) (by decide)
        have f9 := HS.out.1.a4.frozen 9
        have q10 := HS.out.1.a4.cell (i := 10) (by decide)
        have f10 := HS.out.1.a4.frozen 10
        have q11 := HS.out.1.a4.cell (i := 11) (by decide)
        have f11 := HS.out.1.a4.frozen 11
        have q12 := HS.out.1.a4.cell (i := 12) (by decide)
        have f12 := HS.out.1.a4.frozen 12
        have q13 := HS.out.1.a4.cell (i := 13) (by decide)
        have f13 := HS.out.1.a4.frozen 13
        have q14 := HS.out.1.a4.cell (i := 14) (by decide)
        have f14 := HS.out.1.a4.frozen 14
        have q15 := HS.out.1.a4.cell (i := 15) (by decide)
        have f15 := HS.out.1.a4.frozen 15
        have HA4 : Hid (Arr ((((((((((((((((wr.setCell ⟨b4, 0, none⟩ (.int .i64 (F 0))).setCell ⟨b4, 1, none⟩ (.int .i64 (F 1))).setCell ⟨b4, 2, none⟩ (.int .i64 (F 2))).setCell ⟨b4, 3, none⟩ (.int .i64 (F 3))).setCell ⟨b4, 4, none⟩ (.int .i64 (F 4))).setCell ⟨b4, 5, none⟩ (.int .i64 (F 5))).setCell ⟨b4, 6, none⟩ (.int .i64 (F 6))).setCell ⟨b4, 7, none⟩ (.int .i64 (F 7))).setCell ⟨b4, 8, none⟩ (.int .i64 (F 8))).setCell ⟨b4, 9, none⟩ (.int .i64 (F 9))).setCell ⟨b4, 10, none⟩ (.int .i64 (F 10))).setCell ⟨b4, 11, none⟩ (.int .i64 (F 11))).setCell ⟨b4, 12, none⟩ (.int .i64 (F 12))).setCell ⟨b4, 13, none⟩ (.int .i64 (F 13))).setCell ⟨b4, 14, none⟩ (.int .i64 (F 14))).setCell ⟨b4, 15, none⟩ (.int .i64 (F 15))) b4 F ∧ Ext (At b4) wr ((((((((((((((((wr.setCell ⟨b4, 0, none⟩ (.int .i64 (F 0))).setCell ⟨b4, 1, none⟩ (.int .i64 (F 1))).setCell ⟨b4, 2, none⟩ (.int .i64 (F 2))).setCell ⟨b4, 3, none⟩ (.int .i64 (F 3))).setCell ⟨b4, 4, none⟩ (.int .i64 (F 4))).setCell ⟨b4, 5, none⟩ (.int .i64 (F 5))).setCell ⟨b4, 6, none⟩ (.int .i64 (F 6))).setCell ⟨b4, 7, none⟩ (.int .i64 (F 7))).setCell ⟨b4, 8, none⟩ (.int .i64 (F 8))).setCell ⟨b4, 9, none⟩ (.int .i64 (F 9))).setCell ⟨b4, 10, none⟩ (.int .i64 (F 10))).setCell ⟨b4, 11, none⟩ (.int .i64 (F 11))).setCell ⟨b4, 12, none⟩ (.int .i64 (F 12))).setCell ⟨b4, 13, none⟩ (.int .i64 (F 13))).setCell ⟨b4, 14, none⟩ (.int .i64 (F 14))).setCell ⟨b4, 15, none⟩ (.int .i64 (F 15)))) := Lib.hid ⟨Arr.same ((((((((((((((((HM.out.1.a4.set (i := 0) (by decide) (F 0)).set (i := 1) (by decide) (F 1)).set (i := 2) (by decide) (F 2)).set (i := 3) (by decide) (F 3)).set (i := 4) (by decide) (F 4)).set (i := 5) (by decide) (F 5)).set (i := 6) (by decide) (F 6)).set (i := 7) (by decide) (F 7)).set (i := 8) (by decide) (F 8)).set (i := 9) (by decide) (F 9)).set (i := 10) (by decide) (F 10)).set (i := 11) (by decide) (F 11)).set (i := 12) (by decide) (F 12)).set (i := 13) (by decide) (F 13)).set (i := 14) (by decide) (F 14)).set (i := 15) (by decide) (F 15)) (fun i hi => by
          rcases i with _ | _ | _ | _ | _ | _ | _ | _ | _ | _ | _ | _ | _ | _ | _ | _ | i
          all_goals first | (unfold upd; simp; done) | omega), (((((((((((((((((Ext.refl (At b4) wr).same (extSet _ b4 0 (.int .i64 (F 0)))).same (extSet _ b4 1 (.int .i64 (F 1)))).same (extSet _ b4 2 (.int .i64 (F 2)))).same (extSet _ b4 3 (.int .i64 (F 3)))).same (extSet _ b4 4 (.int .i64 (F 4)))).same (extSet _ b4 5 (.int .i64 (F 5)))).same (extSet _ b4 6 (.int .i64 (F 6)))).same (extSet _ b4 7 (.int .i64 (F 7)))).same (extSet _ b4 8 (.int .i64 (F 8)))).same (extSet _ b4 9 (.int .i64 (F 9)))).same (extSet _ b4 10 (.int .i64 (F 10)))).same (extSet _ b4 11 (.int .i64 (F 11)))).same (extSet _ b4 12 (.int .i64 (F 12)))).same (extSet _ b4 13 (.int .i64 (F 13)))).same (extSet _ b4 14 (.int .i64 (F 14)))).same (extSet _ b4 15 (.int .i64 (F 15))))⟩
        have HF := Lib.hid hF
        clear hF HS hd
        gi_wp2_with fail
        obtain ⟨W4, hW4⟩ : ∃ W4, ((((((((((((((((wr.setCell ⟨b4, 0, none⟩ (.int .i64 (F 0))).setCell ⟨b4, 1, none⟩ (.int .i64 (F 1))).setCell ⟨b4, 2, none⟩ (.int .i64 (F 2))).setCell ⟨b4, 3, none⟩ (.int .i64 (F 3))).setCell ⟨b4, 4, none⟩ (.int .i64 (F 4))).setCell ⟨b4, 5, none⟩ (.int .i64 (F 5))).setCell ⟨b4, 6, none⟩ (.int .i64 (F 6))).setCell ⟨b4, 7, none⟩ (.int .i64 (F 7))).setCell ⟨b4, 8, none⟩ (.int .i64 (F 8))).setCell ⟨b4, 9, none⟩ (.int .i64 (F 9))).setCell ⟨b4, 10, none⟩ (.int .i64 (F 10))).setCell ⟨b4, 11, none⟩ (.int .i64 (F 11))).setCell ⟨b4, 12, none⟩ (.int .i64 (F 12))).setCell ⟨b4, 13, none⟩ (.int .i64 (F 13))).setCell ⟨b4, 14, none⟩ (.int .i64 (F 14))).setCell ⟨b4, 15, none⟩ (.int .i64 (F 15))) = W4 := ⟨_, rfl⟩
        rw [hW4] at HA4
        simp only [hW4]
        clear hW4
        have hM4 : Marks w.heap.size wr.heap.size ds W4 := HM.out.2.kept (Nat.le_refl _) (fun D _ hk => HA4.out.2.blk hk (fun (e : D = b4) => by
          obtain ⟨cs, h1, _⟩ := HM.out.1.a4
          rw [e, h1] at hk
          cases hk))
        refine leavesMarks (z := w.heap.size) ds _ W4 hM4 ?_
        intro W' hk
        have hA' := HA4.out.1.kb hk
        have hE' : Ext N0 w W' := Kb.ext (HM.out.1.ext.trans HA4.out.2 (fun y (hy : y = b4) => .inr (by have := HM.out.1.ne; omega))) hk (Nat.le_refl _)
        have HX := Lib.hid (And.intro hE' (show agg16 F = agg16 (farS s L x 33).1 by rw [HF.out]))
        clear hE' hM4 hk p0 q0 f0 p1 q1 f1 p2 q2 f2 p3 q3 f3 p4 q4 f4 p5 q5 f5 p6 q6 f6 p7 q7 f7 p8 q8 f8 p9 q9 f9 p10 q10 f10 p11 q11 f11 p12 q12 f12 p13 q13 f13 p14 q14 f14 p15 q15 f15
        have r0 := hA'.cell (i := 0) (by decide)
        have r1 := hA'.cell (i := 1) (by decide)
        have r2 := hA'.cell (i := 2) (by decide)
        have r3 := hA'.cell (i := 3) (by decide)
        have r4 := hA'.cell (i := 4) (by decide)
        have r5 := hA'.cell (i := 5) (by decide)
        have r6 := hA'.cell (i := 6) (by decide)
        have r7 := hA'.cell (i := 7) (by decide)
        have r8 := hA'.cell (i := 8) (by decide)
        have r9 := hA'.cell (i := 9) (by decide)
        have r10 := hA'.cell (i := 10) (by decide)
        have r11 := hA'.cell (i := 11) (by decide)
        have r12 := hA'.cell (i := 12) (by decide)
        have r13 := hA'.cell (i := 13) (by decide)
        have r14 := hA'.cell (i := 14) (by decide)
        have r15 := hA'.cell (i := 15) (by decide)
        clear hA'
        exact ⟨agg16 F, by simp [results, Try.f21, go_sem, *], by rw [HX.out.2], HX.out.1⟩
end Go.Proofs.Ytjnfapkjmgilcaa
