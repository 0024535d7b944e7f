/- 'some' of package scene, at each of the closures that it is called with, proved for every value that the statement lets in (the conditions stand in the statements). -/
import Derived.Test.YtfaljgaeeholoaaB2
namespace Go.Proofs.Ytfaljgaeeholoaa
open Go.RowKit
attribute [local go_sem] Oper.semAt_some
theorem info28 : (Try.prog.info? 28).map (fun i => (i.zero, i.size, i.bytes)) = some (some (.agg #[.int .i64 0, .int .i64 0, .int .i64 0, .int .i64 0, .int .i64 0]), 5, 40) := by kernel_rfl
/-- The cells of the flows of pairs. -/
def flowsV (bytes : Int) (L : List (Nat × Nat)) : List Value := L.flatMap fun p => [.int .i64 p.1, .int .i64 p.2, .int .i64 0, .int .i64 bytes, .int .i64 0]
theorem flowsV_app (bytes : Int) (L : List (Nat × Nat)) (p : Nat × Nat) : flowsV bytes (L ++ [p]) = flowsV bytes L ++ [.int .i64 p.1, .int .i64 p.2, .int .i64 0, .int .i64 bytes, .int .i64 0] := by simp [flowsV]
def meantL (h : Nat) (mt : Nat → Nat → Bool) (i : Nat) : List (Nat × Nat) := ((pairsL h).take i).filter fun p => mt p.1 p.2
theorem meantL_step {h : Nat} {mt : Nat → Nat → Bool} {i : Nat} {p : Nat × Nat} (hp : (pairsL h)[i]? = some p) : meantL h mt (i + 1) = meantL h mt i ++ (if mt p.1 p.2 = true then [p] else []) := by
  obtain ⟨hl, hp⟩ := List.getElem?_eq_some_iff.1 hp
  unfold meantL
  rw [List.take_add_one, List.getElem?_eq_getElem hl, hp, List.filter_append]
  simp [List.filter_cons]
theorem meantL_all (h : Nat) (mt : Nat → Nat → Bool) : meantL h mt (pairsL h).length = (pairsL h).filter fun p => mt p.1 p.2 := by
  unfold meantL
  rw [List.take_length]
theorem meantL_len (h : Nat) (hh : h ≤ 8) (mt : Nat → Nat → Bool) (i : Nat) : (meantL h mt i).length ≤ 56 := by
  unfold meantL
  refine Nat.le_trans (List.length_filter_le _ _) ?_
  rw [List.length_take, pairs_len h hh]
  have : ∀ h : Fin 9, h.val * (h.val - 1) ≤ 56 := by decide
  have := this ⟨h, by omega⟩
  simp at this
  omega
theorem pairs_in {h i : Nat} {p : Nat × Nat} (hp : (pairsL h)[i]? = some p) : p.1 < h ∧ p.2 < h := by
  have hm := List.mem_of_getElem? hp
  unfold pairsL at hm
  rw [List.mem_flatMap] at hm
  obtain ⟨a, ha, hm⟩ := hm
  rw [List.mem_map] at hm
  obtain ⟨b, hb, rfl⟩ := hm
  rw [List.mem_filter] at hb
  exact ⟨List.mem_range.1 ha, List.mem_range.1 hb.1⟩
theorem ownBk {w : World} {b n s : Nat} {e : TypeId} {v : Value} {xs : List Value} (h : w.ownsRow b e s v n xs) : ∀ (k : Nat) (o : Obj), v.ownBlock = some k → w.heap[k]? = some o → isBk o = false := by
  intro k o hk ho
  rcases h.2 with ⟨rfl, _⟩ | ⟨g, cap, cur, rfl, _, hh, _⟩
  · simp [Value.ownBlock] at hk
  · have e2 : g = k := by simpa [Value.ownBlock] using hk
    subst e2
    rw [hh] at ho
    injection ho with ho
    rw [← ho]
    rfl
set_option maxRecDepth 100000 in
set_option maxHeartbeats 1000000 in
theorem some_callsI (h : Nat) (bytes : Int) (mt : Nat → Nat → Bool) (c : Nat) (w : World) (hR : RightP h bytes)
    (hm : ∀ W, Ext N0 w W → ∀ a b : Nat, a < h → b < h → Calls Try.prog 21 #[.int .i64 a, .int .i64 b, .pointer (some ⟨c, 0, none⟩)] W fun e w' => e = .returned (.bool (mt a b)) ∧ w' = W) :
    Calls Try.prog 18 #[.int .i64 h, .int .i64 bytes, .func (.func 21) #[] #[.pointer (some ⟨c, 0, none⟩)]] w fun e w' => ∃ A cap, e = .returned (.tuple #[.slice A (meantL h mt (pairsL h).length).length cap, .int .i64 0]) ∧
      w'.ownsRow w.heap.size 28 5 (.slice A (meantL h mt (pairsL h).length).length cap) (meantL h mt (pairsL h).length).length (flowsV bytes (meantL h mt (pairsL h).length)) ∧ Ext N0 w w' := by
  have hh : h ≤ 8 := by unfold RightP at hR; omega
  have HR := fun W => right_calls h bytes W
  rw [decide_eq_true hR] at HR
  have HR2 := Lib.hid HR
  clear HR
  have HM := Lib.hid hm
  clear hm hR
  refine callsIn_wide (n := 0) |>.1 ?_
  refine callsIn_of_wp_marks Try.func18 rfl trivial ?_ rfl
  simp only [Try.ntmps18, List.size_toArray, List.length_cons, List.length_nil, Nat.reduceAdd, Nat.reduceSub, Array.replicate_succ, Array.replicate_zero, List.push_toArray, List.append_toArray, List.nil_append, List.cons_append]
  gi_wp2_with fail
  refine ⟨trivial, rfl, (callsIn_wide.2 (HR2.out _)).mono ?_⟩
  rintro e w1 ⟨rfl, rfl⟩
  gi_wp2_with fail
  refine ⟨trivial, rfl, (callsIn_wide.2 (pairs_calls h _)).mono ?_⟩
  rintro e w2 ⟨rfl, hw2⟩
  have HW2 := Lib.hid hw2
  clear hw2
  gi_wp2_with fail
  have hsz : w2.heap.size = w.heap.size + 4 := by rw [HW2.out]; simp
  have hE0 : Ext N0 w w2 := by rw [HW2.out]; exact ((((Ext.refl _ _).alloc _).alloc _).alloc _).alloc _
  have h0 : w2.heap[w.heap.size]? = some (.cells #[.int .i64 bytes] 3 (0, 0)) := by rw [HW2.out]; exact blkAlloc (blkAlloc (blkAlloc (blkNew _ _) _) _) _
  have h1 : w2.heap[w.heap.size + 1]? = some (.cells #[.func (.func 21) #[] #[.pointer (some ⟨c, 0, none⟩)]] 42 (0, 0)) := by rw [HW2.out]; exact blkAlloc (blkAlloc (blkNewG _ _ (by simp)) _) _
  have h2 : w2.heap[w.heap.size + 1 + 1]? = some (.cells #[.slice none 0 0] 23 (0, 0)) := by rw [HW2.out]; exact blkAlloc (blkNewG _ _ (by simp)) _
  have h3 : w2.heap[w.heap.size + 1 + 1 + 1]? = some (.cells #[.int .i64 h] 3 (0, 0)) := by rw [HW2.out]; exact blkNewG _ _ (by simp)
  clear HW2 HR2
  refine rangeLaw (β := Nat) (b0 := 0) (Step := PStep h) (Fin := fun i => i = (pairsL h).length) (Bd := fun _ => True) (R := fun k => k = w.heap.size + 1 + 1 + 1) (gf := 30) (lb := #[.pointer (some ⟨w.heap.size + 1 + 1 + 1, 0, none⟩)]) rfl (enters_of Try.func30 (by kernel_rfl) rfl)
    (pairs_iter _ h hh w2 h3) (fun k hk => by have hk : k = w.heap.size + 1 + 1 + 1 := hk; omega) (fun b vs b' W hs => by obtain ⟨_, _, _, rfl⟩ := hs; rfl)
    (fun i W => ∃ A c, W.heap[w.heap.size + 1 + 1]? = some (.cells #[.slice A (meantL h mt i).length c] 23 (0, 0)) ∧ W.ownsRow w2.heap.size 28 5 (.slice A (meantL h mt i).length c) (meantL h mt i).length (flowsV bytes (meantL h mt i)) ∧ Ext (At (w.heap.size + 1 + 1)) w2 W)
    (fun code _ W => False)
    (fun i A B hh k => by
      obtain ⟨x, c, h4, h5, h6⟩ := hh
      exact ⟨x, c, k.blk h4, k.own h5, k.ext h6 (Nat.le_refl _)⟩)
    (fun code i A B hh k => hh)
    ⟨none, 0, h2, ownNil _ _ _ _, Ext.refl (At (w.heap.size + 1 + 1)) w2⟩ (fun i A h => trivial)
    (fun i i' a' W => ∃ p : Nat × Nat, (pairsL h)[i]? = some p ∧ i' = i + 1 ∧ a' = { tmps := #[.int .i64 h, .int .i64 bytes, .func (.func 21) #[] #[.pointer (some ⟨c, 0, none⟩)], undef, .pointer (some ⟨w.heap.size, 0, none⟩), .pointer (some ⟨w.heap.size + 1, 0, none⟩), .slice none 0 0, .int .i64 0, .pointer (some ⟨w.heap.size + 1 + 1, 0, none⟩),
      .int .i64 p.1, .int .i64 p.2, .int .i64 h, .int .i64 bytes, .bool true, .bool false, .int .i64 h, .func (.func 30) #[] #[.pointer (some ⟨w.heap.size + 1 + 1 + 1, 0, none⟩)], .int .i64 p.1, .int .i64 p.2, undef, undef, undef, undef, undef, undef, undef, undef, undef, undef, undef, undef], defers := [] })
    (fun i i' a' A B h k => h) ?assign ?body ?done ?stop
  case assign =>
    rintro l i i' vs W K ⟨p, hp, rfl, rfl⟩ hi hK
    gi_wp2
    exact hK _ _ (Bk.refl _) (KpR.refl _ _) hi ⟨p, hp, trivial, rfl⟩
  case body =>
    rintro l i i' a' W hl hlo ⟨A, c, y2, yo, hE⟩ ⟨p, hp, rfl, rfl⟩
    have hst := meantL_step (mt := mt) hp
    have hin := pairs_in hp
    have hlen := meantL_len h hh mt i
    obtain ⟨k, hk⟩ : ∃ k, (meantL h mt i).length = k := ⟨_, rfl⟩
    rw [hk] at y2 yo hlen
    have hne : ∀ n, w.heap.size ≤ n → n < w2.heap.size → n ≠ w.heap.size + 1 + 1 → ¬ At (w.heap.size + 1 + 1) n := fun n _ _ h3 h4 => h3 h4
    have y0 := hE.blk h0 (hne _ (by omega) (by omega) (by omega))
    have y1 := hE.blk h1 (hne _ (by omega) (by omega) (by omega))
    have y3 := hE.blk h3 (hne _ (by omega) (by omega) (by omega))
    have c0 := (blkCell y0 0).trans rfl
    have c1 := (blkCell y1 0).trans rfl
    have c2 := (blkCell y2 0).trans rfl
    simp at c0 c1 c2
    have hEw : Ext N0 w W := hE0.trans hE (fun k hk => .inr (by have hk : k = w.heap.size + 1 + 1 := hk; omega))
    have HMp := Lib.hid (HM.out W hEw p.1 p.2 hin.1 hin.2)
    have HE := Lib.hid hE
    have HO := Lib.hid yo
    have HS := Lib.hid hst
    have HY := Lib.hid y2
    have HK := Lib.hid hk
    have hb2 := hE.size
    clear hE yo hst y0 y1 y2 y3 hEw hp hk hne
    cases hb : mt p.1 p.2 with
    | false =>
      rw [hb] at HMp
      gi_wp2_with fail
      refine ⟨trivial, rfl, (callsIn_wide.2 HMp.out).mono ?_⟩
      rintro e w3 ⟨rfl, rfl⟩
      gi_wp2
      have e1 : meantL h mt (i + 1) = meantL h mt i := by have := HS.out; rw [hb] at this; simpa using this
      refine ⟨Bk.refl _, KpR.refl _ _, A, c, ?_, ?_, HE.out⟩
      · rw [e1, HK.out]; exact HY.out
      · rw [e1, HK.out]; exact HO.out
    | true =>
      rw [hb] at HMp
      have e1 : meantL h mt (i + 1) = meantL h mt i ++ [p] := by have := HS.out; rw [hb] at this; simpa using this
      have E1 := Lib.hid e1
      clear HS e1
      gi_wp2_with fail
      refine ⟨trivial, rfl, (callsIn_wide.2 HMp.out).mono ?_⟩
      rintro e w3 ⟨rfl, rfl⟩
      gi_wp2_with (gi_at_builtin; (refine wpAppIn w2.heap.size (.tmp 23) (.tmp 28) 23 28 (.agg #[.int .i64 0, .int .i64 0, .int .i64 0, .int .i64 0, .int .i64 0]) 5 40 rfl rfl Try.underlying23 info28 rfl (by decide) (by decide) (.slice A k c) k (flowsV bytes (meantL h mt i)) (some ⟨w3.heap.size, 0, none⟩) 1 1 [.int .i64 p.1, .int .i64 p.2, .int .i64 0, .int .i64 bytes, .int .i64 0] rfl rfl (ownKept0 HO.out ((Ext.refl _ _).alloc _)) rfl (litReads w3 _ _ (by simp)) (by simp [Value.oneCell']) (by omega) (by simp; omega) ?_); intro A' c' w4 ho2 hE2 hd2; have hE1 : Ext N0 w3 (w3.alloc (Obj.cells #[.int .i64 p.1, .int .i64 p.2, .int .i64 0, .int .i64 bytes, .int .i64 0] 28)) := (Ext.refl _ _).alloc _; have n4 : w4.heap[w.heap.size + 1 + 1]? = some (.cells #[.slice A k c] 23 (0, 0)) := hE2.blk (hE1.blk0 HY.out) (fun h => ownNeBlk HO.out HY.out (by decide) _ h rfl); have q4 := (blkCell n4 0).trans rfl; have f4 := blkFrozen n4 0)
      have ex : Ext (At (w.heap.size + 1 + 1)) w4 (w4.setCell ⟨w.heap.size + 1 + 1, 0, none⟩ (.slice A' (k + 1) c')) := (Ext.refl (At (w.heap.size + 1 + 1)) w4).setCell (p := ⟨w.heap.size + 1 + 1, 0, none⟩) (.inl (show w.heap.size + 1 + 1 = w.heap.size + 1 + 1 from rfl)) _
      have h5' := ownKept0 HO.out hE1
      have hlk : (meantL h mt (i + 1)).length = k + 1 := by rw [E1.out, List.length_append, HK.out]; rfl
      refine ⟨((Bk.of0 hE1).trans (Bk.of_ext hE2 (ownBk h5'))).trans (Bk.of_ext ex ?_), ?_, A', c', ?_, ?_, ?_⟩
      · rintro k o rfl ho
        rw [n4] at ho
        injection ho with ho
        rw [← ho]
        rfl
      · exact (KpR.of_ext hE1 (fun _ _ h => h)).trans hE1.size ((KpR.of_ext hE2 (fun k hk h => by have := (ownBase h5' k h).1; have hk : k = w.heap.size + 1 + 1 + 1 := hk; omega)).trans hE2.size (KpR.of_ext ex (fun k hk h => by have hk : k = w.heap.size + 1 + 1 + 1 := hk; have h : k = w.heap.size + 1 + 1 := h; omega)))
      · rw [hlk]
        exact blkSet n4 0 _
      · rw [hlk, E1.out, flowsV_app]
        exact ownKept ho2 ex (fun k hk h => ownNeBlk ho2 n4 (by decide) k hk h)
      · exact ((HE.out.then0 hE1).trans hE2 (fun k hk => .inr (ownBase h5' k hk).1)).same ex
  case done =>
    rintro D i W hD hF ⟨A, c, y2, yo, hE⟩ hK
    have hF : i = (pairsL h).length := hF
    subst hF
    have k4 := (blkCell y2 0).trans rfl
    clear y2
    simp at k4
    have HE := Lib.hid hE
    have HO := Lib.hid yo
    clear hE yo
    gi_wp2
    refine ⟨by simp, .inl ⟨_, _, rfl, run_takeDeferred hK, ?_⟩⟩
    have kb := Kb.put (z := w2.heap.size) (.deferred none) hK rfl hD
    refine ⟨.tuple #[.slice A (meantL h mt (pairsL h).length).length c, .int .i64 0], by simp [results, Try.f18, go_sem], A, c, rfl, ownLe (kb.own HO.out) (by omega), kb.ext (hE0.trans HE.out (fun k hk => .inr (by have : k = w.heap.size + 1 + 1 := hk; omega))) (by omega)⟩
  case stop => exact fun D code b W _ hF _ => (show False from hF).elim
set_option maxRecDepth 100000 in
theorem some_badI (h bytes : Int) (c : Nat) (w : World) (hR : ¬ RightP h bytes) :
    Calls Try.prog 18 #[.int .i64 h, .int .i64 bytes, .func (.func 21) #[] #[.pointer (some ⟨c, 0, none⟩)]] w fun e w' => e = .returned (.tuple #[.slice none 0 0, .int .i64 330]) ∧ Ext N0 w w' := by
  have HR := fun W => right_calls h bytes W
  rw [decide_eq_false hR] at HR
  have HR2 := Lib.hid HR
  clear HR hR
  refine callsIn_wide (n := 0) |>.1 ?_
  refine callsIn_of_wp_marks Try.func18 rfl trivial ?_ rfl
  simp only [Try.ntmps18, List.size_toArray, List.length_cons, List.length_nil, Nat.reduceAdd, Nat.reduceSub, Array.replicate_succ, Array.replicate_zero, List.push_toArray, List.append_toArray, List.nil_append, List.cons_append]
  gi_wp2_with fail
  refine ⟨trivial, rfl, (callsIn_wide.2 (HR2.out _)).mono ?_⟩
  rintro e w1 ⟨rfl, rfl⟩
  gi_wp2
  exact ⟨.tuple #[.slice none 0 0, .int .i64 330], by simp [results, Try.f18, go_sem], rfl, ((Ext.refl _ _).alloc _).alloc _⟩
set_option maxRecDepth 100000 in
set_option maxHeartbeats 1000000 in
theorem some_callsA (h : Nat) (bytes : Int) (mt : Nat → Nat → Bool) (w : World) (hR : RightP h bytes)
    (hm : ∀ W, Ext N0 w W → ∀ a b : Nat, a < h → b < h → Calls Try.prog 23 #[.int .i64 a, .int .i64 b] W fun e w' => e = .returned (.bool (mt a b)) ∧ w' = W) :
    Calls Try.prog 18 #[.int .i64 h, .int .i64 bytes, .func (.func 23) #[] #[]] w fun e w' => ∃ A cap, e = .returned (.tuple #[.slice A (meantL h mt (pairsL h).length).length cap, .int .i64 0]) ∧
      w'.ownsRow w.heap.size 28 5 (.slice A (meantL h mt (pairsL h).length).length cap) (meantL h mt (pairsL h).length).length (flowsV bytes (meantL h mt (pairsL h).length)) ∧ Ext N0 w w' := by
  have hh : h ≤ 8 := by unfold RightP at hR; omega
  have HR := fun W => right_calls h bytes W
  rw [decide_eq_true hR] at HR
  have HR2 := Lib.hid HR
  clear HR
  have HM := Lib.hid hm
  clear hm hR
  refine callsIn_wide (n := 0) |>.1 ?_
  refine callsIn_of_wp_marks Try.func18 rfl trivial ?_ rfl
  simp only [Try.ntmps18, List.size_toArray, List.length_cons, List.length_nil, Nat.reduceAdd, Nat.reduceSub, Array.replicate_succ, Array.replicate_zero, List.push_toArray, List.append_toArray, List.nil_append, List.cons_append]
  gi_wp2_with fail
  refine ⟨trivial, rfl, (callsIn_wide.2 (HR2.out _)).mono ?_⟩
  rintro e w1 ⟨rfl, rfl⟩
  gi_wp2_with fail
  refine ⟨trivial, rfl, (callsIn_wide.2 (pairs_calls h _)).mono ?_⟩
  rintro e w2 ⟨rfl, hw2⟩
  have HW2 := Lib.hid hw2
  clear hw2
  gi_wp2_with fail
  have hsz : w2.heap.size = w.heap.size + 4 := by rw [HW2.out]; simp
  have hE0 : Ext N0 w w2 := by rw [HW2.out]; exact ((((Ext.refl _ _).alloc _).alloc _).alloc _).alloc _
  have h0 : w2.heap[w.heap.size]? = some (.cells #[.int .i64 bytes] 3 (0, 0)) := by rw [HW2.out]; exact blkAlloc (blkAlloc (blkAlloc (blkNew _ _) _) _) _
  have h1 : w2.heap[w.heap.size + 1]? = some (.cells #[.func (.func 23) #[] #[]] 42 (0, 0)) := by rw [HW2.out]; exact blkAlloc (blkAlloc (blkNewG _ _ (by simp)) _) _
  have h2 : w2.heap[w.heap.size + 1 + 1]? = some (.cells #[.slice none 0 0] 23 (0, 0)) := by rw [HW2.out]; exact blkAlloc (blkNewG _ _ (by simp)) _
  have h3 : w2.heap[w.heap.size + 1 + 1 + 1]? = some (.cells #[.int .i64 h] 3 (0, 0)) := by rw [HW2.out]; exact blkNewG _ _ (by simp)
  clear HW2 HR2
  refine rangeLaw (β := Nat) (b0 := 0) (Step := PStep h) (Fin := fun i => i = (pairsL h).length) (Bd := fun _ => True) (R := fun k => k = w.heap.size + 1 + 1 + 1) (gf := 30) (lb := #[.pointer (some ⟨w.heap.size + 1 + 1 + 1, 0, none⟩)]) rfl (enters_of Try.func30 (by kernel_rfl) rfl)
    (pairs_iter _ h hh w2 h3) (fun k hk => by have hk : k = w.heap.size + 1 + 1 + 1 := hk; omega) (fun b vs b' W hs => by obtain ⟨_, _, _, rfl⟩ := hs; rfl)
    (fun i W => ∃ A c, W.heap[w.heap.size + 1 + 1]? = some (.cells #[.slice A (meantL h mt i).length c] 23 (0, 0)) ∧ W.ownsRow w2.heap.size 28 5 (.slice A (meantL h mt i).length c) (meantL h mt i).length (flowsV bytes (meantL h mt i)) ∧ Ext (At (w.heap.size + 1 + 1)) w2 W)
    (fun code _ W => False)
    (fun i A B hh k => by
      obtain ⟨x, c, h4, h5, h6⟩ := hh
      exact ⟨x, c, k.blk h4, k.own h5, k.ext h6 (Nat.le_refl _)⟩)
    (fun code i A B hh k => hh)
    ⟨none, 0, h2, ownNil _ _ _ _, Ext.refl (At (w.heap.size + 1 + 1)) w2⟩ (fun i A h => trivial)
    (fun i i' a' W => ∃ p : Nat × Nat, (pairsL h)[i]? = some p ∧ i' = i + 1 ∧ a' = { tmps := #[.int .i64 h, .int .i64 bytes, .func (.func 23) #[] #[], undef, .pointer (some ⟨w.heap.size, 0, none⟩), .pointer (some ⟨w.heap.size + 1, 0, none⟩), .slice none 0 0, .int .i64 0, .pointer (some ⟨w.heap.size + 1 + 1, 0, none⟩),
      .int .i64 p.1, .int .i64 p.2, .int .i64 h, .int .i64 bytes, .bool true, .bool false, .int .i64 h, .func (.func 30) #[] #[.pointer (some ⟨w.heap.size + 1 + 1 + 1, 0, none⟩)], .int .i64 p.1, .int .i64 p.2, undef, undef, undef, undef, undef, undef, undef, undef, undef, undef, undef, undef], defers := [] })
    (fun i i' a' A B h k => h) ?assign ?body ?done ?stop
  case assign =>
    rintro l i i' vs W K ⟨p, hp, rfl, rfl⟩ hi hK
    gi_wp2
    exact hK _ _ (Bk.refl _) (KpR.refl _ _) hi ⟨p, hp, trivial, rfl⟩
  case body =>
    rintro l i i' a' W hl hlo ⟨A, c, y2, yo, hE⟩ ⟨p, hp, rfl, rfl⟩
    have hst := meantL_step (mt := mt) hp
    have hin := pairs_in hp
    have hlen := meantL_len h hh mt i
    obtain ⟨k, hk⟩ : ∃ k, (meantL h mt i).length = k := ⟨_, rfl⟩
    rw [hk] at y2 yo hlen
    have hne : ∀ n, w.heap.size ≤ n → n < w2.heap.size → n ≠ w.heap.size + 1 + 1 → ¬ At (w.heap.size + 1 + 1) n := fun n _ _ h3 h4 => h3 h4
    have y0 := hE.blk h0 (hne _ (by omega) (by omega) (by omega))
    have y1 := hE.blk h1 (hne _ (by omega) (by omega) (by omega))
    have y3 := hE.blk h3 (hne _ (by omega) (by omega) (by omega))
    have c0 := (blkCell y0 0).trans rfl
    have c1 := (blkCell y1 0).trans rfl
    have c2 := (blkCell y2 0).trans rfl
    simp at c0 c1 c2
    have hEw : Ext N0 w W := hE0.trans hE (fun k hk => .inr (by have hk : k = w.heap.size + 1 + 1 := hk; omega))
    have HMp := Lib.hid (HM.out W hEw p.1 p.2 hin.1 hin.2)
    have HE := Lib.hid hE
    have HO := Lib.hid yo
    have HS := Lib.hid hst
    have HY := Lib.hid y2
    have HK := Lib.hid hk
    have hb2 := hE.size
    clear hE yo hst y0 y1 y2 y3 hEw hp hk hne
    cases hb : mt p.1 p.2 with
    | false =>
      rw [hb] at HMp
      gi_wp2_with fail
      refine ⟨trivial, rfl, (callsIn_wide.2 HMp.out).mono ?_⟩
      rintro e w3 ⟨rfl, rfl⟩
      gi_wp2
      have e1 : meantL h mt (i + 1) = meantL h mt i := by have := HS.out; rw [hb] at this; simpa using this
      refine ⟨Bk.refl _, KpR.refl _ _, A, c, ?_, ?_, HE.out⟩
      · rw [e1, HK.out]; exact HY.out
      · rw [e1, HK.out]; exact HO.out
    | true =>
      rw [hb] at HMp
      have e1 : meantL h mt (i + 1) = meantL h mt i ++ [p] := by have := HS.out; rw [hb] at this; simpa using this
      have E1 := Lib.hid e1
      clear HS e1
      gi_wp2_with fail
      refine ⟨trivial, rfl, (callsIn_wide.2 HMp.out).mono ?_⟩
      rintro e w3 ⟨rfl, rfl⟩
      gi_wp2_with (gi_at_builtin; (refine wpAppIn w2.heap.size (.tmp 23) (.tmp 28) 23 28 (.agg #[.int .i64 0, .int .i64 0, .int .i64 0, .int .i64 0, .int .i64 0]) 5 40 rfl rfl Try.underlying23 info28 rfl (by decide) (by decide) (.slice A k c) k (flowsV bytes (meantL h mt i)) (some ⟨w3.heap.size, 0, none⟩) 1 1 [.int .i64 p.1, .int .i64 p.2, .int .i64 0, .int .i64 bytes, .int .i64 0] rfl rfl (ownKept0 HO.out ((Ext.refl _ _).alloc _)) rfl (litReads w3 _ _ (by simp)) (by simp [Value.oneCell']) (by omega) (by simp; omega) ?_); intro A' c' w4 ho2 hE2 hd2; have hE1 : Ext N0 w3 (w3.alloc (Obj.cells #[.int .i64 p.1, .int .i64 p.2, .int .i64 0, .int .i64 bytes, .int .i64 0] 28)) := (Ext.refl _ _).alloc _; have n4 : w4.heap[w.heap.size + 1 + 1]? = some (.cells #[.slice A k c] 23 (0, 0)) := hE2.blk (hE1.blk0 HY.out) (fun h => ownNeBlk HO.out HY.out (by decide) _ h rfl); have q4 := (blkCell n4 0).trans rfl; have f4 := blkFrozen n4 0)
      have ex : Ext (At (w.heap.size + 1 + 1)) w4 (w4.setCell ⟨w.heap.size + 1 + 1, 0, none⟩ (.slice A' (k + 1) c')) := (Ext.refl (At (w.heap.size + 1 + 1)) w4).setCell (p := ⟨w.heap.size + 1 + 1, 0, none⟩) (.inl (show w.heap.size + 1 + 1 = w.heap.size + 1 + 1 from rfl)) _
      have h5' := ownKept0 HO.out hE1
      have hlk : (meantL h mt (i + 1)).length = k + 1 := by rw [E1.out, List.length_append, HK.out]; rfl
      refine ⟨((Bk.of0 hE1).trans (Bk.of_ext hE2 (ownBk h5'))).trans (Bk.of_ext ex ?_), ?_, A', c', ?_, ?_, ?_⟩
      · rintro k o rfl ho
        rw [n4] at ho
        injection ho with ho
        rw [← ho]
        rfl
      · exact (KpR.of_ext hE1 (fun _ _ h => h)).trans hE1.size ((KpR.of_ext hE2 (fun k hk h => by have := (ownBase h5' k h).1; have hk : k = w.heap.size + 1 + 1 + 1 := hk; omega)).trans hE2.size (KpR.of_ext ex (fun k hk h => by have hk : k = w.heap.size + 1 + 1 + 1 := hk; have h : k = w.heap.size + 1 + 1 := h; omega)))
      · rw [hlk]
        exact blkSet n4 0 _
      · rw [hlk, E1.out, flowsV_app]
        exact ownKept ho2 ex (fun k hk h => ownNeBlk ho2 n4 (by decide) k hk h)
      · exact ((HE.out.then0 hE1).trans hE2 (fun k hk => .inr (ownBase h5' k hk).1)).same ex
  case done =>
    rintro D i W hD hF ⟨A, c, y2, yo, hE⟩ hK
    have hF : i = (pairsL h).length := hF
    subst hF
    have k4 := (blkCell y2 0).trans rfl
    clear y2
    simp at k4
    have HE := Lib.hid hE
    have HO := Lib.hid yo
    clear hE yo
    gi_wp2
    refine ⟨by simp, .inl ⟨_, _, rfl, run_takeDeferred hK, ?_⟩⟩
    have kb := Kb.put (z := w2.heap.size) (.deferred none) hK rfl hD
    refine ⟨.tuple #[.slice A (meantL h mt (pairsL h).length).length c, .int .i64 0], by simp [results, Try.f18, go_sem], A, c, rfl, ownLe (kb.own HO.out) (by omega), kb.ext (hE0.trans HE.out (fun k hk => .inr (by have : k = w.heap.size + 1 + 1 := hk; omega))) (by omega)⟩
  case stop => exact fun D code b W _ hF _ => (show False from hF).elim
set_option maxRecDepth 100000 in
theorem some_badA (h bytes : Int) (w : World) (hR : ¬ RightP h bytes) :
    Calls Try.prog 18 #[.int .i64 h, .int .i64 bytes, .func (.func 23) #[] #[]] w fun e w' => e = .returned (.tuple #[.slice none 0 0, .int .i64 330]) ∧ Ext N0 w w' := by
  have HR := fun W => right_calls h bytes W
  rw [decide_eq_false hR] at HR
  have HR2 := Lib.hid HR
  clear HR hR
  refine callsIn_wide (n := 0) |>.1 ?_
  refine callsIn_of_wp_marks Try.func18 rfl trivial ?_ rfl
  simp only [Try.ntmps18, List.size_toArray, List.length_cons, List.length_nil, Nat.reduceAdd, Nat.reduceSub, Array.replicate_succ, Array.replicate_zero, List.push_toArray, List.append_toArray, List.nil_append, List.cons_append]
  gi_wp2_with fail
  refine ⟨trivial, rfl, (callsIn_wide.2 (HR2.out _)).mono ?_⟩
  rintro e w1 ⟨rfl, rfl⟩
  gi_wp2
  exact ⟨.tuple #[.slice none 0 0, .int .i64 330], by simp [results, Try.f18, go_sem], rfl, ((Ext.refl _ _).alloc _).alloc _⟩
set_option maxRecDepth 100000 in
set_option maxHeartbeats 1000000 in
theorem some_callsR (h : Nat) (bytes : Int) (mt : Nat → Nat → Bool) (c : Nat) (w : World) (hR : RightP h bytes)
    (hm : ∀ W, Ext N0 w W → ∀ a b : Nat, a < h → b < h → Calls Try.prog 19 #[.int .i64 a, .int .i64 b, .pointer (some ⟨c, 0, none⟩)] W fun e w' => e = .returned (.bool (mt a b)) ∧ w' = W) :
    Calls Try.prog 18 #[.int .i64 h, .int .i64 bytes, .func (.func 19) #[] #[.pointer (some ⟨c, 0, none⟩)]] w fun e w' => ∃ A cap, e = .returned (.tuple #[.slice A (meantL h mt (pairsL h).length).length cap, .int .i64 0]) ∧
      w'.ownsRow w.heap.size 28 5 (.slice A (meantL h mt (pairsL h).length).length cap) (meantL h mt (pairsL h).length).length (flowsV bytes (meantL h mt (pairsL h).length)) ∧ Ext N0 w w' := by
  have hh : h ≤ 8 := by unfold RightP at hR; omega
  have HR := fun W => right_calls h bytes W
  rw [decide_eq_true hR] at HR
  have HR2 := Lib.hid HR
  clear HR
  have HM := Lib.hid hm
  clear hm hR
  refine callsIn_wide (n := 0) |>.1 ?_
  refine callsIn_of_wp_marks Try.func18 rfl trivial ?_ rfl
  simp only [Try.ntmps18, List.size_toArray, List.length_cons, List.length_nil, Nat.reduceAdd, Nat.reduceSub, Array.replicate_succ, Array.replicate_zero, List.push_toArray, List.append_toArray, List.nil_append, List.cons_append]
  gi_wp2_with fail
  refine ⟨trivial, rfl, (callsIn_wide.2 (HR2.out _)).mono ?_⟩
  rintro e w1 ⟨rfl, rfl⟩
  gi_wp2_with fail
  refine ⟨trivial, rfl, (callsIn_wide.2 (pairs_calls h _)).mono ?_⟩
  rintro e w2 ⟨rfl, hw2⟩
  have HW2 := Lib.hid hw2
  clear hw2
  gi_wp2_with fail
  have hsz : w2.heap.size = w.heap.size + 4 := by rw [HW2.out]; simp
  have hE0 : Ext N0 w w2 := by rw [HW2.out]; exact ((((Ext.refl _ _).alloc _).alloc _).alloc _).alloc _
  have h0 : w2.heap[w.heap.size]? = some (.cells #[.int .i64 bytes] 3 (0, 0)) := by rw [HW2.out]; exact blkAlloc (blkAlloc (blkAlloc (blkNew _ _) _) _) _
  have h1 : w2.heap[w.heap.size + 1]? = some (.cells #[.func (.func 19) #[] #[.pointer (some ⟨c, 0, none⟩)]] 42 (0, 0)) := by rw [HW2.out]; exact blkAlloc (blkAlloc (blkNewG _ _ (by simp)) _) _
  have h2 : w2.heap[w.heap.size + 1 + 1]? = some (.cells #[.slice none 0 0] 23 (0, 0)) := by rw [HW2.out]; exact blkAlloc (blkNewG _ _ (by simp)) _
  have h3 : w2.heap[w.heap.size + 1 + 1 + 1]? = some (.cells #[.int .i64 h] 3 (0, 0)) := by rw [HW2.out]; exact blkNewG _ _ (by simp)
  clear HW2 HR2
  refine rangeLaw (β := Nat) (b0 := 0) (Step := PStep h) (Fin := fun i => i = (pairsL h).length) (Bd := fun _ => True) (R := fun k => k = w.heap.size + 1 + 1 + 1) (gf := 30) (lb := #[.pointer (some ⟨w.heap.size + 1 + 1 + 1, 0, none⟩)]) rfl (enters_of Try.func30 (by kernel_rfl) rfl)
    (pairs_iter _ h hh w2 h3) (fun k hk => by have hk : k = w.heap.size + 1 + 1 + 1 := hk; omega) (fun b vs b' W hs => by obtain ⟨_, _, _, rfl⟩ := hs; rfl)
    (fun i W => ∃ A c, W.heap[w.heap.size + 1 + 1]? = some (.cells #[.slice A (meantL h mt i).length c] 23 (0, 0)) ∧ W.ownsRow w2.heap.size 28 5 (.slice A (meantL h mt i).length c) (meantL h mt i).length (flowsV bytes (meantL h mt i)) ∧ Ext (At (w.heap.size + 1 + 1)) w2 W)
    (fun code _ W => False)
    (fun i A B hh k => by
      obtain ⟨x, c, h4, h5, h6⟩ := hh
      exact ⟨x, c, k.blk h4, k.own h5, k.ext h6 (Nat.le_refl _)⟩)
    (fun code i A B hh k => hh)
    ⟨none, 0, h2, ownNil _ _ _ _, Ext.refl (At (w.heap.size + 1 + 1)) w2⟩ (fun i A h => trivial)
    (fun i i' a' W => ∃ p : Nat × Nat, (pairsL h)[i]? = some p ∧ i' = i + 1 ∧ a' = { tmps := #[.int .i64 h, .int .i64 bytes, .func (.func 19) #[] #[.pointer (some ⟨c, 0, none⟩)], undef, .pointer (some ⟨w.heap.size, 0, none⟩), .pointer (some ⟨w.heap.size + 1, 0, none⟩), .slice none 0 0, .int .i64 0, .pointer (some ⟨w.heap.size + 1 + 1, 0, none⟩),
      .int .i64 p.1, .int .i64 p.2, .int .i64 h, .int .i64 bytes, .bool true, .bool false, .int .i64 h, .func (.func 30) #[] #[.pointer (some ⟨w.heap.size + 1 + 1 + 1, 0, none⟩)], .int .i64 p.1, .int .i64 p.2, undef, undef, undef, undef, undef, undef, undef, undef, undef, undef, undef, undef], defers := [] })
    (fun i i' a' A B h k => h) ?assign ?body ?done ?stop
  case assign =>
    rintro l i i' vs W K ⟨p, hp, rfl, rfl⟩ hi hK
    gi_wp2
    exact hK _ _ (Bk.refl _) (KpR.refl _ _) hi ⟨p, hp, trivial, rfl⟩
  case body =>
    rintro l i i' a' W hl hlo ⟨A, c, y2, yo, hE⟩ ⟨p, hp, rfl, rfl⟩
    have hst := meantL_step (mt := mt) hp
    have hin := pairs_in hp
    have hlen := meantL_len h hh mt i
    obtain ⟨k, hk⟩ : ∃ k, (meantL h mt i).length = k := ⟨_, rfl⟩
    rw [hk] at y2 yo hlen
    have hne : ∀ n, w.heap.size ≤ n → n < w2.heap.size → n ≠ w.heap.size + 1 + 1 → ¬ At (w.heap.size + 1 + 1) n := fun n _ _ h3 h4 => h3 h4
    have y0 := hE.blk h0 (hne _ (by omega) (by omega) (by omega))
    have y1 := hE.blk h1 (hne _ (by omega) (by omega) (by omega))
    have y3 := hE.blk h3 (hne _ (by omega) (by omega) (by omega))
    have c0 := (blkCell y0 0).trans rfl
    have c1 := (blkCell y1 0).trans rfl
    have c2 := (blkCell y2 0).trans rfl
    simp at c0 c1 c2
    have hEw : Ext N0 w W := hE0.trans hE (fun k hk => .inr (by have hk : k = w.heap.size + 1 + 1 := hk; omega))
    have HMp := Lib.hid (HM.out W hEw p.1 p.2 hin.1 hin.2)
    have HE := Lib.hid hE
    have HO := Lib.hid yo
    have HS := Lib.hid hst
    have HY := Lib.hid y2
    have HK := Lib.hid hk
    have hb2 := hE.size
    clear hE yo hst y0 y1 y2 y3 hEw hp hk hne
    cases hb : mt p.1 p.2 with
    | false =>
      rw [hb] at HMp
      gi_wp2_with fail
      refine ⟨trivial, rfl, (callsIn_wide.2 HMp.out).mono ?_⟩
      rintro e w3 ⟨rfl, rfl⟩
      gi_wp2
      have e1 : meantL h mt (i + 1) = meantL h mt i := by have := HS.out; rw [hb] at this; simpa using this
      refine ⟨Bk.refl _, KpR.refl _ _, A, c, ?_, ?_, HE.out⟩
      · rw [e1, HK.out]; exact HY.out
      · rw [e1, HK.out]; exact HO.out
    | true =>
      rw [hb] at HMp
      have e1 : meantL h mt (i + 1) = meantL h mt i ++ [p] := by have := HS.out; rw [hb] at this; simpa using this
      have E1 := Lib.hid e1
      clear HS e1
      gi_wp2_with fail
      refine ⟨trivial, rfl, (callsIn_wide.2 HMp.out).mono ?_⟩
      rintro e w3 ⟨rfl, rfl⟩
      gi_wp2_with (gi_at_builtin; (refine wpAppIn w2.heap.size (.tmp 23) (.tmp 28) 23 28 (.agg #[.int .i64 0, .int .i64 0, .int .i64 0, .int .i64 0, .int .i64 0]) 5 40 rfl rfl Try.underlying23 info28 rfl (by decide) (by decide) (.slice A k c) k (flowsV bytes (meantL h mt i)) (some ⟨w3.heap.size, 0, none⟩) 1 1 [.int .i64 p.1, .int .i64 p.2, .int .i64 0, .int .i64 bytes, .int .i64 0] rfl rfl (ownKept0 HO.out ((Ext.refl _ _).alloc _)) rfl (litReads w3 _ _ (by simp)) (by simp [Value.oneCell']) (by omega) (by simp; omega) ?_); intro A' c' w4 ho2 hE2 hd2; have hE1 : Ext N0 w3 (w3.alloc (Obj.cells #[.int .i64 p.1, .int .i64 p.2, .int .i64 0, .int .i64 bytes, .int .i64 0] 28)) := (Ext.refl _ _).alloc _; have n4 : w4.heap[w.heap.size + 1 + 1]? = some (.cells #[.slice A k c] 23 (0, 0)) := hE2.blk (hE1.blk0 HY.out) (fun h => ownNeBlk HO.out HY.out (by decide) _ h rfl); have q4 := (blkCell n4 0).trans rfl; have f4 := blkFrozen n4 0)
      have ex : Ext (At (w.heap.size + 1 + 1)) w4 (w4.setCell ⟨w.heap.size + 1 + 1, 0, none⟩ (.slice A' (k + 1) c')) := (Ext.refl (At (w.heap.size + 1 + 1)) w4).setCell (p := ⟨w.heap.size + 1 + 1, 0, none⟩) (.inl (show w.heap.size + 1 + 1 = w.heap.size + 1 + 1 from rfl)) _
      have h5' := ownKept0 HO.out hE1
      have hlk : (meantL h mt (i + 1)).length = k + 1 := by rw [E1.out, List.length_append, HK.out]; rfl
      refine ⟨((Bk.of0 hE1).trans (Bk.of_ext hE2 (ownBk h5'))).trans (Bk.of_ext ex ?_), ?_, A', c', ?_, ?_, ?_⟩
      · rintro k o rfl ho
        rw [n4] at ho
        injection ho with ho
        rw [← ho]
        rfl
      · exact (KpR.of_ext hE1 (fun _ _ h => h)).trans hE1.size ((KpR.of_ext hE2 (fun k hk h => by have := (ownBase h5' k h).1; have hk : k = w.heap.size + 1 + 1 + 1 := hk; omega)).trans hE2.size (KpR.of_ext ex (fun k hk h => by have hk : k = w.heap.size + 1 + 1 + 1 := hk; have h : k = w.heap.size + 1 + 1 := h; omega)))
      · rw [hlk]
        exact blkSet n4 0 _
      · rw [hlk, E1.out, flowsV_app]
        exact ownKept ho2 ex (fun k hk h => ownNeBlk ho2 n4 (by decide) k hk h)
      · exact ((HE.out.then0 hE1).trans hE2 (fun k hk => .inr (ownBase h5' k hk).1)).same ex
  case done =>
    rintro D i W hD hF ⟨A, c, y2, yo, hE⟩ hK
    have hF : i = (pairsL h).length := hF
    subst hF
    have k4 := (blkCell y2 0).trans rfl
    clear y2
    simp at k4
    have HE := Lib.hid hE
    have HO := Lib.hid yo
    clear hE yo
    gi_wp2
    refine ⟨by simp, .inl ⟨_, _, rfl, run_takeDeferred hK, ?_⟩⟩
    have kb := Kb.put (z := w2.heap.size) (.deferred none) hK rfl hD
    refine ⟨.tuple #[.slice A (meantL h mt (pairsL h).length).length c, .int .i64 0], by simp [results, Try.f18, go_sem], A, c, rfl, ownLe (kb.own HO.out) (by omega), kb.ext (hE0.trans HE.out (fun k hk => .inr (by have : k = w.heap.size + 1 + 1 := hk; omega))) (by omega)⟩
  case stop => exact fun D code b W _ hF _ => (show False from hF).elim
set_option maxRecDepth 100000 in
theorem some_badR (h bytes : Int) (c : Nat) (w : World) (hR : ¬ RightP h bytes) :
    Calls Try.prog 18 #[.int .i64 h, .int .i64 bytes, .func (.func 19) #[] #[.pointer (some ⟨c, 0, none⟩)]] w fun e w' => e = .returned (.tuple #[.slice none 0 0, .int .i64 330]) ∧ Ext N0 w w' := by
  have HR := fun W => right_calls h bytes W
  rw [decide_eq_false hR] at HR
  have HR2 := Lib.hid HR
  clear HR hR
  refine callsIn_wide (n := 0) |>.1 ?_
  refine callsIn_of_wp_marks Try.func18 rfl trivial ?_ rfl
  simp only [Try.ntmps18, List.size_toArray, List.length_cons, List.length_nil, Nat.reduceAdd, Nat.reduceSub, Array.replicate_succ, Array.replicate_zero, List.push_toArray, List.append_toArray, List.nil_append, List.cons_append]
  gi_wp2_with fail
  refine ⟨trivial, rfl, (callsIn_wide.2 (HR2.out _)).mono ?_⟩
  rintro e w1 ⟨rfl, rfl⟩
  gi_wp2
  exact ⟨.tuple #[.slice none 0 0, .int .i64 330], by simp [results, Try.f18, go_sem], rfl, ((Ext.refl _ _).alloc _).alloc _⟩
end Go.Proofs.Ytfaljgaeeholoaa
