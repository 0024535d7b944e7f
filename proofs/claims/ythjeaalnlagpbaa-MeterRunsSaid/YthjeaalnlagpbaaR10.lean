/- The first keys and tokens that package meter tells, in a row, proved for every value that its statement lets in (the conditions stand in the statements). -/
import Derived.Test.YthjeaalnlagpbaaR9
namespace Go.Proofs.Ythjeaalnlagpbaa
open Go.RowKit Go.Maps
attribute [local go_sem] Oper.semAt_some
theorem take_step {m : Mt ByteArray} {i : Nat} {k : ByteArray} (h : m.ks[i]? = some k) : m.rows.take (i + 1) = m.rows.take i ++ [(k, m.tok k)] := by
  rw [List.take_add_one, rows_get h]
  rfl
/-- The row that is gathered. -/
structure Gth (w2 : World) (x : Nat) (m : Mt ByteArray) (i : Nat) (W : World) (A : Option Addr) (c : Nat) : Prop where
  box : W.heap[x]? = some (.cells #[.slice A i c] 44 (0, 0))
  own : W.ownsRow w2.heap.size 90 2 (.slice A i c) i (kCells (m.rows.take i))
  ext : Ext (At x) w2 W
theorem ownBk {w : World} {b n s : Nat} {e : TypeId} {v : Value} {xs : List Value} (h : w.ownsRow b e s v n xs) : ∀ (k : Nat) (o : Obj), v.ownBlock = some k → w.heap[k]? = some o → ∃ cs fr, o = .cells cs e fr := by
  intro k o hk ho
  rcases h.2 with ⟨rfl, _⟩ | ⟨g, cap, cur, rfl, _, hh, _⟩
  · simp [Value.ownBlock] at hk
  · have e2 : g = k := by simpa [Value.ownBlock] using hk
    subst e2
    rw [hh] at ho
    injection ho with ho
    exact ⟨_, _, ho.symm⟩
set_option maxRecDepth 100000 in
set_option maxHeartbeats 1000000 in
theorem keys_yes (base g u : Nat) (m : Mt ByteArray) (hok : m.Ok) (hkey : ∀ k ∈ m.ks, keyOf Try.prog 9 (.string k) = some (.string k.data.toList)) (n : Nat) (hn : n ≤ 2000) (w : World) (hM : IsMS base w g m u) :
    Calls Try.prog 28 #[.pointer (some ⟨g, 0, none⟩), .int .i64 n] w fun e w' => ∃ A c, e = .returned (.slice A (m.rows.take n).length c) ∧ RL w.heap.size w' A c (m.rows.take n) ∧ Ext N0 w w' := by
  have hlen : m.ks.length ≤ 1000 := by
    have h1 := hok.len
    have h2 := hok.most
    omega
  have hrl := rows_len m
  refine callsIn_wide (n := 0) |>.1 ?_
  refine callsIn_of_wp_marks Try.func28 rfl trivial ?_ rfl
  simp only [Try.ntmps28, List.size_toArray, List.length_cons, List.length_nil, Nat.reduceAdd, Nat.reduceSub, Array.replicate_succ, Array.replicate_zero, List.push_toArray, List.append_toArray, List.nil_append, List.cons_append]
  have HM := Lib.hid hM
  have HK := Lib.hid hkey
  have HOK := Lib.hid hok
  have HRL := Lib.hid hrl
  clear hM hkey hok hrl
  gi_wp2_with fail
  refine ⟨trivial, rfl, (callsIn_wide.2 (keysM_calls (some ⟨g, 0, none⟩) _)).mono ?_⟩
  rintro e w2 ⟨rfl, hw2⟩
  have HW2 := Lib.hid hw2
  clear hw2
  have qf := fun (W : World) => eqlFuncNil (P := Try.prog) W (.func 46) #[] #[.pointer (some ⟨w.heap.size + 1 + 1, 0, none⟩)] Try.underlying92
  gi_wp2_with fail
  have hsz : w2.heap.size = w.heap.size + 3 := by rw [HW2.out]; simp
  have hE2 : Ext N0 w w2 := by rw [HW2.out]; exact (((Ext.refl _ _).alloc _).alloc _).alloc _
  have hn2 : w2.heap[w.heap.size]? = some (.cells #[.int .i64 n] 3 (0, 0)) := by rw [HW2.out]; exact blkAlloc (blkAlloc (blkNew _ _) _) _
  have hs2 : w2.heap[w.heap.size + 1]? = some (.cells #[.slice none 0 0] 44 (0, 0)) := by rw [HW2.out]; exact blkAlloc (blkNewG _ _ (by simp)) _
  have hb2 : w2.heap[w.heap.size + 1 + 1]? = some (.cells #[.pointer (some ⟨g, 0, none⟩)] 41 (0, 0)) := by rw [HW2.out]; exact blkNewG _ _ (by simp)
  have hM2 := HM.out.kept0 hE2
  clear HW2 HM qf
  refine rangeLawT (β := Nat) (b0 := 0) (Step := KS2 m) (Fin := fun i => i = m.ks.length) (Bd := fun _ => True) (T := tk) (gf := 46) (lb := #[.pointer (some ⟨w.heap.size + 1 + 1, 0, none⟩)]) rfl (enters_of Try.func46 (by kernel_rfl) rfl)
    (keys_iter base _ g u m HOK.out HK.out w2 hb2 hM2) tk_bk (fun b vs b' W hs => by obtain ⟨_, _, _, rfl⟩ := hs; rfl)
    (fun i W => i ≤ n ∧ ∃ A c, Gth w2 (w.heap.size + 1) m i W A c)
    (fun code j W => code = .exit 0 ∧ n < m.ks.length ∧ ∃ A c, Gth w2 (w.heap.size + 1) m n W A c)
    (fun i A B hh k => by
      obtain ⟨h0, x, c, h⟩ := hh
      exact ⟨h0, x, c, k.blk h.box, k.own h.own, k.ext h.ext (Nat.le_refl _)⟩)
    (fun code i A B hh k => by
      obtain ⟨h0, h1, x, c, h⟩ := hh
      exact ⟨h0, h1, x, c, k.blk h.box, k.own h.own, k.ext h.ext (Nat.le_refl _)⟩)
    ⟨Nat.zero_le _, none, 0, hs2, ownNil _ _ _ _, Ext.refl _ w2⟩ (fun i A h => trivial)
    (fun i i' a' W => ∃ k, m.ks[i]? = some k ∧ i' = i + 1 ∧ a' = { tmps := #[.pointer (some ⟨g, 0, none⟩), .int .i64 n, undef, .pointer (some ⟨w.heap.size, 0, none⟩), .slice none 0 0, .pointer (some ⟨w.heap.size + 1, 0, none⟩), .func (.func 46) #[] #[.pointer (some ⟨w.heap.size + 1 + 1, 0, none⟩)], .string k, .int .i64 (m.tok k), .pointer (some ⟨g, 0, none⟩), .func (.func 46) #[] #[.pointer (some ⟨w.heap.size + 1 + 1, 0, none⟩)], .func (.func 46) #[] #[.pointer (some ⟨w.heap.size + 1 + 1, 0, none⟩)], .bool false, .func (.func 46) #[] #[.pointer (some ⟨w.heap.size + 1 + 1, 0, none⟩)], .string k, .int .i64 (m.tok k), undef, undef, undef, undef, undef, undef, undef, undef, undef, undef, undef], defers := [] })
    (fun i i' a' A B h k => h) ?assign ?body ?done ?stop
  case assign =>
    rintro l i i' vs W K ⟨k, hk, rfl, rfl⟩ hi hK
    gi_wp2
    exact hK _ _ (Bkz.refl _ _) (KpO.refl _ _) hi ⟨k, hk, trivial, rfl⟩
  case body =>
    rintro l i i' a' W hl hlo ⟨hin, A, c, hG⟩ ⟨k, hk, rfl, rfl⟩
    have hil : i < m.ks.length := (List.getElem?_eq_some_iff.1 hk).1
    have cn := (blkCell (hG.ext.blk hn2 (fun (h : w.heap.size = w.heap.size + 1) => by omega)) 0).trans rfl
    have c2 := (blkCell hG.box 0).trans rfl
    simp at cn c2
    have hst := take_step hk
    obtain ⟨t, ht⟩ : ∃ t, m.tok k = t := ⟨_, rfl⟩
    rw [ht] at hst ⊢
    have HST := Lib.hid hst
    have HG := Lib.hid hG
    have hb2 := hG.ext.size
    have htl : (kCells (m.rows.take i)).length = i * 2 := by rw [kCells_len, List.length_take, HRL.out]; omega
    have HTL := Lib.hid htl
    clear hG hst ht hk htl
    by_cases hlt : i < n
    · have hlt' : ¬ (n : Int) ≤ i := by omega
      gi_wp2_with (gi_at_builtin; (refine wpAppIn w2.heap.size (.tmp 20) (.tmp 24) 44 90 (.agg #[.string ⟨#[]⟩, .int .i64 0]) 2 24 rfl rfl Try.underlying44 info90 rfl (by decide) (by decide) (.slice A i c) i (kCells (m.rows.take i)) (some ⟨W.heap.size, 0, none⟩) 1 1 [.string k, .int .i64 t] rfl rfl (ownKept0 HG.out.own ((Ext.refl _ _).alloc _)) rfl (litReads W _ _ (by simp)) (by simp [Value.oneCell']) (by omega) (by simp; omega) ?_); intro A' c' w4 ho2 hE2 hd2; have hE1 : Ext N0 W (W.alloc (Obj.cells #[.string k, .int .i64 t] 90)) := (Ext.refl _ _).alloc _; have n4 : w4.heap[w.heap.size + 1]? = some (.cells #[.slice A i c] 44 (0, 0)) := hE2.blk (hE1.blk0 HG.out.box) (fun h => ownNeBlk HG.out.own HG.out.box (by decide) _ h rfl); have q4 := (blkCell n4 0).trans rfl; have f4 := blkFrozen n4 0)
      have ex : Ext (At (w.heap.size + 1)) w4 (w4.setCell ⟨w.heap.size + 1, 0, none⟩ (.slice A' (i + 1) c')) := extSet _ _ _ _
      have h5' := ownKept0 HG.out.own hE1
      have hnb : ∀ k o, At (w.heap.size + 1) k → w4.heap[k]? = some o → o = .cells #[.slice A i c] 44 (0, 0) := by
        rintro k o rfl ho
        rw [n4] at ho
        injection ho with ho
        exact ho.symm
      have hX : Ext (fun k => k = w.heap.size + 1 ∨ (Value.slice A i c).ownBlock = some k) W (w4.setCell ⟨w.heap.size + 1, 0, none⟩ (.slice A' (i + 1) c')) :=
        ((Ext.of0 hE1).trans hE2 (fun k hk => .inl (.inr hk))).trans ex (fun k hk => .inl (.inl hk))
      refine ⟨((Bk.of_ext hX ?_).z _), KpO.of_ext hX ?_, by omega, A', c', ?_, ?_, ?_⟩
      · rintro k o (rfl | hk) ho
        · rw [HG.out.box] at ho
          injection ho with ho
          rw [← ho]
          rfl
        · obtain ⟨cs, fr, rfl⟩ := ownBk HG.out.own k o hk ho
          rfl
      · rintro k o (rfl | hk) ho hT
        · rw [HG.out.box] at ho
          injection ho with ho
          rw [← ho] at hT
          exact hT.2 rfl
        · obtain ⟨cs, fr, rfl⟩ := ownBk HG.out.own k o hk ho
          exact hT.1 rfl
      · exact blkSet n4 0 _
      · rw [HST.out, kCells_app]
        exact ownKept ho2 ex (fun k hk h => ownNeBlk ho2 n4 (by decide) k hk h)
      · exact ((HG.out.ext.then0 hE1).trans hE2 (fun k hk => .inr (ownBase h5' k hk).1)).same ex
    · have hlt' : (n : Int) ≤ i := by omega
      obtain rfl : i = n := by omega
      gi_wp2
      exact ⟨Bkz.refl _ _, rfl, hil, A, c, HG.out⟩
  case done =>
    rintro D i W hD hF ⟨hin, A, c, hG⟩ hK
    have hF : i = m.ks.length := hF
    subst hF
    have k4 := (blkCell hG.box 0).trans rfl
    simp at k4
    have HG := Lib.hid hG
    clear hG
    gi_wp2
    refine ⟨by simp, .inl ⟨_, _, rfl, run_takeDeferred hK, ?_⟩⟩
    have kb := Kb.put (z := w2.heap.size) (.deferred none) hK rfl hD
    have hr : m.rows.take n = m.rows.take m.ks.length := by rw [List.take_of_length_le (by have := HRL.out; omega), List.take_of_length_le (by have := HRL.out; omega)]
    refine ⟨.slice A m.ks.length c, by simp [results, Try.f28, go_sem], A, c, ?_, ?_, kb.ext (hE2.trans HG.out.ext (fun k hk => .inr (by have : k = w.heap.size + 1 := hk; omega))) (by omega)⟩
    · first | rw [HRL.out, Nat.min_eq_right hin] | rw [hr, List.length_take, HRL.out, Nat.min_self]
    · rw [hr]
      unfold RL
      rw [List.length_take, HRL.out, Nat.min_self]
      exact ownLe (kb.own HG.out.own) (by omega)
  case stop =>
    rintro D code i W hD ⟨rfl, hnl, A, c, hG⟩ hK
    have k4 := (blkCell hG.box 0).trans rfl
    simp at k4
    have HG := Lib.hid hG
    clear hG
    gi_wp2
    refine ⟨by simp, .inl ⟨_, _, rfl, run_takeDeferred hK, ?_⟩⟩
    have kb := Kb.put (z := w2.heap.size) (.deferred none) hK rfl hD
    refine ⟨.slice A n c, by simp [results, Try.f28, go_sem], A, c, ?_, ?_, kb.ext (hE2.trans HG.out.ext (fun k hk => .inr (by have : k = w.heap.size + 1 := hk; omega))) (by omega)⟩
    · first | rw [HRL.out, Nat.min_eq_left (by omega)] | rw [List.length_take, HRL.out, Nat.min_eq_left (by omega)]
    · unfold RL
      rw [List.length_take, HRL.out, Nat.min_eq_left (by omega)]
      exact ownLe (kb.own HG.out.own) (by omega)
/-- What a row tells. -/
def RC (w : World) (A : Option Addr) (L : Kr) : Prop := ∀ i p, L[i]? = some p → ∃ g, A = some ⟨g, 0, none⟩ ∧ w.cell? ⟨g, i * 2, none⟩ = some (.string p.1) ∧ w.cell? ⟨g, i * 2 + 1, none⟩ = some (.int .i64 p.2)
theorem RC.kept0 {w w' : World} {A : Option Addr} {L : Kr} (h : RC w A L) (hE : Ext N0 w w') : RC w' A L := fun i p hp => by
  obtain ⟨g, h1, h2, h3⟩ := h i p hp
  exact ⟨g, h1, hE.cell h2 (fun x => x), hE.cell h3 (fun x => x)⟩
theorem RL.rc {base c : Nat} {w : World} {A : Option Addr} {L : Kr} (h : RL base w A c L) : RC w A L := fun i p hp => by
  obtain ⟨g, h1, _, h2⟩ := h.at (List.getElem?_eq_some_iff.1 hp).1
  exact ⟨g, h1, h2 w (Ext.refl _ _) i p hp⟩
theorem RC.take {w : World} {A : Option Addr} {L : Kr} (h : RC w A L) (n : Nat) : RC w A (L.take n) := fun i p hp => by
  rw [List.getElem?_take] at hp
  split at hp
  · exact h i p hp
  · cases hp
theorem neq2 (k : ByteArray) (t : Int) (W : World) : (binOp .neq 90 (.agg #[.string k, .int .i64 t]) (.agg #[.string k, .int .i64 t])).run Try.prog W = .ok (.bool false) W := by
  have h3 : ∀ (d : Nat) (x : Int) (W : World), (Op.equalIn (d + 1) 3 (.int .i64 x) (.int .i64 x)).run Try.prog W = .ok true W := fun d x W => by
    simp [Op.equalIn, run_underlying Try.underlying3]
  have h9 : ∀ (d : Nat) (x : ByteArray) (W : World), (Op.equalIn (d + 1) 9 (.string x) (.string x)).run Try.prog W = .ok true W := fun d x W => by
    simp [Op.equalIn, run_underlying Try.underlying9]
    first | exact beq_self_eq_true x | (show (x.data == x.data) = true; simp)
  have h : ∀ d : Nat, (Op.equalIn (d + 2) 90 (.agg #[.string k, .int .i64 t]) (.agg #[.string k, .int .i64 t])).run Try.prog W = .ok true W := fun d => by
    rw [Op.equalIn]
    have hA : ∀ W, (isAgg 3).run Try.prog W = .ok false W := fun W => by simp [isAgg, run_underlying Try.underlying3]
    have hB : ∀ W, (isAgg 9).run Try.prog W = .ok false W := fun W => by simp [isAgg, run_underlying Try.underlying9]
    simp [run_underlying Try.underlying90, go_sem, h3, h9, hA, hB]
  simp only [binOp]
  simp [Op.equal, Op.maxDepth, h 9998]
end Go.Proofs.Ythjeaalnlagpbaa
namespace Go.Proofs.Ythjeaalnlagpbaa
open Go.RowKit
set_option maxRecDepth 100000 in
set_option maxHeartbeats 1000000 in
theorem same_yes (L : Kr) (A B : Option Addr) (c d : Nat) (w : World) (hA : RC w A L) (hB : RC w B L) (hl : L.length ≤ 2000) :
    Calls Try.prog 27 #[.slice A L.length c, .slice B L.length d] w fun e w' => e = .returned (.bool true) ∧ Ext N0 w w' := by
  have HA := Lib.hid hA
  have HB := Lib.hid hB
  have HE0 := Lib.hid (Ext.refl N0 w)
  obtain ⟨n, hn⟩ : ∃ n, L.length = n := ⟨_, rfl⟩
  have HN := Lib.hid hn
  rw [hn] at hl ⊢
  clear hA hB hn
  go_enter Try.func27, Try.ntmps27
  go_wp2_with fail
  go_loopw [5] (fun v wr => ∃ i : Nat, v = .int .i64 i ∧ i ≤ n ∧ Hid (Ext N0 w wr)) (fun v _ => n - (intOf v).toNat)
  case atStart => exact ⟨0, rfl, by omega, HE0⟩
  case round =>
    clear HE0
    obtain ⟨i, rfl, hi, HE⟩ := hrel
    by_cases hlt : i < n
    · have hlt' : (i : Int) < n := by omega
      obtain ⟨⟨k, t⟩, hp⟩ : ∃ p, L[i]? = some p := ⟨_, List.getElem?_eq_getElem (by rw [HN.out]; exact hlt)⟩
      have HD := Lib.hid (HE.out.drew)
      obtain ⟨g, rfl, a1, a2⟩ := HA.out.kept0 HD.out i _ hp
      obtain ⟨h, rfl, b1, b2⟩ := HB.out.kept0 HD.out i _ hp
      have a1 : wr.drew.cell? ⟨g, i * 2, none⟩ = some (.string k) := a1
      have a2 : wr.drew.cell? ⟨g, i * 2 + 1, none⟩ = some (.int .i64 t) := a2
      have b1 : wr.drew.cell? ⟨h, i * 2, none⟩ = some (.string k) := b1
      have b2 : wr.drew.cell? ⟨h, i * 2 + 1, none⟩ = some (.int .i64 t) := b2
      have q2 := neq2 k t
      clear hp
      go_wp2_with fail
      go_region
      all_goals
        go_wp2
        go_roundw
        case rel => exact ⟨i + 1, by go_num, by omega, HD⟩
        case measure => simp only [intOf]; omega
    · have hlt' : ¬ (i : Int) < n := by omega
      go_wp2
      go_ret
      exact ⟨rfl, HE.out⟩
end Go.Proofs.Ythjeaalnlagpbaa
