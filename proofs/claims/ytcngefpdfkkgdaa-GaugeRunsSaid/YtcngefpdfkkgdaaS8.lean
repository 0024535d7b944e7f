/- The first keys that package gauge of texts tells, in a row (the conditions stand in the statements). -/
import Derived.Test.YtcngefpdfkkgdaaS7
namespace Go.Proofs.Ytcngefpdfkkgdaa
open Go.RowKit Go.Maps
/-- The row that is gathered. -/
structure Gth (w2 : World) (x : Nat) (ks : List ByteArray) (i : Nat) (W : World) (A : Option Addr) (c : Nat) : Prop where
  box : W.heap[x]? = some (.cells #[.slice A i c] 46 (0, 0))
  own : W.ownsRow w2.heap.size 9 1 (.slice A i c) i (sv (ks.take i))
  ext : Ext (At x) w2 W
theorem ownBkS {w : World} {b n s : Nat} {e : TypeId} {v : Value} {xs : List Value} (h : w.ownsRow b e s v n xs) : ∀ (k : Nat) (o : Obj), v.ownBlock = some k → w.heap[k]? = some o → isBk o = false := by
  intro k o hk ho
  rcases h.2 with ⟨rfl, _⟩ | ⟨g, cap, cur, rfl, _, hh, _⟩
  · simp [Value.ownBlock] at hk
  · have e2 : g = k := by simpa [Value.ownBlock] using hk
    subst e2
    rw [hh] at ho
    injection ho with ho
    rw [← ho]
    rfl
attribute [local go_sem] Oper.semAt_some
set_option maxRecDepth 100000 in
set_option maxHeartbeats 1000000 in
theorem keysG_yes (base g u : Nat) (G : Ga ByteArray) (F : Nat → Prop) (hlen : G.ks.length ≤ 1000) (n : Nat) (hn : n ≤ 2000) (w : World) (hG : IsGS base w g G u F) :
    Calls Try.prog 22 #[.pointer (some ⟨g, 0, none⟩), .int .i64 n] w fun e w' => ∃ A c, e = .returned (.slice A (G.ks.take n).length c) ∧ Reads w' A (sv (G.ks.take n)) ∧ Ext N0 w w' := by
  refine callsIn_wide (n := 0) |>.1 ?_
  refine callsIn_of_wp_marks Try.func22 rfl trivial ?_ rfl
  simp only [Try.ntmps22, List.size_toArray, List.length_cons, List.length_nil, Nat.reduceAdd, Nat.reduceSub, Array.replicate_succ, Array.replicate_zero, List.push_toArray, List.append_toArray, List.nil_append, List.cons_append]
  have HM := Lib.hid hG
  obtain ⟨ks, hks⟩ : ∃ ks, G.ks = ks := ⟨_, rfl⟩
  have HKs := Lib.hid hks
  rw [hks] at hlen ⊢
  clear hG hks
  gi_wp2_with fail
  refine ⟨trivial, rfl, (callsIn_wide.2 (keysG_calls (some ⟨g, 0, none⟩) _)).mono ?_⟩
  rintro e w2 ⟨rfl, hw2⟩
  have HW2 := Lib.hid hw2
  clear hw2
  have qf := fun (W : World) => eqlFuncNil (P := Try.prog) W (.func 53) #[] #[.pointer (some ⟨w.heap.size + 1 + 1, 0, none⟩)] Try.underlying91
  gi_wp2_with fail
  have hsz : w2.heap.size = w.heap.size + 3 := by rw [HW2.out]; simp
  have hE2 : Ext N0 w w2 := by rw [HW2.out]; exact (((Ext.refl _ _).alloc _).alloc _).alloc _
  have hn2 : w2.heap[w.heap.size]? = some (.cells #[.int .i64 n] 3 (0, 0)) := by rw [HW2.out]; exact blkAlloc (blkAlloc (blkNew _ _) _) _
  have hs2 : w2.heap[w.heap.size + 1]? = some (.cells #[.slice none 0 0] 46 (0, 0)) := by rw [HW2.out]; exact blkAlloc (blkNewG _ _ (by simp)) _
  have hb2 : w2.heap[w.heap.size + 1 + 1]? = some (.cells #[.pointer (some ⟨g, 0, none⟩)] 24 (0, 0)) := by rw [HW2.out]; exact blkNewG _ _ (by simp)
  have hG2 := HM.out.kept0 hE2
  have hit : IterM Try.prog 53 #[.pointer (some ⟨w.heap.size + 1 + 1, 0, none⟩)] (KSt ks) (fun i => i = ks.length) 0 w2 := by
    have := keysG_iter base _ g u G F (by rw [HKs.out]; exact hlen) w2 hb2 hG2
    rw [HKs.out] at this
    exact this
  clear HW2 HM qf
  refine rangeLawM (β := Nat) (b0 := 0) (Step := KSt ks) (Fin := fun i => i = ks.length) (gf := 53) (lb := #[.pointer (some ⟨w.heap.size + 1 + 1, 0, none⟩)]) rfl (enters_of Try.func53 (by kernel_rfl) rfl)
    hit (fun k => k = w.heap.size + 1) (fun k hk => by have hk : k = w.heap.size + 1 := hk; omega) (fun b vs b' W hs => by obtain ⟨_, _, _, rfl⟩ := hs; rfl)
    (fun i M W => i ≤ n ∧ ∃ A c, Gth w2 (w.heap.size + 1) ks i W A c ∧ ∀ k, M k ↔ (k = w.heap.size + 1 ∨ (Value.slice A i c).ownBlock = some k))
    (fun code j W => code = .exit 0 ∧ n < ks.length ∧ ∃ A c, Gth w2 (w.heap.size + 1) ks n W A c)
    (fun i M A B hh k => by
      obtain ⟨h0, x, c, h, hm⟩ := hh
      exact ⟨h0, x, c, ⟨k.blk h.box, k.own h.own, k.ext h.ext (Nat.le_refl _)⟩, hm⟩)
    (fun code i A B hh k => by
      obtain ⟨h0, h1, x, c, h⟩ := hh
      exact ⟨h0, h1, x, c, k.blk h.box, k.own h.own, k.ext h.ext (Nat.le_refl _)⟩)
    ⟨Nat.zero_le _, none, 0, ⟨hs2, ownNil _ _ _ _, Ext.refl _ w2⟩, fun k => by simp [Value.ownBlock]⟩
    (fun i i' a' W => ∃ k, ks[i]? = some k ∧ i' = i + 1 ∧ a' = { tmps := #[.pointer (some ⟨g, 0, none⟩), .int .i64 n, undef, .pointer (some ⟨w.heap.size, 0, none⟩), .slice none 0 0, .pointer (some ⟨w.heap.size + 1, 0, none⟩), .func (.func 53) #[] #[.pointer (some ⟨w.heap.size + 1 + 1, 0, none⟩)], .string k, .pointer (some ⟨g, 0, none⟩), .func (.func 53) #[] #[.pointer (some ⟨w.heap.size + 1 + 1, 0, none⟩)], .func (.func 53) #[] #[.pointer (some ⟨w.heap.size + 1 + 1, 0, none⟩)], .bool false, .func (.func 53) #[] #[.pointer (some ⟨w.heap.size + 1 + 1, 0, none⟩)], .string k, undef, undef, undef, undef, undef, undef, undef, undef, undef], defers := [] })
    (fun i i' a' A B h k => h) ?assign ?body ?done ?stop
  case assign =>
    rintro l i i' vs M W K ⟨k, hk, rfl, rfl⟩ hi hK
    gi_wp2
    exact hK _ _ (Bk.refl _) (KpM.refl _ _) hi ⟨k, hk, trivial, rfl⟩
  case body =>
    rintro l i i' a' M W hl hlo ⟨hin, A, c, hG, hM⟩ ⟨k, hk, rfl, rfl⟩
    have hil : i < ks.length := (List.getElem?_eq_some_iff.1 hk).1
    have cn := (blkCell (hG.ext.blk hn2 (fun (h : w.heap.size = w.heap.size + 1) => by omega)) 0).trans rfl
    have c2 := (blkCell hG.box 0).trans rfl
    simp at cn c2
    have HST : Hid (sv (ks.take (i + 1)) = sv (ks.take i) ++ [.string k]) := Lib.hid (by rw [List.take_add_one, hk, sv_app]; rfl)
    have HG := Lib.hid hG
    have HMi := Lib.hid hM
    have hb2' := hG.ext.size
    have htl : (sv (ks.take i)).length = i := by rw [sv_len, List.length_take]; omega
    have HTL := Lib.hid htl
    clear hG hM hk htl
    by_cases hlt : i < n
    · have hlt' : ¬ (n : Int) ≤ i := by omega
      gi_wp2_with (gi_at_builtin; (refine wpAppIn w2.heap.size (.tmp 18) (.tmp 20) 46 9 (.string ⟨#[]⟩) 1 16 rfl rfl Try.underlying46 info9 rfl (by decide) (by decide) (.slice A i c) i (sv (ks.take i)) (some ⟨W.heap.size, 0, none⟩) 1 1 [.string k] rfl rfl (ownKept0 HG.out.own ((Ext.refl _ _).alloc _)) rfl (litReads W _ _ (by simp)) (by simp [Value.oneCell']) (by omega) (by simp; omega) ?_); intro A' c' w4 ho2 hE2 hd2; have hE1 : Ext N0 W (W.alloc (Obj.cells #[.string k] 9)) := (Ext.refl _ _).alloc _; have n4 : w4.heap[w.heap.size + 1]? = some (.cells #[.slice A i c] 46 (0, 0)) := hE2.blk (hE1.blk0 HG.out.box) (fun h => ownNeBlk HG.out.own HG.out.box (by decide) _ h rfl); have q4 := (blkCell n4 0).trans rfl; have f4 := blkFrozen n4 0)
      have ex : Ext (At (w.heap.size + 1)) w4 (w4.setCell ⟨w.heap.size + 1, 0, none⟩ (.slice A' (i + 1) c')) := extSet _ _ _ _
      have h5' := ownKept0 HG.out.own hE1
      have hX : Ext (fun k => k = w.heap.size + 1 ∨ (Value.slice A i c).ownBlock = some k) W (w4.setCell ⟨w.heap.size + 1, 0, none⟩ (.slice A' (i + 1) c')) :=
        ((Ext.of0 hE1).trans hE2 (fun k hk => .inl (.inr hk))).trans ex (fun k hk => .inl (.inl hk))
      refine ⟨Bk.of_ext hX ?_, (fun k => k = w.heap.size + 1 ∨ (Value.slice A' (i + 1) c').ownBlock = some k), KpM.of_ext hX (fun k hk => (HMi.out k).2 hk), ?_, by omega, A', c', ⟨?_, ?_, ?_⟩, fun k => Iff.rfl⟩
      · rintro k o (rfl | hk) ho
        · rw [HG.out.box] at ho
          injection ho with ho
          rw [← ho]
          rfl
        · exact ownBkS HG.out.own k o hk ho
      · rintro k (hk | hk)
        · exact .inl ((HMi.out k).2 (.inl hk))
        · rcases hd2 with h | h
          · exact .inl ((HMi.out k).2 (.inr (h ▸ hk)))
          · rw [h] at hk
            injection hk with hk
            right
            have : W.heap.size + 1 = k := by rw [← hk]; simp
            omega
      · exact blkSet n4 0 _
      · rw [HST.out]
        exact ownKept ho2 ex (fun k hk h => ownNeBlk ho2 n4 (by decide) k hk h)
      · exact ((HG.out.ext.then0 hE1).trans hE2 (fun k hk => .inr (ownBase h5' k hk).1)).same ex
    · have hlt' : (n : Int) ≤ i := by omega
      obtain rfl : i = n := by omega
      gi_wp2
      exact ⟨Bk.refl _, rfl, hil, A, c, HG.out⟩
  case done =>
    rintro D i M W hD hF ⟨hin, A, c, hG, _⟩ hK
    have hF : i = ks.length := hF
    subst hF
    have k4 := (blkCell hG.box 0).trans rfl
    simp at k4
    have HG := Lib.hid hG
    clear hG
    gi_wp2
    refine ⟨by simp, .inl ⟨_, _, rfl, run_takeDeferred hK, ?_⟩⟩
    have kb := Kb.put (z := w2.heap.size) (.deferred none) hK rfl hD
    have hr : ks.take n = ks.take ks.length := by rw [List.take_of_length_le hin, List.take_length]
    have hrd := ownReads1 (kb.own HG.out.own)
    refine ⟨.slice A ks.length c, by simp [results, Try.f22, go_sem], A, ⟨c, ?_⟩, ?_, kb.ext (hE2.trans HG.out.ext (fun k hk => .inr (by have : k = w.heap.size + 1 := hk; omega))) (by omega)⟩
    · first | rfl | rw [Nat.min_eq_right hin] | rw [hr, List.length_take, Nat.min_self]
    · first | exact hrd | (rw [hr]; exact hrd)
  case stop =>
    rintro D code i W hD ⟨rfl, hnl, A, c, hG⟩ hK
    have k4 := (blkCell hG.box 0).trans rfl
    simp at k4
    have HG := Lib.hid hG
    clear hG
    gi_wp2
    refine ⟨by simp, .inl ⟨_, _, rfl, run_takeDeferred hK, ?_⟩⟩
    have kb := Kb.put (z := w2.heap.size) (.deferred none) hK rfl hD
    have hrd := ownReads1 (kb.own HG.out.own)
    refine ⟨.slice A n c, by simp [results, Try.f22, go_sem], A, c, ?_, hrd, kb.ext (hE2.trans HG.out.ext (fun k hk => .inr (by have : k = w.heap.size + 1 := hk; omega))) (by omega)⟩
    first | rfl | rw [Nat.min_eq_left (by omega)] | rw [List.length_take, Nat.min_eq_left (by omega)]
end Go.Proofs.Ytcngefpdfkkgdaa
