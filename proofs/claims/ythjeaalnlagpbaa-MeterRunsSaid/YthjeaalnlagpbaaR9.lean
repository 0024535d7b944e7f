/- The iterator over keys and tokens of package meter of texts, proved for every value that its statement lets in (the conditions stand in the statements). -/
import Derived.Test.YthjeaalnlagpbaaR8
namespace Go.Proofs.Ythjeaalnlagpbaa
open Go.RowKit Go.Maps
theorem kpCells {A B : World} {g : Nat} {cs : Array Value} {t : TypeId} {fr : Nat × Nat} (k : KpO tk A B) (h : A.heap[g]? = some (.cells cs t fr)) (ht : t ≠ 90 ∧ t ≠ 44) : B.heap[g]? = some (.cells cs t fr) := k g _ ht h
attribute [local go_sem] Oper.semAt_some
set_option maxRecDepth 100000 in
set_option maxHeartbeats 8000000 in
theorem keys_iter (base C g u : Nat) (m : Mt ByteArray) (hok : m.Ok) (hkey : ∀ k ∈ m.ks, keyOf Try.prog 9 (.string k) = some (.string k.data.toList)) (w : World) (hC : w.heap[C]? = some (.cells #[.pointer (some ⟨g, 0, none⟩)] 41 (0, 0))) (hM : IsMS base w g m u) :
    IterT Try.prog 46 #[.pointer (some ⟨C, 0, none⟩)] (KS2 m) (fun i => i = m.ks.length) (fun _ => True) tk 0 w := by
  intro l J Jx W hW hJ hJx hB hY h0
  refine callsIn_of_wp_marks Try.func46 rfl trivial ?_ rfl
  simp only [Try.ntmps46, List.size_toArray, List.length_cons, List.length_nil, Nat.reduceAdd, Nat.reduceSub, Array.replicate_succ, Array.replicate_zero, List.push_toArray, List.append_toArray, List.nil_append, List.cons_append]
  have hE1 : Ext N0 W (W.alloc (.cells #[.func (.yield l) #[] #[]] 71)) := (Ext.refl _ _).alloc _
  have b0 := (blkCell (hE1.blk0 (hW.blk0 hC)) 0).trans rfl
  simp at b0
  have HMW := Lib.hid (hM.kept0 hW)
  have HCW := Lib.hid (hW.blk0 hC)
  have HJ := Lib.hid hJ
  have HJX := Lib.hid hJx
  have HY := Lib.hid hY
  have H0 := Lib.hid h0
  have HK := Lib.hid hkey
  have HOK := Lib.hid hok
  have hCl := blkLt (hW.blk0 hC)
  clear hY hJ hJx hB h0 hC hM hkey hok
  gi_wp2_with fail
  refine ⟨trivial, rfl, (callsIn_wide.2 (known_calls _ _)).mono ?_⟩
  rintro e w2 ⟨rfl, hw2⟩
  have HW2 := Lib.hid hw2
  clear hw2
  gi_wp2_with fail
  have hsz : w2.heap.size = W.heap.size + 2 := by rw [HW2.out]; simp
  have hE2 : Ext N0 W w2 := by rw [HW2.out]; exact ((Ext.refl _ _).alloc _).alloc _
  have hy2 : w2.heap[W.heap.size]? = some (.cells #[.func (.yield l) #[] #[]] 71 (0, 0)) := by rw [HW2.out]; exact blkAlloc (blkNew _ _) _
  have hb2 : w2.heap[W.heap.size + 1]? = some (.cells #[.pointer (some ⟨g, 0, none⟩)] 41 (0, 0)) := by rw [HW2.out]; exact blkNewG _ _ (by simp)
  have hM2 : IsMS base w2 g m u := HMW.out.kept0 hE2
  clear HW2
  refine rangeLawT (β := Nat) (b0 := 0) (Step := KS m) (Fin := fun i => i = m.ks.length) (Bd := fun _ => True) (T := tk) (gf := 48) (lb := #[.pointer (some ⟨W.heap.size + 1, 0, none⟩)]) rfl (enters_of Try.func48 (by kernel_rfl) rfl)
    (known_iter base _ g u m HOK.out w2 hb2 hM2) tk_bk (fun b vs b' W hs => by obtain ⟨_, _, _, rfl⟩ := hs; rfl)
    (fun i X => J i X ∧ X.heap[W.heap.size]? = some (.cells #[.func (.yield l) #[] #[]] 71 (0, 0)) ∧ X.heap[C]? = some (.cells #[.pointer (some ⟨g, 0, none⟩)] 41 (0, 0)) ∧ IsMS base X g m u)
    (fun c i X => c = .ret ∧ Jx i X)
    (fun i A B hh k => ⟨HJ.out _ _ _ hh.1 (k.mono (by omega)), k.blk hh.2.1, k.blk hh.2.2.1, hh.2.2.2.kpo (k.kp tk_bk)⟩)
    (fun c i A B hh k => ⟨hh.1, HJX.out _ _ _ hh.2 (k.mono (by omega))⟩)
    ⟨HJ.out _ _ _ H0.out (Kb.of0 hE2), hy2, hE2.blk0 HCW.out, hM2⟩ (fun _ _ _ => trivial)
    (fun i i' a' X => ∃ k, m.ks[i]? = some k ∧ i' = i + 1 ∧ a' = { tmps := #[.func (.yield l) #[] #[], .pointer (some ⟨C, 0, none⟩), .pointer (some ⟨W.heap.size, 0, none⟩), .string k, .pointer (some ⟨g, 0, none⟩), .func (.func 48) #[] #[.pointer (some ⟨W.heap.size + 1, 0, none⟩)], .string k, undef, undef, undef, undef, undef, undef, undef], defers := [] })
    (fun _ _ _ A B h k => h) ?assign ?body ?done ?stop
  case assign =>
    rintro l2 i i' vs X K ⟨k, hk, rfl, rfl⟩ hi hK
    gi_wp2
    exact hK _ _ (Bkz.refl _ _) (KpO.refl _ _) hi ⟨k, hk, trivial, rfl⟩
  case body =>
    rintro l2 i i' a' X hl hlo ⟨hJ0, hy0, hC0, hM0⟩ ⟨k, hk, rfl, rfl⟩
    have hD := (Ext.refl N0 X).drew
    have y0 := (blkCell (hD.blk0 hy0) 0).trans rfl
    have p0 := (blkCell (hD.blk0 hC0) 0).trans rfl
    simp at y0 p0
    have HT := Lib.hid (tok_callsS base g u m k X.drew (hM0.kept0 hD) HOK.out (HK.out k (List.mem_of_getElem? hk)))
    have HY0 := Lib.hid hy0
    have HC0 := Lib.hid hC0
    have HM0 := Lib.hid hM0
    have HJ0 := Lib.hid hJ0
    have HD := Lib.hid hD
    have HKk := Lib.hid hk
    clear hJ0 hy0 hC0 hM0 hD hk
    gi_wp2_with fail
    gi_region_with (first | (refine ⟨trivial, rfl, (callsIn_wide.2 HT.out).mono ?_⟩; rintro e X1 ⟨rfl, hE1⟩; have HE1 := Lib.hid (HD.out.then0 hE1); have y1 := (blkCell (HE1.out.blk0 HY0.out) 0).trans rfl; have p1 := (blkCell (HE1.out.blk0 HC0.out) 0).trans rfl; simp at y1 p1; obtain ⟨fn, tmps, assign, body, hy, hRd⟩ := HY.out i _ (i + 1) _ ⟨k, HKk.out, rfl, rfl⟩ (HJ.out _ _ _ HJ0.out (Kb.of0 HE1.out)); have HRd := Lib.hid hRd; clear hRd hE1) | (refine ⟨rfl, HRd.out.mono ?_⟩; rintro e X2 hO; obtain ⟨bb, he, hN⟩ := two_ways hO; clear hO; subst he; have HO := Lib.hid hN; clear hN))
    all_goals
      rcases HO.out with ⟨rfl, hJ1, hkp, hbk⟩ | ⟨rfl, hJx, hbk⟩
      · have hX : Ext N0 X X1 := HE1.out
        have HP := Lib.hid (show Bkz w2.heap.size X X2 ∧ KpO tk X X2 from ⟨((Bk.of0 hX).z _).trans (hbk.mono (by omega)), (KpO.of0 hX).trans hkp⟩)
        have HI := Lib.hid (show _ ∧ _ ∧ _ ∧ _ from ⟨hJ1, kpCells hkp (hX.blk0 HY0.out) ⟨by decide, by decide⟩, kpCells hkp (hX.blk0 HC0.out) ⟨by decide, by decide⟩, (HM0.out.kept0 hX).kpo hkp⟩)
        clear hJ1 hkp hbk hX HO
        gi_wp2
        exact ⟨HP.out.1, HP.out.2, HI.out⟩
      · have hX : Ext N0 X X1 := HE1.out
        have HP := Lib.hid (show Bkz w2.heap.size X X2 from ((Bk.of0 hX).z _).trans (hbk.mono (by omega)))
        have HI := Lib.hid hJx
        clear hJx hbk hX HO
        gi_wp2
        exact ⟨HP.out, rfl, HI.out⟩
  case done =>
    rintro D b X hD hF hX hK
    have HX := Lib.hid hX.1
    have HF := Lib.hid hF
    clear hX hF
    gi_wp2
    refine ⟨by simp, .inl ⟨_, _, rfl, run_takeDeferred hK, ?_⟩⟩
    have kb := Kb.put (z := W.heap.size) (.deferred none) hK rfl (by omega)
    exact ⟨.tuple #[], by simp [results, Try.f46, go_sem], ⟨_, rfl⟩, .inl ⟨_, HF.out, HJ.out _ _ _ HX.out kb⟩⟩
  case stop =>
    rintro D code b X hD ⟨rfl, hX⟩ hK
    have HX := Lib.hid hX
    clear hX
    gi_wp2
    refine ⟨by simp, .inl ⟨_, _, rfl, run_takeDeferred hK, ?_⟩⟩
    have kb := Kb.put (z := W.heap.size) (.deferred none) hK rfl (by omega)
    exact ⟨.tuple #[], by simp [results, Try.f46, go_sem], ⟨_, rfl⟩, .inr ⟨_, HJX.out _ _ _ HX.out kb⟩⟩
end Go.Proofs.Ythjeaalnlagpbaa
