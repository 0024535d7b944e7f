/- The document's answer for package meter: a key that is not known is asked (the conditions stand in the statements). -/
import Derived.Test.YthjeaalnlagpbaaR4
namespace Go.Proofs.Ythjeaalnlagpbaa
open Go.RowKit
set_option maxRecDepth 100000 in
set_option maxHeartbeats 1000000 in
theorem rask_many (base : Nat) (r b most now : Int) (A : Option Addr) (c : Nat) (L : Kr) (k : ByteArray) (q : Int) (w : World) (h : RL base w A c L) (hl : L.length ≤ 1000) (hq : 1 ≤ q ∧ q ≤ 1073741824) (hf : findK L k = L.length) (hmm : most ≤ L.length) :
    Calls Try.prog 39 #[.agg #[.int .i64 r, .int .i64 b, .int .i64 most, .int .i64 now, .slice A L.length c], .string k, .int .i64 q] w (GvM r b most now L (.int .i64 0) (.int .i64 3) w) := by
  have hE0 : Ext N0 w ((w.alloc (.cells (c5 r b most now A L.length c) 46)).alloc (.cells c0 46)) := ((Ext.refl _ _).alloc _).alloc _
  have HF := Lib.hid (find_calls base r b most now A c L k _ (h.kept0 hE0) hl)
  have HB := Lib.hid (blkAlloc (blkNew w (.cells (c5 r b most now A L.length c) 46)) (.cells c0 46))
  have HS := Lib.hid (blkNewG (w.alloc (.cells (c5 r b most now A L.length c) 46)) (.cells c0 46) (g := w.heap.size + 1) (by simp))
  have HE := Lib.hid hE0
  have HR := Lib.hid h
  have hk := kCells_len L
  have HK := Lib.hid hk
  rw [hf] at HF
  clear hf h hE0 hk
  unfold GvM
  go_enter Try.func39, Try.ntmps39
  go_wp2_with (first
    | (go_at_call 37; refine (within_yes _ _ _ _ ?hc).mono ?_; (case hc => omega); rintro e w' ⟨rfl, hw⟩; subst hw)
    | (go_at_call 41; refine HF.out.mono ?_; rintro e w2 ⟨rfl, hE2⟩; have e4 := (cells5 (hE2.blk0 HB.out)).1.2.2.2.2; have hsz := Nat.lt_of_lt_of_le (blkLt HS.out) hE2.size; have hsz2 : w.heap.size < w2.heap.size := (by omega); have HX := Lib.hid hE2; clear hE2)
    | (at_builtin; refine wpApp w.heap.size (.tmp 17) (.tmp 19) 44 90 (.agg #[.string ⟨#[]⟩, .int .i64 0]) 2 24 rfl rfl Try.underlying44 info90 rfl (by decide) (by decide) (.slice (some ⟨w2.heap.size, 0, none⟩) 0 0) 0 [] A L.length c (kCells L) rfl rfl (ownLitG w2 w.heap.size 90 2 #[] 0 rfl (by omega) (by decide) rfl) HK.out ((ownReadsN (HR.out.kept0 (HE.out.then0 HX.out)) (by omega)).mono0 ((Ext.refl _ _).alloc _)) (k_one L) (by omega) (by simp; omega) ?_; intro A3 c3 w3 ho3 hE3 _; have hb3 := hE3.blk (blkAlloc (HX.out.blk0 HB.out) (.cells #[] 90)) (fun h => absurd (own_is h) (by omega)); have hr3 := hE3.blk (blkAlloc (HX.out.blk0 HS.out) (.cells #[] 90)) (fun h => absurd (own_is h) (by omega)); have HM := Lib.hid (Md.lay hb3 hr3 (((HE.out.then0 HX.out).alloc _).trans hE3 (fun x hx => .inr (by have := own_is hx; omega))) (by simpa [RL] using ho3)); obtain ⟨⟨e0, e1, e2, e3, _⟩, _, _, _, _, f4⟩ := cells5 hb3; obtain ⟨_, g0, g1, g2, g3, g4⟩ := cells5 hr3; clear hb3 hr3 ho3 hE3))
  obtain ⟨d1, d2, d3⟩ := HM.out.done
  obtain ⟨W5, hW5⟩ : ∃ W5, (((((w3.setCell ⟨w.heap.size, 4, none⟩ (.slice A3 L.length c3)).setCell ⟨w.heap.size + 1, 0, none⟩ (.int .i64 r)).setCell ⟨w.heap.size + 1, 1, none⟩ (.int .i64 b)).setCell ⟨w.heap.size + 1, 2, none⟩ (.int .i64 most)).setCell ⟨w.heap.size + 1, 3, none⟩ (.int .i64 now)).setCell ⟨w.heap.size + 1, 4, none⟩ (.slice A3 L.length c3) = W5 := ⟨_, rfl⟩
  rw [hW5] at d1 d2 d3
  simp only [hW5]
  clear hW5
  obtain ⟨⟨k0, k1, k2, k3, k4⟩, _⟩ := cells5 d1
  refine bodyPost_ret (v := .tuple #[.agg (c5 r b most now A3 L.length c3), .int .i64 0, .int .i64 3]) (by simp [results, Try.results39, go_sem, c5, k0, k1, k2, k3, k4]) rfl ⟨A3, c3, rfl, d2, d3⟩
theorem push_lay {w w4 : World} {r b most now : Int} {A A0 : Option Addr} {c n0 c0' : Nat} {L : Kr} {k : ByteArray} {t : Int} (hb : w4.heap[w.heap.size]? = some (.cells (c5 r b most now A0 n0 c0') 46 (0, 0))) (hr : w4.heap[w.heap.size + 1]? = some (.cells c0 46 (0, 0)))
    (hE : Ext N0 w w4) (ho : w4.ownsRow w.heap.size 90 2 (.slice A (L.length + 1) c) (L.length + 1) (kCells L ++ [.string k, .int .i64 t])) :
    Md w (w4.setCell ⟨w.heap.size, 4, none⟩ (.slice A (L.length + 1) c)) r b most now A c (L ++ [(k, t)]) := by
  have h : RL w.heap.size w4 A c (L ++ [(k, t)]) := by
    unfold RL
    rw [kCells_app, List.length_append]
    exact ho
  have h2 := Md.lay hb hr hE h
  rw [List.length_append] at h2
  exact h2
set_option maxRecDepth 100000 in
set_option maxHeartbeats 1000000 in
theorem rask_push (base : Nat) (r b most now : Int) (A : Option Addr) (c : Nat) (L : Kr) (k : ByteArray) (q : Int) (w : World) (h : RL base w A c L) (hl : L.length ≤ 1000) (hq : 1 ≤ q ∧ q ≤ 1073741824) (hf : findK L k = L.length) (hmm : L.length < most) :
    Calls Try.prog 39 #[.agg #[.int .i64 r, .int .i64 b, .int .i64 most, .int .i64 now, .slice A L.length c], .string k, .int .i64 q] w (GvM r b most now (L ++ [(k, b)]) (.int .i64 L.length) (.int .i64 0) w) := by
  have hE0 : Ext N0 w ((w.alloc (.cells (c5 r b most now A L.length c) 46)).alloc (.cells c0 46)) := ((Ext.refl _ _).alloc _).alloc _
  have HF := Lib.hid (find_calls base r b most now A c L k _ (h.kept0 hE0) hl)
  have HB := Lib.hid (blkAlloc (blkNew w (.cells (c5 r b most now A L.length c) 46)) (.cells c0 46))
  have HS := Lib.hid (blkNewG (w.alloc (.cells (c5 r b most now A L.length c) 46)) (.cells c0 46) (g := w.heap.size + 1) (by simp))
  have HE := Lib.hid hE0
  have HR := Lib.hid h
  have hk := kCells_len L
  have HK := Lib.hid hk
  rw [hf] at HF
  clear hf h hE0 hk
  unfold GvM
  go_enter Try.func39, Try.ntmps39
  go_wp2_with (first
    | (go_at_call 37; refine (within_yes _ _ _ _ ?hc).mono ?_; (case hc => omega); rintro e w' ⟨rfl, hw⟩; subst hw)
    | (go_at_call 41; refine HF.out.mono ?_; rintro e w2 ⟨rfl, hE2⟩; have e4 := (cells5 (hE2.blk0 HB.out)).1.2.2.2.2; have hsz := Nat.lt_of_lt_of_le (blkLt HS.out) hE2.size; have hsz2 : w.heap.size < w2.heap.size := (by omega); have HX := Lib.hid hE2; clear hE2)
    | (at_builtin; refine wpApp w.heap.size (.tmp 17) (.tmp 19) 44 90 (.agg #[.string ⟨#[]⟩, .int .i64 0]) 2 24 rfl rfl Try.underlying44 info90 rfl (by decide) (by decide) (.slice (some ⟨w2.heap.size, 0, none⟩) 0 0) 0 [] A L.length c (kCells L) rfl rfl (ownLitG w2 w.heap.size 90 2 #[] 0 rfl (by omega) (by decide) rfl) HK.out ((ownReadsN (HR.out.kept0 (HE.out.then0 HX.out)) (by omega)).mono0 ((Ext.refl _ _).alloc _)) (k_one L) (by omega) (by simp; omega) ?_; intro A3 c3 w3 ho3 hE3 _; have hb3 := hE3.blk (blkAlloc (HX.out.blk0 HB.out) (.cells #[] 90)) (fun h => absurd (own_is h) (by omega)); have hr3 := hE3.blk (blkAlloc (HX.out.blk0 HS.out) (.cells #[] 90)) (fun h => absurd (own_is h) (by omega)); have HM := Lib.hid (Md.lay hb3 hr3 (((HE.out.then0 HX.out).alloc _).trans hE3 (fun x hx => .inr (by have := own_is hx; omega))) (by simpa [RL] using ho3)); obtain ⟨⟨e0, e1, e2, e3, _⟩, _, _, _, _, f4⟩ := cells5 hb3; obtain ⟨_, g0, g1, g2, g3, g4⟩ := cells5 hr3; have hs3 : w.heap.size ≤ w3.heap.size := (by have := HM.out.ext.size; simpa using this); clear hb3 hr3 ho3 hE3)
    | (at_builtin; refine wpApp w.heap.size (.tmp 33) (.tmp 38) 44 90 (.agg #[.string ⟨#[]⟩, .int .i64 0]) 2 24 rfl rfl Try.underlying44 info90 rfl (by decide) (by decide) (.slice A3 L.length c3) L.length (kCells L) (some ⟨w3.heap.size, 0, none⟩) 1 1 [.string k, .int .i64 b] rfl rfl (ownKept0 HM.out.row ((Ext.refl _ _).alloc _)) rfl (ownReadsN (ownLitG _ w.heap.size 90 2 #[.string k, .int .i64 b] 1 (by simp) hs3 (by decide) rfl) (by decide)) (by simp [Value.oneCell']) (by omega) (by simp; omega) ?_; intro A4 c4 w4 ho4 hE4 _; have hb4 := hE4.blk (blkAlloc HM.out.box (.cells #[.string k, .int .i64 b] 90)) (fun h => ownNeBlk HM.out.row HM.out.box (by decide) _ h rfl); have hr4 := hE4.blk (blkAlloc HM.out.res (.cells #[.string k, .int .i64 b] 90)) (fun h => ownNeBlk HM.out.row HM.out.res (by decide) _ h rfl); have HM4 := Lib.hid (push_lay hb4 hr4 ((HM.out.ext.alloc _).trans hE4 (fun x hx => .inr (ownBase HM.out.row x hx).1)) ho4); obtain ⟨⟨q0, q1, q2, q3, _⟩, _, _, _, _, r4⟩ := cells5 hb4; obtain ⟨_, v0, v1, v2, v3, v4⟩ := cells5 hr4; clear hb4 hr4 ho4 hE4))
  obtain ⟨d1, d2, d3⟩ := HM4.out.done
  rw [List.length_append] at d1 d2 d3
  obtain ⟨W5, hW5⟩ : ∃ W5, (((((w4.setCell ⟨w.heap.size, 4, none⟩ (.slice A4 (L.length + 1) c4)).setCell ⟨w.heap.size + 1, 0, none⟩ (.int .i64 r)).setCell ⟨w.heap.size + 1, 1, none⟩ (.int .i64 b)).setCell ⟨w.heap.size + 1, 2, none⟩ (.int .i64 most)).setCell ⟨w.heap.size + 1, 3, none⟩ (.int .i64 now)).setCell ⟨w.heap.size + 1, 4, none⟩ (.slice A4 (L.length + 1) c4) = W5 := ⟨_, rfl⟩
  simp only [List.length_cons, List.length_nil, Nat.zero_add] at d1 d2 d3
  rw [hW5] at d1 d2 d3
  simp only [hW5]
  clear hW5
  obtain ⟨⟨k0, k1, k2, k3, k4⟩, _⟩ := cells5 d1
  refine bodyPost_ret (v := .tuple #[.agg (c5 r b most now A4 (L.length + 1) c4), .int .i64 L.length, .int .i64 0]) (by simp [results, Try.results39, go_sem, c5, k0, k1, k2, k3, k4]) rfl ⟨A4, c4, ?_, d2, d3⟩
  rw [List.length_append]
  rfl
end Go.Proofs.Ythjeaalnlagpbaa
