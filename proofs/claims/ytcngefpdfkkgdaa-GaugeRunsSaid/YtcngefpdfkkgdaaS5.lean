/- The document's answer for package gauge: Note (the conditions stand in the statements). -/
import Derived.Test.YtcngefpdfkkgdaaS3
namespace Go.Proofs.Ytcngefpdfkkgdaa
open Go.RowKit
theorem rnote_bad (A0 A1 : Option Addr) (n0 c0 n1 c1 : Nat) (key : ByteArray) (x : Int) (w : World) (hx : x < 0 ∨ 1099511627776 < x) :
    Calls Try.prog 9 #[.agg (rG A0 n0 c0 A1 n1 c1), .string key, .int .i64 x] w fun e w' => e = .returned (.tuple #[.agg (rG A0 n0 c0 A1 n1 c1), .int .i64 5]) ∧ Ext N0 w w' := by
  have hs : x < 0 ∨ (¬ x < 0 ∧ 1099511627776 < x) := by omega
  clear hx
  rcases hs with h1 | ⟨h1, h2⟩
  all_goals
    go_enter Try.func9, Try.ntmps9
    go_wp2
    exact bodyPost_ret (v := .tuple #[.agg (rG A0 n0 c0 A1 n1 c1), .int .i64 5]) (by simp [results, Try.results9, go_sem]) rfl ⟨rfl, ((Ext.refl _ _).alloc _).alloc _⟩
/-- The two cells of a box, laid anew. -/
theorem set2b {w : World} {g : Nat} {a b x y : Value} (h : w.heap[g]? = some (.cells #[a, b] 30 (0, 0))) : ((w.setCell ⟨g, 0, none⟩ x).setCell ⟨g, 1, none⟩ y).heap[g]? = some (.cells #[x, y] 30 (0, 0)) := (blkSet (blkSet h 0 x) 1 y).trans (by simp)
theorem extSet2 (w : World) (g i j : Nat) (u v : Value) : Ext (At g) w ((w.setCell ⟨g, i, none⟩ u).setCell ⟨g, j, none⟩ v) := (extSet w g i u).same (extSet _ g j v)
theorem setsP {R : List Rk} {i : Nat} {p : Rk} : ∀ q, q ∈ R.set i p → q = p ∨ q ∈ R := by
  intro q hq
  rcases List.mem_or_eq_of_mem_set hq with h | h
  · exact .inr h
  · exact .inl h
set_option maxRecDepth 100000 in
set_option maxHeartbeats 2000000 in
theorem rnote_in (base c0 c1 c n0 : Nat) (A0 A1 A : Option Addr) (bs l : List Int) (R : List Rk) (key : ByteArray) (x : Int) (i : Nat) (w : World) (h : RS base w A0 c0 A1 c1 bs R) (hbase : base ≤ w.heap.size) (hR : R.length < 1000) (hl : l.length ≤ 900) (hx : 0 ≤ x ∧ x ≤ 1099511627776) (hi : i < R.length)
    (hof : ∀ W, Ext N0 w W → Calls Try.prog 37 #[.agg (rG A0 bs.length c0 A1 R.length c1), .string key] W fun e w' => e = .returned (.tuple #[.slice A l.length c, .int .i64 i]) ∧ Ext N0 W w') (hr : Reads w A (iv l)) :
    Calls Try.prog 9 #[.agg (rG A0 bs.length c0 A1 R.length c1), .string key, .int .i64 x] w fun e w' => ∃ A' c' A1' c1', e = .returned (.tuple #[.agg (rG A0 bs.length c0 A1' (R.set i ⟨key, A', c', l ++ [x]⟩).length c1'), .int .i64 0]) ∧ RS base w' A0 c0 A1' c1' bs (R.set i ⟨key, A', c', l ++ [x]⟩) ∧ Ext N0 w w' ∧ ∀ y, RB A0 c0 A1' c1' bs (R.set i ⟨key, A', c', l ++ [x]⟩) y → RB A0 c0 A1 c1 bs R y ∨ w.heap.size ≤ y := by
  have hE0 : Ext N0 w ((w.alloc (.cells (rG A0 bs.length c0 A1 R.length c1) 30)).alloc (.cells #[.slice none 0 0, .slice none 0 0] 30)) := ((Ext.refl _ _).alloc _).alloc _
  have HOf := Lib.hid (hof _ hE0)
  have HB := Lib.hid (blkAlloc (blkNew w (.cells (rG A0 bs.length c0 A1 R.length c1) 30)) (.cells #[.slice none 0 0, .slice none 0 0] 30))
  have HS := Lib.hid (blkNewG (w.alloc (.cells (rG A0 bs.length c0 A1 R.length c1) 30)) (.cells #[.slice none 0 0, .slice none 0 0] 30) (g := w.heap.size + 1) (by simp))
  have HE0 := Lib.hid hE0
  have HR := Lib.hid hr
  have HRS := Lib.hid h
  have hil := iv_len l
  have HRr := Lib.hid (ownReadsN h.r (by omega))
  obtain ⟨pq, hpq⟩ : ∃ pq, R[i]? = some pq := ⟨_, List.getElem?_eq_getElem hi⟩
  obtain ⟨pk, hpk⟩ : ∃ pk, pq.k = pk := ⟨_, rfl⟩
  obtain ⟨pv, hpv⟩ : ∃ pv, Value.slice pq.A pq.l.length pq.c = pv := ⟨_, rfl⟩
  have hPk := rk_get R i pq hpq
  rw [hpk, hpv] at hPk
  have HPk := Lib.hid hPk
  clear hPk hpk hpv hpq
  have hrl := rkCs_len R
  obtain ⟨n, hn⟩ : ∃ n, l.length = n := ⟨_, rfl⟩
  obtain ⟨m, hm⟩ : ∃ m, R.length = m := ⟨_, rfl⟩
  obtain ⟨nb, hnb⟩ : ∃ nb, bs.length = nb := ⟨_, rfl⟩
  have HN := Lib.hid (And.intro hn (And.intro hm hnb))
  rw [hn, hm, hnb] at HOf
  rw [hn] at hl hil
  rw [hm] at hR hrl hi
  rw [hm, hnb] at HB HS HE0
  rw [hm, hnb]
  have HIL := Lib.hid (show (iv l).length = n * 1 by omega)
  have HRL := Lib.hid (show (rkCs R).length = m * 2 from hrl)
  have hx1 : ¬ x < 0 := by omega
  have hx2 : ¬ 1099511627776 < x := by omega
  have hmI : ¬ (1000 : Int) ≤ m := by omega
  have hd1 : decide ((1048576 : Int) ≤ (n : Int)) = false := decide_eq_false (by omega)
  have hd2 : decide (1048576 ≤ n) = false := decide_eq_false (by omega)
  have HLn := Lib.hid hl
  have him : ¬ (i : Int) = m := by omega
  clear h hof hr hE0 hn hm hnb hil hrl hl
  go_enter Try.func9, Try.ntmps9
  go_wp2_with (first
    | (go_at_call 37; refine HOf.out.mono ?_; rintro e w2 ⟨rfl, hE2⟩; have hb2 := hE2.blk0 HB.out; have b1 : w2.cell? ⟨w.heap.size, 1, none⟩ = some (.slice A1 m c1) := (blkCell hb2 1).trans rfl; have hsz := Nat.lt_of_lt_of_le (blkLt HS.out) hE2.size; have H2 := Lib.hid (And.intro (HE0.out.then0 hE2) (And.intro hb2 (hE2.blk0 HS.out))); clear hE2 hb2)
    | (at_builtin; refine wpApp w.heap.size (.tmp 40) (.tmp 41) 22 3 (.int .i64 0) 1 8 rfl rfl Try.underlying22 info3 rfl (by decide) (by decide) (.slice (some ⟨w2.heap.size, 0, none⟩) 0 0) 0 [] A n c (iv l) rfl rfl (ownLitG w2 w.heap.size 3 1 #[] 0 rfl (by omega) (by decide) rfl) HIL.out ((HR.out.mono0 H2.out.1).mono0 ((Ext.refl _ _).alloc _)) (iv_one l) (by have := HLn.out; omega) (by simp; omega) ?_; intro A3 c3 w3 ho3 hE3 _; have hX3 := (H2.out.1.alloc (.cells #[] 3)).trans hE3 (fun y hy => .inr (by have := own_is hy; omega)); have hb3 := hE3.blk (blkAlloc H2.out.2.1 (.cells #[] 3)) (fun h => absurd (own_is h) (by omega)); have hr3 := hE3.blk (blkAlloc H2.out.2.2 (.cells #[] 3)) (fun h => absurd (own_is h) (by omega)); have b13 : w3.cell? ⟨w.heap.size, 1, none⟩ = some (.slice A1 m c1) := (blkCell hb3 1).trans rfl; have hsz3 := blkLt hr3; have HO3 : Hid (w3.ownsRow w.heap.size 3 1 (.slice A3 n c3) n (iv l)) := Lib.hid (by simpa using ho3); have H3 := Lib.hid (And.intro hX3 (And.intro hb3 hr3)); clear hX3 hb3 hr3 ho3 hE3)
    | (at_builtin; refine wpApp w.heap.size (.tmp 42) (.tmp 44) 22 3 (.int .i64 0) 1 8 rfl rfl Try.underlying22 info3 rfl (by decide) (by decide) (.slice A3 n c3) n (iv l) (some ⟨w3.heap.size, 0, none⟩) 1 1 [.int .i64 x] rfl rfl (ownKept0 HO3.out ((Ext.refl _ _).alloc _)) rfl (litReads w3 _ _ (by simp)) (by simp [Value.oneCell']) (by have := HLn.out; omega) (by simp; omega) ?_; intro A4 c4 w4 ho4 hE4 _; have hX4 := (H3.out.1.alloc (.cells #[.int .i64 x] 3)).trans hE4 (fun y hy => .inr (ownBase HO3.out y hy).1); have hb4 := hE4.blk (blkAlloc H3.out.2.1 (.cells #[.int .i64 x] 3)) (fun h => ownNeBlk HO3.out H3.out.2.1 (by decide) _ h rfl); have hr4 := hE4.blk (blkAlloc H3.out.2.2 (.cells #[.int .i64 x] 3)) (fun h => ownNeBlk HO3.out H3.out.2.2 (by decide) _ h rfl); have b14 : w4.cell? ⟨w.heap.size, 1, none⟩ = some (.slice A1 m c1) := (blkCell hb4 1).trans rfl; have hsz4 := blkLt hr4; have hq4 : w.heap.size < w4.heap.size := (by omega); have hq5 : w.heap.size < w4.heap.size + 1 := (by omega); have HO4 := Lib.hid ho4; have H4 := Lib.hid (And.intro hX4 (And.intro hb4 hr4)); clear hX4 hb4 hr4 ho4 hE4)
    | (at_builtin; refine wpApp w.heap.size (.tmp 47) (.tmp 49) 28 78 (.agg #[.string ⟨#[]⟩, .slice none 0 0]) 2 40 rfl rfl Try.underlying28 info78 rfl (by decide) (by decide) (.slice (some ⟨w4.heap.size + 1, 0, none⟩) 0 0) 0 [] A1 m c1 (rkCs R) rfl rfl (ownLitG (w4.alloc (.cells #[.string key, .slice A4 (n + 1) c4] 78)) w.heap.size 78 2 #[] 0 (by simp) (by omega) (by decide) rfl) HRL.out ((HRr.out.mono0 H4.out.1).mono0 (((Ext.refl _ _).alloc _).alloc _)) (rk_one R) (by omega) (by simp; omega) ?_; intro A5 c5 w5 ho5 hE5 _; have hX5 := ((H4.out.1.alloc (.cells #[.string key, .slice A4 (n + 1) c4] 78)).alloc (.cells #[] 78)).trans hE5 (fun y hy => .inr (by have := own_is hy; omega)); have hb5 := hE5.blk (blkAlloc (blkAlloc H4.out.2.1 (.cells #[.string key, .slice A4 (n + 1) c4] 78)) (.cells #[] 78)) (fun h => absurd (own_is h) (by omega)); have hr5 := hE5.blk (blkAlloc (blkAlloc H4.out.2.2 (.cells #[.string key, .slice A4 (n + 1) c4] 78)) (.cells #[] 78)) (fun h => absurd (own_is h) (by omega)); have hx5 := hE5.blk (blkAlloc (blkNew w4 (.cells #[.string key, .slice A4 (n + 1) c4] 78)) (.cells #[] 78)) (fun h => absurd (own_is h) (by omega)); have z0 : w5.cell? ⟨w4.heap.size, 0, none⟩ = some (.string key) := (blkCell hx5 0).trans rfl; have z1 : w5.cell? ⟨w4.heap.size, 1, none⟩ = some (.slice A4 (n + 1) c4) := (blkCell hx5 1).trans rfl; have y0 : w5.cell? ⟨w.heap.size, 0, none⟩ = some (.slice A0 nb c0) := (blkCell hb5 0).trans rfl; have y1 : w5.cell? ⟨w.heap.size, 1, none⟩ = some (.slice A1 m c1) := (blkCell hb5 1).trans rfl; have yf := blkFrozen hb5 1; have u0 : w5.cell? ⟨w.heap.size + 1, 0, none⟩ = some (.slice none 0 0) := (blkCell hr5 0).trans rfl; have u1 : w5.cell? ⟨w.heap.size + 1, 1, none⟩ = some (.slice none 0 0) := (blkCell hr5 1).trans rfl; have uf0 := blkFrozen hr5 0; have uf1 := blkFrozen hr5 1; have HO4x := Lib.hid (ownKept (ownKept0 HO4.out (((Ext.refl _ _).alloc _).alloc _)) hE5 (fun y hy h => by have h1 := own_is h; have h2 := (ownBase HO4.out y hy).2; omega)); have HO5 : Hid (w5.ownsRow w.heap.size 78 2 (.slice A5 m c5) m (rkCs R)) := Lib.hid (by simpa using ho5); obtain ⟨g5, cap5, hv5, hgb5, hgl5⟩ := World.ownsRow.form HO5.out (by omega); injection hv5 with hv1 hv2 hv3; subst hv1; have p0 : w5.cell? ⟨g5, i * 2, none⟩ = some (.string pk) := (congrArg w5.cell? (addPlain g5 (i * 2))).symm.trans (World.ownsRow.cells (g := g5) HO5.out rfl (i * 2) _ HPk.out.1); have p1 : w5.cell? ⟨g5, i * 2 + 1, none⟩ = some pv := (congrArg w5.cell? (addPlain g5 (i * 2 + 1))).symm.trans (World.ownsRow.cells (g := g5) HO5.out rfl (i * 2 + 1) _ HPk.out.2); have pf0 := HO5.out.frozenAt (i * 2); have pf1 := HO5.out.frozenAt (i * 2 + 1); have hn1 : ¬ g5 = w.heap.size := (fun e => ownNeBlk HO5.out hb5 (by decide) g5 rfl e); have hn2 : ¬ g5 = w.heap.size + 1 := (fun e => ownNeBlk HO5.out hr5 (by decide) g5 rfl e); have hn3 : ¬ w.heap.size = g5 := Ne.symm hn1; have hn4 : ¬ w.heap.size + 1 = g5 := Ne.symm hn2; have H5 := Lib.hid (And.intro hX5 (And.intro hb5 hr5)); clear hX5 hb5 hr5 hx5 ho5 hE5))
  subst hv3
  obtain ⟨w6, hw6⟩ : ∃ w6, w5.setCell ⟨w.heap.size, 1, none⟩ (.slice (some ⟨g5, 0, none⟩) m c5) = w6 := ⟨_, rfl⟩
  have e6 : Ext (At w.heap.size) w5 w6 := by rw [← hw6]; exact extSet _ _ _ _
  obtain ⟨w8, hw8⟩ : ∃ w8, (w6.setCell ⟨g5, i * 2, none⟩ (.string key)).setCell ⟨g5, i * 2 + 1, none⟩ (.slice A4 (n + 1) c4) = w8 := ⟨_, rfl⟩
  have e8 : Ext (At g5) w6 w8 := by rw [← hw8]; exact extSet2 _ _ _ _ _ _
  obtain ⟨w9, hw9⟩ : ∃ w9, (w8.setCell ⟨w.heap.size + 1, 0, none⟩ (.slice A0 nb c0)).setCell ⟨w.heap.size + 1, 1, none⟩ (.slice (some ⟨g5, 0, none⟩) m c5) = w9 := ⟨_, rfl⟩
  have e9 : Ext (At (w.heap.size + 1)) w8 w9 := by rw [← hw9]; exact extSet2 _ _ _ _ _ _
  simp only [hw6, hw8, hw9]
  obtain ⟨hX5, hb5, hr5⟩ := H5.out
  have hg5 := (ownBase HO5.out g5 rfl).1
  have hr8 := e8.blk (e6.blk hr5 (fun (e : w.heap.size + 1 = w.heap.size) => by omega)) (fun e => hn4 e)
  have hres : w9.heap[w.heap.size + 1]? = some (.cells #[.slice A0 nb c0, .slice (some ⟨g5, 0, none⟩) m c5] 30 (0, 0)) := by rw [← hw9]; exact set2b hr8
  have hX9 : Ext N0 w w9 := ((hX5.trans e6 (fun y hy => .inr (by have hy : y = w.heap.size := hy; omega))).trans e8 (fun y hy => .inr (by have hy : y = g5 := hy; omega))).trans e9 (fun y hy => .inr (by have hy : y = w.heap.size + 1 := hy; omega))
  have o6 := ownKept HO5.out e6 (fun y hy (e : y = w.heap.size) => hn1 ((own_is hy).symm.trans e))
  have o8 : w8.ownsRow w.heap.size 78 2 (.slice (some ⟨g5, 0, none⟩) m c5) m (rkCs (R.set i ⟨key, A4, c4, l ++ [x]⟩)) := by
    have h1 := (World.ownsRow.stored (World.ownsRow.stored o6 (i * 2) (.string key)).1 (i * 2 + 1) (.slice A4 (n + 1) c4)).1
    rw [hw8] at h1
    have h2 := rk_set ⟨key, A4, c4, l ++ [x]⟩ R i (by rw [HN.out.2.1]; exact hi)
    rw [← h2]
    have h3 : (l ++ [x]).length = n + 1 := by rw [List.length_append, HN.out.1]; rfl
    rw [h3]
    exact h1
  have o9 := ownKept o8 e9 (fun y hy (e : y = w.heap.size + 1) => hn2 ((own_is hy).symm.trans e))
  obtain ⟨cs5, fr5, hc5⟩ := rowBlk HO5.out
  have l9 : w9.ownsRow w.heap.size 3 1 (.slice A4 (n + 1) c4) (n + 1) (iv (l ++ [x])) := by
    have l5 := HO4x.out
    have q6 := ownKept l5 e6 (fun y hy (e : y = w.heap.size) => ownNeBlk l5 hb5 (by decide) y hy e)
    have q8 := ownKept q6 e8 (fun y hy (e : y = g5) => ownNeBlk l5 hc5 (by decide) y hy e)
    have q9 := ownKept q8 e9 (fun y hy (e : y = w.heap.size + 1) => ownNeBlk l5 hr5 (by decide) y hy e)
    rw [iv_app]
    exact q9
  have hRS9 := HRS.out.kept0 hX9
  have k0 := (blkCell hres 0).trans rfl
  have k1 := (blkCell hres 1).trans rfl
  simp at k0 k1
  have hsl : (R.set i ⟨key, A4, c4, l ++ [x]⟩).length = m := by rw [List.length_set]; exact HN.out.2.1
  refine bodyPost_ret (v := .tuple #[.agg (rG A0 nb c0 (some ⟨g5, 0, none⟩) m c5), .int .i64 0]) (by simp [results, Try.results9, go_sem, k0, k1]) rfl ⟨A4, c4, some ⟨g5, 0, none⟩, c5, ?_, ⟨hRS9.b, ?_, fun q hq => ?_⟩, hX9, fun y hy => ?_⟩
  · first | rw [hsl] | rw [HN.out.2.1]
  · rw [hsl]
    exact ownLe o9 hbase
  · rcases setsP q hq with rfl | hq
    · show w9.ownsRow base 3 1 (.slice A4 (l ++ [x]).length c4) (l ++ [x]).length (iv (l ++ [x]))
      rw [show (l ++ [x]).length = n + 1 by rw [List.length_append, HN.out.1]; rfl]
      exact ownLe l9 hbase
    · exact hRS9.e q hq
  · rcases hy with hy | hy | ⟨q, hq, hy⟩
    · exact .inl (.inl hy)
    · rw [hsl] at hy
      exact .inr (ownBase o9 y hy).1
    · rcases setsP q hq with rfl | hq
      · have hy : (Value.slice A4 (l ++ [x]).length c4).ownBlock = some y := hy
        rw [show (l ++ [x]).length = n + 1 by rw [List.length_append, HN.out.1]; rfl] at hy
        exact .inr (ownBase l9 y hy).1
      · exact .inl (.inr (.inr ⟨q, hq, hy⟩))
end Go.Proofs.Ytcngefpdfkkgdaa
