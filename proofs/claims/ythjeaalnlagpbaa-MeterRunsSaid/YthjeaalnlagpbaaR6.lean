/- Contracts of the document's answer for package meter: asked, Take, Force (the conditions stand in the statements). -/
import Derived.Test.YthjeaalnlagpbaaR5
namespace Go.Proofs.Ythjeaalnlagpbaa
open Go.RowKit
theorem findK_app (k : ByteArray) (t : Int) : ∀ L : Kr, findK L k = L.length → findK (L ++ [(k, t)]) k = L.length := by
  intro L
  induction L with
  | nil =>
    intro _
    show (if k = k then 0 else _) = 0
    rw [if_pos rfl]
  | cons p L ih =>
    intro h
    rw [List.cons_append]
    unfold findK at h ⊢
    split at h
    · simp at h
    · rename_i hp
      rw [if_neg hp, ih (by simpa using h)]
      rfl
theorem rask_ok (base : Nat) (m : Mt ByteArray) (A : Option Addr) (c : Nat) (k : ByteArray) (n : Int) (w : World) (h : RL base w A c m.rows) (hok : m.Ok) (he : m.err k n = 0) :
    Calls Try.prog 39 #[.agg #[.int .i64 m.r, .int .i64 m.b, .int .i64 m.most, .int .i64 m.now, .slice A m.rows.length c], .string k, .int .i64 n] w (GvM m.r m.b m.most m.now (m.ask k n).rows (.int .i64 (findK (m.ask k n).rows k)) (.int .i64 0) w) := by
  have hl := rows_len m
  have hlen := hok.len
  have hmost := hok.most
  have hn := Mt.err_n he
  by_cases hk : k ∈ m.ks
  · rw [rows_ask_in n hk]
    refine rask_in base m.r m.b m.most m.now A c m.rows k n w h (by omega) hn ?_
    have := (List.getElem?_eq_some_iff.1 (rows_in hk)).1
    omega
  · have hf := rows_out hk
    rw [← hl] at hf
    have hm : ¬ m.most ≤ m.ks.length := by
      intro hm
      unfold Mt.err at he
      rw [if_neg (by omega), if_neg hk, if_pos hm] at he
      omega
    rw [rows_ask_out he hk, rows_push hk, findK_app k m.b _ hf]
    exact rask_push base m.r m.b m.most m.now A c m.rows k n w h (by omega) hn hf (by omega)
/-- What a call gives: a meter with a row of its own, or the row from before. -/
def GvB (base : Nat) (r b most now : Int) (L : Kr) (x y : Value) (w : World) (e : Ending) (w' : World) : Prop :=
  ∃ A c, e = .returned (.tuple #[.agg (c5 r b most now A L.length c), x, y]) ∧ RL base w' A c L ∧ Ext N0 w w'
theorem GvM.b {base : Nat} {r b most now : Int} {L : Kr} {x y : Value} {w : World} (hb : base ≤ w.heap.size) {e : Ending} {w' : World} (h : GvM r b most now L x y w e w') : GvB base r b most now L x y w e w' := by
  obtain ⟨A, c, h1, h2, h3⟩ := h
  exact ⟨A, c, h1, ownLe h2 hb, h3⟩
theorem rask_no (base : Nat) (m : Mt ByteArray) (A : Option Addr) (c : Nat) (k : ByteArray) (n : Int) (w : World) (h : RL base w A c m.rows) (hok : m.Ok) (hb : base ≤ w.heap.size) (he : ¬ m.err k n = 0) :
    Calls Try.prog 39 #[.agg #[.int .i64 m.r, .int .i64 m.b, .int .i64 m.most, .int .i64 m.now, .slice A m.rows.length c], .string k, .int .i64 n] w (GvB base m.r m.b m.most m.now m.rows (.int .i64 0) (.int .i64 (m.err k n)) w) := by
  have hl := rows_len m
  have hlen := hok.len
  have hmost := hok.most
  unfold Mt.err at he ⊢
  by_cases hn : n < 1 ∨ 1073741824 < n
  · rw [if_pos hn]
    refine (rask_bad m.r m.b m.most m.now A m.rows.length c k n w hn).mono ?_
    rintro e w' ⟨rfl, hE⟩
    exact ⟨A, c, rfl, h.kept0 hE, hE⟩
  · rw [if_neg hn] at he ⊢
    by_cases hk : k ∈ m.ks
    · rw [if_pos hk] at he
      exact absurd rfl he
    · rw [if_neg hk] at he ⊢
      by_cases hm : m.most ≤ m.ks.length
      · rw [if_pos hm]
        have hf := rows_out hk
        rw [← hl] at hf
        exact (rask_many base m.r m.b m.most m.now A c m.rows k n w h (by omega) (by omega) hf (by omega)).mono (fun _ _ x => x.b hb)
      · rw [if_neg hm] at he
        exact absurd rfl he
theorem RL.set {base g c i : Nat} {w : World} {L : Kr} {k : ByteArray} {t : Int} (h : RL base w (some ⟨g, 0, none⟩) c L) (hp : L[i]? = some (k, t)) (t' : Int) :
    RL base (w.setCell ⟨g, i * 2 + 1, none⟩ (.int .i64 t')) (some ⟨g, 0, none⟩) c (L.set i (k, t')) ∧ Ext (At g) w (w.setCell ⟨g, i * 2 + 1, none⟩ (.int .i64 t')) := by
  refine ⟨?_, extSet w g (i * 2 + 1) _⟩
  have := (World.ownsRow.stored h (i * 2 + 1) (.int .i64 t')).1
  rw [k_set t' L i _ hp] at this
  unfold RL
  simpa using this
theorem Md.put {w w4 : World} {r b most now r' b' most' now' : Int} {A A0 : Option Addr} {c n0 c0' : Nat} {L : Kr} (hb : w4.heap[w.heap.size]? = some (.cells (c5 r' b' most' now' A0 n0 c0') 46 (0, 0))) (hr : w4.heap[w.heap.size + 1]? = some (.cells c0 46 (0, 0)))
    (hE : Ext N0 w w4) (ho : RL w.heap.size w4 A c L) : Md w (put5 w4 w.heap.size (.int .i64 r) (.int .i64 b) (.int .i64 most) (.int .i64 now) (.slice A L.length c)) r b most now A c L := by
  have hx := put5_ext w4 w.heap.size (.int .i64 r) (.int .i64 b) (.int .i64 most) (.int .i64 now) (.slice A L.length c)
  exact ⟨ownKept ho hx (fun x hx hs => ownNeBlk ho hb (by decide) x hx hs), put5_blk hb, hx.blk hr (fun (hs : w.heap.size + 1 = w.heap.size) => by omega), hE.trans hx (fun x hx => .inr (by have hx : x = w.heap.size := hx; omega))⟩
theorem Md.set {w w4 : World} {r b most now : Int} {gn c : Nat} {L : Kr} (h : Md w w4 r b most now (some ⟨gn, 0, none⟩) c L) {i : Nat} {k : ByteArray} {t : Int} (hp : L[i]? = some (k, t)) (t' : Int) :
    Md w (w4.setCell ⟨gn, i * 2 + 1, none⟩ (.int .i64 t')) r b most now (some ⟨gn, 0, none⟩) c (L.set i (k, t')) := by
  obtain ⟨h1, h2⟩ := h.row.set hp t'
  have hb := (ownBase h.row gn rfl).1
  refine ⟨h1, ?_, h2.blk h.res (fun hs => ownNeBlk h.row h.res (by decide) gn rfl hs.symm), h.ext.trans h2 (fun x hx => .inr (by have hx : x = gn := hx; omega))⟩
  rw [List.length_set]
  exact h2.blk h.box (fun hs => ownNeBlk h.row h.box (by decide) gn rfl hs.symm)
theorem Md.drew {w w4 : World} {r b most now : Int} {A : Option Addr} {c : Nat} {L : Kr} (h : Md w w4 r b most now A c L) : Md w w4.drew r b most now A c L := h.kept0 (Ext.refl N0 w4).drew
set_option maxRecDepth 100000 in
set_option maxHeartbeats 1000000 in
theorem rtake_yes (base : Nat) (m : Mt ByteArray) (A : Option Addr) (c : Nat) (k : ByteArray) (n : Int) (w : World) (h : RL base w A c m.rows) (hok : m.Ok) (he : m.err k n = 0) (ht : n ≤ (m.ask k n).tok k) :
    Calls Try.prog 17 #[.agg #[.int .i64 m.r, .int .i64 m.b, .int .i64 m.most, .int .i64 m.now, .slice A m.rows.length c], .string k, .int .i64 n] w (GvM m.r m.b m.most m.now (m.force k n).rows (.bool true) (.int .i64 0) w) := by
  have hn := Mt.err_n he
  have hok' := hok.ask k n
  have htk := hok'.tok k
  have hbb := hok'.b
  have hmem := Mt.ask_mem he
  have hp := rows_in hmem
  have hg := rows_get hp
  have hfl := (List.getElem?_eq_some_iff.1 hg).1
  have hset : (m.force k n).rows = _ := rows_set hok' hmem (x := (m.ask k n).tok k - min n ((m.ask k n).tok k)) (by omega)
  rw [show min n ((m.ask k n).tok k) = n by omega] at hset
  have hE0 : Ext N0 w ((w.alloc (.cells (c5 m.r m.b m.most m.now A m.rows.length c) 46)).alloc (.cells c0 46)) := ((Ext.refl _ _).alloc _).alloc _
  have HQ := Lib.hid (rask_ok base m A c k n _ (h.kept0 hE0) hok he)
  have HB := Lib.hid (blkAlloc (blkNew w (.cells (c5 m.r m.b m.most m.now A m.rows.length c) 46)) (.cells c0 46))
  have HS := Lib.hid (blkNewG (w.alloc (.cells (c5 m.r m.b m.most m.now A m.rows.length c) 46)) (.cells c0 46) (g := w.heap.size + 1) (by simp))
  have HE := Lib.hid hE0
  rw [hset]
  obtain ⟨L, hL⟩ : ∃ L, (m.ask k n).rows = L := ⟨_, rfl⟩
  rw [hL] at hg hfl HQ ⊢
  obtain ⟨f, hf⟩ : ∃ f, findK L k = f := ⟨_, rfl⟩
  rw [hf] at hg hfl HQ ⊢
  obtain ⟨t, htt⟩ : ∃ t, (m.ask k n).tok k = t := ⟨_, rfl⟩
  rw [htt] at hg ht htk ⊢
  have HG := Lib.hid hg
  have htn : ¬ t < n := by omega
  have hfI : (f : Int) < L.length := by omega
  clear h hok he hok' hmem hp hset hE0 hL hf htt hg
  unfold GvM at HQ ⊢
  go_enter Try.func17, Try.ntmps17
  go_wp2_with (go_at_call 39; refine HQ.out.mono ?_; rintro e w3 ⟨A3, c3, rfl, hR, hE3⟩; obtain ⟨gn, rfl, hgl, hcell⟩ := hR.at (i := f) hfl; have q1 := (hcell w3 (Ext.refl _ _) f _ HG.out).2; have hgb := (ownBase hR gn rfl).1; simp at hgb; have hne : ¬ gn = w.heap.size := (by omega); have hne2 : ¬ w.heap.size = gn := (by omega); have hb3 := hE3.blk0 HB.out; have hr3 := hE3.blk0 HS.out; obtain ⟨_, f0, f1, f2, f3, f4⟩ := cells5 hb3; have HM := Lib.hid (Md.put (r := m.r) (b := m.b) (most := m.most) (now := m.now) hb3 hr3 (HE.out.then0 hE3) (ownLe hR (by simp; omega))); clear hR hE3 hcell hgl hb3 hr3)
  obtain ⟨w4, hw4⟩ : ∃ w4, put5 w3 w.heap.size (.int .i64 m.r) (.int .i64 m.b) (.int .i64 m.most) (.int .i64 m.now) (.slice (some ⟨gn, 0, none⟩) L.length c3) = w4 := ⟨_, rfl⟩
  have hM := HM.out
  rw [hw4] at hM
  simp only [hw4]
  clear hw4 HM q1 f0 f1 f2 f3 f4
  have hMd := hM.drew
  have d4 := (cells5 hMd.box).1.2.2.2.2
  obtain ⟨_, hx1, _, hx2⟩ := hMd.row.at (i := f) hfl
  injection hx1 with hx1
  injection hx1 with hx1
  subst hx1
  have q1 := (hx2 _ (Ext.refl _ _) f _ HG.out).2
  have fq := hMd.row.frozenAt (f * 2 + 1)
  have hM4 := (hM.set HG.out (t - n)).drew
  clear hx2 hM hMd
  go_region
  all_goals
    obtain ⟨w5, hw5⟩ : ∃ w5, (w4.setCell ⟨gn, f * 2 + 1, none⟩ (.int .i64 (t - n))).drew = w5 := ⟨_, rfl⟩
    rw [hw5] at hM4
    simp only [hw5]
    clear hw5 d4 q1 fq
    rw [show L.length = (L.set f (k, t - n)).length by simp]
    obtain ⟨L2, hL2⟩ : ∃ L2, L.set f (k, t - n) = L2 := ⟨_, rfl⟩
    rw [hL2] at hM4 ⊢
    have HL2 := Lib.hid hL2
    clear hL2
    have HM4 := Lib.hid hM4
    obtain ⟨⟨e0, e1, e2, e3, e4⟩, _⟩ := cells5 hM4.box
    obtain ⟨_, g0, g1, g2, g3, g4⟩ := cells5 hM4.res
    clear hM4
    go_wp2
    obtain ⟨d1, d2, d3⟩ := HM4.out.done
    obtain ⟨⟨k0, k1, k2, k3, k4⟩, _⟩ := cells5 d1
    refine bodyPost_ret (v := .tuple #[.agg (c5 m.r m.b m.most m.now (some ⟨gn, 0, none⟩) L2.length c3), .bool true, .int .i64 0]) (by simp [results, Try.results17, go_sem, c5, k0, k1, k2, k3, k4]) rfl ⟨some ⟨gn, 0, none⟩, c3, by rw [← HL2.out, List.length_set], by rw [HL2.out]; exact d2, d3⟩
set_option maxRecDepth 100000 in
set_option maxHeartbeats 1000000 in
theorem rforce_1 (base : Nat) (m : Mt ByteArray) (A : Option Addr) (c : Nat) (k : ByteArray) (n : Int) (w : World) (h : RL base w A c m.rows) (hok : m.Ok) (he : m.err k n = 0) (ht : n ≤ (m.ask k n).tok k) :
    Calls Try.prog 19 #[.agg #[.int .i64 m.r, .int .i64 m.b, .int .i64 m.most, .int .i64 m.now, .slice A m.rows.length c], .string k, .int .i64 n] w (GvM m.r m.b m.most m.now (m.force k n).rows (.int .i64 (min n ((m.ask k n).tok k))) (.int .i64 0) w) := by
  have hn := Mt.err_n he
  have hok' := hok.ask k n
  have htk := hok'.tok k
  have hbb := hok'.b
  have hmem := Mt.ask_mem he
  have hp := rows_in hmem
  have hg := rows_get hp
  have hfl := (List.getElem?_eq_some_iff.1 hg).1
  have hset : (m.force k n).rows = _ := rows_set hok' hmem (x := (m.ask k n).tok k - min n ((m.ask k n).tok k)) (by omega)
  have hE0 : Ext N0 w ((w.alloc (.cells (c5 m.r m.b m.most m.now A m.rows.length c) 46)).alloc (.cells c0 46)) := ((Ext.refl _ _).alloc _).alloc _
  have HQ := Lib.hid (rask_ok base m A c k n _ (h.kept0 hE0) hok he)
  have HB := Lib.hid (blkAlloc (blkNew w (.cells (c5 m.r m.b m.most m.now A m.rows.length c) 46)) (.cells c0 46))
  have HS := Lib.hid (blkNewG (w.alloc (.cells (c5 m.r m.b m.most m.now A m.rows.length c) 46)) (.cells c0 46) (g := w.heap.size + 1) (by simp))
  have HE := Lib.hid hE0
  rw [hset]
  obtain ⟨L, hL⟩ : ∃ L, (m.ask k n).rows = L := ⟨_, rfl⟩
  rw [hL] at hg hfl HQ ⊢
  obtain ⟨f, hf⟩ : ∃ f, findK L k = f := ⟨_, rfl⟩
  rw [hf] at hg hfl HQ ⊢
  obtain ⟨t, htt⟩ : ∃ t, (m.ask k n).tok k = t := ⟨_, rfl⟩
  rw [htt] at hg htk ht ⊢
  have HG := Lib.hid hg
  rw [show min n t = n by omega]
  have htn : ¬ t < n := by omega
  have hfI : (f : Int) < L.length := by omega
  clear h hok he hok' hmem hp hset hE0 hL hf htt hg
  unfold GvM at HQ ⊢
  go_enter Try.func19, Try.ntmps19
  go_wp2_with (go_at_call 39; refine HQ.out.mono ?_; rintro e w3 ⟨A3, c3, rfl, hR, hE3⟩; obtain ⟨gn, rfl, hgl, hcell⟩ := hR.at (i := f) hfl; have q1 := (hcell w3 (Ext.refl _ _) f _ HG.out).2; have hgb := (ownBase hR gn rfl).1; simp at hgb; have hne : ¬ gn = w.heap.size := (by omega); have hne2 : ¬ w.heap.size = gn := (by omega); have hb3 := hE3.blk0 HB.out; have hr3 := hE3.blk0 HS.out; obtain ⟨_, f0, f1, f2, f3, f4⟩ := cells5 hb3; have HM := Lib.hid (Md.put (r := m.r) (b := m.b) (most := m.most) (now := m.now) hb3 hr3 (HE.out.then0 hE3) (ownLe hR (by simp; omega))); clear hR hE3 hcell hgl hb3 hr3)
  obtain ⟨w4, hw4⟩ : ∃ w4, put5 w3 w.heap.size (.int .i64 m.r) (.int .i64 m.b) (.int .i64 m.most) (.int .i64 m.now) (.slice (some ⟨gn, 0, none⟩) L.length c3) = w4 := ⟨_, rfl⟩
  have hM := HM.out
  rw [hw4] at hM
  simp only [hw4]
  clear hw4 HM q1 f0 f1 f2 f3 f4
  have hMd := hM.drew
  have d4 := (cells5 hMd.box).1.2.2.2.2
  obtain ⟨_, hx1, _, hx2⟩ := hMd.row.at (i := f) hfl
  injection hx1 with hx1
  injection hx1 with hx1
  subst hx1
  have q1 := (hx2 _ (Ext.refl _ _) f _ HG.out).2
  have fq := hMd.row.frozenAt (f * 2 + 1)
  have hM4 := (hM.set HG.out (t - n)).drew
  clear hx2 hM hMd
  go_region
  all_goals
    obtain ⟨w5, hw5⟩ : ∃ w5, (w4.setCell ⟨gn, f * 2 + 1, none⟩ (.int .i64 (t - n))).drew = w5 := ⟨_, rfl⟩
    rw [hw5] at hM4
    simp only [hw5]
    clear hw5 d4 q1 fq
    rw [show L.length = (L.set f (k, t - n)).length by simp]
    obtain ⟨L2, hL2⟩ : ∃ L2, L.set f (k, t - n) = L2 := ⟨_, rfl⟩
    rw [hL2] at hM4 ⊢
    have HL2 := Lib.hid hL2
    clear hL2
    have HM4 := Lib.hid hM4
    obtain ⟨⟨e0, e1, e2, e3, e4⟩, _⟩ := cells5 hM4.box
    obtain ⟨_, g0, g1, g2, g3, g4⟩ := cells5 hM4.res
    clear hM4
    go_wp2
    obtain ⟨d1, d2, d3⟩ := HM4.out.done
    obtain ⟨⟨k0, k1, k2, k3, k4⟩, _⟩ := cells5 d1
    refine bodyPost_ret (v := .tuple #[.agg (c5 m.r m.b m.most m.now (some ⟨gn, 0, none⟩) L2.length c3), .int .i64 n, .int .i64 0]) (by simp [results, Try.results19, go_sem, c5, k0, k1, k2, k3, k4]) rfl ⟨some ⟨gn, 0, none⟩, c3, by rw [← HL2.out, List.length_set], by rw [HL2.out]; exact d2, d3⟩
set_option maxRecDepth 100000 in
set_option maxHeartbeats 1000000 in
theorem rforce_2 (base : Nat) (m : Mt ByteArray) (A : Option Addr) (c : Nat) (k : ByteArray) (n : Int) (w : World) (h : RL base w A c m.rows) (hok : m.Ok) (he : m.err k n = 0) (ht : (m.ask k n).tok k < n) :
    Calls Try.prog 19 #[.agg #[.int .i64 m.r, .int .i64 m.b, .int .i64 m.most, .int .i64 m.now, .slice A m.rows.length c], .string k, .int .i64 n] w (GvM m.r m.b m.most m.now (m.force k n).rows (.int .i64 (min n ((m.ask k n).tok k))) (.int .i64 0) w) := by
  have hn := Mt.err_n he
  have hok' := hok.ask k n
  have htk := hok'.tok k
  have hbb := hok'.b
  have hmem := Mt.ask_mem he
  have hp := rows_in hmem
  have hg := rows_get hp
  have hfl := (List.getElem?_eq_some_iff.1 hg).1
  have hset : (m.force k n).rows = _ := rows_set hok' hmem (x := (m.ask k n).tok k - min n ((m.ask k n).tok k)) (by omega)
  have hE0 : Ext N0 w ((w.alloc (.cells (c5 m.r m.b m.most m.now A m.rows.length c) 46)).alloc (.cells c0 46)) := ((Ext.refl _ _).alloc _).alloc _
  have HQ := Lib.hid (rask_ok base m A c k n _ (h.kept0 hE0) hok he)
  have HB := Lib.hid (blkAlloc (blkNew w (.cells (c5 m.r m.b m.most m.now A m.rows.length c) 46)) (.cells c0 46))
  have HS := Lib.hid (blkNewG (w.alloc (.cells (c5 m.r m.b m.most m.now A m.rows.length c) 46)) (.cells c0 46) (g := w.heap.size + 1) (by simp))
  have HE := Lib.hid hE0
  rw [hset]
  obtain ⟨L, hL⟩ : ∃ L, (m.ask k n).rows = L := ⟨_, rfl⟩
  rw [hL] at hg hfl HQ ⊢
  obtain ⟨f, hf⟩ : ∃ f, findK L k = f := ⟨_, rfl⟩
  rw [hf] at hg hfl HQ ⊢
  obtain ⟨t, htt⟩ : ∃ t, (m.ask k n).tok k = t := ⟨_, rfl⟩
  rw [htt] at hg htk ht ⊢
  have HG := Lib.hid hg
  rw [show min n t = t by omega, show t - t = 0 by omega]
  have htn : ¬ n ≤ t := by omega
  have htn2 : ¬ n < t := by omega
  have hfI : (f : Int) < L.length := by omega
  clear h hok he hok' hmem hp hset hE0 hL hf htt hg
  unfold GvM at HQ ⊢
  go_enter Try.func19, Try.ntmps19
  go_wp2_with (go_at_call 39; refine HQ.out.mono ?_; rintro e w3 ⟨A3, c3, rfl, hR, hE3⟩; obtain ⟨gn, rfl, hgl, hcell⟩ := hR.at (i := f) hfl; have q1 := (hcell w3 (Ext.refl _ _) f _ HG.out).2; have hgb := (ownBase hR gn rfl).1; simp at hgb; have hne : ¬ gn = w.heap.size := (by omega); have hne2 : ¬ w.heap.size = gn := (by omega); have hb3 := hE3.blk0 HB.out; have hr3 := hE3.blk0 HS.out; obtain ⟨_, f0, f1, f2, f3, f4⟩ := cells5 hb3; have HM := Lib.hid (Md.put (r := m.r) (b := m.b) (most := m.most) (now := m.now) hb3 hr3 (HE.out.then0 hE3) (ownLe hR (by simp; omega))); clear hR hE3 hcell hgl hb3 hr3)
  obtain ⟨w4, hw4⟩ : ∃ w4, put5 w3 w.heap.size (.int .i64 m.r) (.int .i64 m.b) (.int .i64 m.most) (.int .i64 m.now) (.slice (some ⟨gn, 0, none⟩) L.length c3) = w4 := ⟨_, rfl⟩
  have hM := HM.out
  rw [hw4] at hM
  simp only [hw4]
  clear hw4 HM q1 f0 f1 f2 f3 f4
  have hMd := hM.drew
  have d4 := (cells5 hMd.box).1.2.2.2.2
  obtain ⟨_, hx1, _, hx2⟩ := hMd.row.at (i := f) hfl
  injection hx1 with hx1
  injection hx1 with hx1
  subst hx1
  have q1 := (hx2 _ (Ext.refl _ _) f _ HG.out).2
  have fq := hMd.row.frozenAt (f * 2 + 1)
  have hM4 := (hM.set HG.out 0).drew
  clear hx2 hM hMd
  go_region
  all_goals
    obtain ⟨w5, hw5⟩ : ∃ w5, (w4.setCell ⟨gn, f * 2 + 1, none⟩ (.int .i64 0)).drew = w5 := ⟨_, rfl⟩
    rw [hw5] at hM4
    simp only [hw5]
    clear hw5 d4 q1 fq
    rw [show L.length = (L.set f (k, 0)).length by simp]
    obtain ⟨L2, hL2⟩ : ∃ L2, L.set f (k, 0) = L2 := ⟨_, rfl⟩
    rw [hL2] at hM4 ⊢
    have HL2 := Lib.hid hL2
    clear hL2
    have HM4 := Lib.hid hM4
    obtain ⟨⟨e0, e1, e2, e3, e4⟩, _⟩ := cells5 hM4.box
    obtain ⟨_, g0, g1, g2, g3, g4⟩ := cells5 hM4.res
    clear hM4
    go_wp2
    obtain ⟨d1, d2, d3⟩ := HM4.out.done
    obtain ⟨⟨k0, k1, k2, k3, k4⟩, _⟩ := cells5 d1
    refine bodyPost_ret (v := .tuple #[.agg (c5 m.r m.b m.most m.now (some ⟨gn, 0, none⟩) L2.length c3), .int .i64 t, .int .i64 0]) (by simp [results, Try.results19, go_sem, c5, k0, k1, k2, k3, k4]) rfl ⟨some ⟨gn, 0, none⟩, c3, by rw [← HL2.out, List.length_set], by rw [HL2.out]; exact d2, d3⟩
theorem rforce_yes (base : Nat) (m : Mt ByteArray) (A : Option Addr) (c : Nat) (k : ByteArray) (n : Int) (w : World) (h : RL base w A c m.rows) (hok : m.Ok) (he : m.err k n = 0) :
    Calls Try.prog 19 #[.agg #[.int .i64 m.r, .int .i64 m.b, .int .i64 m.most, .int .i64 m.now, .slice A m.rows.length c], .string k, .int .i64 n] w (GvM m.r m.b m.most m.now (m.force k n).rows (.int .i64 (min n ((m.ask k n).tok k))) (.int .i64 0) w) := by
  by_cases ht : n ≤ (m.ask k n).tok k
  · exact rforce_1 base m A c k n w h hok he ht
  · exact rforce_2 base m A c k n w h hok he (by omega)
theorem putRes {base : Nat} {w w4 : World} {r b most now r' b' most' now' : Int} {A A0 : Option Addr} {c n0 c0' : Nat} {L : Kr} (hb : w4.heap[w.heap.size]? = some (.cells (c5 r' b' most' now' A0 n0 c0') 46 (0, 0))) (hr : w4.heap[w.heap.size + 1]? = some (.cells c0 46 (0, 0)))
    (hE : Ext N0 w w4) (ho : RL base w4 A c L) {W : World} (hW : put5 (put5 w4 w.heap.size (.int .i64 r) (.int .i64 b) (.int .i64 most) (.int .i64 now) (.slice A L.length c)) (w.heap.size + 1) (.int .i64 r) (.int .i64 b) (.int .i64 most) (.int .i64 now) (.slice A L.length c) = W) :
    W.heap[w.heap.size + 1]? = some (.cells (c5 r b most now A L.length c) 46 (0, 0)) ∧ RL base W A c L ∧ Ext N0 w W := by
  subst hW
  have hx := put5_ext w4 w.heap.size (.int .i64 r) (.int .i64 b) (.int .i64 most) (.int .i64 now) (.slice A L.length c)
  have h1 : RL base _ A c L := ownKept ho hx (fun x hx hs => ownNeBlk ho hb (by decide) x hx hs)
  have hr1 := hx.blk hr (fun (hs : w.heap.size + 1 = w.heap.size) => by omega)
  have hy := put5_ext (put5 w4 w.heap.size (.int .i64 r) (.int .i64 b) (.int .i64 most) (.int .i64 now) (.slice A L.length c)) (w.heap.size + 1) (.int .i64 r) (.int .i64 b) (.int .i64 most) (.int .i64 now) (.slice A L.length c)
  exact ⟨put5_blk hr1, ownKept h1 hy (fun x hx hs => ownNeBlk h1 hr1 (by decide) x hx hs), (hE.trans hx (fun x hx => .inr (by have hx : x = w.heap.size := hx; omega))).trans hy (fun x hx => .inr (by have hx : x = w.heap.size + 1 := hx; omega))⟩
set_option maxRecDepth 100000 in
set_option maxHeartbeats 1000000 in
theorem rtake_low (base : Nat) (m : Mt ByteArray) (A : Option Addr) (c : Nat) (k : ByteArray) (n : Int) (w : World) (h : RL base w A c m.rows) (hok : m.Ok) (he : m.err k n = 0) (ht : (m.ask k n).tok k < n) :
    Calls Try.prog 17 #[.agg #[.int .i64 m.r, .int .i64 m.b, .int .i64 m.most, .int .i64 m.now, .slice A m.rows.length c], .string k, .int .i64 n] w (GvM m.r m.b m.most m.now (m.ask k n).rows (.bool false) (.int .i64 0) w) := by
  have hn := Mt.err_n he
  have hmem := Mt.ask_mem he
  have hp := rows_in hmem
  have hg := rows_get hp
  have hfl := (List.getElem?_eq_some_iff.1 hg).1
  have hE0 : Ext N0 w ((w.alloc (.cells (c5 m.r m.b m.most m.now A m.rows.length c) 46)).alloc (.cells c0 46)) := ((Ext.refl _ _).alloc _).alloc _
  have HQ := Lib.hid (rask_ok base m A c k n _ (h.kept0 hE0) hok he)
  have HB := Lib.hid (blkAlloc (blkNew w (.cells (c5 m.r m.b m.most m.now A m.rows.length c) 46)) (.cells c0 46))
  have HS := Lib.hid (blkNewG (w.alloc (.cells (c5 m.r m.b m.most m.now A m.rows.length c) 46)) (.cells c0 46) (g := w.heap.size + 1) (by simp))
  have HE := Lib.hid hE0
  obtain ⟨L, hL⟩ : ∃ L, (m.ask k n).rows = L := ⟨_, rfl⟩
  rw [hL] at hg hfl HQ ⊢
  obtain ⟨f, hf⟩ : ∃ f, findK L k = f := ⟨_, rfl⟩
  rw [hf] at hg hfl HQ
  obtain ⟨t, htt⟩ : ∃ t, (m.ask k n).tok k = t := ⟨_, rfl⟩
  rw [htt] at hg ht
  have HG := Lib.hid hg
  have hfI : (f : Int) < L.length := by omega
  clear h hok he hmem hp hE0 hL hf htt hg
  unfold GvM at HQ ⊢
  go_enter Try.func17, Try.ntmps17
  go_wp2_with (go_at_call 39; refine HQ.out.mono ?_; rintro e w3 ⟨A3, c3, rfl, hR, hE3⟩; obtain ⟨gn, rfl, hgl, hcell⟩ := hR.at (i := f) hfl; have q1 := (hcell w3 (Ext.refl _ _) f _ HG.out).2; have hgb := (ownBase hR gn rfl).1; simp at hgb; have hne : ¬ gn = w.heap.size := (by omega); have hne2 : ¬ w.heap.size = gn := (by omega); have hb3 := hE3.blk0 HB.out; have hr3 := hE3.blk0 HS.out; obtain ⟨_, f0, f1, f2, f3, f4⟩ := cells5 hb3; obtain ⟨_, g0, g1, g2, g3, g4⟩ := cells5 hr3; have HM := Lib.hid (fun W => putRes (r := m.r) (b := m.b) (most := m.most) (now := m.now) (W := W) hb3 hr3 (HE.out.then0 hE3) (ownLe hR (by simp; omega : w.heap.size ≤ _))); clear hR hE3 hcell hgl hb3 hr3)
  obtain ⟨W5, hW5⟩ : ∃ W5, put5 (put5 w3 w.heap.size (.int .i64 m.r) (.int .i64 m.b) (.int .i64 m.most) (.int .i64 m.now) (.slice (some ⟨gn, 0, none⟩) L.length c3)) (w.heap.size + 1) (.int .i64 m.r) (.int .i64 m.b) (.int .i64 m.most) (.int .i64 m.now) (.slice (some ⟨gn, 0, none⟩) L.length c3) = W5 := ⟨_, rfl⟩
  obtain ⟨d1, d2, d3⟩ := HM.out W5 hW5
  simp only [hW5]
  clear hW5
  obtain ⟨⟨k0, k1, k2, k3, k4⟩, _⟩ := cells5 d1
  refine bodyPost_ret (v := .tuple #[.agg (c5 m.r m.b m.most m.now (some ⟨gn, 0, none⟩) L.length c3), .bool false, .int .i64 0]) (by simp [results, Try.results17, go_sem, c5, k0, k1, k2, k3, k4]) rfl ⟨_, c3, rfl, d2, d3⟩
set_option maxRecDepth 100000 in
set_option maxHeartbeats 1000000 in
theorem rtake_no (base : Nat) (m : Mt ByteArray) (A : Option Addr) (c : Nat) (k : ByteArray) (n : Int) (w : World) (h : RL base w A c m.rows) (hok : m.Ok) (hb : base ≤ w.heap.size) (he : ¬ m.err k n = 0) :
    Calls Try.prog 17 #[.agg #[.int .i64 m.r, .int .i64 m.b, .int .i64 m.most, .int .i64 m.now, .slice A m.rows.length c], .string k, .int .i64 n] w (GvB base m.r m.b m.most m.now m.rows (.bool false) (.int .i64 (m.err k n)) w) := by
  have hE0 : Ext N0 w ((w.alloc (.cells (c5 m.r m.b m.most m.now A m.rows.length c) 46)).alloc (.cells c0 46)) := ((Ext.refl _ _).alloc _).alloc _
  have HQ := Lib.hid (rask_no base m A c k n _ (h.kept0 hE0) hok (Nat.le_trans hb hE0.size) he)
  have HB := Lib.hid (blkAlloc (blkNew w (.cells (c5 m.r m.b m.most m.now A m.rows.length c) 46)) (.cells c0 46))
  have HS := Lib.hid (blkNewG (w.alloc (.cells (c5 m.r m.b m.most m.now A m.rows.length c) 46)) (.cells c0 46) (g := w.heap.size + 1) (by simp))
  have HE := Lib.hid hE0
  obtain ⟨x, hx⟩ : ∃ x, m.err k n = x := ⟨_, rfl⟩
  rw [hx] at HQ he ⊢
  clear h hok hE0 hx
  unfold GvB at HQ ⊢
  go_enter Try.func17, Try.ntmps17
  go_wp2_with (go_at_call 39; refine HQ.out.mono ?_; rintro e w3 ⟨A3, c3, rfl, hR, hE3⟩; have hb3 := hE3.blk0 HB.out; have hr3 := hE3.blk0 HS.out; obtain ⟨_, f0, f1, f2, f3, f4⟩ := cells5 hb3; obtain ⟨_, g0, g1, g2, g3, g4⟩ := cells5 hr3; have HM := Lib.hid (fun W => putRes (r := m.r) (b := m.b) (most := m.most) (now := m.now) (W := W) hb3 hr3 (HE.out.then0 hE3) hR); clear hR hE3 hb3 hr3)
  obtain ⟨W5, hW5⟩ : ∃ W5, put5 (put5 w3 w.heap.size (.int .i64 m.r) (.int .i64 m.b) (.int .i64 m.most) (.int .i64 m.now) (.slice A3 m.rows.length c3)) (w.heap.size + 1) (.int .i64 m.r) (.int .i64 m.b) (.int .i64 m.most) (.int .i64 m.now) (.slice A3 m.rows.length c3) = W5 := ⟨_, rfl⟩
  obtain ⟨d1, d2, d3⟩ := HM.out W5 hW5
  simp only [hW5]
  clear hW5
  obtain ⟨⟨k0, k1, k2, k3, k4⟩, _⟩ := cells5 d1
  refine bodyPost_ret (v := .tuple #[.agg (c5 m.r m.b m.most m.now A3 m.rows.length c3), .bool false, .int .i64 x]) (by simp [results, Try.results17, go_sem, c5, k0, k1, k2, k3, k4]) rfl ⟨_, c3, rfl, d2, d3⟩
set_option maxRecDepth 100000 in
set_option maxHeartbeats 1000000 in
theorem rforce_no (base : Nat) (m : Mt ByteArray) (A : Option Addr) (c : Nat) (k : ByteArray) (n : Int) (w : World) (h : RL base w A c m.rows) (hok : m.Ok) (hb : base ≤ w.heap.size) (he : ¬ m.err k n = 0) :
    Calls Try.prog 19 #[.agg #[.int .i64 m.r, .int .i64 m.b, .int .i64 m.most, .int .i64 m.now, .slice A m.rows.length c], .string k, .int .i64 n] w (GvB base m.r m.b m.most m.now m.rows (.int .i64 0) (.int .i64 (m.err k n)) w) := by
  have hE0 : Ext N0 w ((w.alloc (.cells (c5 m.r m.b m.most m.now A m.rows.length c) 46)).alloc (.cells c0 46)) := ((Ext.refl _ _).alloc _).alloc _
  have HQ := Lib.hid (rask_no base m A c k n _ (h.kept0 hE0) hok (Nat.le_trans hb hE0.size) he)
  have HB := Lib.hid (blkAlloc (blkNew w (.cells (c5 m.r m.b m.most m.now A m.rows.length c) 46)) (.cells c0 46))
  have HS := Lib.hid (blkNewG (w.alloc (.cells (c5 m.r m.b m.most m.now A m.rows.length c) 46)) (.cells c0 46) (g := w.heap.size + 1) (by simp))
  have HE := Lib.hid hE0
  obtain ⟨x, hx⟩ : ∃ x, m.err k n = x := ⟨_, rfl⟩
  rw [hx] at HQ he ⊢
  clear h hok hE0 hx
  unfold GvB at HQ ⊢
  go_enter Try.func19, Try.ntmps19
  go_wp2_with (go_at_call 39; refine HQ.out.mono ?_; rintro e w3 ⟨A3, c3, rfl, hR, hE3⟩; have hb3 := hE3.blk0 HB.out; have hr3 := hE3.blk0 HS.out; obtain ⟨_, f0, f1, f2, f3, f4⟩ := cells5 hb3; obtain ⟨_, g0, g1, g2, g3, g4⟩ := cells5 hr3; have HM := Lib.hid (fun W => putRes (r := m.r) (b := m.b) (most := m.most) (now := m.now) (W := W) hb3 hr3 (HE.out.then0 hE3) hR); clear hR hE3 hb3 hr3)
  obtain ⟨W5, hW5⟩ : ∃ W5, put5 (put5 w3 w.heap.size (.int .i64 m.r) (.int .i64 m.b) (.int .i64 m.most) (.int .i64 m.now) (.slice A3 m.rows.length c3)) (w.heap.size + 1) (.int .i64 m.r) (.int .i64 m.b) (.int .i64 m.most) (.int .i64 m.now) (.slice A3 m.rows.length c3) = W5 := ⟨_, rfl⟩
  obtain ⟨d1, d2, d3⟩ := HM.out W5 hW5
  simp only [hW5]
  clear hW5
  obtain ⟨⟨k0, k1, k2, k3, k4⟩, _⟩ := cells5 d1
  refine bodyPost_ret (v := .tuple #[.agg (c5 m.r m.b m.most m.now A3 m.rows.length c3), .int .i64 0, .int .i64 x]) (by simp [results, Try.results19, go_sem, c5, k0, k1, k2, k3, k4]) rfl ⟨_, c3, rfl, d2, d3⟩
end Go.Proofs.Ythjeaalnlagpbaa
