/- The document's answer for package meter: a key is asked (the conditions stand in the statements). -/
import Derived.Test.YthjeaalnlagpbaaR3
namespace Go.Proofs.Ythjeaalnlagpbaa
open Go.RowKit
theorem info90 : (Try.prog.info? 90).map (fun i => (i.zero, i.size, i.bytes)) = some (some (.agg #[.string ⟨#[]⟩, .int .i64 0]), 2, 24) := by kernel_rfl
theorem own_is {a c n k : Nat} (h : (Value.slice (some ⟨a, 0, none⟩) n c).ownBlock = some k) : k = a := by
  have : a = k := by simpa [Value.ownBlock] using h
  exact this.symm
/-- The document's meter in five cells. -/
abbrev c5 (r b most now : Int) (A : Option Addr) (n c : Nat) : Array Value := #[.int .i64 r, .int .i64 b, .int .i64 most, .int .i64 now, .slice A n c]
abbrev c0 : Array Value := #[.int .i64 0, .int .i64 0, .int .i64 0, .int .i64 0, .slice none 0 0]
theorem cells5 {w : World} {g : Nat} {a b c d e : Value} (h : w.heap[g]? = some (.cells #[a, b, c, d, e] 46 (0, 0))) :
    (w.cell? ⟨g, 0, none⟩ = some a ∧ w.cell? ⟨g, 1, none⟩ = some b ∧ w.cell? ⟨g, 2, none⟩ = some c ∧ w.cell? ⟨g, 3, none⟩ = some d ∧ w.cell? ⟨g, 4, none⟩ = some e) ∧
    w.frozen? ⟨g, 0, none⟩ = false ∧ w.frozen? ⟨g, 1, none⟩ = false ∧ w.frozen? ⟨g, 2, none⟩ = false ∧ w.frozen? ⟨g, 3, none⟩ = false ∧ w.frozen? ⟨g, 4, none⟩ = false :=
  ⟨⟨(blkCell h 0).trans rfl, (blkCell h 1).trans rfl, (blkCell h 2).trans rfl, (blkCell h 3).trans rfl, (blkCell h 4).trans rfl⟩, blkFrozen h 0, blkFrozen h 1, blkFrozen h 2, blkFrozen h 3, blkFrozen h 4⟩
abbrev put5 (w : World) (g : Nat) (a b c d e : Value) : World := ((((w.setCell ⟨g, 0, none⟩ a).setCell ⟨g, 1, none⟩ b).setCell ⟨g, 2, none⟩ c).setCell ⟨g, 3, none⟩ d).setCell ⟨g, 4, none⟩ e
theorem put5_blk {w : World} {g : Nat} {a b c d e a' b' c' d' e' : Value} (h : w.heap[g]? = some (.cells #[a, b, c, d, e] 46 (0, 0))) : (put5 w g a' b' c' d' e').heap[g]? = some (.cells #[a', b', c', d', e'] 46 (0, 0)) := by
  have h1 := blkSet (blkSet (blkSet (blkSet (blkSet h 0 a') 1 b') 2 c') 3 d') 4 e'
  exact h1.trans (by simp)
theorem extSet (w : World) (g i : Nat) (v : Value) : Ext (At g) w (w.setCell ⟨g, i, none⟩ v) := (Ext.refl (At g) w).setCell (p := ⟨g, i, none⟩) (.inl (show g = g from rfl)) v
theorem put5_ext (w : World) (g : Nat) (a b c d e : Value) : Ext (At g) w (put5 w g a b c d e) := ((((extSet w g 0 a).same (extSet _ g 1 b)).same (extSet _ g 2 c)).same (extSet _ g 3 d)).same (extSet _ g 4 e)
/-- Amid a call: the box with the meter, the result's cells, the meter's own row. -/
structure Md (w w4 : World) (r b most now : Int) (A : Option Addr) (c : Nat) (L : Kr) : Prop where
  row : RL w.heap.size w4 A c L
  box : w4.heap[w.heap.size]? = some (.cells (c5 r b most now A L.length c) 46 (0, 0))
  res : w4.heap[w.heap.size + 1]? = some (.cells c0 46 (0, 0))
  ext : Ext N0 w w4
theorem Md.kept0 {w w4 w5 : World} {r b most now : Int} {A : Option Addr} {c : Nat} {L : Kr} (h : Md w w4 r b most now A c L) (hE : Ext N0 w4 w5) : Md w w5 r b most now A c L := ⟨h.row.kept0 hE, hE.blk0 h.box, hE.blk0 h.res, h.ext.then0 hE⟩
/-- A new row is laid into the box. -/
theorem Md.lay {w w4 : World} {r b most now : Int} {A A0 : Option Addr} {c n0 c0' : Nat} {L : Kr} (hb : w4.heap[w.heap.size]? = some (.cells (c5 r b most now A0 n0 c0') 46 (0, 0))) (hr : w4.heap[w.heap.size + 1]? = some (.cells c0 46 (0, 0)))
    (hE : Ext N0 w w4) (ho : RL w.heap.size w4 A c L) : Md w (w4.setCell ⟨w.heap.size, 4, none⟩ (.slice A L.length c)) r b most now A c L :=
  ⟨ownKept ho (extSet w4 w.heap.size 4 _) (fun x hx hs => ownNeBlk ho hb (by decide) x hx hs), (blkSet hb 4 _).trans (by simp [c5]), blkFar hr (p := ⟨w.heap.size, 4, none⟩) (show w.heap.size + 1 ≠ w.heap.size by omega) _,
    hE.trans (extSet w4 w.heap.size 4 _) (fun x hx => .inr (by have hx : x = w.heap.size := hx; omega))⟩
/-- The end: the meter is laid into the result. -/
theorem Md.done {w w4 : World} {r b most now : Int} {A : Option Addr} {c : Nat} {L : Kr} (h : Md w w4 r b most now A c L) :
    (((((((w4).setCell ⟨w.heap.size + 1, 0, none⟩ (.int .i64 r)).setCell ⟨w.heap.size + 1, 1, none⟩ (.int .i64 b)).setCell ⟨w.heap.size + 1, 2, none⟩ (.int .i64 most)).setCell ⟨w.heap.size + 1, 3, none⟩ (.int .i64 now)).setCell ⟨w.heap.size + 1, 4, none⟩ (.slice A L.length c)).heap[w.heap.size + 1]? = some (.cells (c5 r b most now A L.length c) 46 (0, 0))) ∧
    RL w.heap.size ((((((w4).setCell ⟨w.heap.size + 1, 0, none⟩ (.int .i64 r)).setCell ⟨w.heap.size + 1, 1, none⟩ (.int .i64 b)).setCell ⟨w.heap.size + 1, 2, none⟩ (.int .i64 most)).setCell ⟨w.heap.size + 1, 3, none⟩ (.int .i64 now)).setCell ⟨w.heap.size + 1, 4, none⟩ (.slice A L.length c)) A c L ∧
    Ext N0 w ((((((w4).setCell ⟨w.heap.size + 1, 0, none⟩ (.int .i64 r)).setCell ⟨w.heap.size + 1, 1, none⟩ (.int .i64 b)).setCell ⟨w.heap.size + 1, 2, none⟩ (.int .i64 most)).setCell ⟨w.heap.size + 1, 3, none⟩ (.int .i64 now)).setCell ⟨w.heap.size + 1, 4, none⟩ (.slice A L.length c)) :=
  ⟨put5_blk h.res, ownKept h.row (put5_ext _ _ _ _ _ _ _) (fun x hx hs => ownNeBlk h.row h.res (by decide) x hx hs), h.ext.trans (put5_ext _ _ _ _ _ _ _) (fun x hx => .inr (by have hx : x = w.heap.size + 1 := hx; omega))⟩
/-- What a call gives: a meter with a row of its own. -/
def GvM (r b most now : Int) (L : Kr) (x y : Value) (w : World) (e : Ending) (w' : World) : Prop :=
  ∃ A c, e = .returned (.tuple #[.agg (c5 r b most now A L.length c), x, y]) ∧ RL w.heap.size w' A c L ∧ Ext N0 w w'
theorem rask_bad (r b most now : Int) (A : Option Addr) (n c : Nat) (k : ByteArray) (q : Int) (w : World) (hq : q < 1 ∨ 1073741824 < q) :
    Calls Try.prog 39 #[.agg #[.int .i64 r, .int .i64 b, .int .i64 most, .int .i64 now, .slice A n c], .string k, .int .i64 q] w fun e w' => e = .returned (.tuple #[.agg (c5 r b most now A n c), .int .i64 0, .int .i64 1]) ∧ Ext N0 w w' := by
  go_enter Try.func39, Try.ntmps39
  go_wp2_with (go_at_call 37; refine (within_no _ _ _ _ ?hc).mono ?_; (case hc => omega); rintro e w' ⟨rfl, hw⟩; subst hw)
  refine bodyPost_ret (v := .tuple #[.agg (c5 r b most now A n c), .int .i64 0, .int .i64 1]) (by simp [results, Try.results39, go_sem, c5]) rfl ⟨rfl, ((Ext.refl _ _).alloc _).alloc _⟩
set_option maxRecDepth 100000 in
set_option maxHeartbeats 1000000 in
theorem rask_in (base : Nat) (r b most now : Int) (A : Option Addr) (c : Nat) (L : Kr) (k : ByteArray) (q : Int) (w : World) (h : RL base w A c L) (hl : L.length ≤ 1000) (hq : 1 ≤ q ∧ q ≤ 1073741824) (hf : findK L k < L.length) :
    Calls Try.prog 39 #[.agg #[.int .i64 r, .int .i64 b, .int .i64 most, .int .i64 now, .slice A L.length c], .string k, .int .i64 q] w (GvM r b most now L (.int .i64 (findK L k)) (.int .i64 0) w) := by
  have hE0 : Ext N0 w ((w.alloc (.cells (c5 r b most now A L.length c) 46)).alloc (.cells c0 46)) := ((Ext.refl _ _).alloc _).alloc _
  have HF := Lib.hid (find_calls base r b most now A c L k _ (h.kept0 hE0) hl)
  have HB := Lib.hid (blkAlloc (blkNew w (.cells (c5 r b most now A L.length c) 46)) (.cells c0 46))
  have HS := Lib.hid (blkNewG (w.alloc (.cells (c5 r b most now A L.length c) 46)) (.cells c0 46) (g := w.heap.size + 1) (by simp))
  have HE := Lib.hid hE0
  have HR := Lib.hid h
  have hk := kCells_len L
  have HK := Lib.hid hk
  obtain ⟨f, hff⟩ : ∃ f, findK L k = f := ⟨_, rfl⟩
  rw [hff] at HF hf ⊢
  have hne : ¬ (f : Int) = L.length := by omega
  clear hff h hE0 hk
  unfold GvM
  go_enter Try.func39, Try.ntmps39
  go_wp2_with (first
    | (go_at_call 37; refine (within_yes _ _ _ _ ?hc).mono ?_; (case hc => omega); rintro e w' ⟨rfl, hw⟩; subst hw)
    | (go_at_call 41; refine HF.out.mono ?_; rintro e w2 ⟨rfl, hE2⟩; have e4 := (cells5 (hE2.blk0 HB.out)).1.2.2.2.2; have hsz := Nat.lt_of_lt_of_le (blkLt HS.out) hE2.size; have hsz2 : w.heap.size < w2.heap.size := (by omega); have HX := Lib.hid hE2; clear hE2)
    | (at_builtin; refine wpApp w.heap.size (.tmp 17) (.tmp 19) 44 90 (.agg #[.string ⟨#[]⟩, .int .i64 0]) 2 24 rfl rfl Try.underlying44 info90 rfl (by decide) (by decide) (.slice (some ⟨w2.heap.size, 0, none⟩) 0 0) 0 [] A L.length c (kCells L) rfl rfl (ownLitG w2 w.heap.size 90 2 #[] 0 rfl (by omega) (by decide) rfl) HK.out ((ownReadsN (HR.out.kept0 (HE.out.then0 HX.out)) (by omega)).mono0 ((Ext.refl _ _).alloc _)) (k_one L) (by omega) (by simp; omega) ?_; intro A3 c3 w3 ho3 hE3 _; have hb3 := hE3.blk (blkAlloc (HX.out.blk0 HB.out) (.cells #[] 90)) (fun h => absurd (own_is h) (by omega)); have hr3 := hE3.blk (blkAlloc (HX.out.blk0 HS.out) (.cells #[] 90)) (fun h => absurd (own_is h) (by omega)); have HM := Lib.hid (Md.lay hb3 hr3 (((HE.out.then0 HX.out).alloc _).trans hE3 (fun x hx => .inr (by have := own_is hx; omega))) (by simpa [RL] using ho3)); obtain ⟨⟨e0, e1, e2, e3, _⟩, _, _, _, _, f4⟩ := cells5 hb3; obtain ⟨_, g0, g1, g2, g3, g4⟩ := cells5 hr3; clear hb3 hr3 ho3 hE3))
  obtain ⟨d1, d2, d3⟩ := HM.out.done
  obtain ⟨W5, hW5⟩ : ∃ W5, (((((w3.setCell ⟨w.heap.size, 4, none⟩ (.slice A3 L.length c3)).setCell ⟨w.heap.size + 1, 0, none⟩ (.int .i64 r)).setCell ⟨w.heap.size + 1, 1, none⟩ (.int .i64 b)).setCell ⟨w.heap.size + 1, 2, none⟩ (.int .i64 most)).setCell ⟨w.heap.size + 1, 3, none⟩ (.int .i64 now)).setCell ⟨w.heap.size + 1, 4, none⟩ (.slice A3 L.length c3) = W5 := ⟨_, rfl⟩
  rw [hW5] at d1 d2 d3
  simp only [hW5]
  clear hW5
  obtain ⟨⟨k0, k1, k2, k3, k4⟩, _⟩ := cells5 d1
  refine bodyPost_ret (v := .tuple #[.agg (c5 r b most now A3 L.length c3), .int .i64 f, .int .i64 0]) (by simp [results, Try.results39, go_sem, c5, k0, k1, k2, k3, k4]) rfl ⟨A3, c3, rfl, d2, d3⟩
end Go.Proofs.Ythjeaalnlagpbaa
