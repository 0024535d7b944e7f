/- The law's row of notes, both gauges' state, and what both tell of a key (the conditions stand in the statements). -/
import Derived.Test.YtcngefpdfkkgdaaS2
import Derived.Test.YtcngefpdfkkgdaaS9
import Derived.Test.YtcngefpdfkkgdaaOps
import Derived.Test.YtcngefpdfkkgdaaAw
namespace Go.Proofs.Ytcngefpdfkkgdaa
open Go.RowKit Go.ChangeShapes Go.WideShapes Go.Maps
namespace gaugeRuns
/-- The notes that came in: of each its key, its number. -/
def IsOps (w : World) (A : Option Addr) (len cap : Nat) (D : Nat → ByteArray × Int) : Prop :=
  len ≤ cap ∧ cap ≤ 9223372036854775807 ∧ (0 < len → ∃ a, A = some a ∧ ∀ i, i < len → w.cell? (a.add (i * 2)) = some (.string (D i).1) ∧ w.cell? ((a.add (i * 2)).add 1) = some (.int .i64 (D i).2) ∧ (D i).1.size ≤ maxLen)
theorem openOps {H : Type} {enc : TypeId × Value → H} {W : World} {A : Option Addr} {len cap : Nat} {x : DataW H × List MemPlace} (h : ∃ m, DataW.trod enc Try.prog W 0 (fun _ => true) true m 23 (Value.slice A len cap).cells.toList = some x) : ∃ D, IsOps W A len cap D := by
  obtain ⟨h1, h2, h3⟩ := openRows 2 Try.underlying23 (by kernel_rfl) h
  rcases Nat.eq_zero_or_pos len with h0 | h0
  · exact ⟨fun _ => (ByteArray.empty, 0), h1, h2, fun h => absurd h (by omega)⟩
  obtain ⟨a, rfl, h4⟩ := h3 h0
  obtain ⟨D, hD⟩ := Deep.choose_lt (α := ByteArray × Int) (p := fun i y => W.cell? (a.add (i * 2)) = some (.string y.1) ∧ W.cell? ((a.add (i * 2)).add 1) = some (.int .i64 y.2) ∧ y.1.size ≤ maxLen) (n := len) (fun i hi => by
    obtain ⟨cs, m, y, hl, hc, ht⟩ := h4 i hi
    obtain ⟨xs, n, _, _, _, hx, hf⟩ := DataW.trod_struct Try.underlying35 ht
    have t0 : DataW.trod enc Try.prog W 0 (fun _ => true) true n 9 ((cs.drop 0).take (Try.prog.cellsOf 9)) = xs[0]? := hf 0 _ rfl
    have t1 : DataW.trod enc Try.prog W 0 (fun _ => true) true n 3 ((cs.drop 1).take (Try.prog.cellsOf 3)) = xs[1]? := hf 1 _ rfl
    rw [show Try.prog.cellsOf 9 = 1 from by kernel_rfl] at t0
    rw [show Try.prog.cellsOf 3 = 1 from by kernel_rfl] at t1
    have hx : xs.length = 2 := hx
    rw [List.getElem?_eq_getElem (by omega)] at t0 t1
    obtain ⟨u0, e0, _, g0⟩ := DataW.trod_string Try.underlying9 t0
    obtain ⟨u1, e1, _, g1⟩ := DataW.trod_int Try.underlying3 t1
    have c0 := fieldCell hl hc 0 (by decide) e0
    have c1 := fieldCell hl hc 1 (by decide) e1
    rw [show (a.add (i * 2)).add 0 = a.add (i * 2) from by simp [Addr.add]] at c0
    exact ⟨(u0, u1), c0, c1, g0⟩)
  exact ⟨D, h1, h2, fun _ => ⟨a, rfl, hD⟩⟩
/-- The code's gauge (block g) stands at G, the document's (block x) at R. -/
structure Al (w0 w : World) (g x : Nat) (bs : List Int) (G : Ga ByteArray) (R : List Rk) (A0 : Option Addr) (c0 : Nat) (A1 : Option Addr) (c1 u : Nat) : Prop where
  ga : ∃ F, IsGS w0.heap.size w g G u F ∧ ∀ y, F y → w0.heap.size ≤ y ∧ y ≠ x ∧ ¬ RB A0 c0 A1 c1 bs R y
  box : w.heap[x]? = some (.cells (rG A0 bs.length c0 A1 R.length c1) 30 (0, 0))
  row : RS w0.heap.size w A0 c0 A1 c1 bs R
  nx : ¬ RB A0 c0 A1 c1 bs R x
  hx : w0.heap.size ≤ x
  ext : Ext N0 w0 w
section
variable {w0 w w' : World} {g x c0 c1 u : Nat} {bs : List Int} {G G' : Ga ByteArray} {R R' : List Rk} {A0 A1 : Option Addr}
theorem Al.kept0 (h : Al w0 w g x bs G R A0 c0 A1 c1 u) (hE : Ext N0 w w') : Al w0 w' g x bs G R A0 c0 A1 c1 u := by
  obtain ⟨F, h1, h2⟩ := h.ga
  exact ⟨⟨F, h1.kept0 hE, h2⟩, hE.blk0 h.box, h.row.kept0 hE, h.nx, h.hx, h.ext.then0 hE⟩
theorem Al.le (h : Al w0 w g x bs G R A0 c0 A1 c1 u) : w0.heap.size ≤ w.heap.size := h.ext.size
/-- The document's gauge was noted in, and put into its box. -/
theorem Al.put (h : Al w0 w g x bs G R A0 c0 A1 c1 u) (hE : Ext N0 w w') {A1' : Option Addr} {c1' : Nat} (hR : RS w0.heap.size w' A0 c0 A1' c1' bs R') (hB : ∀ y, RB A0 c0 A1' c1' bs R' y → RB A0 c0 A1 c1 bs R y ∨ w.heap.size ≤ y) :
    Al w0 ((w'.setCell ⟨x, 0, none⟩ (.slice A0 bs.length c0)).setCell ⟨x, 1, none⟩ (.slice A1' R'.length c1')) g x bs G R' A0 c0 A1' c1' u := by
  have hk := h.kept0 hE
  have hX : Ext (At x) w' ((w'.setCell ⟨x, 0, none⟩ (.slice A0 bs.length c0)).setCell ⟨x, 1, none⟩ (.slice A1' R'.length c1')) := (extSet _ x 0 _).setCell (p := ⟨x, 1, none⟩) (.inl rfl) _
  have hxl := blkLt h.box
  have hnx : ¬ RB A0 c0 A1' c1' bs R' x := fun hy => (hB x hy).elim h.nx (fun hy => by omega)
  obtain ⟨F, h1, h2⟩ := h.ga
  refine ⟨⟨_, (h1.small.kept0 hE).kept hX (fun y hy hs => (h2 y hy.1).2.1 hs), fun y hy => ⟨(h2 y hy.1).1, (h2 y hy.1).2.1, fun hr => (hB y hr).elim (h2 y hy.1).2.2 (fun hz => by have := hy.2; omega)⟩⟩, ?_, hR.kept hX (fun y hy hs => hnx (by rw [show x = y from hs.symm]; exact hy)), hnx, h.hx, ?_⟩
  · have e1 := blkSet hk.box 0 (.slice A0 bs.length c0)
    have e2 := blkSet e1 1 (.slice A1' R'.length c1')
    exact e2
  · exact hk.ext.trans hX (fun y hy => .inr (by rw [show y = x from hy]; exact h.hx))
/-- The code's gauge was noted in. -/
theorem Al.noted (h : Al w0 w g x bs G R A0 c0 A1 c1 u) {v : Nat} (hG : ∃ F : Nat → Prop, (IsGS w0.heap.size w' g G' v (fun y => F y ∨ w.heap.size ≤ y) ∧ Ext (fun y => F y ∨ w.heap.size ≤ y) w w') ∧ ∀ y, F y → w0.heap.size ≤ y ∧ y ≠ x ∧ ¬ RB A0 c0 A1 c1 bs R y) : Al w0 w' g x bs G' R A0 c0 A1 c1 v := by
  obtain ⟨F, ⟨h1, hE⟩, h2⟩ := hG
  have hle := h.le
  have hxl := blkLt h.box
  have h3 : ∀ y, F y ∨ w.heap.size ≤ y → w0.heap.size ≤ y ∧ y ≠ x ∧ ¬ RB A0 c0 A1 c1 bs R y := by
    rintro y (hy | hy)
    · exact h2 y hy
    · exact ⟨by omega, by omega, fun hr => by have := (h.row.lt y hr).2; omega⟩
  exact ⟨⟨_, h1, h3⟩, hE.blk h.box (fun hy => (h3 x hy).2.1 rfl), h.row.kept hE (fun y hy hs => (h3 y hs).2.2 hy), h.nx, h.hx, h.ext.trans hE (fun y hy => .inr (h3 y hy).1)⟩
end
/-- A note in both, in the state's words. -/
theorem note_al (w0 : World) (g x N : Nat) (G : Ga ByteArray) (k : ByteArray) (n : Int) (bs : List Int) (R : List Rk) (hok : G.Ok N) (hN : N ≤ 100) (hrel : Rel G bs R) (hkey : keyOf Try.prog 9 (.string k) = some (.string k.data.toList)) :
    ∃ er G', G'.Ok (N + 1) ∧ G'.bs = bs ∧
    (∀ (c0 c1 u : Nat) (A0 A1 : Option Addr) (w : World), Al w0 w g x bs G R A0 c0 A1 c1 u → Calls Try.prog 9 #[.agg (rG A0 bs.length c0 A1 R.length c1), .string k, .int .i64 n] w (NoteR w0.heap.size A0 c0 A1 c1 bs R er G' w)) ∧
    (∀ (c0 c1 u : Nat) (A0 A1 : Option Addr) (R' : List Rk) (w : World), Al w0 w g x bs G R' A0 c0 A1 c1 u → u ≤ 100000 → Calls Try.prog 10 #[.pointer (some ⟨g, 0, none⟩), .string k, .int .i64 n] w fun e w' => e = .returned (.int .i64 er) ∧ Al w0 w' g x bs G' R' A0 c0 A1 c1 (u + 1)) := by
  obtain ⟨er, G', h1, h2, h3, h4⟩ := note_both w0.heap.size g N G k n bs R hok hN hrel hkey
  refine ⟨er, G', h1, h2, fun c0 c1 u A0 A1 w h => h3 c0 c1 A0 A1 w h.row h.le, fun c0 c1 u A0 A1 R' w h hu => ?_⟩
  obtain ⟨F, hF1, hF2⟩ := h.ga
  refine (h4 u (fun y => F y ∨ w.heap.size ≤ y) w (hF1.weak (fun y hy => .inl hy)) (fun y hy => .inr hy) hu h.le).mono ?_
  rintro e w' ⟨rfl, hG, hE⟩
  exact ⟨rfl, h.noted ⟨F, ⟨hG, hE⟩, hF2⟩⟩
/-- What both tell of a key. -/
structure Told (w0 : World) (g x : Nat) (bs : List Int) (G : Ga ByteArray) (R : List Rk) (k : ByteArray) (t : Int) (L : List Int) (cs : List Int) (v : Int) : Prop where
  tot : ∀ (c0 c1 u : Nat) (A0 A1 : Option Addr) (w : World), Al w0 w g x bs G R A0 c0 A1 c1 u → Calls Try.prog 11 #[.agg (rG A0 bs.length c0 A1 R.length c1), .string k] w fun e w' => e = .returned (.tuple #[.int .i64 (mostL L), .int .i64 L.sum, .int .i64 L.length]) ∧ Ext N0 w w'
  c13 : ∀ (c0 c1 u : Nat) (A0 A1 : Option Addr) (w : World), Al w0 w g x bs G R A0 c0 A1 c1 u → Calls Try.prog 13 #[.pointer (some ⟨g, 0, none⟩), .string k] w fun e w' => ∃ A c, e = .returned (.slice A cs.length c) ∧ Reads w' A (iv cs) ∧ Ext N0 w w'
  c14 : ∀ (c0 c1 u : Nat) (A0 A1 : Option Addr) (w : World), Al w0 w g x bs G R A0 c0 A1 c1 u → Calls Try.prog 14 #[.agg (rG A0 bs.length c0 A1 R.length c1), .string k] w fun e w' => ∃ A c, e = .returned (.slice A cs.length c) ∧ Reads w' A (iv cs) ∧ Ext N0 w w'
  c15 : ∀ (c0 c1 u : Nat) (A0 A1 : Option Addr) (w : World), Al w0 w g x bs G R A0 c0 A1 c1 u → Calls Try.prog 15 #[.pointer (some ⟨g, 0, none⟩), .string k] w fun e w' => e = .returned (.int .i64 (mostL L)) ∧ Ext N0 w w'
  c16 : ∀ (c0 c1 u : Nat) (A0 A1 : Option Addr) (w : World), Al w0 w g x bs G R A0 c0 A1 c1 u → Calls Try.prog 16 #[.pointer (some ⟨g, 0, none⟩), .string k] w fun e w' => e = .returned (.int .i64 L.sum) ∧ Ext N0 w w'
  c17 : ∀ (c0 c1 u : Nat) (A0 A1 : Option Addr) (w : World), Al w0 w g x bs G R A0 c0 A1 c1 u → Calls Try.prog 17 #[.pointer (some ⟨g, 0, none⟩), .string k] w fun e w' => e = .returned (.int .i64 L.length) ∧ Ext N0 w w'
  c18 : ∀ (c0 c1 u : Nat) (A0 A1 : Option Addr) (w : World), Al w0 w g x bs G R A0 c0 A1 c1 u → Calls Try.prog 18 #[.pointer (some ⟨g, 0, none⟩), .string k, .int .i64 t] w fun e w' => e = .returned (.int .i64 v) ∧ Ext N0 w w'
  c19 : ∀ (c0 c1 u : Nat) (A0 A1 : Option Addr) (w : World), Al w0 w g x bs G R A0 c0 A1 c1 u → Calls Try.prog 19 #[.agg (rG A0 bs.length c0 A1 R.length c1), .string k, .int .i64 t] w fun e w' => e = .returned (.int .i64 v) ∧ Ext N0 w w'
theorem told (w0 : World) (g x N : Nat) (bs : List Int) (G : Ga ByteArray) (R : List Rk) (k : ByteArray) (t : Int) (hok : G.Ok N) (hN : N ≤ 100) (hrel : Rel G bs R) (hkey : keyOf Try.prog 9 (.string k) = some (.string k.data.toList)) :
    ∃ L cs v, Told w0 g x bs G R k t L cs v := by
  have hbs := hrel.bs
  have hRl : R.length ≤ 1000 := by rw [hrel.len]; have := hok.kl; omega
  have hbl : bs.length ≤ 64 := by rw [← hbs]; exact hok.bl.2
  have hsrt : Srt bs := by rw [← hbs]; exact mayF_srt _ _ hok.may
  have hpos : ∀ y ∈ bs, 0 ≤ y := fun y hy => by have := (mayF_all _ _ hok.may y (by rw [hbs]; exact hy)).1; omega
  by_cases hk : k ∈ G.ks
  · obtain ⟨i, p, hp, hpk, hpl, hne⟩ := hrel.find hok hk
    have hL1 : (G.f k).length ≤ 1000 := by have := hok.lens k; omega
    have hcb := cnt_bdS hok (by omega) k
    rw [hbs] at hcb
    by_cases hL0 : 1 ≤ p.l.length
    · have h37 : ∀ (c0 c1 u : Nat) (A0 A1 : Option Addr) (w : World), Al w0 w g x bs G R A0 c0 A1 c1 u → ∀ W, Ext N0 w W → Calls Try.prog 37 #[.agg (rG A0 bs.length c0 A1 R.length c1), .string k] W fun e w' => e = .returned (.tuple #[.slice p.A p.l.length p.c, .int .i64 i]) ∧ Ext N0 W w' := fun c0 c1 u A0 A1 w h W hW => rof_in w0.heap.size c0 c1 bs.length A0 A1 bs R k i p W (h.row.kept0 hW) hRl hp hpk (fun j q hj hq => hne j q (by omega) hq)
      have h14 : ∀ (c0 c1 u : Nat) (A0 A1 : Option Addr) (w : World), Al w0 w g x bs G R A0 c0 A1 c1 u → Calls Try.prog 14 #[.agg (rG A0 bs.length c0 A1 R.length c1), .string k] w fun e w' => ∃ A c, e = .returned (.slice A (cnt bs (G.f k)).length c) ∧ Reads w' A (iv (cnt bs (G.f k))) ∧ Ext N0 w w' := fun c0 c1 u A0 A1 w h => by
        have := rcounts_calls A0 A1 p.A c0 R.length c1 p.c i bs p.l k w (h37 c0 c1 u A0 A1 w h) (ownReads1 h.row.b) hbl hsrt (ownReads1 (h.row.e p (List.mem_of_getElem? hp))) hL0 (by rw [hpl]; exact hL1)
        rw [cnt_len, ← hpl]
        exact this
      refine ⟨G.f k, cnt bs (G.f k), abvS bs (cnt bs (G.f k)) t (bs.length + 1), ⟨fun c0 c1 u A0 A1 w h => ?_, fun c0 c1 u A0 A1 w h => ?_, h14, fun c0 c1 u A0 A1 w h => ?_, fun c0 c1 u A0 A1 w h => ?_, fun c0 c1 u A0 A1 w h => ?_, fun c0 c1 u A0 A1 w h => ?_, fun c0 c1 u A0 A1 w h => ?_⟩⟩
      · have := rtot_calls A0 A1 p.A bs.length c0 R.length c1 p.c i p.l k w (h37 c0 c1 u A0 A1 w h) (ownReads1 (h.row.e p (List.mem_of_getElem? hp))) (by rw [hpl]; exact hok.vals k) (by rw [hpl]; exact hL1)
        rw [hpl] at this
        exact this
      · obtain ⟨F, hF, _⟩ := h.ga
        refine (counts_inS _ g u G k F w hF hok.bl.2 hkey hk).mono ?_
        rintro e w' ⟨A, c, rfl, ho, hE⟩
        rw [hbs] at ho ⊢
        exact ⟨A, c, by rw [cnt_len], ownReads1 ho, hE⟩
      · obtain ⟨F, hF, _⟩ := h.ga
        exact most_inS _ g u G k F w hF hkey hk
      · obtain ⟨F, hF, _⟩ := h.ga
        exact sum_inS _ g u G k F w hF hkey hk
      · obtain ⟨F, hF, _⟩ := h.ga
        exact noted_inS _ g u G k F w hF hkey hk
      · obtain ⟨F, hF, _⟩ := h.ga
        have := above_inS _ g u N G k t F w hF hok (by omega) hkey hk
        rw [hbs] at this
        exact this
      · have := rabove_calls A0 A1 c0 R.length c1 bs (cnt bs (G.f k)) t k w (fun W hW => h14 c0 c1 u A0 A1 W (h.kept0 hW)) (ownReads1 h.row.b) hbl hpos (by rw [cnt_len]; omega) hcb
        rw [cnt_len] at this
        exact this
    · exact absurd (by rw [hpl]; exact hrel.ne k hk) hL0
  · have hne := hrel.out hk
    have hf := hok.out k hk
    have h37 : ∀ (c0 c1 u : Nat) (A0 A1 : Option Addr) (w : World), Al w0 w g x bs G R A0 c0 A1 c1 u → ∀ W, Ext N0 w W → Calls Try.prog 37 #[.agg (rG A0 bs.length c0 A1 R.length c1), .string k] W fun e w' => e = .returned (.tuple #[.slice none 0 0, .int .i64 R.length]) ∧ Ext N0 W w' := fun c0 c1 u A0 A1 w h W hW => rof_out w0.heap.size c0 c1 bs.length A0 A1 bs R k W (h.row.kept0 hW) hRl hne
    have h14 : ∀ (c0 c1 u : Nat) (A0 A1 : Option Addr) (w : World), Al w0 w g x bs G R A0 c0 A1 c1 u → Calls Try.prog 14 #[.agg (rG A0 bs.length c0 A1 R.length c1), .string k] w fun e w' => ∃ A c, e = .returned (.slice A ([] : List Int).length c) ∧ Reads w' A (iv []) ∧ Ext N0 w w' := fun c0 c1 u A0 A1 w h => by
      refine (rcounts_nil A0 A1 none bs.length c0 R.length c1 0 R.length k w (h37 c0 c1 u A0 A1 w h)).mono ?_
      rintro e w' ⟨rfl, hE⟩
      exact ⟨none, 0, rfl, Reads.nil _ _, hE⟩
    refine ⟨[], [], 0, ⟨fun c0 c1 u A0 A1 w h => ?_, fun c0 c1 u A0 A1 w h => ?_, h14, fun c0 c1 u A0 A1 w h => ?_, fun c0 c1 u A0 A1 w h => ?_, fun c0 c1 u A0 A1 w h => ?_, fun c0 c1 u A0 A1 w h => ?_, fun c0 c1 u A0 A1 w h => ?_⟩⟩
    · exact rtot_calls A0 A1 none bs.length c0 R.length c1 0 R.length [] k w (h37 c0 c1 u A0 A1 w h) (Reads.nil _ _) (by simp) (by simp)
    · obtain ⟨F, hF, _⟩ := h.ga
      refine (counts_outS _ g u G k F w hF hkey hk).mono ?_
      rintro e w' ⟨A, c, rfl, hE⟩
      exact ⟨A, c, rfl, Reads.nil _ _, hE⟩
    · obtain ⟨F, hF, _⟩ := h.ga
      exact most_outS _ g u G k F w hF hkey hk
    · obtain ⟨F, hF, _⟩ := h.ga
      exact sum_outS _ g u G k F w hF hkey hk
    · obtain ⟨F, hF, _⟩ := h.ga
      exact noted_outS _ g u G k F w hF hkey hk
    · obtain ⟨F, hF, _⟩ := h.ga
      exact above_outS _ g u G k t F w hF hkey hk
    · exact rabove_calls A0 A1 c0 R.length c1 bs [] t k w (fun W hW => h14 c0 c1 u A0 A1 W (h.kept0 hW)) (ownReads1 h.row.b) hbl hpos (by simp) (by simp)
end gaugeRuns
end Go.Proofs.Ytcngefpdfkkgdaa
