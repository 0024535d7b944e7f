/- The calls that came in (the conditions stand in the statements). -/
import Derived.Test.YtjnfapkjmgilcaaB9
import Derived.Test.YtjnfapkjmgilcaaOps
namespace Go.Proofs.Ytjnfapkjmgilcaa
open Go.RowKit Go.ChangeShapes Go.WideShapes
/-- A call that came in. -/
structure OpV where
  kind : Int
  leaf : Int
  spine : Int
  a : Int
  b : Int
  key : Int
instance : Inhabited OpV := ⟨⟨0, 0, 0, 0, 0, 0⟩⟩
/-- .. in memory, row by row. -/
def IsOps (w : World) (A : Option Addr) (len cap : Nat) (D : Nat → OpV) : Prop :=
  len ≤ cap ∧ cap ≤ 9223372036854775807 ∧ (0 < len → ∃ a, A = some a ∧ ∀ i, i < len → (w.cell? (a.add (i * 6)) = some (.int .u8 (D i).kind) ∧ w.cell? ((a.add (i * 6)).add 1) = some (.int .i64 (D i).leaf) ∧ w.cell? ((a.add (i * 6)).add 2) = some (.int .i64 (D i).spine) ∧ w.cell? ((a.add (i * 6)).add 3) = some (.int .i64 (D i).a) ∧ w.cell? ((a.add (i * 6)).add 4) = some (.int .i64 (D i).b) ∧ w.cell? ((a.add (i * 6)).add 5) = some (.int .u64 (D i).key)) ∧
    (Lit.int .u8 (D i).kind).wf = true ∧ (Lit.int .i64 (D i).leaf).wf = true ∧ (Lit.int .i64 (D i).spine).wf = true ∧ (Lit.int .i64 (D i).a).wf = true ∧ (Lit.int .i64 (D i).b).wf = true ∧ (Lit.int .u64 (D i).key).wf = true)
theorem openOps {H : Type} {enc : TypeId × Value → H} {W : World} {A : Option Addr} {len cap : Nat} {x : DataW H × List MemPlace} (h : ∃ m, DataW.trod enc Try.prog W 0 (fun _ => true) true m 22 (Value.slice A len cap).cells.toList = some x) : ∃ D, IsOps W A len cap D := by
  obtain ⟨h1, h2, h3⟩ := openRows 6 Try.underlying22 (by kernel_rfl) h
  rcases Nat.eq_zero_or_pos len with h0 | h0
  · exact ⟨fun _ => ⟨0, 0, 0, 0, 0, 0⟩, h1, h2, fun h => absurd h (by omega)⟩
  obtain ⟨a, rfl, h4⟩ := h3 h0
  obtain ⟨D, hD⟩ := Deep.choose_lt (α := OpV) (p := fun i y => (W.cell? (a.add (i * 6)) = some (.int .u8 y.kind) ∧ W.cell? ((a.add (i * 6)).add 1) = some (.int .i64 y.leaf) ∧ W.cell? ((a.add (i * 6)).add 2) = some (.int .i64 y.spine) ∧ W.cell? ((a.add (i * 6)).add 3) = some (.int .i64 y.a) ∧ W.cell? ((a.add (i * 6)).add 4) = some (.int .i64 y.b) ∧ W.cell? ((a.add (i * 6)).add 5) = some (.int .u64 y.key)) ∧ (Lit.int .u8 y.kind).wf = true ∧ (Lit.int .i64 y.leaf).wf = true ∧ (Lit.int .i64 y.spine).wf = true ∧ (Lit.int .i64 y.a).wf = true ∧ (Lit.int .i64 y.b).wf = true ∧ (Lit.int .u64 y.key).wf = true) (n := len) (fun i hi => by
    obtain ⟨cs, m, y, hl, hc, ht⟩ := h4 i hi
    obtain ⟨xs, n, _, _, _, hx, hf⟩ := DataW.trod_struct Try.underlying35 ht
    have t0 : DataW.trod enc Try.prog W 0 (fun _ => true) true n 5 ((cs.drop 0).take (Try.prog.cellsOf 5)) = xs[0]? := hf 0 _ rfl
    have t1 : DataW.trod enc Try.prog W 0 (fun _ => true) true n 3 ((cs.drop 1).take (Try.prog.cellsOf 3)) = xs[1]? := hf 1 _ rfl
    have t2 : DataW.trod enc Try.prog W 0 (fun _ => true) true n 3 ((cs.drop 2).take (Try.prog.cellsOf 3)) = xs[2]? := hf 2 _ rfl
    have t3 : DataW.trod enc Try.prog W 0 (fun _ => true) true n 3 ((cs.drop 3).take (Try.prog.cellsOf 3)) = xs[3]? := hf 3 _ rfl
    have t4 : DataW.trod enc Try.prog W 0 (fun _ => true) true n 3 ((cs.drop 4).take (Try.prog.cellsOf 3)) = xs[4]? := hf 4 _ rfl
    have t5 : DataW.trod enc Try.prog W 0 (fun _ => true) true n 33 ((cs.drop 5).take (Try.prog.cellsOf 33)) = xs[5]? := hf 5 _ rfl
    rw [show Try.prog.cellsOf 5 = 1 from by kernel_rfl] at t0
    rw [show Try.prog.cellsOf 3 = 1 from by kernel_rfl] at t1 t2 t3 t4
    rw [show Try.prog.cellsOf 33 = 1 from by kernel_rfl] at t5
    have hx : xs.length = 6 := hx
    rw [List.getElem?_eq_getElem (by omega)] at t0 t1 t2 t3 t4 t5
    obtain ⟨u0, e0, _, g0⟩ := DataW.trod_int Try.underlying5 t0
    obtain ⟨u1, e1, _, g1⟩ := DataW.trod_int Try.underlying3 t1
    obtain ⟨u2, e2, _, g2⟩ := DataW.trod_int Try.underlying3 t2
    obtain ⟨u3, e3, _, g3⟩ := DataW.trod_int Try.underlying3 t3
    obtain ⟨u4, e4, _, g4⟩ := DataW.trod_int Try.underlying3 t4
    obtain ⟨u5, e5, _, g5⟩ := DataW.trod_int Try.underlying33 t5
    have c0 := fieldCell hl hc 0 (by decide) e0
    have c1 := fieldCell hl hc 1 (by decide) e1
    have c2 := fieldCell hl hc 2 (by decide) e2
    have c3 := fieldCell hl hc 3 (by decide) e3
    have c4 := fieldCell hl hc 4 (by decide) e4
    have c5 := fieldCell hl hc 5 (by decide) e5
    rw [show (a.add (i * 6)).add 0 = a.add (i * 6) from by simp [Addr.add]] at c0
    exact ⟨⟨u0, u1, u2, u3, u4, u5⟩, ⟨c0, c1, c2, c3, c4, c5⟩, g0, g1, g2, g3, g4, g5⟩)
  exact ⟨D, h1, h2, fun _ => ⟨a, rfl, hD⟩⟩
theorem bd8 {n : Int} (h : (Lit.int .u8 n).wf = true) : 0 ≤ n ∧ n ≤ 255 := by
  have hmin : IntKind.u8.min = 0 := rfl
  have hmax : IntKind.u8.max = 255 := rfl
  simp only [Lit.wf, Bool.and_eq_true, decide_eq_true_eq] at h
  omega
theorem bd64 {n : Int} (h : (Lit.int .u64 n).wf = true) : 0 ≤ n ∧ n ≤ 18446744073709551615 := by
  have hmin : IntKind.u64.min = 0 := rfl
  have hmax : IntKind.u64.max = 18446744073709551615 := rfl
  simp only [Lit.wf, Bool.and_eq_true, decide_eq_true_eq] at h
  omega
end Go.Proofs.Ytjnfapkjmgilcaa
