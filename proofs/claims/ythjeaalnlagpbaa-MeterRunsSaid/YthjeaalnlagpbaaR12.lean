/- What the walk of the law MeterRuns holds of memory. -/
import Derived.Test.YthjeaalnlagpbaaR10
import Derived.Test.YthjeaalnlagpbaaR11
import Derived.Test.YthjeaalnlagpbaaOps
import Derived.Deep.DeepCutAuto
import Derived.Deep.CutBlock
import Derived.Deep.RegionHeld3
namespace Go.Proofs.Ythjeaalnlagpbaa
open Go.RowKit Go.ChangeShapes Go.WideShapes Go.Maps
namespace meterRuns
/-- The calls that came in: of each its kind, its key, its number. -/
def IsOps (w : World) (A : Option Addr) (len cap : Nat) (D : Nat → Int × ByteArray × Int) : Prop :=
  len ≤ cap ∧ cap ≤ 9223372036854775807 ∧ (0 < len → ∃ a, A = some a ∧ ∀ i, i < len → w.cell? (a.add (i * 3)) = some (.int .u8 (D i).1) ∧ w.cell? ((a.add (i * 3)).add 1) = some (.string (D i).2.1) ∧ w.cell? ((a.add (i * 3)).add 2) = some (.int .i64 (D i).2.2) ∧ (Lit.int .u8 (D i).1).wf = true ∧ (D i).2.1.size ≤ maxLen ∧ (Lit.int .i64 (D i).2.2).wf = true)
theorem openOps {H : Type} {enc : TypeId × Value → H} {W : World} {A : Option Addr} {len cap : Nat} {x : DataW H × List MemPlace} (h : ∃ m, DataW.trod enc Try.prog W 0 (fun _ => true) true m 22 (Value.slice A len cap).cells.toList = some x) : ∃ D, IsOps W A len cap D := by
  obtain ⟨h1, h2, h3⟩ := openRows 3 Try.underlying22 (by kernel_rfl) h
  rcases Nat.eq_zero_or_pos len with h0 | h0
  · exact ⟨fun _ => (0, ByteArray.empty, 0), h1, h2, fun h => absurd h (by omega)⟩
  obtain ⟨a, rfl, h4⟩ := h3 h0
  obtain ⟨D, hD⟩ := Deep.choose_lt (α := Int × ByteArray × Int) (p := fun i y => W.cell? (a.add (i * 3)) = some (.int .u8 y.1) ∧ W.cell? ((a.add (i * 3)).add 1) = some (.string y.2.1) ∧ W.cell? ((a.add (i * 3)).add 2) = some (.int .i64 y.2.2) ∧ (Lit.int .u8 y.1).wf = true ∧ y.2.1.size ≤ maxLen ∧ (Lit.int .i64 y.2.2).wf = true) (n := len) (fun i hi => by
    obtain ⟨cs, m, y, hl, hc, ht⟩ := h4 i hi
    obtain ⟨xs, n, _, _, _, hx, hf⟩ := DataW.trod_struct Try.underlying30 ht
    have t0 : DataW.trod enc Try.prog W 0 (fun _ => true) true n 5 ((cs.drop 0).take (Try.prog.cellsOf 5)) = xs[0]? := hf 0 _ rfl
    have t1 : DataW.trod enc Try.prog W 0 (fun _ => true) true n 9 ((cs.drop 1).take (Try.prog.cellsOf 9)) = xs[1]? := hf 1 _ rfl
    have t2 : DataW.trod enc Try.prog W 0 (fun _ => true) true n 3 ((cs.drop 2).take (Try.prog.cellsOf 3)) = xs[2]? := hf 2 _ rfl
    rw [show Try.prog.cellsOf 5 = 1 from by kernel_rfl] at t0
    rw [show Try.prog.cellsOf 9 = 1 from by kernel_rfl] at t1
    rw [show Try.prog.cellsOf 3 = 1 from by kernel_rfl] at t2
    have hx : xs.length = 3 := hx
    rw [List.getElem?_eq_getElem (by omega)] at t0 t1 t2
    obtain ⟨u0, e0, _, g0⟩ := DataW.trod_int Try.underlying5 t0
    obtain ⟨u1, e1, _, g1⟩ := DataW.trod_string Try.underlying9 t1
    obtain ⟨u2, e2, _, g2⟩ := DataW.trod_int Try.underlying3 t2
    have c0 := fieldCell hl hc 0 (by decide) e0
    have c1 := fieldCell hl hc 1 (by decide) e1
    have c2 := fieldCell hl hc 2 (by decide) e2
    rw [show (a.add (i * 3)).add 0 = a.add (i * 3) from by simp [Addr.add]] at c0
    exact ⟨(u0, u1, u2), c0, c1, c2, g0, g1, g2⟩)
  exact ⟨D, h1, h2, fun _ => ⟨a, rfl, hD⟩⟩
theorem bd8 {n : Int} (h : (Lit.int .u8 n).wf = true) : 0 ≤ n ∧ n ≤ 255 := by
  have hmin : IntKind.u8.min = 0 := rfl
  have hmax : IntKind.u8.max = 255 := rfl
  simp only [Lit.wf, Bool.and_eq_true, decide_eq_true_eq] at h
  omega
theorem blkNe {w : World} {g h : Nat} {cs ds : Array Value} {t u : TypeId} {fr fs : Nat × Nat} (h1 : w.heap[g]? = some (.cells cs t fr)) (h2 : w.heap[h]? = some (.cells ds u fs)) (hn : t ≠ u) : g ≠ h := by
  rintro rfl
  rw [h1] at h2
  injection h2 with h2
  injection h2 with _ ht
  exact hn ht
/-- The code's meter stands at m', the document's at m. -/
structure Al (w0 w : World) (g gb : Nat) (m m' : Mt ByteArray) (A : Option Addr) (c u : Nat) : Prop where
  mt : IsMS w0.heap.size w g m' u
  box : w.heap[gb]? = some (.cells (c5 m.r m.b m.most m.now A m.rows.length c) 46 (0, 0))
  row : RL w0.heap.size w A c m.rows
  ext : Ext N0 w0 w
theorem Al.kept0 {w0 w w' : World} {g gb : Nat} {m m' : Mt ByteArray} {A : Option Addr} {c u : Nat} (h : Al w0 w g gb m m' A c u) (hE : Ext N0 w w') : Al w0 w' g gb m m' A c u :=
  ⟨h.mt.kept0 hE, hE.blk0 h.box, h.row.kept0 hE, h.ext.then0 hE⟩
theorem Al.own {w0 w w' : World} {g gb : Nat} {m m1 m2 : Mt ByteArray} {A : Option Addr} {c u v : Nat} (h : Al w0 w g gb m m1 A c u) (hM : IsMS w0.heap.size w' g m2 v) (hE : Ext (TcS w0.heap.size w) w w') : Al w0 w' g gb m m2 A c v := by
  refine ⟨hM, hE.blk h.box ?_, ownKept h.row hE ?_, h.ext.trans hE (fun k hk => .inr hk.1)⟩
  · rintro ⟨_, ht⟩
    rw [h.box] at ht
    exact absurd ht (by simp [tch])
  · rintro k hk ⟨_, ht⟩
    rcases h.row.2 with ⟨h1, _⟩ | ⟨g', cap, cur, h1, _, hh, _⟩
    · rw [h1] at hk
      simp [Value.ownBlock] at hk
    · rw [h1] at hk
      have e2 : g' = k := by simpa [Value.ownBlock] using hk
      subst e2
      rw [hh] at ht
      exact absurd ht (by simp [tch])
theorem Al.put {w0 w w' : World} {g gb : Nat} {m m1 m2 : Mt ByteArray} {A A2 : Option Addr} {c c2 u : Nat} (h : Al w0 w g gb m m1 A c u) (hg : w0.heap.size ≤ gb) (hE : Ext N0 w w') (hR : RL w0.heap.size w' A2 c2 m2.rows) :
    Al w0 (put5 w' gb (.int .i64 m2.r) (.int .i64 m2.b) (.int .i64 m2.most) (.int .i64 m2.now) (.slice A2 m2.rows.length c2)) g gb m2 m1 A2 c2 u := by
  have hk := h.kept0 hE
  have hx := put5_ext w' gb (.int .i64 m2.r) (.int .i64 m2.b) (.int .i64 m2.most) (.int .i64 m2.now) (.slice A2 m2.rows.length c2)
  refine ⟨hk.mt.kept hx ?_, put5_blk hk.box, ownKept hR hx (fun x hx hs => ownNeBlk hR hk.box (by decide) x hx hs), hk.ext.trans hx (fun x hx => .inr (by have hx : x = gb := hx; omega))⟩
  rintro k rfl ht
  rw [hk.box] at ht
  exact absurd ht (by simp [tch])
theorem op_own {w0 w w' : World} {b : Nat} {cs : Array Value} {fr : Nat × Nat} (h : w.heap[b]? = some (.cells cs 30 fr)) (hE : Ext (TcS w0.heap.size w) w w') : w'.heap[b]? = some (.cells cs 30 fr) := by
  refine hE.blk h ?_
  rintro ⟨_, ht⟩
  rw [h] at ht
  exact absurd ht (by simp [tch])
theorem cells3 {w : World} {g : Nat} {a b c : Value} (h : w.heap[g]? = some (.cells #[a, b, c] 30 (0, 0))) : w.cell? ⟨g, 0, none⟩ = some a ∧ w.cell? ⟨g, 1, none⟩ = some b ∧ w.cell? ⟨g, 2, none⟩ = some c :=
  ⟨(blkCell h 0).trans rfl, (blkCell h 1).trans rfl, (blkCell h 2).trans rfl⟩
def mt0 (a0 a1 a2 : Int) : Mt ByteArray := ⟨a0, a1, a2, 0, [], fun _ => (0, 0)⟩
theorem cutH (A : Option Addr) (n c v : Nat) (hA : A = none ∨ ∃ g, A = some ⟨g, 0, none⟩) (hv : v ≤ c) :
    ∃ A', (∀ W : World, (Instr.slice 44 (.slice A n c) none (some (.int .i64 (v : Int))) none).run Try.prog W = .ok (.slice A' v c) W) ∧ ∀ (L : Kr) (W : World), RC W A L → RC W A' L := by
  obtain ⟨i0, hi, hzz⟩ := Option.map_eq_some_iff.1 info90
  simp only [Prod.mk.injEq] at hzz
  obtain ⟨_, hsz, _⟩ := hzz
  have hel : Try.prog.elem 44 = 90 := by simp [Program.elem, Try.underlying44]
  have hu : Try.prog.underlying 44 = some (.slice (Try.prog.elem 44)) := by rw [hel]; exact Try.underlying44
  refine ⟨if c = 0 then A else A.map (·.add (0 * 2)), fun W => ?_, fun L W h => ?_⟩
  · rw [run_slice_h W 44 A n c hu .i64 v (by omega) (by omega), hel]
    simp [sizeOf, typeInfo, hi, hsz, sliced, Result.andThen]
  · split
    · exact h
    · rcases hA with rfl | ⟨g, rfl⟩
      · exact h
      · exact h
end meterRuns
end Go.Proofs.Ythjeaalnlagpbaa
