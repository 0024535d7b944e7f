/- How paths did, by definition, and what of memory is a score. -/
import Derived.Test.YtkkcdijnhegneaaProg
import Derived.Test.YtkkcdijnhegneaaRf
import Derived.WalkSpells
import Derived.Outline
import Derived.BigRegion
import Derived.BigQuiet
import Derived.Deep.RegionHeld3
namespace Go.Proofs.Ytkkcdijnhegneaa
open Go.RowKit
/-- A path: acks, nacks, bounces, how long it rests. -/
structure Pa where
  a : Int
  n : Int
  b : Int
  r : Int
structure Sc where
  ps : List Pa
  rest : Int
def pCells (p : Pa) : List Value := [.int .i64 p.a, .int .i64 p.n, .int .i64 p.b, .int .i64 p.r]
def paCells (ps : List Pa) : List Value := ps.flatMap pCells
theorem paCells_len (ps : List Pa) : (paCells ps).length = ps.length * 4 := by
  induction ps with
  | nil => rfl
  | cons p ps ih => simp [paCells, pCells] at *; omega
theorem pa_get : ∀ (ps : List Pa) (k : Nat) (p : Pa), ps[k]? = some p →
    (paCells ps)[k * 4]? = some (.int .i64 p.a) ∧ (paCells ps)[k * 4 + 1]? = some (.int .i64 p.n) ∧ (paCells ps)[k * 4 + 2]? = some (.int .i64 p.b) ∧ (paCells ps)[k * 4 + 3]? = some (.int .i64 p.r) := by
  intro ps
  induction ps with
  | nil => intro k p h; simp at h
  | cons q ps ih =>
    intro k p h
    have e : paCells (q :: ps) = pCells q ++ paCells ps := by simp [paCells]
    rw [e]
    cases k with
    | zero =>
      simp at h
      subst h
      simp [pCells]
    | succ k =>
      have := ih k p (by simpa using h)
      have hs : ∀ j, (pCells q ++ paCells ps)[(k + 1) * 4 + j]? = (paCells ps)[k * 4 + j]? := by
        intro j
        rw [List.getElem?_append_right (by simp [pCells]; omega)]
        congr 1
        simp [pCells]
        omega
      have h0 := hs 0
      simp only [Nat.add_zero] at h0
      rw [h0, hs 1, hs 2, hs 3]
      exact this
theorem pa_set (v : Value) (j : Nat) (hj : j < 4) (p' : Pa) : ∀ (ps : List Pa) (k : Nat) (p : Pa), ps[k]? = some p → (pCells p).set j v = pCells p' → (paCells ps).set (k * 4 + j) v = paCells (ps.set k p') := by
  intro ps
  induction ps with
  | nil => intro k p h; simp at h
  | cons q ps ih =>
    intro k p h hp
    have e : ∀ q ps, paCells (q :: ps) = pCells q ++ paCells ps := fun q ps => by simp [paCells]
    rw [e]
    cases k with
    | zero =>
      simp at h
      subst h
      rw [List.set_append_left _ _ (by simp [pCells]; omega), List.set_cons_zero, e, ← hp]
      simp
    | succ k =>
      rw [List.set_append_right _ _ (by simp [pCells]; omega), List.set_cons_succ, e, ← ih k p (by simpa using h) hp]
      congr 2
      simp [pCells]
      omega
/-- What is counted. -/
def Pa.inc (p : Pa) (what : Nat) : Pa := if what = 0 then { p with a := p.a + 1 } else if what = 1 then { p with n := p.n + 1 } else { p with b := p.b + 1 }
def Pa.bad (p : Pa) : Prop := p.a + 4 < p.n + 2 * p.b
instance (p : Pa) : Decidable p.bad := inferInstanceAs (Decidable (_ < _))
def Sc.act (s : Sc) : List Nat := (List.range s.ps.length).filter fun k => decide ((s.ps[k]?.map Pa.r) = some 0)
/-- All is within bounds. -/
structure Sc.Ok (s : Sc) (u : Int) : Prop where
  len : 1 ≤ s.ps.length ∧ s.ps.length ≤ 8
  rest : 0 ≤ s.rest ∧ s.rest ≤ 1048576
  num : ∀ p, p ∈ s.ps → (0 ≤ p.a ∧ p.a ≤ u) ∧ (0 ≤ p.n ∧ p.n ≤ u) ∧ (0 ≤ p.b ∧ p.b ≤ u) ∧ 0 ≤ p.r ∧ p.r ≤ s.rest
theorem Sc.Ok.more {s : Sc} {u v : Int} (h : s.Ok u) (hv : u ≤ v) : s.Ok v := ⟨h.len, h.rest, fun p hp => by have := h.num p hp; omega⟩
/-! Memory. -/
def Tp (base : Nat) (w : World) (k : Nat) : Prop := base ≤ k ∧ ∃ cs fr, w.heap[k]? = some (.cells cs 56 fr)
theorem tpTrans {base : Nat} {w w1 w2 : World} (h : Ext (Tp base w) w w1) (h2 : Ext (Tp base w1) w1 w2) : Ext (Tp base w) w w2 :=
  h.trans h2 (fun i hi => by
    by_cases hl : i < w.heap.size
    · by_cases ht : Tp base w i
      · exact .inl ht
      · have := h.block i hl ht
        refine .inl ⟨hi.1, ?_⟩
        rw [← this]
        exact hi.2
    · exact .inr (by omega))
theorem Ext.tp {S : Nat → Prop} {base : Nat} {w w' : World} (h : Ext S w w') (hS : ∀ k, k < w.heap.size → S k → Tp base w k) : Ext (Tp base w) w w' := h.mono hS
theorem Ext.of_tp {w w' : World} (h : Ext (Tp w.heap.size w) w w') : Ext N0 w w' := h.mono (fun k hk hs => by have := hs.1; omega)
/-- Opened: the block of the paths is gp. -/
structure IsSo (base : Nat) (w : World) (g : Nat) (s : Sc) (gp c : Nat) : Prop where
  hg : base ≤ g
  hp : base ≤ gp
  blk : w.heap[g]? = some (.cells #[.slice (some ⟨gp, 0, none⟩) s.ps.length c, .int .i64 s.rest] 50 (0, 0))
  own : w.ownsRow base 56 4 (.slice (some ⟨gp, 0, none⟩) s.ps.length c) s.ps.length (paCells s.ps)
def IsSc (base : Nat) (w : World) (g : Nat) (s : Sc) : Prop := ∃ gp c, IsSo base w g s gp c
section
variable {base g gp c : Nat} {w w' : World} {s : Sc}
theorem IsSo.pblk (h : IsSo base w g s gp c) : ∃ cs fr, w.heap[gp]? = some (.cells cs 56 fr) := by
  rcases h.own.2 with ⟨h1, _⟩ | ⟨g', cap', cur', h1, hb, hh, _⟩
  · cases h1
  · injection h1 with h1
    injection h1 with h1
    injection h1 with h1
    subst h1
    exact ⟨_, _, hh⟩
theorem IsSo.tp (h : IsSo base w g s gp c) : Tp base w gp := ⟨h.hp, h.pblk⟩
theorem IsSo.ne (h : IsSo base w g s gp c) : gp ≠ g := by
  rintro rfl
  obtain ⟨cs, fr, he⟩ := h.pblk
  rw [h.blk] at he
  injection he with he
  injection he with _ he
  exact absurd he (by decide)
theorem IsSo.kept (h : IsSo base w g s gp c) {S : Nat → Prop} (hE : Ext S w w') (hg : ¬ S g) (hp : ¬ S gp) : IsSo base w' g s gp c :=
  ⟨h.hg, h.hp, hE.blk h.blk hg, ownKept h.own hE (fun k hk hs => by
    have e : gp = k := by simpa [Value.ownBlock] using hk
    subst e
    exact hp hs)⟩
theorem IsSo.kept0 (h : IsSo base w g s gp c) (hE : Ext N0 w w') : IsSo base w' g s gp c := h.kept hE (fun x => x) (fun x => x)
theorem IsSc.kept0 (h : IsSc base w g s) (hE : Ext N0 w w') : IsSc base w' g s := by
  obtain ⟨gp, c, h⟩ := h
  exact ⟨gp, c, h.kept0 hE⟩
/-- A path's cells. -/
theorem IsSo.path (h : IsSo base w g s gp c) {k : Nat} {p : Pa} (hp : s.ps[k]? = some p) :
    w.cell? ⟨gp, k * 4, none⟩ = some (.int .i64 p.a) ∧ w.cell? ⟨gp, k * 4 + 1, none⟩ = some (.int .i64 p.n) ∧ w.cell? ⟨gp, k * 4 + 2, none⟩ = some (.int .i64 p.b) ∧ w.cell? ⟨gp, k * 4 + 3, none⟩ = some (.int .i64 p.r) := by
  obtain ⟨h0, h1, h2, h3⟩ := pa_get s.ps k p hp
  have e : ∀ j v, (paCells s.ps)[j]? = some v → w.cell? ⟨gp, j, none⟩ = some v := fun j v hv => (congrArg w.cell? (addPlain gp j)).symm.trans (h.own.cells (g := gp) rfl j v hv)
  exact ⟨e _ _ h0, e _ _ h1, e _ _ h2, e _ _ h3⟩
theorem IsSo.frozen (h : IsSo base w g s gp c) (j : Nat) : w.frozen? ⟨gp, j, none⟩ = false := h.own.frozenAt j
/-- A cell of a path is set. -/
theorem IsSo.set (h : IsSo base w g s gp c) {k : Nat} {p : Pa} (hp : s.ps[k]? = some p) (j : Nat) (hj : j < 4) (v : Value) (p' : Pa) (hv : (pCells p).set j v = pCells p') :
    IsSo base (w.setCell ⟨gp, k * 4 + j, none⟩ v) g { s with ps := s.ps.set k p' } gp c ∧ Ext (At gp) w (w.setCell ⟨gp, k * 4 + j, none⟩ v) := by
  have hE : Ext (At gp) w (w.setCell ⟨gp, k * 4 + j, none⟩ v) := by
    refine (Ext.refl (At gp) w).setCell (.inl ?_) _
    rfl
  refine ⟨⟨h.hg, h.hp, ?_, ?_⟩, hE⟩
  · have := hE.blk h.blk (fun hs => h.ne (show g = gp from hs).symm)
    simpa using this
  · have := (h.own.stored (k * 4 + j) v).1
    rw [pa_set v j hj p' s.ps k p hp hv] at this
    simpa using this
end
end Go.Proofs.Ytkkcdijnhegneaa
