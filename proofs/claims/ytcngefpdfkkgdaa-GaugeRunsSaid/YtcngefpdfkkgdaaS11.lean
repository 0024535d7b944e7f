/- Cuts of a row, and the state that both gauges begin with (the conditions stand in the statements). -/
import Derived.Test.YtcngefpdfkkgdaaS10
import Derived.Laws.Slices
namespace Go.Proofs.Ytcngefpdfkkgdaa
open Go.RowKit Go.Maps
theorem cutH {P : Program} {i : TypeInfo} (t e : TypeId) (ht : P.underlying t = some (.slice e)) (hi : P.info? e = some i) (hsz : i.size = 1) (A : Option Addr) (n c v : Nat) (hv : v ≤ c) (_hvn : v ≤ n) :
    ∃ A', (∀ W : World, (Instr.slice t (.slice A n c) none (some (.int .i64 (v : Int))) none).run P W = .ok (.slice A' v c) W) ∧ ∀ (vs : List Value) (W : World), vs.length = n → n ≤ c → Reads W A vs → Reads W A' (vs.take v) := by
  refine ⟨if c = 0 then A else A.map (·.add 0), fun W => ?_, fun vs W hn hc h => ?_⟩
  · have hel : P.elem t = e := by simp [Program.elem, ht]
    have hu : P.underlying t = some (.slice (P.elem t)) := by rw [hel]; exact ht
    rw [run_slice_h W t A n c hu .i64 v (by omega) (by omega), hel]
    simp [sizeOf, typeInfo, hi, hsz, sliced, Result.andThen]
  · have := (h.drop hn 0 hc).take v
    rwa [List.drop_zero] at this
theorem cut22 (A : Option Addr) (n c v : Nat) (hv : v ≤ c) (hvn : v ≤ n) :
    ∃ A', (∀ W : World, (Instr.slice 22 (.slice A n c) none (some (.int .i64 (v : Int))) none).run Try.prog W = .ok (.slice A' v c) W) ∧ ∀ (vs : List Value) (W : World), vs.length = n → n ≤ c → Reads W A vs → Reads W A' (vs.take v) := by
  obtain ⟨i0, hi, hzz⟩ := Option.map_eq_some_iff.1 info3
  simp only [Prod.mk.injEq] at hzz
  exact cutH 22 3 Try.underlying22 hi hzz.2.1 A n c v hv hvn
theorem cut46 (A : Option Addr) (n c v : Nat) (hv : v ≤ c) (hvn : v ≤ n) :
    ∃ A', (∀ W : World, (Instr.slice 46 (.slice A n c) none (some (.int .i64 (v : Int))) none).run Try.prog W = .ok (.slice A' v c) W) ∧ ∀ (vs : List Value) (W : World), vs.length = n → n ≤ c → Reads W A vs → Reads W A' (vs.take v) := by
  obtain ⟨i0, hi, hzz⟩ := Option.map_eq_some_iff.1 info9
  simp only [Prod.mk.injEq] at hzz
  exact cutH 46 9 Try.underlying46 hi hzz.2.1 A n c v hv hvn
namespace gaugeRuns
theorem rel0 (bs : List Int) : Rel ⟨bs, [], fun _ => []⟩ bs [] := ⟨rfl, rfl, fun p hp => (by cases hp), fun k hk => (by cases hk)⟩
theorem ok0 {bs : List Int} (h : mayB bs = true) : (⟨bs, [], fun _ => []⟩ : Ga ByteArray).Ok 0 := by
  unfold mayB at h
  rw [Bool.and_eq_true] at h
  exact ⟨h.1, of_decide_eq_true h.2, List.nodup_nil, fun k x hx => (by cases hx), fun k => Nat.le_refl _, fun k _ => rfl, Nat.le_refl _⟩
theorem al0 {w0 w1 w2 : World} {g c0 : Nat} {bs : List Int} {A0 : Option Addr} (h1 : IsGS w0.heap.size w1 g ⟨bs, [], fun _ => []⟩ 0 (fun x => w0.heap.size ≤ x)) (hE1 : Ext N0 w0 w1) (h2 : RS w1.heap.size w2 A0 c0 none 0 bs []) (hE2 : Ext N0 w1 w2) :
    Al w0 (w2.alloc (.cells (rG A0 bs.length c0 none 0 0) 30)) g w2.heap.size bs ⟨bs, [], fun _ => []⟩ [] A0 c0 none 0 0 := by
  have hs1 := hE1.size
  have hs2 := hE2.size
  have hA : Ext N0 w2 (w2.alloc (.cells (rG A0 bs.length c0 none 0 0) 30)) := (Ext.refl _ _).alloc _
  have hRB : ∀ y, RB A0 c0 none 0 bs [] y → w1.heap.size ≤ y ∧ y < w2.heap.size := fun y hy => h2.lt y hy
  refine ⟨⟨_, (h1.small.kept0 hE2).kept0 hA, fun y hy => ⟨hy.1, ?_, fun hr => ?_⟩⟩, blkNew _ _, ?_, fun hr => ?_, ?_, (hE1.then0 hE2).then0 hA⟩
  · have := hy.2
    omega
  · have h3 := (hRB y hr).1
    have := hy.2
    omega
  · have h3 := h2.kept0 hA
    exact ⟨ownLe h3.b hs1, ownLe h3.r hs1, fun p hp => (by cases hp)⟩
  · have h3 := (hRB _ hr).2
    omega
  · omega
theorem Al.cells {w0 w : World} {g x c0 c1 u : Nat} {bs : List Int} {G : Ga ByteArray} {R : List Rk} {A0 A1 : Option Addr} (h : Al w0 w g x bs G R A0 c0 A1 c1 u) : (w.cell? ⟨x, 0, none⟩ = some (.slice A0 bs.length c0) ∧ w.cell? ⟨x, 1, none⟩ = some (.slice A1 R.length c1)) ∧ w.frozen? ⟨x, 0, none⟩ = false ∧ w.frozen? ⟨x, 1, none⟩ = false :=
  ⟨⟨(blkCell h.box 0).trans rfl, (blkCell h.box 1).trans rfl⟩, blkFrozen h.box 0, blkFrozen h.box 1⟩
end gaugeRuns
end Go.Proofs.Ytcngefpdfkkgdaa
