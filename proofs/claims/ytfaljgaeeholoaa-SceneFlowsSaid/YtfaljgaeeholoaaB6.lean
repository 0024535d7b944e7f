/- Contracts of the document's answer for package scene, each proved for every value that its statement lets in (the conditions stand in the statements). -/
import Derived.Test.YtfaljgaeeholoaaKSceneCircle
namespace Go.Proofs.Ytfaljgaeeholoaa
open Go.RowKit
/-- A flow: src, dst, class, bytes, at. -/
abbrev Fl := Int × Int × Int × Int × Int
def flC (f : Fl) : List Value := [.int .i64 f.1, .int .i64 f.2.1, .int .i64 f.2.2.1, .int .i64 f.2.2.2.1, .int .i64 f.2.2.2.2]
def flV (L : List Fl) : List Value := L.flatMap flC
theorem flV_app (L : List Fl) (f : Fl) : flV (L ++ [f]) = flV L ++ flC f := by simp [flV]
def ofP (bytes : Int) (L : List (Nat × Nat)) : List Fl := L.map fun p => ((p.1 : Int), (p.2 : Int), 0, bytes, 0)
theorem flV_ofP (bytes : Int) (L : List (Nat × Nat)) : flowsV bytes L = flV (ofP bytes L) := by
  induction L with
  | nil => rfl
  | cons p L ih =>
    have e1 : flowsV bytes (p :: L) = [.int .i64 p.1, .int .i64 p.2, .int .i64 0, .int .i64 bytes, .int .i64 0] ++ flowsV bytes L := by simp [flowsV]
    have e2 : flV (ofP bytes (p :: L)) = [.int .i64 p.1, .int .i64 p.2, .int .i64 0, .int .i64 bytes, .int .i64 0] ++ flV (ofP bytes L) := by simp [flV, flC, ofP]
    rw [e1, e2, ih]
theorem flV_get : ∀ (L : List Fl) (a : Nat) (f : Fl), L[a]? = some f →
    (flV L)[a * 5]? = some (.int .i64 f.1) ∧ (flV L)[a * 5 + 1]? = some (.int .i64 f.2.1) ∧ (flV L)[a * 5 + 2]? = some (.int .i64 f.2.2.1) ∧ (flV L)[a * 5 + 3]? = some (.int .i64 f.2.2.2.1) ∧ (flV L)[a * 5 + 4]? = some (.int .i64 f.2.2.2.2) := by
  intro L
  induction L with
  | nil => intro a p h; simp at h
  | cons q L ih =>
    intro a p h
    have e : flV (q :: L) = flC q ++ flV L := by simp [flV]
    rw [e]
    cases a with
    | zero =>
      simp at h
      subst h
      simp [flC]
    | succ a =>
      have := ih a p (by simpa using h)
      have hs : ∀ j, (flC q ++ flV L)[(a + 1) * 5 + j]? = (flV L)[a * 5 + j]? := by
        intro j
        rw [List.getElem?_append_right (by simp [flC]; omega)]
        congr 1
        simp [flC]
        omega
      have h0 := hs 0
      simp only [Nat.add_zero] at h0
      rw [h0, hs 1, hs 2, hs 3, hs 4]
      exact this
/-- A row of flows that stands in memory, of its elements' type. -/
def IsFl (base : Nat) (w : World) (e : TypeId) (A : Option Addr) (c : Nat) (L : List Fl) : Prop := w.ownsRow base e 5 (.slice A L.length c) L.length (flV L)
theorem IsFl.kept0 {base : Nat} {w w' : World} {e : TypeId} {A : Option Addr} {c : Nat} {L : List Fl} (h : IsFl base w e A c L) (hE : Ext N0 w w') : IsFl base w' e A c L := ownKept0 h hE
theorem IsFl.at {base : Nat} {w : World} {e : TypeId} {A : Option Addr} {c : Nat} {L : List Fl} (h : IsFl base w e A c L) (h0 : 0 < L.length) : ∃ g, A = some ⟨g, 0, none⟩ ∧
    ∀ (w' : World), Ext N0 w w' → ∀ (a : Nat) (f : Fl), L[a]? = some f → w'.cell? ⟨g, a * 5, none⟩ = some (.int .i64 f.1) ∧ w'.cell? ⟨g, a * 5 + 1, none⟩ = some (.int .i64 f.2.1) ∧ w'.cell? ⟨g, a * 5 + 2, none⟩ = some (.int .i64 f.2.2.1) ∧ w'.cell? ⟨g, a * 5 + 3, none⟩ = some (.int .i64 f.2.2.2.1) ∧ w'.cell? ⟨g, a * 5 + 4, none⟩ = some (.int .i64 f.2.2.2.2) := by
  obtain ⟨g, cp, hv, _, _⟩ := World.ownsRow.form h h0
  injection hv with hv1 hv2 hv3
  subst hv1
  refine ⟨g, rfl, fun w' hE a f hf => ?_⟩
  have h' := h.kept0 hE
  obtain ⟨q0, q1, q2, q3, q4⟩ := flV_get L a f hf
  have e : ∀ j v, (flV L)[j]? = some v → w'.cell? ⟨g, j, none⟩ = some v := fun j v hv => (congrArg w'.cell? (addPlain g j)).symm.trans (World.ownsRow.cells (g := g) h' rfl j v hv)
  exact ⟨e _ _ q0, e _ _ q1, e _ _ q2, e _ _ q3, e _ _ q4⟩
set_option maxRecDepth 100000 in
set_option maxHeartbeats 1000000 in
theorem same_calls (b1 b2 : Nat) (A B : Option Addr) (ca cb : Nat) (L : List Fl) (w : World) (hA : IsFl b1 w 28 A ca L) (hB : IsFl b2 w 49 B cb L) (hl : L.length ≤ 2000) :
    Calls Try.prog 14 #[.slice A L.length ca, .slice B L.length cb] w fun e w' => e = .returned (.bool true) ∧ Ext N0 w w' := by
  have HA := Lib.hid hA
  have HB := Lib.hid hB
  clear hA hB
  obtain ⟨m, hm⟩ : ∃ m, L.length = m := ⟨_, rfl⟩
  rw [hm] at hl ⊢
  have HM := Lib.hid hm
  clear hm
  go_enter Try.func14, Try.ntmps14
  go_wp2_with fail
  go_loopw [5] (fun v wr => ∃ i : Nat, v = .int .i64 i ∧ i ≤ m ∧ Hid (Ext N0 w wr)) (fun v _ => m - (intOf v).toNat)
  case atStart => exact ⟨0, rfl, by omega, Lib.hid (Ext.refl _ _)⟩
  case round =>
    obtain ⟨i, rfl, hi, HE⟩ := hrel
    by_cases hlt : i < m
    · have hlt' : (i : Int) < m := by omega
      have h0 : 0 < L.length := by rw [HM.out]; omega
      obtain ⟨g1, e1, q1⟩ := HA.out.at h0
      obtain ⟨g2, e2, q2⟩ := HB.out.at h0
      subst e1 e2
      obtain ⟨f, hf⟩ : ∃ f, L[i]? = some f := ⟨_, List.getElem?_eq_getElem (by rw [HM.out]; exact hlt)⟩
      obtain ⟨x0, x1, x2, x3, x4⟩ := q1 wr.drew HE.out.drew i f hf
      obtain ⟨y0, y1, y2, y3, y4⟩ := q2 wr.drew HE.out.drew i f hf
      obtain ⟨f0, f1, f2, f3, f4⟩ := f
      simp only [] at x0 x1 x2 x3 x4 y0 y1 y2 y3 y4
      clear q1 q2 hf h0
      go_wp2_with fail
      go_region
      all_goals
        go_wp2
        go_roundw
        case rel => exact ⟨i + 1, by go_num, by omega, Lib.hid HE.out.drew⟩
        case measure => simp only [intOf]; omega
    · have hlt' : ¬ (i : Int) < m := by omega
      go_wp2
      go_ret
      exact ⟨rfl, HE.out⟩
theorem within_calls (n l h : Int) (w : World) : Calls Try.prog 22 #[.int .i64 n, .int .i64 l, .int .i64 h] w fun e w' => e = .returned (.bool (decide (l ≤ n ∧ n ≤ h))) ∧ w' = w := by
  by_cases h1 : l ≤ n
  · by_cases h2 : n ≤ h
    · rw [decide_eq_true (show l ≤ n ∧ n ≤ h from ⟨h1, h2⟩)]
      go_enter Try.func22, Try.ntmps22
      go_wp2
      go_ret
      exact ⟨rfl, rfl⟩
    · rw [decide_eq_false (show ¬ (l ≤ n ∧ n ≤ h) from fun x => h2 x.2)]
      go_enter Try.func22, Try.ntmps22
      go_wp2
      go_ret
      exact ⟨rfl, rfl⟩
  · rw [decide_eq_false (show ¬ (l ≤ n ∧ n ≤ h) from fun x => h1 x.1)]
    go_enter Try.func22, Try.ntmps22
    go_wp2
    go_ret
    exact ⟨rfl, rfl⟩
def srcV (seed : Int) (n : Nat) : Value := .agg #[.int .u64 seed, .int .i64 n]
theorem rnext_calls (seed : Int) (n : Nat) (w : World) (hn : n ≤ 1000000000) : Calls Try.prog 28 #[.agg #[.int .u64 seed, .int .i64 n]] w fun e w' => e = .returned (.tuple #[.agg #[.int .u64 seed, .int .i64 ((n + 1 : Nat) : Int)], .int .u64 (atV seed n)]) ∧ Ext N0 w w' := by
  have HE : Hid (Ext N0 w (((w.alloc (.cells #[.int .u64 seed, .int .i64 (n + 1)] 51)).alloc (.cells #[.int .u64 seed, .int .i64 (n + 1)] 51)))) := Lib.hid (((Ext.refl _ _).alloc _).alloc _)
  go_enter Try.func28, Try.ntmps28
  go_wp2_with (go_at_call 31; refine (rat_calls seed n _).mono ?_; rintro e w' ⟨rfl, rfl⟩)
  refine bodyPost_ret (v := .tuple #[.agg #[.int .u64 seed, .int .i64 (n + 1)], .int .u64 (atV seed n)]) (by simp [results, Try.results28, go_sem]) rfl ⟨by push_cast; rfl, HE.out⟩
end Go.Proofs.Ytfaljgaeeholoaa
