/- The walk of the law SceneCircle: called with any values that fit its parameters, it returns true and nothing that was in memory before has changed. No other condition. -/
import Derived.Test.YtfaljgaeeholoaaB5
namespace Go.Proofs.Ytfaljgaeeholoaa
open Go.RowKit
theorem bd8 {n : Int} (h : (Lit.int .u8 n).wf = true) : 0 ≤ n ∧ n ≤ 255 := by
  have hmin : IntKind.u8.min = 0 := rfl
  have hmax : IntKind.u8.max = 255 := rfl
  simp only [Lit.wf, Bool.and_eq_true, decide_eq_true_eq] at h
  omega
theorem flows_get (bytes : Int) : ∀ (L : List (Nat × Nat)) (a : Nat) (p : Nat × Nat), L[a]? = some p →
    (flowsV bytes L)[a * 5]? = some (.int .i64 p.1) ∧ (flowsV bytes L)[a * 5 + 1]? = some (.int .i64 p.2) ∧ (flowsV bytes L)[a * 5 + 2]? = some (.int .i64 0) ∧ (flowsV bytes L)[a * 5 + 3]? = some (.int .i64 bytes) ∧ (flowsV bytes L)[a * 5 + 4]? = some (.int .i64 0) := by
  intro L
  induction L with
  | nil => intro a p h; simp at h
  | cons q L ih =>
    intro a p h
    have e : flowsV bytes (q :: L) = [.int .i64 q.1, .int .i64 q.2, .int .i64 0, .int .i64 bytes, .int .i64 0] ++ flowsV bytes L := by simp [flowsV]
    rw [e]
    cases a with
    | zero =>
      simp at h
      subst h
      simp
    | succ a =>
      have h' : L[a]? = some p := by simpa using h
      have := ih a p h'
      have hs : ∀ j, ([Value.int .i64 q.1, .int .i64 q.2, .int .i64 0, .int .i64 bytes, .int .i64 0] ++ flowsV bytes L)[(a + 1) * 5 + j]? = (flowsV bytes L)[a * 5 + j]? := by
        intro j
        rw [List.getElem?_append_right (by simp; omega)]
        congr 1
        simp
        omega
      have h0 := hs 0
      simp only [Nat.add_zero] at h0
      rw [h0, hs 1, hs 2, hs 3, hs 4]
      exact this
theorem walkTo_get (p : Nat → Nat) : ∀ (t : List Nat) (a b : Nat), walkTo p a t b → ∀ s, s ≤ t.length → p ((a :: t).getD s 0) = (t ++ [b]).getD s 0 := by
  intro t
  induction t with
  | nil =>
    intro a b h s hs
    have : s = 0 := by simpa using hs
    subst this
    exact h
  | cons x t ih =>
    intro a b h s hs
    cases s with
    | zero => exact h.1
    | succ s =>
      have := ih x b h.2 s (by simpa using hs)
      simpa [List.getD_eq_getElem?_getD] using this
namespace sceneCircle
set_option maxRecDepth 100000 in
set_option maxHeartbeats 1000000 in
theorem walk (a0 a1 a2 : Int) (w : World) (_w0 : (Lit.int .u64 a0).wf = true) (w1 : (Lit.int .u8 a1).wf = true) (w2 : (Lit.int .u8 a2).wf = true) :
    Calls Try.prog 3 #[.int .u64 a0, .int .u8 a1, .int .u8 a2] w fun e w' => e = .returned (.bool true) ∧ Below w.heap.size w w' := by
  have b1 := bd8 w1
  have b2 := bd8 w2
  clear w1 w2
  have e1 : a1.tmod 7 = a1 % 7 := Int.tmod_eq_emod_of_nonneg (by omega)
  obtain ⟨x, hx⟩ : ∃ x, a1 % 7 = x := ⟨_, rfl⟩
  obtain ⟨n, hnx, hn2⟩ : ∃ n : Nat, (n : Int) = 2 + x ∧ (2 ≤ n ∧ n ≤ 8) := ⟨(2 + x).toNat, by omega, by omega⟩
  have hx2 : 0 ≤ x ∧ x ≤ 6 := by omega
  rw [hx] at e1
  clear hx
  obtain ⟨hrow, t, htl, htb, htw⟩ := ring_all a0 n hn2.1
  have hg := ring_good a0 n (1 + a2) w (by unfold RightP; omega)
  rw [hnx] at hg
  have HG := Lib.hid hg
  clear hg
  obtain ⟨r, hr⟩ : ∃ r : Nat → Nat, (fun x => (ringN a0 n (n - 1)).getD x 0) = r := ⟨_, rfl⟩
  have hr' : ∀ x, (ringN a0 n (n - 1)).getD x 0 = r x := fun x => by rw [← hr]
  have hL : ∀ x, x < n → (ringL a0 n)[x]? = some (x, r x) := fun x hx => by
    unfold ringL
    rw [List.getElem?_map, List.getElem?_range hx, ← hr]
    rfl
  have HL := Lib.hid hL
  simp only [hr'] at hrow htw
  have HW : Hid (∀ s, s ≤ t.length → r ((0 :: t).getD s 0) = (t ++ [0]).getD s 0) := by
    refine Lib.hid (fun s hs => ?_)
    have h := walkTo_get _ t 0 0 htw s hs
    have hlt : (0 :: t).getD s 0 < n := by
      cases s with
      | zero => simp; omega
      | succ s =>
        have : (0 :: t).getD (s + 1) 0 ∈ t := by
          simp [List.getD_eq_getElem?_getD]
          rw [List.getElem?_eq_getElem (by omega)]
          simp
        exact (htb _ this).2
    simp only [if_pos hlt] at h
    exact h
  have HR := Lib.hid hrow
  have HT : Hid (∀ s, s < t.length → 0 < t.getD s 0 ∧ t.getD s 0 < n) := by
    refine Lib.hid (fun s hs => ?_)
    have : t.getD s 0 ∈ t := by
      simp [List.getD_eq_getElem?_getD, hs]
    exact htb _ this
  clear hr hr' hL hrow htw htb
  go_enter Try.func3, Try.ntmps3
  go_wp2_with (go_at_call 5; refine HG.out.mono ?_; rintro e w3 ⟨A, cap, rfl, ho, hE⟩; obtain ⟨gg, cp, hvv, hgb, hgl⟩ := ho.form (by omega); injection hvv with hv1 hv2 hv3; subst hv1; clear hv2 hv3; have HC : Hid (∀ x, x < n → w3.cell? ⟨gg, x * 5, none⟩ = some (.int .i64 x) ∧ w3.cell? ⟨gg, x * 5 + 1, none⟩ = some (.int .i64 (r x))) := Lib.hid (fun x hx => ⟨(congrArg w3.cell? (addPlain gg (x * 5))).symm.trans (ho.cells (g := gg) rfl _ _ (flows_get (1 + a2) _ x _ (HL.out x hx)).1), (congrArg w3.cell? (addPlain gg (x * 5 + 1))).symm.trans (ho.cells (g := gg) rfl _ _ (flows_get (1 + a2) _ x _ (HL.out x hx)).2.1)⟩); have HE := Lib.hid hE; clear ho hE)
  go_loopw [12] (fun v wr => ∃ i : Nat, v = .int .i64 i ∧ i ≤ n ∧ Hid (∀ x, x < n → wr.cell? ⟨gg, x * 5, none⟩ = some (.int .i64 x) ∧ wr.cell? ⟨gg, x * 5 + 1, none⟩ = some (.int .i64 (r x))) ∧ Hid (Ext N0 w wr)) (fun v _ => n - (intOf v).toNat)
  case atStart => exact ⟨0, rfl, by omega, HC, HE⟩
  case round =>
    clear HC HE
    obtain ⟨i, rfl, hi, HC, HE⟩ := hrel
    by_cases hlt : i < n
    · have hlt' : (i : Int) < 2 + x := by omega
      obtain ⟨c0, c1⟩ := HC.out i hlt
      obtain ⟨q0, q1⟩ := HR.out i hlt
      obtain ⟨q, hq⟩ : ∃ q, r i = q := ⟨_, rfl⟩
      rw [hq] at c1 q0 q1
      clear hq
      have q2 : ¬ 2 + x ≤ (q : Int) := by omega
      have q3 : ¬ (q : Int) = i := by omega
      have q4 : ¬ (q : Int) < 0 := by omega
      go_wp2
      go_roundw
      case rel => exact ⟨i + 1, by go_num, by omega, HC, HE⟩
      case measure => simp only [intOf]; omega
    · have hlt' : ¬ (i : Int) < 2 + x := by omega
      clear hlt hi
      go_wp2_with fail
      go_loopw [10, 11, 13] (fun at_ st v wr => ∃ s : Nat, v = .int .i64 s ∧ st = .int .i64 s ∧ at_ = .int .i64 ((0 :: t).getD s 0 : Nat) ∧ s < n ∧ Hid (∀ x, x < n → wr.cell? ⟨gg, x * 5, none⟩ = some (.int .i64 x) ∧ wr.cell? ⟨gg, x * 5 + 1, none⟩ = some (.int .i64 (r x))) ∧ Hid (Ext N0 w wr)) (fun _ _ v _ => n - (intOf v).toNat)
      case atStart => exact ⟨0, rfl, rfl, by simp, by omega, HC, HE⟩
      case round =>
        clear HC HE
        obtain ⟨s, rfl, rfl, rfl, hs, HC, HE⟩ := hrel
        have hs' : (s : Int) < 2 + x := by omega
        have hnext := HW.out s (by omega)
        have hal : (0 :: t).getD s 0 < n := by
          cases s with
          | zero => simp; omega
          | succ s => simpa [List.getD_eq_getElem?_getD] using (HT.out s (by omega)).2
        obtain ⟨a, ha⟩ : ∃ a, (0 :: t).getD s 0 = a := ⟨_, rfl⟩
        rw [ha] at hnext hal
        simp only [ha]
        clear ha
        obtain ⟨_, c1⟩ := HC.out a hal
        have ha0 : (0 : Int) ≤ a := by omega
        have hax : (a : Int) < 2 + x := by omega
        by_cases hl : s < t.length
        · have h2 := HT.out s hl
          have h3 : (t ++ [0]).getD s 0 = t.getD s 0 := by simp [List.getD_eq_getElem?_getD, List.getElem?_append_left hl]
          rw [h3] at hnext
          obtain ⟨b, hb⟩ : ∃ b, t.getD s 0 = b := ⟨_, rfl⟩
          have hb2 : (0 :: t).getD (s + 1) 0 = b := by rw [← hb]; simp [List.getD_eq_getElem?_getD]
          rw [hb] at hnext h2
          rw [hnext] at c1
          have hb3 : ¬ (b : Int) = 0 := by omega
          have HB2 := Lib.hid hb2
          clear hnext h3 hb hb2
          go_wp2
          go_roundw
          case rel => exact ⟨s + 1, by go_num, by go_num, by rw [HB2.out], by omega, HC, HE⟩
          case measure => simp only [intOf]; omega
        · have hsl : s = t.length := by omega
          have h3 : (t ++ [0]).getD s 0 = 0 := by rw [hsl]; simp [List.getD_eq_getElem?_getD]
          rw [h3] at hnext
          rw [hnext] at c1
          have hsn : (s : Int) + 1 = 2 + x := by omega
          clear hnext h3 hsl
          go_wp2_with (go_at_call 6; refine (awake_calls _).mono ?_; rintro e w4 ⟨rfl, hE4⟩)
          go_ret
          exact ⟨rfl, (HE.out.then0 hE4).below⟩
end sceneCircle
end Go.Proofs.Ytfaljgaeeholoaa
