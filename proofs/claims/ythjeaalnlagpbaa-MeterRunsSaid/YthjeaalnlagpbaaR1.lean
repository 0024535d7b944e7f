/- Contracts of the document's answer for package meter that read, each proved for every value that its statement lets in (the conditions stand in the statements). -/
import Derived.Test.YthjeaalnlagpbaaMS4
import Derived.Test.YthjeaalnlagpbaaAw
namespace Go.Proofs.Ythjeaalnlagpbaa
open Go.RowKit Go.Maps
/-- The document's row: keys, and their tokens. -/
abbrev Kr := List (ByteArray × Int)
def kC (p : ByteArray × Int) : List Value := [.string p.1, .int .i64 p.2]
def kCells (L : Kr) : List Value := L.flatMap kC
theorem kCells_len (L : Kr) : (kCells L).length = L.length * 2 := by
  induction L with
  | nil => rfl
  | cons p L ih => simp [kCells, kC] at *; omega
theorem kCells_app (L M : Kr) : kCells (L ++ M) = kCells L ++ kCells M := by simp [kCells]
theorem k_get : ∀ (L : Kr) (i : Nat) (p : ByteArray × Int), L[i]? = some p → (kCells L)[i * 2]? = some (.string p.1) ∧ (kCells L)[i * 2 + 1]? = some (.int .i64 p.2) := by
  intro L
  induction L with
  | nil => intro k p h; simp at h
  | cons q L ih =>
    intro k p h
    have e : kCells (q :: L) = kC q ++ kCells L := by simp [kCells]
    rw [e]
    cases k with
    | zero =>
      simp at h
      subst h
      simp [kC]
    | succ k =>
      have := ih k p (by simpa using h)
      have hs : ∀ j, (kC q ++ kCells L)[(k + 1) * 2 + j]? = (kCells L)[k * 2 + j]? := by
        intro j
        rw [List.getElem?_append_right (by simp [kC]; omega)]
        congr 1
        simp [kC]
        omega
      have h0 := hs 0
      simp only [Nat.add_zero] at h0
      rw [h0, hs 1]
      exact this
theorem k_set (t : Int) : ∀ (L : Kr) (i : Nat) (p : ByteArray × Int), L[i]? = some p → (kCells L).set (i * 2 + 1) (.int .i64 t) = kCells (L.set i (p.1, t)) := by
  intro L
  induction L with
  | nil => intro k p h; simp at h
  | cons q L ih =>
    intro k p h
    have e : ∀ q L, kCells (q :: L) = kC q ++ kCells L := fun q L => by simp [kCells]
    rw [e]
    cases k with
    | zero =>
      simp at h
      subst h
      rw [List.set_append_left _ _ (by simp [kC]), List.set_cons_zero, e]
      simp [kC]
    | succ k =>
      rw [List.set_append_right _ _ (by simp [kC]; omega), List.set_cons_succ, e, ← ih k p (by simpa using h)]
      congr 2
      simp [kC]
      omega
theorem k_one (L : Kr) : ∀ u ∈ kCells L, u.oneCell' = true := by
  intro u hu
  unfold kCells at hu
  rw [List.mem_flatMap] at hu
  obtain ⟨p, _, hu⟩ := hu
  simp [kC] at hu
  rcases hu with rfl | rfl <;> simp [Value.oneCell']
/-- The row stands in memory. -/
def RL (base : Nat) (w : World) (A : Option Addr) (c : Nat) (L : Kr) : Prop := w.ownsRow base 90 2 (.slice A L.length c) L.length (kCells L)
theorem RL.kept0 {base : Nat} {w w' : World} {A : Option Addr} {c : Nat} {L : Kr} (h : RL base w A c L) (hE : Ext N0 w w') : RL base w' A c L := ownKept0 h hE
theorem RL.at {base : Nat} {w : World} {A : Option Addr} {c : Nat} {L : Kr} (h : RL base w A c L) {i : Nat} (hi : i < L.length) : ∃ g, A = some ⟨g, 0, none⟩ ∧ g < w.heap.size ∧
    ∀ (w' : World), Ext N0 w w' → ∀ (j : Nat) (p : ByteArray × Int), L[j]? = some p → w'.cell? ⟨g, j * 2, none⟩ = some (.string p.1) ∧ w'.cell? ⟨g, j * 2 + 1, none⟩ = some (.int .i64 p.2) := by
  obtain ⟨g, cp, hv, _, hgl⟩ := World.ownsRow.form h (by omega)
  injection hv with hv1 hv2 hv3
  subst hv1
  refine ⟨g, rfl, hgl, fun w' hE j p hp => ?_⟩
  have h' := h.kept0 hE
  obtain ⟨q0, q1⟩ := k_get L j p hp
  have e : ∀ j v, (kCells L)[j]? = some v → w'.cell? ⟨g, j, none⟩ = some v := fun j v hv => (congrArg w'.cell? (addPlain g j)).symm.trans (World.ownsRow.cells (g := g) h' rfl j v hv)
  exact ⟨e _ _ q0, e _ _ q1⟩
theorem within_yes (n l h : Int) (w : World) (hc : l ≤ n ∧ n ≤ h) : Calls Try.prog 37 #[.int .i64 n, .int .i64 l, .int .i64 h] w fun e w' => e = .returned (.bool true) ∧ w' = w := by
  obtain ⟨h1, h2⟩ := hc
  go_enter Try.func37, Try.ntmps37
  go_wp2
  go_ret
  exact ⟨rfl, rfl⟩
theorem within_no (n l h : Int) (w : World) (hc : ¬ (l ≤ n ∧ n ≤ h)) : Calls Try.prog 37 #[.int .i64 n, .int .i64 l, .int .i64 h] w fun e w' => e = .returned (.bool false) ∧ w' = w := by
  by_cases h1 : l ≤ n
  · have h2 : ¬ n ≤ h := fun x => hc ⟨h1, x⟩
    clear hc
    go_enter Try.func37, Try.ntmps37
    go_wp2
    go_ret
    exact ⟨rfl, rfl⟩
  · clear hc
    go_enter Try.func37, Try.ntmps37
    go_wp2
    go_ret
    exact ⟨rfl, rfl⟩
theorem baNe (a b : ByteArray) (h : ¬ a = b) : (a.toList == b.toList) = false := by
  rw [ByteArray.toList_eq, ByteArray.toList_eq]
  exact beq_eq_false_iff_ne.mpr (fun e => h (Go.WideShapes.bytes_inj e))
open Classical in
/-- Where a key stands; it may be none's place. -/
noncomputable def findK (L : Kr) (k : ByteArray) : Nat := match L with | [] => 0 | p :: L => if p.1 = k then 0 else findK L k + 1
theorem findK_le (L : Kr) (k : ByteArray) : findK L k ≤ L.length := by
  induction L with
  | nil => simp [findK]
  | cons p L ih =>
    unfold findK
    split
    · omega
    · simp; exact ih
theorem findK_at (L : Kr) (k : ByteArray) (h : findK L k < L.length) : ∃ t, L[findK L k]? = some (k, t) := by
  induction L with
  | nil => simp [findK] at h
  | cons p L ih =>
    unfold findK at h ⊢
    split
    · rename_i hp
      subst hp
      exact ⟨p.2, rfl⟩
    · rename_i hp
      rw [if_neg hp] at h
      simpa using ih (by simpa using h)
theorem findK_ne (L : Kr) (k : ByteArray) : ∀ (i : Nat) (p : ByteArray × Int), i < findK L k → L[i]? = some p → p.1 ≠ k := by
  induction L with
  | nil => intro i p h; simp [findK] at h
  | cons q L ih =>
    intro i p h hp
    unfold findK at h
    split at h
    · omega
    · rename_i hq
      cases i with
      | zero => simp at hp; subst hp; exact hq
      | succ i => exact ih i p (by omega) (by simpa using hp)
abbrev agM (r b most now : Int) (A : Option Addr) (n c : Nat) : Value := .agg #[.int .i64 r, .int .i64 b, .int .i64 most, .int .i64 now, .slice A n c]
set_option maxRecDepth 100000 in
set_option maxHeartbeats 1000000 in
theorem find_calls (base : Nat) (r b most now : Int) (A : Option Addr) (c : Nat) (L : Kr) (k : ByteArray) (w : World) (h : RL base w A c L) (hl : L.length ≤ 1000) :
    Calls Try.prog 41 #[.agg #[.int .i64 r, .int .i64 b, .int .i64 most, .int .i64 now, .slice A L.length c], .string k] w fun e w' => e = .returned (.int .i64 (findK L k)) ∧ Ext N0 w w' := by
  have HL := Lib.hid h
  have hfl := findK_le L k
  obtain ⟨f, hf⟩ : ∃ f, findK L k = f := ⟨_, rfl⟩
  rw [hf] at hfl ⊢
  have HF := Lib.hid hf
  obtain ⟨m, hm⟩ : ∃ m, L.length = m := ⟨_, rfl⟩
  rw [hm] at hl hfl ⊢
  have HM := Lib.hid hm
  have HE := Lib.hid (show Ext N0 w (w.alloc (.cells #[.int .i64 r, .int .i64 b, .int .i64 most, .int .i64 now, .slice A m c] 46)) from (Ext.refl _ _).alloc _)
  clear h hf hm
  go_enter Try.func41, Try.ntmps41
  go_wp2_with fail
  go_loopw [5] (fun v wr => ∃ i : Nat, v = .int .i64 i ∧ i ≤ f ∧ wr = w.alloc (.cells #[.int .i64 r, .int .i64 b, .int .i64 most, .int .i64 now, .slice A m c] 46)) (fun v _ => m - (intOf v).toNat)
  case atStart => exact ⟨0, rfl, by omega, rfl⟩
  case round =>
    obtain ⟨i, rfl, hi, hwr⟩ := hrel
    by_cases hlt : i < m
    · have hlt' : (i : Int) < m := by omega
      obtain ⟨g, rfl, hgl, hcell⟩ := HL.out.at (i := i) (by rw [HM.out]; exact hlt)
      obtain ⟨p, hp⟩ : ∃ p, L[i]? = some p := ⟨_, List.getElem?_eq_getElem (by rw [HM.out]; exact hlt)⟩
      obtain ⟨q0, _⟩ := hcell w (Ext.refl _ _) i p hp
      obtain ⟨s, hs⟩ : ∃ s, p.1 = s := ⟨_, rfl⟩
      rw [hs] at q0
      by_cases hif : i = f
      · have hsk : s = k := by
          obtain ⟨t, ht⟩ := findK_at L k (by rw [HF.out, HM.out]; omega)
          rw [HF.out, ← hif, hp] at ht
          injection ht with ht
          rw [← hs, ht]
        subst hsk hwr
        have HIF := Lib.hid hif
        clear hcell hp hs hif
        go_wp2
        go_ret
        exact ⟨by rw [← HIF.out]; rfl, HE.out⟩
      · have hsk : ¬ s = k := by rw [← hs]; exact findK_ne L k i p (by rw [HF.out]; omega) hp
        have hbk : (s.toList == k.toList) = false := baNe s k hsk
        subst hwr
        clear hcell hp hs
        go_wp2
        go_roundw
        case rel => exact ⟨i + 1, by go_num, by omega, trivial⟩
        case measure => simp only [intOf]; omega
    · have hlt' : ¬ (i : Int) < m := by omega
      subst hwr
      go_wp2
      go_ret
      refine ⟨?_, HE.out⟩
      have : (m : Int) = f := by omega
      simp [this]
end Go.Proofs.Ythjeaalnlagpbaa
