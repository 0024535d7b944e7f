/- The document's answer for package gauge: what stands in memory, of, bucket (the conditions stand in the statements). -/
import Derived.Test.YtcngefpdfkkgdaaGt
import Derived.BigRegion
import Derived.Deep.RegionHeld3
namespace Go.Proofs.Ytcngefpdfkkgdaa
open Go.RowKit
/-- A key of the document's, where its numbers stand, and they. -/
structure Rk where
  k : ByteArray
  A : Option Addr
  c : Nat
  l : List Int
def rkC (p : Rk) : List Value := [.string p.k, .slice p.A p.l.length p.c]
def rkCs (R : List Rk) : List Value := R.flatMap rkC
theorem rkCs_len (R : List Rk) : (rkCs R).length = R.length * 2 := by
  induction R with
  | nil => rfl
  | cons p R ih => simp [rkCs, rkC] at *; omega
theorem rkCs_app (R M : List Rk) : rkCs (R ++ M) = rkCs R ++ rkCs M := by simp [rkCs]
theorem rk_get : ∀ (R : List Rk) (i : Nat) (p : Rk), R[i]? = some p → (rkCs R)[i * 2]? = some (.string p.k) ∧ (rkCs R)[i * 2 + 1]? = some (.slice p.A p.l.length p.c) := by
  intro R
  induction R with
  | nil => intro k p h; simp at h
  | cons q R ih =>
    intro k p h
    have e : rkCs (q :: R) = rkC q ++ rkCs R := by simp [rkCs]
    rw [e]
    cases k with
    | zero =>
      simp at h
      subst h
      simp [rkC]
    | succ k =>
      have := ih k p (by simpa using h)
      have hs : ∀ j, (rkC q ++ rkCs R)[(k + 1) * 2 + j]? = (rkCs R)[k * 2 + j]? := by
        intro j
        rw [List.getElem?_append_right (by simp [rkC]; omega)]
        congr 1
        simp [rkC]
        omega
      have h0 := hs 0
      simp only [Nat.add_zero] at h0
      rw [h0, hs 1]
      exact this
theorem rk_set (p' : Rk) : ∀ (R : List Rk) (i : Nat), i < R.length → ((rkCs R).set (i * 2) (.string p'.k)).set (i * 2 + 1) (.slice p'.A p'.l.length p'.c) = rkCs (R.set i p') := by
  intro R
  induction R with
  | nil => intro k h; simp at h
  | cons q R ih =>
    intro k h
    have e : ∀ q R, rkCs (q :: R) = rkC q ++ rkCs R := fun q R => by simp [rkCs]
    rw [e]
    cases k with
    | zero =>
      rw [List.set_cons_zero, e]
      simp [rkC]
    | succ k =>
      rw [List.set_append_right _ _ (by simp [rkC]; omega), List.set_append_right _ _ (by simp [rkC]; omega), List.set_cons_succ, e, ← ih k (by simpa using h)]
      congr 2
      · congr 1
        simp [rkC]
        omega
      · simp [rkC]
        omega
theorem rk_one (R : List Rk) : ∀ u ∈ rkCs R, u.oneCell' = true := by
  intro u hu
  unfold rkCs at hu
  rw [List.mem_flatMap] at hu
  obtain ⟨p, _, hu⟩ := hu
  simp [rkC] at hu
  rcases hu with rfl | rfl <;> simp [Value.oneCell']
/-- The document's gauge in memory. -/
structure RS (base : Nat) (w : World) (A0 : Option Addr) (c0 : Nat) (A1 : Option Addr) (c1 : Nat) (bs : List Int) (R : List Rk) : Prop where
  b : w.ownsRow base 3 1 (.slice A0 bs.length c0) bs.length (iv bs)
  r : w.ownsRow base 78 2 (.slice A1 R.length c1) R.length (rkCs R)
  e : ∀ p ∈ R, w.ownsRow base 3 1 (.slice p.A p.l.length p.c) p.l.length (iv p.l)
/-- Its blocks. -/
def RB (A0 : Option Addr) (c0 : Nat) (A1 : Option Addr) (c1 : Nat) (bs : List Int) (R : List Rk) (x : Nat) : Prop :=
  (Value.slice A0 bs.length c0).ownBlock = some x ∨ (Value.slice A1 R.length c1).ownBlock = some x ∨ ∃ p ∈ R, (Value.slice p.A p.l.length p.c).ownBlock = some x
theorem RS.kept {base c0 c1 : Nat} {w w' : World} {A0 A1 : Option Addr} {bs : List Int} {R : List Rk} (h : RS base w A0 c0 A1 c1 bs R) {S : Nat → Prop} (hE : Ext S w w') (hS : ∀ x, RB A0 c0 A1 c1 bs R x → ¬ S x) : RS base w' A0 c0 A1 c1 bs R :=
  ⟨ownKept h.b hE (fun x hx => hS x (.inl hx)), ownKept h.r hE (fun x hx => hS x (.inr (.inl hx))), fun p hp => ownKept (h.e p hp) hE (fun x hx => hS x (.inr (.inr ⟨p, hp, hx⟩)))⟩
theorem RS.kept0 {base c0 c1 : Nat} {w w' : World} {A0 A1 : Option Addr} {bs : List Int} {R : List Rk} (h : RS base w A0 c0 A1 c1 bs R) (hE : Ext N0 w w') : RS base w' A0 c0 A1 c1 bs R := h.kept hE (fun _ _ hk => hk.elim)
theorem RS.lt {base c0 c1 : Nat} {w : World} {A0 A1 : Option Addr} {bs : List Int} {R : List Rk} (h : RS base w A0 c0 A1 c1 bs R) (x : Nat) (hx : RB A0 c0 A1 c1 bs R x) : base ≤ x ∧ x < w.heap.size := by
  rcases hx with hx | hx | ⟨p, hp, hx⟩
  · exact ownBase h.b x hx
  · exact ownBase h.r x hx
  · exact ownBase (h.e p hp) x hx
theorem RS.at {base c0 c1 : Nat} {w : World} {A0 A1 : Option Addr} {bs : List Int} {R : List Rk} (h : RS base w A0 c0 A1 c1 bs R) {i : Nat} (hi : i < R.length) : ∃ g, A1 = some ⟨g, 0, none⟩ ∧ g < w.heap.size ∧
    ∀ (w' : World), Ext N0 w w' → ∀ (j : Nat) (p : Rk), R[j]? = some p → w'.cell? ⟨g, j * 2, none⟩ = some (.string p.k) ∧ w'.cell? ⟨g, j * 2 + 1, none⟩ = some (.slice p.A p.l.length p.c) := by
  obtain ⟨g, cp, hv, _, hgl⟩ := World.ownsRow.form h.r (by omega)
  injection hv with hv1 hv2 hv3
  subst hv1
  refine ⟨g, rfl, hgl, fun w' hE j p hp => ?_⟩
  have h' := ownKept0 h.r hE
  obtain ⟨q0, q1⟩ := rk_get R j p hp
  have e : ∀ j v, (rkCs R)[j]? = some v → w'.cell? ⟨g, j, none⟩ = some v := fun j v hv => (congrArg w'.cell? (addPlain g j)).symm.trans (World.ownsRow.cells (g := g) h' rfl j v hv)
  exact ⟨e _ _ q0, e _ _ q1⟩
theorem baNe (a b : ByteArray) (h : ¬ a = b) : (a.toList == b.toList) = false := by
  rw [ByteArray.toList_eq, ByteArray.toList_eq]
  exact beq_eq_false_iff_ne.mpr (fun e => h (Go.WideShapes.bytes_inj e))
abbrev rG (A0 : Option Addr) (n0 c0 : Nat) (A1 : Option Addr) (n1 c1 : Nat) : Array Value := #[.slice A0 n0 c0, .slice A1 n1 c1]
set_option maxRecDepth 100000 in
set_option maxHeartbeats 1000000 in
theorem rof_in (base c0 c1 n0 : Nat) (A0 A1 : Option Addr) (bs : List Int) (R : List Rk) (key : ByteArray) (i0 : Nat) (p0 : Rk) (w : World) (h : RS base w A0 c0 A1 c1 bs R) (hl : R.length ≤ 1000) (hp0 : R[i0]? = some p0) (hk : p0.k = key) (hne : ∀ j q, j < i0 → R[j]? = some q → ¬ q.k = key) :
    Calls Try.prog 37 #[.agg (rG A0 n0 c0 A1 R.length c1), .string key] w fun e w' => e = .returned (.tuple #[.slice p0.A p0.l.length p0.c, .int .i64 i0]) ∧ Ext N0 w w' := by
  have hi0 := (List.getElem?_eq_some_iff.1 hp0).1
  have HL := Lib.hid h
  have HP := Lib.hid hp0
  have HNe := Lib.hid hne
  obtain ⟨m, hm⟩ : ∃ m, R.length = m := ⟨_, rfl⟩
  rw [hm] at hl hi0 ⊢
  have HM := Lib.hid hm
  have HE := Lib.hid (show Ext N0 w (w.alloc (.cells (rG A0 n0 c0 A1 m c1) 30)) from (Ext.refl _ _).alloc _)
  obtain ⟨pA, hpA⟩ : ∃ pA, p0.A = pA := ⟨_, rfl⟩
  obtain ⟨pn, hpn⟩ : ∃ pn, p0.l.length = pn := ⟨_, rfl⟩
  obtain ⟨pc, hpc⟩ : ∃ pc, p0.c = pc := ⟨_, rfl⟩
  rw [hpA, hpn, hpc]
  have HPV := Lib.hid (And.intro hpA (And.intro hpn hpc))
  have HK := Lib.hid hk
  clear h hm hp0 hne hpA hpn hpc hk
  go_enter Try.func37, Try.ntmps37
  go_wp2_with fail
  go_loopw [6] (fun v wr => ∃ i : Nat, v = .int .i64 i ∧ i ≤ i0 ∧ wr = w.alloc (.cells (rG A0 n0 c0 A1 m c1) 30)) (fun v _ => m - (intOf v).toNat)
  case atStart => exact ⟨0, rfl, by omega, rfl⟩
  case round =>
    obtain ⟨i, rfl, hi, hwr⟩ := hrel
    have hlt : i < m := by omega
    have hlt' : (i : Int) < m := by omega
    obtain ⟨g, rfl, hgl, hcell⟩ := HL.out.at (i := i) (by rw [HM.out]; exact hlt)
    obtain ⟨p, hp⟩ : ∃ p, R[i]? = some p := ⟨_, List.getElem?_eq_getElem (by rw [HM.out]; exact hlt)⟩
    obtain ⟨q0, q1⟩ := hcell w (Ext.refl _ _) i p hp
    by_cases hif : i = i0
    · subst hif
      have hpp : p = p0 := by have := HP.out; rw [hp] at this; injection this
      rw [hpp, HPV.out.1, HPV.out.2.1, HPV.out.2.2] at q1
      rw [hpp, HK.out] at q0
      subst hwr
      clear hcell hp hpp
      go_wp2
      refine bodyPost_ret (v := .tuple #[.slice pA pn pc, .int .i64 i]) (by simp [results, Try.results37, go_sem]) rfl ⟨rfl, HE.out⟩
    · have hsk := HNe.out i p (by omega) hp
      obtain ⟨s, hs⟩ : ∃ s, p.k = s := ⟨_, rfl⟩
      rw [hs] at q0 hsk
      have hbk : (s.toList == key.toList) = false := baNe s key hsk
      subst hwr
      clear hcell hp hs q1
      go_wp2
      go_roundw
      case rel => exact ⟨i + 1, by go_num, by omega, trivial⟩
      case measure => simp only [intOf]; omega
set_option maxRecDepth 100000 in
set_option maxHeartbeats 1000000 in
theorem rof_out (base c0 c1 n0 : Nat) (A0 A1 : Option Addr) (bs : List Int) (R : List Rk) (key : ByteArray) (w : World) (h : RS base w A0 c0 A1 c1 bs R) (hl : R.length ≤ 1000) (hne : ∀ q ∈ R, ¬ q.k = key) :
    Calls Try.prog 37 #[.agg (rG A0 n0 c0 A1 R.length c1), .string key] w fun e w' => e = .returned (.tuple #[.slice none 0 0, .int .i64 R.length]) ∧ Ext N0 w w' := by
  have HL := Lib.hid h
  have HNe := Lib.hid hne
  obtain ⟨m, hm⟩ : ∃ m, R.length = m := ⟨_, rfl⟩
  rw [hm] at hl ⊢
  have HM := Lib.hid hm
  have hE := (show Ext N0 w (w.alloc (.cells (rG A0 n0 c0 A1 m c1) 30)) from (Ext.refl _ _).alloc _)
  have HE := Lib.hid hE
  have d1 : (w.alloc (.cells (rG A0 n0 c0 A1 m c1) 30)).drew.cell? ⟨w.heap.size, 1, none⟩ = some (.slice A1 m c1) := (blkCell ((Ext.refl N0 _).drew.blk0 (blkNew w (.cells (rG A0 n0 c0 A1 m c1) 30))) 1).trans rfl
  clear h hm hne hE
  go_enter Try.func37, Try.ntmps37
  go_wp2_with fail
  go_loopw [6] (fun v wr => ∃ i : Nat, v = .int .i64 i ∧ i ≤ m ∧ wr = w.alloc (.cells (rG A0 n0 c0 A1 m c1) 30)) (fun v _ => m - (intOf v).toNat)
  case atStart => exact ⟨0, rfl, by omega, rfl⟩
  case round =>
    obtain ⟨i, rfl, hi, hwr⟩ := hrel
    by_cases hlt : i < m
    · have hlt' : (i : Int) < m := by omega
      obtain ⟨g, rfl, hgl, hcell⟩ := HL.out.at (i := i) (by rw [HM.out]; exact hlt)
      obtain ⟨p, hp⟩ : ∃ p, R[i]? = some p := ⟨_, List.getElem?_eq_getElem (by rw [HM.out]; exact hlt)⟩
      obtain ⟨q0, _⟩ := hcell w (Ext.refl _ _) i p hp
      have hsk := HNe.out p (List.mem_of_getElem? hp)
      obtain ⟨s, hs⟩ : ∃ s, p.k = s := ⟨_, rfl⟩
      rw [hs] at q0 hsk
      have hbk : (s.toList == key.toList) = false := baNe s key hsk
      subst hwr
      clear hcell hp hs
      go_wp2
      go_roundw
      case rel => exact ⟨i + 1, by go_num, by omega, trivial⟩
      case measure => simp only [intOf]; omega
    · have hlt' : ¬ (i : Int) < m := by omega
      subst hwr
      go_wp2_with fail
      go_region
      all_goals
        go_wp2
        refine bodyPost_ret (v := .tuple #[.slice none 0 0, .int .i64 m]) (by simp [results, Try.results37, go_sem]) rfl ⟨rfl, HE.out.drew⟩
set_option maxRecDepth 100000 in
set_option maxHeartbeats 1000000 in
theorem rbucket_calls (A0 : Option Addr) (c0 : Nat) (V1 : Value) (bs : List Int) (x : Int) (w : World) (hv : ∃ A n c, V1 = .slice A n c) (h : Reads w A0 (iv bs)) (hl : bs.length ≤ 64) (hs : Srt bs) :
    Calls Try.prog 41 #[.agg #[.slice A0 bs.length c0, V1], .int .i64 x] w fun e w' => e = .returned (.int .i64 (bkt bs x)) ∧ Ext N0 w w' := by
  obtain ⟨A1, n1, c1, rfl⟩ := hv
  have hp := bkt_le x bs
  have HLo := Lib.hid (bkt_lo x bs)
  have HHi := Lib.hid (bkt_hi x bs hs)
  obtain ⟨p, hpe⟩ : ∃ p, bkt bs x = p := ⟨_, rfl⟩
  rw [hpe] at hp HLo HHi ⊢
  obtain ⟨n, hn⟩ : ∃ n, bs.length = n := ⟨_, rfl⟩
  have HN := Lib.hid hn
  have HE := Lib.hid (show Ext N0 w (w.alloc (.cells #[.slice A0 n c0, .slice A1 n1 c1] 30)) from (Ext.refl _ _).alloc _)
  have HR := Lib.hid h
  rw [hn] at hl hp ⊢
  clear h hn hpe hs
  go_enter Try.func41, Try.ntmps41
  go_wp2_with fail
  go_loopw [5] (fun v wr => ∃ i : Nat, v = .int .i64 i ∧ i ≤ p ∧ wr = w.alloc (.cells #[.slice A0 n c0, .slice A1 n1 c1] 30)) (fun v _ => n - (intOf v).toNat)
  case atStart => exact ⟨0, rfl, by omega, rfl⟩
  case round =>
    obtain ⟨i, rfl, hi, hwr⟩ := hrel
    by_cases hlt : i < n
    · have hlt' : (i : Int) < n := by omega
      obtain ⟨ad, rfl, hc⟩ := (HR.out.mono0 HE.out).2 (by rw [iv_len, HN.out]; omega)
      obtain ⟨y, hy⟩ : ∃ y, bs[i]? = some y := ⟨_, List.getElem?_eq_getElem (by rw [HN.out]; exact hlt)⟩
      have cy := hc i _ (iv_get hy)
      by_cases hip : i < p
      · have hyx := HLo.out i y hip hy
        subst hwr
        clear hc hy
        go_wp2
        go_roundw
        case rel => exact ⟨i + 1, by go_num, by omega, trivial⟩
        case measure => simp only [intOf]; omega
      · have hyx := HHi.out i y (by omega) hy
        obtain rfl : i = p := by omega
        subst hwr
        clear hc hy
        go_wp2
        go_ret
        exact ⟨rfl, HE.out⟩
    · have hlt' : ¬ (i : Int) < n := by omega
      obtain rfl : i = p := by omega
      subst hwr
      go_wp2
      go_ret
      exact ⟨rfl, HE.out⟩
end Go.Proofs.Ytcngefpdfkkgdaa
