/- The page's example of the score comes out as it should; and the calls that come in. -/
import Derived.Test.YtkkcdijnhegneaaB4
import Derived.Test.YtkkcdijnhegneaaOps
namespace Go.Proofs.Ytkkcdijnhegneaa
open Go.RowKit Go.ChangeShapes Go.WideShapes
/-- The calls that came in: of each its kind and its path. -/
def IsOps (w : World) (A : Option Addr) (len cap : Nat) (D : Nat → Int × Int) : Prop :=
  len ≤ cap ∧ cap ≤ 9223372036854775807 ∧ (0 < len → ∃ a, A = some a ∧ ∀ i, i < len → w.cell? (a.add (i * 2)) = some (.int .u8 (D i).1) ∧ w.cell? ((a.add (i * 2)).add 1) = some (.int .i64 (D i).2) ∧ (Lit.int .u8 (D i).1).wf = true ∧ (Lit.int .i64 (D i).2).wf = true)
theorem openOps {H : Type} {enc : TypeId × Value → H} {W : World} {A : Option Addr} {len cap : Nat} {x : DataW H × List MemPlace} (h : ∃ m, DataW.trod enc Try.prog W 0 (fun _ => true) true m 22 (Value.slice A len cap).cells.toList = some x) : ∃ D, IsOps W A len cap D := by
  obtain ⟨h1, h2, h3⟩ := openRows 2 Try.underlying22 (by kernel_rfl) h
  rcases Nat.eq_zero_or_pos len with h0 | h0
  · exact ⟨fun _ => (0, 0), h1, h2, fun h => absurd h (by omega)⟩
  obtain ⟨a, rfl, h4⟩ := h3 h0
  obtain ⟨D, hD⟩ := Deep.choose_lt (α := Int × Int) (p := fun i y => W.cell? (a.add (i * 2)) = some (.int .u8 y.1) ∧ W.cell? ((a.add (i * 2)).add 1) = some (.int .i64 y.2) ∧ (Lit.int .u8 y.1).wf = true ∧ (Lit.int .i64 y.2).wf = true) (n := len) (fun i hi => by
    obtain ⟨cs, m, y, hl, hc, ht⟩ := h4 i hi
    obtain ⟨y0, y1, n, _, _, t0, t1⟩ := trod_struct2 Try.underlying29 ht
    rw [show Try.prog.cellsOf 5 = 1 from by kernel_rfl] at t0
    rw [show Try.prog.cellsOf 3 = 1 from by kernel_rfl] at t1
    obtain ⟨u0, e0, _, g0⟩ := DataW.trod_int Try.underlying5 t0
    obtain ⟨u1, e1, _, g1⟩ := DataW.trod_int Try.underlying3 t1
    have c0 := fieldCell hl hc 0 (by decide) e0
    have c1 := fieldCell hl hc 1 (by decide) e1
    rw [show (a.add (i * 2)).add 0 = a.add (i * 2) from by simp [Addr.add]] at c0
    exact ⟨(u0, u1), c0, c1, g0, g1⟩)
  exact ⟨D, h1, h2, fun _ => ⟨a, rfl, hD⟩⟩
theorem bd8 {n : Int} (h : (Lit.int .u8 n).wf = true) : 0 ≤ n ∧ n ≤ 255 := by
  have hmin : IntKind.u8.min = 0 := rfl
  have hmax : IntKind.u8.max = 255 := rfl
  simp only [Lit.wf, Bool.and_eq_true, decide_eq_true_eq] at h
  omega
theorem bd64 {n : Int} (h : (Lit.int .i64 n).wf = true) : -9223372036854775808 ≤ n ∧ n ≤ 9223372036854775807 := by
  have hmin : IntKind.i64.min = -9223372036854775808 := rfl
  have hmax : IntKind.i64.max = 9223372036854775807 := rfl
  simp only [Lit.wf, Bool.and_eq_true, decide_eq_true_eq] at h
  omega
/-- The example's score behind so many nacks. -/
def awS (i : Nat) : Sc := if i < 5 then ⟨[⟨0, i, 0, 0⟩, zeroP], 9⟩ else ⟨[⟨0, 0, 0, 9⟩, zeroP], 9⟩
theorem awS_step : ∀ i : Fin 5, (awS i.val).count 0 1 ⟨0, i.val, 0, 0⟩ = awS (i.val + 1) := by
  intro i
  match i with
  | ⟨0, _⟩ => (show _ = _; kernel_rfl)
  | ⟨1, _⟩ => (show _ = _; kernel_rfl)
  | ⟨2, _⟩ => (show _ = _; kernel_rfl)
  | ⟨3, _⟩ => (show _ = _; kernel_rfl)
  | ⟨4, _⟩ => (show _ = _; kernel_rfl)
theorem awS_ok (i : Nat) : (awS i).Ok 5 := by
  unfold awS
  split
  · refine ⟨by simp, by simp, fun p hp => ?_⟩
    rcases List.mem_cons.1 hp with rfl | hp
    · simp; omega
    · rcases List.mem_cons.1 hp with rfl | hp
      · simp [zeroP]
      · simp at hp
  · refine ⟨by simp, by simp, fun p hp => ?_⟩
    rcases List.mem_cons.1 hp with rfl | hp
    · simp
    · rcases List.mem_cons.1 hp with rfl | hp
      · simp [zeroP]
      · simp at hp
theorem awS_act : (awS 5).act = [1] := by decide +kernel
set_option maxRecDepth 100000 in
set_option maxHeartbeats 1000000 in
theorem awake_calls (w : World) : Calls Try.prog 6 #[] w fun e w' => e = .returned (.bool true) ∧ Ext N0 w w' := by
  have HN := Lib.hid (new_good 2 9 w (by omega) (by omega))
  go_enter Try.func6, Try.ntmps6
  go_wp2_with (go_at_call 5; refine HN.out.mono ?_; rintro e w1 ⟨rfl, hS, hE⟩; have HS := Lib.hid hS; have HE := Lib.hid hE; clear hS hE)
  go_loopw [3] (fun v wr => ∃ i : Nat, v = .int .i64 i ∧ i ≤ 5 ∧ Hid (IsSc w.heap.size wr (w.heap.size + 1) (awS i)) ∧ Hid (Ext N0 w wr)) (fun v _ => 5 - (intOf v).toNat)
  case atStart => exact ⟨0, rfl, by omega, HS, HE⟩
  case round =>
    clear HS HE HN
    obtain ⟨i, rfl, hi, HS, HE⟩ := hrel
    by_cases hlt : i < 5
    · have hlt' : (i : Int) < 5 := by omega
      have hst := awS_step ⟨i, hlt⟩
      simp only [] at hst
      have hps : (awS i).ps[0]? = some ⟨0, i, 0, 0⟩ := by unfold awS; rw [if_pos hlt]; rfl
      have HK := nack_calls w.heap.size (w.heap.size + 1) (awS i) 5 0 _ wr HS.out (awS_ok i) (by omega) hps HE.out.size
      rw [hst] at HK
      have HK2 := Lib.hid HK
      clear HK hst hps
      go_wp2_with (go_at_call 7; refine HK2.out.mono ?_; rintro e w2 ⟨rfl, hS2, hE2⟩; have HS2 := Lib.hid hS2; have HE2 := Lib.hid (Ext.of_tp (tpTrans (Ext.of0 HE.out) hE2)); clear hS2 hE2)
      go_roundw
      case rel => exact ⟨i + 1, by go_num, by omega, HS2, HE2⟩
      case measure => simp only [intOf]; omega
    · have hlt' : ¬ (i : Int) < 5 := by omega
      obtain rfl : i = 5 := by omega
      have HA := active_calls w.heap.size (w.heap.size + 1) (awS 5) 5 wr HS.out (awS_ok 5)
      rw [awS_act] at HA
      have HA2 := Lib.hid HA
      have hr := fun W (hW : IsSc w.heap.size W (w.heap.size + 1) (awS 5)) => rests_calls w.heap.size (w.heap.size + 1) (awS 5) 0 W hW (by decide)
      rw [show (awS 5).restV 0 = 9 from by kernel_rfl] at hr
      have HR := Lib.hid hr
      have HO := Lib.hid (fun W (hW : IsSc w.heap.size W (w.heap.size + 1) (awS 5)) => ack_out w.heap.size (w.heap.size + 1) (awS 5) 2 W hW (by decide) (by decide))
      clear HA hr
      go_wp2_with (first
        | (go_at_call 11; refine HA2.out.mono ?_; rintro e w3 ⟨A, c, rfl, ho, hE3⟩; have rd := ownReads1 ho; have HRd := Lib.hid rd; have HE3 := Lib.hid (HE.out.then0 hE3); have HS3 := Lib.hid (HS.out.kept0 hE3); clear ho rd hE3)
        | (go_at_call 15; refine (same_calls A _ [1] 1 _ 1 rfl _ (HRd.out.mono0 ((Ext.refl _ _).alloc _)) (litReads w3 [.int .i64 1] 3 (by simp)) (by omega)).mono ?_; rintro e w4 ⟨rfl, hE4⟩; have HE4 := Lib.hid ((HE3.out.alloc _).then0 hE4); have HS4 := Lib.hid ((HS3.out.kept0 ((Ext.refl _ _).alloc _)).kept0 hE4); clear hE4)
        | (go_at_call 20; refine (HR.out _ HS4.out).mono ?_; rintro e w5 ⟨rfl, rfl⟩)
        | (go_at_call 9; refine (HO.out _ HS4.out).mono ?_; rintro e w6 ⟨rfl, rfl⟩))
      go_ret
      exact ⟨rfl, HE4.out⟩
end Go.Proofs.Ytkkcdijnhegneaa
