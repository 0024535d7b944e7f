/- The walk of the law CutPieces: called with any values that fit its parameters, it returns true and nothing that was in memory before has changed. No other condition. -/
import Derived.Test.YteklmbbbhelkiaaA5
namespace Go.Proofs.Yteklmbbbhelkiaa
open Go.RowKit
theorem cutReads {w : World} {a : Option Addr} {len cap : Nat} {zs : List Int} (h : IsRow .u8 w a len cap zs) :
    ∃ bs : List Int, bs.length = min len 3000 ∧ Reads w a (ints .u8 bs) ∧ len ≤ cap ∧ cap ≤ 9223372036854775807 := by
  obtain ⟨h1, h2, h3, h4, h5⟩ := h.reads
  refine ⟨(zs.take len).take 3000, by rw [List.length_take, h2]; omega, ?_, h3, h4⟩
  have := h1.take 3000
  rwa [show (ints .u8 (zs.take len)).take 3000 = ints .u8 ((zs.take len).take 3000) from by simp [ints]] at this
theorem bd64 {n : Int} (h : (Lit.int .i64 n).wf = true) : -9223372036854775808 ≤ n ∧ n ≤ 9223372036854775807 := by
  have hmin : IntKind.i64.min = -9223372036854775808 := rfl
  have hmax : IntKind.i64.max = 9223372036854775807 := rfl
  simp only [Lit.wf, Bool.and_eq_true, decide_eq_true_eq] at h
  omega
/-- What both cuts hand out, whatever came in. -/
theorem both (A : Option Addr) (c : Nat) (xs : List Int) (m : Int) (w : World) (hr : Reads w A (ints .u8 xs)) (hc : xs.length ≤ c) (hx : xs.length ≤ 3000) (hm : -9223372036854775808 ≤ m ∧ m ≤ 9223372036854775807) :
    ∃ (mtu N : Nat) (er : Int), 1 ≤ mtu ∧ N ≤ 100000 ∧ (∀ k, k < N → k * mtu < xs.length) ∧ ((er = 0 ∧ May xs.length m ∧ m = mtu ∧ cnt xs.length m = N ∧ xs.length ≤ N * mtu) ∨ (er = 110 ∧ N = 0)) ∧
      (Calls Try.prog 6 #[.slice A xs.length c, .int .i64 m] w fun e w' => ∃ (ps : List Pc) (A' : Option Addr) (c' : Nat), e = .returned (.tuple #[.slice A' N c', .int .i64 er]) ∧ Cuts w.heap.size xs mtu A' N c' ps w' ∧ Ext N0 w w') ∧
      (∀ W, Ext N0 w W → Calls Try.prog 7 #[.slice A xs.length c, .int .i64 m] W fun e w' => ∃ (ps : List Pc) (A' : Option Addr) (c' : Nat), e = .returned (.tuple #[.slice A' N c', .int .i64 er]) ∧ Cuts W.heap.size xs mtu A' N c' ps w' ∧ Ext N0 W w') := by
  by_cases h : May xs.length m
  · obtain ⟨mtu, rfl⟩ : ∃ k : Nat, m = k := ⟨m.toNat, by have := h.2; omega⟩
    obtain ⟨N, h1, h2, h3, h4⟩ := cntN h
    have := cnt_bd xs.length mtu
    exact ⟨mtu, N, 0, by have := h.2; omega, by omega, h4, .inl ⟨rfl, h, rfl, h1, h3⟩, cut_cuts A c xs mtu N w hr hc h h3 h4, fun W hW => rcut_yes A c xs mtu N W (hr.mono0 hW) hc h h1 h3 h4⟩
  · refine ⟨1, 0, 110, by omega, by omega, fun k hk => absurd hk (by omega), .inr ⟨rfl, rfl⟩, ?_, fun W hW => ?_⟩
    · refine (cut_no A xs.length c m w h).mono ?_
      rintro e w' ⟨rfl, rfl⟩
      exact ⟨[], none, 0, rfl, ⟨rfl, ownNil _ _ _ _, fun p hp => by cases hp⟩, Ext.refl _ _⟩
    · refine (rcut_no A xs.length c m W (by omega) hm h).mono ?_
      rintro e w' ⟨rfl, rfl⟩
      exact ⟨[], none, 0, rfl, ⟨rfl, ownNil _ _ _ _, fun p hp => by cases hp⟩, Ext.refl _ _⟩
namespace cutPieces
set_option maxHeartbeats 2000000 in
theorem walk (a0 : Option Addr) (len0 cap0 : Nat) (z0 : List Int) (a1 a2 : Int) (w : World) (w0 : IsRow .u8 w a0 len0 cap0 z0) (w1 : (Lit.int .i64 a1).wf = true) (w2 : (Lit.int .i64 a2).wf = true) :
    Calls Try.prog 3 #[.slice a0 len0 cap0, .int .i64 a1, .int .i64 a2] w fun e w' => e = .returned (.bool true) ∧ Below w.heap.size w w' := by
  obtain ⟨bs, hlen, hr, hlc, hcm⟩ := cutReads w0
  have hfew := few_calls a0 len0 cap0 w hlc hcm
  rw [← hlen] at hfew
  obtain ⟨mtu, N, er, hm1, hN1, hN2, _, hcut, hrcut⟩ := both a0 cap0 bs a1 w hr (by omega) (by omega) (bd64 w1)
  have HF := Lib.hid hfew
  have HC := Lib.hid hcut
  have HR := Lib.hid hrcut
  have HN := Lib.hid hN2
  have hb1 := bd64 w1
  have hb2 := bd64 w2
  clear hfew hcut hrcut hN2 hr hlen w0 w1 w2
  go_enter Try.func3, Try.ntmps3
  go_wp2_with fail
  refine HF.out.mono ?_
  rintro e w' ⟨rfl, hw'⟩
  subst hw'
  go_wp2_with fail
  refine HC.out.mono ?_
  rintro e w3 ⟨ps, A3, c3, rfl, hC3, hE3⟩
  go_wp2_with fail
  refine (HR.out _ hE3).mono ?_
  rintro e w4 ⟨qs, A4, c4, rfl, hC4, hE4⟩
  have hS := Lib.hid (sameAll_calls bs mtu N _ _ c3 c4 A3 A4 ps qs w4 (hC3.kept0 hE4) hC4 HN.out hm1 hN1)
  have hz : (er == er) = true := beq_self_eq_true er
  clear hC3 hC4
  go_wp2_with (first
    | (go_at_call 8; refine hS.out.mono ?_; rintro e w5 ⟨rfl, hE5⟩)
    | (go_at_call 9; refine (count_calls a2 a1 _).mono ?_; rintro e w6 ⟨rfl, rfl⟩)
    | (go_at_call 10; refine (rcount_calls a2 a1 _ hb2 hb1).mono ?_; rintro e w7 ⟨rfl, rfl⟩)
    | (go_at_call 11; refine (awake_calls _).mono ?_; rintro e w8 ⟨rfl, hE8⟩))
  go_ret
  exact ⟨rfl, (((hE3.then0 hE4).then0 hE5).then0 hE8).below⟩
end cutPieces
end Go.Proofs.Yteklmbbbhelkiaa
