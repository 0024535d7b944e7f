/- The walk of the law MeterWaits: called with any values that fit its parameters, it returns true and nothing that was in memory before has changed. No other condition. -/
import Derived.Test.YthjeaalnlagpbaaMB4
import Derived.Test.YthjeaalnlagpbaaAw
namespace Go.Proofs.Ythjeaalnlagpbaa
open Go.RowKit Go.Maps
theorem bd8 {n : Int} (h : (Lit.int .u8 n).wf = true) : 0 ≤ n ∧ n ≤ 255 := by
  have hmin : IntKind.u8.min = 0 := rfl
  have hmax : IntKind.u8.max = 255 := rfl
  simp only [Lit.wf, Bool.and_eq_true, decide_eq_true_eq] at h
  omega
theorem new_goodB (r b most : Int) (w : World) (hc : NewOk r b most) : Calls Try.prog 7 #[.int .i64 r, .int .i64 b, .int .i64 most] w fun e w' => e = .returned (.tuple #[.pointer (some ⟨w.heap.size + 1, 0, none⟩), .int .i64 0]) ∧ IsMB w.heap.size w' (w.heap.size + 1) ⟨r, b, most, 0, [], fun _ => (0, 0)⟩ 0 ∧ Ext N0 w w' := by
  refine (new_callsB r b most w).mono ?_
  rintro e w' (⟨_, h⟩ | ⟨hx, _⟩)
  · exact h
  · exact absurd hc hx
/-- A meter with one key, behind i ticks. -/
structure One (a b t : Int) (i : Nat) (m : Mt Bool) : Prop where
  ok : m.Ok
  ks : m.ks = [true]
  r : m.r = a
  b : m.b = b
  now : m.now = i
  f : m.f true = (t, 0)
theorem One.tok {a b t : Int} {i : Nat} {m : Mt Bool} (h : One a b t i m) : m.tok true = min b (t + a * i) := by
  unfold Mt.tok
  rw [if_pos (by rw [h.ks]; simp), h.f, h.r, h.b, h.now]
  simp [afterV]
theorem One.err {a b t : Int} {i : Nat} {m : Mt Bool} (h : One a b t i m) {n : Int} (hn : 1 ≤ n ∧ n ≤ 1000) : m.err true n = 0 ∧ m.ask true n = m := by
  have hk : true ∈ m.ks := by rw [h.ks]; simp
  refine ⟨?_, ?_⟩
  · unfold Mt.err
    rw [if_neg (by omega), if_pos hk]
  · unfold Mt.ask
    rw [if_neg (fun x => x.2 hk)]
theorem One.tick {a b t : Int} {i : Nat} {m : Mt Bool} (h : One a b t i m) (hi : i ≤ 1000) : One a b t (i + 1) (m.tick 1) where
  ok := h.ok.tick 1
  ks := h.ks
  r := h.r
  b := h.b
  now := by
    have := h.now
    show m.now + min (max 0 (min 1 1073741824)) (4611686018427387904 - m.now) = _
    omega
  f := h.f
noncomputable def mw0 (a b : Int) : Mt Bool := ⟨a, b, 2, 0, [], fun _ => (0, 0)⟩
theorem mw_err (a b n : Int) (hn : 1 ≤ n ∧ n ≤ 1000) : (mw0 a b).err true n = 0 := by
  unfold Mt.err
  rw [if_neg (by omega), if_neg (by simp [mw0]), if_neg (by simp [mw0])]
theorem mw_one (a b n : Int) (ha : 1 ≤ a ∧ a ≤ 100) (hb : 1 ≤ b ∧ b ≤ 1000) (hn : 1 ≤ n ∧ n ≤ 1000) : One a b (b - min n b) 0 ((mw0 a b).force true n) := by
  have hok : (mw0 a b).Ok := NewOk.ok (by unfold NewOk; omega) _
  have he := mw_err a b n hn
  have e1 : (mw0 a b).ask true n = ((mw0 a b).push true).set true b := by
    unfold Mt.ask
    rw [if_pos ⟨he, by simp [mw0]⟩]
    rfl
  have e2 : ((mw0 a b).ask true n).tok true = b := by
    rw [e1]
    simp [Mt.tok, Mt.set, Mt.push, mw0, afterV]
  refine ⟨hok.force true n (by omega), ?_, ?_, ?_, ?_, ?_⟩
  all_goals
    unfold Mt.force
    rw [e2, e1]
  · rfl
  · rfl
  · rfl
  · rfl
  · simp [Mt.set, Mt.push, mw0]
namespace meterWaits
theorem few {a k t : Int} (ha : 1 ≤ a) (hk : 0 ≤ t ∧ 1 ≤ k ∧ k ≤ 100) : 0 ≤ (max 0 (k - t) + a - 1) / a ∧ (max 0 (k - t) + a - 1) / a ≤ 100 := by
  refine ⟨Int.ediv_nonneg (by omega) (by omega), ?_⟩
  have h := Int.ediv_mul_le (max 0 (k - t) + a - 1) (show a ≠ 0 by omega)
  by_cases h1 : (max 0 (k - t) + a - 1) / a ≤ 100
  · exact h1
  · have h2 : 101 * a ≤ (max 0 (k - t) + a - 1) / a * a := Int.mul_le_mul_of_nonneg_right (by omega) (by omega)
    omega
theorem sooner {a k t : Int} {i : Nat} (ha : 1 ≤ a) (hi : (i : Int) < (max 0 (k - t) + a - 1) / a) : t + a * i < k := by
  have h := Int.ediv_mul_le (max 0 (k - t) + a - 1) (show a ≠ 0 by omega)
  have h2 : ((i : Int) + 1) * a ≤ (max 0 (k - t) + a - 1) / a * a := Int.mul_le_mul_of_nonneg_right (by omega) (by omega)
  have h3 : ((i : Int) + 1) * a = a * i + a := by rw [Int.add_mul, Int.one_mul, Int.mul_comm]
  have h4 : 0 ≤ a * (i : Int) := Int.mul_nonneg (by omega) (by omega)
  omega
theorem then_ {a k t : Int} {i : Nat} (ha : 1 ≤ a) (hi : (i : Int) = (max 0 (k - t) + a - 1) / a) : k ≤ t + a * i := by
  have h := Int.lt_ediv_add_one_mul_self (max 0 (k - t) + a - 1) (show 0 < a by omega)
  rw [← hi] at h
  have h3 : ((i : Int) + 1) * a = a * i + a := by rw [Int.add_mul, Int.one_mul, Int.mul_comm]
  omega
set_option maxHeartbeats 1000000 in
set_option maxRecDepth 100000 in
theorem walk (a0 a1 a2 a3 : Int) (w : World) (w0 : (Lit.int .u8 a0).wf = true) (w1 : (Lit.int .u8 a1).wf = true) (w2 : (Lit.int .u8 a2).wf = true) (w3 : (Lit.int .u8 a3).wf = true) :
    Calls Try.prog 4 #[.int .u8 a0, .int .u8 a1, .int .u8 a2, .int .u8 a3] w fun e w' => e = .returned (.bool true) ∧ Below w.heap.size w w' := by
  have b0 := bd8 w0
  have b1 := bd8 w1
  have b2 := bd8 w2
  have b3 := bd8 w3
  clear w0 w1 w2 w3
  have e0 : a0.tmod 20 = a0 % 20 := Int.tmod_eq_emod_of_nonneg (by omega)
  have e1 : a1.tmod 100 = a1 % 100 := Int.tmod_eq_emod_of_nonneg (by omega)
  obtain ⟨x, hx, hx0⟩ : ∃ x, a0 % 20 = x ∧ 0 ≤ x ∧ x < 20 := ⟨_, rfl, by omega⟩
  obtain ⟨y, hy, hy0⟩ : ∃ y, a1 % 100 = y ∧ 0 ≤ y ∧ y < 100 := ⟨_, rfl, by omega⟩
  rw [hx] at e0
  rw [hy] at e1
  have e3 : a3.tmod (1 + y) = a3 % (1 + y) := Int.tmod_eq_emod_of_nonneg (by omega)
  obtain ⟨z, hz, hz0⟩ : ∃ z, a3 % (1 + y) = z ∧ 0 ≤ z ∧ z < 1 + y := ⟨_, rfl, Int.emod_nonneg _ (by omega), Int.emod_lt_of_pos _ (by omega)⟩
  rw [hz] at e3
  clear hx hy hz
  have e4 : ((1 + y) == 0) = false := beq_eq_false_iff_ne.mpr (by omega)
  have h1 := mw_one (1 + x) (1 + y) (1 + a2) (by omega) (by omega) (by omega)
  have HN := Lib.hid (new_goodB (1 + x) (1 + y) 2 w (by unfold NewOk; omega))
  have kt : keyOf Try.prog 4 (.bool true) = some (.bool true) := keyOf_bool_mk Try.underlying4 true
  have HF : Hid (∀ w1, w.heap.size ≤ w1.heap.size → IsMB w.heap.size w1 (w.heap.size + 1) (mw0 (1 + x) (1 + y)) 0 → Calls Try.prog 10 #[.pointer (some ⟨w.heap.size + 1, 0, none⟩), .bool true, .int .i64 (1 + a2)] w1 fun e w' => (∃ v, e = .returned v) ∧ IsMB w.heap.size w' (w.heap.size + 1) ((mw0 (1 + x) (1 + y)).force true (1 + a2)) 2 ∧ Ext (TcB w.heap.size w1) w1 w') := by
    refine Lib.hid (fun w1 hw1 h1 => (force_callsB w.heap.size (w.heap.size + 1) 0 _ true (1 + a2) w1 h1 (NewOk.ok (by unfold NewOk; omega) _) kt (by omega) hw1).mono ?_)
    rintro e w' (⟨_, h, h'⟩ | ⟨h, _⟩)
    · exact ⟨⟨_, h⟩, h'⟩
    · exact absurd (mw_err _ _ _ (by omega)) h
  obtain ⟨t, ht, ht0⟩ : ∃ t, 1 + y - min (1 + a2) (1 + y) = t ∧ 0 ≤ t ∧ t ≤ 1 + y := ⟨_, rfl, by omega, by omega⟩
  rw [ht] at h1
  clear ht
  have hW0 := few (a := 1 + x) (k := 1 + z) (t := t) (by omega) (by omega)
  obtain ⟨W, hW⟩ : ∃ W, (max 0 (1 + z - t) + (1 + x) - 1) / (1 + x) = W := ⟨_, rfl⟩
  have HT := fun i => sooner (a := 1 + x) (k := 1 + z) (t := t) (i := i) (by omega)
  have HT2 := fun i => then_ (a := 1 + x) (k := 1 + z) (t := t) (i := i) (by omega)
  rw [hW] at HT HT2 hW0
  have HWc : Hid (∀ w1, IsMB w.heap.size w1 (w.heap.size + 1) ((mw0 (1 + x) (1 + y)).force true (1 + a2)) 2 → Calls Try.prog 13 #[.pointer (some ⟨w.heap.size + 1, 0, none⟩), .bool true, .int .i64 (1 + z)] w1 fun e w' => e = .returned (.tuple #[.int .i64 W, .bool true]) ∧ Ext N0 w1 w') := by
    refine Lib.hid (fun w1 hM => ?_)
    have := wait_callsB w.heap.size (w.heap.size + 1) 2 _ true (1 + z) w1 hM h1.ok kt
    have e5 : ((mw0 (1 + x) (1 + y)).force true (1 + a2)).waits true (1 + z) = (W, true) := by
      unfold Mt.waits
      rw [h1.b, if_neg (by omega), h1.tok, h1.r, ← hW, show min (1 + y) (t + (1 + x) * ((0 : Nat) : Int)) = t by simp; omega]
    rw [e5] at this
    exact this
  have HTk : Hid (∀ (i : Nat) (m : Mt Bool) w1 u, One (1 + x) (1 + y) t i m → (i : Int) < W → w.heap.size ≤ w1.heap.size → u ≤ 70000 → IsMB w.heap.size w1 (w.heap.size + 1) m u → Calls Try.prog 9 #[.pointer (some ⟨w.heap.size + 1, 0, none⟩), .bool true, .int .i64 (1 + z)] w1 fun e w' => e = .returned (.tuple #[.bool false, .int .i64 0]) ∧ IsMB w.heap.size w' (w.heap.size + 1) m (u + 3) ∧ Ext (TcB w.heap.size w1) w1 w') := by
    refine Lib.hid (fun i m w1 u ho hi hw1 hu hM => (take_callsB w.heap.size (w.heap.size + 1) u m true (1 + z) w1 hM ho.ok kt (by omega) hw1).mono ?_)
    have he := ho.err (n := 1 + z) (by omega)
    have hs := HT i hi
    rintro e w' (⟨_, h, _⟩ | ⟨_, _, h, h2, h3⟩ | ⟨h, _⟩)
    · rw [he.2, ho.tok] at h
      omega
    · rw [he.2] at h2
      exact ⟨h, h2, h3⟩
    · exact absurd he.1 h
  have HTk2 : Hid (∀ (i : Nat) (m : Mt Bool) w1 u, One (1 + x) (1 + y) t i m → (i : Int) = W → w.heap.size ≤ w1.heap.size → u ≤ 70000 → IsMB w.heap.size w1 (w.heap.size + 1) m u → Calls Try.prog 9 #[.pointer (some ⟨w.heap.size + 1, 0, none⟩), .bool true, .int .i64 (1 + z)] w1 fun e w' => e = .returned (.tuple #[.bool true, .int .i64 0]) ∧ Ext (TcB w.heap.size w1) w1 w') := by
    refine Lib.hid (fun i m w1 u ho hi hw1 hu hM => (take_callsB w.heap.size (w.heap.size + 1) u m true (1 + z) w1 hM ho.ok kt (by omega) hw1).mono ?_)
    have he := ho.err (n := 1 + z) (by omega)
    have hs := HT2 i hi
    rintro e w' (⟨_, _, h, _, h3⟩ | ⟨_, h, _⟩ | ⟨h, _⟩)
    · exact ⟨h, h3⟩
    · rw [he.2, ho.tok] at h
      omega
    · exact absurd he.1 h
  have H1 := Lib.hid h1
  obtain ⟨M1, hM1⟩ : ∃ M1, (mw0 (1 + x) (1 + y)).force true (1 + a2) = M1 := ⟨_, rfl⟩
  rw [hM1] at HF HWc H1
  clear HT HT2 hW h1 hM1 kt
  go_enter Try.func4, Try.ntmps4
  go_wp2_with (first
    | (go_at_call 7; refine HN.out.mono ?_; rintro e w1 ⟨rfl, hM, hE⟩)
    | (go_at_call 8; refine (awake_calls _).mono ?_; rintro e w2 ⟨rfl, hE2'⟩; have hM2 := hM.kept0 hE2'; have hE2 := hE.then0 hE2'; clear hM hE hE2')
    | (go_at_call 10; refine (HF.out _ hE2.size hM2).mono ?_; rintro e w3 ⟨⟨v, rfl⟩, hM3, hE3'⟩; have hE3 := Ext.of_tc (tcTrans (Ext.of0 hE2) hE3'); clear hM2 hE2 hE3')
    | (go_at_call 13; refine (HWc.out _ hM3).mono ?_; rintro e w4 ⟨rfl, hE4⟩; have HM := Lib.hid (hM3.kept0 hE4); have HE := Lib.hid (hE3.then0 hE4); clear hM3 hE3 hE4))
  go_loopw [16] (fun i wr => ∃ (k : Nat) (m : Mt Bool), i = .int .i64 k ∧ (k : Int) ≤ W ∧ Hid (One (1 + x) (1 + y) t k m) ∧ Hid (IsMB w.heap.size wr (w.heap.size + 1) m (2 + 3 * k)) ∧ Hid (Ext N0 w wr))
    (fun i _ => 201 - (intOf i).toNat)
  case atStart => exact ⟨0, M1, rfl, by omega, H1, HM, HE⟩
  case round =>
    clear HM HE H1
    obtain ⟨k, m, rfl, hk, HO, HM, HE⟩ := hrel
    by_cases hlt : (k : Int) < W
    · go_wp2_with (first
        | (go_at_call 9; refine (HTk.out k m wr _ HO.out hlt HE.out.size (by omega) HM.out).mono ?_; rintro e w1 ⟨rfl, hM1, hE1⟩)
        | (go_at_call 11; refine (tick_callsB _ _ _ m 1 w1 hM1 HO.out.ok).mono ?_; rintro e w2 ⟨rfl, hM2, hE2⟩))
      go_roundw
      case rel => exact ⟨k + 1, m.tick 1, by go_num, by omega, Lib.hid (HO.out.tick (by omega)), Lib.hid (hM2.more (by omega)), Lib.hid (Ext.of_tc (tcTrans (tcTrans (Ext.of0 HE.out) hE1) hE2))⟩
      case measure => simp only [intOf]; omega
    · go_wp2_with (go_at_call 9; refine (HTk2.out k m wr _ HO.out (by omega) HE.out.size (by omega) HM.out).mono ?_; rintro e w1 ⟨rfl, hE1⟩)
      go_ret
      exact ⟨rfl, (Ext.of_tc (tcTrans (Ext.of0 HE.out) hE1)).below⟩
end meterWaits
end Go.Proofs.Ythjeaalnlagpbaa
