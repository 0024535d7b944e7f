/- The walk of the law MeterNever: called with any values that fit its parameters, it returns true and nothing that was in memory before has changed. No other condition. -/
import Derived.Test.YthjeaalnlagpbaaMB4
import Derived.Test.YthjeaalnlagpbaaAw
import Derived.Test.YthjeaalnlagpbaaOps
import Derived.ChangeArms
namespace Go.Proofs.Ythjeaalnlagpbaa
open Go.RowKit Go.Maps Go.ChangeShapes Go.WideShapes
/-- The calls that came in: of each its kind, its key, its number. -/
def IsOps (w : World) (A : Option Addr) (len cap : Nat) (D : Nat → Int × ByteArray × Int) : Prop :=
  len ≤ cap ∧ cap ≤ 9223372036854775807 ∧ (0 < len → ∃ a, A = some a ∧ ∀ i, i < len → w.cell? (a.add (i * 3)) = some (.int .u8 (D i).1) ∧ w.cell? ((a.add (i * 3)).add 1) = some (.string (D i).2.1) ∧ w.cell? ((a.add (i * 3)).add 2) = some (.int .i64 (D i).2.2) ∧ (Lit.int .u8 (D i).1).wf = true ∧ (D i).2.1.size ≤ maxLen ∧ (Lit.int .i64 (D i).2.2).wf = true)
theorem openOps {H : Type} {enc : TypeId × Value → H} {W : World} {A : Option Addr} {len cap : Nat} {x : DataW H × List MemPlace} (h : ∃ m, DataW.trod enc Try.prog W 0 (fun _ => true) true m 22 (Value.slice A len cap).cells.toList = some x) : ∃ D, IsOps W A len cap D := by
  obtain ⟨h1, h2, h3⟩ := openRows 3 Try.underlying22 (by kernel_rfl) h
  rcases Nat.eq_zero_or_pos len with h0 | h0
  · exact ⟨fun _ => (0, ByteArray.empty, 0), h1, h2, fun h => absurd h (by omega)⟩
  obtain ⟨a, rfl, h4⟩ := h3 h0
  obtain ⟨D, hD⟩ := Deep.choose_lt (α := Int × ByteArray × Int) (p := fun i y => W.cell? (a.add (i * 3)) = some (.int .u8 y.1) ∧ W.cell? ((a.add (i * 3)).add 1) = some (.string y.2.1) ∧ W.cell? ((a.add (i * 3)).add 2) = some (.int .i64 y.2.2) ∧ (Lit.int .u8 y.1).wf = true ∧ y.2.1.size ≤ maxLen ∧ (Lit.int .i64 y.2.2).wf = true) (n := len) (fun i hi => by
    obtain ⟨cs, m, y, hl, hc, ht⟩ := h4 i hi
    obtain ⟨xs, n, _, _, _, hx, hf⟩ := DataW.trod_struct Try.underlying30 ht
    have t0 : DataW.trod enc Try.prog W 0 (fun _ => true) true n 5 ((cs.drop 0).take (Try.prog.cellsOf 5)) = xs[0]? := hf 0 _ rfl
    have t1 : DataW.trod enc Try.prog W 0 (fun _ => true) true n 9 ((cs.drop 1).take (Try.prog.cellsOf 9)) = xs[1]? := hf 1 _ rfl
    have t2 : DataW.trod enc Try.prog W 0 (fun _ => true) true n 3 ((cs.drop 2).take (Try.prog.cellsOf 3)) = xs[2]? := hf 2 _ rfl
    rw [show Try.prog.cellsOf 5 = 1 from by kernel_rfl] at t0
    rw [show Try.prog.cellsOf 9 = 1 from by kernel_rfl] at t1
    rw [show Try.prog.cellsOf 3 = 1 from by kernel_rfl] at t2
    have hx : xs.length = 3 := hx
    rw [List.getElem?_eq_getElem (by omega)] at t0 t1 t2
    obtain ⟨u0, e0, _, g0⟩ := DataW.trod_int Try.underlying5 t0
    obtain ⟨u1, e1, _, g1⟩ := DataW.trod_string Try.underlying9 t1
    obtain ⟨u2, e2, _, g2⟩ := DataW.trod_int Try.underlying3 t2
    have c0 := fieldCell hl hc 0 (by decide) e0
    have c1 := fieldCell hl hc 1 (by decide) e1
    have c2 := fieldCell hl hc 2 (by decide) e2
    rw [show (a.add (i * 3)).add 0 = a.add (i * 3) from by simp [Addr.add]] at c0
    exact ⟨(u0, u1, u2), c0, c1, c2, g0, g1, g2⟩)
  exact ⟨D, h1, h2, fun _ => ⟨a, rfl, hD⟩⟩
theorem bd8 {n : Int} (h : (Lit.int .u8 n).wf = true) : 0 ≤ n ∧ n ≤ 255 := by
  have hmin : IntKind.u8.min = 0 := rfl
  have hmax : IntKind.u8.max = 255 := rfl
  simp only [Lit.wf, Bool.and_eq_true, decide_eq_true_eq] at h
  omega
theorem bd64 {n : Int} (h : (Lit.int .i64 n).wf = true) : -9223372036854775808 ≤ n ∧ n ≤ 9223372036854775807 := by
  have hmin : IntKind.i64.min = -9223372036854775808 := rfl
  have hmax : IntKind.i64.max = 9223372036854775807 := rfl
  simp only [Lit.wf, Bool.and_eq_true, decide_eq_true_eq] at h
  omega
theorem new_goodB (r b most : Int) (w : World) (hc : NewOk r b most) : Calls Try.prog 7 #[.int .i64 r, .int .i64 b, .int .i64 most] w fun e w' => e = .returned (.tuple #[.pointer (some ⟨w.heap.size + 1, 0, none⟩), .int .i64 0]) ∧ IsMB w.heap.size w' (w.heap.size + 1) ⟨r, b, most, 0, [], fun _ => (0, 0)⟩ 0 ∧ Ext N0 w w' := by
  refine (new_callsB r b most w).mono ?_
  rintro e w' (⟨_, h⟩ | ⟨hx, _⟩)
  · exact h
  · exact absurd hc hx
/-- A meter of which so much was taken, behind so many ticks. -/
structure Nv (a b taken : Int) (ticks : Nat) (m : Mt Bool) : Prop where
  ok : m.Ok
  fr : m.r = a
  fb : m.b = b
  fmost : m.most = 2
  fnow : m.now = ticks
  fks : m.ks = [] ∨ m.ks = [true]
  all : 0 ≤ taken ∧ taken + m.tok true ≤ b + a * (ticks : Int)
section
variable {a b taken : Int} {ticks : Nat} {m : Mt Bool}
theorem Nv.err (h : Nv a b taken ticks m) {n : Int} (hn : 1 ≤ n ∧ n ≤ 1000) : m.err true n = 0 := by
  unfold Mt.err
  rw [if_neg (by omega), h.fmost]
  rcases h.fks with hk | hk
  · rw [if_neg (by rw [hk]; simp), if_neg (by rw [hk]; simp)]
  · rw [if_pos (by rw [hk]; simp)]
theorem Nv.ask (h : Nv a b taken ticks m) {n : Int} (hn : 1 ≤ n ∧ n ≤ 1000) : Nv a b taken ticks (m.ask true n) ∧ (m.ask true n).tok true = m.tok true ∧ (m.ask true n).ks = [true] := by
  have he := h.err hn
  obtain ⟨q1, q2, q3, q4⟩ := Mt.ask_now m true n
  have hks : (m.ask true n).ks = [true] := by
    rcases h.fks with hk | hk
    · unfold Mt.ask
      rw [if_pos ⟨he, by rw [hk]; simp⟩]
      show m.ks ++ [true] = [true]
      rw [hk]
      rfl
    · unfold Mt.ask
      rw [if_neg (by rw [hk]; simp)]
      exact hk
  have ht : (m.ask true n).tok true = m.tok true := by
    rcases h.fks with hk | hk
    · have e1 : (m.ask true n) = (m.push true).set true m.b := by
        unfold Mt.ask
        rw [if_pos ⟨he, by rw [hk]; simp⟩]
      rw [e1]
      have h0 : 0 ≤ m.b := by have := h.ok.b; omega
      simp [Mt.tok, Mt.set, Mt.push, hk, afterV]
    · have e1 : (m.ask true n) = m := by
        unfold Mt.ask
        rw [if_neg (by rw [hk]; simp)]
      rw [e1]
  exact ⟨⟨h.ok.ask true n, q3.trans h.fr, q2.trans h.fb, q4.trans h.fmost, q1.trans h.fnow, .inr hks, by rw [ht]; exact h.all⟩, ht, hks⟩
theorem Nv.force (h : Nv a b taken ticks m) {n : Int} (hn : 1 ≤ n ∧ n ≤ 1000) : Nv a b (taken + min n (m.tok true)) ticks (m.force true n) := by
  obtain ⟨h1, h2, h3⟩ := h.ask hn
  have hok := h.ok.force true n (by omega)
  have ht := h.ok.tok true
  have hall := h.all
  have e : (m.force true n).tok true = m.tok true - min n (m.tok true) := by
    unfold Mt.force
    rw [h2]
    have h5 : (m.ask true n).b = m.b := h1.fb.trans h.fb.symm
    simp only [Mt.tok, Mt.set, h3, List.mem_singleton, if_true, h5]
    simp only [afterV, Int.sub_self, Int.mul_zero, Int.add_zero]
    simp only [Mt.tok] at ht
    omega
  refine ⟨hok, h1.fr, h1.fb, h1.fmost, h1.fnow, .inr h3, by omega, ?_⟩
  rw [e]
  omega
theorem Nv.tick (h : Nv a b taken ticks m) (d : Nat) (hd : d ≤ 4) (ht : ticks ≤ 1000) : Nv a b taken (ticks + d) (m.tick d) := by
  have hr := h.ok.r
  have hrr := h.fr
  have hnow := h.fnow
  have e1 : (m.tick d).now = m.now + d := by
    show m.now + min (max 0 (min (d : Int) 1073741824)) (4611686018427387904 - m.now) = _
    omega
  have hall := h.all
  have hm : a * ((ticks + d : Nat) : Int) = a * ticks + a * d := by rw [Int.natCast_add, Int.mul_add]
  have hm0 : 0 ≤ a * (d : Int) := Int.mul_nonneg (by omega) (by omega)
  refine ⟨h.ok.tick d, h.fr, h.fb, h.fmost, by rw [e1, hnow]; push_cast; rfl, h.fks, hall.1, ?_⟩
  have e2 : (m.tick d).tok true ≤ m.tok true + a * d := by
    unfold Mt.tok
    rw [e1]
    have e3 : (m.tick d).ks = m.ks := rfl
    have e4 : (m.tick d).r = m.r := rfl
    have e5 : (m.tick d).b = m.b := rfl
    have e6 : (m.tick d).f = m.f := rfl
    rw [e3, e4, e5, e6]
    split
    · have e7 : m.r * (m.now + d - (m.f true).2) = m.r * (m.now - (m.f true).2) + a * d := by rw [show m.now + (d : Int) - (m.f true).2 = (m.now - (m.f true).2) + d by omega, Int.mul_add, hrr]
      unfold afterV
      rw [e7]
      omega
    · omega
  omega
end
namespace meterNever
set_option maxRecDepth 100000 in
set_option maxHeartbeats 2000000 in
theorem walk (a0 a1 : Int) (a2 : Option Addr) (len2 cap2 : Nat) (z2 : Nat → Int × ByteArray × Int) (w : World) (w0 : (Lit.int .u8 a0).wf = true) (w1 : (Lit.int .u8 a1).wf = true) (w2 : IsOps w a2 len2 cap2 z2) :
    Calls Try.prog 3 #[.int .u8 a0, .int .u8 a1, .slice a2 len2 cap2] w fun e w' => e = .returned (.bool true) ∧ Below w.heap.size w w' := by
  have b0 := bd8 w0
  have b1 := bd8 w1
  have HW := Lib.hid w2
  clear w0 w1 w2
  have e0 : a0.tmod 20 = a0 % 20 := Int.tmod_eq_emod_of_nonneg (by omega)
  have e1 : a1.tmod 50 = a1 % 50 := Int.tmod_eq_emod_of_nonneg (by omega)
  obtain ⟨x, hx, hx0⟩ : ∃ x, a0 % 20 = x ∧ 0 ≤ x ∧ x < 20 := ⟨_, rfl, by omega⟩
  obtain ⟨y, hy, hy0⟩ : ∃ y, a1 % 50 = y ∧ 0 ≤ y ∧ y < 50 := ⟨_, rfl, by omega⟩
  rw [hx] at e0
  rw [hy] at e1
  clear hx hy
  have HN := Lib.hid (new_goodB (1 + x) (1 + y) 2 w (by unfold NewOk; omega))
  have kt : keyOf Try.prog 4 (.bool true) = some (.bool true) := keyOf_bool_mk Try.underlying4 true
  have h1 : Nv (1 + x) (1 + y) 0 0 ⟨1 + x, 1 + y, 2, 0, [], fun _ => (0, 0)⟩ := ⟨NewOk.ok (by unfold NewOk; omega) _, rfl, rfl, rfl, rfl, .inl rfl, Int.le_refl 0, by simp [Mt.tok]⟩
  have HTk : Hid (∀ (taken : Int) (ticks : Nat) (m : Mt Bool) (n : Int) w1 u, Nv (1 + x) (1 + y) taken ticks m → 1 ≤ n ∧ n ≤ 1000 → w.heap.size ≤ w1.heap.size → u ≤ 70000 → IsMB w.heap.size w1 (w.heap.size + 1) m u → Calls Try.prog 9 #[.pointer (some ⟨w.heap.size + 1, 0, none⟩), .bool true, .int .i64 n] w1 fun e w' => ∃ ok m' taken', e = .returned (.tuple #[.bool ok, .int .i64 0]) ∧ taken' = (if ok = true then taken + n else taken) ∧ Nv (1 + x) (1 + y) taken' ticks m' ∧ IsMB w.heap.size w' (w.heap.size + 1) m' (u + 3) ∧ Ext (TcB w.heap.size w1) w1 w') := by
    refine Lib.hid (fun taken ticks m n w1 u ho hn hw1 hu hM => (take_callsB w.heap.size (w.heap.size + 1) u m true n w1 hM ho.ok kt (by omega) hw1).mono ?_)
    have he := ho.err hn
    obtain ⟨q1, q2, q3⟩ := ho.ask hn
    rintro e w' (⟨_, h, h2, h3, h4⟩ | ⟨_, _, h, h2, h3⟩ | ⟨h, _⟩)
    · rw [q2] at h
      have q4 := ho.force hn
      rw [show min n (m.tok true) = n by omega] at q4
      exact ⟨true, _, _, h2, (if_pos rfl).symm, q4, h3, h4⟩
    · exact ⟨false, _, _, h, rfl, q1, h2, h3⟩
    · exact absurd he h
  have HFc : Hid (∀ (taken : Int) (ticks : Nat) (m : Mt Bool) (n : Int) w1 u, Nv (1 + x) (1 + y) taken ticks m → 1 ≤ n ∧ n ≤ 1000 → w.heap.size ≤ w1.heap.size → u ≤ 70000 → IsMB w.heap.size w1 (w.heap.size + 1) m u → Calls Try.prog 10 #[.pointer (some ⟨w.heap.size + 1, 0, none⟩), .bool true, .int .i64 n] w1 fun e w' => ∃ k m', e = .returned (.tuple #[.int .i64 k, .int .i64 0]) ∧ k ≤ n ∧ 0 ≤ k ∧ Nv (1 + x) (1 + y) (taken + k) ticks m' ∧ IsMB w.heap.size w' (w.heap.size + 1) m' (u + 3) ∧ Ext (TcB w.heap.size w1) w1 w') := by
    refine Lib.hid (fun taken ticks m n w1 u ho hn hw1 hu hM => (force_callsB w.heap.size (w.heap.size + 1) u m true n w1 hM ho.ok kt (by omega) hw1).mono ?_)
    have he := ho.err hn
    obtain ⟨q1, q2, q3⟩ := ho.ask hn
    have q4 := ho.force hn
    have q5 := ho.ok.tok true
    rintro e w' (⟨_, h, h2, h3⟩ | ⟨h, _⟩)
    · rw [q2] at h
      exact ⟨_, _, h, by omega, by omega, q4, h2.more (by omega), h3⟩
    · exact absurd he h
  have HT : Hid (∀ (taken : Int) (ticks : Nat) (m : Mt Bool) w1 u, Nv (1 + x) (1 + y) taken ticks m → IsMB w.heap.size w1 (w.heap.size + 1) m u → Calls Try.prog 12 #[.pointer (some ⟨w.heap.size + 1, 0, none⟩), .bool true] w1 fun e w' => e = .returned (.int .i64 (m.tok true)) ∧ Ext N0 w1 w') :=
    Lib.hid (fun taken ticks m w1 u ho hM => tok_callsB w.heap.size (w.heap.size + 1) u m true w1 hM ho.ok kt)
  have H1 := Lib.hid h1
  clear h1 kt
  go_enter Try.func3, Try.ntmps3
  go_wp2_with (first
    | (go_at_call 7; refine HN.out.mono ?_; rintro e w1 ⟨rfl, hM, hE⟩)
    | (go_at_call 8; refine (awake_calls _).mono ?_; rintro e w2 ⟨rfl, hE2'⟩; have HM := Lib.hid (hM.kept0 hE2'); have HE := Lib.hid (hE.then0 hE2'); clear hM hE hE2'))
  go_loopw [11, 12, 13] (fun tk ti i wr => ∃ (k ticks : Nat) (taken : Int) (m : Mt Bool), k ≤ 80 ∧ tk = .int .i64 taken ∧ ti = .int .i64 ticks ∧ i = .int .i64 k ∧ taken ≤ 40 * k ∧ ticks ≤ 4 * k ∧ 0 ≤ taken ∧ Hid (Nv (1 + x) (1 + y) taken ticks m) ∧ Hid (IsMB w.heap.size wr (w.heap.size + 1) m (3 * k)) ∧ Hid (Ext N0 w wr))
    (fun _ _ i _ => 81 - (intOf i).toNat)
  case atStart => exact ⟨0, 0, 0, _, by omega, rfl, rfl, rfl, by omega, by omega, by omega, H1, HM, HE⟩
  case round =>
    clear HM HE H1
    obtain ⟨k, ticks, taken, m, hk, rfl, rfl, rfl, htk, hti, htk0, HO, HM, HE⟩ := hrel
    by_cases hl : k < len2
    · have hl' : (k : Int) < len2 := by omega
      by_cases h8 : k < 80
      · have h8' : (k : Int) < 80 := by omega
        obtain ⟨hx1, hx2, hx3⟩ := HW.out
        obtain ⟨ad, rfl, hc⟩ := hx3 (by omega)
        obtain ⟨c0, c1, c2, d0, d1, d2⟩ := hc k hl
        obtain ⟨d, hd⟩ : ∃ d, (z2 k).1 = d := ⟨_, rfl⟩
        obtain ⟨n, hnn⟩ : ∃ n, (z2 k).2.2 = n := ⟨_, rfl⟩
        rw [hd] at c0 d0
        rw [hnn] at c2 d2
        have d0 := bd8 d0
        have d2 := bd64 d2
        rw [addSucc] at c2
        have c0 := HE.out.cell c0 (fun h => h)
        have c2 := HE.out.cell c2 (fun h => h)
        clear hd hnn hc hx1 hx2 hx3 c1 d1
        have hw0 : 0 ≤ IntKind.u64.wrap n := by simp [IntKind.wrap, IntKind.bits, IntKind.signed]; omega
        obtain ⟨q, hqe, hq⟩ : ∃ q, (IntKind.u64.wrap n).tmod 40 = q ∧ 0 ≤ q ∧ q < 40 := ⟨_, rfl, by rw [Int.tmod_eq_emod_of_nonneg hw0]; exact Int.emod_nonneg _ (by decide), by rw [Int.tmod_eq_emod_of_nonneg hw0]; exact Int.emod_lt_of_pos _ (by decide)⟩
        clear hw0
        have hcs : d % 4 = 0 ∨ d % 4 = 1 ∨ d % 4 = 2 ∨ d % 4 = 3 := by omega
        rcases hcs with hcs | hcs | hcs | hcs
        · go_wp2_with fail
          refine (HTk.out taken ticks m (1 + q) wr (3 * k) HO.out (by omega) HE.out.size (by omega) HM.out).mono ?_
          rintro e w1 ⟨ok, m', taken', rfl, htk', hO', hM1, hE1⟩
          cases ok
          · have htk2 : taken' = taken := htk'
            clear htk'
            subst htk2
            have hT1 := hO'.ok.tok true
            rw [hO'.fb] at hT1
            have hall := hO'.all
            have HT1 := Lib.hid (fun W (hW : IsMB w.heap.size W (w.heap.size + 1) m' (3 * k + 3)) => HT.out _ _ m' W _ hO' hW)
            have HO1 := Lib.hid hO'
            have HM1 := Lib.hid hM1
            have HE1 := Lib.hid (Ext.of_tc (tcTrans (Ext.of0 HE.out) hE1))
            obtain ⟨t, ht⟩ : ∃ t, m'.tok true = t := ⟨_, rfl⟩
            obtain ⟨p, hp⟩ : ∃ p, (1 + x) * ((ticks : Nat) : Int) = p := ⟨_, rfl⟩
            have hp0 : 0 ≤ p := by rw [← hp]; exact Int.mul_nonneg (by omega) (by omega)
            have hp1 : p ≤ 20 * ((ticks : Nat) : Int) := by rw [← hp]; exact Int.mul_le_mul_of_nonneg_right (by omega) (by omega)
            rw [ht] at hT1 hall HT1
            rw [hp] at hall
            have hall1 := hall.2
            have hlt1 : ¬ (1 + y + p < taken') := by omega
            have hlt2 : ¬ t < 0 := by omega
            have hlt3 : ¬ 1 + y < t := by omega
            clear ht hO' hM1 hE1 hall HO HM HE
            go_wp2_with (first | (go_at_call 12; have hx := hE2; clear hx; refine (HT1.out _ (HM1.out.kept0 hE2)).mono ?_; rintro e w3 ⟨rfl, hE3⟩) | (go_at_call 12; refine (HT1.out _ HM1.out).mono ?_; rintro e w2 ⟨rfl, hE2⟩))
            go_roundw
            case rel => exact ⟨k + 1, ticks, taken', m', by omega, by go_num, by go_num, by go_num, by omega, by omega, by omega, HO1, Lib.hid (((HM1.out.kept0 hE2).kept0 hE3).more (by omega)), Lib.hid ((HE1.out.then0 hE2).then0 hE3)⟩
            case measure => simp only [intOf]; omega
          · have htk2 : taken' = taken + (1 + q) := htk'
            clear htk'
            subst htk2
            have hT1 := hO'.ok.tok true
            rw [hO'.fb] at hT1
            have hall := hO'.all
            have HT1 := Lib.hid (fun W (hW : IsMB w.heap.size W (w.heap.size + 1) m' (3 * k + 3)) => HT.out _ _ m' W _ hO' hW)
            have HO1 := Lib.hid hO'
            have HM1 := Lib.hid hM1
            have HE1 := Lib.hid (Ext.of_tc (tcTrans (Ext.of0 HE.out) hE1))
            obtain ⟨t, ht⟩ : ∃ t, m'.tok true = t := ⟨_, rfl⟩
            obtain ⟨p, hp⟩ : ∃ p, (1 + x) * ((ticks : Nat) : Int) = p := ⟨_, rfl⟩
            have hp0 : 0 ≤ p := by rw [← hp]; exact Int.mul_nonneg (by omega) (by omega)
            have hp1 : p ≤ 20 * ((ticks : Nat) : Int) := by rw [← hp]; exact Int.mul_le_mul_of_nonneg_right (by omega) (by omega)
            rw [ht] at hT1 hall HT1
            rw [hp] at hall
            have hall1 := hall.2
            have hlt1 : ¬ (1 + y + p < taken + (1 + q)) := by omega
            have hlt2 : ¬ t < 0 := by omega
            have hlt3 : ¬ 1 + y < t := by omega
            clear ht hO' hM1 hE1 hall HO HM HE
            go_wp2_with (first | (go_at_call 12; have hx := hE2; clear hx; refine (HT1.out _ (HM1.out.kept0 hE2)).mono ?_; rintro e w3 ⟨rfl, hE3⟩) | (go_at_call 12; refine (HT1.out _ HM1.out).mono ?_; rintro e w2 ⟨rfl, hE2⟩))
            go_roundw
            case rel => exact ⟨k + 1, ticks, (taken + (1 + q)), m', by omega, by go_num, by go_num, by go_num, by omega, by omega, by omega, HO1, Lib.hid (((HM1.out.kept0 hE2).kept0 hE3).more (by omega)), Lib.hid ((HE1.out.then0 hE2).then0 hE3)⟩
            case measure => simp only [intOf]; omega
        · go_wp2_with fail
          refine (HTk.out taken ticks m (1 + q) wr (3 * k) HO.out (by omega) HE.out.size (by omega) HM.out).mono ?_
          rintro e w1 ⟨ok, m', taken', rfl, htk', hO', hM1, hE1⟩
          cases ok
          · have htk2 : taken' = taken := htk'
            clear htk'
            subst htk2
            have hT1 := hO'.ok.tok true
            rw [hO'.fb] at hT1
            have hall := hO'.all
            have HT1 := Lib.hid (fun W (hW : IsMB w.heap.size W (w.heap.size + 1) m' (3 * k + 3)) => HT.out _ _ m' W _ hO' hW)
            have HO1 := Lib.hid hO'
            have HM1 := Lib.hid hM1
            have HE1 := Lib.hid (Ext.of_tc (tcTrans (Ext.of0 HE.out) hE1))
            obtain ⟨t, ht⟩ : ∃ t, m'.tok true = t := ⟨_, rfl⟩
            obtain ⟨p, hp⟩ : ∃ p, (1 + x) * ((ticks : Nat) : Int) = p := ⟨_, rfl⟩
            have hp0 : 0 ≤ p := by rw [← hp]; exact Int.mul_nonneg (by omega) (by omega)
            have hp1 : p ≤ 20 * ((ticks : Nat) : Int) := by rw [← hp]; exact Int.mul_le_mul_of_nonneg_right (by omega) (by omega)
            rw [ht] at hT1 hall HT1
            rw [hp] at hall
            have hall1 := hall.2
            have hlt1 : ¬ (1 + y + p < taken') := by omega
            have hlt2 : ¬ t < 0 := by omega
            have hlt3 : ¬ 1 + y < t := by omega
            clear ht hO' hM1 hE1 hall HO HM HE
            go_wp2_with (first | (go_at_call 12; have hx := hE2; clear hx; refine (HT1.out _ (HM1.out.kept0 hE2)).mono ?_; rintro e w3 ⟨rfl, hE3⟩) | (go_at_call 12; refine (HT1.out _ HM1.out).mono ?_; rintro e w2 ⟨rfl, hE2⟩))
            go_roundw
            case rel => exact ⟨k + 1, ticks, taken', m', by omega, by go_num, by go_num, by go_num, by omega, by omega, by omega, HO1, Lib.hid (((HM1.out.kept0 hE2).kept0 hE3).more (by omega)), Lib.hid ((HE1.out.then0 hE2).then0 hE3)⟩
            case measure => simp only [intOf]; omega
          · have htk2 : taken' = taken + (1 + q) := htk'
            clear htk'
            subst htk2
            have hT1 := hO'.ok.tok true
            rw [hO'.fb] at hT1
            have hall := hO'.all
            have HT1 := Lib.hid (fun W (hW : IsMB w.heap.size W (w.heap.size + 1) m' (3 * k + 3)) => HT.out _ _ m' W _ hO' hW)
            have HO1 := Lib.hid hO'
            have HM1 := Lib.hid hM1
            have HE1 := Lib.hid (Ext.of_tc (tcTrans (Ext.of0 HE.out) hE1))
            obtain ⟨t, ht⟩ : ∃ t, m'.tok true = t := ⟨_, rfl⟩
            obtain ⟨p, hp⟩ : ∃ p, (1 + x) * ((ticks : Nat) : Int) = p := ⟨_, rfl⟩
            have hp0 : 0 ≤ p := by rw [← hp]; exact Int.mul_nonneg (by omega) (by omega)
            have hp1 : p ≤ 20 * ((ticks : Nat) : Int) := by rw [← hp]; exact Int.mul_le_mul_of_nonneg_right (by omega) (by omega)
            rw [ht] at hT1 hall HT1
            rw [hp] at hall
            have hall1 := hall.2
            have hlt1 : ¬ (1 + y + p < taken + (1 + q)) := by omega
            have hlt2 : ¬ t < 0 := by omega
            have hlt3 : ¬ 1 + y < t := by omega
            clear ht hO' hM1 hE1 hall HO HM HE
            go_wp2_with (first | (go_at_call 12; have hx := hE2; clear hx; refine (HT1.out _ (HM1.out.kept0 hE2)).mono ?_; rintro e w3 ⟨rfl, hE3⟩) | (go_at_call 12; refine (HT1.out _ HM1.out).mono ?_; rintro e w2 ⟨rfl, hE2⟩))
            go_roundw
            case rel => exact ⟨k + 1, ticks, (taken + (1 + q)), m', by omega, by go_num, by go_num, by go_num, by omega, by omega, by omega, HO1, Lib.hid (((HM1.out.kept0 hE2).kept0 hE3).more (by omega)), Lib.hid ((HE1.out.then0 hE2).then0 hE3)⟩
            case measure => simp only [intOf]; omega
        · go_wp2_with fail
          refine (HFc.out taken ticks m (1 + q) wr (3 * k) HO.out (by omega) HE.out.size (by omega) HM.out).mono ?_
          rintro e w1 ⟨kk, m', rfl, hk1, hk2, hO', hM1, hE1⟩
          have hT1 := hO'.ok.tok true
          rw [hO'.fb] at hT1
          have hall := hO'.all
          have HT1 := Lib.hid (fun W (hW : IsMB w.heap.size W (w.heap.size + 1) m' (3 * k + 3)) => HT.out _ _ m' W _ hO' hW)
          have HO1 := Lib.hid hO'
          have HM1 := Lib.hid hM1
          have HE1 := Lib.hid (Ext.of_tc (tcTrans (Ext.of0 HE.out) hE1))
          obtain ⟨t, ht⟩ : ∃ t, m'.tok true = t := ⟨_, rfl⟩
          obtain ⟨p, hp⟩ : ∃ p, (1 + x) * ((ticks : Nat) : Int) = p := ⟨_, rfl⟩
          have hp0 : 0 ≤ p := by rw [← hp]; exact Int.mul_nonneg (by omega) (by omega)
          have hp1 : p ≤ 20 * ((ticks : Nat) : Int) := by rw [← hp]; exact Int.mul_le_mul_of_nonneg_right (by omega) (by omega)
          rw [ht] at hT1 hall HT1
          rw [hp] at hall
          have hall1 := hall.2
          have hlt1 : ¬ (1 + y + p < taken + kk) := by omega
          have hlt2 : ¬ t < 0 := by omega
          have hlt3 : ¬ 1 + y < t := by omega
          clear ht hO' hM1 hE1 hall HO HM HE
          go_wp2_with (first | (go_at_call 12; have hx := hE2; clear hx; refine (HT1.out _ (HM1.out.kept0 hE2)).mono ?_; rintro e w3 ⟨rfl, hE3⟩) | (go_at_call 12; refine (HT1.out _ HM1.out).mono ?_; rintro e w2 ⟨rfl, hE2⟩))
          go_roundw
          case rel => exact ⟨k + 1, ticks, (taken + kk), m', by omega, by go_num, by go_num, by go_num, by omega, by omega, by omega, HO1, Lib.hid (((HM1.out.kept0 hE2).kept0 hE3).more (by omega)), Lib.hid ((HE1.out.then0 hE2).then0 hE3)⟩
          case measure => simp only [intOf]; omega
        · obtain ⟨dn, hdn, hdn4⟩ : ∃ dn : Nat, (1 + q).tmod 5 = dn ∧ dn ≤ 4 := ⟨((1 + q) % 5).toNat, by rw [Int.tmod_eq_emod_of_nonneg (by omega)]; omega, by omega⟩
          have hO' := HO.out.tick dn hdn4 (by omega)
          have hti : ticks + dn ≤ 4 * (k + 1) := by omega
          go_wp2_with fail
          refine (tick_callsB w.heap.size (w.heap.size + 1) (3 * k) m dn wr HM.out HO.out.ok).mono ?_
          rintro e w1 ⟨rfl, hM1, hE1⟩
          replace hM1 := hM1.more (show 3 * k ≤ 3 * k + 3 by omega)
          obtain ⟨m', hm'⟩ : ∃ m', m.tick dn = m' := ⟨_, rfl⟩
          rw [hm'] at hO' hM1
          clear hm'
          have hT1 := hO'.ok.tok true
          rw [hO'.fb] at hT1
          have hall := hO'.all
          have HT1 := Lib.hid (fun W (hW : IsMB w.heap.size W (w.heap.size + 1) m' (3 * k + 3)) => HT.out _ _ m' W _ hO' hW)
          have HO1 := Lib.hid hO'
          have HM1 := Lib.hid hM1
          have HE1 := Lib.hid (Ext.of_tc (tcTrans (Ext.of0 HE.out) hE1))
          obtain ⟨t, ht⟩ : ∃ t, m'.tok true = t := ⟨_, rfl⟩
          obtain ⟨p, hp⟩ : ∃ p, (1 + x) * ((ticks + dn : Nat) : Int) = p := ⟨_, rfl⟩
          have hp0 : 0 ≤ p := by rw [← hp]; exact Int.mul_nonneg (by omega) (by omega)
          have hp1 : p ≤ 20 * ((ticks + dn : Nat) : Int) := by rw [← hp]; exact Int.mul_le_mul_of_nonneg_right (by omega) (by omega)
          rw [ht] at hT1 hall HT1
          rw [hp] at hall
          have hp : (1 + x) * ((ticks : Int) + (dn : Int)) = p := by rw [← hp]; push_cast; rfl
          have hall1 := hall.2
          have hlt1 : ¬ (1 + y + p < taken) := by omega
          have hlt2 : ¬ t < 0 := by omega
          have hlt3 : ¬ 1 + y < t := by omega
          clear ht hO' hM1 hE1 hall HO HM HE
          go_wp2_with (first | (go_at_call 12; have hx := hE2; clear hx; refine (HT1.out _ (HM1.out.kept0 hE2)).mono ?_; rintro e w3 ⟨rfl, hE3⟩) | (go_at_call 12; refine (HT1.out _ HM1.out).mono ?_; rintro e w2 ⟨rfl, hE2⟩))
          go_roundw
          case rel => exact ⟨k + 1, ticks + dn, taken, m', by omega, by go_num, by go_num, by go_num, by omega, by omega, by omega, HO1, Lib.hid (((HM1.out.kept0 hE2).kept0 hE3).more (by omega)), Lib.hid ((HE1.out.then0 hE2).then0 hE3)⟩
          case measure => simp only [intOf]; omega
      · have h8' : ¬ (k : Int) < 80 := by omega
        go_wp2
        go_ret
        exact ⟨rfl, HE.out.below⟩
    · have hl' : ¬ (k : Int) < len2 := by omega
      go_wp2
      go_ret
      exact ⟨rfl, HE.out.below⟩
end meterNever
end Go.Proofs.Ythjeaalnlagpbaa
