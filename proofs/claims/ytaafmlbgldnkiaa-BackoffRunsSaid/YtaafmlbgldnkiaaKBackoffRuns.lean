/- The walk of the law BackoffRuns: called with any values that fit its parameters, it returns true and nothing that was in memory before has changed. No other condition. -/
import Derived.Test.YtaafmlbgldnkiaaB5
import Derived.Test.YtaafmlbgldnkiaaOps
namespace Go.Proofs.Ytaafmlbgldnkiaa
open Go.RowKit Go.ChangeShapes Go.WideShapes
/-- The calls that came in: of each its kind, whether on, its number. -/
def IsOps (w : World) (A : Option Addr) (len cap : Nat) (D : Nat → Int × Bool × Int) : Prop :=
  len ≤ cap ∧ cap ≤ 9223372036854775807 ∧ (0 < len → ∃ a, A = some a ∧ ∀ i, i < len → w.cell? (a.add (i * 3)) = some (.int .u8 (D i).1) ∧ w.cell? ((a.add (i * 3)).add 1) = some (.bool (D i).2.1) ∧ w.cell? ((a.add (i * 3)).add 2) = some (.int .u8 (D i).2.2) ∧ (Lit.int .u8 (D i).1).wf = true ∧ (Lit.int .u8 (D i).2.2).wf = true)
theorem openOps {H : Type} {enc : TypeId × Value → H} {W : World} {A : Option Addr} {len cap : Nat} {x : DataW H × List MemPlace} (h : ∃ m, DataW.trod enc Try.prog W 0 (fun _ => true) true m 22 (Value.slice A len cap).cells.toList = some x) : ∃ D, IsOps W A len cap D := by
  obtain ⟨h1, h2, h3⟩ := openRows 3 Try.underlying22 (by kernel_rfl) h
  rcases Nat.eq_zero_or_pos len with h0 | h0
  · exact ⟨fun _ => (0, false, 0), h1, h2, fun h => absurd h (by omega)⟩
  obtain ⟨a, rfl, h4⟩ := h3 h0
  obtain ⟨D, hD⟩ := Deep.choose_lt (α := Int × Bool × Int) (p := fun i y => W.cell? (a.add (i * 3)) = some (.int .u8 y.1) ∧ W.cell? ((a.add (i * 3)).add 1) = some (.bool y.2.1) ∧ W.cell? ((a.add (i * 3)).add 2) = some (.int .u8 y.2.2) ∧ (Lit.int .u8 y.1).wf = true ∧ (Lit.int .u8 y.2.2).wf = true) (n := len) (fun i hi => by
    obtain ⟨cs, m, y, hl, hc, ht⟩ := h4 i hi
    obtain ⟨xs, n, _, _, _, hx, hf⟩ := DataW.trod_struct Try.underlying33 ht
    have t0 : DataW.trod enc Try.prog W 0 (fun _ => true) true n 5 ((cs.drop 0).take (Try.prog.cellsOf 5)) = xs[0]? := hf 0 _ rfl
    have t1 : DataW.trod enc Try.prog W 0 (fun _ => true) true n 4 ((cs.drop 1).take (Try.prog.cellsOf 4)) = xs[1]? := hf 1 _ rfl
    have t2 : DataW.trod enc Try.prog W 0 (fun _ => true) true n 5 ((cs.drop 2).take (Try.prog.cellsOf 5)) = xs[2]? := hf 2 _ rfl
    rw [show Try.prog.cellsOf 5 = 1 from by kernel_rfl] at t0 t2
    rw [show Try.prog.cellsOf 4 = 1 from by kernel_rfl] at t1
    have hx : xs.length = 3 := hx
    rw [List.getElem?_eq_getElem (by omega)] at t0 t1 t2
    obtain ⟨u0, e0, _, g0⟩ := DataW.trod_int Try.underlying5 t0
    obtain ⟨u1, e1, _⟩ := DataW.trod_bool Try.underlying4 t1
    obtain ⟨u2, e2, _, g2⟩ := DataW.trod_int Try.underlying5 t2
    have c0 := fieldCell hl hc 0 (by decide) e0
    have c1 := fieldCell hl hc 1 (by decide) e1
    have c2 := fieldCell hl hc 2 (by decide) e2
    rw [show (a.add (i * 3)).add 0 = a.add (i * 3) from by simp [Addr.add]] at c0
    exact ⟨(u0, u1, u2), c0, c1, c2, g0, g2⟩)
  exact ⟨D, h1, h2, fun _ => ⟨a, rfl, hD⟩⟩
theorem bd8 {n : Int} (h : (Lit.int .u8 n).wf = true) : 0 ≤ n ∧ n ≤ 255 := by
  have hmin : IntKind.u8.min = 0 := rfl
  have hmax : IntKind.u8.max = 255 := rfl
  simp only [Lit.wf, Bool.and_eq_true, decide_eq_true_eq] at h
  omega
/-- The reference's timer, in its box. -/
def IsR (w : World) (g : Nat) (a : Tm) : Prop := w.heap[g]? = some (.cells #[.int .i64 a.b, .int .i64 a.c, .int .i64 a.v, .int .i64 a.l] 28 (0, 0))
theorem IsR.alls {w : World} {g : Nat} {a : Tm} (h : IsR w g a) :
    w.cell? ⟨g, 0, none⟩ = some (.int .i64 a.b) ∧ w.cell? ⟨g, 1, none⟩ = some (.int .i64 a.c) ∧ w.cell? ⟨g, 2, none⟩ = some (.int .i64 a.v) ∧ w.cell? ⟨g, 3, none⟩ = some (.int .i64 a.l) ∧
    w.frozen? ⟨g, 0, none⟩ = false ∧ w.frozen? ⟨g, 1, none⟩ = false ∧ w.frozen? ⟨g, 2, none⟩ = false ∧ w.frozen? ⟨g, 3, none⟩ = false :=
  ⟨(blkCell h 0).trans rfl, (blkCell h 1).trans rfl, (blkCell h 2).trans rfl, (blkCell h 3).trans rfl, blkFrozen h 0, blkFrozen h 1, blkFrozen h 2, blkFrozen h 3⟩
/-- The reference's timer laid anew into its box. -/
def put4 (w : World) (g : Nat) (a : Tm) : World := (((w.setCell ⟨g, 0, none⟩ (.int .i64 a.b)).setCell ⟨g, 1, none⟩ (.int .i64 a.c)).setCell ⟨g, 2, none⟩ (.int .i64 a.v)).setCell ⟨g, 3, none⟩ (.int .i64 a.l)
theorem put4_ext (w : World) (g : Nat) (a : Tm) : Ext (At g) w (put4 w g a) := ((extSet 0 _).same (extSet 1 _)).same ((extSet 2 _).same (extSet 3 _))
theorem put4_is {w : World} {g : Nat} {a0 : Tm} (h : IsR w g a0) (a : Tm) : IsR (put4 w g a) g a := by
  have h1 := blkSet (blkSet (blkSet (blkSet h 0 (.int .i64 a.b)) 1 (.int .i64 a.c)) 2 (.int .i64 a.v)) 3 (.int .i64 a.l)
  exact h1.trans (by simp)
namespace backoffRuns
set_option maxRecDepth 100000 in
set_option maxHeartbeats 8000000 in
theorem walk (a0 a1 : Int) (a2 : Option Addr) (len2 cap2 : Nat) (z2 : Nat → Int × Bool × Int) (w : World) (_w0 : (Lit.int .i64 a0).wf = true) (_w1 : (Lit.int .i64 a1).wf = true) (w2 : IsOps w a2 len2 cap2 z2) :
    Calls Try.prog 3 #[.int .i64 a0, .int .i64 a1, .slice a2 len2 cap2] w fun e w' => e = .returned (.bool true) ∧ Below w.heap.size w w' := by
  have HW := Lib.hid w2
  clear w2
  go_enter Try.func3, Try.ntmps3
  go_wp2_with fail
  refine (new_calls a0 a1 w).mono ?_
  rintro e w3 ⟨hE3, (⟨hm, rfl⟩ | ⟨hm, g0, hg0, rfl, hT3⟩)⟩
  · have hbad : ¬ (1 ≤ a0 ∧ a0 ≤ a1 ∧ a1 ≤ 1048576) := by
      intro h
      simp [mayB, h] at hm
    clear hm
    go_wp2_with fail
    refine (rnew_bad a0 a1 w3 hbad).mono ?_
    rintro e w4 ⟨rfl, hE4⟩
    go_wp2_with fail
    refine (awake_calls _).mono ?_
    rintro e w5 ⟨rfl, hE5⟩
    have HE := Lib.hid (((hE3.then0 hE4).alloc (.cells #[.int .i64 0, .int .i64 0, .int .i64 0, .int .i64 0] 28)).then0 hE5)
    clear hE3 hE4 hE5
    rcases Nat.eq_zero_or_pos len2 with hl | hl
    · subst hl
      go_wp2_with fail
      go_loopw [7, 11] (fun pa i wr => pa = .pointer none ∧ i = .int .i64 0 ∧ wr = w5) (fun _ _ _ => 0)
      case atStart => exact ⟨rfl, rfl, rfl⟩
      case round =>
        obtain ⟨rfl, rfl, rfl⟩ := hrel
        go_wp2
        go_ret
        exact ⟨rfl, HE.out.below⟩
    · have hl' : (0 : Int) < len2 := by omega
      have hd : decide ((0 : Int) < len2) = true := decide_eq_true hl'
      go_wp2_with fail
      go_loopw [7, 11] (fun pa i wr => pa = .pointer none ∧ i = .int .i64 0 ∧ wr = w5) (fun _ _ _ => 0)
      case atStart => exact ⟨rfl, rfl, rfl⟩
      case round =>
        obtain ⟨rfl, rfl, rfl⟩ := hrel
        go_wp2
        go_ret
        exact ⟨rfl, HE.out.below⟩
  · have hgood : 1 ≤ a0 ∧ a0 ≤ a1 ∧ a1 ≤ 1048576 := by
      simp [mayB] at hm
      omega
    clear hm
    go_wp2_with fail
    refine (rnew_good a0 a1 w3 hgood).mono ?_
    rintro e w4 ⟨rfl, hE4⟩
    go_wp2_with fail
    refine (awake_calls _).mono ?_
    rintro e w5 ⟨rfl, hE5⟩
    have hEa : Ext N0 w4 (w4.alloc (.cells #[.int .i64 a0, .int .i64 a1, .int .i64 a0, .int .i64 0] 28)) := (Ext.refl _ _).alloc _
    have hgl : g0 < w4.heap.size := Nat.lt_of_lt_of_le (blkLt hT3) hE4.size
    have hA5 : IsTm w5 g0 ⟨a0, a1, a0, 0⟩ := hE5.blk0 (hEa.blk0 (hE4.blk0 hT3))
    have hR5 : IsR w5 w4.heap.size ⟨a0, a1, a0, 0⟩ := hE5.blk0 (blkNew _ _)
    have hE : Ext N0 w w5 := ((hE3.then0 hE4).then0 hEa).then0 hE5
    have hrb := (hE3.then0 hE4).size
    obtain ⟨rb, hrb'⟩ : ∃ rb, w4.heap.size = rb := ⟨_, rfl⟩
    rw [hrb'] at hR5 hrb hgl
    simp only [hrb']
    have HA := Lib.hid hA5
    have HR := Lib.hid hR5
    have HE := Lib.hid hE
    have HK : Hid (Tm.Ok ⟨a0, a1, a0, 0⟩) := Lib.hid ⟨hgood.1, hgood.2.1, hgood.2.2, hgood.1, hgood.2.1, Int.le_refl 0, by show (0 : Int) ≤ a1; omega⟩
    have hg0r : g0 ≠ rb := by omega
    clear hE3 hT3 hE4 hE5 hEa hA5 hR5 hE hrb' hgood hgl
    go_wp2_with fail
    go_loopw [7, 11] (fun pa i wr => ∃ (k ga : Nat) (a : Tm), k ≤ 60 ∧ i = .int .i64 k ∧ pa = .pointer (some ⟨ga, 0, none⟩) ∧ w.heap.size ≤ ga ∧ ga ≠ rb ∧ Hid a.Ok ∧ Hid (IsTm wr ga a) ∧ Hid (IsR wr rb a) ∧ Hid (Ext N0 w wr))
      (fun _ i _ => 61 - (intOf i).toNat)
    case atStart => exact ⟨0, g0, ⟨a0, a1, a0, 0⟩, by omega, rfl, rfl, hg0, hg0r, HK, HA, HR, HE⟩
    case round =>
      clear HA HR HE HK hg0r hg0
      obtain ⟨k, ga, a, hk, rfl, rfl, hg1, hg2, HK, HA, HR, HE⟩ := hrel
      obtain ⟨r0, r1, r2, r3, f0, f1, f2, f3⟩ := HR.out.alls
      by_cases hl : k < len2
      · have hl' : (k : Int) < len2 := by omega
        by_cases h6 : k < 60
        · have h6' : (k : Int) < 60 := by omega
          obtain ⟨hx1, hx2, hx3⟩ := HW.out
          obtain ⟨ad, rfl, hc⟩ := hx3 (by omega)
          obtain ⟨c0, c1, c2, b0, b1⟩ := hc k hl
          obtain ⟨d, hd⟩ : ∃ d, (z2 k).1 = d := ⟨_, rfl⟩
          obtain ⟨on, hon⟩ : ∃ on, (z2 k).2.1 = on := ⟨_, rfl⟩
          obtain ⟨n, hnn⟩ : ∃ n, (z2 k).2.2 = n := ⟨_, rfl⟩
          rw [hd] at c0 b0
          rw [hon] at c1
          rw [hnn] at c2 b1
          have b0 := bd8 b0
          have b1 := bd8 b1
          rw [addSucc] at c1 c2
          simp only [Nat.zero_add] at c1
          have C1 := Lib.hid c1
          have c0 := HE.out.cell c0 (fun h => h)
          have c1 := HE.out.cell c1 (fun h => h)
          have c2 := HE.out.cell c2 (fun h => h)
          clear hd hnn hon hc hx1 hx2 hx3
          have hcs : d % 6 = 0 ∨ d % 6 = 1 ∨ d % 6 = 2 ∨ d % 6 = 3 ∨ d % 6 = 4 ∨ d % 6 = 5 := by omega
          rcases hcs with hcs | hcs | hcs | hcs | hcs | hcs
          · have hk' := runA_ok HK.out on
            obtain ⟨a', ha'⟩ : ∃ a', runA a on = a' := ⟨_, rfl⟩
            have hC1 := run_calls ga a on _ HA.out HK.out
            have hC2 := fun W => rrun_calls a on W HK.out
            simp only [ha'] at hC1 hC2 hk'
            unfold agg at hC2
            have HC1 := Lib.hid hC1
            have HC2 := Lib.hid hC2
            have HK9 := Lib.hid hk'
            clear ha' hC1 hC2 hk'
            go_wp2_with fail
            refine HC1.out.mono ?_
            rintro e w6 ⟨rfl, hE6, hA6⟩
            have hR6 : IsR w6 rb a := hE6.blk HR.out (fun h => hg2 h.symm)
            obtain ⟨q0, q1, q2, q3, j0, j1, j2, j3⟩ := hR6.alls
            have HE6 := Lib.hid (atNew HE.out hE6 hg1)
            have HA6 := Lib.hid hA6
            have HR6 := Lib.hid hR6
            clear hE6 hA6 hR6 r0 r1 r2 r3 f0 f1 f2 f3 HA HR HE HC1
            have c1' := HE6.out.cell C1.out (fun h => h)
            have c1d : w6.drew.cell? ⟨(ad.add (k * 3)).block, (ad.add (k * 3)).off + 1, none⟩ = some (.bool on) := c1'
            have hR6d : IsR w6.drew rb a := HR6.out
            obtain ⟨p0, p1, p2, p3, _, _, _, _⟩ := hR6d.alls
            clear hR6d
            go_wp2_with fail
            go_region_with (go_at_call 9; refine (HC2.out _).mono ?_; rintro e w7 ⟨rfl, hE7'⟩; have hE7 : Ext N0 w6 w7 := ((Ext.refl N0 w6).drew).then0 hE7'; have hR7 : IsR w7 rb a := hE7.blk0 HR6.out; have hA7 : IsTm w7 ga a' := hE7.blk0 HA6.out; obtain ⟨m0, m1, m2, m3, i0, i1, i2, i3⟩ := hR7.alls; have HR9 := Lib.hid (put4_is hR7 a'); have HA9 : Hid (IsTm (put4 w7 rb a') ga a') := Lib.hid ((put4_ext _ rb a').blk hA7 hg2); have HE9 := Lib.hid (atNew (HE6.out.then0 hE7) (put4_ext _ rb a') (by omega)); clear hE7' hE7 hR7 hA7)
            all_goals
            go_wp2_with fail
            clear hcs
            go_loopw [13] (fun j wr => ∃ (q : Nat) (a : Tm), q ≤ 0 ∧ j = .int .i64 q ∧ Hid a.Ok ∧ Hid (IsTm wr ga a) ∧ Hid (IsR wr rb a) ∧ Hid (Ext N0 w wr))
              (fun j _ => 60 - (intOf j).toNat)
            case atStart => exact ⟨0, _, by omega, rfl, HK9, HA9, HR9, HE9⟩
            case round =>
              clear HK9 HA9 HR9 HE9
              obtain ⟨q, b, hq, rfl, HKb, HAb, HRb, HEb⟩ := hrel
              obtain ⟨r0, r1, r2, r3, f0, f1, f2, f3⟩ := HRb.out.alls
              by_cases hqn : q < 0
              · exact absurd hqn (Nat.not_lt_zero _)
              · have hqn' : ¬ (q : Int) < (0 : Nat) := by omega
                have hb1 := HKb.out.b1
                go_wp2_with fail
                go_quiet (first
                  | (go_at_call 17; exact Calls.quiet_of_same (wait_calls ga _ _ _ _ _ _ HAb.out hb1))
                  | (go_at_call 18; exact Calls.quiet_of_same (left_calls ga _ _ _ _ _ _ HAb.out hb1))
                  | (go_at_call 19; exact Calls.quiet_of_same (running_calls ga _ _ _ _ _ _ HAb.out hb1)))
                have HA11 : Hid (IsTm (World.drewN wr nq) ga b) := HAb
                have HR11 : Hid (IsR (World.drewN wr nq) rb b) := HRb
                have HE11 := Lib.hid (HEb.out.drewN nq)
                go_wp2
                go_roundw
                case rel => exact ⟨k + 1, ga, b, by omega, by go_num, rfl, by omega, hg2, HKb, HA11, HR11, HE11⟩
                case measure => simp [intOf]; omega
          · have HK9 := HK
            have HA9 := HA
            have HR9 := HR
            have HE9 := HE
            clear HK HA HR HE r0 r1 r2 r3 f0 f1 f2 f3
            go_wp2_with fail
            clear hcs
            go_loopw [13] (fun j wr => ∃ (q : Nat) (a : Tm), q ≤ 1 ∧ j = .int .i64 q ∧ Hid a.Ok ∧ Hid (IsTm wr ga a) ∧ Hid (IsR wr rb a) ∧ Hid (Ext N0 w wr))
              (fun j _ => 60 - (intOf j).toNat)
            case atStart => exact ⟨0, _, by omega, rfl, HK9, HA9, HR9, HE9⟩
            case round =>
              clear HK9 HA9 HR9 HE9
              obtain ⟨q, b, hq, rfl, HKb, HAb, HRb, HEb⟩ := hrel
              obtain ⟨r0, r1, r2, r3, f0, f1, f2, f3⟩ := HRb.out.alls
              by_cases hqn : q < 1
              · have hqn' : (q : Int) < (1 : Nat) := by omega
                have hC2 := fun W => rtick_calls b W HKb.out
                have hk' := tickA_ok HKb.out
                obtain ⟨b', hb'⟩ : ∃ b', tickA b = b' := ⟨_, rfl⟩
                obtain ⟨fi, hfi⟩ : ∃ fi, tickB b = fi := ⟨_, rfl⟩
                have hC1 := fun W hW => tick_calls ga b W hW HKb.out
                simp only [hb', hfi] at hC1 hC2 hk'
                unfold agg at hC2
                have HC1 := Lib.hid hC1
                have HC2 := Lib.hid hC2
                have HK' := Lib.hid hk'
                clear hb' hfi hC1 hC2 hk'
                go_wp2_with fail
                refine (HC2.out _).mono ?_
                rintro e w7 ⟨rfl, hE7⟩
                have hE8 : Ext N0 _ (w7.alloc (.cells #[.int .i64 b'.b, .int .i64 b'.c, .int .i64 b'.v, .int .i64 b'.l] 28)) := hE7.alloc _
                have hR8 : IsR (w7.alloc (.cells #[.int .i64 b'.b, .int .i64 b'.c, .int .i64 b'.v, .int .i64 b'.l] 28)) rb b := hE8.blk0 HRb.out
                have hA8 : IsTm (w7.alloc (.cells #[.int .i64 b'.b, .int .i64 b'.c, .int .i64 b'.v, .int .i64 b'.l] 28)) ga b := hE8.blk0 HAb.out
                obtain ⟨q0, q1, q2, q3, j0, j1, j2, j3⟩ := hR8.alls
                have hR9 := put4_is hR8 b'
                have hA9 : IsTm (put4 (w7.alloc (.cells #[.int .i64 b'.b, .int .i64 b'.c, .int .i64 b'.v, .int .i64 b'.l] 28)) rb b') ga b := (put4_ext _ rb b').blk hA8 hg2
                have HE9 := Lib.hid (atNew (HEb.out.then0 hE8) (put4_ext _ rb b') (by omega))
                have HC3 := Lib.hid (HC1.out _ hA9)
                have HR9 := Lib.hid hR9
                clear hE7 hE8 hR8 hA8 hR9 hA9 r0 r1 r2 r3 f0 f1 f2 f3
                go_wp2_with fail
                refine HC3.out.mono ?_
                rintro e w10 ⟨rfl, hE10, hA10⟩
                have HA10 := Lib.hid hA10
                have HR10 : Hid (IsR w10 rb b') := Lib.hid (hE10.blk HR9.out (fun h => hg2 h.symm))
                have HE10 := Lib.hid (atNew HE9.out hE10 (by omega))
                clear hE10 hA10 HR9 HE9 HC3 q0 q1 q2 q3 j0 j1 j2 j3
                go_wp2
                go_roundw
                case rel =>
                  exact ⟨q + 1, b', by omega, by go_num, HK', HA10, HR10, HE10⟩
                case measure => first | (simp [intOf]; omega) | simp [intOf]
              · have hqn' : ¬ (q : Int) < (1 : Nat) := by omega
                have hb1 := HKb.out.b1
                go_wp2_with fail
                go_quiet (first
                  | (go_at_call 17; exact Calls.quiet_of_same (wait_calls ga _ _ _ _ _ _ HAb.out hb1))
                  | (go_at_call 18; exact Calls.quiet_of_same (left_calls ga _ _ _ _ _ _ HAb.out hb1))
                  | (go_at_call 19; exact Calls.quiet_of_same (running_calls ga _ _ _ _ _ _ HAb.out hb1)))
                have HA11 : Hid (IsTm (World.drewN wr nq) ga b) := HAb
                have HR11 : Hid (IsR (World.drewN wr nq) rb b) := HRb
                have HE11 := Lib.hid (HEb.out.drewN nq)
                go_wp2
                go_roundw
                case rel => exact ⟨k + 1, ga, b, by omega, by go_num, rfl, by omega, hg2, HKb, HA11, HR11, HE11⟩
                case measure => simp [intOf]; omega
          · have hk' := againA_ok HK.out
            obtain ⟨a', ha'⟩ : ∃ a', againA a = a' := ⟨_, rfl⟩
            have hC1 := tagain_calls ga a _ HA.out HK.out
            have hC2 := fun W => ragain_calls a W
            simp only [ha'] at hC1 hC2 hk'
            unfold agg at hC2
            have HC1 := Lib.hid hC1
            have HC2 := Lib.hid hC2
            have HK9 := Lib.hid hk'
            clear ha' hC1 hC2 hk'
            go_wp2_with fail
            refine HC1.out.mono ?_
            rintro e w6 ⟨rfl, hE6, hA6⟩
            have hR6 : IsR w6 rb a := hE6.blk HR.out (fun h => hg2 h.symm)
            obtain ⟨q0, q1, q2, q3, j0, j1, j2, j3⟩ := hR6.alls
            have HE6 := Lib.hid (atNew HE.out hE6 hg1)
            have HA6 := Lib.hid hA6
            have HR6 := Lib.hid hR6
            clear hE6 hA6 hR6 r0 r1 r2 r3 f0 f1 f2 f3 HA HR HE HC1
            go_wp2_with fail
            refine (HC2.out w6).mono ?_
            rintro e w7 ⟨rfl, hE7⟩
            have hR7 : IsR w7 rb a := hE7.blk0 HR6.out
            have hA7 : IsTm w7 ga a' := hE7.blk0 HA6.out
            obtain ⟨m0, m1, m2, m3, i0, i1, i2, i3⟩ := hR7.alls
            have HR9 := Lib.hid (put4_is hR7 a')
            have HA9 : Hid (IsTm (put4 w7 rb a') ga a') := Lib.hid ((put4_ext _ rb a').blk hA7 hg2)
            have HE9 := Lib.hid (atNew (HE6.out.then0 hE7) (put4_ext _ rb a') (by omega))
            clear hE7 hR7 hA7 HE6 HR6 HA6 q0 q1 q2 q3 j0 j1 j2 j3
            go_wp2_with fail
            clear hcs
            go_loopw [13] (fun j wr => ∃ (q : Nat) (a : Tm), q ≤ 0 ∧ j = .int .i64 q ∧ Hid a.Ok ∧ Hid (IsTm wr ga a) ∧ Hid (IsR wr rb a) ∧ Hid (Ext N0 w wr))
              (fun j _ => 60 - (intOf j).toNat)
            case atStart => exact ⟨0, _, by omega, rfl, HK9, HA9, HR9, HE9⟩
            case round =>
              clear HK9 HA9 HR9 HE9
              obtain ⟨q, b, hq, rfl, HKb, HAb, HRb, HEb⟩ := hrel
              obtain ⟨r0, r1, r2, r3, f0, f1, f2, f3⟩ := HRb.out.alls
              by_cases hqn : q < 0
              · exact absurd hqn (Nat.not_lt_zero _)
              · have hqn' : ¬ (q : Int) < (0 : Nat) := by omega
                have hb1 := HKb.out.b1
                go_wp2_with fail
                go_quiet (first
                  | (go_at_call 17; exact Calls.quiet_of_same (wait_calls ga _ _ _ _ _ _ HAb.out hb1))
                  | (go_at_call 18; exact Calls.quiet_of_same (left_calls ga _ _ _ _ _ _ HAb.out hb1))
                  | (go_at_call 19; exact Calls.quiet_of_same (running_calls ga _ _ _ _ _ _ HAb.out hb1)))
                have HA11 : Hid (IsTm (World.drewN wr nq) ga b) := HAb
                have HR11 : Hid (IsR (World.drewN wr nq) rb b) := HRb
                have HE11 := Lib.hid (HEb.out.drewN nq)
                go_wp2
                go_roundw
                case rel => exact ⟨k + 1, ga, b, by omega, by go_num, rfl, by omega, hg2, HKb, HA11, HR11, HE11⟩
                case measure => simp [intOf]; omega
          · have hk' := resetA_ok HK.out
            obtain ⟨a', ha'⟩ : ∃ a', resetA a = a' := ⟨_, rfl⟩
            have hC1 := reset_calls ga a _ HA.out HK.out
            have hC2 := fun W => rreset_calls a W
            simp only [ha'] at hC1 hC2 hk'
            unfold agg at hC2
            have HC1 := Lib.hid hC1
            have HC2 := Lib.hid hC2
            have HK9 := Lib.hid hk'
            clear ha' hC1 hC2 hk'
            go_wp2_with fail
            refine HC1.out.mono ?_
            rintro e w6 ⟨rfl, hE6, hA6⟩
            have hR6 : IsR w6 rb a := hE6.blk HR.out (fun h => hg2 h.symm)
            obtain ⟨q0, q1, q2, q3, j0, j1, j2, j3⟩ := hR6.alls
            have HE6 := Lib.hid (atNew HE.out hE6 hg1)
            have HA6 := Lib.hid hA6
            have HR6 := Lib.hid hR6
            clear hE6 hA6 hR6 r0 r1 r2 r3 f0 f1 f2 f3 HA HR HE HC1
            go_wp2_with fail
            refine (HC2.out w6).mono ?_
            rintro e w7 ⟨rfl, hE7⟩
            have hR7 : IsR w7 rb a := hE7.blk0 HR6.out
            have hA7 : IsTm w7 ga a' := hE7.blk0 HA6.out
            obtain ⟨m0, m1, m2, m3, i0, i1, i2, i3⟩ := hR7.alls
            have HR9 := Lib.hid (put4_is hR7 a')
            have HA9 : Hid (IsTm (put4 w7 rb a') ga a') := Lib.hid ((put4_ext _ rb a').blk hA7 hg2)
            have HE9 := Lib.hid (atNew (HE6.out.then0 hE7) (put4_ext _ rb a') (by omega))
            clear hE7 hR7 hA7 HE6 HR6 HA6 q0 q1 q2 q3 j0 j1 j2 j3
            go_wp2_with fail
            clear hcs
            go_loopw [13] (fun j wr => ∃ (q : Nat) (a : Tm), q ≤ 0 ∧ j = .int .i64 q ∧ Hid a.Ok ∧ Hid (IsTm wr ga a) ∧ Hid (IsR wr rb a) ∧ Hid (Ext N0 w wr))
              (fun j _ => 60 - (intOf j).toNat)
            case atStart => exact ⟨0, _, by omega, rfl, HK9, HA9, HR9, HE9⟩
            case round =>
              clear HK9 HA9 HR9 HE9
              obtain ⟨q, b, hq, rfl, HKb, HAb, HRb, HEb⟩ := hrel
              obtain ⟨r0, r1, r2, r3, f0, f1, f2, f3⟩ := HRb.out.alls
              by_cases hqn : q < 0
              · exact absurd hqn (Nat.not_lt_zero _)
              · have hqn' : ¬ (q : Int) < (0 : Nat) := by omega
                have hb1 := HKb.out.b1
                go_wp2_with fail
                go_quiet (first
                  | (go_at_call 17; exact Calls.quiet_of_same (wait_calls ga _ _ _ _ _ _ HAb.out hb1))
                  | (go_at_call 18; exact Calls.quiet_of_same (left_calls ga _ _ _ _ _ _ HAb.out hb1))
                  | (go_at_call 19; exact Calls.quiet_of_same (running_calls ga _ _ _ _ _ _ HAb.out hb1)))
                have HA11 : Hid (IsTm (World.drewN wr nq) ga b) := HAb
                have HR11 : Hid (IsR (World.drewN wr nq) rb b) := HRb
                have HE11 := Lib.hid (HEb.out.drewN nq)
                go_wp2
                go_roundw
                case rel => exact ⟨k + 1, ga, b, by omega, by go_num, rfl, by omega, hg2, HKb, HA11, HR11, HE11⟩
                case measure => simp [intOf]; omega
          · obtain ⟨m, hm⟩ : ∃ m : Nat, n % 50 = m := ⟨(n % 50).toNat, by omega⟩
            have hm50 : m < 50 := by omega
            have hmt : n.tmod 50 = m := by rw [Int.tmod_eq_emod_of_nonneg (by omega)]; exact hm
            have HK9 := HK
            have HA9 := HA
            have HR9 := HR
            have HE9 := HE
            clear HK HA HR HE r0 r1 r2 r3 f0 f1 f2 f3
            go_wp2_with fail
            clear hcs
            go_loopw [13] (fun j wr => ∃ (q : Nat) (a : Tm), q ≤ m ∧ j = .int .i64 q ∧ Hid a.Ok ∧ Hid (IsTm wr ga a) ∧ Hid (IsR wr rb a) ∧ Hid (Ext N0 w wr))
              (fun j _ => 60 - (intOf j).toNat)
            case atStart => exact ⟨0, _, by omega, rfl, HK9, HA9, HR9, HE9⟩
            case round =>
              clear HK9 HA9 HR9 HE9
              obtain ⟨q, b, hq, rfl, HKb, HAb, HRb, HEb⟩ := hrel
              obtain ⟨r0, r1, r2, r3, f0, f1, f2, f3⟩ := HRb.out.alls
              by_cases hqn : q < m
              · have hqn' : (q : Int) < (m : Nat) := by omega
                have hC2 := fun W => rtick_calls b W HKb.out
                have hk' := tickA_ok HKb.out
                obtain ⟨b', hb'⟩ : ∃ b', tickA b = b' := ⟨_, rfl⟩
                obtain ⟨fi, hfi⟩ : ∃ fi, tickB b = fi := ⟨_, rfl⟩
                have hC1 := fun W hW => tick_calls ga b W hW HKb.out
                simp only [hb', hfi] at hC1 hC2 hk'
                unfold agg at hC2
                have HC1 := Lib.hid hC1
                have HC2 := Lib.hid hC2
                have HK' := Lib.hid hk'
                clear hb' hfi hC1 hC2 hk'
                go_wp2_with fail
                refine (HC2.out _).mono ?_
                rintro e w7 ⟨rfl, hE7⟩
                have hE8 : Ext N0 _ (w7.alloc (.cells #[.int .i64 b'.b, .int .i64 b'.c, .int .i64 b'.v, .int .i64 b'.l] 28)) := hE7.alloc _
                have hR8 : IsR (w7.alloc (.cells #[.int .i64 b'.b, .int .i64 b'.c, .int .i64 b'.v, .int .i64 b'.l] 28)) rb b := hE8.blk0 HRb.out
                have hA8 : IsTm (w7.alloc (.cells #[.int .i64 b'.b, .int .i64 b'.c, .int .i64 b'.v, .int .i64 b'.l] 28)) ga b := hE8.blk0 HAb.out
                obtain ⟨q0, q1, q2, q3, j0, j1, j2, j3⟩ := hR8.alls
                have hR9 := put4_is hR8 b'
                have hA9 : IsTm (put4 (w7.alloc (.cells #[.int .i64 b'.b, .int .i64 b'.c, .int .i64 b'.v, .int .i64 b'.l] 28)) rb b') ga b := (put4_ext _ rb b').blk hA8 hg2
                have HE9 := Lib.hid (atNew (HEb.out.then0 hE8) (put4_ext _ rb b') (by omega))
                have HC3 := Lib.hid (HC1.out _ hA9)
                have HR9 := Lib.hid hR9
                clear hE7 hE8 hR8 hA8 hR9 hA9 r0 r1 r2 r3 f0 f1 f2 f3
                go_wp2_with fail
                refine HC3.out.mono ?_
                rintro e w10 ⟨rfl, hE10, hA10⟩
                have HA10 := Lib.hid hA10
                have HR10 : Hid (IsR w10 rb b') := Lib.hid (hE10.blk HR9.out (fun h => hg2 h.symm))
                have HE10 := Lib.hid (atNew HE9.out hE10 (by omega))
                clear hE10 hA10 HR9 HE9 HC3 q0 q1 q2 q3 j0 j1 j2 j3
                go_wp2
                go_roundw
                case rel =>
                  exact ⟨q + 1, b', by omega, by go_num, HK', HA10, HR10, HE10⟩
                case measure => first | (simp [intOf]; omega) | simp [intOf]
              · have hqn' : ¬ (q : Int) < (m : Nat) := by omega
                have hb1 := HKb.out.b1
                go_wp2_with fail
                go_quiet (first
                  | (go_at_call 17; exact Calls.quiet_of_same (wait_calls ga _ _ _ _ _ _ HAb.out hb1))
                  | (go_at_call 18; exact Calls.quiet_of_same (left_calls ga _ _ _ _ _ _ HAb.out hb1))
                  | (go_at_call 19; exact Calls.quiet_of_same (running_calls ga _ _ _ _ _ _ HAb.out hb1)))
                have HA11 : Hid (IsTm (World.drewN wr nq) ga b) := HAb
                have HR11 : Hid (IsR (World.drewN wr nq) rb b) := HRb
                have HE11 := Lib.hid (HEb.out.drewN nq)
                go_wp2
                go_roundw
                case rel => exact ⟨k + 1, ga, b, by omega, by go_num, rfl, by omega, hg2, HKb, HA11, HR11, HE11⟩
                case measure => simp [intOf]; omega
          · have HF := Lib.hid (fork_calls ga _ _ _ _ _ _ HA.out HK.out.b1)
            have hrl : rb < wr.heap.size := blkLt HR.out
            go_wp2_with fail
            refine HF.out.mono ?_
            rintro e w6 ⟨rfl, hE6, hA6⟩
            have hs1 := HE.out.size
            have HK9 := HK
            have HA9 : Hid (IsTm w6 wr.heap.size a) := Lib.hid hA6
            have HR9 : Hid (IsR w6 rb a) := Lib.hid (hE6.blk0 HR.out)
            have HE9 := Lib.hid (HE.out.then0 hE6)
            obtain ⟨gk, hgk⟩ : ∃ gk, wr.heap.size = gk := ⟨_, rfl⟩
            rw [hgk] at hrl hs1 HA9
            simp only [hgk]
            have hg3 : gk ≠ rb := by omega
            clear hgk HK HA HR HE hE6 hA6 r0 r1 r2 r3 f0 f1 f2 f3 HF
            go_wp2_with fail
            clear hcs
            go_loopw [13] (fun j wr => ∃ (q : Nat) (a : Tm), q ≤ 0 ∧ j = .int .i64 q ∧ Hid a.Ok ∧ Hid (IsTm wr gk a) ∧ Hid (IsR wr rb a) ∧ Hid (Ext N0 w wr))
              (fun j _ => 60 - (intOf j).toNat)
            case atStart => exact ⟨0, _, by omega, rfl, HK9, HA9, HR9, HE9⟩
            case round =>
              clear HK9 HA9 HR9 HE9
              obtain ⟨q, b, hq, rfl, HKb, HAb, HRb, HEb⟩ := hrel
              obtain ⟨r0, r1, r2, r3, f0, f1, f2, f3⟩ := HRb.out.alls
              by_cases hqn : q < 0
              · exact absurd hqn (Nat.not_lt_zero _)
              · have hqn' : ¬ (q : Int) < (0 : Nat) := by omega
                have hb1 := HKb.out.b1
                go_wp2_with fail
                go_quiet (first
                  | (go_at_call 17; exact Calls.quiet_of_same (wait_calls gk _ _ _ _ _ _ HAb.out hb1))
                  | (go_at_call 18; exact Calls.quiet_of_same (left_calls gk _ _ _ _ _ _ HAb.out hb1))
                  | (go_at_call 19; exact Calls.quiet_of_same (running_calls gk _ _ _ _ _ _ HAb.out hb1)))
                have HA11 : Hid (IsTm (World.drewN wr nq) gk b) := HAb
                have HR11 : Hid (IsR (World.drewN wr nq) rb b) := HRb
                have HE11 := Lib.hid (HEb.out.drewN nq)
                go_wp2
                go_roundw
                case rel => exact ⟨k + 1, gk, b, by omega, by go_num, rfl, by omega, hg3, HKb, HA11, HR11, HE11⟩
                case measure => simp [intOf]; omega
        · have h6' : ¬ (k : Int) < 60 := by omega
          go_wp2
          go_ret
          exact ⟨rfl, HE.out.below⟩
      · have hl' : ¬ (k : Int) < len2 := by omega
        go_wp2
        go_ret
        exact ⟨rfl, HE.out.below⟩
end backoffRuns
end Go.Proofs.Ytaafmlbgldnkiaa
