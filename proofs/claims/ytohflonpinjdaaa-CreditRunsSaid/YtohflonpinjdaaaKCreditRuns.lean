/- The walk of the law CreditRuns: called with any values that fit its parameters, it returns true and nothing that was in memory before has changed. No other condition. -/
import Derived.Test.YtohflonpinjdaaaB3
import Derived.Test.YtohflonpinjdaaaOps
namespace Go.Proofs.Ytohflonpinjdaaa
open Go.RowKit Go.ChangeShapes Go.WideShapes
/-- The calls that came in: of each its kind and its number. -/
def IsOps (w : World) (A : Option Addr) (len cap : Nat) (D : Nat → Int × Int) : Prop :=
  len ≤ cap ∧ cap ≤ 9223372036854775807 ∧ (0 < len → ∃ a, A = some a ∧ ∀ i, i < len → w.cell? (a.add (i * 2)) = some (.int .u8 (D i).1) ∧ w.cell? ((a.add (i * 2)).add 1) = some (.int .i64 (D i).2) ∧ (Lit.int .u8 (D i).1).wf = true ∧ (Lit.int .i64 (D i).2).wf = true)
theorem openOps {H : Type} {enc : TypeId × Value → H} {W : World} {A : Option Addr} {len cap : Nat} {x : DataW H × List MemPlace} (h : ∃ m, DataW.trod enc Try.prog W 0 (fun _ => true) true m 35 (Value.slice A len cap).cells.toList = some x) : ∃ D, IsOps W A len cap D := by
  obtain ⟨h1, h2, h3⟩ := openRows 2 Try.underlying35 (by kernel_rfl) h
  rcases Nat.eq_zero_or_pos len with h0 | h0
  · exact ⟨fun _ => (0, 0), h1, h2, fun h => absurd h (by omega)⟩
  obtain ⟨a, rfl, h4⟩ := h3 h0
  obtain ⟨D, hD⟩ := Deep.choose_lt (α := Int × Int) (p := fun i y => W.cell? (a.add (i * 2)) = some (.int .u8 y.1) ∧ W.cell? ((a.add (i * 2)).add 1) = some (.int .i64 y.2) ∧ (Lit.int .u8 y.1).wf = true ∧ (Lit.int .i64 y.2).wf = true) (n := len) (fun i hi => by
    obtain ⟨cs, m, y, hl, hc, ht⟩ := h4 i hi
    obtain ⟨y0, y1, n, _, _, t0, t1⟩ := trod_struct2 Try.underlying41 ht
    rw [show Try.prog.cellsOf 5 = 1 from by kernel_rfl] at t0
    rw [show Try.prog.cellsOf 3 = 1 from by kernel_rfl] at t1
    obtain ⟨u0, e0, _, g0⟩ := DataW.trod_int Try.underlying5 t0
    obtain ⟨u1, e1, _, g1⟩ := DataW.trod_int Try.underlying3 t1
    have c0 := fieldCell hl hc 0 (by decide) e0
    have c1 := fieldCell hl hc 1 (by decide) e1
    rw [show (a.add (i * 2)).add 0 = a.add (i * 2) from by simp [Addr.add]] at c0
    exact ⟨(u0, u1), c0, c1, g0, g1⟩)
  exact ⟨D, h1, h2, fun _ => ⟨a, rfl, hD⟩⟩
theorem bd8 {n : Int} (h : (Lit.int .u8 n).wf = true) : 0 ≤ n ∧ n ≤ 255 := by
  have hmin : IntKind.u8.min = 0 := rfl
  have hmax : IntKind.u8.max = 255 := rfl
  simp only [Lit.wf, Bool.and_eq_true, decide_eq_true_eq] at h
  omega
theorem bd64 {n : Int} (h : (Lit.int .i64 n).wf = true) : -9223372036854775808 ≤ n ∧ n ≤ 9223372036854775807 := by
  have hmin : IntKind.i64.min = -9223372036854775808 := rfl
  have hmax : IntKind.i64.max = 9223372036854775807 := rfl
  simp only [Lit.wf, Bool.and_eq_true, decide_eq_true_eq] at h
  omega
theorem pull_both (a : Ac) (n : Int) (ok : a.Ok) : ∃ k er p', Ac.Ok { a with p := p' } ∧
    (∀ g w, IsAc w g a → Calls Try.prog 8 #[.pointer (some ⟨g, 0, none⟩), .int .i64 n] w fun e w' => e = .returned (.tuple #[.int .i64 k, .int .i64 er]) ∧ Ext (At g) w w' ∧ IsAc w' g { a with p := p' }) ∧
    (∀ w, Calls Try.prog 19 #[agg a, .int .i64 n] w fun e w' => e = .returned (.tuple #[agg { a with p := p' }, .int .i64 k, .int .i64 er]) ∧ Ext N0 w w') := by
  by_cases hn : 0 ≤ n ∧ n ≤ 1152921504606846976
  · refine ⟨max 0 (n - a.p), 0, max a.p n, ⟨ok.s0, ?_, ?_, ok.t0, ok.tm, ok.f0, ok.fm⟩, fun g w h => pull_to g a n _ _ w h ok hn rfl rfl, fun w => rpull_good a n _ _ w ok hn rfl rfl⟩
    · show a.s ≤ max a.p n
      have := ok.sp
      omega
    · show max a.p n ≤ _
      have := ok.pm
      omega
  · refine ⟨0, 5, a.p, ok, fun g w h => ?_, fun w => rpull_bad a n w (by omega)⟩
    refine (pull_bad g a n w h (by omega)).mono ?_
    rintro e w' ⟨rfl, rfl⟩
    exact ⟨rfl, Ext.refl _ _, h⟩
theorem spendA_ok (a : Ac) (n : Int) (ok : a.Ok) : (spendA a n).Ok := by
  unfold spendA
  split
  · exact ok
  · split
    · exact ok
    · exact ⟨by show 0 ≤ a.s + n; have := ok.s0; omega, by show a.s + n ≤ a.p; omega, ok.pm, ok.t0, ok.tm, ok.f0, ok.fm⟩
theorem spendA_t (a : Ac) (n : Int) : (spendA a n).t = a.t := by
  unfold spendA
  split
  · rfl
  · split <;> rfl
theorem take_ok (a : Ac) (n : Int) (ok : a.Ok) : Ac.Ok { a with f := a.f - takeK a n } := by
  have h : 0 ≤ takeK a n ∧ takeK a n ≤ a.f := by unfold takeK; have := ok.f0; omega
  exact ⟨ok.s0, ok.sp, ok.pm, ok.t0, ok.tm, by show 0 ≤ a.f - takeK a n; omega, by show a.f - takeK a n ≤ 256; have := ok.fm; omega⟩
/-- The reference's account, in its box. -/
def IsR (w : World) (g : Nat) (a : Ac) : Prop := w.heap[g]? = some (.cells #[.int .i64 a.f, .int .i64 a.p, .int .i64 a.s, .int .i64 a.t] 37 (0, 0))
theorem IsR.alls {w : World} {g : Nat} {a : Ac} (h : IsR w g a) :
    w.cell? ⟨g, 0, none⟩ = some (.int .i64 a.f) ∧ w.cell? ⟨g, 1, none⟩ = some (.int .i64 a.p) ∧ w.cell? ⟨g, 2, none⟩ = some (.int .i64 a.s) ∧ w.cell? ⟨g, 3, none⟩ = some (.int .i64 a.t) ∧
    w.frozen? ⟨g, 0, none⟩ = false ∧ w.frozen? ⟨g, 1, none⟩ = false ∧ w.frozen? ⟨g, 2, none⟩ = false ∧ w.frozen? ⟨g, 3, none⟩ = false :=
  ⟨(blkCell h 0).trans rfl, (blkCell h 1).trans rfl, (blkCell h 2).trans rfl, (blkCell h 3).trans rfl, blkFrozen h 0, blkFrozen h 1, blkFrozen h 2, blkFrozen h 3⟩
/-- The reference's account laid anew into its box. -/
def put4 (w : World) (g : Nat) (a : Ac) : World := (((w.setCell ⟨g, 0, none⟩ (.int .i64 a.f)).setCell ⟨g, 1, none⟩ (.int .i64 a.p)).setCell ⟨g, 2, none⟩ (.int .i64 a.s)).setCell ⟨g, 3, none⟩ (.int .i64 a.t)
theorem put4_ext (w : World) (g : Nat) (a : Ac) : Ext (At g) w (put4 w g a) := ((extSet 0 _).same (extSet 1 _)).same ((extSet 2 _).same (extSet 3 _))
theorem put4_is {w : World} {g : Nat} {a0 : Ac} (h : IsR w g a0) (a : Ac) : IsR (put4 w g a) g a := by
  have h1 := blkSet (blkSet (blkSet (blkSet h 0 (.int .i64 a.f)) 1 (.int .i64 a.p)) 2 (.int .i64 a.s)) 3 (.int .i64 a.t)
  exact h1.trans (by simp)
namespace creditRuns
set_option maxRecDepth 100000 in
set_option maxHeartbeats 4000000 in
theorem walk (a0 : Int) (a1 : Option Addr) (len1 cap1 : Nat) (z1 : Nat → Int × Int) (w : World) (_w0 : (Lit.int .i64 a0).wf = true) (w1 : IsOps w a1 len1 cap1 z1) :
    Calls Try.prog 4 #[.int .i64 a0, .slice a1 len1 cap1] w fun e w' => e = .returned (.bool true) ∧ Below w.heap.size w w' := by
  by_cases hn : 0 ≤ a0 ∧ a0 ≤ 256
  · have HW := Lib.hid w1
    clear w1
    go_enter Try.func4, Try.ntmps4
    go_wp2_with fail
    refine (new_calls a0 w hn).mono ?_
    rintro e w3 ⟨rfl, hE3, hA3, hs3⟩
    go_wp2_with fail
    refine (rnew_calls a0 w3 hn).mono ?_
    rintro e w4 ⟨rfl, hE4⟩
    go_wp2_with fail
    refine (awake_calls _).mono ?_
    rintro e w5 ⟨rfl, hE5⟩
    have hEa : Ext N0 w4 (w4.alloc (.cells #[.int .i64 a0, .int .i64 0, .int .i64 0, .int .i64 0] 37)) := (Ext.refl _ _).alloc _
    have hA5 : IsAc w5 w.heap.size ⟨0, 0, 0, a0⟩ := hE5.blk0 (hEa.blk0 (hE4.blk0 hA3))
    have hR5 : IsR w5 w4.heap.size ⟨0, 0, 0, a0⟩ := hE5.blk0 (blkNew _ _)
    have hE : Ext N0 w w5 := ((hE3.then0 hE4).then0 hEa).then0 hE5
    have hrb := hE4.size
    rw [hs3] at hrb
    obtain ⟨rb, hrb'⟩ : ∃ rb, w4.heap.size = rb := ⟨_, rfl⟩
    rw [hrb'] at hR5 hrb
    simp only [hrb']
    have HA := Lib.hid hA5
    have HR := Lib.hid hR5
    have HE := Lib.hid hE
    have HK : Hid (Ac.Ok ⟨0, 0, 0, a0⟩) := Lib.hid ⟨Int.le_refl 0, Int.le_refl 0, by show (0 : Int) ≤ _; decide, Int.le_refl 0, by show (0 : Int) ≤ _; decide, hn.1, hn.2⟩
    clear hE3 hA3 hs3 hE4 hE5 hEa hA5 hR5 hE hrb' hn
    go_wp2_with fail
    go_loopw [5, 9] (fun pa i wr => ∃ (k ga : Nat) (ac : Ac), k ≤ 60 ∧ i = .int .i64 k ∧ pa = .pointer (some ⟨ga, 0, none⟩) ∧ w.heap.size ≤ ga ∧ ga ≠ rb ∧ Hid ac.Ok ∧ ac.t ≤ k ∧ Hid (IsAc wr ga ac) ∧ Hid (IsR wr rb ac) ∧ Hid (Ext N0 w wr))
      (fun _ i _ => 61 - (intOf i).toNat)
    case atStart => exact ⟨0, w.heap.size, ⟨0, 0, 0, a0⟩, by omega, rfl, rfl, by omega, by omega, HK, by simp, HA, HR, HE⟩
    case round =>
      clear HA HR HE HK
      obtain ⟨k, ga, ac, hk, rfl, rfl, hg1, hg2, HK, ht, HA, HR, HE⟩ := hrel
      have r0 := (blkCell HR.out 0).trans rfl
      have r1 := (blkCell HR.out 1).trans rfl
      have r2 := (blkCell HR.out 2).trans rfl
      have r3 := (blkCell HR.out 3).trans rfl
      simp at r0 r1 r2 r3
      by_cases hl : k < len1
      · have hl' : (k : Int) < len1 := by omega
        by_cases h6 : k < 60
        · have h6' : (k : Int) < 60 := by omega
          obtain ⟨hx1, hx2, hx3⟩ := HW.out
          obtain ⟨ad, rfl, hc⟩ := hx3 (by omega)
          obtain ⟨c0, c1, b0, b1⟩ := hc k hl
          obtain ⟨d, hd⟩ : ∃ d, (z1 k).1 = d := ⟨_, rfl⟩
          obtain ⟨n, hnn⟩ : ∃ n, (z1 k).2 = n := ⟨_, rfl⟩
          rw [hd] at c0 b0
          rw [hnn] at c1 b1
          have b0 := bd8 b0
          have b1 := bd64 b1
          have c0 := HE.out.cell c0 (fun h => h)
          have c1 := HE.out.cell c1 (fun h => h)
          rw [addSucc] at c1
          simp only [Nat.zero_add] at c1
          clear hd hnn hc hx1 hx2 hx3
          have hE1 : Ext N0 wr (wr.alloc (.cells #[.int .u8 d, .int .i64 n] 41)) := (Ext.refl _ _).alloc _
          have hO1 : (wr.alloc (.cells #[.int .u8 d, .int .i64 n] 41)).heap[wr.heap.size]? = some (.cells #[.int .u8 d, .int .i64 n] 41 (0, 0)) := blkNew _ _
          have hA1 : IsAc (wr.alloc (.cells #[.int .u8 d, .int .i64 n] 41)) ga ac := hE1.blk0 HA.out
          have hR1 : IsR (wr.alloc (.cells #[.int .u8 d, .int .i64 n] 41)) rb ac := hE1.blk0 HR.out
          have hgl : ga < wr.heap.size := blkLt HA.out
          have hrl : rb < wr.heap.size := blkLt HR.out
          have HE1 := Lib.hid (HE.out.then0 hE1)
          have HA1 := Lib.hid hA1
          have HR1 := Lib.hid hR1
          have HO1 := Lib.hid hO1
          have hs1 := HE.out.size
          clear hE1 hA1 hR1 hO1
          have hcs : (d % 8 = 3 ∨ d % 8 = 4) ∨ d % 8 = 5 ∨ d % 8 = 6 ∨ d % 8 = 7 ∨ ((d % 8 == 3) = false ∧ (d % 8 == 4) = false ∧ (d % 8 == 5) = false ∧ (d % 8 == 6) = false ∧ (d % 8 == 7) = false) := by
            simp only [beq_eq_false_iff_ne]
            omega
          rcases hcs with hcs | hcs | hcs | hcs | ⟨e3, e4, e5, e6, e7⟩
          · obtain ⟨ac', hac'⟩ : ∃ ac', spendA ac n = ac' := ⟨_, rfl⟩
            obtain ⟨er, her⟩ : ∃ er, spendE ac n = er := ⟨_, rfl⟩
            have hk' := spendA_ok ac n HK.out
            have ht' := spendA_t ac n
            have hC1 := spend_calls ga ac n _ HA1.out HK.out
            have hC2 := fun W => rspend_calls ac n W HK.out
            rw [hac'] at hk' ht'
            simp only [hac', her] at hC1 hC2
            unfold agg at hC2
            have HC1 := Lib.hid hC1
            have HC2 := Lib.hid hC2
            have HK' := Lib.hid hk'
            have HT := Lib.hid ht'
            clear ht' hac' her hk' hC1 hC2
            rcases hcs with hcs | hcs
            all_goals
              go_wp2_with fail
              refine HC1.out.mono ?_
              rintro e w6 ⟨rfl, hE6, hA6⟩
              have hR6 : IsR w6 rb ac := hE6.blk HR1.out (fun h => hg2 h.symm)
              have hO6 := hE6.blk HO1.out (show ¬ wr.heap.size = ga by omega)
              have HE6 := Lib.hid (atNew HE1.out hE6 hg1)
              have o1 := (blkCell hO6 1).trans rfl
              obtain ⟨r0, r1, r2, r3, _, _, _, _⟩ := hR6.alls
              simp at o1
              have HA6 := Lib.hid hA6
              have HR6 := Lib.hid hR6
              clear hE6 hA6 hR6 hO6 HA1 HR1 HO1 HE1 HC1
              go_wp2_with fail
              refine (HC2.out w6).mono ?_
              rintro e w7 ⟨rfl, hE7⟩
              have hE8 : Ext N0 w6 (w7.alloc (.cells #[.int .i64 ac'.f, .int .i64 ac'.p, .int .i64 ac'.s, .int .i64 ac'.t] 37)) := hE7.alloc _
              have hR8 : IsR (w7.alloc (.cells #[.int .i64 ac'.f, .int .i64 ac'.p, .int .i64 ac'.s, .int .i64 ac'.t] 37)) rb ac := hE8.blk0 HR6.out
              have hA8 : IsAc (w7.alloc (.cells #[.int .i64 ac'.f, .int .i64 ac'.p, .int .i64 ac'.s, .int .i64 ac'.t] 37)) ga ac' := hE8.blk0 HA6.out
              obtain ⟨q0, q1, q2, q3, f0, f1, f2, f3⟩ := hR8.alls
              have hR9 := put4_is hR8 ac'
              have hA9 : IsAc (put4 (w7.alloc (.cells #[.int .i64 ac'.f, .int .i64 ac'.p, .int .i64 ac'.s, .int .i64 ac'.t] 37)) rb ac') ga ac' := (put4_ext _ rb ac').blk hA8 hg2
              have HE9 := Lib.hid (atNew (HE6.out.then0 hE8) (put4_ext _ rb ac') (by omega))
              have HS := Lib.hid (same_calls ga ac' _ hA9 HK'.out)
              have HA9 := Lib.hid hA9
              have HR9 := Lib.hid hR9
              clear hE7 hE8 hR8 hA8 HA6 HR6 HE6 r0 r1 r2 r3 o1 hR9 hA9
              go_wp2_with fail
              refine HS.out.mono ?_
              rintro e w10 ⟨rfl, hE10⟩
              have HA10 : Hid (IsAc w10 ga ac') := Lib.hid (hE10.blk0 HA9.out)
              have HR10 : Hid (IsR w10 rb ac') := Lib.hid (hE10.blk0 HR9.out)
              have HE10 := Lib.hid (HE9.out.then0 hE10)
              have ht10 : ac'.t ≤ ((k + 1 : Nat) : Int) := by have := HT.out; omega
              clear hE10 HA9 HR9 HE9 HS q0 q1 q2 q3 f0 f1 f2 f3
              go_wp2
              go_roundw
              case rel => exact ⟨k + 1, ga, ac', by omega, by go_num, rfl, hg1, hg2, HK', ht10, HA10, HR10, HE10⟩
              case measure => simp [intOf]; omega
          · obtain ⟨_, _, _, u3, _, _, _, g3⟩ := HR1.out.alls
            obtain ⟨ac', hac'⟩ : ∃ ac', ({ ac with t := ac.t + 1 } : Ac) = ac' := ⟨_, rfl⟩
            have hk' : ac'.Ok := by
              rw [← hac']
              have k := HK.out
              exact ⟨k.s0, k.sp, k.pm, by show 0 ≤ ac.t + 1; have := k.t0; omega, by show ac.t + 1 ≤ 100000; omega, k.f0, k.fm⟩
            have ht' : ac'.t = ac.t + 1 := by rw [← hac']
            have hx0 : Ext (At rb) wr (wr.setCell ⟨rb, 3, none⟩ (.int .i64 (ac.t + 1))) := extSet 3 _
            have hx1 : Ext N0 (wr.setCell ⟨rb, 3, none⟩ (.int .i64 (ac.t + 1))) (((wr.setCell ⟨rb, 3, none⟩ (.int .i64 (ac.t + 1))).alloc (.cells #[.int .u8 d, .int .i64 n] 41)).drew) := ((Ext.refl N0 _).alloc _).drew
            have hR0 : IsR (wr.setCell ⟨rb, 3, none⟩ (.int .i64 (ac.t + 1))) rb ac' := by
              rw [← hac']
              exact (blkSet HR.out 3 (.int .i64 (ac.t + 1))).trans (by simp)
            have hR2 : IsR (((wr.setCell ⟨rb, 3, none⟩ (.int .i64 (ac.t + 1))).alloc (.cells #[.int .u8 d, .int .i64 n] 41)).drew) rb ac' := hx1.blk0 hR0
            have hA2 : IsAc (((wr.setCell ⟨rb, 3, none⟩ (.int .i64 (ac.t + 1))).alloc (.cells #[.int .u8 d, .int .i64 n] 41)).drew) ga ac := hx1.blk0 (hx0.blk HA.out hg2)
            have hE2 := (atNew HE.out hx0 (by omega)).then0 hx1
            have hC1 := timer_calls ga ac _ hA2 HK.out
            rw [hac'] at hC1
            have v3 := hR2.alls.2.2.2.1
            rw [ht'] at v3
            have HC1 := Lib.hid hC1
            have HK' := Lib.hid hk'
            have HT := Lib.hid ht'
            have HR2 := Lib.hid hR2
            have HE2 := Lib.hid hE2
            clear ht' hac' hk' hC1 hR2 hx0 hx1 hR0 hA2 hE2
            have htb : ac.t + 1 ≤ 100 := by omega
            have htc : 0 ≤ ac.t := HK.out.t0
            go_wp2_with fail
            go_region_with (go_at_call 15; refine HC1.out.mono ?_; rintro e w6 ⟨rfl, hE6, hA6⟩; have hR6 : IsR w6 rb ac' := hE6.blk HR2.out (fun h => hg2 h.symm); have HE6 := Lib.hid (atNew HE2.out hE6 hg1); obtain ⟨r0, r1, r2, r3', _, _, _, _⟩ := hR6.alls; have r3 := r3'; rw [HT.out] at r3; have HA6 := Lib.hid hA6; have HR6 := Lib.hid hR6; clear hE6 hA6 hR6 r3')
            all_goals
              have hS := same_calls ga ac' _ HA6.out HK'.out
              unfold agg at hS
              rw [HT.out] at hS
              have HS := Lib.hid hS
              clear hS
              go_wp2_with fail
              refine HS.out.mono ?_
              rintro e w10 ⟨rfl, hE10⟩
              have HA10 : Hid (IsAc w10 ga ac') := Lib.hid (hE10.blk0 HA6.out)
              have HR10 : Hid (IsR w10 rb ac') := Lib.hid (hE10.blk0 HR6.out)
              have HE10 := Lib.hid (HE6.out.then0 hE10)
              have ht10 : ac'.t ≤ ((k + 1 : Nat) : Int) := by have := HT.out; omega
              clear hE10
              go_wp2
              go_roundw
              case rel => exact ⟨k + 1, ga, ac', by omega, by go_num, rfl, hg1, hg2, HK', ht10, HA10, HR10, HE10⟩
              case measure => simp [intOf]; omega
          · obtain ⟨kk, hkk⟩ : ∃ kk, takeK ac n = kk := ⟨_, rfl⟩
            have hk' := take_ok ac n HK.out
            have hC1 := take_calls ga ac n _ HA1.out HK.out
            have hC2 := fun W => rtake_calls ac n W HK.out
            rw [hkk] at hk' hC1
            simp only [hkk] at hC2
            obtain ⟨ac', hac'⟩ : ∃ ac', ({ ac with f := ac.f - kk } : Ac) = ac' := ⟨_, rfl⟩
            have ht' : ac'.t = ac.t := by rw [← hac']
            simp only [hac'] at hC1 hC2 hk'
            unfold agg at hC2
            have HC1 := Lib.hid hC1
            have HC2 := Lib.hid hC2
            have HK' := Lib.hid hk'
            have HT := Lib.hid ht'
            clear ht' hac' hk' hC1 hC2 hkk
            all_goals
              go_wp2_with fail
              refine HC1.out.mono ?_
              rintro e w6 ⟨rfl, hE6, hA6⟩
              have hR6 : IsR w6 rb ac := hE6.blk HR1.out (fun h => hg2 h.symm)
              have hO6 := hE6.blk HO1.out (show ¬ wr.heap.size = ga by omega)
              have HE6 := Lib.hid (atNew HE1.out hE6 hg1)
              have o1 := (blkCell hO6 1).trans rfl
              obtain ⟨r0, r1, r2, r3, _, _, _, _⟩ := hR6.alls
              simp at o1
              have HA6 := Lib.hid hA6
              have HR6 := Lib.hid hR6
              clear hE6 hA6 hR6 hO6 HA1 HR1 HO1 HE1 HC1
              go_wp2_with fail
              refine (HC2.out w6).mono ?_
              rintro e w7 ⟨rfl, hE7⟩
              have hE8 : Ext N0 w6 (w7.alloc (.cells #[.int .i64 ac'.f, .int .i64 ac'.p, .int .i64 ac'.s, .int .i64 ac'.t] 37)) := hE7.alloc _
              have hR8 : IsR (w7.alloc (.cells #[.int .i64 ac'.f, .int .i64 ac'.p, .int .i64 ac'.s, .int .i64 ac'.t] 37)) rb ac := hE8.blk0 HR6.out
              have hA8 : IsAc (w7.alloc (.cells #[.int .i64 ac'.f, .int .i64 ac'.p, .int .i64 ac'.s, .int .i64 ac'.t] 37)) ga ac' := hE8.blk0 HA6.out
              obtain ⟨q0, q1, q2, q3, f0, f1, f2, f3⟩ := hR8.alls
              have hR9 := put4_is hR8 ac'
              have hA9 : IsAc (put4 (w7.alloc (.cells #[.int .i64 ac'.f, .int .i64 ac'.p, .int .i64 ac'.s, .int .i64 ac'.t] 37)) rb ac') ga ac' := (put4_ext _ rb ac').blk hA8 hg2
              have HE9 := Lib.hid (atNew (HE6.out.then0 hE8) (put4_ext _ rb ac') (by omega))
              have HS := Lib.hid (same_calls ga ac' _ hA9 HK'.out)
              have HA9 := Lib.hid hA9
              have HR9 := Lib.hid hR9
              clear hE7 hE8 hR8 hA8 HA6 HR6 HE6 r0 r1 r2 r3 o1 hR9 hA9
              go_wp2_with fail
              refine HS.out.mono ?_
              rintro e w10 ⟨rfl, hE10⟩
              have HA10 : Hid (IsAc w10 ga ac') := Lib.hid (hE10.blk0 HA9.out)
              have HR10 : Hid (IsR w10 rb ac') := Lib.hid (hE10.blk0 HR9.out)
              have HE10 := Lib.hid (HE9.out.then0 hE10)
              have ht10 : ac'.t ≤ ((k + 1 : Nat) : Int) := by have := HT.out; omega
              clear hE10 HA9 HR9 HE9 HS q0 q1 q2 q3 f0 f1 f2 f3
              go_wp2
              go_roundw
              case rel => exact ⟨k + 1, ga, ac', by omega, by go_num, rfl, hg1, hg2, HK', ht10, HA10, HR10, HE10⟩
              case measure => simp [intOf]; omega
          · have hF := fork_calls ga ac _ HA1.out
            obtain ⟨kk, er, p', hk1, hC1, _⟩ := pull_both ac (ac.p + 1) HK.out
            have HF := Lib.hid hF
            have HC1 := Lib.hid hC1
            have HC2 := Lib.hid (fun W hW => take_calls ga { ac with p := p' } 1 W hW hk1)
            have pb0 : 0 ≤ ac.p := by have := HK.out; have := this.s0; have := HK.out.sp; omega
            have pb1 : ac.p ≤ 1152921504606846976 := HK.out.pm
            clear hF hC1 hk1
            have hgs : (wr.alloc (.cells #[.int .u8 d, .int .i64 n] 41)).heap.size = wr.heap.size + 1 := by simp
            go_wp2_with fail
            refine HF.out.mono ?_
            rintro e w6 ⟨rfl, hE6, hK6⟩
            rw [hgs] at hK6
            have hA6 : IsAc w6 ga ac := hE6.blk0 HA1.out
            have hR6 : IsR w6 rb ac := hE6.blk0 HR1.out
            obtain ⟨r0, r1, r2, r3, _, _, _, _⟩ := hR6.alls
            have HA6 := Lib.hid hA6
            have HR6 := Lib.hid hR6
            have HK6 := Lib.hid hK6
            have HE6 := Lib.hid (HE1.out.then0 hE6)
            clear hA6 hR6 hK6 hE6 hgs
            go_wp2_with fail
            refine (HC1.out ga w6 HA6.out).mono ?_
            rintro e w7 ⟨rfl, hE7, hA7⟩
            have hR7 : IsR w7 rb ac := hE7.blk HR6.out (fun h => hg2 h.symm)
            have hK7 : IsAc w7 (wr.heap.size + 1) ac := hE7.blk HK6.out (show ¬ wr.heap.size + 1 = ga by omega)
            have HE7 := Lib.hid (atNew HE6.out hE7 hg1)
            have HA7 := Lib.hid hA7
            have HR7 := Lib.hid hR7
            have HK7 := Lib.hid hK7
            clear hA7 hR7 hK7 hE7 r0 r1 r2 r3
            go_wp2_with fail
            refine (HC2.out w7 HA7.out).mono ?_
            rintro e w8 ⟨rfl, hE8, hA8⟩
            have hR8 : IsR w8 rb ac := hE8.blk HR7.out (fun h => hg2 h.symm)
            have hK8 : IsAc w8 (wr.heap.size + 1) ac := hE8.blk HK7.out (show ¬ wr.heap.size + 1 = ga by omega)
            obtain ⟨r0, r1, r2, r3, _, _, _, _⟩ := hR8.alls
            have HE8 := Lib.hid (atNew HE7.out hE8 hg1)
            have HS := Lib.hid (same_calls (wr.heap.size + 1) ac _ hK8 HK.out)
            have HR8 := Lib.hid hR8
            have HK8 := Lib.hid hK8
            clear hA8 hR8 hK8 hE8
            go_wp2_with fail
            refine HS.out.mono ?_
            rintro e w10 ⟨rfl, hE10⟩
            have HA10 : Hid (IsAc w10 (wr.heap.size + 1) ac) := Lib.hid (hE10.blk0 HK8.out)
            have HR10 : Hid (IsR w10 rb ac) := Lib.hid (hE10.blk0 HR8.out)
            have HE10 := Lib.hid (HE8.out.then0 hE10)
            have ht10 : ac.t ≤ ((k + 1 : Nat) : Int) := by omega
            clear hE10
            go_wp2
            go_roundw
            case rel => exact ⟨k + 1, wr.heap.size + 1, ac, by omega, by go_num, rfl, by omega, by omega, HK, ht10, HA10, HR10, HE10⟩
            case measure => simp [intOf]; omega
          · obtain ⟨kk, er, p', hk', hC1', hC2⟩ := pull_both ac n HK.out
            have hC1 := hC1' ga _ HA1.out
            obtain ⟨ac', hac'⟩ : ∃ ac', ({ ac with p := p' } : Ac) = ac' := ⟨_, rfl⟩
            have ht' : ac'.t = ac.t := by rw [← hac']
            simp only [hac'] at hC1 hC2 hk'
            unfold agg at hC2
            have HC1 := Lib.hid hC1
            have HC2 := Lib.hid hC2
            have HK' := Lib.hid hk'
            have HT := Lib.hid ht'
            clear ht' hac' hk' hC1 hC2 hC1'
            all_goals
              go_wp2_with fail
              refine HC1.out.mono ?_
              rintro e w6 ⟨rfl, hE6, hA6⟩
              have hR6 : IsR w6 rb ac := hE6.blk HR1.out (fun h => hg2 h.symm)
              have hO6 := hE6.blk HO1.out (show ¬ wr.heap.size = ga by omega)
              have HE6 := Lib.hid (atNew HE1.out hE6 hg1)
              have o1 := (blkCell hO6 1).trans rfl
              obtain ⟨r0, r1, r2, r3, _, _, _, _⟩ := hR6.alls
              simp at o1
              have HA6 := Lib.hid hA6
              have HR6 := Lib.hid hR6
              clear hE6 hA6 hR6 hO6 HA1 HR1 HO1 HE1 HC1
              go_wp2_with fail
              refine (HC2.out w6).mono ?_
              rintro e w7 ⟨rfl, hE7⟩
              have hE8 : Ext N0 w6 (w7.alloc (.cells #[.int .i64 ac'.f, .int .i64 ac'.p, .int .i64 ac'.s, .int .i64 ac'.t] 37)) := hE7.alloc _
              have hR8 : IsR (w7.alloc (.cells #[.int .i64 ac'.f, .int .i64 ac'.p, .int .i64 ac'.s, .int .i64 ac'.t] 37)) rb ac := hE8.blk0 HR6.out
              have hA8 : IsAc (w7.alloc (.cells #[.int .i64 ac'.f, .int .i64 ac'.p, .int .i64 ac'.s, .int .i64 ac'.t] 37)) ga ac' := hE8.blk0 HA6.out
              obtain ⟨q0, q1, q2, q3, f0, f1, f2, f3⟩ := hR8.alls
              have hR9 := put4_is hR8 ac'
              have hA9 : IsAc (put4 (w7.alloc (.cells #[.int .i64 ac'.f, .int .i64 ac'.p, .int .i64 ac'.s, .int .i64 ac'.t] 37)) rb ac') ga ac' := (put4_ext _ rb ac').blk hA8 hg2
              have HE9 := Lib.hid (atNew (HE6.out.then0 hE8) (put4_ext _ rb ac') (by omega))
              have HS := Lib.hid (same_calls ga ac' _ hA9 HK'.out)
              have HA9 := Lib.hid hA9
              have HR9 := Lib.hid hR9
              clear hE7 hE8 hR8 hA8 HA6 HR6 HE6 r0 r1 r2 r3 o1 hR9 hA9
              go_wp2_with fail
              refine HS.out.mono ?_
              rintro e w10 ⟨rfl, hE10⟩
              have HA10 : Hid (IsAc w10 ga ac') := Lib.hid (hE10.blk0 HA9.out)
              have HR10 : Hid (IsR w10 rb ac') := Lib.hid (hE10.blk0 HR9.out)
              have HE10 := Lib.hid (HE9.out.then0 hE10)
              have ht10 : ac'.t ≤ ((k + 1 : Nat) : Int) := by have := HT.out; omega
              clear hE10 HA9 HR9 HE9 HS q0 q1 q2 q3 f0 f1 f2 f3
              go_wp2
              go_roundw
              case rel => exact ⟨k + 1, ga, ac', by omega, by go_num, rfl, hg1, hg2, HK', ht10, HA10, HR10, HE10⟩
              case measure => simp [intOf]; omega
        · have h6' : ¬ (k : Int) < 60 := by omega
          go_wp2
          go_ret
          exact ⟨rfl, HE.out.below⟩
      · have hl' : ¬ (k : Int) < len1 := by omega
        go_wp2
        go_ret
        exact ⟨rfl, HE.out.below⟩
  · go_enter Try.func4, Try.ntmps4
    go_wp2_with fail
    refine (new_bad a0 w (by omega)).mono ?_
    rintro e w3 ⟨rfl, rfl⟩
    go_wp2_with fail
    refine (rnew_bad a0 w3 (by omega)).mono ?_
    rintro e w4 ⟨rfl, hE4⟩
    go_wp2_with fail
    refine (awake_calls _).mono ?_
    rintro e w5 ⟨rfl, hE5⟩
    have HE := Lib.hid ((hE4.alloc (.cells #[.int .i64 0, .int .i64 0, .int .i64 0, .int .i64 0] 37)).then0 hE5)
    clear hE4 hE5
    rcases Nat.eq_zero_or_pos len1 with hl | hl
    · subst hl
      go_wp2_with fail
      go_loopw [5, 9] (fun pa i wr => pa = .pointer none ∧ i = .int .i64 0 ∧ wr = w5) (fun _ _ _ => 0)
      case atStart => exact ⟨rfl, rfl, rfl⟩
      case round =>
        obtain ⟨rfl, rfl, rfl⟩ := hrel
        go_wp2
        go_ret
        exact ⟨rfl, HE.out.below⟩
    · have hl' : (0 : Int) < len1 := by omega
      have hd : decide ((0 : Int) < len1) = true := decide_eq_true hl'
      go_wp2_with fail
      go_loopw [5, 9] (fun pa i wr => pa = .pointer none ∧ i = .int .i64 0 ∧ wr = w5) (fun _ _ _ => 0)
      case atStart => exact ⟨rfl, rfl, rfl⟩
      case round =>
        obtain ⟨rfl, rfl, rfl⟩ := hrel
        go_wp2
        go_ret
        exact ⟨rfl, HE.out.below⟩
end creditRuns
end Go.Proofs.Ytohflonpinjdaaa
