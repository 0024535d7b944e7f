/- 'count' of package score, proved for every value that its statement lets in (the conditions stand in the statements). -/
import Derived.Test.YtkkcdijnhegneaaB2
namespace Go.Proofs.Ytkkcdijnhegneaa
open Go.RowKit
def Sc.setP (s : Sc) (k : Nat) (p : Pa) : Sc := { s with ps := s.ps.set k p }
/-- What counting makes of a score. -/
def Sc.count (s : Sc) (k what : Nat) (p : Pa) : Sc := if what ≠ 0 ∧ 0 < s.rest ∧ p.r = 0 ∧ (p.inc what).bad ∧ 1 < (s.setP k (p.inc what)).act.length then s.setP k ⟨0, 0, 0, s.rest⟩ else s.setP k (p.inc what)
theorem Sc.count_eq (s : Sc) (k what : Nat) (p : Pa) (hw : what ≠ 0) : s.count k what p = if 0 < s.rest ∧ p.r = 0 ∧ (p.inc what).bad ∧ 1 < (s.setP k (p.inc what)).act.length then s.setP k ⟨0, 0, 0, s.rest⟩ else s.setP k (p.inc what) := by
  unfold Sc.count
  by_cases h : 0 < s.rest ∧ p.r = 0 ∧ (p.inc what).bad ∧ 1 < (s.setP k (p.inc what)).act.length
  · rw [if_pos ⟨hw, h⟩, if_pos h]
  · rw [if_neg (fun x => h x.2), if_neg h]
theorem Sc.Ok.put {s : Sc} {u v : Int} (h : s.Ok u) (k : Nat) (p : Pa) (huv : u ≤ v) (hp : (0 ≤ p.a ∧ p.a ≤ v) ∧ (0 ≤ p.n ∧ p.n ≤ v) ∧ (0 ≤ p.b ∧ p.b ≤ v) ∧ 0 ≤ p.r ∧ p.r ≤ s.rest) : (s.setP k p).Ok v :=
  ⟨by simpa [Sc.setP] using h.len, h.rest, fun q hq => by
    rcases List.mem_or_eq_of_mem_set hq with hq | rfl
    · have := h.num q hq
      show (0 ≤ q.a ∧ q.a ≤ v) ∧ (0 ≤ q.n ∧ q.n ≤ v) ∧ (0 ≤ q.b ∧ q.b ≤ v) ∧ 0 ≤ q.r ∧ q.r ≤ s.rest
      omega
    · exact hp⟩
theorem Sc.Ok.inc {s : Sc} {u : Int} (h : s.Ok u) {k : Nat} {p : Pa} (hp : s.ps[k]? = some p) (what : Nat) : (s.setP k (p.inc what)).Ok (u + 1) := by
  have := h.num p (List.mem_of_getElem? hp)
  refine h.put k _ (by omega) ?_
  unfold Pa.inc
  split
  · refine ⟨⟨?_, ?_⟩, ⟨?_, ?_⟩, ⟨?_, ?_⟩, ?_, ?_⟩ <;> simp only [] <;> omega
  · split
    · refine ⟨⟨?_, ?_⟩, ⟨?_, ?_⟩, ⟨?_, ?_⟩, ?_, ?_⟩ <;> simp only [] <;> omega
    · refine ⟨⟨?_, ?_⟩, ⟨?_, ?_⟩, ⟨?_, ?_⟩, ?_, ?_⟩ <;> simp only [] <;> omega
theorem Sc.Ok.count {s : Sc} {u : Int} (h : s.Ok u) {k : Nat} {p : Pa} (hp : s.ps[k]? = some p) (what : Nat) : (s.count k what p).Ok (u + 1) := by
  have h1 := h.num p (List.mem_of_getElem? hp)
  have h2 := h.rest
  unfold Sc.count
  split
  · exact h.put k _ (by omega) ⟨by simp; omega, by simp; omega, by simp; omega, by simp; omega⟩
  · exact h.inc hp what
/-- A whole path is set. -/
theorem IsSo.put {base g gp c : Nat} {w : World} {s : Sc} (h : IsSo base w g s gp c) {k : Nat} {p : Pa} (hp : s.ps[k]? = some p) (q : Pa) :
    IsSo base ((((w.setCell ⟨gp, k * 4, none⟩ (.int .i64 q.a)).setCell ⟨gp, k * 4 + 1, none⟩ (.int .i64 q.n)).setCell ⟨gp, k * 4 + 2, none⟩ (.int .i64 q.b)).setCell ⟨gp, k * 4 + 3, none⟩ (.int .i64 q.r)) g (s.setP k q) gp c ∧
      Ext (At gp) w ((((w.setCell ⟨gp, k * 4, none⟩ (.int .i64 q.a)).setCell ⟨gp, k * 4 + 1, none⟩ (.int .i64 q.n)).setCell ⟨gp, k * 4 + 2, none⟩ (.int .i64 q.b)).setCell ⟨gp, k * 4 + 3, none⟩ (.int .i64 q.r)) := by
  have hk := (List.getElem?_eq_some_iff.1 hp).1
  have s0 := h.set hp 0 (by decide) (.int .i64 q.a) { p with a := q.a } rfl
  have p0 : (s.ps.set k { p with a := q.a })[k]? = some { p with a := q.a } := by simp [hk]
  have s1 := s0.1.set p0 1 (by decide) (.int .i64 q.n) { p with a := q.a, n := q.n } rfl
  have p1 : ((s.ps.set k { p with a := q.a }).set k { p with a := q.a, n := q.n })[k]? = some { p with a := q.a, n := q.n } := by simp [hk]
  have s2 := s1.1.set p1 2 (by decide) (.int .i64 q.b) { p with a := q.a, n := q.n, b := q.b } rfl
  have p2 : (((s.ps.set k { p with a := q.a }).set k { p with a := q.a, n := q.n }).set k { p with a := q.a, n := q.n, b := q.b })[k]? = some { p with a := q.a, n := q.n, b := q.b } := by simp [hk]
  have s3 := s2.1.set p2 3 (by decide) (.int .i64 q.r) q rfl
  refine ⟨?_, ((s0.2.same s1.2).same s2.2).same s3.2⟩
  have := s3.1
  simpa [Sc.setP] using this
set_option maxRecDepth 100000 in
set_option maxHeartbeats 2000000 in
theorem count_calls1 (base g : Nat) (s : Sc) (u : Int) (k : Nat) (p : Pa) (w : World) (h : IsSc base w g s) (hok : s.Ok u) (hu : u ≤ 900000) (hp : s.ps[k]? = some p) (hbase : base ≤ w.heap.size) :
    Calls Try.prog 21 #[.pointer (some ⟨g, 0, none⟩), .int .i64 k, .int .i64 1] w fun e w' => e = .returned (.int .i64 0) ∧ IsSc base w' g (s.count k 1 p) ∧ Ext (Tp base w) w w' := by
  have HN := Lib.hid (none_calls base g s w h hok.len.1)
  obtain ⟨gp, c, hS⟩ := h
  have hk := (List.getElem?_eq_some_iff.1 hp).1
  have hkI : ¬ (s.ps.length : Int) ≤ k := by omega
  have hkI2 : (k : Int) < s.ps.length := by omega
  obtain ⟨⟨a0, a1⟩, ⟨n0, n1⟩, ⟨b0, b1⟩, r0, r1⟩ := hok.num p (List.mem_of_getElem? hp)
  have hrest := hok.rest
  have c0 := (blkCell hS.blk 0).trans rfl
  simp at c0
  have hSd := hS.kept0 (Ext.refl N0 w).drew
  have d1 := (hSd.path hp).2.1
  have fz := hSd.frozen (k * 4 + 1)
  obtain ⟨x, hx⟩ : ∃ x, p.n = x := ⟨_, rfl⟩
  have hset := hS.set hp 1 (by decide) (.int .i64 (x + 1)) (p.inc 1) (by rw [← hx]; rfl)
  have hS1 : IsSo base (w.setCell ⟨gp, k * 4 + 1, none⟩ (.int .i64 (x + 1))).drew g (s.setP k (p.inc 1)) gp c := hset.1.kept0 (Ext.refl N0 _).drew
  have hE1 : Ext (Tp base w) w (w.setCell ⟨gp, k * 4 + 1, none⟩ (.int .i64 (x + 1))).drew := (hset.2.tp (by rintro i _ rfl; exact hS.tp)).drew
  rw [hx] at d1 n0 n1
  have hok1 := Sc.Ok.inc hok hp 1
  have hp1 : (s.setP k (p.inc 1)).ps[k]? = some (p.inc 1) := by simp [Sc.setP, hk]
  have HC := Lib.hid (Sc.count_eq s k 1 p (by decide))
  obtain ⟨w1, hw1⟩ : ∃ w1, (w.setCell ⟨gp, k * 4 + 1, none⟩ (.int .i64 (x + 1))).drew = w1 := ⟨_, rfl⟩
  rw [hw1] at hS1 hE1
  have HW := Lib.hid hw1
  have q1 := (blkCell hS1.blk 1).trans rfl
  have q3 := (hS1.path hp1).2.2.2
  have e3 : (p.inc 1).r = p.r := rfl
  rw [e3] at q3
  simp [Sc.setP] at q1
  have HB := Lib.hid (badly_calls base g gp c _ (u + 1) k _ w1 hS1 hp1 hok1 (by omega))
  have HA := Lib.hid (fun W (hW : Ext N0 w1 W) => active_calls base g _ (u + 1) W ⟨gp, c, hS1.kept0 hW⟩ hok1)
  have HS1 := Lib.hid hS1
  have HE1 := Lib.hid hE1
  have HX := Lib.hid hx
  have HP1 := Lib.hid hp1
  have hb1 : base ≤ w1.heap.size := Nat.le_trans hbase hE1.size
  clear hSd hset hS hS1 hE1 hx hw1 e3 hp1 hok1 hok hp hbase
  by_cases g1 : 0 < s.rest
  · by_cases g2 : p.r = 0
    · by_cases g3 : (p.inc 1).bad
      · rw [decide_eq_true g3] at HB
        by_cases g4 : 1 < (s.setP k (p.inc 1)).act.length
        · rw [if_pos ⟨g1, g2, g3, g4⟩] at HC
          have g4' : 1 < ((s.setP k (p.inc 1)).act.length : Int) := by omega
          clear g3
          go_enter Try.func21, Try.ntmps21
          go_wp2_with (go_at_call 22; refine HN.out.mono ?_; rintro e w' ⟨rfl, rfl⟩)
          go_region
          all_goals
            rw [HW.out]
            go_wp2_with (first
              | (go_at_call 31; refine HB.out.mono ?_; rintro e w2 ⟨rfl, hE2⟩)
              | (go_at_call 11; refine (HA.out _ hE2).mono ?_; rintro e w3 ⟨A3, c3, rfl, _, hE3⟩; have hS3 := (HS1.out.kept0 hE2).kept0 hE3; have HE3 := Lib.hid ((HE1.out.then0 hE2).then0 hE3); have z1 := (blkCell hS3.blk 1).trans rfl; obtain ⟨y0, y1, y2, y3⟩ := hS3.path HP1.out; have f0 := hS3.frozen (k * 4); have f1 := hS3.frozen (k * 4 + 1); have f2 := hS3.frozen (k * 4 + 2); have f3 := hS3.frozen (k * 4 + 3); simp [Sc.setP] at z1; have HS3 := Lib.hid hS3; clear hE2 hE3 hS3))
            go_ret
            refine ⟨rfl, ?_⟩
            obtain ⟨o1, o2⟩ := HS3.out.put HP1.out ⟨0, 0, 0, s.rest⟩
            rw [HC.out]
            refine ⟨⟨gp, c, ?_⟩, tpTrans HE3.out (o2.tp (by rintro i _ rfl; exact HS3.out.tp))⟩
            simpa [Sc.setP] using o1
        · rw [if_neg (fun h => g4 h.2.2.2)] at HC
          have g4' : ¬ 1 < ((s.setP k (p.inc 1)).act.length : Int) := by omega
          clear g3
          go_enter Try.func21, Try.ntmps21
          go_wp2_with (go_at_call 22; refine HN.out.mono ?_; rintro e w' ⟨rfl, rfl⟩)
          go_region
          all_goals
            rw [HW.out]
            go_wp2_with (first
              | (go_at_call 31; refine HB.out.mono ?_; rintro e w2 ⟨rfl, hE2⟩)
              | (go_at_call 11; refine (HA.out _ hE2).mono ?_; rintro e w3 ⟨A3, c3, rfl, _, hE3⟩))
            go_ret
            exact ⟨rfl, by rw [HC.out]; exact ⟨gp, c, (HS1.out.kept0 hE2).kept0 hE3⟩, (HE1.out.then0 hE2).then0 hE3⟩
      · rw [decide_eq_false g3] at HB
        rw [if_neg (fun h => g3 h.2.2.1)] at HC
        clear g3
        go_enter Try.func21, Try.ntmps21
        go_wp2_with (go_at_call 22; refine HN.out.mono ?_; rintro e w' ⟨rfl, rfl⟩)
        go_region
        all_goals
          rw [HW.out]
          go_wp2_with (go_at_call 31; refine HB.out.mono ?_; rintro e w2 ⟨rfl, hE2⟩)
          go_ret
          exact ⟨rfl, by rw [HC.out]; exact ⟨gp, c, HS1.out.kept0 hE2⟩, HE1.out.then0 hE2⟩
    · rw [if_neg (fun h => g2 h.2.1)] at HC
      go_enter Try.func21, Try.ntmps21
      go_wp2_with (go_at_call 22; refine HN.out.mono ?_; rintro e w' ⟨rfl, rfl⟩)
      go_region
      all_goals
        rw [HW.out]
        go_wp2
        go_ret
        exact ⟨rfl, by rw [HC.out]; exact ⟨gp, c, HS1.out⟩, HE1.out⟩
  · rw [if_neg (fun h => g1 h.1)] at HC
    go_enter Try.func21, Try.ntmps21
    go_wp2_with (go_at_call 22; refine HN.out.mono ?_; rintro e w' ⟨rfl, rfl⟩)
    go_region
    all_goals
      rw [HW.out]
      go_wp2
      go_ret
      exact ⟨rfl, by rw [HC.out]; exact ⟨gp, c, HS1.out⟩, HE1.out⟩
set_option maxRecDepth 100000 in
set_option maxHeartbeats 2000000 in
theorem count_calls2 (base g : Nat) (s : Sc) (u : Int) (k : Nat) (p : Pa) (w : World) (h : IsSc base w g s) (hok : s.Ok u) (hu : u ≤ 900000) (hp : s.ps[k]? = some p) (hbase : base ≤ w.heap.size) :
    Calls Try.prog 21 #[.pointer (some ⟨g, 0, none⟩), .int .i64 k, .int .i64 2] w fun e w' => e = .returned (.int .i64 0) ∧ IsSc base w' g (s.count k 2 p) ∧ Ext (Tp base w) w w' := by
  have HN := Lib.hid (none_calls base g s w h hok.len.1)
  obtain ⟨gp, c, hS⟩ := h
  have hk := (List.getElem?_eq_some_iff.1 hp).1
  have hkI : ¬ (s.ps.length : Int) ≤ k := by omega
  have hkI2 : (k : Int) < s.ps.length := by omega
  obtain ⟨⟨a0, a1⟩, ⟨n0, n1⟩, ⟨b0, b1⟩, r0, r1⟩ := hok.num p (List.mem_of_getElem? hp)
  have hrest := hok.rest
  have c0 := (blkCell hS.blk 0).trans rfl
  simp at c0
  have hSd := hS.kept0 (Ext.refl N0 w).drew
  have d1 := (hSd.path hp).2.2.1
  have fz := hSd.frozen (k * 4 + 2)
  obtain ⟨x, hx⟩ : ∃ x, p.b = x := ⟨_, rfl⟩
  have hset := hS.set hp 2 (by decide) (.int .i64 (x + 1)) (p.inc 2) (by rw [← hx]; rfl)
  have hS1 : IsSo base (w.setCell ⟨gp, k * 4 + 2, none⟩ (.int .i64 (x + 1))).drew g (s.setP k (p.inc 2)) gp c := hset.1.kept0 (Ext.refl N0 _).drew
  have hE1 : Ext (Tp base w) w (w.setCell ⟨gp, k * 4 + 2, none⟩ (.int .i64 (x + 1))).drew := (hset.2.tp (by rintro i _ rfl; exact hS.tp)).drew
  rw [hx] at d1 b0 b1
  have hok1 := Sc.Ok.inc hok hp 2
  have hp1 : (s.setP k (p.inc 2)).ps[k]? = some (p.inc 2) := by simp [Sc.setP, hk]
  have HC := Lib.hid (Sc.count_eq s k 2 p (by decide))
  obtain ⟨w1, hw1⟩ : ∃ w1, (w.setCell ⟨gp, k * 4 + 2, none⟩ (.int .i64 (x + 1))).drew = w1 := ⟨_, rfl⟩
  rw [hw1] at hS1 hE1
  have HW := Lib.hid hw1
  have q1 := (blkCell hS1.blk 1).trans rfl
  have q3 := (hS1.path hp1).2.2.2
  have e3 : (p.inc 2).r = p.r := rfl
  rw [e3] at q3
  simp [Sc.setP] at q1
  have HB := Lib.hid (badly_calls base g gp c _ (u + 1) k _ w1 hS1 hp1 hok1 (by omega))
  have HA := Lib.hid (fun W (hW : Ext N0 w1 W) => active_calls base g _ (u + 1) W ⟨gp, c, hS1.kept0 hW⟩ hok1)
  have HS1 := Lib.hid hS1
  have HE1 := Lib.hid hE1
  have HX := Lib.hid hx
  have HP1 := Lib.hid hp1
  have hb1 : base ≤ w1.heap.size := Nat.le_trans hbase hE1.size
  clear hSd hset hS hS1 hE1 hx hw1 e3 hp1 hok1 hok hp hbase
  by_cases g1 : 0 < s.rest
  · by_cases g2 : p.r = 0
    · by_cases g3 : (p.inc 2).bad
      · rw [decide_eq_true g3] at HB
        by_cases g4 : 1 < (s.setP k (p.inc 2)).act.length
        · rw [if_pos ⟨g1, g2, g3, g4⟩] at HC
          have g4' : 1 < ((s.setP k (p.inc 2)).act.length : Int) := by omega
          clear g3
          go_enter Try.func21, Try.ntmps21
          go_wp2_with (go_at_call 22; refine HN.out.mono ?_; rintro e w' ⟨rfl, rfl⟩)
          go_region
          all_goals
            rw [HW.out]
            go_wp2_with (first
              | (go_at_call 31; refine HB.out.mono ?_; rintro e w2 ⟨rfl, hE2⟩)
              | (go_at_call 11; refine (HA.out _ hE2).mono ?_; rintro e w3 ⟨A3, c3, rfl, _, hE3⟩; have hS3 := (HS1.out.kept0 hE2).kept0 hE3; have HE3 := Lib.hid ((HE1.out.then0 hE2).then0 hE3); have z1 := (blkCell hS3.blk 1).trans rfl; obtain ⟨y0, y1, y2, y3⟩ := hS3.path HP1.out; have f0 := hS3.frozen (k * 4); have f1 := hS3.frozen (k * 4 + 1); have f2 := hS3.frozen (k * 4 + 2); have f3 := hS3.frozen (k * 4 + 3); simp [Sc.setP] at z1; have HS3 := Lib.hid hS3; clear hE2 hE3 hS3))
            go_ret
            refine ⟨rfl, ?_⟩
            obtain ⟨o1, o2⟩ := HS3.out.put HP1.out ⟨0, 0, 0, s.rest⟩
            rw [HC.out]
            refine ⟨⟨gp, c, ?_⟩, tpTrans HE3.out (o2.tp (by rintro i _ rfl; exact HS3.out.tp))⟩
            simpa [Sc.setP] using o1
        · rw [if_neg (fun h => g4 h.2.2.2)] at HC
          have g4' : ¬ 1 < ((s.setP k (p.inc 2)).act.length : Int) := by omega
          clear g3
          go_enter Try.func21, Try.ntmps21
          go_wp2_with (go_at_call 22; refine HN.out.mono ?_; rintro e w' ⟨rfl, rfl⟩)
          go_region
          all_goals
            rw [HW.out]
            go_wp2_with (first
              | (go_at_call 31; refine HB.out.mono ?_; rintro e w2 ⟨rfl, hE2⟩)
              | (go_at_call 11; refine (HA.out _ hE2).mono ?_; rintro e w3 ⟨A3, c3, rfl, _, hE3⟩))
            go_ret
            exact ⟨rfl, by rw [HC.out]; exact ⟨gp, c, (HS1.out.kept0 hE2).kept0 hE3⟩, (HE1.out.then0 hE2).then0 hE3⟩
      · rw [decide_eq_false g3] at HB
        rw [if_neg (fun h => g3 h.2.2.1)] at HC
        clear g3
        go_enter Try.func21, Try.ntmps21
        go_wp2_with (go_at_call 22; refine HN.out.mono ?_; rintro e w' ⟨rfl, rfl⟩)
        go_region
        all_goals
          rw [HW.out]
          go_wp2_with (go_at_call 31; refine HB.out.mono ?_; rintro e w2 ⟨rfl, hE2⟩)
          go_ret
          exact ⟨rfl, by rw [HC.out]; exact ⟨gp, c, HS1.out.kept0 hE2⟩, HE1.out.then0 hE2⟩
    · rw [if_neg (fun h => g2 h.2.1)] at HC
      go_enter Try.func21, Try.ntmps21
      go_wp2_with (go_at_call 22; refine HN.out.mono ?_; rintro e w' ⟨rfl, rfl⟩)
      go_region
      all_goals
        rw [HW.out]
        go_wp2
        go_ret
        exact ⟨rfl, by rw [HC.out]; exact ⟨gp, c, HS1.out⟩, HE1.out⟩
  · rw [if_neg (fun h => g1 h.1)] at HC
    go_enter Try.func21, Try.ntmps21
    go_wp2_with (go_at_call 22; refine HN.out.mono ?_; rintro e w' ⟨rfl, rfl⟩)
    go_region
    all_goals
      rw [HW.out]
      go_wp2
      go_ret
      exact ⟨rfl, by rw [HC.out]; exact ⟨gp, c, HS1.out⟩, HE1.out⟩
set_option maxRecDepth 100000 in
theorem count_calls0 (base g : Nat) (s : Sc) (u : Int) (k : Nat) (p : Pa) (w : World) (h : IsSc base w g s) (hok : s.Ok u) (hu : u ≤ 900000) (hp : s.ps[k]? = some p) :
    Calls Try.prog 21 #[.pointer (some ⟨g, 0, none⟩), .int .i64 k, .int .i64 0] w fun e w' => e = .returned (.int .i64 0) ∧ IsSc base w' g (s.count k 0 p) ∧ Ext (Tp base w) w w' := by
  have HN := Lib.hid (none_calls base g s w h hok.len.1)
  obtain ⟨gp, c, hS⟩ := h
  have hk := (List.getElem?_eq_some_iff.1 hp).1
  have hkI : ¬ (s.ps.length : Int) ≤ k := by omega
  have hkI2 : (k : Int) < s.ps.length := by omega
  obtain ⟨⟨a0, a1⟩, _⟩ := hok.num p (List.mem_of_getElem? hp)
  have c0 := (blkCell hS.blk 0).trans rfl
  simp at c0
  have hSd := hS.kept0 (Ext.refl N0 w).drew
  have d1 := (hSd.path hp).1
  have fz := hSd.frozen (k * 4)
  obtain ⟨x, hx⟩ : ∃ x, p.a = x := ⟨_, rfl⟩
  have hset := hS.set hp 0 (by decide) (.int .i64 (x + 1)) (p.inc 0) (by rw [← hx]; rfl)
  have hS1 : IsSo base (w.setCell ⟨gp, k * 4, none⟩ (.int .i64 (x + 1))).drew g (s.setP k (p.inc 0)) gp c := hset.1.kept0 (Ext.refl N0 _).drew
  have hE1 : Ext (Tp base w) w (w.setCell ⟨gp, k * 4, none⟩ (.int .i64 (x + 1))).drew := (hset.2.tp (by rintro i _ rfl; exact hS.tp)).drew
  rw [hx] at d1 a0 a1
  have HC : Hid (s.count k 0 p = s.setP k (p.inc 0)) := Lib.hid (by unfold Sc.count; rw [if_neg (fun h => h.1 rfl)])
  have HS1 := Lib.hid hS1
  have HE1 := Lib.hid hE1
  clear hSd hset hS hS1 hE1 hx hok hp
  go_enter Try.func21, Try.ntmps21
  go_wp2_with (go_at_call 22; refine HN.out.mono ?_; rintro e w' ⟨rfl, rfl⟩)
  go_region
  all_goals
    go_wp2
    go_ret
    exact ⟨rfl, by rw [HC.out]; exact ⟨gp, c, HS1.out⟩, HE1.out⟩
theorem count_out (base g : Nat) (s : Sc) (k what : Int) (w : World) (h : IsSc base w g s) (hl : 1 ≤ s.ps.length) (hk : ¬ s.has k) :
    Calls Try.prog 21 #[.pointer (some ⟨g, 0, none⟩), .int .i64 k, .int .i64 what] w fun e w' => e = .returned (.int .i64 5) ∧ w' = w := by
  have HN := Lib.hid (none_calls base g s w h hl)
  obtain ⟨gp, c, hS⟩ := h
  have c0 := (blkCell hS.blk 0).trans rfl
  simp at c0
  clear hS hl
  unfold Sc.has at hk
  by_cases h1 : k < 0
  · clear hk
    go_enter Try.func21, Try.ntmps21
    go_wp2_with (go_at_call 22; refine HN.out.mono ?_; rintro e w' ⟨rfl, rfl⟩)
    go_ret
    exact ⟨rfl, rfl⟩
  · have h2 : (s.ps.length : Int) ≤ k := by omega
    clear hk
    go_enter Try.func21, Try.ntmps21
    go_wp2_with (go_at_call 22; refine HN.out.mono ?_; rintro e w' ⟨rfl, rfl⟩)
    go_ret
    exact ⟨rfl, rfl⟩
theorem ack_calls (base g : Nat) (s : Sc) (u : Int) (k : Nat) (p : Pa) (w : World) (h : IsSc base w g s) (hok : s.Ok u) (hu : u ≤ 900000) (hp : s.ps[k]? = some p) :
    Calls Try.prog 9 #[.pointer (some ⟨g, 0, none⟩), .int .i64 k] w fun e w' => e = .returned (.int .i64 0) ∧ IsSc base w' g (s.count k 0 p) ∧ Ext (Tp base w) w w' := by
  have HC := Lib.hid (count_calls0 base g s u k p w h hok hu hp)
  clear h hok hp
  go_enter Try.func9, Try.ntmps9
  go_wp2_with (go_at_call 21; refine HC.out.mono ?_; rintro e w' ⟨rfl, hS, hE⟩)
  go_ret
  exact ⟨rfl, hS, hE⟩
theorem ack_out (base g : Nat) (s : Sc) (k : Int) (w : World) (h : IsSc base w g s) (hl : 1 ≤ s.ps.length) (hk : ¬ s.has k) :
    Calls Try.prog 9 #[.pointer (some ⟨g, 0, none⟩), .int .i64 k] w fun e w' => e = .returned (.int .i64 5) ∧ w' = w := by
  have HC := Lib.hid (count_out base g s k 0 w h hl hk)
  clear h hl hk
  go_enter Try.func9, Try.ntmps9
  go_wp2_with (go_at_call 21; refine HC.out.mono ?_; rintro e w' ⟨rfl, rfl⟩)
  go_ret
  exact ⟨rfl, rfl⟩
theorem nack_calls (base g : Nat) (s : Sc) (u : Int) (k : Nat) (p : Pa) (w : World) (h : IsSc base w g s) (hok : s.Ok u) (hu : u ≤ 900000) (hp : s.ps[k]? = some p) (hbase : base ≤ w.heap.size) :
    Calls Try.prog 7 #[.pointer (some ⟨g, 0, none⟩), .int .i64 k] w fun e w' => e = .returned (.int .i64 0) ∧ IsSc base w' g (s.count k 1 p) ∧ Ext (Tp base w) w w' := by
  have HC := Lib.hid (count_calls1 base g s u k p w h hok hu hp hbase)
  clear h hok hp
  go_enter Try.func7, Try.ntmps7
  go_wp2_with (go_at_call 21; refine HC.out.mono ?_; rintro e w' ⟨rfl, hS, hE⟩)
  go_ret
  exact ⟨rfl, hS, hE⟩
theorem nack_out (base g : Nat) (s : Sc) (k : Int) (w : World) (h : IsSc base w g s) (hl : 1 ≤ s.ps.length) (hk : ¬ s.has k) :
    Calls Try.prog 7 #[.pointer (some ⟨g, 0, none⟩), .int .i64 k] w fun e w' => e = .returned (.int .i64 5) ∧ w' = w := by
  have HC := Lib.hid (count_out base g s k 1 w h hl hk)
  clear h hl hk
  go_enter Try.func7, Try.ntmps7
  go_wp2_with (go_at_call 21; refine HC.out.mono ?_; rintro e w' ⟨rfl, rfl⟩)
  go_ret
  exact ⟨rfl, rfl⟩
theorem bounce_calls (base g : Nat) (s : Sc) (u : Int) (k : Nat) (p : Pa) (w : World) (h : IsSc base w g s) (hok : s.Ok u) (hu : u ≤ 900000) (hp : s.ps[k]? = some p) (hbase : base ≤ w.heap.size) :
    Calls Try.prog 8 #[.pointer (some ⟨g, 0, none⟩), .int .i64 k] w fun e w' => e = .returned (.int .i64 0) ∧ IsSc base w' g (s.count k 2 p) ∧ Ext (Tp base w) w w' := by
  have HC := Lib.hid (count_calls2 base g s u k p w h hok hu hp hbase)
  clear h hok hp
  go_enter Try.func8, Try.ntmps8
  go_wp2_with (go_at_call 21; refine HC.out.mono ?_; rintro e w' ⟨rfl, hS, hE⟩)
  go_ret
  exact ⟨rfl, hS, hE⟩
theorem bounce_out (base g : Nat) (s : Sc) (k : Int) (w : World) (h : IsSc base w g s) (hl : 1 ≤ s.ps.length) (hk : ¬ s.has k) :
    Calls Try.prog 8 #[.pointer (some ⟨g, 0, none⟩), .int .i64 k] w fun e w' => e = .returned (.int .i64 5) ∧ w' = w := by
  have HC := Lib.hid (count_out base g s k 2 w h hl hk)
  clear h hl hk
  go_enter Try.func8, Try.ntmps8
  go_wp2_with (go_at_call 21; refine HC.out.mono ?_; rintro e w' ⟨rfl, rfl⟩)
  go_ret
  exact ⟨rfl, rfl⟩
end Go.Proofs.Ytkkcdijnhegneaa
