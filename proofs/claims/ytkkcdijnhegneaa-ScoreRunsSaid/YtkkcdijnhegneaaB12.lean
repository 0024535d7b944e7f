/- Bounce of package score, with the one block that it writes (the conditions stand in the statements). -/
import Derived.Test.YtkkcdijnhegneaaB3
namespace Go.Proofs.Ytkkcdijnhegneaa
open Go.RowKit
set_option maxRecDepth 100000 in
set_option maxHeartbeats 1000000 in
theorem count_at2 (base g gp c : Nat) (s : Sc) (u : Int) (k : Nat) (p : Pa) (w : World) (h : IsSo base w g s gp c) (hok : s.Ok u) (hu : u ≤ 900000) (hp : s.ps[k]? = some p) (hbase : base ≤ w.heap.size) :
    Calls Try.prog 21 #[.pointer (some ⟨g, 0, none⟩), .int .i64 k, .int .i64 2] w fun e w' => e = .returned (.int .i64 0) ∧ IsSo base w' g (s.count k 2 p) gp c ∧ Ext (At gp) w w' := by
  have HN := Lib.hid (none_calls base g s w ⟨gp, c, h⟩ hok.len.1)
  have hS := h
  have hk := (List.getElem?_eq_some_iff.1 hp).1
  have hkI : ¬ (s.ps.length : Int) ≤ k := by omega
  have hkI2 : (k : Int) < s.ps.length := by omega
  obtain ⟨⟨a0, a1⟩, ⟨n0, n1⟩, ⟨b0, b1⟩, r0, r1⟩ := hok.num p (List.mem_of_getElem? hp)
  have hrest := hok.rest
  have c0 := (blkCell hS.blk 0).trans rfl
  simp at c0
  have hSd := hS.kept0 (Ext.refl N0 w).drew
  have d1 := (hSd.path hp).2.2.1
  have fz := hSd.frozen (k * 4 + 2)
  obtain ⟨x, hx⟩ : ∃ x, p.b = x := ⟨_, rfl⟩
  have hset := hS.set hp 2 (by decide) (.int .i64 (x + 1)) (p.inc 2) (by rw [← hx]; rfl)
  have hS1 : IsSo base (w.setCell ⟨gp, k * 4 + 2, none⟩ (.int .i64 (x + 1))).drew g (s.setP k (p.inc 2)) gp c := hset.1.kept0 (Ext.refl N0 _).drew
  have hE1 : Ext (At gp) w (w.setCell ⟨gp, k * 4 + 2, none⟩ (.int .i64 (x + 1))).drew := hset.2.drew
  rw [hx] at d1 b0 b1
  have hok1 := Sc.Ok.inc hok hp 2
  have hp1 : (s.setP k (p.inc 2)).ps[k]? = some (p.inc 2) := by simp [Sc.setP, hk]
  have HC := Lib.hid (Sc.count_eq s k 2 p (by decide))
  obtain ⟨w1, hw1⟩ : ∃ w1, (w.setCell ⟨gp, k * 4 + 2, none⟩ (.int .i64 (x + 1))).drew = w1 := ⟨_, rfl⟩
  rw [hw1] at hS1 hE1
  have HW := Lib.hid hw1
  have q1 := (blkCell hS1.blk 1).trans rfl
  have q3 := (hS1.path hp1).2.2.2
  have e3 : (p.inc 2).r = p.r := rfl
  rw [e3] at q3
  simp [Sc.setP] at q1
  have HB := Lib.hid (badly_calls base g gp c _ (u + 1) k _ w1 hS1 hp1 hok1 (by omega))
  have HA := Lib.hid (fun W (hW : Ext N0 w1 W) => active_calls base g _ (u + 1) W ⟨gp, c, hS1.kept0 hW⟩ hok1)
  have HS1 := Lib.hid hS1
  have HE1 := Lib.hid hE1
  have HX := Lib.hid hx
  have HP1 := Lib.hid hp1
  have hb1 : base ≤ w1.heap.size := Nat.le_trans hbase hE1.size
  clear h hSd hset hS hS1 hE1 hx hw1 e3 hp1 hok1 hok hp hbase
  by_cases g1 : 0 < s.rest
  · by_cases g2 : p.r = 0
    · by_cases g3 : (p.inc 2).bad
      · rw [decide_eq_true g3] at HB
        by_cases g4 : 1 < (s.setP k (p.inc 2)).act.length
        · rw [if_pos ⟨g1, g2, g3, g4⟩] at HC
          have g4' : 1 < ((s.setP k (p.inc 2)).act.length : Int) := by omega
          clear g3
          go_enter Try.func21, Try.ntmps21
          go_wp2_with (go_at_call 22; refine HN.out.mono ?_; rintro e w' ⟨rfl, rfl⟩)
          go_region
          all_goals
            rw [HW.out]
            go_wp2_with (first
              | (go_at_call 31; refine HB.out.mono ?_; rintro e w2 ⟨rfl, hE2⟩)
              | (go_at_call 11; refine (HA.out _ hE2).mono ?_; rintro e w3 ⟨A3, c3, rfl, _, hE3⟩; have hS3 := (HS1.out.kept0 hE2).kept0 hE3; have HE3 := Lib.hid ((HE1.out.then0 hE2).then0 hE3); have z1 := (blkCell hS3.blk 1).trans rfl; obtain ⟨y0, y1, y2, y3⟩ := hS3.path HP1.out; have f0 := hS3.frozen (k * 4); have f1 := hS3.frozen (k * 4 + 1); have f2 := hS3.frozen (k * 4 + 2); have f3 := hS3.frozen (k * 4 + 3); simp [Sc.setP] at z1; have HS3 := Lib.hid hS3; clear hE2 hE3 hS3))
            go_ret
            refine ⟨rfl, ?_⟩
            obtain ⟨o1, o2⟩ := HS3.out.put HP1.out ⟨0, 0, 0, s.rest⟩
            rw [HC.out]
            refine ⟨?_, HE3.out.same o2⟩
            simpa [Sc.setP] using o1
        · rw [if_neg (fun h => g4 h.2.2.2)] at HC
          have g4' : ¬ 1 < ((s.setP k (p.inc 2)).act.length : Int) := by omega
          clear g3
          go_enter Try.func21, Try.ntmps21
          go_wp2_with (go_at_call 22; refine HN.out.mono ?_; rintro e w' ⟨rfl, rfl⟩)
          go_region
          all_goals
            rw [HW.out]
            go_wp2_with (first
              | (go_at_call 31; refine HB.out.mono ?_; rintro e w2 ⟨rfl, hE2⟩)
              | (go_at_call 11; refine (HA.out _ hE2).mono ?_; rintro e w3 ⟨A3, c3, rfl, _, hE3⟩))
            go_ret
            exact ⟨rfl, by rw [HC.out]; exact (HS1.out.kept0 hE2).kept0 hE3, (HE1.out.then0 hE2).then0 hE3⟩
      · rw [decide_eq_false g3] at HB
        rw [if_neg (fun h => g3 h.2.2.1)] at HC
        clear g3
        go_enter Try.func21, Try.ntmps21
        go_wp2_with (go_at_call 22; refine HN.out.mono ?_; rintro e w' ⟨rfl, rfl⟩)
        go_region
        all_goals
          rw [HW.out]
          go_wp2_with (go_at_call 31; refine HB.out.mono ?_; rintro e w2 ⟨rfl, hE2⟩)
          go_ret
          exact ⟨rfl, by rw [HC.out]; exact HS1.out.kept0 hE2, HE1.out.then0 hE2⟩
    · rw [if_neg (fun h => g2 h.2.1)] at HC
      go_enter Try.func21, Try.ntmps21
      go_wp2_with (go_at_call 22; refine HN.out.mono ?_; rintro e w' ⟨rfl, rfl⟩)
      go_region
      all_goals
        rw [HW.out]
        go_wp2
        go_ret
        exact ⟨rfl, by rw [HC.out]; exact HS1.out, HE1.out⟩
  · rw [if_neg (fun h => g1 h.1)] at HC
    go_enter Try.func21, Try.ntmps21
    go_wp2_with (go_at_call 22; refine HN.out.mono ?_; rintro e w' ⟨rfl, rfl⟩)
    go_region
    all_goals
      rw [HW.out]
      go_wp2
      go_ret
      exact ⟨rfl, by rw [HC.out]; exact HS1.out, HE1.out⟩
theorem bounce_at (base g gp c : Nat) (s : Sc) (u : Int) (k : Nat) (p : Pa) (w : World) (h : IsSo base w g s gp c) (hok : s.Ok u) (hu : u ≤ 900000) (hp : s.ps[k]? = some p) (hbase : base ≤ w.heap.size) :
    Calls Try.prog 8 #[.pointer (some ⟨g, 0, none⟩), .int .i64 k] w fun e w' => e = .returned (.int .i64 0) ∧ IsSo base w' g (s.count k 2 p) gp c ∧ Ext (At gp) w w' := by
  have HC := Lib.hid (count_at2 base g gp c s u k p w h hok hu hp hbase)
  clear h hok hp
  go_enter Try.func8, Try.ntmps8
  go_wp2_with (go_at_call 21; refine HC.out.mono ?_; rintro e w' ⟨rfl, hS, hE⟩)
  go_ret
  exact ⟨rfl, hS, hE⟩
end Go.Proofs.Ytkkcdijnhegneaa
