/- The walk of the law ScoreBack: called with any values that fit its parameters, it returns true and nothing that was in memory before has changed. No other condition. -/
import Derived.Test.YtkkcdijnhegneaaAw
import Derived.Laws.Bits64
namespace Go.Proofs.Ytkkcdijnhegneaa
open Go.RowKit Go.ChangeShapes Go.WideShapes
theorem count_len (s : Sc) (k what : Nat) (p : Pa) : (s.count k what p).ps.length = s.ps.length := by
  unfold Sc.count
  split <;> simp [Sc.setP]
theorem count_rest (s : Sc) (k what : Nat) (p : Pa) : (s.count k what p).rest = s.rest := by
  unfold Sc.count
  split <;> rfl
theorem act_all {s : Sc} (h : ∀ p, p ∈ s.ps → p.r = 0) : s.act.length = s.ps.length := by
  unfold Sc.act
  rw [List.filter_eq_self.2 (fun k hk => ?_)]
  · simp
  · have hk := List.mem_range.1 hk
    have : s.ps[k]? = some s.ps[k] := List.getElem?_eq_getElem hk
    simp [this, h _ (List.getElem_mem hk)]
/-- All rest at most so long. -/
def Sc.Most (s : Sc) (m : Int) : Prop := ∀ p, p ∈ s.ps → 0 ≤ p.r ∧ p.r ≤ m
theorem Most.count0 {s : Sc} {m : Int} (h : s.Most m) {k : Nat} {p : Pa} (hp : s.ps[k]? = some p) : (s.count k 0 p).Most m := by
  have e : s.count k 0 p = s.setP k (p.inc 0) := by unfold Sc.count; rw [if_neg (fun h => h.1 rfl)]
  rw [e]
  intro q hq
  rcases List.mem_or_eq_of_mem_set hq with hq | rfl
  · exact h q hq
  · exact h p (List.mem_of_getElem? hp)
theorem Most.tick {s : Sc} {m : Int} (h : s.Most (m + 1)) (hm : 0 ≤ m) : s.tick.Most m := by
  intro q hq
  obtain ⟨p, hp, rfl⟩ := List.mem_map.1 hq
  have := h p hp
  unfold Pa.tick
  split
  · omega
  · simp only []
    omega
namespace scoreBack
set_option maxRecDepth 100000 in
set_option maxHeartbeats 1000000 in
theorem walk (a0 a1 : Int) (a2 : Option Addr) (len2 cap2 : Nat) (z2 : Nat → Int × Int) (w : World) (w0 : (Lit.int .u8 a0).wf = true) (w1 : (Lit.int .u8 a1).wf = true) (w2 : IsOps w a2 len2 cap2 z2) :
    Calls Try.prog 3 #[.int .u8 a0, .int .u8 a1, .slice a2 len2 cap2] w fun e w' => e = .returned (.bool true) ∧ Below w.heap.size w w' := by
  have b0 := bd8 w0
  have b1 := bd8 w1
  have HW := Lib.hid w2
  clear w0 w1 w2
  have e0 : a0.tmod 8 = a0 % 8 := Int.tmod_eq_emod_of_nonneg (by omega)
  have e1 : a1.tmod 40 = a1 % 40 := Int.tmod_eq_emod_of_nonneg (by omega)
  obtain ⟨x, hx⟩ : ∃ x, a0 % 8 = x := ⟨_, rfl⟩
  obtain ⟨y, hy, hy0⟩ : ∃ y : Nat, a1 % 40 = y ∧ y < 40 := ⟨(a1 % 40).toNat, by omega, by omega⟩
  obtain ⟨n, hn, hn2⟩ : ∃ n : Nat, 1 + x = n ∧ (1 ≤ n ∧ n ≤ 8) := ⟨(1 + x).toNat, by omega, by omega⟩
  rw [hx, show x = (n : Int) - 1 by omega] at e0
  rw [hy] at e1
  clear hx hy hn
  have hnn : 1 + ((n : Int) - 1) = n := by omega
  have HN := Lib.hid (new_good n y w hn2 (by omega))
  have hwn : IntKind.u64.wrap (n : Int) = n := by rw [IntKind.wrap_u64]; omega
  have hnz : ((n : Int) == 0) = false := beq_eq_false_iff_ne.mpr (by omega)
  go_enter Try.func3, Try.ntmps3
  go_wp2_with (first
    | (go_at_call 5; refine HN.out.mono ?_; rintro e w1 ⟨rfl, hS, hE⟩; have HS := Lib.hid hS; have HE := Lib.hid hE; clear hS hE)
    | (go_at_call 6; refine (awake_calls _).mono ?_; rintro e w2 ⟨rfl, hE2⟩; have HS2 := Lib.hid (HS.out.kept0 hE2); have HE2 := Lib.hid (HE.out.then0 hE2); clear hE2 HS HE))
  go_loopw [11] (fun v wr => ∃ (i : Nat) (s : Sc), v = .int .i64 i ∧ i ≤ 60 ∧ Hid (s.Ok i) ∧ s.ps.length = n ∧ s.rest = y ∧ Hid (IsSc w.heap.size wr (w.heap.size + 1) s) ∧ Hid (Ext N0 w wr)) (fun v _ => 61 - (intOf v).toNat)
  case atStart => exact ⟨0, _, rfl, by omega, Lib.hid (new0_ok n y hn2 (by omega)), by simp [new0], rfl, HS2, HE2⟩
  case round =>
    clear HS2 HE2 HN
    obtain ⟨i, s, rfl, hi, HOk, hsl, hsr, HS, HE⟩ := hrel
    by_cases hl : i < len2
    · have hl' : (i : Int) < len2 := by omega
      by_cases h6 : i < 60
      · have h6' : (i : Int) < 60 := by omega
        obtain ⟨hx1, hx2, hx3⟩ := HW.out
        obtain ⟨ad, rfl, hc⟩ := hx3 (by omega)
        obtain ⟨c0, c1, d0, d1⟩ := hc i hl
        obtain ⟨d, hd⟩ : ∃ d, (z2 i).1 = d := ⟨_, rfl⟩
        obtain ⟨N, hN⟩ : ∃ N, (z2 i).2 = N := ⟨_, rfl⟩
        rw [hd] at c0 d0
        rw [hN] at c1 d1
        have d0 := bd8 d0
        have d1 := bd64 d1
        rw [addSucc] at c1
        simp only [Nat.zero_add] at c1
        have c0 := HE.out.cell c0 (fun h => h)
        have c1 := HE.out.cell c1 (fun h => h)
        have hw0 : 0 ≤ IntKind.u64.wrap N := by rw [IntKind.wrap_u64]; omega
        obtain ⟨q, hqe, hq⟩ : ∃ q : Nat, (IntKind.u64.wrap N).tmod n = q ∧ q < n := ⟨((IntKind.u64.wrap N) % n).toNat, by rw [Int.tmod_eq_emod_of_nonneg hw0]; exact (Int.toNat_of_nonneg (Int.emod_nonneg _ (by omega))).symm, by have := Int.emod_lt_of_pos (IntKind.u64.wrap N) (show (0 : Int) < n by omega); have := Int.emod_nonneg (IntKind.u64.wrap N) (show (n : Int) ≠ 0 by omega); omega⟩
        obtain ⟨p, hp⟩ : ∃ p, s.ps[q]? = some p := ⟨_, List.getElem?_eq_getElem (by omega)⟩
        clear hw0 hd hN hc hx1 hx2 hx3
        have hcs : d % 2 = 0 ∨ d % 2 = 1 := by omega
        rcases hcs with hcs | hcs
        · have HK := Lib.hid (nack_calls w.heap.size (w.heap.size + 1) s i q p wr HS.out HOk.out (by omega) hp HE.out.size)
          have hok' := HOk.out.count hp 1
          have hl1 := count_len s q 1 p
          have hr1 := count_rest s q 1 p
          obtain ⟨s', hs'⟩ : ∃ s', s.count q 1 p = s' := ⟨_, rfl⟩
          rw [hs'] at HK hok' hl1 hr1
          have HOK := Lib.hid hok'
          clear hs' hok' hp
          go_wp2_with (go_at_call 7; refine HK.out.mono ?_; rintro e w2 ⟨rfl, hS2, hE2⟩; have HS3 := Lib.hid hS2; have HE3 := Lib.hid (Ext.of_tp (tpTrans (Ext.of0 HE.out) hE2)); clear hS2 hE2)
          go_roundw
          case rel => exact ⟨i + 1, s', by go_num, by omega, Lib.hid (HOK.out.more (by omega)), by omega, by omega, HS3, HE3⟩
          case measure => simp only [intOf]; omega
        · have HK := Lib.hid (bounce_calls w.heap.size (w.heap.size + 1) s i q p wr HS.out HOk.out (by omega) hp HE.out.size)
          have hok' := HOk.out.count hp 2
          have hl1 := count_len s q 2 p
          have hr1 := count_rest s q 2 p
          obtain ⟨s', hs'⟩ : ∃ s', s.count q 2 p = s' := ⟨_, rfl⟩
          rw [hs'] at HK hok' hl1 hr1
          have HOK := Lib.hid hok'
          clear hs' hok' hp
          go_wp2_with (go_at_call 8; refine HK.out.mono ?_; rintro e w2 ⟨rfl, hS2, hE2⟩; have HS3 := Lib.hid hS2; have HE3 := Lib.hid (Ext.of_tp (tpTrans (Ext.of0 HE.out) hE2)); clear hS2 hE2)
          go_roundw
          case rel => exact ⟨i + 1, s', by go_num, by omega, Lib.hid (HOK.out.more (by omega)), by omega, by omega, HS3, HE3⟩
          case measure => simp only [intOf]; omega
      · have h6' : ¬ (i : Int) < 60 := by omega
        have hm : Sc.Most s y := fun p hp => by have := (HOk.out.num p hp).2.2.2; rw [hsr] at this; exact this
        have HM := Lib.hid hm
        have HO := Lib.hid (HOk.out.more (show (i : Int) ≤ 60 by omega))
        clear hm HOk
        go_wp2_with fail
        clear hl hl' h6 h6' hi
        go_loopw [12] (fun v wr => ∃ (j : Nat) (s : Sc), v = .int .i64 j ∧ j ≤ y ∧ Hid (s.Ok (60 + j)) ∧ s.ps.length = n ∧ Hid (Sc.Most s (y - j)) ∧ Hid (IsSc w.heap.size wr (w.heap.size + 1) s) ∧ Hid (Ext N0 w wr)) (fun v _ => y - (intOf v).toNat)
        case atStart => exact ⟨0, s, rfl, by omega, Lib.hid (HO.out.more (by omega)), hsl, Lib.hid (by simpa using HM.out), HS, HE⟩
        case round =>
          clear HO HM HS HE hsl hsr
          obtain ⟨j, t, rfl, hj, HO, htl, HM, HS, HE⟩ := hrel
          by_cases hlt : j < y
          · have hlt' : (j : Int) < y := by omega
            obtain ⟨q, hqe, hq⟩ : ∃ q : Nat, (j : Int).tmod n = q ∧ q < n := ⟨j % n, by rw [Int.tmod_eq_emod_of_nonneg (by omega)]; rfl, Nat.mod_lt _ (by omega)⟩
            obtain ⟨p, hp⟩ : ∃ p, t.ps[q]? = some p := ⟨_, List.getElem?_eq_getElem (by omega)⟩
            have HK := Lib.hid (ack_calls w.heap.size (w.heap.size + 1) t (60 + j) q p wr HS.out HO.out (by omega) hp)
            have hok1 := HO.out.count hp 0
            have hm1 := Most.count0 HM.out hp
            have hl1 := count_len t q 0 p
            obtain ⟨t', ht'⟩ : ∃ t', t.count q 0 p = t' := ⟨_, rfl⟩
            rw [ht'] at HK hok1 hm1 hl1
            have hm2 : Sc.Most t'.tick (y - (j + 1 : Nat)) := Most.tick (by rw [show (y : Int) - (j + 1 : Nat) + 1 = y - j by omega]; exact hm1) (by omega)
            have hl2 : t'.tick.ps.length = n := by simp [Sc.tick]; omega
            have HT := Lib.hid (fun W (hb : w.heap.size ≤ W.heap.size) (hW : IsSc w.heap.size W (w.heap.size + 1) t') => tick_calls w.heap.size (w.heap.size + 1) t' (60 + j + 1) W hW hok1 hb)
            have HO2 := Lib.hid hok1.tick
            have HM2 := Lib.hid hm2
            clear ht' hok1 hm1 hm2 hp hl1
            go_wp2_with (first
              | (go_at_call 9; refine HK.out.mono ?_; rintro e w2 ⟨rfl, hS2, hE2⟩; have HS4 := Lib.hid hS2; have HE4 := Lib.hid (Ext.of_tp (tpTrans (Ext.of0 HE.out) hE2)); clear hS2 hE2)
              | (go_at_call 10; refine (HT.out _ HE4.out.size HS4.out).mono ?_; rintro e w3 ⟨A, c, rfl, _, hS3, hE3⟩; have HS5 := Lib.hid hS3; have HE5 := Lib.hid (Ext.of_tp (tpTrans (Ext.of0 HE4.out) hE3)); clear hS3 hE3))
            go_roundw
            case rel => exact ⟨j + 1, t'.tick, by go_num, by omega, Lib.hid (HO2.out.more (by omega)), hl2, HM2, HS5, HE5⟩
            case measure => simp only [intOf]; omega
          · have hlt' : ¬ (j : Int) < y := by omega
            have hact : t.act.length = n := by
              rw [← htl]
              exact act_all (fun p hp => by have := HM.out p hp; omega)
            have HA := active_calls w.heap.size (w.heap.size + 1) t (60 + j) wr HS.out HO.out
            rw [hact] at HA
            have HA2 := Lib.hid HA
            clear HA hact
            go_wp2_with (go_at_call 11; refine HA2.out.mono ?_; rintro e w3 ⟨A, c, rfl, _, hE3⟩)
            go_ret
            exact ⟨rfl, (HE.out.then0 hE3).below⟩
    · have hl' : ¬ (i : Int) < len2 := by omega
      have hm : Sc.Most s y := fun p hp => by have := (HOk.out.num p hp).2.2.2; rw [hsr] at this; exact this
      have HM := Lib.hid hm
      have HO := Lib.hid (HOk.out.more (show (i : Int) ≤ 60 by omega))
      clear hm HOk
      go_wp2_with fail
      clear hl hl' hi
      go_loopw [12] (fun v wr => ∃ (j : Nat) (s : Sc), v = .int .i64 j ∧ j ≤ y ∧ Hid (s.Ok (60 + j)) ∧ s.ps.length = n ∧ Hid (Sc.Most s (y - j)) ∧ Hid (IsSc w.heap.size wr (w.heap.size + 1) s) ∧ Hid (Ext N0 w wr)) (fun v _ => y - (intOf v).toNat)
      case atStart => exact ⟨0, s, rfl, by omega, Lib.hid (HO.out.more (by omega)), hsl, Lib.hid (by simpa using HM.out), HS, HE⟩
      case round =>
        clear HO HM HS HE hsl hsr
        obtain ⟨j, t, rfl, hj, HO, htl, HM, HS, HE⟩ := hrel
        by_cases hlt : j < y
        · have hlt' : (j : Int) < y := by omega
          obtain ⟨q, hqe, hq⟩ : ∃ q : Nat, (j : Int).tmod n = q ∧ q < n := ⟨j % n, by rw [Int.tmod_eq_emod_of_nonneg (by omega)]; rfl, Nat.mod_lt _ (by omega)⟩
          obtain ⟨p, hp⟩ : ∃ p, t.ps[q]? = some p := ⟨_, List.getElem?_eq_getElem (by omega)⟩
          have HK := Lib.hid (ack_calls w.heap.size (w.heap.size + 1) t (60 + j) q p wr HS.out HO.out (by omega) hp)
          have hok1 := HO.out.count hp 0
          have hm1 := Most.count0 HM.out hp
          have hl1 := count_len t q 0 p
          obtain ⟨t', ht'⟩ : ∃ t', t.count q 0 p = t' := ⟨_, rfl⟩
          rw [ht'] at HK hok1 hm1 hl1
          have hm2 : Sc.Most t'.tick (y - (j + 1 : Nat)) := Most.tick (by rw [show (y : Int) - (j + 1 : Nat) + 1 = y - j by omega]; exact hm1) (by omega)
          have hl2 : t'.tick.ps.length = n := by simp [Sc.tick]; omega
          have HT := Lib.hid (fun W (hb : w.heap.size ≤ W.heap.size) (hW : IsSc w.heap.size W (w.heap.size + 1) t') => tick_calls w.heap.size (w.heap.size + 1) t' (60 + j + 1) W hW hok1 hb)
          have HO2 := Lib.hid hok1.tick
          have HM2 := Lib.hid hm2
          clear ht' hok1 hm1 hm2 hp hl1
          go_wp2_with (first
            | (go_at_call 9; refine HK.out.mono ?_; rintro e w2 ⟨rfl, hS2, hE2⟩; have HS4 := Lib.hid hS2; have HE4 := Lib.hid (Ext.of_tp (tpTrans (Ext.of0 HE.out) hE2)); clear hS2 hE2)
            | (go_at_call 10; refine (HT.out _ HE4.out.size HS4.out).mono ?_; rintro e w3 ⟨A, c, rfl, _, hS3, hE3⟩; have HS5 := Lib.hid hS3; have HE5 := Lib.hid (Ext.of_tp (tpTrans (Ext.of0 HE4.out) hE3)); clear hS3 hE3))
          go_roundw
          case rel => exact ⟨j + 1, t'.tick, by go_num, by omega, Lib.hid (HO2.out.more (by omega)), hl2, HM2, HS5, HE5⟩
          case measure => simp only [intOf]; omega
        · have hlt' : ¬ (j : Int) < y := by omega
          have hact : t.act.length = n := by
            rw [← htl]
            exact act_all (fun p hp => by have := HM.out p hp; omega)
          have HA := active_calls w.heap.size (w.heap.size + 1) t (60 + j) wr HS.out HO.out
          rw [hact] at HA
          have HA2 := Lib.hid HA
          clear HA hact
          go_wp2_with (go_at_call 11; refine HA2.out.mono ?_; rintro e w3 ⟨A, c, rfl, _, hE3⟩)
          go_ret
          exact ⟨rfl, (HE.out.then0 hE3).below⟩
end scoreBack
end Go.Proofs.Ytkkcdijnhegneaa
