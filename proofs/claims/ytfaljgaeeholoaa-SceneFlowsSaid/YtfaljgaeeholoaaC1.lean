/- 'Ring' of the document's answer for package scene, proved for every value that its statement lets in (the conditions stand in the statements). -/
import Derived.Test.YtfaljgaeeholoaaB9
namespace Go.Proofs.Ytfaljgaeeholoaa
open Go.RowKit
def ringP (seed : Int) (n i : Nat) : List (Nat × Nat) := (List.range i).map fun a => (a, (ringN seed n (n - 1)).getD a 0)
theorem ringP_step (seed : Int) (n i : Nat) : ringP seed n (i + 1) = ringP seed n i ++ [(i, (ringN seed n (n - 1)).getD i 0)] := by
  unfold ringP
  rw [List.range_succ, List.map_append]
  rfl
theorem ringP_len (seed : Int) (n i : Nat) : (ringP seed n i).length = i := by simp [ringP]
set_option maxRecDepth 100000 in
set_option maxHeartbeats 2000000 in
theorem rring_f (seed : Int) (n : Nat) (bytes : Int) (w : World) (hR : RightP n bytes) : Calls Try.prog 11 #[.int .u64 seed, .int .i64 n, .int .i64 bytes] w (GivesF 49 (ofP bytes (ringL seed n)) w) := by
  unfold RightP at hR
  obtain ⟨⟨r1, r2⟩, r3, r4⟩ := hR
  have hn : 2 ≤ n ∧ n ≤ 8 := by omega
  have hrl : ringL seed n = ringP seed n n := rfl
  rw [hrl]
  clear hrl
  unfold GivesF
  go_enter Try.func11, Try.ntmps11
  go_wp2_with (first | (go_at_call 22; refine (within_yes _ _ _ _ ?hc).mono ?_; (case hc => omega); rintro e w' ⟨rfl, rfl⟩))
  go_loopw [8, 9] (fun l v wr => ∃ (i : Nat) (A : Option Addr) (c : Nat), v = .int .i64 i ∧ i ≤ n ∧ l = .slice A i c ∧ Hid (wr.ownsRow w'.heap.size 3 1 (.slice A i c) i (nats (List.range i))) ∧ Hid (Ext N0 w' wr))
    (fun _ v _ => n - (intOf v).toNat)
  case atStart => exact ⟨0, none, 0, rfl, by omega, rfl, Lib.hid (ownNil _ _ _ _), Lib.hid (Ext.refl _ _)⟩
  case round =>
    obtain ⟨i, A, c, rfl, hi, rfl, HO, HE⟩ := hrel
    by_cases hlt : i < n
    · have hlt' : (i : Int) < n := by omega
      have hsz := HE.out.size
      go_wp2_with (at_builtin; refine wpApp w'.heap.size (.tmp 30) (.tmp 32) 43 3 (.int .i64 0) 1 8 rfl rfl Try.underlying43 info3 rfl (by decide) (by decide) (.slice A i c) i (nats (List.range i)) _ 1 _ [.int .i64 (i : Int)] rfl rfl (ownKept0 HO.out ((Ext.refl _ _).alloc _)) rfl (litReads wr _ _ (by simp)) (by simp [Value.oneCell']) (by omega) (by simp; omega) ?_; intro A2 c2 w2 ho2 hE2 _; have HO2 := Lib.hid ho2; have HE2 := Lib.hid ((HE.out.alloc _).trans hE2 (fun x hx => .inr (ownBase HO.out x hx).1)); clear ho2 hE2)
      have hl : nats (List.range i) ++ [.int .i64 (i : Int)] = nats (List.range (i + 1)) := by rw [List.range_succ]; simp [nats]
      go_roundw
      case rel => exact ⟨i + 1, A2, c2, by go_num, by omega, rfl, Lib.hid (by rw [← hl]; exact HO2.out), HE2⟩
      case measure => simp only [intOf]; omega
    · have hlt' : ¬ (i : Int) < n := by omega
      obtain rfl : i = n := by omega
      clear hlt hi
      have hsz := HE.out.size
      have hE2 : Ext N0 wr (wr.alloc (.cells #[.int .u64 seed, .int .i64 0] 51)) := (Ext.refl _ _).alloc _
      have HO2 := Lib.hid (ownKept0 HO.out hE2)
      have HE2 := Lib.hid (HE.out.then0 hE2)
      have HB2 := Lib.hid (blkNew wr (.cells #[.int .u64 seed, .int .i64 0] 51))
      clear hE2
      go_wp2_with fail
      obtain ⟨S, hS⟩ : ∃ S, wr.heap.size = S := ⟨_, rfl⟩
      rw [hS] at HB2 hsz
      simp only [hS]
      clear hS HO HE hlt'
      obtain ⟨gg, cap, hvv, hgb, hgl⟩ := HO2.out.form (by omega)
      injection hvv with hv1 hv2 hv3
      subst hv1
      clear hv2 hv3 hgl cap
      go_loopw [11] (fun v wr => ∃ (j k : Nat), v = .int .i64 k ∧ k + j + 1 = i ∧ Hid (wr.heap[S]? = some (.cells #[.int .u64 seed, .int .i64 j] 51 (0, 0))) ∧ Hid (wr.ownsRow w'.heap.size 3 1 (.slice (some ⟨gg, 0, none⟩) i c) i (nats (ringN seed i j))) ∧ Hid (Ext N0 w' wr))
        (fun v _ => (intOf v).toNat)
      case atStart => exact ⟨0, i - 1, by go_num, by omega, HB2, HO2, HE2⟩
      case round =>
        clear HB2 HO2 HE2
        obtain ⟨j, k, rfl, hjk, HB, HO, HE⟩ := hrel
        by_cases hk1 : 1 ≤ k
        · have hk1' : 1 ≤ (k : Int) := by omega
          have hq := belowV_in seed j (k := (k : Int)) hk1'
          have HC := Lib.hid (rbelow_calls seed j k wr (by omega) (by omega))
          obtain ⟨q, hqe⟩ : ∃ q : Nat, belowV seed j (k : Int) = q := ⟨_, (Int.toNat_of_nonneg hq.1).symm⟩
          rw [hqe] at hq HC
          have hs : ringN seed i (j + 1) = swapN (ringN seed i j) k q := by
            rw [ringN, show i - 1 - j = k by omega, hqe]
            simp
          have hql : q < k := by omega
          have hlen := ringN_len seed i j
          have hHS := Lib.hid hs
          obtain ⟨l, hl⟩ : ∃ l, ringN seed i j = l := ⟨_, rfl⟩
          rw [hl] at HO hHS hlen
          have b0 := (blkCell HB.out 0).trans rfl
          have b1 := (blkCell HB.out 1).trans rfl
          simp at b0 b1
          have hne : gg ≠ S := ownNeBlk HO.out HB.out (by decide) gg rfl
          have hki : (k : Int) < i := by omega
          have hqi : (q : Int) < i := by omega
          obtain ⟨lq, hlq⟩ : ∃ lq, l.getD q 0 = lq := ⟨_, rfl⟩
          obtain ⟨lk, hlk⟩ : ∃ lk, l.getD k 0 = lk := ⟨_, rfl⟩
          clear hqe hs hl hq
          have hcj : ((j + 1 : Nat) : Int) = (j : Int) + 1 := by push_cast; rfl
          rw [hcj] at HC
          have HCJ := Lib.hid hcj
          clear hcj
          go_wp2_with (go_at_call 24; refine HC.out.mono ?_; rintro e w3 ⟨rfl, hE3⟩; have hB3 := hE3.blk0 HB.out; have hO3 := ownKept0 HO.out hE3; have hsl3 : S < w3.heap.size := blkLt hB3; have hgl3 : gg < w3.heap.size := (ownBase hO3 gg rfl).2; have s2 := set2 (x := .int .u64 seed) (y := .int .i64 (j + 1)) hB3; have f0 := blkFrozen hB3 0; have f1 := blkFrozen hB3 1; have g0 := (blkCell hB3 0).trans rfl; have g1 := (blkCell hB3 1).trans rfl; have hO4 := ownKept hO3 s2.2 (fun x hx h => ownNeBlk hO3 hB3 (by decide) x hx h); have d1 := hO4.cellAt q (by omega); have d2 := hO4.cellAt k (by omega); rw [nats_get _ _ (by omega)] at d1 d2; rw [hlq] at d1; rw [hlk] at d2; have d3 := hO4.frozenAt q; have d4 := hO4.frozenAt k; have st1 := hO4.stored k (.int .i64 (lq : Int)); have d5 := st1.1.cellAt q (by omega); rw [List.getElem?_set_ne (by omega), nats_get _ _ (by omega), hlq] at d5; have d6 := st1.1.frozenAt q; have st2 := st1.1.stored q (.int .i64 (lk : Int)); have ho5 := st2.1; have hb5 := blkFar (blkFar s2.1 (p := ⟨gg, k, none⟩) (fun h => hne h.symm) (.int .i64 (lq : Int))) (p := ⟨gg, q, none⟩) (fun h => hne h.symm) (.int .i64 (lk : Int)); have hE5 : Ext N0 w' _ := (((HE.out.then0 hE3).trans s2.2 (fun x hx => .inr (by have hx : x = S := hx; omega))).setCell (p := ⟨gg, k, none⟩) (.inr hgb) (.int .i64 (lq : Int))).setCell (p := ⟨gg, q, none⟩) (.inr hgb) (.int .i64 (lk : Int)); rw [nats_set, nats_set] at ho5; simp at g0 g1; have HO5 := Lib.hid ho5; have HB5 := Lib.hid hb5; have HE5 := Lib.hid hE5; clear hB3 hO3 s2 hO4 st1 st2 ho5 hb5 hE5 HB HO HE HC b0 b1)
          have HX := Lib.hid ((HE5.out).alloc (.cells #[.int .u64 seed, .int .i64 (j + 1)] 51))
          have HY := Lib.hid (blkAlloc HB5.out (.cells #[.int .u64 seed, .int .i64 (j + 1)] 51))
          have HZ := Lib.hid (ownKept0 HO5.out ((Ext.refl N0 _).alloc (.cells #[.int .u64 seed, .int .i64 (j + 1)] 51)))
          go_roundw
          case rel => exact ⟨j + 1, k - 1, by go_num, by omega, Lib.hid (by rw [HCJ.out]; exact HY.out), Lib.hid (by rw [hHS.out]; unfold swapN; rw [hlq, hlk]; exact HZ.out), HX⟩
          case measure => simp only [intOf]; omega
        · have hk1' : ¬ 1 ≤ (k : Int) := by omega
          obtain rfl : k = 0 := by omega
          obtain rfl : j = i - 1 := by omega
          have hlen := ringN_len seed i (i - 1)
          obtain ⟨l, hl⟩ : ∃ l, ringN seed i (i - 1) = l := ⟨_, rfl⟩
          rw [hl] at HO hlen
          have hst : ∀ t, ringP seed i (t + 1) = ringP seed i t ++ [(t, l.getD t 0)] := fun t => by rw [ringP_step, hl]
          have HST := Lib.hid hst
          clear hst hl HB
          go_wp2_with fail
          go_loopw [15, 16] (fun s v wr => ∃ (t : Nat) (A : Option Addr) (c2 : Nat), v = .int .i64 t ∧ t ≤ i ∧ s = .slice A t c2 ∧ Hid (wr.ownsRow w'.heap.size 3 1 (.slice (some ⟨gg, 0, none⟩) i c) i (nats l)) ∧ Hid (wr.ownsRow w'.heap.size 49 5 (.slice A t c2) t (flV (ofP bytes (ringP seed i t)))) ∧ Hid (Ext N0 w' wr)) (fun _ v _ => i - (intOf v).toNat)
          case atStart => exact ⟨0, none, 0, rfl, by omega, rfl, HO, Lib.hid (by simpa [ringP, ofP, flV] using ownNil wr w'.heap.size 49 5), HE⟩
          case round =>
            clear HO HE
            obtain ⟨t, A, c2, rfl, ht, rfl, HR, HO, HE⟩ := hrel
            by_cases hlt : t < i
            · have hlt' : (t : Int) < i := by omega
              have hsz := HE.out.size
              have d1 := HR.out.cellAt t (by omega)
              rw [nats_get _ _ (by omega)] at d1
              obtain ⟨lt, hltv⟩ : ∃ lt, l.getD t 0 = lt := ⟨_, rfl⟩
              rw [hltv] at d1
              have hgl3 : gg < wr.heap.size := (ownBase HR.out gg rfl).2
              go_wp2_with (at_builtin; refine wpApp w'.heap.size (.tmp 70) (.tmp 78) 32 49 (.agg #[.int .i64 0, .int .i64 0, .int .i64 0, .int .i64 0, .int .i64 0]) 5 40 rfl rfl Try.underlying32 info49 rfl (by decide) (by decide) (.slice A t c2) t (flV (ofP bytes (ringP seed i t))) _ 1 _ [.int .i64 (t : Int), .int .i64 (lt : Int), .int .i64 0, .int .i64 bytes, .int .i64 0] rfl rfl (ownKept0 HO.out ((Ext.refl _ _).alloc _)) rfl (litReads wr _ _ (by simp)) (by simp [Value.oneCell']) (by omega) (by simp; omega) ?_; intro A5 c5 w5 ho5 hE5 _; have HO5 := Lib.hid ho5; have HE6 := Lib.hid hE5; clear ho5 hE5)
              have hal : Ext N0 wr (wr.alloc (.cells [Value.int .i64 (t : Int), Value.int .i64 (lt : Int), Value.int .i64 0, Value.int .i64 bytes, Value.int .i64 0].toArray 49)) := (Ext.refl _ _).alloc _
              have HR5 := Lib.hid (ownKept (ownKept0 HR.out hal) HE6.out (fun x hx => ownNe (ownKept0 HR.out hal) (ownKept0 HO.out hal) (by decide) x hx))
              have HE5 := Lib.hid ((HE.out.then0 hal).trans HE6.out (fun x hx => .inr (ownBase HO.out x hx).1))
              clear hal
              have hfl : flV (ofP bytes (ringP seed i t)) ++ [.int .i64 (t : Int), .int .i64 (lt : Int), .int .i64 0, .int .i64 bytes, .int .i64 0] = flV (ofP bytes (ringP seed i (t + 1))) := by rw [HST.out, hltv, ofP_app]; simp [flV, flC, ofP]
              go_roundw
              case rel => exact ⟨t + 1, A5, c5, by go_num, by omega, rfl, HR5, Lib.hid (by rw [← hfl]; exact HO5.out), HE5⟩
              case measure => simp only [intOf]; omega
            · have hlt' : ¬ (t : Int) < i := by omega
              obtain rfl : t = i := by omega
              go_wp2
              refine bodyPost_ret (v := .tuple #[.slice A t c2, .int .i64 0]) (by simp [results, Try.results11, go_sem]) rfl ?_
              refine ⟨A, c2, by rw [ofP_len, ringP_len], ?_, HE.out⟩
              unfold IsFl
              rw [ofP_len, ringP_len]
              exact HO.out
end Go.Proofs.Ytfaljgaeeholoaa
