/- The walk of the law CutWhole: called with any values that fit its parameters, it returns true and nothing that was in memory before has changed. No other condition. -/
import Derived.Test.YteklmbbbhelkiaaKCutPieces
namespace Go.Proofs.Yteklmbbbhelkiaa
open Go.RowKit
/-- string(x) of bytes that can be read. -/
theorem readsStr {w : World} {A : Option Addr} {n c : Nat} {xs : List Int} (h : Reads w A (ints .u8 xs)) (hl : xs.length = n) : (convert 22 9 (.slice A n c)).run Try.prog w = .ok (.string (strOfNums xs)) w := by
  rcases A with _ | ad
  · obtain rfl : xs = [] := by have := h.isNil; simpa [ints] using this
    exact run_convert_bytes_nil w 22 5 Try.underlying22 Try.underlying5 n c 9 Try.underlying9
  · have hc : ∀ j v, (xs.map (Value.int .u8))[j]? = some v → w.cell? (ad.add j) = some v := by
      intro j v hj
      obtain ⟨ad', e, hc⟩ := h.2 (by have := (List.getElem?_eq_some_iff.1 hj).1; rw [ints_length]; simp at this; omega)
      injection e with e
      subst e
      exact hc j v hj
    have hld : (loadCells ad n).run Try.prog w = .ok (xs.map (Value.int .u8)).toArray w := by
      have := run_loadCells_list (P := Try.prog) w ad (xs.map (Value.int .u8)) hc
      simpa [hl] using this
    rw [run_convert_bytes_string w 22 9 5 _ n c Try.underlying22 Try.underlying5 Try.underlying9, run_bytesToString w _ n c xs hld, foldl_push_bytes]
    simp [strOfNums, ByteArray.empty, ByteArray.emptyWithCapacity]
    rfl
namespace cutWhole
set_option maxRecDepth 100000 in
set_option maxHeartbeats 4000000 in
theorem walk (a0 : Option Addr) (len0 cap0 : Nat) (z0 : List Int) (a1 : Int) (w : World) (w0 : IsRow .u8 w a0 len0 cap0 z0) (w1 : (Lit.int .i64 a1).wf = true) :
    Calls Try.prog 4 #[.slice a0 len0 cap0, .int .i64 a1] w fun e w' => e = .returned (.bool true) ∧ Below w.heap.size w w' := by
  obtain ⟨bs, hlen, hr, hlc, hcm⟩ := cutReads w0
  have hfew := few_calls a0 len0 cap0 w hlc hcm
  rw [← hlen] at hfew
  have hbl : bs.length ≤ 3000 := by omega
  have hbc : bs.length ≤ cap0 := by omega
  have hb1 := bd64 w1
  obtain ⟨mtu, N, er, hm1, hN1, hN2, hcs, hcut, _⟩ := both a0 cap0 bs a1 w hr hbc hbl hb1
  have HF := Lib.hid hfew
  have HC := Lib.hid hcut
  have HR := Lib.hid hr
  have HN := Lib.hid hN2
  clear hfew hcut hN2 hr hlen w0 w1
  rcases hcs with ⟨rfl, hmay, rfl, hcnt, hNl⟩ | ⟨rfl, rfl⟩
  · have HCN := Lib.hid hcnt
    have HNL := Lib.hid hNl
    clear hcnt hNl
    go_enter Try.func4, Try.ntmps4
    go_wp2_with fail
    refine HF.out.mono ?_
    rintro e w' ⟨rfl, hw'⟩
    subst hw'
    go_wp2_with fail
    refine HC.out.mono ?_
    rintro e w3 ⟨ps, A3, c3, rfl, hC3, hE3⟩
    have HC3 := Lib.hid hC3
    have hs3 := hE3.size
    clear hC3
    go_wp2_with fail
    go_loopw [7, 8] (fun s i wr => ∃ (k n : Nat) (B : Option Addr) (d : Nat), k ≤ N ∧ n ≤ bs.length ∧ i = .int .i64 k ∧ s = .slice B n d ∧ Hid (n = min (k * mtu) bs.length) ∧ Hid (wr.ownsRow w3.heap.size 5 1 (.slice B n d) n (ints .u8 (bs.take n))) ∧ Hid (Ext N0 w3 wr))
      (fun _ i _ => N - (intOf i).toNat)
    case atStart => exact ⟨0, 0, none, 0, by omega, by omega, rfl, rfl, Lib.hid (by simp), Lib.hid (ownNil _ _ _ _), Lib.hid (Ext.refl _ _)⟩
    case round =>
      obtain ⟨k, n, B, d, hk, hn, rfl, rfl, hnk, HO, HE⟩ := hrel
      have hsr := HE.out.size
      by_cases hlt : k < N
      · obtain ⟨g, B1, d1, rfl, p0, p1, p2, po⟩ := (HC3.out.kept0 HE.out).at k hlt hN1
        have hnl : n < bs.length := by have := HN.out k hlt; have := hnk.out; omega
        obtain ⟨b', hb'⟩ : ∃ b', min (n + mtu) bs.length = b' := ⟨_, rfl⟩
        obtain ⟨e1, e2, e3⟩ := cstep (j := k) (mtu := mtu) hnk.out hnl hb'.symm
        have e4 : (bs.drop n).take (b' - n) = (bs.drop (k * mtu)).take mtu := congrArg Prod.fst e3
        have e5 : decide (b' = bs.length) = decide (bs.length ≤ (k + 1) * mtu) := congrArg Prod.snd e3
        obtain ⟨m, hm⟩ : ∃ m, b' - n = m := ⟨_, rfl⟩
        rw [hm] at e2 e4
        rw [← e4, e2] at p0 po
        have hdec : (decide (bs.length ≤ (k + 1) * mtu)) = ((k : Int) == (N : Int) - 1) := by
          show _ = decide ((k : Int) = (N : Int) - 1)
          congr 1
          refine propext ⟨fun h => ?_, fun h => ?_⟩
          · rcases Nat.lt_or_ge (k + 1) N with h' | h'
            · have := HN.out (k + 1) h'
              omega
            · omega
          · have : N = k + 1 := by omega
            have h2 := HNL.out
            rw [this] at h2
            omega
        rw [hdec] at p1
        have hm0 : 1 ≤ m := by omega
        have hmm : m ≤ mtu := by omega
        have hnm : n + m ≤ bs.length := by omega
        have happ : bs.take n ++ (bs.drop n).take m = bs.take (n + m) := (List.take_add ..).symm
        have hnk' : n + m = min ((k + 1) * mtu) bs.length := by omega
        have HAP := Lib.hid happ
        have HNK := Lib.hid hnk'
        have H2 := Lib.hid e2
        have hR := ownReads1 po
        have HR1 := Lib.hid hR
        have hlt' : (k : Int) < N := by omega
        clear e1 e2 e3 e4 e5 hb' hm hdec happ hnk' hR po
        go_wp2_with (at_builtin; refine wpApp w3.heap.size (.tmp 68) (.tmp 73) 22 5 (.int .u8 0) 1 1 rfl rfl Try.underlying22 info5 rfl (by decide) (by decide) (.slice B n d) n (ints .u8 (bs.take n)) B1 m _ (ints .u8 ((bs.drop n).take m)) rfl rfl HO.out (by rw [ints_length, H2.out]; omega) HR1.out (oneInts _ _) (by omega) hsr ?_; intro A5 c5 w5 ho5 hE5 hat5; have HX := Lib.hid (HE.out.trans hE5 (fun k hk => .inr (ownBase HO.out k hk).1)); have HO5 : Hid (w5.ownsRow w3.heap.size 5 1 (.slice A5 (n + m) c5) (n + m) (ints .u8 (bs.take (n + m)))) := Lib.hid (by rw [← HAP.out]; simpa [ints] using ho5); clear ho5 hE5 hat5)
        go_roundw
        case rel => exact ⟨k + 1, n + m, A5, c5, by omega, by omega, by go_num, rfl, HNK, HO5, HX⟩
        case measure => simp [intOf]; omega
      · obtain rfl : k = N := by omega
        have hnl : n = bs.length := by have := hnk.out; have := HNL.out; omega
        have hbl1 : 0 < n := by have := hmay.1; omega
        have k1 := ownStr HO.out hbl1
        rw [show bs.take n = bs from by rw [hnl]; exact List.take_length] at k1
        have k2 := readsStr (c := cap0) ((HR.out.mono0 hE3).mono0 HE.out) rfl
        have hct := count_calls bs.length mtu wr
        rw [HCN.out] at hct
        have HCT := Lib.hid hct
        clear hct hnl hmay
        go_wp2_with (first
          | (go_at_call 9; refine HCT.out.mono ?_; rintro e w6 ⟨rfl, rfl⟩)
          | (go_at_call 11; refine (awake_calls _).mono ?_; rintro e w8 ⟨rfl, hE8⟩))
        go_ret
        exact ⟨rfl, ((hE3.then0 HE.out).then0 hE8).below⟩
  · go_enter Try.func4, Try.ntmps4
    go_wp2_with fail
    refine HF.out.mono ?_
    rintro e w' ⟨rfl, hw'⟩
    subst hw'
    go_wp2_with fail
    refine HC.out.mono ?_
    rintro e w3 ⟨ps, A3, c3, rfl, hC3, hE3⟩
    go_wp2_with (go_at_call 11; refine (awake_calls _).mono ?_; rintro e w8 ⟨rfl, hE8⟩)
    go_ret
    exact ⟨rfl, (hE3.then0 hE8).below⟩
end cutWhole
end Go.Proofs.Yteklmbbbhelkiaa
