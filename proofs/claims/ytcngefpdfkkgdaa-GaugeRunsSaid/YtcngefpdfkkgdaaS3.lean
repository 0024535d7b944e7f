/- The document's answer for package gauge: Totals, Keys; rows of keys that are the same (the conditions stand in the statements). -/
import Derived.Test.YtcngefpdfkkgdaaS2
namespace Go.Proofs.Ytcngefpdfkkgdaa
open Go.RowKit
theorem sum_take (l : List Int) (hv : ∀ x ∈ l, 0 ≤ x ∧ x ≤ 1099511627776) (hl : l.length ≤ 1000) (k : Nat) : (0 ≤ mostL (l.take k) ∧ mostL (l.take k) ≤ 1099511627776) ∧ 0 ≤ (l.take k).sum ∧ (l.take k).sum ≤ 1099511627776000 := by
  have hv2 : ∀ x ∈ l.take k, 0 ≤ x ∧ x ≤ 1099511627776 := fun x hx => hv x (List.mem_of_mem_take hx)
  have h1 := mostL_bd (l.take k) 1099511627776 (by omega) (fun x hx => (hv2 x hx).2)
  have h2 := sum_bd 1099511627776 (by omega) (l.take k) hv2
  have h3 : (l.take k).length ≤ 1000 := by rw [List.length_take]; omega
  exact ⟨h1, h2.1, by omega⟩
set_option maxRecDepth 100000 in
set_option maxHeartbeats 1000000 in
theorem rtot_calls (A0 A1 A : Option Addr) (n0 c0 n1 c1 c : Nat) (at' : Int) (l : List Int) (key : ByteArray) (w : World) (hof : ∀ W, Ext N0 w W → Calls Try.prog 37 #[.agg (rG A0 n0 c0 A1 n1 c1), .string key] W fun e w' => e = .returned (.tuple #[.slice A l.length c, .int .i64 at']) ∧ Ext N0 W w')
    (hr : Reads w A (iv l)) (hv : ∀ x ∈ l, 0 ≤ x ∧ x ≤ 1099511627776) (hl : l.length ≤ 1000) :
    Calls Try.prog 11 #[.agg (rG A0 n0 c0 A1 n1 c1), .string key] w fun e w' => e = .returned (.tuple #[.int .i64 (mostL l), .int .i64 l.sum, .int .i64 l.length]) ∧ Ext N0 w w' := by
  have hE0 : Ext N0 w (w.alloc (.cells (rG A0 n0 c0 A1 n1 c1) 30)) := (Ext.refl _ _).alloc _
  have HOf := Lib.hid (hof _ hE0)
  have HE0 := Lib.hid hE0
  have HR := Lib.hid hr
  have HV := Lib.hid hv
  have HTk := Lib.hid (sum_take l hv hl)
  obtain ⟨n, hn⟩ : ∃ n, l.length = n := ⟨_, rfl⟩
  have HN := Lib.hid hn
  rw [hn] at HOf hl ⊢
  clear hof hE0 hr hv hn
  go_enter Try.func11, Try.ntmps11
  go_wp2_with (go_at_call 37; refine HOf.out.mono ?_; rintro e w2 ⟨rfl, hE2⟩; have HE2 := Lib.hid (HE0.out.then0 hE2); clear hE2)
  go_loopw [9, 10, 11] (fun m s i wr => ∃ (k : Nat) (M S : Int), m = .int .i64 M ∧ s = .int .i64 S ∧ i = .int .i64 k ∧ k ≤ n ∧ (0 ≤ M ∧ M ≤ 1099511627776) ∧ (0 ≤ S ∧ S ≤ 1099511627776000) ∧ Hid (M = mostL (l.take k)) ∧ Hid (S = (l.take k).sum) ∧ Hid (Ext N0 w wr)) (fun _ _ i _ => n - (intOf i).toNat)
  case atStart => exact ⟨0, 0, 0, rfl, rfl, rfl, by omega, by omega, by omega, Lib.hid rfl, Lib.hid rfl, HE2⟩
  case round =>
    clear HE2 HOf HE0
    obtain ⟨k, M, S, rfl, rfl, rfl, hk, hM, hS, HMe, HSe, HE⟩ := hrel
    by_cases hlt : k < n
    · have hlt' : (k : Int) < n := by omega
      obtain ⟨ad, rfl, hc⟩ := (HR.out.mono0 HE.out).2 (by rw [iv_len, HN.out]; omega)
      obtain ⟨x, hx⟩ : ∃ x, l[k]? = some x := ⟨_, List.getElem?_eq_getElem (by rw [HN.out]; exact hlt)⟩
      have cx := hc k _ (iv_get hx)
      have bx := HV.out x (List.mem_of_getElem? hx)
      have htk : l.take (k + 1) = l.take k ++ [x] := by rw [List.take_add_one, hx]; rfl
      have hb := HTk.out (k + 1)
      have hw : IntKind.i64.wrap (S + x) = S + x := IntWalk.i64_in _ (by omega)
      have hm2 : max M x = mostL (l.take (k + 1)) := by rw [htk, mostL_push, HMe.out]
      have hs2 : S + x = (l.take (k + 1)).sum := by rw [htk, List.sum_append, HSe.out]; simp
      rw [← hm2, ← hs2] at hb
      have HS2 := Lib.hid hs2
      by_cases hmx : M < x
      · have e1 : decide (M < x) = true := decide_eq_true hmx
        have HM2 : Hid (x = mostL (l.take (k + 1))) := Lib.hid (by rw [← hm2]; omega)
        have hb2 := hb.2
        clear hc hx htk hm2 hs2 hb
        go_wp2_with fail
        go_quiet (fail)
        all_goals
          have HE5 := Lib.hid (HE.out.drewN nq)
          go_wp2
          go_roundw
          case rel => exact ⟨k + 1, x, S + x, rfl, rfl, by go_num, by omega, bx, hb2, HM2, HS2, HE5⟩
          case measure => simp only [intOf]; omega
      · have e1 : decide (M < x) = false := decide_eq_false hmx
        have HM2 : Hid (M = mostL (l.take (k + 1))) := Lib.hid (by rw [← hm2]; omega)
        have hb2 := hb.2
        clear hc hx htk hm2 hs2 hb
        go_wp2_with fail
        go_quiet (fail)
        all_goals
          have HE5 := Lib.hid (HE.out.drewN nq)
          go_wp2
          go_roundw
          case rel => exact ⟨k + 1, M, S + x, rfl, rfl, by go_num, by omega, hM, hb2, HM2, HS2, HE5⟩
          case measure => simp only [intOf]; omega
    · have hlt' : ¬ (k : Int) < n := by omega
      obtain rfl : k = n := by omega
      go_wp2
      have h1 := HMe.out
      have h2 := HSe.out
      rw [List.take_of_length_le (by rw [HN.out]; omega)] at h1 h2
      refine bodyPost_ret (v := .tuple #[.int .i64 M, .int .i64 S, .int .i64 k]) (by simp [results, Try.results11, go_sem]) rfl ⟨by rw [← h1, ← h2], HE.out⟩
def sv (l : List ByteArray) : List Value := l.map Value.string
theorem sv_len (l : List ByteArray) : (sv l).length = l.length := by simp [sv]
theorem sv_get {l : List ByteArray} {j : Nat} {y : ByteArray} (h : l[j]? = some y) : (sv l)[j]? = some (.string y) := by simp [sv, h]
theorem sv_app (l m : List ByteArray) : sv (l ++ m) = sv l ++ sv m := by simp [sv]
set_option maxRecDepth 100000 in
set_option maxHeartbeats 1000000 in
theorem sameS_yes (L : List ByteArray) (A B : Option Addr) (c d : Nat) (w : World) (hA : Reads w A (sv L)) (hB : Reads w B (sv L)) :
    Calls Try.prog 21 #[.slice A L.length c, .slice B L.length d] w fun e w' => e = .returned (.bool true) ∧ Ext N0 w w' := by
  have HA := Lib.hid hA
  have HB := Lib.hid hB
  have HE0 := Lib.hid (Ext.refl N0 w)
  obtain ⟨n, hn⟩ : ∃ n, L.length = n := ⟨_, rfl⟩
  have HN := Lib.hid hn
  have hnb : n ≤ 9223372036854775807 := by have := hA.1; rw [sv_len, hn] at this; exact this
  rw [hn]
  clear hA hB hn
  go_enter Try.func21, Try.ntmps21
  go_wp2_with fail
  go_loopw [5] (fun v wr => ∃ i : Nat, v = .int .i64 i ∧ i ≤ n ∧ Hid (Ext N0 w wr)) (fun v _ => n - (intOf v).toNat)
  case atStart => exact ⟨0, rfl, by omega, HE0⟩
  case round =>
    clear HE0
    obtain ⟨i, rfl, hi, HE⟩ := hrel
    by_cases hlt : i < n
    · have hlt' : (i : Int) < n := by omega
      obtain ⟨y, hy⟩ : ∃ y, L[i]? = some y := ⟨_, List.getElem?_eq_getElem (by rw [HN.out]; exact hlt)⟩
      obtain ⟨a, rfl, ha⟩ := (HA.out.mono0 HE.out).2 (by rw [sv_len, HN.out]; omega)
      obtain ⟨b, rfl, hb⟩ := (HB.out.mono0 HE.out).2 (by rw [sv_len, HN.out]; omega)
      have a1 := ha i _ (sv_get hy)
      have b1 := hb i _ (sv_get hy)
      clear hy ha hb
      go_wp2_with fail
      go_quiet (fail)
      all_goals
        have HD := Lib.hid (HE.out.drewN nq)
        go_wp2
        go_roundw
        case rel => exact ⟨i + 1, by go_num, by omega, HD⟩
        case measure => simp only [intOf]; omega
    · have hlt' : ¬ (i : Int) < n := by omega
      go_wp2
      go_ret
      exact ⟨rfl, HE.out⟩
/-- The keys of the document's gauge. -/
def rKeys (R : List Rk) : List ByteArray := R.map Rk.k
set_option maxRecDepth 100000 in
set_option maxHeartbeats 1000000 in
theorem rkeys_calls (base c0 c1 n0 : Nat) (A0 A1 : Option Addr) (bs : List Int) (R : List Rk) (w : World) (h : RS base w A0 c0 A1 c1 bs R) (hl : R.length ≤ 1000) :
    Calls Try.prog 20 #[.agg (rG A0 n0 c0 A1 R.length c1)] w fun e w' => ∃ A c, e = .returned (.slice A (rKeys R).length c) ∧ (rKeys R).length ≤ c ∧ Reads w' A (sv (rKeys R)) ∧ Ext N0 w w' := by
  have HL := Lib.hid h
  obtain ⟨m, hm⟩ : ∃ m, R.length = m := ⟨_, rfl⟩
  have hrl : (rKeys R).length = m := by unfold rKeys; rw [List.length_map]; exact hm
  have HRL := Lib.hid hrl
  rw [hm] at hl ⊢
  rw [hrl]
  have HM := Lib.hid hm
  have HB := Lib.hid (blkNew w (.cells (rG A0 n0 c0 A1 m c1) 30))
  have HE0 := Lib.hid ((Ext.refl N0 w).alloc (.cells (rG A0 n0 c0 A1 m c1) 30))
  clear h hm hrl
  go_enter Try.func20, Try.ntmps20
  go_wp2_with fail
  go_loopw [3, 4] (fun v i wr => ∃ (j : Nat) (A : Option Addr) (c : Nat), i = .int .i64 j ∧ v = .slice A j c ∧ j ≤ m ∧ Hid (wr.ownsRow w.heap.size 9 1 (.slice A j c) j (sv ((rKeys R).take j))) ∧ Hid (Ext N0 w wr ∧ wr.heap[w.heap.size]? = some (.cells (rG A0 n0 c0 A1 m c1) 30 (0, 0)))) (fun _ i _ => m - (intOf i).toNat)
  case atStart => exact ⟨0, none, 0, rfl, rfl, by omega, Lib.hid (ownNil _ _ _ _), Lib.hid ⟨HE0.out, HB.out⟩⟩
  case round =>
    clear HE0 HB
    obtain ⟨j, A, c, rfl, rfl, hj, HO, HE⟩ := hrel
    have d1 : wr.cell? ⟨w.heap.size, 1, none⟩ = some (.slice A1 m c1) := (blkCell HE.out.2 1).trans rfl
    by_cases hlt : j < m
    · have hlt' : (j : Int) < m := by omega
      obtain ⟨g, rfl, hgl, hcell⟩ := HL.out.at (i := j) (by rw [HM.out]; exact hlt)
      obtain ⟨p, hp⟩ : ∃ p, R[j]? = some p := ⟨_, List.getElem?_eq_getElem (by rw [HM.out]; exact hlt)⟩
      obtain ⟨q0, _⟩ := hcell wr HE.out.1 j p hp
      have hs := HE.out.1.size
      have hpl : (sv ((rKeys R).take j)).length = j := by rw [sv_len, List.length_take, HRL.out]; omega
      have HTk : Hid (sv ((rKeys R).take (j + 1)) = sv ((rKeys R).take j) ++ [.string p.k]) := Lib.hid (by
        rw [List.take_add_one]
        have : (rKeys R)[j]? = some p.k := by unfold rKeys; simp [hp]
        rw [this, sv_app]
        rfl)
      obtain ⟨s, hs2⟩ : ∃ s, p.k = s := ⟨_, rfl⟩
      rw [hs2] at q0 HTk
      clear hcell hp hs2
      go_wp2_with (at_builtin; refine wpApp w.heap.size (.tmp 12) (.tmp 19) 46 9 (.string ⟨#[]⟩) 1 16 rfl rfl Try.underlying46 info9 rfl (by decide) (by decide) (.slice A j c) j (sv ((rKeys R).take j)) (some ⟨wr.heap.size, 0, none⟩) 1 1 [.string s] rfl rfl (ownKept0 HO.out ((Ext.refl _ _).alloc _)) rfl (litReads wr _ _ (by simp)) (by simp [Value.oneCell']) (by omega) (by simp; omega) ?_; intro A3 c3 w3 ho3 hE3 _; have HO3 := Lib.hid ho3; have HE3 : Hid (Ext N0 w w3 ∧ w3.heap[w.heap.size]? = some (.cells (rG A0 n0 c0 (some ⟨g, 0, none⟩) m c1) 30 (0, 0))) := Lib.hid ⟨(HE.out.1.alloc (.cells #[.string s] 9)).trans hE3 (fun x hx => .inr (ownBase HO.out x hx).1), hE3.blk (blkAlloc HE.out.2 (.cells #[.string s] 9)) (fun h => ownNeBlk HO.out HE.out.2 (by decide) _ h rfl)⟩; clear ho3 hE3)
      go_roundw
      case rel => exact ⟨j + 1, A3, c3, by go_num, rfl, by omega, Lib.hid (by rw [HTk.out]; exact HO3.out), HE3⟩
      case measure => simp only [intOf]; omega
    · have hlt' : ¬ (j : Int) < m := by omega
      obtain rfl : j = m := by omega
      go_wp2
      go_ret
      have := HO.out
      rw [List.take_of_length_le (by rw [HRL.out]; omega)] at this
      have hle : j ≤ c := by obtain ⟨_, _, hv, hle⟩ := ownSlice this; injection hv with _ _ h3; omega
      exact ⟨A, c, rfl, hle, ownReads1 this, HE.out.1⟩
end Go.Proofs.Ytcngefpdfkkgdaa
