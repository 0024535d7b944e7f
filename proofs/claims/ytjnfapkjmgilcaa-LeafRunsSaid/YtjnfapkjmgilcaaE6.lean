/- Pick of the package and of the document (the conditions stand in the statements). -/
import Derived.Test.YtjnfapkjmgilcaaE5
namespace Go.Proofs.Ytjnfapkjmgilcaa
open Go.RowKit
def pkB (ps : List Int) : Bool := decide (ps.length ≠ 0)
theorem pick_calls (w : World) (g l s h : Nat) (L : List Bool) (a b : Int) (key : Nat) (hkey : key ≤ 18446744073709551615) (k : IsNet w g l s h L) : Calls Try.prog 26 #[.pointer (some ⟨g, 0, none⟩), .int .i64 a, .int .i64 b, .int .u64 key] w fun e w' => e = .returned (.tuple #[.int .i64 (pkV (psV L l s h a b) key), .bool (pkB (psV L l s h a b))]) ∧ Ext N0 w w' := by
  have HP := Lib.hid (paths_calls w g l s h L a b k)
  have hb : (psV L l s h a b).length ≤ 16 := by
    unfold psV
    split
    · exact Nat.le_trans (pth_len _ _) k.sb.2
    · simp
  obtain ⟨ps, hps⟩ : ∃ ps, psV L l s h a b = ps := ⟨_, rfl⟩
  rw [hps] at HP hb ⊢
  clear k hps
  obtain ⟨n, hn⟩ : ∃ n, ps.length = n := ⟨_, rfl⟩
  by_cases h0 : n = 0
  · subst h0
    have e : ps = [] := List.eq_nil_of_length_eq_zero hn
    subst e
    clear hb hn
    go_enter Try.func26, Try.ntmps26
    go_wp2_with (go_at_call 7; refine HP.out.mono ?_; rintro e w1 ⟨A, c, rfl, _, hE⟩; have HE := Lib.hid hE; clear hE)
    exact bodyPost_ret (v := .tuple #[.int .i64 0, .bool false]) (by simp [results, Try.results26, go_sem]) rfl ⟨rfl, HE.out⟩
  · have hq : key % n < n := Nat.mod_lt _ (by omega)
    have tm : (key : Int).tmod (n : Int) = ((key % n : Nat) : Int) := Int.ofNat_tmod key n
    have HV := Lib.hid (show pkV ps key = ps.getD (key % n) 0 ∧ pkB ps = true from ⟨by unfold pkV; rw [hn], decide_eq_true (by omega)⟩)
    have hg : ps[key % n]? = some (ps.getD (key % n) 0) := by rw [List.getD_eq_getElem?_getD, List.getElem?_eq_getElem (by omega)]; rfl
    obtain ⟨q, hq2⟩ : ∃ q, key % n = q := ⟨_, rfl⟩
    rw [hq2] at hq tm hg HV
    obtain ⟨v, hv⟩ : ∃ v, ps.getD q 0 = v := ⟨_, rfl⟩
    rw [hv] at hg HV
    rw [hn] at HP hb
    have HG := Lib.hid hg
    have wn : IntKind.u64.wrap (n : Int) = n := IntWalk.u64_in _ (by omega)
    have hz : ¬ (n : Int) = 0 := by omega
    have hz2 : ((n : Int) == 0) = false := beq_eq_false_iff_ne.2 hz
    have hqn : (q : Int) < n := by omega
    have HN := Lib.hid hn
    have HQ := Lib.hid hq
    clear hg hv hq2 hn hq
    go_enter Try.func26, Try.ntmps26
    go_wp2_with (go_at_call 7; refine HP.out.mono ?_; rintro e w1 ⟨A, c, rfl, ho, hE⟩; obtain ⟨ad, rfl, hc⟩ := (ownReads1 ho).2 (by rw [iv_len, HN.out]; have := HQ.out; omega); have cq := hc q _ (iv_get HG.out); have HE := Lib.hid hE; clear hE ho hc)
    exact bodyPost_ret (v := .tuple #[.int .i64 v, .bool true]) (by simp [results, Try.results26, go_sem]) rfl ⟨by rw [HV.out.1, HV.out.2], HE.out⟩
theorem rpick_calls (w : World) (l s h c : Nat) (A : Option Addr) (L : List Bool) (a b : Int) (key : Nat) (hkey : key ≤ 18446744073709551615) (k : RN w l s h A L) : Calls Try.prog 27 #[.agg (nG l s h A L.length c), .int .i64 a, .int .i64 b, .int .u64 key] w fun e w' => e = .returned (.tuple #[.int .i64 (pkV (psV L l s h a b) key), .bool (pkB (psV L l s h a b))]) ∧ Ext N0 w w' := by
  have hE0 : Ext N0 w (w.alloc (.cells (nG l s h A L.length c) 42)) := (Ext.refl _ _).alloc _
  have HE0 := Lib.hid hE0
  have HP := Lib.hid (rpaths_calls (w.alloc (.cells (nG l s h A L.length c) 42)) l s h c A L a b (k.kept0 hE0))
  have hb : (psV L l s h a b).length ≤ 16 := by
    unfold psV
    split
    · exact Nat.le_trans (pth_len _ _) k.sb.2
    · simp
  obtain ⟨ps, hps⟩ : ∃ ps, psV L l s h a b = ps := ⟨_, rfl⟩
  obtain ⟨ln, hln⟩ : ∃ ln, L.length = ln := ⟨_, rfl⟩
  rw [hps, hln] at HP
  rw [hln] at HE0
  rw [hps] at hb
  rw [hps, hln]
  clear k hps hE0 hln
  obtain ⟨n, hn⟩ : ∃ n, ps.length = n := ⟨_, rfl⟩
  by_cases h0 : n = 0
  · subst h0
    have e : ps = [] := List.eq_nil_of_length_eq_zero hn
    subst e
    clear hb hn
    go_enter Try.func27, Try.ntmps27
    go_wp2_with (go_at_call 28; refine HP.out.mono ?_; rintro e w1 ⟨A, c, rfl, _, hE⟩; have HE := Lib.hid hE; clear hE)
    exact bodyPost_ret (v := .tuple #[.int .i64 0, .bool false]) (by simp [results, Try.results27, go_sem]) rfl ⟨rfl, HE0.out.then0 HE.out⟩
  · have hq : key % n < n := Nat.mod_lt _ (by omega)
    have tm : (key : Int).tmod (n : Int) = ((key % n : Nat) : Int) := Int.ofNat_tmod key n
    have HV := Lib.hid (show pkV ps key = ps.getD (key % n) 0 ∧ pkB ps = true from ⟨by unfold pkV; rw [hn], decide_eq_true (by omega)⟩)
    have hg : ps[key % n]? = some (ps.getD (key % n) 0) := by rw [List.getD_eq_getElem?_getD, List.getElem?_eq_getElem (by omega)]; rfl
    obtain ⟨q, hq2⟩ : ∃ q, key % n = q := ⟨_, rfl⟩
    rw [hq2] at hq tm hg HV
    obtain ⟨v, hv⟩ : ∃ v, ps.getD q 0 = v := ⟨_, rfl⟩
    rw [hv] at hg HV
    rw [hn] at HP hb
    have HG := Lib.hid hg
    have wn : IntKind.u64.wrap (n : Int) = n := IntWalk.u64_in _ (by omega)
    have wq : IntKind.i64.wrap (q : Int) = q := IntWalk.i64_in _ (by omega)
    have hz : ¬ (n : Int) = 0 := by omega
    have hz2 : ((n : Int) == 0) = false := beq_eq_false_iff_ne.2 hz
    have hqn : (q : Int) < n := by omega
    have HN := Lib.hid hn
    have HQ := Lib.hid hq
    clear hg hv hq2 hn hq
    go_enter Try.func27, Try.ntmps27
    go_wp2_with (go_at_call 28; refine HP.out.mono ?_; rintro e w1 ⟨A, c, rfl, ho, hE⟩; obtain ⟨ad, rfl, hc⟩ := (ownReads1 ho).2 (by rw [iv_len, HN.out]; have := HQ.out; omega); have cq := hc q _ (iv_get HG.out); have HE := Lib.hid hE; clear hE ho hc)
    exact bodyPost_ret (v := .tuple #[.int .i64 v, .bool true]) (by simp [results, Try.results27, go_sem]) rfl ⟨by rw [HV.out.1, HV.out.2], HE0.out.then0 HE.out⟩
end Go.Proofs.Ytjnfapkjmgilcaa
