/- The walk of the law CheckTurned: called with any values that fit its parameters, it returns true and nothing that was in memory before has changed. No other condition. -/
import Derived.Test.YtnmdgkloehbkcaaPl
namespace Go.Proofs.Ytnmdgkloehbkcaa
open Go.RowKit
theorem cutReads {w : World} {a : Option Addr} {len cap : Nat} {zs : List Int} (h : IsRow .u8 w a len cap zs) :
    ∃ bs : List Int, bs.length = min len 1500 ∧ Reads w a (ints .u8 bs) ∧ Bytes bs ∧ len ≤ cap ∧ cap ≤ 9223372036854775807 := by
  obtain ⟨h1, h2, h3, h4, h5⟩ := h.reads
  refine ⟨(zs.take len).take 1500, by rw [List.length_take, h2]; omega, ?_, (wfBytes h5).take _, h3, h4⟩
  have := h1.take 1500
  rwa [show (ints .u8 (zs.take len)).take 1500 = ints .u8 ((zs.take len).take 1500) from by simp [ints]] at this
theorem bd16 {n : Int} (h : (Lit.int .u16 n).wf = true) : 0 ≤ n ∧ n ≤ 65535 := by
  have hmin : IntKind.u16.min = 0 := rfl
  have hmax : IntKind.u16.max = 65535 := rfl
  simp only [Lit.wf, Bool.and_eq_true, decide_eq_true_eq] at h
  omega
theorem bd8 {n : Int} (h : (Lit.int .u8 n).wf = true) : 0 ≤ n ∧ n ≤ 255 := by
  have hmin : IntKind.u8.min = 0 := rfl
  have hmax : IntKind.u8.max = 255 := rfl
  simp only [Lit.wf, Bool.and_eq_true, decide_eq_true_eq] at h
  omega
theorem bd32 {n : Int} (h : (Lit.int .u32 n).wf = true) : 0 ≤ n ∧ n < 4294967296 := by
  have hmin : IntKind.u32.min = 0 := rfl
  have hmax : IntKind.u32.max = 4294967295 := rfl
  simp only [Lit.wf, Bool.and_eq_true, decide_eq_true_eq] at h
  omega
theorem turnEq (s1 s2 a : Int) (h : s1 = s2 ↔ a = 0) : ((s1 != s2) == (a != 0)) = true := by
  by_cases e : a = 0
  · have := h.2 e
    simp [this, e]
  · have h' : ¬ s1 = s2 := fun x => e (h.1 x)
    rw [show (s1 != s2) = true from bne_iff_ne.2 h', show (a != 0) = true from bne_iff_ne.2 e]
    rfl
namespace checkTurned
set_option maxHeartbeats 1000000 in
theorem walk (a0 : Option Addr) (len0 cap0 : Nat) (z0 : List Int) (a1 : Int) (a2 : Int) (w : World) (w0 : IsRow .u8 w a0 len0 cap0 z0) (w1 : (Lit.int .u16 a1).wf = true) (w2 : (Lit.int .u8 a2).wf = true) :
    Calls Try.prog 3 #[.slice a0 len0 cap0, .int .u16 a1, .int .u8 a2] w fun e w' => e = .returned (.bool true) ∧ Below w.heap.size w w' := by
  obtain ⟨bs, hlen, hr, hb, hlc, hcm⟩ := cutReads w0
  have b1 := bd16 w1
  have b2 := bd8 w2
  clear w0 w1 w2
  obtain ⟨m, hm⟩ : ∃ m, min len0 1500 = m := ⟨_, rfl⟩
  have hc9 := Lib.hid (cut_calls a0 len0 cap0 w hlc hcm)
  rw [hm] at hc9 hlen
  have hm1 : m ≤ 1500 := by omega
  have HR := Lib.hid hr
  subst hlen
  clear hr hm hcm hlc
  rcases Nat.eq_zero_or_pos bs.length with h0 | h0
  · have h0' : ((bs.length : Int) == 0) = true := by simp [h0]
    clear h0
    go_enter Try.func3, Try.ntmps3
    go_wp2_with (first | (go_at_call 9; refine hc9.out.mono ?_; rintro e w' ⟨rfl, rfl⟩) | (go_at_call 10; refine (awake_calls _).mono ?_; rintro e w' ⟨rfl, hE⟩))
    go_ret
    exact ⟨rfl, hE.below⟩
  · have h0' : ((bs.length : Int) == 0) = false := beq_eq_false_iff_ne.mpr (by omega)
    obtain ⟨kk, hkk⟩ : ∃ kk : Nat, a1 % (bs.length : Int) = kk := ⟨(a1 % (bs.length : Int)).toNat, by rw [Int.toNat_of_nonneg (Int.emod_nonneg _ (by omega))]⟩
    have hk1 : kk < bs.length := by have := Int.emod_lt_of_pos a1 (show (0 : Int) < bs.length by omega); rw [hkk] at this; omega
    have hl1 : (ints .u8 bs).length = bs.length * 1 := by simp [ints]
    obtain ⟨v, hv⟩ : ∃ v, bs.getD kk 0 = v := ⟨_, rfl⟩
    have hvb := hb.at kk hk1
    rw [hv] at hvb
    have hx8 := xor8 v a2 hvb b2
    have HV := Lib.hid hv
    have HX := Lib.hid hx8
    clear hv hx8
    go_enter Try.func3, Try.ntmps3
    go_wp2_with (first
      | (go_at_call 9; refine hc9.out.mono ?_; rintro e w' ⟨rfl, rfl⟩)
      | (at_builtin; refine wpApp w'.heap.size (.tmp 15) (.tmp 16) 22 5 (.int .u8 0) 1 1 rfl rfl Try.underlying22 info5 rfl (by decide) (by decide) (.slice (some ⟨w'.heap.size, 0, none⟩) 0 0) 0 [] _ bs.length _ (ints .u8 bs) rfl rfl (ownLit _ _ _ _ _ _ (Nat.le_refl _) (by decide) rfl) hl1 (HR.out.mono0 ((Ext.refl _ _).alloc _)) (by simp [ints, Value.oneCell']) (by omega) (by simp) ?_; intro A1 c1 w1 ho hE0 _; simp only [Nat.zero_add, List.nil_append] at ho; obtain ⟨g, cap, hvv, hgb, hgl⟩ := ho.form (by omega); injection hvv with hv1 hv2 hv3; subst hv1; subst hv3; have hc := ho.cellAt kk (by omega); rw [ints_get _ _ _ hk1, HV.out] at hc; have hf := ho.frozenAt kk; have HO := Lib.hid ho; clear ho))
    clear hc hf
    have hE1 : Ext N0 w' w1 := ((Ext.refl _ _).alloc _).trans hE0 (fun k hk => .inr (by injection hk with hk; rw [← hk]; exact Nat.le_refl _))
    have ho2 := (HO.out.stored kk (.int .u8 (bits .xor .u8 v a2))).1
    have hE2 := hE1.setCell (p := ⟨g, kk, none⟩) (.inr hgb) (.int .u8 (bits .xor .u8 v a2))
    have hset : (ints .u8 bs).set kk (.int .u8 (bits .xor .u8 v a2)) = ints .u8 (bs.set kk (bits .xor .u8 v a2)) := by simp [ints, List.map_set]
    rw [hset] at ho2
    clear hset hE0 hE1
    have hsz : (w1.setCell ⟨g, kk, none⟩ (.int .u8 (bits .xor .u8 v a2))).heap.size = w1.heap.size := by simp
    generalize hw2 : w1.setCell ⟨g, kk, none⟩ (.int .u8 (bits .xor .u8 v a2)) = w2 at *
    clear hw2
    have hvb2 := HX.out.1
    have r1 := (ownReads1 ho2).mono0 ((Ext.refl _ _).alloc (.cells [Value.slice (some ⟨g, 0, none⟩) bs.length c1].toArray 22))
    refine (adler_one _ _ _ _ c1 (bs.set kk (bits .xor .u8 v a2)) _ (litReadsG w2 [Value.slice (some ⟨g, 0, none⟩) bs.length c1] 22 hsz (by simp)) (by simp) r1 (hb.set _ _ hvb2)).mono ?_
    rintro e w3 ⟨rfl, hE3⟩
    have hE4 := (hE2.alloc _).then0 hE3
    have r2 := HR.out.mono0 hE4
    clear r1 hE2 hE3 ho2
    go_wp2_with fail
    refine (adler_one _ _ _ _ cap0 bs _ (litReads w3 [Value.slice a0 bs.length cap0] 22 (by simp)) rfl (r2.mono0 ((Ext.refl _ _).alloc _)) hb).mono ?_
    rintro e w5 ⟨rfl, hE5⟩
    have hE6 := (hE4.alloc _).then0 hE5
    clear hE4 hE5 r2
    have ht := turned bs kk (bits .xor .u8 v a2) hk1 hb hvb2
    rw [HV.out, HX.out.2] at ht
    obtain ⟨s1, hs1⟩ : ∃ s, asum (adl (1, 0) (bs.set kk (bits .xor .u8 v a2))) = s := ⟨_, rfl⟩
    obtain ⟨s2, hs2⟩ : ∃ s, asum (adl (1, 0) bs) = s := ⟨_, rfl⟩
    rw [hs1, hs2] at ht
    rw [hs1, hs2]
    have q1 := turnEq s1 s2 a2 ht
    clear ht hs1 hs2
    go_wp2_with (go_at_call 10; refine (awake_calls _).mono ?_; rintro e w7 ⟨rfl, hE7⟩)
    go_ret
    exact ⟨rfl, (hE6.then0 hE7).below⟩
end checkTurned
end Go.Proofs.Ytnmdgkloehbkcaa
