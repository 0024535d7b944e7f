/- The walk of the law CheckPairs: called with any values that fit its parameters, it returns true and nothing that was in memory before has changed. No other condition. -/
import Derived.Test.YtnmdgkloehbkcaaKCheckSeals
import Derived.IntWalk
namespace Go.Proofs.Ytnmdgkloehbkcaa
open Go.RowKit
/-- The words of an even number of bytes, added up. -/
def wsum : List Int → Int
  | [] => 0
  | [h] => 256 * h
  | h :: l :: t => 256 * h + l + wsum t
theorem fold16_mod (n : Int) : fold16 n % 65535 = n % 65535 := by unfold fold16; split <;> omega
theorem on2_mod : ∀ (xs : List Int) (n : Int), on2 n xs % 65535 = (n + wsum xs) % 65535
  | [], n => by simp [on2, wsum]
  | [h], n => by rw [on2_one, fold16_mod]; rfl
  | h :: l :: t, n => by
    rw [on2_two, on2_mod t]
    have := fold16_mod (n + (256 * h + l))
    show (fold16 (n + (256 * h + l)) + wsum t) % 65535 = (n + (256 * h + l + wsum t)) % 65535
    omega
theorem wsum_set : ∀ (xs : List Int) (j : Nat) (a b : Int), 2 * j + 1 < xs.length → wsum ((xs.set (2 * j) a).set (2 * j + 1) b) = wsum xs - (256 * xs.getD (2 * j) 0 + xs.getD (2 * j + 1) 0) + (256 * a + b)
  | h :: l :: t, 0, a, b, _ => by
    show wsum (a :: b :: t) = wsum (h :: l :: t) - (256 * h + l) + (256 * a + b)
    show 256 * a + b + wsum t = 256 * h + l + wsum t - (256 * h + l) + (256 * a + b)
    omega
  | h :: l :: t, j + 1, a, b, hj => by
    have := wsum_set t j a b (by simp at hj; omega)
    have e1 : 2 * (j + 1) = 2 * j + 1 + 1 := by omega
    rw [e1]
    show wsum (h :: l :: ((t.set (2 * j) a).set (2 * j + 1) b)) = wsum (h :: l :: t) - (256 * t.getD (2 * j) 0 + t.getD (2 * j + 1) 0) + (256 * a + b)
    show 256 * h + l + wsum ((t.set (2 * j) a).set (2 * j + 1) b) = 256 * h + l + wsum t - (256 * t.getD (2 * j) 0 + t.getD (2 * j + 1) 0) + (256 * a + b)
    omega
  | [], _, _, _, h => by simp at h
  | [_], _, _, _, h => by simp at h
/-- Two bytes that are another number turn what was sealed, but where 0 and 65535 stand for one another. -/
theorem pairs {xs : List Int} (j : Nat) (t : Int) (hj : 2 * j + 1 < xs.length) (h1 : sealedB xs = true) (h2 : sealedB ((xs.set (2 * j) (t / 256)).set (2 * j + 1) (t % 256)) = true) :
    (256 * xs.getD (2 * j) 0 + xs.getD (2 * j + 1) 0) % 65535 = t % 65535 := by
  have e1 : on2 0 xs = 65535 := by unfold sealedB at h1; simp at h1; exact h1.2
  have e2 : on2 0 ((xs.set (2 * j) (t / 256)).set (2 * j + 1) (t % 256)) = 65535 := by unfold sealedB at h2; simp at h2; exact h2.2
  have m1 := on2_mod xs 0
  have m2 := on2_mod ((xs.set (2 * j) (t / 256)).set (2 * j + 1) (t % 256)) 0
  rw [e1] at m1
  rw [e2, wsum_set xs j _ _ hj] at m2
  omega
namespace checkPairs
set_option maxHeartbeats 2000000 in
theorem walk (a0 : Option Addr) (len0 cap0 : Nat) (z0 : List Int) (a1 : Int) (a2 : Int) (w : World) (w0 : IsRow .u8 w a0 len0 cap0 z0) (w1 : (Lit.int .u16 a1).wf = true) (w2 : (Lit.int .u16 a2).wf = true) :
    Calls Try.prog 6 #[.slice a0 len0 cap0, .int .u16 a1, .int .u16 a2] w fun e w' => e = .returned (.bool true) ∧ Below w.heap.size w w' := by
  obtain ⟨bs, hlen, hr, hb, hlc, hcm⟩ := cutReads w0
  have b1 := bd16 w1
  have b2 := bd16 w2
  have hc9 := cut_calls a0 len0 cap0 w hlc hcm
  rw [← hlen] at hc9
  have hm1 : bs.length ≤ 1500 := by omega
  have H9 := Lib.hid hc9
  have HR := Lib.hid hr
  have hpl := pad_len bs
  have hpe := pad_even bs
  have hsl := slB_len bs
  have hsb := slB_bytes hb
  have hss := slB_sealed hb
  clear hr hlen hlc hcm hc9 w0 w1 w2
  go_enter Try.func6, Try.ntmps6
  go_wp2_with fail
  refine H9.out.mono ?_
  rintro e w1 ⟨rfl, rfl⟩
  clear H9
  go_wp2_with fail
  refine (sl_calls a0 cap0 bs _ HR.out hb (by omega)).mono ?_
  rintro e w2 ⟨A, c, rfl, ho, hE2⟩
  obtain ⟨sl, hsl'⟩ : ∃ l, slB bs = l := ⟨_, rfl⟩
  rw [hsl'] at ho hsl hsb hss ⊢
  have hl2 : 2 ≤ sl.length := by omega
  have hl3 : sl.length ≤ 1503 := by omega
  obtain ⟨nn, hnn⟩ : ∃ nn, sl.length = 2 * nn := ⟨sl.length / 2, by omega⟩
  have HSS := Lib.hid hss
  have HNN := Lib.hid hnn
  clear hsl' hsl hpl hpe hss
  obtain ⟨g, cap, hvv, hgb, hgl⟩ := ho.form (by omega)
  injection hvv with hv1 hv2 hv3
  subst hv1 hv3
  clear hv2
  obtain ⟨jj, hjj⟩ : ∃ jj : Nat, a1 % ((sl.length : Int) / 2) = jj := ⟨(a1 % ((sl.length : Int) / 2)).toNat, by rw [Int.toNat_of_nonneg (Int.emod_nonneg _ (by omega))]⟩
  have hj1 : 2 * jj + 1 < sl.length := by
    have := Int.emod_lt_of_pos a1 (show (0 : Int) < (sl.length : Int) / 2 by omega)
    rw [hjj] at this
    omega
  clear hnn
  have x1 := hsb.at (2 * jj) (by omega)
  have x2 := hsb.at (2 * jj + 1) hj1
  have k1 := ho.cellAt (2 * jj) (by omega)
  have k2 := ho.cellAt (2 * jj + 1) (by omega)
  rw [ints_get _ _ _ (by omega)] at k1
  rw [ints_get _ _ _ hj1] at k2
  obtain ⟨u1, hu1⟩ : ∃ u, sl.getD (2 * jj) 0 = u := ⟨_, rfl⟩
  obtain ⟨u2, hu2⟩ : ∃ u, sl.getD (2 * jj + 1) 0 = u := ⟨_, rfl⟩
  rw [hu1] at k1 x1
  rw [hu2] at k2 x2
  have HU1 := Lib.hid hu1
  have HU2 := Lib.hid hu2
  have HO := Lib.hid ho
  clear hu1 hu2 ho
  go_wp2_with fail
  have i1 : IntKind.i64.wrap (2 * (jj : Int) + 1) = 2 * (jj : Int) + 1 := IntWalk.i64_in _ (by omega)
  have i2 : (2 * (jj : Int)).toNat = 2 * jj := by omega
  have i3 : (2 * (jj : Int) + 1).toNat = 2 * jj + 1 := by omega
  have i4 : 2 * (jj : Int) < sl.length := by omega
  have i5 : 2 * (jj : Int) + 1 < sl.length := by omega
  have i6 : 0 ≤ 2 * (jj : Int) + 1 := by omega
  have i7 : 0 ≤ 2 * (jj : Int) := by omega
  go_quiet (fail)
  clear i1 i2 i3 i4 i5 i6
  have hl1 : (ints .u8 sl).length = sl.length * 1 := by simp [ints]
  have hq : IntKind.u16.wrap (a2.tdiv 256) = a2 / 256 := by rw [Int.tdiv_eq_ediv_of_nonneg (by omega), wrap_u16]; omega
  have r2 := ownReads1 HO.out
  clear k1 k2
  go_wp2_with (at_builtin; refine wpApp w2.heap.size (.tmp 39) (.tmp 40) 22 5 (.int .u8 0) 1 1 rfl rfl Try.underlying22 info5 rfl (by decide) (by decide) (.slice (some ⟨w2.heap.size, 0, none⟩) 0 0) 0 [] _ sl.length _ (ints .u8 sl) rfl rfl (ownLit _ _ _ _ _ _ (Nat.le_refl _) (by decide) rfl) hl1 (r2.mono0 (((Ext.refl _ _).drewN _).alloc _)) (by simp [ints, Value.oneCell']) (by omega) (by simp) ?_; intro A4 c4 w4 ho4 hE4 _; simp only [Nat.zero_add, List.nil_append] at ho4; obtain ⟨g4, cap4, hvv, hgb4, hgl4⟩ := ho4.form (by omega); injection hvv with hv1 hv2 hv3; subst hv1; subst hv3; clear hv2; have k1 := ho4.cellAt (2 * jj) (by omega); have k2 := ho4.cellAt (2 * jj + 1) (by omega); rw [ints_get _ _ _ (by omega)] at k1; rw [ints_get _ _ _ hj1] at k2; have f1 := ho4.frozenAt (2 * jj); have f2 := ho4.frozenAt (2 * jj + 1); have HO4 := Lib.hid ho4; clear ho4)
  clear k1 k2 f1 f2 hq
  have hE5 : Ext N0 w2 w4 := (((Ext.refl N0 w2).drewN nq).alloc (.cells #[] 5)).trans hE4 (fun k hk => .inr (by injection hk with hk; rw [← hk]; exact Nat.le_refl _))
  have hE6 := (hE5.setCell (p := ⟨g4, 2 * jj, none⟩) (.inr hgb4) (.int .u8 (a2 / 256))).setCell (p := ⟨g4, 2 * jj + 1, none⟩) (.inr hgb4) (.int .u8 (a2 % 256))
  have hO6 := ((HO4.out.stored (2 * jj) (.int .u8 (a2 / 256))).1.stored (2 * jj + 1) (.int .u8 (a2 % 256))).1
  have hset : ((ints .u8 sl).set (2 * jj) (.int .u8 (a2 / 256))).set (2 * jj + 1) (.int .u8 (a2 % 256)) = ints .u8 ((sl.set (2 * jj) (a2 / 256)).set (2 * jj + 1) (a2 % 256)) := by simp [ints, List.map_set]
  rw [hset] at hO6
  have hll : sl.length = ((sl.set (2 * jj) (a2 / 256)).set (2 * jj + 1) (a2 % 256)).length := by simp
  have hbb := (hsb.set (2 * jj) (a2 / 256) (by omega)).set (2 * jj + 1) (a2 % 256) (by omega)
  have hpa := pairs jj a2 hj1 HSS.out
  rw [HU1.out, HU2.out] at hpa
  obtain ⟨ys, hys⟩ : ∃ ys, (sl.set (2 * jj) (a2 / 256)).set (2 * jj + 1) (a2 % 256) = ys := ⟨_, rfl⟩
  rw [hys] at hO6 hll hbb hpa
  clear hset hys hE5 hE4 HO4
  generalize hw6 : (w4.setCell ⟨g4, 2 * jj, none⟩ (.int .u8 (a2 / 256))).setCell ⟨g4, 2 * jj + 1, none⟩ (.int .u8 (a2 % 256)) = w6 at *
  clear hw6
  have hr6 := ownReads1 hO6
  clear hO6
  rw [hll]
  refine (sealed_calls _ c4 ys _ hr6 hbb).mono ?_
  rintro e w7 ⟨rfl, hE7⟩
  have hE8 := (hE2.then0 hE6).then0 hE7
  clear hE2 hE6 hE7 hr6 r2 hll hl1 hbb
  cases hS : sealedB ys with
  | false =>
    clear hS hpa
    go_wp2_with (go_at_call 10; refine (awake_calls _).mono ?_; rintro e w9 ⟨rfl, hE9⟩)
    go_ret
    exact ⟨rfl, (hE8.then0 hE9).below⟩
  | true =>
    have q1 : ((256 * u1 + u2) % 65535 == a2 % 65535) = true := beq_iff_eq.2 (hpa hS)
    clear hS hpa
    go_wp2_with (go_at_call 10; refine (awake_calls _).mono ?_; rintro e w9 ⟨rfl, hE9⟩)
    go_ret
    exact ⟨rfl, (hE8.then0 hE9).below⟩
end checkPairs
end Go.Proofs.Ytnmdgkloehbkcaa
