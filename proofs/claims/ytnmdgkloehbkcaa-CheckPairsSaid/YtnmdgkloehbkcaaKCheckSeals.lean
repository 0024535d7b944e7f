/- The walk of the law CheckSeals: called with any values that fit its parameters, it returns true and nothing that was in memory before has changed. No other condition. -/
import Derived.Test.YtnmdgkloehbkcaaKCheckSums
import Derived.Deep.RegionHeld3
import Derived.Laws.BytesArg
namespace Go.Proofs.Ytnmdgkloehbkcaa
open Go.RowKit
/-- What was sealed is. -/
theorem on2_app : ∀ (xs ys : List Int) (n : Int), xs.length % 2 = 0 → on2 n (xs ++ ys) = on2 (on2 n xs) ys
  | [], _, _, _ => rfl
  | [_], _, _, h => by simp at h
  | h :: l :: t, ys, n, he => by
    have := on2_app t ys (fold16 (n + (256 * h + l))) (by simp at he; omega)
    exact this
theorem slB_bytes {xs : List Int} (h : Bytes xs) : Bytes (slB xs) := by
  have := slN_bd h
  unfold slB
  refine (pad_bytes h).app fun x hx => ?_
  simp at hx
  omega
theorem slB_len (xs : List Int) : (slB xs).length = (pad xs).length + 2 := by unfold slB; simp
theorem slB_sealed {xs : List Int} (h : Bytes xs) : sealedB (slB xs) = true := by
  have he := pad_even xs
  have hb := on2_bd (pad xs) 0 (pad_bytes h) (by decide)
  have hl := slB_len xs
  have ho : on2 0 (slB xs) = 65535 := by
    unfold slB
    rw [on2_app _ _ _ he, on2_two]
    unfold on2 slN fold16
    split <;> omega
  unfold sealedB
  rw [ho]
  simp
  omega
/-- string(x) of bytes of the call's own. -/
theorem ownStr {w : World} {base n : Nat} {A : Option Addr} {c : Nat} {xs : List Int} (h : w.ownsRow base 5 1 (.slice A n c) n (ints .u8 xs)) (hn : 0 < n) :
    (convert 22 9 (.slice A n c)).run Try.prog w = .ok (.string (strOfNums xs)) w := by
  have hl : xs.length = n := by have := h.1; simp [ints] at this; exact this
  obtain ⟨g, cap, hv, _, _⟩ := h.form hn
  injection hv with hv1 hv2 hv3
  subst hv1
  refine run_convert_bytes_arg w 22 5 Try.underlying22 Try.underlying5 g 0 n c xs hl (fun i hi => ?_) 9 Try.underlying9
  have := h.cellAt i (by omega)
  rw [ints_get _ _ _ (by omega)] at this
  simpa using this
namespace checkSeals
set_option maxHeartbeats 2000000 in
theorem walk (a0 : Option Addr) (len0 cap0 : Nat) (z0 : List Int) (w : World) (w0 : IsRow .u8 w a0 len0 cap0 z0) :
    Calls Try.prog 5 #[.slice a0 len0 cap0] w fun e w' => e = .returned (.bool true) ∧ Below w.heap.size w w' := by
  obtain ⟨bs, hlen, hr, hb, hlc, hcm⟩ := cutReads w0
  have hc9 := cut_calls a0 len0 cap0 w hlc hcm
  rw [← hlen] at hc9
  have hm1 : bs.length ≤ 1500 := by omega
  have H9 := Lib.hid hc9
  have HR := Lib.hid hr
  have hpl := pad_len bs
  have hsl := slB_len bs
  have hsb := slB_bytes hb
  have hss := slB_sealed hb
  clear hr hlen hlc hcm hc9 w0
  go_enter Try.func5, Try.ntmps5
  go_wp2_with fail
  refine H9.out.mono ?_
  rintro e w1 ⟨rfl, rfl⟩
  clear H9
  go_wp2_with fail
  refine (sl_calls a0 cap0 bs _ HR.out hb (by omega)).mono ?_
  rintro e w2 ⟨A, c, rfl, ho, hE2⟩
  obtain ⟨sl, hsl'⟩ : ∃ l, slB bs = l := ⟨_, rfl⟩
  rw [hsl'] at ho hsl hsb hss ⊢
  have hl2 : 2 ≤ sl.length := by omega
  have hl3 : sl.length ≤ 1503 := by omega
  have HSL := Lib.hid hsl'
  have hk := ownStr ho (by omega)
  clear hsl' hsl hpl
  have HO := Lib.hid ho
  clear ho
  go_wp2_with fail
  have hR2 := HR.out.mono0 (hE2.drew)
  have hk2 := ownStr (w := w2.drew) HO.out (by omega)
  go_region_with (first
      | (go_at_call 19; refine (rsl_calls a0 cap0 bs w2.drew hR2 hb (by omega)).mono ?_; rintro e w4 ⟨A4, c4, rfl, ho4, hE4'⟩; rw [HSL.out] at ho4 ⊢; have hE4 : Ext N0 w2 w4 := ((Ext.refl N0 w2).drew).then0 hE4'; have hk4 := ownStr (ownKept0 HO.out hE4) (by omega); have hq4 := ownStr ho4 (by omega))
      | (go_at_call_of 20 a0; refine (sealed_calls a0 cap0 bs _ (hR2.mono0 hE4') hb).mono ?_; rintro e w5 ⟨rfl, hE5⟩; have hE45 := hE4.then0 hE5; have hR5 := (hR2.mono0 hE4').mono0 hE5; have hO5 := ownKept0 HO.out hE45)
      | (go_at_call 21; refine (rsealed_calls a0 cap0 bs _ hR5 hb (by omega)).mono ?_; rintro e w6 ⟨rfl, rfl⟩)
      | (go_at_call_of 20 A; refine (sealed_calls A c sl _ (ownReads1 hO5) hsb).mono ?_; rintro e w7 ⟨rfl, hE7⟩; rw [hss])
      | (go_at_call 10; refine (awake_calls _).mono ?_; rintro e w8 ⟨rfl, hE8⟩))
  all_goals
    go_wp2
    go_ret
    exact ⟨rfl, (((hE2.then0 hE45).then0 hE7).then0 hE8).below⟩
end checkSeals
end Go.Proofs.Ytnmdgkloehbkcaa
