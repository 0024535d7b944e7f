/- The walk of the law CreditNever: called with any values that fit its parameters, it returns true and nothing that was in memory before has changed. No other condition. -/
import Derived.Test.YtohflonpinjdaaaB2
namespace Go.Proofs.Ytohflonpinjdaaa
open Go.RowKit
theorem bd8 {n : Int} (h : (Lit.int .u8 n).wf = true) : 0 ≤ n ∧ n ≤ 255 := by
  have hmin : IntKind.u8.min = 0 := rfl
  have hmax : IntKind.u8.max = 255 := rfl
  simp only [Lit.wf, Bool.and_eq_true, decide_eq_true_eq] at h
  omega
theorem bd16 {n : Int} (h : (Lit.int .u16 n).wf = true) : 0 ≤ n ∧ n ≤ 65535 := by
  have hmin : IntKind.u16.min = 0 := rfl
  have hmax : IntKind.u16.max = 65535 := rfl
  simp only [Lit.wf, Bool.and_eq_true, decide_eq_true_eq] at h
  omega
/-- The greatest of the first i of f, by definition. -/
def Mx (f : Nat → Int) (i : Nat) (m : Int) : Prop := (∀ j, j < i → f j ≤ m) ∧ 0 ≤ m ∧ (m = 0 ∨ ∃ j, j < i ∧ f j = m)
theorem Mx.step {f : Nat → Int} {i : Nat} {m : Int} (h : Mx f i m) (hf : 0 ≤ f i) : Mx f (i + 1) (max m (f i)) := by
  obtain ⟨h1, h2, h3⟩ := h
  refine ⟨fun j hj => ?_, by omega, ?_⟩
  · rcases Nat.lt_or_ge j i with h | h
    · have := h1 j h; omega
    · obtain rfl : j = i := by omega
      omega
  · rcases Int.le_total m (f i) with h | h
    · exact .inr ⟨i, by omega, by omega⟩
    · rcases h3 with rfl | ⟨j, hj, rfl⟩
      · exact .inl (by omega)
      · exact .inr ⟨j, by omega, by omega⟩
/-- A turn of a row has the same greatest one. -/
theorem Mx.turn {f : Nat → Int} {n t : Nat} {p q : Int} (h : Mx f n p) (k : Mx (fun j => f ((j + t) % n)) n q) : p = q := by
  obtain ⟨h1, h2, h3⟩ := h
  obtain ⟨k1, k2, k3⟩ := k
  have hpq : p ≤ q := by
    rcases h3 with rfl | ⟨j, hj, rfl⟩
    · exact k2
    · have hn : 0 < n := by omega
      have hm := Nat.mod_lt t hn
      have := k1 ((j + (n - t % n)) % n) (Nat.mod_lt _ hn)
      have e : ((j + (n - t % n)) % n + t) % n = j := by
        rw [Nat.mod_add_mod]
        have ht := Nat.div_add_mod t n
        have : j + (n - t % n) + t = j + n * (t / n + 1) := by rw [Nat.mul_add, Nat.mul_one]; omega
        rw [this, Nat.add_mul_mod_self_left]
        exact Nat.mod_eq_of_lt hj
      simp only [e] at this
      exact this
  have hqp : q ≤ p := by
    rcases k3 with rfl | ⟨j, hj, rfl⟩
    · exact h2
    · exact h1 _ (Nat.mod_lt _ (by omega))
  omega
theorem lReads {k : IntKind} {w : World} {a : Option Addr} {len cap : Nat} {zs : List Int} (m : Nat) (h : IsRow k w a len cap zs) :
    ∃ bs : List Int, bs.length = min len m ∧ Reads w a (ints k bs) ∧ (∀ x, x ∈ bs → (Lit.int k x).wf = true) ∧ len ≤ cap ∧ cap ≤ 9223372036854775807 := by
  obtain ⟨h1, h2, h3, h4, h5⟩ := h.reads
  refine ⟨(zs.take len).take m, by rw [List.length_take, h2]; omega, ?_, fun x hx => h5 x (List.mem_of_mem_take hx), h3, h4⟩
  have := h1.take m
  rwa [show (ints k (zs.take len)).take m = ints k ((zs.take len).take m) from by simp [ints]] at this
theorem IsAc.drewN {w : World} {g : Nat} {a : Ac} (h : IsAc w g a) (m : Nat) : IsAc (w.drewN m) g a := h
namespace creditNever
set_option maxRecDepth 100000 in
set_option maxHeartbeats 4000000 in
theorem walk (a0 : Option Addr) (len0 cap0 : Nat) (z0 : List Int) (a1 : Option Addr) (len1 cap1 : Nat) (z1 : List Int) (a2 : Int) (w : World) (w0 : IsRow .u16 w a0 len0 cap0 z0) (w1 : IsRow .u8 w a1 len1 cap1 z1) (w2 : (Lit.int .u8 a2).wf = true) :
    Calls Try.prog 3 #[.slice a0 len0 cap0, .slice a1 len1 cap1, .int .u8 a2] w fun e w' => e = .returned (.bool true) ∧ Below w.heap.size w w' := by
  obtain ⟨bs, hlen, hr, hb, hlc, hcm⟩ := lReads 50 w0
  obtain ⟨ys, hlen1, hr1, hb1, hlc1, hcm1⟩ := lReads len1 w1
  have hlen1 : ys.length = len1 := by omega
  subst hlen1
  obtain ⟨t, rfl⟩ : ∃ t : Nat, a2 = t := ⟨a2.toNat, by have := bd8 w2; omega⟩
  have ht := (bd8 w2).2
  have ht' : (t : Int) ≤ 255 := ht
  have HR := Lib.hid hr
  have HR1 := Lib.hid hr1
  have hf0 : ∀ j, 0 ≤ bs.getD j 0 ∧ bs.getD j 0 ≤ 65535 := by
    intro j
    rcases Nat.lt_or_ge j bs.length with h | h
    · refine bd16 (hb _ ?_)
      rw [List.getD_eq_getElem?_getD, List.getElem?_eq_getElem h]
      exact List.getElem_mem h
    · rw [List.getD_eq_getElem?_getD, List.getElem?_eq_none h]
      simp
  have hf1 : ∀ j, 0 ≤ ys.getD j 0 ∧ ys.getD j 0 ≤ 255 := by
    intro j
    rcases Nat.lt_or_ge j ys.length with h | h
    · refine bd8 (hb1 _ ?_)
      rw [List.getD_eq_getElem?_getD, List.getElem?_eq_getElem h]
      exact List.getElem_mem h
    · rw [List.getD_eq_getElem?_getD, List.getElem?_eq_none h]
      simp
  have HF0 := Lib.hid hf0
  have HF1 := Lib.hid hf1
  have hcases : ((decide ((50 : Int) < len0) = false ∧ ¬ (50 : Int) < len0) ∧ bs.length = len0) ∨ ((decide ((50 : Int) < len0) = true ∧ (50 : Int) < len0) ∧ bs.length = 50 ∧ 50 ≤ cap0) := by
    rcases Int.lt_or_le 50 (len0 : Int) with h | h
    · exact .inr ⟨⟨decide_eq_true h, h⟩, by omega, by omega⟩
    · exact .inl ⟨⟨decide_eq_false (by omega), by omega⟩, by omega⟩
  have hb50 : bs.length ≤ 50 := by omega
  clear hf0 hf1 hlc hlc1 hcm hcm1 hr hb hr1 hb1 w0 w1 w2 hlen1 hlen
  rcases hcases with ⟨⟨hc1, hc2⟩, hbl⟩ | ⟨⟨hc1, hc2⟩, hbl, hcap⟩
  · subst hbl
    go_enter Try.func3, Try.ntmps3
    go_wp2_with fail
    refine (new_calls 0 w (by omega)).mono ?_
    rintro e w3 ⟨rfl, hE3, hA3, hs3⟩
    go_wp2_with fail
    refine (new_calls 0 w3 (by omega)).mono ?_
    rintro e w4 ⟨rfl, hE4, hB4, hs4⟩
    go_wp2_with fail
    refine (awake_calls w4).mono ?_
    rintro e w5 ⟨rfl, hE5⟩
    have HA := Lib.hid (((hE4.then0 hE5).blk0 hA3 : IsAc w5 w.heap.size ⟨0, 0, 0, 0⟩))
    have HBB : Hid (IsAc w5 (w.heap.size + 1) ⟨0, 0, 0, 0⟩) := Lib.hid (by have := hE5.blk0 hB4; rw [hs3] at this; exact this)
    have HE := Lib.hid ((hE3.then0 hE4).then0 hE5)
    clear hE3 hE4 hE5 hA3 hB4 hs3 hs4
    go_wp2_with fail
    go_loopw [11, 12] (fun most i wr => ∃ (k : Nat) (pa sa pb : Int), k ≤ bs.length ∧ i = .int .i64 k ∧ most = .int .i64 pa ∧ Hid (Mx (fun j => bs.getD j 0) k pa) ∧ Hid (Mx (fun j => bs.getD ((j + t) % bs.length) 0) k pb) ∧
        0 ≤ sa ∧ sa ≤ pa ∧ pa ≤ 65535 ∧ 0 ≤ pb ∧ pb ≤ 65535 ∧ Hid (IsAc wr w.heap.size ⟨pa, sa, 0, 0⟩) ∧ Hid (IsAc wr (w.heap.size + 1) ⟨pb, 0, 0, 0⟩) ∧ Hid (Ext N0 w wr))
      (fun _ i _ => 51 - (intOf i).toNat)
    case atStart => exact ⟨0, 0, 0, 0, by omega, rfl, rfl, Lib.hid ⟨fun j hj => absurd hj (by omega), by omega, .inl rfl⟩, Lib.hid ⟨fun j hj => absurd hj (by omega), by omega, .inl rfl⟩, by omega, by omega, by omega, by omega, by omega, HA, HBB, HE⟩
    case round =>
      clear HA HBB HE
      obtain ⟨k, pa, sa, pb, hk, rfl, rfl, hma, hmb, s0, s1, p1, q0, q1, HA, HBB, HE⟩ := hrel
      have okA : ∀ p s : Int, 0 ≤ s → s ≤ p → p ≤ 65535 → Ac.Ok ⟨p, s, 0, 0⟩ := fun p s h1 h2 h3 => ⟨h1, h2, by show p ≤ _; omega, Int.le_refl 0, by show (0 : Int) ≤ _; omega, Int.le_refl 0, by show (0 : Int) ≤ _; omega⟩
      by_cases hlt : k < bs.length
      · obtain ⟨ad, hAd, hcx⟩ := HR.out.num k hlt
        have hx := HF0.out k
        obtain ⟨x, hxe⟩ : ∃ x, bs.getD k 0 = x := ⟨_, rfl⟩
        rw [hxe] at hx hcx
        have hlt' : (k : Int) < bs.length := by omega
        have hlt50 : (k : Int) < 50 := by omega
        obtain ⟨j, hj⟩ : ∃ j, (k + t) % bs.length = j := ⟨_, rfl⟩
        have hjl : j < bs.length := by rw [← hj]; exact Nat.mod_lt _ (by omega)
        have hjl' : (j : Int) < bs.length := by omega
        have hjl50 : (j : Int) < 50 := by omega
        obtain ⟨ad', hAd2, hcy⟩ := HR.out.num j hjl
        rw [hAd] at hAd2
        injection hAd2 with hAd2
        subst hAd2
        have hy := HF0.out j
        obtain ⟨y, hye⟩ : ∃ y, bs.getD j 0 = y := ⟨_, rfl⟩
        rw [hye] at hy hcy
        obtain ⟨x0, x1⟩ := hx
        obtain ⟨y0, y1⟩ := hy
        have hjI : ((k : Int) + (t : Int)).tmod bs.length = j := by rw [Int.tmod_eq_emod_of_nonneg (by omega), ← hj]; push_cast; rfl
        have hma2 := hma.out.step (by show 0 ≤ bs.getD k 0; rw [hxe]; exact x0)
        have hmb2 := hmb.out.step (by show 0 ≤ bs.getD ((k + t) % bs.length) 0; rw [hj, hye]; exact y0)
        rw [hxe] at hma2
        rw [hj, hye] at hmb2
        have HMA := Lib.hid hma2
        have HMB := Lib.hid hmb2
        clear hma2 hmb2 hxe hye hj
        subst hAd
        obtain ⟨pb', hpb⟩ : ∃ pb', max pb y = pb' := ⟨_, rfl⟩
        obtain ⟨kb, hkb⟩ : ∃ kb, max 0 (y - pb) = kb := ⟨_, rfl⟩
        obtain ⟨ka, hka⟩ : ∃ ka, max 0 (x - pa) = ka := ⟨_, rfl⟩
        obtain ⟨pa', hpa, hpc⟩ : ∃ pa', max pa x = pa' ∧ ((pa < x ∧ pa' = x) ∨ (¬ pa < x ∧ pa' = pa)) := ⟨_, rfl, by omega⟩
        have r1 : pa ≤ pa' := by omega
        have r2 : pa' ≤ 65535 := by omega
        have r3 : 0 ≤ pb' := by omega
        have r4 : pb' ≤ 65535 := by omega
        rw [hpa] at HMA
        rw [hpb] at HMB
        have r5 : 0 = max 0 (y - pb') := by omega
        have r6 : pb' = max pb' y := by omega
        have HC1 := Lib.hid (pull_to w.heap.size _ x ka pa' wr HA.out (okA _ _ s0 s1 p1) (by omega) hka.symm hpa.symm)
        have HC2 := Lib.hid (fun (W : World) (hW : IsAc W (w.heap.size + 1) ⟨pb, 0, 0, 0⟩) => pull_to (w.heap.size + 1) _ y kb pb' W hW (okA _ _ (Int.le_refl 0) q0 q1) (by omega) hkb.symm hpb.symm)
        have HC3 := Lib.hid (fun (W : World) (hW : IsAc W (w.heap.size + 1) ⟨pb', 0, 0, 0⟩) => pull_to (w.heap.size + 1) _ y 0 pb' W hW (okA _ _ (Int.le_refl 0) r3 r4) (by omega) r5 r6)
        clear hpb hkb hka hpa r5 r6
        have HX := Lib.hid (fun (W : World) (hW : Ext N0 w W) => hW.cell hcx (fun h => h))
        have HY := Lib.hid (fun (W : World) (hW : Ext N0 w W) => hW.cell hcy (fun h => h))
        have r7 := (HX.out wr HE.out)
        clear hcx hcy
        rcases hpc with ⟨hpl, rfl⟩ | ⟨hpl, rfl⟩
        · go_wp2_with fail
          refine HC1.out.mono ?_
          rintro e w6 ⟨rfl, hE6, hA6⟩
          have hB6 : IsAc w6 (w.heap.size + 1) _ := hE6.blk HBB.out (by unfold At; omega)
          have HE6 := Lib.hid (atNew HE.out hE6 (Nat.le_refl _))
          have HA6 := Lib.hid hA6
          have HB6 := Lib.hid hB6
          have hy6 := HY.out w6 HE6.out
          clear hE6 hA6 hB6 HC1 HE HA HBB r7
          go_wp2_with fail
          refine (HC2.out w6 HB6.out).mono ?_
          rintro e w7 ⟨rfl, hE7, hB7⟩
          have hA7 : IsAc w7 w.heap.size ⟨pa', sa, 0, 0⟩ := hE7.blk HA6.out (by unfold At; omega)
          have HE7 := Lib.hid (atNew HE6.out hE7 (by omega))
          have HA7 := Lib.hid hA7
          have HB7 := Lib.hid hB7
          have hy7 := HY.out w7 HE7.out
          clear hE7 hA7 hB7 HC2 HE6 HA6 HB6 hy6
          go_wp2_with fail
          refine (HC3.out w7 HB7.out).mono ?_
          rintro e w8 ⟨rfl, hE8, hB8⟩
          have hA8 : IsAc w8 w.heap.size ⟨pa', sa, 0, 0⟩ := hE8.blk HA7.out (by unfold At; omega)
          have HE8 := Lib.hid (atNew HE7.out hE8 (by omega))
          have HA8 := Lib.hid hA8
          have HB8 := Lib.hid hB8
          clear hE8 hA8 hB8 HC3 HE7 HA7 HB7 hy7
          by_cases hsp : k < ys.length
          · have hsp' : (k : Int) < ys.length := by omega
            obtain ⟨ad1, rfl, hcz⟩ := (HR1.out.mono0 HE8.out).num k hsp
            have hz := HF1.out k
            obtain ⟨z, hze⟩ : ∃ z, ys.getD k 0 = z := ⟨_, rfl⟩
            rw [hze] at hz hcz
            obtain ⟨z0, z1⟩ := hz
            clear hze
            obtain ⟨sa', er, u0, u1, HS⟩ : ∃ sa' er, 0 ≤ sa' ∧ sa' ≤ pa' ∧ Hid (Calls Try.prog 9 #[.pointer (some ⟨w.heap.size, 0, none⟩), .int .i64 z] w8 fun e w' => e = .returned (.int .i64 er) ∧ Ext (At w.heap.size) w8 w' ∧ IsAc w' w.heap.size ⟨pa', sa', 0, 0⟩) := by
              have hsc := spend_calls w.heap.size ⟨pa', sa, 0, 0⟩ z w8 HA8.out (okA _ _ s0 (by omega) (by omega))
              by_cases h : z > pa' - sa
              · have e2 : spendA ⟨pa', sa, 0, 0⟩ z = ⟨pa', sa, 0, 0⟩ := (if_neg (by omega)).trans (if_pos h)
                rw [e2] at hsc
                exact ⟨sa, _, s0, by omega, Lib.hid hsc⟩
              · have e2 : spendA ⟨pa', sa, 0, 0⟩ z = ⟨pa', sa + z, 0, 0⟩ := (if_neg (by omega)).trans (if_neg h)
                rw [e2] at hsc
                exact ⟨sa + z, _, by omega, by omega, Lib.hid hsc⟩
            go_wp2_with fail
            refine HS.out.mono ?_
            rintro e w9 ⟨rfl, hE9, hA9⟩
            have hB9 : IsAc w9 (w.heap.size + 1) ⟨pb', 0, 0, 0⟩ := hE9.blk HB8.out (by unfold At; omega)
            have HE9 := Lib.hid (atNew HE8.out hE9 (Nat.le_refl _))
            have HA9 := Lib.hid hA9
            have HB9 := Lib.hid hB9
            clear hE9 hA9 hB9 HE8 HA8 HB8 HS hcz
            go_wp2_with (first
              | (go_at_call 10; refine (spent_calls w.heap.size _ _ HA9.out).mono ?_; rintro e w6 ⟨rfl, rfl⟩)
              | (go_at_call 11; refine (pulled_calls w.heap.size _ _ HA9.out).mono ?_; rintro e w6 ⟨rfl, rfl⟩)
              | (go_at_call 12; refine (aleft_calls w.heap.size _ _ HA9.out (okA _ _ (by omega) u1 (by omega))).mono ?_; rintro e w6 ⟨rfl, m, rfl⟩; have HAm := Lib.hid (IsAc.drewN HA9.out m); have HBm := Lib.hid (IsAc.drewN HB9.out m); have HEm := Lib.hid (HE9.out.drewN m))
              | (go_at_call 11; refine (pulled_calls w.heap.size _ _ HAm.out).mono ?_; rintro e w6 ⟨rfl, hw⟩; rw [hw]; clear hw)
              | (go_at_call 10; refine (spent_calls w.heap.size _ _ HAm.out).mono ?_; rintro e w6 ⟨rfl, hw⟩; rw [hw]; clear hw))
            go_roundw
            case rel => exact ⟨k + 1, pa', sa', pb', by omega, by go_num, rfl, HMA, HMB, by omega, u1, by omega, r3, r4, HAm, HBm, HEm⟩
            case measure => simp [intOf]; omega
          · have hsp' : ¬ (k : Int) < ys.length := by omega
            obtain ⟨w9, rfl⟩ : ∃ w9, w8 = w9 := ⟨_, rfl⟩
            obtain ⟨sa', rfl⟩ : ∃ sa', sa = sa' := ⟨_, rfl⟩
            have HE9 := HE8
            have HA9 := HA8
            have HB9 := HB8
            have u1 : sa ≤ pa' := by omega
            go_wp2_with (first
              | (go_at_call 10; refine (spent_calls w.heap.size _ _ HA9.out).mono ?_; rintro e w6 ⟨rfl, rfl⟩)
              | (go_at_call 11; refine (pulled_calls w.heap.size _ _ HA9.out).mono ?_; rintro e w6 ⟨rfl, rfl⟩)
              | (go_at_call 12; refine (aleft_calls w.heap.size _ _ HA9.out (okA _ _ (by omega) u1 (by omega))).mono ?_; rintro e w6 ⟨rfl, m, rfl⟩; have HAm := Lib.hid (IsAc.drewN HA9.out m); have HBm := Lib.hid (IsAc.drewN HB9.out m); have HEm := Lib.hid (HE9.out.drewN m))
              | (go_at_call 11; refine (pulled_calls w.heap.size _ _ HAm.out).mono ?_; rintro e w6 ⟨rfl, hw⟩; rw [hw]; clear hw)
              | (go_at_call 10; refine (spent_calls w.heap.size _ _ HAm.out).mono ?_; rintro e w6 ⟨rfl, hw⟩; rw [hw]; clear hw))
            go_roundw
            case rel => exact ⟨k + 1, pa', sa, pb', by omega, by go_num, rfl, HMA, HMB, by omega, u1, by omega, r3, r4, HAm, HBm, HEm⟩
            case measure => simp [intOf]; omega
        · go_wp2_with fail
          refine HC1.out.mono ?_
          rintro e w6 ⟨rfl, hE6, hA6⟩
          have hB6 : IsAc w6 (w.heap.size + 1) _ := hE6.blk HBB.out (by unfold At; omega)
          have HE6 := Lib.hid (atNew HE.out hE6 (Nat.le_refl _))
          have HA6 := Lib.hid hA6
          have HB6 := Lib.hid hB6
          have hy6 := HY.out w6 HE6.out
          clear hE6 hA6 hB6 HC1 HE HA HBB r7
          go_wp2_with fail
          refine (HC2.out w6 HB6.out).mono ?_
          rintro e w7 ⟨rfl, hE7, hB7⟩
          have hA7 : IsAc w7 w.heap.size ⟨pa', sa, 0, 0⟩ := hE7.blk HA6.out (by unfold At; omega)
          have HE7 := Lib.hid (atNew HE6.out hE7 (by omega))
          have HA7 := Lib.hid hA7
          have HB7 := Lib.hid hB7
          have hy7 := HY.out w7 HE7.out
          clear hE7 hA7 hB7 HC2 HE6 HA6 HB6 hy6
          go_wp2_with fail
          refine (HC3.out w7 HB7.out).mono ?_
          rintro e w8 ⟨rfl, hE8, hB8⟩
          have hA8 : IsAc w8 w.heap.size ⟨pa', sa, 0, 0⟩ := hE8.blk HA7.out (by unfold At; omega)
          have HE8 := Lib.hid (atNew HE7.out hE8 (by omega))
          have HA8 := Lib.hid hA8
          have HB8 := Lib.hid hB8
          clear hE8 hA8 hB8 HC3 HE7 HA7 HB7 hy7
          by_cases hsp : k < ys.length
          · have hsp' : (k : Int) < ys.length := by omega
            obtain ⟨ad1, rfl, hcz⟩ := (HR1.out.mono0 HE8.out).num k hsp
            have hz := HF1.out k
            obtain ⟨z, hze⟩ : ∃ z, ys.getD k 0 = z := ⟨_, rfl⟩
            rw [hze] at hz hcz
            obtain ⟨z0, z1⟩ := hz
            clear hze
            obtain ⟨sa', er, u0, u1, HS⟩ : ∃ sa' er, 0 ≤ sa' ∧ sa' ≤ pa' ∧ Hid (Calls Try.prog 9 #[.pointer (some ⟨w.heap.size, 0, none⟩), .int .i64 z] w8 fun e w' => e = .returned (.int .i64 er) ∧ Ext (At w.heap.size) w8 w' ∧ IsAc w' w.heap.size ⟨pa', sa', 0, 0⟩) := by
              have hsc := spend_calls w.heap.size ⟨pa', sa, 0, 0⟩ z w8 HA8.out (okA _ _ s0 (by omega) (by omega))
              by_cases h : z > pa' - sa
              · have e2 : spendA ⟨pa', sa, 0, 0⟩ z = ⟨pa', sa, 0, 0⟩ := (if_neg (by omega)).trans (if_pos h)
                rw [e2] at hsc
                exact ⟨sa, _, s0, by omega, Lib.hid hsc⟩
              · have e2 : spendA ⟨pa', sa, 0, 0⟩ z = ⟨pa', sa + z, 0, 0⟩ := (if_neg (by omega)).trans (if_neg h)
                rw [e2] at hsc
                exact ⟨sa + z, _, by omega, by omega, Lib.hid hsc⟩
            go_wp2_with fail
            refine HS.out.mono ?_
            rintro e w9 ⟨rfl, hE9, hA9⟩
            have hB9 : IsAc w9 (w.heap.size + 1) ⟨pb', 0, 0, 0⟩ := hE9.blk HB8.out (by unfold At; omega)
            have HE9 := Lib.hid (atNew HE8.out hE9 (Nat.le_refl _))
            have HA9 := Lib.hid hA9
            have HB9 := Lib.hid hB9
            clear hE9 hA9 hB9 HE8 HA8 HB8 HS hcz
            go_wp2_with (first
              | (go_at_call 10; refine (spent_calls w.heap.size _ _ HA9.out).mono ?_; rintro e w6 ⟨rfl, rfl⟩)
              | (go_at_call 11; refine (pulled_calls w.heap.size _ _ HA9.out).mono ?_; rintro e w6 ⟨rfl, rfl⟩)
              | (go_at_call 12; refine (aleft_calls w.heap.size _ _ HA9.out (okA _ _ (by omega) u1 (by omega))).mono ?_; rintro e w6 ⟨rfl, m, rfl⟩; have HAm := Lib.hid (IsAc.drewN HA9.out m); have HBm := Lib.hid (IsAc.drewN HB9.out m); have HEm := Lib.hid (HE9.out.drewN m))
              | (go_at_call 11; refine (pulled_calls w.heap.size _ _ HAm.out).mono ?_; rintro e w6 ⟨rfl, hw⟩; rw [hw]; clear hw)
              | (go_at_call 10; refine (spent_calls w.heap.size _ _ HAm.out).mono ?_; rintro e w6 ⟨rfl, hw⟩; rw [hw]; clear hw))
            go_roundw
            case rel => exact ⟨k + 1, pa', sa', pb', by omega, by go_num, rfl, HMA, HMB, by omega, u1, by omega, r3, r4, HAm, HBm, HEm⟩
            case measure => simp [intOf]; omega
          · have hsp' : ¬ (k : Int) < ys.length := by omega
            obtain ⟨w9, rfl⟩ : ∃ w9, w8 = w9 := ⟨_, rfl⟩
            obtain ⟨sa', rfl⟩ : ∃ sa', sa = sa' := ⟨_, rfl⟩
            have HE9 := HE8
            have HA9 := HA8
            have HB9 := HB8
            have u1 : sa ≤ pa' := by omega
            go_wp2_with (first
              | (go_at_call 10; refine (spent_calls w.heap.size _ _ HA9.out).mono ?_; rintro e w6 ⟨rfl, rfl⟩)
              | (go_at_call 11; refine (pulled_calls w.heap.size _ _ HA9.out).mono ?_; rintro e w6 ⟨rfl, rfl⟩)
              | (go_at_call 12; refine (aleft_calls w.heap.size _ _ HA9.out (okA _ _ (by omega) u1 (by omega))).mono ?_; rintro e w6 ⟨rfl, m, rfl⟩; have HAm := Lib.hid (IsAc.drewN HA9.out m); have HBm := Lib.hid (IsAc.drewN HB9.out m); have HEm := Lib.hid (HE9.out.drewN m))
              | (go_at_call 11; refine (pulled_calls w.heap.size _ _ HAm.out).mono ?_; rintro e w6 ⟨rfl, hw⟩; rw [hw]; clear hw)
              | (go_at_call 10; refine (spent_calls w.heap.size _ _ HAm.out).mono ?_; rintro e w6 ⟨rfl, hw⟩; rw [hw]; clear hw))
            go_roundw
            case rel => exact ⟨k + 1, pa', sa, pb', by omega, by go_num, rfl, HMA, HMB, by omega, u1, by omega, r3, r4, HAm, HBm, HEm⟩
            case measure => simp [intOf]; omega
      · obtain rfl : k = bs.length := by omega
        have hpq := hma.out.turn hmb.out
        subst hpq
        go_wp2_with (first
          | (go_at_call_of 11 (Value.pointer (some ⟨w.heap.size, 0, none⟩)); refine (pulled_calls w.heap.size _ _ HA.out).mono ?_; rintro e w6 ⟨rfl, rfl⟩)
          | (go_at_call 11; refine (pulled_calls (w.heap.size + 1) _ _ HBB.out).mono ?_; rintro e w6 ⟨rfl, rfl⟩))
        go_ret
        exact ⟨rfl, HE.out.below⟩
  · have hbe : (bs.length : Int) = 50 := by omega
    have HBL := Lib.hid hbe
    have hb50' : 50 ≤ bs.length := by omega
    clear hbl hbe
    go_enter Try.func3, Try.ntmps3
    go_wp2_with fail
    refine (new_calls 0 w (by omega)).mono ?_
    rintro e w3 ⟨rfl, hE3, hA3, hs3⟩
    go_wp2_with fail
    refine (new_calls 0 w3 (by omega)).mono ?_
    rintro e w4 ⟨rfl, hE4, hB4, hs4⟩
    go_wp2_with fail
    refine (awake_calls w4).mono ?_
    rintro e w5 ⟨rfl, hE5⟩
    have HA := Lib.hid (((hE4.then0 hE5).blk0 hA3 : IsAc w5 w.heap.size ⟨0, 0, 0, 0⟩))
    have HBB : Hid (IsAc w5 (w.heap.size + 1) ⟨0, 0, 0, 0⟩) := Lib.hid (by have := hE5.blk0 hB4; rw [hs3] at this; exact this)
    have HE := Lib.hid ((hE3.then0 hE4).then0 hE5)
    clear hE3 hE4 hE5 hA3 hB4 hs3 hs4
    go_wp2_with fail
    go_loopw [11, 12] (fun most i wr => ∃ (k : Nat) (pa sa pb : Int), k ≤ bs.length ∧ i = .int .i64 k ∧ most = .int .i64 pa ∧ Hid (Mx (fun j => bs.getD j 0) k pa) ∧ Hid (Mx (fun j => bs.getD ((j + t) % bs.length) 0) k pb) ∧
        0 ≤ sa ∧ sa ≤ pa ∧ pa ≤ 65535 ∧ 0 ≤ pb ∧ pb ≤ 65535 ∧ Hid (IsAc wr w.heap.size ⟨pa, sa, 0, 0⟩) ∧ Hid (IsAc wr (w.heap.size + 1) ⟨pb, 0, 0, 0⟩) ∧ Hid (Ext N0 w wr))
      (fun _ i _ => 51 - (intOf i).toNat)
    case atStart => exact ⟨0, 0, 0, 0, by omega, rfl, rfl, Lib.hid ⟨fun j hj => absurd hj (by omega), by omega, .inl rfl⟩, Lib.hid ⟨fun j hj => absurd hj (by omega), by omega, .inl rfl⟩, by omega, by omega, by omega, by omega, by omega, HA, HBB, HE⟩
    case round =>
      clear HA HBB HE
      obtain ⟨k, pa, sa, pb, hk, rfl, rfl, hma, hmb, s0, s1, p1, q0, q1, HA, HBB, HE⟩ := hrel
      have okA : ∀ p s : Int, 0 ≤ s → s ≤ p → p ≤ 65535 → Ac.Ok ⟨p, s, 0, 0⟩ := fun p s h1 h2 h3 => ⟨h1, h2, by show p ≤ _; omega, Int.le_refl 0, by show (0 : Int) ≤ _; omega, Int.le_refl 0, by show (0 : Int) ≤ _; omega⟩
      by_cases hlt : k < bs.length
      · obtain ⟨ad, hAd, hcx⟩ := HR.out.num k hlt
        have hx := HF0.out k
        obtain ⟨x, hxe⟩ : ∃ x, bs.getD k 0 = x := ⟨_, rfl⟩
        rw [hxe] at hx hcx
        have hlt' : (k : Int) < bs.length := by omega
        have hlt50 : (k : Int) < 50 := by omega
        obtain ⟨j, hj⟩ : ∃ j, (k + t) % bs.length = j := ⟨_, rfl⟩
        have hjl : j < bs.length := by rw [← hj]; exact Nat.mod_lt _ (by omega)
        have hjl' : (j : Int) < bs.length := by omega
        have hjl50 : (j : Int) < 50 := by omega
        obtain ⟨ad', hAd2, hcy⟩ := HR.out.num j hjl
        rw [hAd] at hAd2
        injection hAd2 with hAd2
        subst hAd2
        have hy := HF0.out j
        obtain ⟨y, hye⟩ : ∃ y, bs.getD j 0 = y := ⟨_, rfl⟩
        rw [hye] at hy hcy
        obtain ⟨x0, x1⟩ := hx
        obtain ⟨y0, y1⟩ := hy
        have hjI : ((k : Int) + (t : Int)).tmod 50 = j := by rw [Int.tmod_eq_emod_of_nonneg (by omega), ← hj]; push_cast; rw [HBL.out]
        have hma2 := hma.out.step (by show 0 ≤ bs.getD k 0; rw [hxe]; exact x0)
        have hmb2 := hmb.out.step (by show 0 ≤ bs.getD ((k + t) % bs.length) 0; rw [hj, hye]; exact y0)
        rw [hxe] at hma2
        rw [hj, hye] at hmb2
        have HMA := Lib.hid hma2
        have HMB := Lib.hid hmb2
        clear hma2 hmb2 hxe hye hj
        subst hAd
        obtain ⟨pb', hpb⟩ : ∃ pb', max pb y = pb' := ⟨_, rfl⟩
        obtain ⟨kb, hkb⟩ : ∃ kb, max 0 (y - pb) = kb := ⟨_, rfl⟩
        obtain ⟨ka, hka⟩ : ∃ ka, max 0 (x - pa) = ka := ⟨_, rfl⟩
        obtain ⟨pa', hpa, hpc⟩ : ∃ pa', max pa x = pa' ∧ ((pa < x ∧ pa' = x) ∨ (¬ pa < x ∧ pa' = pa)) := ⟨_, rfl, by omega⟩
        have r1 : pa ≤ pa' := by omega
        have r2 : pa' ≤ 65535 := by omega
        have r3 : 0 ≤ pb' := by omega
        have r4 : pb' ≤ 65535 := by omega
        rw [hpa] at HMA
        rw [hpb] at HMB
        have r5 : 0 = max 0 (y - pb') := by omega
        have r6 : pb' = max pb' y := by omega
        have HC1 := Lib.hid (pull_to w.heap.size _ x ka pa' wr HA.out (okA _ _ s0 s1 p1) (by omega) hka.symm hpa.symm)
        have HC2 := Lib.hid (fun (W : World) (hW : IsAc W (w.heap.size + 1) ⟨pb, 0, 0, 0⟩) => pull_to (w.heap.size + 1) _ y kb pb' W hW (okA _ _ (Int.le_refl 0) q0 q1) (by omega) hkb.symm hpb.symm)
        have HC3 := Lib.hid (fun (W : World) (hW : IsAc W (w.heap.size + 1) ⟨pb', 0, 0, 0⟩) => pull_to (w.heap.size + 1) _ y 0 pb' W hW (okA _ _ (Int.le_refl 0) r3 r4) (by omega) r5 r6)
        clear hpb hkb hka hpa r5 r6
        have HX := Lib.hid (fun (W : World) (hW : Ext N0 w W) => hW.cell hcx (fun h => h))
        have HY := Lib.hid (fun (W : World) (hW : Ext N0 w W) => hW.cell hcy (fun h => h))
        have r7 := (HX.out wr HE.out)
        clear hcx hcy
        rcases hpc with ⟨hpl, rfl⟩ | ⟨hpl, rfl⟩
        · go_wp2_with fail
          refine HC1.out.mono ?_
          rintro e w6 ⟨rfl, hE6, hA6⟩
          have hB6 : IsAc w6 (w.heap.size + 1) _ := hE6.blk HBB.out (by unfold At; omega)
          have HE6 := Lib.hid (atNew HE.out hE6 (Nat.le_refl _))
          have HA6 := Lib.hid hA6
          have HB6 := Lib.hid hB6
          have hy6 := HY.out w6 HE6.out
          clear hE6 hA6 hB6 HC1 HE HA HBB r7
          go_wp2_with fail
          refine (HC2.out w6 HB6.out).mono ?_
          rintro e w7 ⟨rfl, hE7, hB7⟩
          have hA7 : IsAc w7 w.heap.size ⟨pa', sa, 0, 0⟩ := hE7.blk HA6.out (by unfold At; omega)
          have HE7 := Lib.hid (atNew HE6.out hE7 (by omega))
          have HA7 := Lib.hid hA7
          have HB7 := Lib.hid hB7
          have hy7 := HY.out w7 HE7.out
          clear hE7 hA7 hB7 HC2 HE6 HA6 HB6 hy6
          go_wp2_with fail
          refine (HC3.out w7 HB7.out).mono ?_
          rintro e w8 ⟨rfl, hE8, hB8⟩
          have hA8 : IsAc w8 w.heap.size ⟨pa', sa, 0, 0⟩ := hE8.blk HA7.out (by unfold At; omega)
          have HE8 := Lib.hid (atNew HE7.out hE8 (by omega))
          have HA8 := Lib.hid hA8
          have HB8 := Lib.hid hB8
          clear hE8 hA8 hB8 HC3 HE7 HA7 HB7 hy7
          by_cases hsp : k < ys.length
          · have hsp' : (k : Int) < ys.length := by omega
            obtain ⟨ad1, rfl, hcz⟩ := (HR1.out.mono0 HE8.out).num k hsp
            have hz := HF1.out k
            obtain ⟨z, hze⟩ : ∃ z, ys.getD k 0 = z := ⟨_, rfl⟩
            rw [hze] at hz hcz
            obtain ⟨z0, z1⟩ := hz
            clear hze
            obtain ⟨sa', er, u0, u1, HS⟩ : ∃ sa' er, 0 ≤ sa' ∧ sa' ≤ pa' ∧ Hid (Calls Try.prog 9 #[.pointer (some ⟨w.heap.size, 0, none⟩), .int .i64 z] w8 fun e w' => e = .returned (.int .i64 er) ∧ Ext (At w.heap.size) w8 w' ∧ IsAc w' w.heap.size ⟨pa', sa', 0, 0⟩) := by
              have hsc := spend_calls w.heap.size ⟨pa', sa, 0, 0⟩ z w8 HA8.out (okA _ _ s0 (by omega) (by omega))
              by_cases h : z > pa' - sa
              · have e2 : spendA ⟨pa', sa, 0, 0⟩ z = ⟨pa', sa, 0, 0⟩ := (if_neg (by omega)).trans (if_pos h)
                rw [e2] at hsc
                exact ⟨sa, _, s0, by omega, Lib.hid hsc⟩
              · have e2 : spendA ⟨pa', sa, 0, 0⟩ z = ⟨pa', sa + z, 0, 0⟩ := (if_neg (by omega)).trans (if_neg h)
                rw [e2] at hsc
                exact ⟨sa + z, _, by omega, by omega, Lib.hid hsc⟩
            go_wp2_with fail
            refine HS.out.mono ?_
            rintro e w9 ⟨rfl, hE9, hA9⟩
            have hB9 : IsAc w9 (w.heap.size + 1) ⟨pb', 0, 0, 0⟩ := hE9.blk HB8.out (by unfold At; omega)
            have HE9 := Lib.hid (atNew HE8.out hE9 (Nat.le_refl _))
            have HA9 := Lib.hid hA9
            have HB9 := Lib.hid hB9
            clear hE9 hA9 hB9 HE8 HA8 HB8 HS hcz
            go_wp2_with (first
              | (go_at_call 10; refine (spent_calls w.heap.size _ _ HA9.out).mono ?_; rintro e w6 ⟨rfl, rfl⟩)
              | (go_at_call 11; refine (pulled_calls w.heap.size _ _ HA9.out).mono ?_; rintro e w6 ⟨rfl, rfl⟩)
              | (go_at_call 12; refine (aleft_calls w.heap.size _ _ HA9.out (okA _ _ (by omega) u1 (by omega))).mono ?_; rintro e w6 ⟨rfl, m, rfl⟩; have HAm := Lib.hid (IsAc.drewN HA9.out m); have HBm := Lib.hid (IsAc.drewN HB9.out m); have HEm := Lib.hid (HE9.out.drewN m))
              | (go_at_call 11; refine (pulled_calls w.heap.size _ _ HAm.out).mono ?_; rintro e w6 ⟨rfl, hw⟩; rw [hw]; clear hw)
              | (go_at_call 10; refine (spent_calls w.heap.size _ _ HAm.out).mono ?_; rintro e w6 ⟨rfl, hw⟩; rw [hw]; clear hw))
            go_roundw
            case rel => exact ⟨k + 1, pa', sa', pb', by omega, by go_num, rfl, HMA, HMB, by omega, u1, by omega, r3, r4, HAm, HBm, HEm⟩
            case measure => simp [intOf]; omega
          · have hsp' : ¬ (k : Int) < ys.length := by omega
            obtain ⟨w9, rfl⟩ : ∃ w9, w8 = w9 := ⟨_, rfl⟩
            obtain ⟨sa', rfl⟩ : ∃ sa', sa = sa' := ⟨_, rfl⟩
            have HE9 := HE8
            have HA9 := HA8
            have HB9 := HB8
            have u1 : sa ≤ pa' := by omega
            go_wp2_with (first
              | (go_at_call 10; refine (spent_calls w.heap.size _ _ HA9.out).mono ?_; rintro e w6 ⟨rfl, rfl⟩)
              | (go_at_call 11; refine (pulled_calls w.heap.size _ _ HA9.out).mono ?_; rintro e w6 ⟨rfl, rfl⟩)
              | (go_at_call 12; refine (aleft_calls w.heap.size _ _ HA9.out (okA _ _ (by omega) u1 (by omega))).mono ?_; rintro e w6 ⟨rfl, m, rfl⟩; have HAm := Lib.hid (IsAc.drewN HA9.out m); have HBm := Lib.hid (IsAc.drewN HB9.out m); have HEm := Lib.hid (HE9.out.drewN m))
              | (go_at_call 11; refine (pulled_calls w.heap.size _ _ HAm.out).mono ?_; rintro e w6 ⟨rfl, hw⟩; rw [hw]; clear hw)
              | (go_at_call 10; refine (spent_calls w.heap.size _ _ HAm.out).mono ?_; rintro e w6 ⟨rfl, hw⟩; rw [hw]; clear hw))
            go_roundw
            case rel => exact ⟨k + 1, pa', sa, pb', by omega, by go_num, rfl, HMA, HMB, by omega, u1, by omega, r3, r4, HAm, HBm, HEm⟩
            case measure => simp [intOf]; omega
        · go_wp2_with fail
          refine HC1.out.mono ?_
          rintro e w6 ⟨rfl, hE6, hA6⟩
          have hB6 : IsAc w6 (w.heap.size + 1) _ := hE6.blk HBB.out (by unfold At; omega)
          have HE6 := Lib.hid (atNew HE.out hE6 (Nat.le_refl _))
          have HA6 := Lib.hid hA6
          have HB6 := Lib.hid hB6
          have hy6 := HY.out w6 HE6.out
          clear hE6 hA6 hB6 HC1 HE HA HBB r7
          go_wp2_with fail
          refine (HC2.out w6 HB6.out).mono ?_
          rintro e w7 ⟨rfl, hE7, hB7⟩
          have hA7 : IsAc w7 w.heap.size ⟨pa', sa, 0, 0⟩ := hE7.blk HA6.out (by unfold At; omega)
          have HE7 := Lib.hid (atNew HE6.out hE7 (by omega))
          have HA7 := Lib.hid hA7
          have HB7 := Lib.hid hB7
          have hy7 := HY.out w7 HE7.out
          clear hE7 hA7 hB7 HC2 HE6 HA6 HB6 hy6
          go_wp2_with fail
          refine (HC3.out w7 HB7.out).mono ?_
          rintro e w8 ⟨rfl, hE8, hB8⟩
          have hA8 : IsAc w8 w.heap.size ⟨pa', sa, 0, 0⟩ := hE8.blk HA7.out (by unfold At; omega)
          have HE8 := Lib.hid (atNew HE7.out hE8 (by omega))
          have HA8 := Lib.hid hA8
          have HB8 := Lib.hid hB8
          clear hE8 hA8 hB8 HC3 HE7 HA7 HB7 hy7
          by_cases hsp : k < ys.length
          · have hsp' : (k : Int) < ys.length := by omega
            obtain ⟨ad1, rfl, hcz⟩ := (HR1.out.mono0 HE8.out).num k hsp
            have hz := HF1.out k
            obtain ⟨z, hze⟩ : ∃ z, ys.getD k 0 = z := ⟨_, rfl⟩
            rw [hze] at hz hcz
            obtain ⟨z0, z1⟩ := hz
            clear hze
            obtain ⟨sa', er, u0, u1, HS⟩ : ∃ sa' er, 0 ≤ sa' ∧ sa' ≤ pa' ∧ Hid (Calls Try.prog 9 #[.pointer (some ⟨w.heap.size, 0, none⟩), .int .i64 z] w8 fun e w' => e = .returned (.int .i64 er) ∧ Ext (At w.heap.size) w8 w' ∧ IsAc w' w.heap.size ⟨pa', sa', 0, 0⟩) := by
              have hsc := spend_calls w.heap.size ⟨pa', sa, 0, 0⟩ z w8 HA8.out (okA _ _ s0 (by omega) (by omega))
              by_cases h : z > pa' - sa
              · have e2 : spendA ⟨pa', sa, 0, 0⟩ z = ⟨pa', sa, 0, 0⟩ := (if_neg (by omega)).trans (if_pos h)
                rw [e2] at hsc
                exact ⟨sa, _, s0, by omega, Lib.hid hsc⟩
              · have e2 : spendA ⟨pa', sa, 0, 0⟩ z = ⟨pa', sa + z, 0, 0⟩ := (if_neg (by omega)).trans (if_neg h)
                rw [e2] at hsc
                exact ⟨sa + z, _, by omega, by omega, Lib.hid hsc⟩
            go_wp2_with fail
            refine HS.out.mono ?_
            rintro e w9 ⟨rfl, hE9, hA9⟩
            have hB9 : IsAc w9 (w.heap.size + 1) ⟨pb', 0, 0, 0⟩ := hE9.blk HB8.out (by unfold At; omega)
            have HE9 := Lib.hid (atNew HE8.out hE9 (Nat.le_refl _))
            have HA9 := Lib.hid hA9
            have HB9 := Lib.hid hB9
            clear hE9 hA9 hB9 HE8 HA8 HB8 HS hcz
            go_wp2_with (first
              | (go_at_call 10; refine (spent_calls w.heap.size _ _ HA9.out).mono ?_; rintro e w6 ⟨rfl, rfl⟩)
              | (go_at_call 11; refine (pulled_calls w.heap.size _ _ HA9.out).mono ?_; rintro e w6 ⟨rfl, rfl⟩)
              | (go_at_call 12; refine (aleft_calls w.heap.size _ _ HA9.out (okA _ _ (by omega) u1 (by omega))).mono ?_; rintro e w6 ⟨rfl, m, rfl⟩; have HAm := Lib.hid (IsAc.drewN HA9.out m); have HBm := Lib.hid (IsAc.drewN HB9.out m); have HEm := Lib.hid (HE9.out.drewN m))
              | (go_at_call 11; refine (pulled_calls w.heap.size _ _ HAm.out).mono ?_; rintro e w6 ⟨rfl, hw⟩; rw [hw]; clear hw)
              | (go_at_call 10; refine (spent_calls w.heap.size _ _ HAm.out).mono ?_; rintro e w6 ⟨rfl, hw⟩; rw [hw]; clear hw))
            go_roundw
            case rel => exact ⟨k + 1, pa', sa', pb', by omega, by go_num, rfl, HMA, HMB, by omega, u1, by omega, r3, r4, HAm, HBm, HEm⟩
            case measure => simp [intOf]; omega
          · have hsp' : ¬ (k : Int) < ys.length := by omega
            obtain ⟨w9, rfl⟩ : ∃ w9, w8 = w9 := ⟨_, rfl⟩
            obtain ⟨sa', rfl⟩ : ∃ sa', sa = sa' := ⟨_, rfl⟩
            have HE9 := HE8
            have HA9 := HA8
            have HB9 := HB8
            have u1 : sa ≤ pa' := by omega
            go_wp2_with (first
              | (go_at_call 10; refine (spent_calls w.heap.size _ _ HA9.out).mono ?_; rintro e w6 ⟨rfl, rfl⟩)
              | (go_at_call 11; refine (pulled_calls w.heap.size _ _ HA9.out).mono ?_; rintro e w6 ⟨rfl, rfl⟩)
              | (go_at_call 12; refine (aleft_calls w.heap.size _ _ HA9.out (okA _ _ (by omega) u1 (by omega))).mono ?_; rintro e w6 ⟨rfl, m, rfl⟩; have HAm := Lib.hid (IsAc.drewN HA9.out m); have HBm := Lib.hid (IsAc.drewN HB9.out m); have HEm := Lib.hid (HE9.out.drewN m))
              | (go_at_call 11; refine (pulled_calls w.heap.size _ _ HAm.out).mono ?_; rintro e w6 ⟨rfl, hw⟩; rw [hw]; clear hw)
              | (go_at_call 10; refine (spent_calls w.heap.size _ _ HAm.out).mono ?_; rintro e w6 ⟨rfl, hw⟩; rw [hw]; clear hw))
            go_roundw
            case rel => exact ⟨k + 1, pa', sa, pb', by omega, by go_num, rfl, HMA, HMB, by omega, u1, by omega, r3, r4, HAm, HBm, HEm⟩
            case measure => simp [intOf]; omega
      · obtain rfl : k = bs.length := by omega
        have hpq := hma.out.turn hmb.out
        subst hpq
        go_wp2_with (first
          | (go_at_call_of 11 (Value.pointer (some ⟨w.heap.size, 0, none⟩)); refine (pulled_calls w.heap.size _ _ HA.out).mono ?_; rintro e w6 ⟨rfl, rfl⟩)
          | (go_at_call 11; refine (pulled_calls (w.heap.size + 1) _ _ HBB.out).mono ?_; rintro e w6 ⟨rfl, rfl⟩))
        go_ret
        exact ⟨rfl, HE.out.below⟩
end creditNever
end Go.Proofs.Ytohflonpinjdaaa
