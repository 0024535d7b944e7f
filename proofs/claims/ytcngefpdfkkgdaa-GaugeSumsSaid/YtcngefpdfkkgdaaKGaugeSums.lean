/- The walk of the law GaugeSums: called with any values that fit its parameters, it returns true and nothing that was in memory before has changed. No other condition. -/
import Derived.Test.YtcngefpdfkkgdaaB4
import Derived.Test.YtcngefpdfkkgdaaAw
namespace Go.Proofs.Ytcngefpdfkkgdaa
open Go.RowKit Go.Maps
namespace gaugeSums
theorem bd8 {n : Int} (h : (Lit.int .u8 n).wf = true) : 0 ≤ n ∧ n ≤ 255 := by
  have hmin : IntKind.u8.min = 0 := rfl
  have hmax : IntKind.u8.max = 255 := rfl
  simp only [Lit.wf, Bool.and_eq_true, decide_eq_true_eq] at h
  omega
theorem bd16 {n : Int} (h : (Lit.int .u16 n).wf = true) : 0 ≤ n ∧ n ≤ 65535 := by
  have hmin : IntKind.u16.min = 0 := rfl
  have hmax : IntKind.u16.max = 65535 := rfl
  simp only [Lit.wf, Bool.and_eq_true, decide_eq_true_eq] at h
  omega
/-- The gauge behind the numbers L. -/
structure Sv (bs L : List Int) (G : Ga Bool) : Prop where
  bs : G.bs = bs
  ok : G.Ok L.length
  f : G.f true = L
  ks : (L = [] ∧ G.ks = []) ∨ G.ks = [true]
theorem Sv.note {bs L : List Int} {G : Ga Bool} (h : Sv bs L G) {x : Int} (hx : 0 ≤ x ∧ x ≤ 1099511627776) : Sv bs (L ++ [x]) (G.note true x) where
  bs := (Ga.push_bs G true).trans h.bs
  ok := by rw [List.length_append]; exact h.ok.note true hx
  f := by
    have e : (G.note true x).f true = (G.push true).f true ++ [x] := if_pos rfl
    rw [e, Ga.push_f, h.f]
  ks := by
    right
    show (G.push true).ks = [true]
    unfold Ga.push
    rcases h.ks with ⟨_, e⟩ | e
    · rw [if_neg (by rw [e]; simp)]
      show G.ks ++ [true] = [true]
      rw [e]
      rfl
    · rw [if_pos (by rw [e]; simp)]
      exact e
theorem Sv.no {bs L : List Int} {G : Ga Bool} (h : Sv bs L G) : false ∉ G.ks := by
  rcases h.ks with ⟨_, e⟩ | e <;> rw [e] <;> simp
theorem kT (b : Bool) : keyOf Try.prog 4 (.bool b) = some (.bool b) := keyOf_bool_mk Try.underlying4 b
theorem counts_any {bs L : List Int} {G : Ga Bool} (h : Sv bs L G) (B g u : Nat) (F : Nat → Prop) (w : World) (hG : IsGB B w g G u F) :
    Calls Try.prog 27 #[.pointer (some ⟨g, 0, none⟩), .bool true] w fun e w' => ∃ A c, ∃ cs : List Int, e = .returned (.slice A cs.length c) ∧ Reads w' A (iv cs) ∧ cs.sum = L.length ∧ cs.length ≤ 65 ∧ (∀ x ∈ cs, 0 ≤ x) ∧ Ext N0 w w' := by
  rcases h.ks with ⟨e, hk⟩ | hk
  · refine (counts_outB B g u G true F w hG (kT true) (by rw [hk]; simp)).mono ?_
    rintro e' w' ⟨A, c, rfl, hE⟩
    exact ⟨A, c, [], rfl, ⟨by simp [iv], fun h => absurd h (by simp [iv])⟩, by rw [e]; rfl, by simp, by simp, hE⟩
  · refine (counts_inB B g u G true F w hG h.ok.bl.2 (kT true) (by rw [hk]; simp)).mono ?_
    rintro e' w' ⟨A, c, rfl, ho, hE⟩
    refine ⟨A, c, cnt G.bs (G.f true), by rw [cnt_len], ownReads1 ho, by rw [cnt_sum, h.f], by rw [cnt_len]; have := h.ok.bl.2; omega, fun x hx => ?_, hE⟩
    unfold cnt at hx
    rw [List.mem_map] at hx
    obtain ⟨i, _, rfl⟩ := hx
    omega
theorem counts_false {bs L : List Int} {G : Ga Bool} (h : Sv bs L G) (B g u : Nat) (F : Nat → Prop) (w : World) (hG : IsGB B w g G u F) :
    Calls Try.prog 27 #[.pointer (some ⟨g, 0, none⟩), .bool false] w fun e w' => ∃ A c, e = .returned (.slice A 0 c) ∧ Ext N0 w w' := counts_outB B g u G false F w hG (kT false) h.no
theorem noted_any {bs L : List Int} {G : Ga Bool} (h : Sv bs L G) (B g u : Nat) (F : Nat → Prop) (w : World) (hG : IsGB B w g G u F) :
    Calls Try.prog 28 #[.pointer (some ⟨g, 0, none⟩), .bool true] w fun e w' => e = .returned (.int .i64 L.length) ∧ Ext N0 w w' := by
  rcases h.ks with ⟨e, hk⟩ | hk
  · rw [e]
    exact noted_outB B g u G true F w hG (kT true) (by rw [hk]; simp)
  · have := noted_inB B g u G true F w hG (kT true) (by rw [hk]; simp)
    rw [h.f] at this
    exact this
theorem above_any {bs L : List Int} {G : Ga Bool} (h : Sv bs L G) (hl : L.length ≤ 60) (B g u : Nat) (F : Nat → Prop) (t : Int) (ht : 0 ≤ t) (w : World) (hG : IsGB B w g G u F) :
    Calls Try.prog 29 #[.pointer (some ⟨g, 0, none⟩), .bool true, .int .i64 t] w fun e w' => ∃ v : Int, e = .returned (.int .i64 v) ∧ v ≤ (L.filter fun x => decide (t < x)).length ∧ Ext N0 w w' := by
  rcases h.ks with ⟨e, hk⟩ | hk
  · refine (above_outB B g u G true t F w hG (kT true) (by rw [hk]; simp)).mono ?_
    rintro e' w' ⟨rfl, hE⟩
    exact ⟨0, rfl, by omega, hE⟩
  · refine (above_inB B g u L.length G true t F w hG h.ok (by omega) (kT true) (by rw [hk]; simp)).mono ?_
    rintro e' w' ⟨rfl, hE⟩
    have := abv_count G.bs (G.f true) t ht
    rw [h.f] at this
    rw [h.f]
    exact ⟨_, rfl, this, hE⟩
theorem take_sum : ∀ (cs : List Int) (j : Nat), (∀ x ∈ cs, 0 ≤ x) → 0 ≤ (cs.take j).sum ∧ (cs.take j).sum ≤ cs.sum := by
  intro cs
  induction cs with
  | nil => intro j _; simp
  | cons a cs ih =>
    intro j h
    have ha := h a List.mem_cons_self
    cases j with
    | zero =>
      have := ih cs.length (fun x hx => h x (List.mem_cons_of_mem _ hx))
      rw [List.take_length] at this
      simp
      omega
    | succ j =>
      have := ih j (fun x hx => h x (List.mem_cons_of_mem _ hx))
      simp
      omega
set_option maxRecDepth 100000 in
set_option maxHeartbeats 4000000 in
theorem walk (a0 : Int) (a1 : Option Addr) (len1 cap1 : Nat) (z1 : List Int) (a2 : Int) (w : World) (w0 : (Lit.int .u8 a0).wf = true) (w1 : IsRow .u16 w a1 len1 cap1 z1) (w2 : (Lit.int .u16 a2).wf = true) :
    Calls Try.prog 5 #[.int .u8 a0, .slice a1 len1 cap1, .int .u16 a2] w fun e w' => e = .returned (.bool true) ∧ Below w.heap.size w w' := by
  have b0 := bd8 w0
  have b2 := bd16 w2
  obtain ⟨hr1, hr2, hr3, hr4, hr5⟩ := w1.reads
  obtain ⟨L, hL⟩ : ∃ L, z1.take len1 = L := ⟨_, rfl⟩
  rw [hL] at hr1 hr2 hr5
  have e0 : a0.tmod 20 = a0 % 20 := Int.tmod_eq_emod_of_nonneg (by omega)
  obtain ⟨m0, hm0⟩ : ∃ m0 : Nat, a0 % 20 = m0 := ⟨(a0 % 20).toNat, by omega⟩
  have hm : m0 < 20 := by omega
  rw [hm0] at e0
  have HR := Lib.hid hr1
  have HL := Lib.hid hr2
  have HV := Lib.hid (fun n hn => bd16 (hr5 n hn))
  have hP : ∀ W : World, Calls Try.prog 23 #[.int .i64 (1 + (m0 : Int))] W fun e w' => ∃ A c, e = .returned (.slice A (pw (m0 + 1)).length c) ∧ w'.ownsRow W.heap.size 3 1 (.slice A (pw (m0 + 1)).length c) (pw (m0 + 1)).length (iv (pw (m0 + 1))) ∧ Ext N0 W w' := fun W => by
    have := powers_calls (m0 + 1) W ⟨by omega, by omega⟩
    rw [show ((m0 + 1 : Nat) : Int) = 1 + (m0 : Int) by omega] at this
    rw [pw_len]
    exact this
  have hRP : ∀ W : World, Calls Try.prog 25 #[.int .i64 (1 + (m0 : Int))] W fun e w' => ∃ A c, e = .returned (.slice A (pw (m0 + 1)).length c) ∧ w'.ownsRow W.heap.size 3 1 (.slice A (pw (m0 + 1)).length c) (pw (m0 + 1)).length (iv (pw (m0 + 1))) ∧ Ext N0 W w' := fun W => by
    have := rpowers_calls (m0 + 1) W ⟨by omega, by omega⟩
    rw [show ((m0 + 1 : Nat) : Int) = 1 + (m0 : Int) by omega] at this
    rw [pw_len]
    exact this
  have hmay := pw_may (m0 + 1) (by omega) (by omega)
  obtain ⟨bs, hbs⟩ : ∃ bs, pw (m0 + 1) = bs := ⟨_, rfl⟩
  rw [hbs] at hmay
  simp only [hbs] at hP hRP
  have hmay2 : mayF (-1) bs = true ∧ 1 ≤ bs.length ∧ bs.length ≤ 64 := by
    unfold mayB at hmay
    rw [Bool.and_eq_true] at hmay
    exact ⟨hmay.1, of_decide_eq_true hmay.2⟩
  have HS0 : Hid (Sv bs [] ⟨bs, [], fun _ => []⟩) := Lib.hid ⟨rfl, ⟨hmay2.1, hmay2.2, List.nodup_nil, fun k x hx => (by cases hx), fun k => Nat.le_refl _, fun k _ => rfl, Nat.le_refl _⟩, rfl, .inl ⟨rfl, rfl⟩⟩
  have HP := Lib.hid hP
  have HRP := Lib.hid hRP
  have HM := Lib.hid hmay
  have HP0 := Lib.hid (fun W => powers_bad 0 W (.inl (by omega)))
  have HP42 := Lib.hid (fun W => powers_bad 42 W (.inr (by omega)))
  clear hr1 hr2 hr5 hL w0 w1 w2 hm0 hP hRP hmay hmay2 hbs
  go_enter Try.func5, Try.ntmps5
  go_wp2_with fail
  refine (HP.out _).mono ?_
  rintro e w1 ⟨A1, c1, rfl, ho1, hE1⟩
  have HO1 := Lib.hid ho1
  have HE1 := Lib.hid hE1
  clear ho1 hE1
  go_wp2_with fail
  refine (new_goodB A1 c1 bs w1 (ownReads1 HO1.out) HM.out).mono ?_
  rintro e w2 ⟨g, rfl, _, hG, hE2⟩
  obtain ⟨B, hB⟩ : ∃ B, w1.heap.size = B := ⟨_, rfl⟩
  rw [hB] at hG
  have HG := Lib.hid hG
  have HX2 := Lib.hid (And.intro (HE1.out.then0 hE2) (show w.heap.size ≤ B ∧ B ≤ w2.heap.size from ⟨by rw [← hB]; exact HE1.out.size, by rw [← hB]; exact hE2.size⟩))
  have HO2 := Lib.hid (ownReads1 (ownKept0 HO1.out hE2))
  clear hG hE2 hB HE1 HO1
  go_wp2_with (first
    | (go_at_call 25; refine (HRP.out _).mono ?_; rintro e w3 ⟨A3, c3, rfl, ho3, hE3⟩; have HR3 := Lib.hid (ownReads1 ho3); have HX3 := Lib.hid hE3; clear ho3 hE3)
    | (go_at_call 12; refine (same_yes bs _ _ _ _ _ (HO2.out.mono0 HX3.out) HR3.out).mono ?_; rintro e w4 ⟨rfl, hE4⟩; have HX4 := Lib.hid (HX3.out.then0 hE4); clear hE4)
    | (go_at_call 8; refine (awake_calls _).mono ?_; rintro e w5 ⟨rfl, hE5⟩; have HX5 := Lib.hid (HX4.out.then0 hE5); clear hE5))
  have HG5 := Lib.hid (HG.out.kept0 HX5.out)
  have HW5 := Lib.hid (show Ext N0 w w5 ∧ w.heap.size ≤ B ∧ B ≤ w5.heap.size from ⟨HX2.out.1.then0 HX5.out, HX2.out.2.1, Nat.le_trans HX2.out.2.2 HX5.out.size⟩)
  clear HG HX2 HX3 HX4 HX5 HO2 HR3 HP HRP HM
  go_loopw [10, 11] (fun a i wr => ∃ (k : Nat) (G : Ga Bool) (c : Int), i = .int .i64 k ∧ a = .int .i64 c ∧ k ≤ 60 ∧ k ≤ len1 ∧ 0 ≤ c ∧ c ≤ 60 ∧ Hid (c = ((L.take k).filter fun x => decide (a2 < x)).length) ∧ Hid (Sv bs (L.take k) G) ∧ Hid (IsGB B wr g G k (fun x => B ≤ x)) ∧ Hid (Ext N0 w wr ∧ w.heap.size ≤ B ∧ B ≤ wr.heap.size)) (fun _ i _ => 61 - (intOf i).toNat)
  case atStart => exact ⟨0, _, 0, rfl, rfl, by omega, by omega, by omega, by omega, Lib.hid rfl, HS0, HG5, HW5⟩
  case round =>
    clear HG5 HW5 HS0
    obtain ⟨k, G, c, rfl, rfl, hk6, hkl, hc0, hc6, HC, HS, HG, HW⟩ := hrel
    by_cases hl : k < len1
    · have hl' : (k : Int) < len1 := by omega
      by_cases h6 : k < 60
      · have h6' : (k : Int) < 60 := by omega
        obtain ⟨ad, rfl, hcell⟩ := HR.out.2 (by rw [show (ints .u16 L).length = L.length by simp [ints], HL.out]; omega)
        obtain ⟨z, hz⟩ : ∃ z, L[k]? = some z := ⟨_, List.getElem?_eq_getElem (by rw [HL.out]; exact hl)⟩
        have bz := HV.out z (List.mem_of_getElem? hz)
        have czw := hcell k (.int .u16 z) (by simp [ints, hz])
        have cz := HW.out.1.cell czw (fun h => h)
        have hlen : (L.take k).length = k := by rw [List.length_take, HL.out]; omega
        have hN := note_callsB B g k (L.take k).length G true z (fun x => B ≤ x) wr HG.out (fun y hy => Nat.le_trans HW.out.2.2 hy) HS.out.ok (by omega) (kT true) (by omega) (by omega) HW.out.2.2
        have HN := Lib.hid hN
        have htk : L.take (k + 1) = L.take k ++ [z] := by rw [List.take_add_one, hz]; rfl
        have HS2 : Hid (Sv bs (L.take (k + 1)) (G.note true z)) := Lib.hid (by rw [htk]; exact HS.out.note (by omega))
        by_cases hza : a2 < z
        · have HC2 : Hid (c + 1 = ((L.take (k + 1)).filter fun x => decide (a2 < x)).length) := Lib.hid (by rw [htk, List.filter_append, List.length_append, HC.out]; simp [hza])
          have hc61 : c + 1 ≤ 60 := by
            have h1 := HC2.out
            have h2 := List.length_filter_le (fun x => decide (a2 < x)) (L.take (k + 1))
            rw [List.length_take] at h2
            omega
          clear hcell hz hN htk HC hlen
          go_wp2_with (go_at_call 26; refine HN.out.mono ?_; rintro e w6 ⟨rfl, hG6, hE6⟩; have hX6 : Ext N0 w w6 := HW.out.1.trans hE6 (fun y hy => .inr (Nat.le_trans HW.out.2.1 hy)); have HG6 := Lib.hid hG6; have HW6 : Hid (Ext N0 w w6 ∧ w.heap.size ≤ B ∧ B ≤ w6.heap.size) := Lib.hid ⟨hX6, HW.out.2.1, Nat.le_trans HW.out.2.2 hE6.size⟩; have cz6 := hX6.cell czw (fun h => h); clear hG6 hE6 hX6)
          go_roundw
          case rel => exact ⟨k + 1, _, c + 1, by go_num, rfl, by omega, by omega, by omega, hc61, HC2, HS2, HG6, HW6⟩
          case measure => simp only [intOf]; omega
        · have HC2 : Hid (c = ((L.take (k + 1)).filter fun x => decide (a2 < x)).length) := Lib.hid (by rw [htk, List.filter_append, List.length_append, HC.out]; simp [hza])
          clear hcell hz hN htk HC hlen
          go_wp2_with (go_at_call 26; refine HN.out.mono ?_; rintro e w6 ⟨rfl, hG6, hE6⟩; have hX6 : Ext N0 w w6 := HW.out.1.trans hE6 (fun y hy => .inr (Nat.le_trans HW.out.2.1 hy)); have HG6 := Lib.hid hG6; have HW6 : Hid (Ext N0 w w6 ∧ w.heap.size ≤ B ∧ B ≤ w6.heap.size) := Lib.hid ⟨hX6, HW.out.2.1, Nat.le_trans HW.out.2.2 hE6.size⟩; have cz6 := hX6.cell czw (fun h => h); clear hG6 hE6 hX6)
          go_roundw
          case rel => exact ⟨k + 1, _, c, by go_num, rfl, by omega, by omega, by omega, by omega, HC2, HS2, HG6, HW6⟩
          case measure => simp only [intOf]; omega
      · have h6' : ¬ (k : Int) < 60 := by omega
        obtain rfl : k = 60 := by omega
        have h60 : (60 : Int) < len1 := by omega
        have hlen : (L.take 60).length = 60 := by rw [List.length_take, HL.out]; omega
        have hCA := counts_any HS.out B g 60 (fun x => B ≤ x) wr HG.out
        have hcc := HC.out
        have HLen := Lib.hid hlen
        have HCA := Lib.hid hCA
        clear hCA hlen hcc
        go_wp2_with fail
        refine HCA.out.mono ?_
        rintro e w6 ⟨A6, c6, cs, rfl, hR6, hsum, hcl, hpos, hE6⟩
        rw [HLen.out] at hsum
        obtain ⟨n6, hn6⟩ : ∃ n6, cs.length = n6 := ⟨_, rfl⟩
        rw [hn6] at hcl
        have HN6 := Lib.hid hn6
        have HR6 := Lib.hid hR6
        have HSum := Lib.hid hsum
        have HPos := Lib.hid hpos
        have HE6 := Lib.hid hE6
        simp only [hn6]
        clear hn6 hR6 hsum hpos hE6 HCA
        go_wp2_with fail
        go_loopw [13, 14] (fun s i wr2 => ∃ (j : Nat) (v : Int), i = .int .i64 j ∧ s = .int .i64 v ∧ j ≤ n6 ∧ 0 ≤ v ∧ v ≤ 60 ∧ Hid (v = (cs.take j).sum) ∧ wr2 = w6) (fun _ i _ => n6 - (intOf i).toNat)
        case atStart => exact ⟨0, 0, rfl, rfl, by omega, by omega, by omega, Lib.hid (by simp), rfl⟩
        case round =>
          obtain ⟨j, v, rfl, rfl, hj, hv0, hv6, HVs, rfl⟩ := hrel
          by_cases hjn : j < n6
          · have hjn' : (j : Int) < n6 := by omega
            obtain ⟨ad6, rfl, hc6⟩ := HR6.out.2 (by rw [iv_len, HN6.out]; omega)
            obtain ⟨x, hx⟩ : ∃ x, cs[j]? = some x := ⟨_, List.getElem?_eq_getElem (by rw [HN6.out]; exact hjn)⟩
            have cx := hc6 j _ (iv_get hx)
            have hsx : v + x = (cs.take (j + 1)).sum := by rw [List.take_add_one, hx, List.sum_append, HVs.out]; simp
            have hb := take_sum cs (j + 1) HPos.out
            rw [← hsx, HSum.out] at hb
            have hb2 : 0 ≤ v + x ∧ v + x ≤ 60 := by omega
            have HSX := Lib.hid hsx
            clear hc6 hx hsx hb
            go_wp2
            go_roundw
            case rel => exact ⟨j + 1, v + x, by go_num, rfl, by omega, hb2.1, hb2.2, HSX, trivial⟩
            case measure => simp only [intOf]; omega
          · have hjn' : ¬ (j : Int) < n6 := by omega
            obtain rfl : j = n6 := by omega
            have hv : v = ((60 : Nat) : Int) := by rw [HVs.out, List.take_of_length_le (by rw [HN6.out]; omega), HSum.out]
            subst hv
            have HG6 := Lib.hid (HG.out.kept0 HE6.out)
            have hN28 := fun W (h : IsGB B W g G 60 (fun x => B ≤ x)) => noted_any HS.out B g 60 (fun x => B ≤ x) W h
            rw [HLen.out] at hN28
            have hA29 := fun W (h : IsGB B W g G 60 (fun x => B ≤ x)) => above_any HS.out (by rw [HLen.out]; omega) B g 60 (fun x => B ≤ x) a2 b2.1 W h
            rw [← HC.out] at hA29
            have HN28 := Lib.hid hN28
            have HA29 := Lib.hid hA29
            clear hN28 hA29 hv0 hv6
            go_wp2_with (first
              | (have hx := HX7; clear hx; go_at_call 27; refine (counts_false HS.out B g 60 (fun x => B ≤ x) _ (HG6.out.kept0 HX8.out)).mono ?_; rintro e w9 ⟨A9, c9, rfl, hE9⟩; have HX9 := Lib.hid (HX8.out.then0 hE9); clear hE9)
              | (go_at_call 28; refine (HN28.out _ HG6.out).mono ?_; rintro e w7 ⟨rfl, hE7⟩; have HX7 := Lib.hid hE7; clear hE7)
              | (go_at_call 29; refine (HA29.out _ (HG6.out.kept0 HX7.out)).mono ?_; rintro e w8 ⟨v8, rfl, hv8, hE8⟩; have HX8 := Lib.hid (HX7.out.then0 hE8); clear hE8)
              | (have hx := HX10; clear hx; go_at_call 23; refine (HP42.out _).mono ?_; rintro e w11 ⟨rfl, hw11⟩; subst hw11)
              | (go_at_call 23; refine (HP0.out _).mono ?_; rintro e w10 ⟨rfl, hw10⟩; have HX10 := Lib.hid (Nat.le_refl 0); subst hw10))
            go_ret
            exact ⟨by simp, ((HW.out.1.then0 HE6.out).then0 HX9.out).below⟩
    · have hl' : ¬ (k : Int) < len1 := by omega
      obtain rfl : k = len1 := by omega
      have h60 : ¬ (60 : Int) < k := by omega
      have hlen : (L.take k).length = k := by rw [List.length_take, HL.out]; omega
      have hCA := counts_any HS.out B g k (fun x => B ≤ x) wr HG.out
      have hcc := HC.out
      have HLen := Lib.hid hlen
      have HCA := Lib.hid hCA
      clear hCA hlen hcc
      go_wp2_with fail
      refine HCA.out.mono ?_
      rintro e w6 ⟨A6, c6, cs, rfl, hR6, hsum, hcl, hpos, hE6⟩
      rw [HLen.out] at hsum
      obtain ⟨n6, hn6⟩ : ∃ n6, cs.length = n6 := ⟨_, rfl⟩
      rw [hn6] at hcl
      have HN6 := Lib.hid hn6
      have HR6 := Lib.hid hR6
      have HSum := Lib.hid hsum
      have HPos := Lib.hid hpos
      have HE6 := Lib.hid hE6
      simp only [hn6]
      clear hn6 hR6 hsum hpos hE6 HCA
      go_wp2_with fail
      go_loopw [13, 14] (fun s i wr2 => ∃ (j : Nat) (v : Int), i = .int .i64 j ∧ s = .int .i64 v ∧ j ≤ n6 ∧ 0 ≤ v ∧ v ≤ 60 ∧ Hid (v = (cs.take j).sum) ∧ wr2 = w6) (fun _ i _ => n6 - (intOf i).toNat)
      case atStart => exact ⟨0, 0, rfl, rfl, by omega, by omega, by omega, Lib.hid (by simp), rfl⟩
      case round =>
        obtain ⟨j, v, rfl, rfl, hj, hv0, hv6, HVs, rfl⟩ := hrel
        by_cases hjn : j < n6
        · have hjn' : (j : Int) < n6 := by omega
          obtain ⟨ad6, rfl, hc6⟩ := HR6.out.2 (by rw [iv_len, HN6.out]; omega)
          obtain ⟨x, hx⟩ : ∃ x, cs[j]? = some x := ⟨_, List.getElem?_eq_getElem (by rw [HN6.out]; exact hjn)⟩
          have cx := hc6 j _ (iv_get hx)
          have hsx : v + x = (cs.take (j + 1)).sum := by rw [List.take_add_one, hx, List.sum_append, HVs.out]; simp
          have hb := take_sum cs (j + 1) HPos.out
          rw [← hsx, HSum.out] at hb
          have hb2 : 0 ≤ v + x ∧ v + x ≤ 60 := by omega
          have HSX := Lib.hid hsx
          clear hc6 hx hsx hb
          go_wp2
          go_roundw
          case rel => exact ⟨j + 1, v + x, by go_num, rfl, by omega, hb2.1, hb2.2, HSX, trivial⟩
          case measure => simp only [intOf]; omega
        · have hjn' : ¬ (j : Int) < n6 := by omega
          obtain rfl : j = n6 := by omega
          have hv : v = ((k : Nat) : Int) := by rw [HVs.out, List.take_of_length_le (by rw [HN6.out]; omega), HSum.out]
          subst hv
          have HG6 := Lib.hid (HG.out.kept0 HE6.out)
          have hN28 := fun W (h : IsGB B W g G k (fun x => B ≤ x)) => noted_any HS.out B g k (fun x => B ≤ x) W h
          rw [HLen.out] at hN28
          have hA29 := fun W (h : IsGB B W g G k (fun x => B ≤ x)) => above_any HS.out (by rw [HLen.out]; omega) B g k (fun x => B ≤ x) a2 b2.1 W h
          rw [← HC.out] at hA29
          have HN28 := Lib.hid hN28
          have HA29 := Lib.hid hA29
          clear hN28 hA29 hv0 hv6
          go_wp2_with (first
            | (have hx := HX7; clear hx; go_at_call 27; refine (counts_false HS.out B g k (fun x => B ≤ x) _ (HG6.out.kept0 HX8.out)).mono ?_; rintro e w9 ⟨A9, c9, rfl, hE9⟩; have HX9 := Lib.hid (HX8.out.then0 hE9); clear hE9)
            | (go_at_call 28; refine (HN28.out _ HG6.out).mono ?_; rintro e w7 ⟨rfl, hE7⟩; have HX7 := Lib.hid hE7; clear hE7)
            | (go_at_call 29; refine (HA29.out _ (HG6.out.kept0 HX7.out)).mono ?_; rintro e w8 ⟨v8, rfl, hv8, hE8⟩; have HX8 := Lib.hid (HX7.out.then0 hE8); clear hE8)
            | (have hx := HX10; clear hx; go_at_call 23; refine (HP42.out _).mono ?_; rintro e w11 ⟨rfl, hw11⟩; subst hw11)
            | (go_at_call 23; refine (HP0.out _).mono ?_; rintro e w10 ⟨rfl, hw10⟩; have HX10 := Lib.hid (Nat.le_refl 0); subst hw10))
          go_ret
          exact ⟨by simp, ((HW.out.1.then0 HE6.out).then0 HX9.out).below⟩
end gaugeSums
end Go.Proofs.Ytcngefpdfkkgdaa
