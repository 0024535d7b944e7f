/- Contracts of the reference of package cut, each proved for every value that its statement lets in (the conditions stand in the statements). -/
import Derived.Test.YteklmbbbhelkiaaA3
namespace Go.Proofs.Yteklmbbbhelkiaa
open Go.RowKit

theorem rcut_no (A : Option Addr) (n c : Nat) (m : Int) (w : World) (hn : n ≤ 9223372036854775807) (hm : -9223372036854775808 ≤ m ∧ m ≤ 9223372036854775807) (h : ¬ May n m) : Calls Try.prog 7 #[.slice A n c, .int .i64 m] w fun e w' => e = .returned (.tuple #[.slice none 0 0, .int .i64 110]) ∧ w' = w := by
  have hc : cnt n m = 0 := if_neg h
  have hq := rcount_calls n m w (by omega) hm
  rw [hc] at hq
  go_enter Try.func7, Try.ntmps7
  go_wp2_with (refine hq.mono ?_; rintro e w1 ⟨rfl, rfl⟩)
  exact bodyPost_ret (v := .tuple #[.slice none 0 0, .int .i64 110]) (by simp [results, Try.results7, go_sem]) rfl ⟨rfl, rfl⟩

/-- What a cut hands out. -/
def Cuts (base : Nat) (xs : List Int) (mtu : Nat) (A : Option Addr) (j c : Nat) (ps : List Pc) (W : World) : Prop :=
  ps.map pdata = pspec xs mtu j ∧ W.ownsRow base 35 3 (.slice A j c) j (ps.flatMap pcell) ∧ ∀ p, p ∈ ps → PcOk base W p
theorem oneInts (k : IntKind) (xs : List Int) : ∀ u, u ∈ ints k xs → u.oneCell' = true := by simp [ints, Value.oneCell']
theorem cuts_step {w1 wr w3 w4 : World} {xs ys : List Int} {mtu k m c1 c3 c4 : Nat} {A1 A3 A4 : Option Addr} {ps : List Pc} {b : Bool} (HC : Cuts w1.heap.size xs mtu A1 k c1 ps wr) (hE : Ext N0 w1 wr) (hE3 : Ext N0 wr w3)
    (ho3 : w3.ownsRow wr.heap.size 5 1 (.slice A3 m c3) m (ints .u8 ys)) (hys : ys.length = m)
    (hE4 : Ext (fun k' => (Value.slice A1 k c1).ownBlock = some k') (w3.alloc (.cells #[.slice A3 m c3, .bool b, .bool false] 35)) w4)
    (ho4 : w4.ownsRow w1.heap.size 35 3 (.slice A4 (k + 1) c4) (k + 1) (ps.flatMap pcell ++ [.slice A3 m c3, .bool b, .bool false]))
    (e3 : (ys, b) = ((xs.drop (k * mtu)).take mtu, decide (xs.length ≤ (k + 1) * mtu))) :
    Cuts w1.heap.size xs mtu A4 (k + 1) c4 (ps ++ [(A3, c3, ys, b)]) w4 ∧ Ext N0 w1 w4 := by
  obtain ⟨h1, h2, h3⟩ := HC
  have hEa : Ext N0 w3 (w3.alloc (.cells #[.slice A3 m c3, .bool b, .bool false] 35)) := (Ext.refl _ _).alloc _
  have h2' := ownKept0 (ownKept0 h2 hE3) hEa
  have hs := hE.size
  refine ⟨⟨?_, ?_, ?_⟩, ((hE.then0 hE3).then0 hEa).trans hE4 (fun k hk => .inr (ownBase h2 k hk).1)⟩
  · rw [List.map_append, h1, pspec_succ, ← e3]
    rfl
  · rw [List.flatMap_append]
    simpa [pcell, hys] using ho4
  · intro p hp
    rcases List.mem_append.1 hp with hp | hp
    · have h3' := ownKept0 (ownKept0 (h3 p hp) hE3) hEa
      exact ownKept h3' hE4 (ownNe h3' h2' (by decide))
    · rw [List.mem_singleton.1 hp]
      have h3' := ownKept0 ho3 hEa
      have := ownLe (ownKept h3' hE4 (ownNe h3' h2' (by decide))) hs
      unfold PcOk
      simpa [hys] using this
theorem cntN {n mtu : Nat} (h : May n mtu) : ∃ N : Nat, cnt n mtu = (N : Int) ∧ 1 ≤ N ∧ n ≤ N * mtu ∧ ∀ k, k < N → k * mtu < n := by
  have h1 := h.1
  have h2 := h.2
  have e : cnt n mtu = ((n - 1) / mtu + 1 : Nat) := by
    unfold cnt
    rw [if_pos h]
    push_cast
    rw [show ((n : Int) - 1) = ((n - 1 : Nat) : Int) by omega]
  have hdm := Nat.div_add_mod (n - 1) mtu
  have hml := Nat.mod_lt (n - 1) (show 0 < mtu by omega)
  refine ⟨(n - 1) / mtu + 1, e, Nat.le_add_left 1 _, ?_, fun k hk => ?_⟩
  · rw [Nat.succ_mul, Nat.mul_comm]
    omega
  · have : k * mtu ≤ (n - 1) / mtu * mtu := Nat.mul_le_mul_right _ (by omega)
    exact Nat.lt_of_le_of_lt (Nat.le_trans this (Nat.div_mul_le_self _ _)) (by omega)
set_option maxRecDepth 100000 in
set_option maxHeartbeats 2000000 in
theorem rcut_yes (A : Option Addr) (c : Nat) (xs : List Int) (mtu N : Nat) (w : World) (hr : Reads w A (ints .u8 xs)) (hc : xs.length ≤ c) (h : May xs.length mtu) (hN : cnt xs.length mtu = (N : Int)) (hN1 : xs.length ≤ N * mtu) (hN2 : ∀ k, k < N → k * mtu < xs.length) :
    Calls Try.prog 7 #[.slice A xs.length c, .int .i64 mtu] w fun e w' => ∃ (ps : List Pc) (A' : Option Addr) (c' : Nat), e = .returned (.tuple #[.slice A' N c', .int .i64 0]) ∧ Cuts w.heap.size xs mtu A' N c' ps w' ∧ Ext N0 w w' := by
  obtain ⟨⟨h1, h2⟩, h3, h4⟩ := h
  have hq := rcount_calls xs.length mtu w (by omega) (by omega)
  rw [hN] at hq
  have hNb : N ≤ 70001 := by have := cnt_bd xs.length mtu; omega
  have hN0 : 1 ≤ N := by
    rcases Nat.eq_zero_or_pos N with h | h
    · rw [h, Nat.zero_mul] at hN1; omega
    · exact h
  have HN2 := Lib.hid hN2
  clear hN hN2
  have hne : ((N : Int) == 0) = false := beq_eq_false_iff_ne.mpr (by omega)
  go_enter Try.func7, Try.ntmps7
  go_wp2_with (refine hq.mono ?_; rintro e w1 ⟨rfl, rfl⟩)
  go_loopw [7, 8] (fun s i wr => ∃ (k : Nat) (ps : List Pc) (A1 : Option Addr) (c1 : Nat), k ≤ N ∧ i = .int .i64 k ∧ s = .slice A1 k c1 ∧ Hid (Cuts w1.heap.size xs mtu A1 k c1 ps wr) ∧ Hid (Ext N0 w1 wr))
    (fun _ i _ => N - (intOf i).toNat)
  case atStart => exact ⟨0, [], none, 0, by omega, rfl, rfl, Lib.hid (show Cuts w1.heap.size xs mtu none 0 0 [] w1 from ⟨rfl, ownNil _ _ _ _, fun p hp => by cases hp⟩), Lib.hid (Ext.refl _ _)⟩
  case round =>
    obtain ⟨k, ps, A1, c1, hk, rfl, rfl, HC, HE⟩ := hrel
    by_cases hlt : k < N
    · obtain ⟨q, hq'⟩ : ∃ q : Nat, k * mtu = q := ⟨_, rfl⟩
      have hqI : (k : Int) * (mtu : Int) = (q : Int) := by rw [← hq']; push_cast; rfl
      have hql : q < xs.length := by rw [← hq']; exact HN2.out k hlt
      obtain ⟨b', hb'⟩ : ∃ b', min (q + mtu) xs.length = b' := ⟨_, rfl⟩
      obtain ⟨e1, e2, e3⟩ := cstep (j := k) (mtu := mtu) (b := q) (by omega) hql hb'.symm
      obtain ⟨m, hm⟩ : ∃ m, b' - q = m := ⟨_, rfl⟩
      rw [hm] at e2 e3
      have hdec : (decide (b' = xs.length)) = ((k : Int) == (N : Int) - 1) := by
        show _ = decide ((k : Int) = (N : Int) - 1)
        congr 1
        refine propext ⟨fun h => ?_, fun h => ?_⟩
        · rcases Nat.lt_or_ge (k + 1) N with h' | h'
          · have := HN2.out (k + 1) h'
            omega
          · omega
        · have : N = k + 1 := by omega
          rw [this] at hN1
          omega
      have hcases : (((q : Int) + (mtu : Int) < xs.length ∧ (q : Int) + mtu = (q : Int) + m) ∨ (¬ (q : Int) + mtu < xs.length ∧ (xs.length : Int) = (q : Int) + m)) := by
        rcases Nat.lt_or_ge (q + mtu) xs.length with h | h <;> omega
      have hqm : q + m ≤ xs.length := by omega
      obtain ⟨i5, hi5, _, hsz5, _⟩ := info_parts info5
      have HC0 := Lib.hid hq'
      have HB := Lib.hid hb'
      have HM := Lib.hid hm
      have HD := Lib.hid hdec
      have H3 := Lib.hid e3
      have H2 := Lib.hid e2
      have H1 := Lib.hid e1
      clear hq' hb' hm hdec e3 e2 e1
      have hlt' : (k : Int) < N := by omega
      obtain ⟨A2, hcut, hC2⟩ := cutLH 22 5 Try.underlying22 hi5 hsz5 A xs.length c .i64 .i64 (q : Int) ((q : Int) + m) q m rfl (by omega) (by omega)
      have hr2 : Reads wr A2 (ints .u8 ((xs.drop q).take m)) := by
        have := (hC2.1 w1 _ (ints_length _ _) hc hqm hr).mono0 HE.out
        rwa [show ((ints .u8 xs).drop q).take m = ints .u8 ((xs.drop q).take m) from by simp [ints]] at this
      have HCC := Lib.hid hc
      clear hi5 hsz5 hC2 hc
      rcases hcases with ⟨hle, hmm⟩ | ⟨hle, hmm⟩
      all_goals
        go_wp2_with (first
          | (at_builtin; refine wpApp wr.heap.size (.tmp 35) (.tmp 36) 22 5 (.int .u8 0) 1 1 rfl rfl Try.underlying22 info5 rfl (by decide) (by decide) (.slice (some ⟨wr.heap.size, 0, none⟩) 0 0) 0 [] A2 m _ (ints .u8 ((xs.drop q).take m)) rfl rfl (ownLit _ _ _ _ _ _ (Nat.le_refl _) (by decide) rfl) (by rw [ints_length, H2.out]; omega) (hr2.mono0 ((Ext.refl _ _).alloc _)) (oneInts _ _) (by omega) (by simp) ?_; intro A3 c3 w3 ho3' hE3' hat3; have hE3 : Ext N0 wr w3 := ((Ext.refl N0 wr).alloc _).trans hE3' (fun k hk => .inr (by injection hk with hk; rw [← hk]; exact Nat.le_refl _)); have ho3 : w3.ownsRow wr.heap.size 5 1 (.slice A3 m c3) m (ints .u8 ((xs.drop q).take m)) := (by simpa using ho3'); have HO3 := Lib.hid ho3; clear ho3 ho3' hE3' hat3)
          | (at_builtin; refine wpApp w1.heap.size (.tmp 34) (.tmp 43) 24 35 (.agg #[.slice none 0 0, .bool false, .bool false]) 3 32 rfl rfl Try.underlying24 info35 rfl (by decide) (by decide) (.slice A1 k c1) k (ps.flatMap pcell) (some ⟨w3.heap.size, 0, none⟩) 1 1 [.slice A3 m c3, .bool ((k : Int) == (N : Int) - 1), .bool false] rfl rfl (ownKept0 (ownKept0 HC.out.2.1 hE3) ((Ext.refl _ _).alloc _)) rfl (litReads w3 _ _ (by simp)) (by simp [Value.oneCell']) (by omega) (by have := HE.out.size; have := hE3.size; simp; omega) ?_; intro A4 c4 w4 ho4 hE4 hat4; have HH := Lib.hid (cuts_step HC.out HE.out hE3 HO3.out H2.out hE4 ho4 (by rw [← H3.out, HD.out])); clear ho4 hE4 hat4))
        clear hqI hmm hcut hr2 hr hq hN1
        go_roundw
        case rel => first | exact ⟨k + 1, _, A4, c4, by omega, by go_num, rfl, Lib.hid HH.out.1, Lib.hid HH.out.2⟩ | exact ⟨k + 1, by omega, by go_num, _, A4, c4, ⟨rfl, rfl, rfl⟩, Lib.hid HH.out.1, Lib.hid HH.out.2⟩
        case measure => simp [intOf]; omega
    · go_wp2
      obtain rfl : k = N := by omega
      exact bodyPost_ret (v := .tuple #[.slice A1 k c1, .int .i64 0]) (by simp [results, Try.results7, go_sem]) rfl ⟨ps, A1, c1, rfl, HC.out, HE.out⟩
end Go.Proofs.Yteklmbbbhelkiaa
