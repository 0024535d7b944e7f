/- Contracts of functions of package cut, each proved for every value that its statement lets in (the conditions stand in the statements). -/
import Derived.Test.YteklmbbbhelkiaaProg
import Derived.Test.YteklmbbbhelkiaaRf
import Derived.Test.YteklmbbbhelkiaaCut
import Derived.WalkSpells
import Derived.Outline
namespace Go.Proofs.Yteklmbbbhelkiaa
open Go.RowKit
attribute [local go_sem] Oper.semAt_some

theorem info5 : (Try.prog.info? 5).map (fun i => (i.zero, i.size, i.bytes)) = some (some (.int .u8 0), 1, 1) := by kernel_rfl

/-- 'slices.Clone' of bytes: nil stays nil. -/
theorem clone_calls (A : Option Addr) (c n : Nat) (xs : List Int) (w : World) (hx : xs.length = n) (hr : Reads w A (ints .u8 xs)) (hn : n ≤ 140737488355328) :
    Calls Try.prog 17 #[.slice A n c] w fun e w' => ∃ A' c', e = .returned (.slice A' n c') ∧ w'.ownsRow w.heap.size 5 1 (.slice A' n c') n (ints .u8 xs) ∧ Ext N0 w w' := by
  subst hx
  have qT : ∀ (w : World) (a : Option Addr) (n c n' c' : Nat), (binOp .eql 22 (.slice a n c) (.slice none n' c')).run Try.prog w = .ok (.bool a.isNone) w := fun w a n c n' c' => Lib.run_eql_slice_nil w _ _ a n c n' c' Try.underlying22
  rcases A with _ | ad
  · obtain rfl : xs = [] := by have := hr.isNil; simpa [ints] using this
    go_enter Try.func17, Try.ntmps17
    go_wp2
    go_ret
    exact ⟨none, 0, rfl, ownNil _ _ _ _, Ext.refl _ _⟩
  · have hl : (ints .u8 xs).length = xs.length * 1 := by simp [ints]
    go_enter Try.func17, Try.ntmps17
    go_wp2_with (at_builtin; refine wpApp w.heap.size (.tmp 5) (.tmp 6) 22 5 (.int .u8 0) 1 1 rfl rfl Try.underlying22 info5 rfl (by decide) (by decide) _ 0 [] _ xs.length _ (ints .u8 xs) rfl rfl (ownLit _ _ _ _ _ _ (Nat.le_refl _) (by decide) rfl) hl (hr.mono0 ((Ext.refl _ _).alloc _)) (by simp [ints, Value.oneCell']) (by omega) (by simp) ?_; intro A' c' w' ho hE hat)
    go_ret
    simp only [Nat.zero_add, List.nil_append] at ho
    exact ⟨A', c', rfl, ho, ((Ext.refl _ _).alloc _).trans hE (fun k hk => .inr (by injection hk with hk; rw [← hk]; exact Nat.le_refl _))⟩

theorem readsKR {w wr : World} {R : Nat → Prop} {A : Option Addr} {vs : List Value} (h : Reads w A vs) (hb : ∀ ad, A = some ad → R ad.block) (hk : ∀ k, R k → wr.heap[k]? = w.heap[k]?) : Reads wr A vs :=
  ⟨h.1, fun h0 => by
    obtain ⟨ad, e, hc⟩ := h.2 h0
    refine ⟨ad, e, fun j v hv => ?_⟩
    have hc' := hc j v hv
    have := hk ad.block (hb ad e)
    rw [← addBlock ad j] at this
    simpa [World.cell?, this] using hc'⟩
def lenOf : Value → Nat
  | .slice _ n _ => n
  | _ => 0
def PStep (n0 : Nat) (xs : List Int) (mtu : Nat) (i : Nat) (vs : Array Value) (i' : Nat) (W : World) : Prop :=
  i < xs.length ∧ i' = min (i + mtu) xs.length ∧ ∃ A c, vs = #[.agg #[.slice A (i' - i) c, .bool (decide (i' = xs.length)), .bool false]] ∧ W.ownsRow n0 5 1 (.slice A (i' - i) c) (i' - i) (ints .u8 ((xs.drop i).take (i' - i)))
theorem may_calls (n m : Int) (w : World) (h1 : 1 ≤ n) (h2 : n ≤ 65536) (h3 : 1 ≤ m) (h4 : m ≤ 1024) : Calls Try.prog 12 #[.int .i64 n, .int .i64 m] w fun e w' => e = .returned (.bool true) ∧ w' = w := by
  go_enter Try.func12, Try.ntmps12
  go_wp2
  go_ret
  exact ⟨rfl, rfl⟩

set_option maxRecDepth 100000 in
set_option maxHeartbeats 2000000 in
theorem pieces_iter (Bm Bt Gm : Nat) (A : Option Addr) (c : Nat) (xs : List Int) (mtu : Nat) (R : Nat → Prop) (w : World)
    (hBm : w.heap[Bm]? = some (.cells #[.slice (some ⟨Gm, 0, none⟩) 1 1] 43 (0, 0))) (hGm : w.heap[Gm]? = some (.cells #[.slice A xs.length c] 22 (0, 0))) (hBt : w.heap[Bt]? = some (.cells #[.int .i64 mtu] 3 (0, 0)))
    (hr : Reads w A (ints .u8 xs)) (hc : xs.length ≤ c) (hRA : ∀ ad, A = some ad → R ad.block) (hRm : R Bm) (hRg : R Gm) (hRt : R Bt) (hR : ∀ k, R k → k < w.heap.size)
    (h1 : 1 ≤ xs.length) (h2 : xs.length ≤ 65536) (h3 : 1 ≤ mtu) (h4 : mtu ≤ 1024) :
    Iter Try.prog 16 #[.pointer (some ⟨Bm, 0, none⟩), .pointer (some ⟨Bt, 0, none⟩)] (PStep w.heap.size xs mtu) (fun i => i = xs.length) R 0 w := by
  intro l J Jx W hW hJ hJx hY h0
  have hKR : ∀ k, R k → W.heap[k]? = w.heap[k]? := fun k hk => hW.block k (hR k hk) (fun x => x)
  refine callsIn_of_wp Try.func16 rfl trivial ?_ rfl
  simp only [Try.ntmps16, List.size_toArray, List.length_cons, List.length_nil, Nat.reduceAdd, Nat.reduceSub, Array.replicate_succ, Array.replicate_zero, List.push_toArray, List.append_toArray, List.nil_append, List.cons_append]
  have c1 := (blkCell ((hKR Bm hRm).trans hBm) 0).trans rfl
  have HKR := Lib.hid hKR
  have HY := Lib.hid hY
  have HJ := Lib.hid hJ
  clear hKR hY hJ hJx
  gi_wp2
  gi_loopw [10] (fun i wr => ∃ k : Nat, k ≤ 1 ∧ i = .int .i64 k ∧ Hid (∀ k, R k → wr.heap[k]? = w.heap[k]?) ∧ Hid (w.heap.size ≤ wr.heap.size) ∧ J (if k = 0 then 0 else xs.length) wr)
    (fun i _ => 1 - (intOf i).toNat)
  case atStart => exact ⟨0, by omega, rfl, HKR, Lib.hid hW.size, h0⟩
  case round =>
    obtain ⟨k, hk, rfl, hK, hS, hJs⟩ := hrel
    by_cases hlt : k < 1
    · obtain rfl : k = 0 := by omega
      have g1 := (blkCell ((hK.out Gm hRg).trans hGm) 0).trans rfl
      have t1 := (blkCell ((hK.out Bt hRt).trans hBt) 0).trans rfl
      gi_wp2_with fail
      refine ⟨trivial, rfl, (callsIn_wide.2 (may_calls _ _ _ (by omega) (by omega) (by omega) (by omega))).mono ?_⟩
      rintro e w' ⟨rfl, rfl⟩
      have hJ0 : J 0 w' := hJs
      clear hJs g1 c1
      gi_wp2
      gi_loopw [6] (fun left wr => ∃ (i q d : Nat) (A' : Option Addr), i + q = xs.length ∧ q ≤ d ∧ left = .slice A' q d ∧ Hid (Reads w A' (ints .u8 (xs.drop i))) ∧ Hid (∀ ad, A' = some ad → R ad.block) ∧ Hid (∀ k, R k → wr.heap[k]? = w.heap[k]?) ∧ Hid (w.heap.size ≤ wr.heap.size) ∧ J i wr)
        (fun left _ => lenOf left)
      case atStart => exact ⟨0, xs.length, c, A, by omega, hc, rfl, Lib.hid hr, Lib.hid hRA, hK, hS, hJ0⟩
      case round =>
        clear t1 hJ0 hK hS
        obtain ⟨i, q, d, A', hiq, hqd, rfl, hRd, hRb, hK, hS, hJi⟩ := hrel
        have t1 := (blkCell ((hK.out Bt hRt).trans hBt) 0).trans rfl
        by_cases hq : 0 < q
        · have hrd : ∀ m, Reads wr A' (ints .u8 ((xs.drop i).take m)) := fun m => by
            have := (readsKR hRd.out hRb.out hK.out).take m
            rwa [show (ints .u8 (xs.drop i)).take m = ints .u8 ((xs.drop i).take m) from by simp [ints]] at this
          have hRD := Lib.hid hrd
          clear hrd
          obtain ⟨m, hm1, hm2, hm3⟩ : ∃ m : Nat, 1 ≤ m ∧ m ≤ q ∧ ((mtu = m ∧ (q : Int) ≤ mtu ∧ m = q) ∨ ((q : Int) < mtu ∧ m = q) ∨ (mtu = m ∧ (mtu : Int) < q)) := by
            rcases Nat.lt_trichotomy q mtu with h | h | h
            · exact ⟨q, by omega, by omega, .inr (.inl ⟨by omega, rfl⟩)⟩
            · exact ⟨q, by omega, by omega, .inl ⟨by omega, by omega, rfl⟩⟩
            · exact ⟨mtu, by omega, by omega, .inr (.inr ⟨rfl, by omega⟩)⟩
          have hdl : ((xs.drop i).take m).length = m := by simp; omega
          have hcl := Lib.hid (clone_calls A' d m _ wr hdl (hRD.out m) (by omega))
          obtain ⟨i5, hi5, _, hsz5, _⟩ := info_parts info5
          obtain ⟨A2, hcut, hC2⟩ := cutL 22 5 Try.underlying22 hi5 hsz5 A' q d .i64 (m : Int) m rfl hm2
          have hr2 := hC2.1 w (ints .u8 (xs.drop i)) (by simp [ints]; omega) hqd (by omega) hRd.out
          rw [show ((ints .u8 (xs.drop i)).drop m).take (q - m) = ints .u8 (xs.drop (i + m)) from by
            simp only [ints, ← List.map_drop, List.drop_drop]
            rw [List.take_of_length_le (by simp; omega)]] at hr2
          have hR2 : ∀ ad, A2 = some ad → R ad.block := by
            intro ad e
            obtain ⟨ad0, e0, eb⟩ := hC2.2 ad e
            rw [eb]
            exact hRb.out ad0 e0
          have HR2 := Lib.hid hr2
          have HRB2 := Lib.hid hR2
          have hst : ∀ A1 c1 w1, Ext N0 wr w1 → w1.ownsRow wr.heap.size 5 1 (.slice A1 m c1) m (ints .u8 ((xs.drop i).take m)) → PStep w.heap.size xs mtu i #[.agg #[.slice A1 m c1, .bool (decide (i + m = xs.length)), .bool false]] (i + m) w1 := by
            intro A1 c1 w1 hE ho
            refine ⟨by omega, by omega, A1, c1, ?_, ?_⟩
            · rw [show i + m - i = m from by omega]
            · rw [show i + m - i = m from by omega]
              exact ownLe ho hS.out
          obtain ⟨b, hb⟩ : ∃ b, decide (i + m = xs.length) = b := ⟨_, rfl⟩
          rw [hb] at hst
          have HST := Lib.hid hst
          clear hst hr2 hR2 hC2 hi5 hsz5 hdl
          have hbc : (b = true ∧ m = q) ∨ (b = false ∧ m < q) := by
            rcases Nat.lt_or_ge m q with h | h
            · exact .inr ⟨by rw [← hb]; exact decide_eq_false (by omega), h⟩
            · exact .inl ⟨by rw [← hb]; exact decide_eq_true (by omega), by omega⟩
          clear hb
          have hmq := hm3
          rcases hm3 with ⟨rfl, hm4, rfl⟩ | ⟨hm4, rfl⟩ | ⟨rfl, hm4⟩
          · obtain rfl : b = true := hbc.elim (fun h => h.1) (fun h => absurd h.2 (by omega))
            clear hbc hmq
            gi_wp2_with fail
            refine ⟨trivial, rfl, (callsIn_wide.2 hcl.out).mono ?_⟩
            rintro e w1 ⟨A1, c1, rfl, ho1, hE1⟩
            have hJ1 := HJ.out _ _ _ hJi (Kb.of0 hE1)
            obtain ⟨fn, tmps, assign, body, hy, hRd1⟩ := HY.out _ _ _ _ (HST.out A1 c1 w1 hE1 ho1) hJ1
            have HRD1 := Lib.hid hRd1
            have HE1 := Lib.hid hE1
            clear hRd1 hE1 ho1 hJ1 hJi HST hcl
            gi_wp2
            refine ⟨rfl, HRD1.out.mono ?_⟩
            rintro e W3 (⟨rfl, hJ3, hs3, hk3⟩ | ⟨rfl, hJx3⟩)
            · have HS3 := Lib.hid hs3
              have HK3 := Lib.hid hk3
              clear hs3 hk3 hy
              gi_wp2
              go_roundw
              case rel => exact ⟨i + mtu, 0, d - mtu, A2, by omega, by omega, rfl, HR2, HRB2, Lib.hid (fun k hk => (HK3.out k hk (Nat.lt_of_lt_of_le (Nat.lt_of_lt_of_le (hR k hk) hS.out) HE1.out.size)).trans ((HE1.out.block k (Nat.lt_of_lt_of_le (hR k hk) hS.out) (fun x => x)).trans (hK.out k hk))), Lib.hid (Nat.le_trans hS.out (Nat.le_trans HE1.out.size HS3.out)), hJ3⟩
              case measure => simp [lenOf]; omega
            · clear hy
              gi_wp2
              refine bodyPost_ret (results_none rfl _ _ _) rfl ?_
              exact ⟨⟨_, rfl⟩, .inr ⟨_, hJx3⟩⟩
          · obtain rfl : b = true := hbc.elim (fun h => h.1) (fun h => absurd h.2 (by omega))
            clear hbc hmq
            gi_wp2_with fail
            refine ⟨trivial, rfl, (callsIn_wide.2 hcl.out).mono ?_⟩
            rintro e w1 ⟨A1, c1, rfl, ho1, hE1⟩
            have hJ1 := HJ.out _ _ _ hJi (Kb.of0 hE1)
            obtain ⟨fn, tmps, assign, body, hy, hRd1⟩ := HY.out _ _ _ _ (HST.out A1 c1 w1 hE1 ho1) hJ1
            have HRD1 := Lib.hid hRd1
            have HE1 := Lib.hid hE1
            clear hRd1 hE1 ho1 hJ1 hJi HST hcl
            gi_wp2
            refine ⟨rfl, HRD1.out.mono ?_⟩
            rintro e W3 (⟨rfl, hJ3, hs3, hk3⟩ | ⟨rfl, hJx3⟩)
            · have HS3 := Lib.hid hs3
              have HK3 := Lib.hid hk3
              clear hs3 hk3 hy
              gi_wp2
              go_roundw
              case rel => exact ⟨i + m, 0, d - m, A2, by omega, by omega, rfl, HR2, HRB2, Lib.hid (fun k hk => (HK3.out k hk (Nat.lt_of_lt_of_le (Nat.lt_of_lt_of_le (hR k hk) hS.out) HE1.out.size)).trans ((HE1.out.block k (Nat.lt_of_lt_of_le (hR k hk) hS.out) (fun x => x)).trans (hK.out k hk))), Lib.hid (Nat.le_trans hS.out (Nat.le_trans HE1.out.size HS3.out)), hJ3⟩
              case measure => simp [lenOf]; omega
            · clear hy
              gi_wp2
              refine bodyPost_ret (results_none rfl _ _ _) rfl ?_
              exact ⟨⟨_, rfl⟩, .inr ⟨_, hJx3⟩⟩
          · obtain rfl : b = false := hbc.elim (fun h => absurd h.2 (by omega)) (fun h => h.1)
            have hne : ((mtu : Int) == (q : Int)) = false := beq_eq_false_iff_ne.mpr (by omega)
            clear hbc hmq
            gi_wp2_with fail
            refine ⟨trivial, rfl, (callsIn_wide.2 hcl.out).mono ?_⟩
            rintro e w1 ⟨A1, c1, rfl, ho1, hE1⟩
            have hJ1 := HJ.out _ _ _ hJi (Kb.of0 hE1)
            obtain ⟨fn, tmps, assign, body, hy, hRd1⟩ := HY.out _ _ _ _ (HST.out A1 c1 w1 hE1 ho1) hJ1
            have HRD1 := Lib.hid hRd1
            have HE1 := Lib.hid hE1
            clear hRd1 hE1 ho1 hJ1 hJi HST hcl
            gi_wp2
            refine ⟨rfl, HRD1.out.mono ?_⟩
            rintro e W3 (⟨rfl, hJ3, hs3, hk3⟩ | ⟨rfl, hJx3⟩)
            · have HS3 := Lib.hid hs3
              have HK3 := Lib.hid hk3
              clear hs3 hk3 hy
              gi_wp2
              go_roundw
              case rel => exact ⟨i + mtu, q - mtu, d - mtu, A2, by omega, by omega, rfl, HR2, HRB2, Lib.hid (fun k hk => (HK3.out k hk (Nat.lt_of_lt_of_le (Nat.lt_of_lt_of_le (hR k hk) hS.out) HE1.out.size)).trans ((HE1.out.block k (Nat.lt_of_lt_of_le (hR k hk) hS.out) (fun x => x)).trans (hK.out k hk))), Lib.hid (Nat.le_trans hS.out (Nat.le_trans HE1.out.size HS3.out)), hJ3⟩
              case measure => simp [lenOf]; omega
            · clear hy
              gi_wp2
              refine bodyPost_ret (results_none rfl _ _ _) rfl ?_
              exact ⟨⟨_, rfl⟩, .inr ⟨_, hJx3⟩⟩
        · obtain rfl : q = 0 := by omega
          obtain rfl : i = xs.length := by omega
          gi_wp2
          go_roundw
          case rel => exact ⟨1, by omega, by go_num, hK, hS, hJi⟩
          case measure => simp [intOf]
    · obtain rfl : k = 1 := by omega
      have hJ1 : J xs.length wr := hJs
      clear hJs
      gi_wp2
      go_end0
      exact ⟨⟨_, rfl⟩, .inl ⟨xs.length, rfl, hJ1⟩⟩
end Go.Proofs.Yteklmbbbhelkiaa
