/- 'Ring' of package scene, proved for every value that its statement lets in (the conditions stand in the statements). -/
import Derived.Test.YtfaljgaeeholoaaPl
namespace Go.Proofs.Ytfaljgaeeholoaa
open Go.RowKit
theorem range_one (c : Nat) : ∀ n, c < n → (List.range n).filter (fun b => decide (c = b)) = [c] := by
  intro n
  induction n with
  | zero => intro h; omega
  | succ n ih =>
    intro h
    rw [List.range_succ, List.filter_append]
    by_cases e : c = n
    · subst e
      have : (List.range c).filter (fun b => decide (c = b)) = [] := by
        rw [List.filter_eq_nil_iff]
        intro x hx
        have := List.mem_range.1 hx
        simp
        omega
      rw [this]
      simp
    · rw [ih (by omega)]
      simp [e]
theorem meant_ring (n : Nat) (r : Nat → Nat) (hr : ∀ x, x < n → r x < n ∧ r x ≠ x) : (pairsL n).filter (fun p => decide (r p.1 = p.2)) = (List.range n).map fun a => (a, r a) := by
  unfold pairsL
  rw [List.filter_flatMap]
  have h1 : ∀ a, a ∈ List.range n → (((List.range n).filter fun b => decide (a ≠ b)).map fun b => (a, b)).filter (fun p : Nat × Nat => decide (r p.1 = p.2)) = [(a, r a)] := by
    intro a ha
    have ha := List.mem_range.1 ha
    rw [List.filter_map]
    have h2 : ((List.range n).filter fun b => decide (a ≠ b)).filter ((fun p : Nat × Nat => decide (r p.1 = p.2)) ∘ fun b => (a, b)) = [r a] := by
      rw [List.filter_filter, ← range_one (r a) n (hr a ha).1]
      refine List.filter_congr (fun b _ => ?_)
      have := (hr a ha).2
      by_cases e : r a = b
      · subst e
        simp
        exact fun h => this h.symm
      · simp [e]
    rw [h2]
    rfl
  have h3 : ∀ l : List Nat, (∀ a, a ∈ l → a ∈ List.range n) → l.flatMap (fun a => (((List.range n).filter fun b => decide (a ≠ b)).map fun b => (a, b)).filter (fun p : Nat × Nat => decide (r p.1 = p.2))) = l.map fun a => (a, r a) := by
    intro l
    induction l with
    | nil => intro _; rfl
    | cons a l ih =>
      intro h
      rw [List.flatMap_cons, List.map_cons, h1 a (h a (by simp)), ih (fun b hb => h b (by simp [hb]))]
      rfl
  exact h3 _ (fun _ h => h)
/-! A row of small numbers. -/
def nats (l : List Nat) : List Value := l.map fun (x : Nat) => Value.int .i64 (x : Int)
theorem nats_len (l : List Nat) : (nats l).length = l.length := by simp [nats]
theorem nats_get (l : List Nat) (j : Nat) (h : j < l.length) : (nats l)[j]? = some (.int .i64 ((l.getD j 0 : Nat) : Int)) := by simp [nats, h]
theorem nats_set (l : List Nat) (i x : Nat) : (nats l).set i (.int .i64 (x : Int)) = nats (l.set i x) := by simp [nats, List.map_set]
theorem info3 : (Try.prog.info? 3).map (fun i => (i.zero, i.size, i.bytes)) = some (some (.int .i64 0), 1, 8) := by kernel_rfl
def ringL (seed : Int) (n : Nat) : List (Nat × Nat) := (List.range n).map fun a => (a, (ringN seed n (n - 1)).getD a 0)
theorem ringL_len (seed : Int) (n : Nat) : (ringL seed n).length = n := by simp [ringL]
set_option maxRecDepth 100000 in
set_option maxHeartbeats 2000000 in
theorem ring_good (seed : Int) (n : Nat) (bytes : Int) (w : World) (hR : RightP n bytes) :
    Calls Try.prog 5 #[.int .u64 seed, .int .i64 n, .int .i64 bytes] w fun e w' => ∃ A cap, e = .returned (.tuple #[.slice A n cap, .int .i64 0]) ∧ w'.ownsRow w.heap.size 28 5 (.slice A n cap) n (flowsV bytes (ringL seed n)) ∧ Ext N0 w w' := by
  have hn : 2 ≤ n ∧ n ≤ 8 := by unfold RightP at hR; omega
  have HR0 := right_calls n bytes w
  rw [decide_eq_true hR] at HR0
  have HR1 := Lib.hid HR0
  have HRi := Lib.hid hR
  clear HR0 hR
  go_enter Try.func5, Try.ntmps5
  go_wp2_with (go_at_call 15; refine HR1.out.mono ?_; rintro e w' ⟨rfl, rfl⟩)
  clear HR1
  go_loopw [18] (fun v wr => ∃ (i : Nat) (A : Option Addr) (c : Nat), v = .int .i64 i ∧ i ≤ n ∧ Hid (wr.heap[w'.heap.size]? = some (.cells #[.slice A i c] 43 (0, 0))) ∧ Hid (wr.ownsRow w'.heap.size 3 1 (.slice A i c) i (nats (List.range i))) ∧ Hid (Ext N0 w' wr))
    (fun v _ => n - (intOf v).toNat)
  case atStart => exact ⟨0, none, 0, rfl, by omega, Lib.hid (blkNew _ _), Lib.hid (ownNil _ _ _ _), Lib.hid ((Ext.refl _ _).alloc _)⟩
  case round =>
    obtain ⟨i, A, c, rfl, hi, HB, HO, HE⟩ := hrel
    have c0 := (blkCell HB.out 0).trans rfl
    simp at c0
    by_cases hlt : i < n
    · have hlt' : (i : Int) < n := by omega
      have hsz := HE.out.size
      go_wp2_with (at_builtin; refine wpApp w'.heap.size (.tmp 21) (.tmp 23) 43 3 (.int .i64 0) 1 8 rfl rfl Try.underlying43 info3 rfl (by decide) (by decide) (.slice A i c) i (nats (List.range i)) _ 1 _ [.int .i64 (i : Int)] rfl rfl (ownKept0 HO.out ((Ext.refl _ _).alloc _)) rfl (litReads _ _ _ (by simp)) (by simp [Value.oneCell']) (by omega) (by simp; omega) ?_; intro A2 c2 w2 ho2 hE2 _; have b2 := hE2.blk (blkAlloc HB.out (.cells [Value.int .i64 (i : Int)].toArray 3)) (fun hs => ownNeBlk (ownKept0 HO.out ((Ext.refl _ _).alloc (.cells [Value.int .i64 (i : Int)].toArray 3))) (blkAlloc HB.out _) (by decide) _ hs rfl); have f2 := blkFrozen b2 0; have e2 := (blkCell b2 0).trans rfl; simp at e2; have HE2 := Lib.hid hE2; have HO2 := Lib.hid ho2; have HB2 := Lib.hid b2; clear hE2 ho2 b2)
      have hX : Ext N0 w' w2 := (HE.out.alloc _).trans HE2.out (fun k hk => .inr (ownBase HO.out k hk).1)
      have hY : Ext N0 w' (w2.setCell ⟨w'.heap.size, 0, none⟩ (.slice A2 (i + 1) c2)) := hX.setCell (p := ⟨w'.heap.size, 0, none⟩) (.inr (Nat.le_refl w'.heap.size)) _
      have hZ : Ext (At w'.heap.size) w2 (w2.setCell ⟨w'.heap.size, 0, none⟩ (.slice A2 (i + 1) c2)) := (Ext.refl (At w'.heap.size) w2).setCell (p := ⟨w'.heap.size, 0, none⟩) (.inl (show w'.heap.size = w'.heap.size from rfl)) _
      have ho3 := ownKept HO2.out hZ (fun k hk h => ownNeBlk HO2.out HB2.out (by decide) k hk h)
      have hl : nats (List.range i) ++ [.int .i64 (i : Int)] = nats (List.range (i + 1)) := by rw [List.range_succ]; simp [nats]
      rw [hl] at ho3
      go_roundw
      case rel => exact ⟨i + 1, A2, c2, by go_num, by omega, Lib.hid (blkSet HB2.out 0 _), Lib.hid ho3, Lib.hid hY⟩
      case measure => simp only [intOf]; omega
    · have hlt' : ¬ (i : Int) < n := by omega
      obtain rfl : i = n := by omega
      clear hlt hlt' hi
      go_wp2_with (go_at_call 16; refine (dnew_calls seed _).mono ?_; rintro e w2 ⟨rfl, hS, hE2⟩; have HS := Lib.hid hS; have HB2 := Lib.hid (hE2.blk0 HB.out); have HO2 := Lib.hid (ownKept0 HO.out hE2); have HE2 := Lib.hid (HE.out.then0 hE2); have hgs := HE.out.size; clear hS hE2 HB HO HE c0)
      obtain ⟨gs, hgs'⟩ : ∃ gs, wr.heap.size = gs := ⟨_, rfl⟩
      rw [hgs'] at HS hgs
      simp only [hgs']
      clear hgs'
      go_loopw [11] (fun v wr => ∃ (j k : Nat) (A : Option Addr) (c : Nat), v = .int .i64 k ∧ k + j + 1 = i ∧ Hid (IsS wr gs seed j) ∧ Hid (wr.heap[w'.heap.size]? = some (.cells #[.slice A i c] 43 (0, 0))) ∧ Hid (wr.ownsRow w'.heap.size 3 1 (.slice A i c) i (nats (ringN seed i j))) ∧ Hid (Ext N0 w' wr))
        (fun v _ => (intOf v).toNat)
      case atStart => exact ⟨0, i - 1, A, c, by go_num, by omega, HS, HB2, HO2, HE2⟩
      case round =>
        clear HS HB2 HO2 HE2
        obtain ⟨j, k, A, c, rfl, hjk, HS, HB, HO, HE⟩ := hrel
        have c0 := (blkCell HB.out 0).trans rfl
        simp at c0
        by_cases hk1 : 1 ≤ k
        · have hk1' : 1 ≤ (k : Int) := by omega
          have hq := belowV_in seed j (k := (k : Int)) hk1'
          have HC := Lib.hid (below_calls gs seed j k wr HS.out (by omega) (by omega))
          obtain ⟨q, hqe⟩ : ∃ q : Nat, belowV seed j (k : Int) = q := ⟨_, (Int.toNat_of_nonneg hq.1).symm⟩
          rw [hqe] at hq HC
          have hs : ringN seed i (j + 1) = swapN (ringN seed i j) k q := by
            rw [ringN, show i - 1 - j = k by omega, hqe]
            simp
          have hql : q < k := by omega
          obtain ⟨gg, cap, hvv, hgb, hgl⟩ := HO.out.form (by omega)
          injection hvv with hv1 hv2 hv3
          subst hv1 hv3
          clear hv2
          have hlen := ringN_len seed i j
          have hHS := Lib.hid hs
          obtain ⟨l, hl⟩ : ∃ l, ringN seed i j = l := ⟨_, rfl⟩
          rw [hl] at HO hHS hlen
          have HL := Lib.hid hl
          clear hqe hs hl hq
          go_wp2_with (go_at_call 17; refine HC.out.mono ?_; rintro e w3 ⟨rfl, hS3, hE3⟩; have HS3 := Lib.hid hS3; have HB3 := Lib.hid (hE3.blk HB.out (show ¬ w'.heap.size = gs by rintro rfl; have := HS.out.blk; rw [HB.out] at this; cases this)); have HO3 := Lib.hid (ownKept HO.out hE3 (fun x hx h => ownNeBlk HO.out HS.out.blk (by decide) x hx h)); have HE3 := Lib.hid (HE.out.trans hE3 (fun x hx => .inr (by have hx : x = gs := hx; omega))); clear hS3 hE3 HS HB HO HE c0 HC)
          have d0 := (blkCell HB3.out 0).trans rfl
          have d1 := HO3.out.cellAt q (by omega)
          have d2 := HO3.out.cellAt k (by omega)
          rw [nats_get _ _ (by omega)] at d1 d2
          have d3 := HO3.out.frozenAt q
          have d4 := HO3.out.frozenAt k
          simp at d0
          have hki : (k : Int) < i := by omega
          have hqi : (q : Int) < i := by omega
          have hk0 : (0 : Int) ≤ k := by omega
          have hq0 : (0 : Int) ≤ q := by omega
          have hne1 : gg ≠ gs := ownNeBlk HO3.out HS3.out.blk (by decide) gg rfl
          have hne2 : gg ≠ w'.heap.size := ownNeBlk HO3.out HB3.out (by decide) gg rfl
          have hX : Ext N0 w' (((w3.setCell ⟨gg, k, none⟩ (.int .i64 ((l.getD q 0 : Nat) : Int))).setCell ⟨gg, q, none⟩ (.int .i64 ((l.getD k 0 : Nat) : Int))).drew) := ((HE3.out.setCell (p := ⟨gg, k, none⟩) (.inr hgb) _).setCell (p := ⟨gg, q, none⟩) (.inr hgb) _).drew
          have ho5 := ((HO3.out.stored k (.int .i64 ((l.getD q 0 : Nat) : Int))).1.stored q (.int .i64 ((l.getD k 0 : Nat) : Int))).1
          rw [nats_set, nats_set] at ho5
          have hb5 := blkFar (blkFar HB3.out (p := ⟨gg, k, none⟩) (fun h => hne2 h.symm) (.int .i64 ((l.getD q 0 : Nat) : Int))) (p := ⟨gg, q, none⟩) (fun h => hne2 h.symm) (.int .i64 ((l.getD k 0 : Nat) : Int))
          have hs5 := blkFar (blkFar HS3.out.blk (p := ⟨gg, k, none⟩) (fun h => hne1 h.symm) (.int .i64 ((l.getD q 0 : Nat) : Int))) (p := ⟨gg, q, none⟩) (fun h => hne1 h.symm) (.int .i64 ((l.getD k 0 : Nat) : Int))
          have HX := Lib.hid hX
          have HO5 := Lib.hid ho5
          have HB5 := Lib.hid hb5
          have HS5 := Lib.hid hs5
          clear hX ho5 hb5 hs5 hne1 hne2
          go_region
          all_goals
            go_wp2
            go_roundw
            case rel => exact ⟨j + 1, k - 1, some ⟨gg, 0, none⟩, c, by go_num, by omega, Lib.hid ⟨HS5.out⟩, HB5, Lib.hid (by rw [hHS.out]; exact HO5.out), HX⟩
            case measure => simp only [intOf]; omega
        · have hk1' : ¬ 1 ≤ (k : Int) := by omega
          obtain rfl : k = 0 := by omega
          obtain rfl : j = i - 1 := by omega
          have hall := (ring_all seed i hn.1).1
          have hlen := ringN_len seed i (i - 1)
          have hmt := meant_ring i (fun a => (ringN seed i (i - 1)).getD a 0) hall
          obtain ⟨gg, cap, hvv, hgb, hgl⟩ := HO.out.form (by omega)
          injection hvv with hv1 hv2 hv3
          subst hv1 hv3
          clear hv2
          have hsome := some_callsR i bytes (fun a b => decide ((ringN seed i (i - 1)).getD a 0 = b)) w'.heap.size wr HRi.out (fun W hW a b ha hb => by
            have hc := (ownKept0 HO.out hW).cellAt a (by omega)
            rw [nats_get _ _ (by omega)] at hc
            have := ring_calls w'.heap.size i c ⟨gg, 0, none⟩ a b ((ringN seed i (i - 1)).getD a 0 : Nat) W ((blkCell (hW.blk0 HB.out) 0).trans rfl) ha (by rw [addPlain]; exact hc)
            have e : decide ((((ringN seed i (i - 1)).getD a 0 : Nat) : Int) = (b : Int)) = decide ((ringN seed i (i - 1)).getD a 0 = b) := by
              by_cases h : (ringN seed i (i - 1)).getD a 0 = b
              · rw [decide_eq_true h, decide_eq_true (by rw [h])]
              · rw [decide_eq_false h, decide_eq_false (fun x => h (by omega))]
            rw [e] at this
            exact this)
          rw [meantL_all, hmt, List.length_map, List.length_range] at hsome
          have HSo := Lib.hid hsome
          have hsz := HE.out.size
          clear hsome hmt hall hlen
          go_wp2_with (go_at_call 18; refine HSo.out.mono ?_; rintro e w4 ⟨A4, c4, rfl, ho4, hE4⟩; have HO4 := Lib.hid ho4; have HE4 := Lib.hid (HE.out.then0 hE4); clear ho4 hE4)
          refine bodyPost_ret (v := .tuple #[.slice A4 i c4, .int .i64 0]) (by simp [results, Try.results5, go_sem]) rfl ⟨A4, c4, rfl, ownLe HO4.out hsz, HE4.out⟩
set_option maxRecDepth 100000 in
theorem ring_bad (seed : Int) (n bytes : Int) (w : World) (hR : ¬ RightP n bytes) : Calls Try.prog 5 #[.int .u64 seed, .int .i64 n, .int .i64 bytes] w (Bad w) := by
  have HR0 := right_calls n bytes w
  rw [decide_eq_false hR] at HR0
  have HR1 := Lib.hid HR0
  clear HR0 hR
  go_enter Try.func5, Try.ntmps5
  go_wp2_with (go_at_call 15; refine HR1.out.mono ?_; rintro e w' ⟨rfl, rfl⟩)
  refine bodyPost_ret (v := .tuple #[.slice none 0 0, .int .i64 330]) (by simp [results, Try.results5, go_sem]) rfl ⟨rfl, Ext.refl _ _⟩
end Go.Proofs.Ytfaljgaeeholoaa
