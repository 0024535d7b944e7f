/- Contracts of functions of package score: New, Rests, Tick, and of the comparison of rows, each proved for every value that its statement lets in (the conditions stand in the statements). -/
import Derived.Test.YtkkcdijnhegneaaB3
namespace Go.Proofs.Ytkkcdijnhegneaa
open Go.RowKit
theorem same_calls (A B : Option Addr) (l : List Nat) (m ca cb : Nat) (hm : l.length = m) (w : World) (hA : Reads w A (nats l)) (hB : Reads w B (nats l)) (hl : m ≤ 1000) : Calls Try.prog 15 #[.slice A m ca, .slice B m cb] w fun e w' => e = .returned (.bool true) ∧ Ext N0 w w' := by
  have HA := Lib.hid hA
  have HB := Lib.hid hB
  clear hA hB
  go_enter Try.func15, Try.ntmps15
  go_wp2_with fail
  go_loopw [5] (fun v wr => ∃ i : Nat, v = .int .i64 i ∧ i ≤ m ∧ Hid (Ext N0 w wr)) (fun v _ => m - (intOf v).toNat)
  case atStart => exact ⟨0, rfl, by omega, Lib.hid (Ext.refl _ _)⟩
  case round =>
    obtain ⟨i, rfl, hi, HE⟩ := hrel
    by_cases hlt : i < m
    · have hlt' : (i : Int) < m := by omega
      obtain ⟨ad, hA1, hA2⟩ := (HA.out.mono0 HE.out.drew).2 (by rw [nats_len]; omega)
      obtain ⟨bd, hB1, hB2⟩ := (HB.out.mono0 HE.out.drew).2 (by rw [nats_len]; omega)
      subst hA1 hB1
      have c1 := hA2 i _ (nats_get l i (by omega))
      have c2 := hB2 i _ (nats_get l i (by omega))
      obtain ⟨x, hx⟩ : ∃ x, ((l.getD i 0 : Nat) : Int) = x := ⟨_, rfl⟩
      rw [hx] at c1 c2
      clear hx hA2 hB2
      go_wp2_with fail
      go_region
      all_goals
        go_wp2
        go_roundw
        case rel => exact ⟨i + 1, by go_num, by omega, Lib.hid HE.out.drew⟩
        case measure => simp only [intOf]; omega
    · have hlt' : ¬ (i : Int) < m := by omega
      go_wp2
      go_ret
      exact ⟨rfl, HE.out⟩
def zeroP : Pa := ⟨0, 0, 0, 0⟩
theorem made_eq (n : Nat) : madeCells #[.int .i64 0, .int .i64 0, .int .i64 0, .int .i64 0] (n * 4) = (paCells (List.replicate n zeroP)).toArray := by
  have hall : ∀ v, v ∈ paCells (List.replicate n zeroP) → v = .int .i64 0 := by
    intro v hv
    unfold paCells at hv
    rw [List.mem_flatMap] at hv
    obtain ⟨q, hq, hv⟩ := hv
    have := List.eq_of_mem_replicate hq
    subst this
    simpa [pCells, zeroP] using hv
  apply Array.ext
  · rw [size_madeCells, List.size_toArray, paCells_len, List.length_replicate]
  · intro i h1 h2
    have e : (paCells (List.replicate n zeroP)).toArray[i] = .int .i64 0 := hall _ (by simp)
    rw [e]
    have h4 : i % 4 = 0 ∨ i % 4 = 1 ∨ i % 4 = 2 ∨ i % 4 = 3 := by omega
    rcases h4 with h | h | h | h <;> simp [madeCells, h]
theorem info56 : (Try.prog.info? 56).map (fun i => (i.zero, i.size, i.bytes)) = some (some (.agg #[.int .i64 0, .int .i64 0, .int .i64 0, .int .i64 0]), 4, 32) := by kernel_rfl
theorem make_run (n : Nat) (hn : n ≤ 8) (W : World) : (Instr.makeSlice 48 (.int .i64 n) (.int .i64 n)).run Try.prog W = .ok (.slice (some ⟨W.heap.size, 0, none⟩) n n) (W.alloc (.cells (paCells (List.replicate n zeroP)).toArray 56)) := by
  obtain ⟨i, hi, hz⟩ := Option.map_eq_some_iff.1 info56
  simp only [Prod.mk.injEq] at hz
  obtain ⟨h1, h2, h3⟩ := hz
  have := run_make W 48 56 i _ Try.underlying48 hi h1 .i64 .i64 n n (by omega) (by omega) (by rw [h3]; omega) (by omega)
  rw [this, h2]
  rw [← made_eq n]
  rfl
def new0 (n : Nat) (rest : Int) : Sc := ⟨List.replicate n zeroP, rest⟩
theorem new0_ok (n : Nat) (rest : Int) (hn : 1 ≤ n ∧ n ≤ 8) (hr : 0 ≤ rest ∧ rest ≤ 1048576) : (new0 n rest).Ok 0 :=
  ⟨by simpa [new0] using hn, hr, fun p hp => by
    have := List.eq_of_mem_replicate hp
    subst this
    exact ⟨⟨Int.le_refl _, Int.le_refl _⟩, ⟨Int.le_refl _, Int.le_refl _⟩, ⟨Int.le_refl _, Int.le_refl _⟩, Int.le_refl _, hr.1⟩⟩
set_option maxRecDepth 100000 in
theorem new_good (n : Nat) (rest : Int) (w : World) (hn : 1 ≤ n ∧ n ≤ 8) (hr : 0 ≤ rest ∧ rest ≤ 1048576) : Calls Try.prog 5 #[.int .i64 n, .int .i64 rest] w fun e w' =>
    e = .returned (.tuple #[.pointer (some ⟨w.heap.size + 1, 0, none⟩), .int .i64 0]) ∧ IsSc w.heap.size w' (w.heap.size + 1) (new0 n rest) ∧ Ext N0 w w' := by
  have hmk := make_run n hn.2 w
  have h1 : ¬ (n : Int) < 1 := by omega
  have h2 : ¬ 8 < (n : Int) := by omega
  have h3 : ¬ rest < 0 := by omega
  have h4 : ¬ 1048576 < rest := by omega
  have ho := ownLit w w.heap.size 56 4 (paCells (List.replicate n zeroP)).toArray n (Nat.le_refl _) (by omega) (by simp [paCells_len])
  have HO := Lib.hid ho
  obtain ⟨X, hX⟩ : ∃ X, (paCells (List.replicate n zeroP)).toArray = X := ⟨_, rfl⟩
  rw [hX] at hmk
  have HX := Lib.hid hX
  clear ho hX
  go_enter Try.func5, Try.ntmps5
  go_wp2
  refine bodyPost_ret (v := .tuple #[.pointer (some ⟨w.heap.size + 1, 0, none⟩), .int .i64 0]) (by simp [results, Try.results5, go_sem]) rfl ⟨rfl, ⟨w.heap.size, n, ⟨by omega, Nat.le_refl _, ?_, ?_⟩⟩, ((Ext.refl _ _).alloc _).alloc _⟩
  · simpa [new0] using blkNewG (w.alloc (.cells X 56)) (.cells #[.slice (some ⟨w.heap.size, 0, none⟩) n n, .int .i64 rest] 50) (g := w.heap.size + 1) (by simp)
  · have h5 := HO.out
    rw [HX.out] at h5
    have := ownKept0 h5 ((Ext.refl N0 _).alloc (.cells #[.slice (some ⟨w.heap.size, 0, none⟩) n n, .int .i64 rest] 50))
    rw [← HX.out] at this
    rw [← HX.out]
    simpa [new0] using this
theorem new_bad (n rest : Int) (w : World) (hb : ¬ ((1 ≤ n ∧ n ≤ 8) ∧ 0 ≤ rest ∧ rest ≤ 1048576)) : Calls Try.prog 5 #[.int .i64 n, .int .i64 rest] w fun e w' => e = .returned (.tuple #[.pointer none, .int .i64 70]) ∧ w' = w := by
  have hs : n < 1 ∨ (¬ n < 1 ∧ 8 < n) ∨ (¬ n < 1 ∧ ¬ 8 < n ∧ rest < 0) ∨ (¬ n < 1 ∧ ¬ 8 < n ∧ ¬ rest < 0 ∧ 1048576 < rest) := by omega
  clear hb
  rcases hs with h1 | ⟨h1, h2⟩ | ⟨h1, h2, h3⟩ | ⟨h1, h2, h3, h4⟩
  all_goals
    go_enter Try.func5, Try.ntmps5
    go_wp2
    refine bodyPost_ret (v := .tuple #[.pointer none, .int .i64 70]) (by simp [results, Try.results5, go_sem]) rfl ⟨rfl, rfl⟩
/-- How long a path rests. -/
def Sc.restV (s : Sc) (k : Int) : Int := if s.has k then ((s.ps[k.toNat]?).map Pa.r).getD 0 else 0
theorem rests_calls (base g : Nat) (s : Sc) (k : Int) (w : World) (h : IsSc base w g s) (hl : 1 ≤ s.ps.length ∧ s.ps.length ≤ 8) : Calls Try.prog 20 #[.pointer (some ⟨g, 0, none⟩), .int .i64 k] w fun e w' => e = .returned (.int .i64 (s.restV k)) ∧ w' = w := by
  have HH := has_calls base g s k w h hl.1
  obtain ⟨gp, c, hS⟩ := h
  have c0 := (blkCell hS.blk 0).trans rfl
  simp at c0
  unfold Sc.restV
  by_cases hk : s.has k
  · rw [decide_eq_true hk] at HH
    rw [if_pos hk]
    have HH2 := Lib.hid HH
    obtain ⟨k0, k1⟩ := hk
    obtain ⟨kn, rfl⟩ : ∃ kn : Nat, k = kn := ⟨k.toNat, by omega⟩
    obtain ⟨p, hp⟩ : ∃ p, s.ps[kn]? = some p := ⟨_, List.getElem?_eq_getElem (by omega)⟩
    have c3 := (hS.path hp).2.2.2
    have e : ((s.ps[((kn : Nat) : Int).toNat]?).map Pa.r).getD 0 = p.r := by simp [hp]
    rw [e]
    clear hS HH hp e
    go_enter Try.func20, Try.ntmps20
    go_wp2_with (go_at_call 30; refine HH2.out.mono ?_; rintro e w' ⟨rfl, rfl⟩)
    go_ret
    exact ⟨rfl, rfl⟩
  · rw [decide_eq_false hk] at HH
    rw [if_neg hk]
    have HH2 := Lib.hid HH
    clear hS HH hk
    go_enter Try.func20, Try.ntmps20
    go_wp2_with (go_at_call 30; refine HH2.out.mono ?_; rintro e w' ⟨rfl, rfl⟩)
    go_ret
    exact ⟨rfl, rfl⟩
/-! Time goes on. -/
def Pa.tick (p : Pa) : Pa := if p.r = 0 then p else { p with r := p.r - 1 }
def tickP (ps : List Pa) (i : Nat) : List Pa := (ps.take i).map Pa.tick ++ ps.drop i
theorem tickP_len (ps : List Pa) (i : Nat) : (tickP ps i).length = ps.length := by simp [tickP]; omega
theorem tickP_get {ps : List Pa} {i : Nat} (hi : i < ps.length) : (tickP ps i)[i]? = ps[i]? := by
  unfold tickP
  rw [List.getElem?_append_right (by simp; omega)]
  simp
  congr 1
  omega
theorem tickP_set {ps : List Pa} {i : Nat} {p : Pa} (hp : ps[i]? = some p) : (tickP ps i).set i p.tick = tickP ps (i + 1) := by
  obtain ⟨hi, hp'⟩ := List.getElem?_eq_some_iff.1 hp
  unfold tickP
  rw [List.set_append_right _ _ (by simp; omega), List.take_add_one, hp, List.drop_eq_getElem_cons hi, hp']
  simp [show i - min i ps.length = 0 by omega]
theorem tickP_same {ps : List Pa} {i : Nat} {p : Pa} (hp : ps[i]? = some p) (h0 : p.r = 0) : tickP ps (i + 1) = tickP ps i := by
  rw [← tickP_set hp]
  have e : p.tick = p := if_pos h0
  rw [e]
  have hi := (List.getElem?_eq_some_iff.1 hp).1
  have hg : (tickP ps i)[i]? = some p := (tickP_get hi).trans hp
  obtain ⟨h1, h2⟩ := List.getElem?_eq_some_iff.1 hg
  rw [← h2]
  exact List.set_getElem_self h1
def Sc.tick (s : Sc) : Sc := ⟨s.ps.map Pa.tick, s.rest⟩
def Sc.backP (s : Sc) (i : Nat) : List Nat := (List.range i).filter fun k => decide ((s.ps[k]?.map Pa.r) = some 1)
theorem Sc.backP_step {s : Sc} {i : Nat} {p : Pa} (hp : s.ps[i]? = some p) : s.backP (i + 1) = s.backP i ++ (if p.r = 1 then [i] else []) := by
  unfold Sc.backP
  rw [List.range_succ, List.filter_append]
  congr 1
  by_cases h : p.r = 1 <;> simp [hp, h]
theorem Sc.backP_len (s : Sc) (i : Nat) : (s.backP i).length ≤ i := by
  unfold Sc.backP
  exact Nat.le_trans (List.length_filter_le _ _) (by simp)
theorem Sc.Ok.tick {s : Sc} {u : Int} (h : s.Ok u) : s.tick.Ok u :=
  ⟨by simpa [Sc.tick] using h.len, h.rest, fun q hq => by
    obtain ⟨p, hp, rfl⟩ := List.mem_map.1 hq
    have := h.num p hp
    have h2 := h.rest
    show _ ∧ _ ∧ _ ∧ 0 ≤ (Pa.tick p).r ∧ (Pa.tick p).r ≤ s.rest
    unfold Pa.tick
    split
    · exact this
    · refine ⟨this.1, this.2.1, this.2.2.1, ?_, ?_⟩ <;> simp only [] <;> omega⟩
set_option maxRecDepth 100000 in
set_option maxHeartbeats 1000000 in
theorem tick_calls (base g : Nat) (s : Sc) (u : Int) (w : World) (h : IsSc base w g s) (hok : s.Ok u) (hbase : base ≤ w.heap.size) :
    Calls Try.prog 10 #[.pointer (some ⟨g, 0, none⟩)] w fun e w' => ∃ A c, e = .returned (.slice A (s.backP s.ps.length).length c) ∧ w'.ownsRow w.heap.size 3 1 (.slice A (s.backP s.ps.length).length c) (s.backP s.ps.length).length (nats (s.backP s.ps.length)) ∧ IsSc base w' g s.tick ∧ Ext (Tp base w) w w' := by
  have HN := Lib.hid (none_calls base g s w h hok.len.1)
  obtain ⟨gp, c, hS⟩ := h
  have hlen := hok.len
  have hrest := hok.rest
  have HN2 := Lib.hid hok.num
  have c0 := (blkCell hS.blk 0).trans rfl
  simp at c0
  have HS := Lib.hid hS
  clear hS hok
  go_enter Try.func10, Try.ntmps10
  go_wp2_with (go_at_call 22; refine HN.out.mono ?_; rintro e w' ⟨rfl, rfl⟩)
  go_loopw [3, 13] (fun l v wr => ∃ (i : Nat) (A : Option Addr) (c2 : Nat), v = .int .i64 i ∧ i ≤ s.ps.length ∧ l = .slice A (s.backP i).length c2 ∧ Hid (wr.ownsRow w.heap.size 3 1 (.slice A (s.backP i).length c2) (s.backP i).length (nats (s.backP i))) ∧ Hid (IsSo base wr g ⟨tickP s.ps i, s.rest⟩ gp c) ∧ Hid (Ext (Tp base w) w wr))
    (fun _ v _ => s.ps.length - (intOf v).toNat)
  case atStart => exact ⟨0, none, 0, rfl, by omega, rfl, Lib.hid (ownNil _ _ _ _), Lib.hid (by simpa [tickP] using HS.out), Lib.hid (Ext.refl _ _)⟩
  case round =>
    clear HS HN c0
    obtain ⟨i, A, c2, rfl, hi, rfl, HO, HS, HE⟩ := hrel
    by_cases hlt : i < s.ps.length
    · have hlt' : (i : Int) < s.ps.length := by omega
      obtain ⟨p, hp⟩ : ∃ p, s.ps[i]? = some p := ⟨_, List.getElem?_eq_getElem hlt⟩
      have hp' : (tickP s.ps i)[i]? = some p := (tickP_get hlt).trans hp
      have hr := (HN2.out p (List.mem_of_getElem? hp)).2.2.2
      have hc := (blkCell HS.out.blk 0).trans rfl
      simp [tickP_len] at hc
      have c3 := (HS.out.path hp').2.2.2
      have f3 := HS.out.frozen (i * 4 + 3)
      have hbl := s.backP_len i
      have hst := Sc.backP_step hp
      have hsz := HE.out.size
      obtain ⟨k, hk⟩ : ∃ k, (s.backP i).length = k := ⟨_, rfl⟩
      rw [hk] at HO hbl
      simp only [hk]
      by_cases h0 : p.r = 0
      · have e1 : s.backP (i + 1) = s.backP i := by rw [hst, if_neg (by omega)]; simp
        have e2 := tickP_same hp h0
        have E1 := Lib.hid e1
        have E2 := Lib.hid e2
        have HK := Lib.hid hk
        clear e1 e2 hst hp hp' hk
        go_wp2
        go_roundw
        case rel => exact ⟨i + 1, A, c2, by go_num, by omega, by rw [E1.out, HK.out], Lib.hid (by rw [E1.out, HK.out]; exact HO.out), Lib.hid (by rw [E2.out]; exact HS.out), HE⟩
        case measure => simp only [intOf]; omega
      · have hset := HS.out.set hp' 3 (by decide) (.int .i64 (p.r - 1)) p.tick (by unfold Pa.tick; rw [if_neg h0]; rfl)
        have e2 := tickP_set hp
        have hS2 : IsSo base (wr.setCell ⟨gp, i * 4 + 3, none⟩ (.int .i64 (p.r - 1))) g ⟨tickP s.ps (i + 1), s.rest⟩ gp c := by rw [← e2]; exact hset.1
        have hE2 : Ext (Tp base w) w (wr.setCell ⟨gp, i * 4 + 3, none⟩ (.int .i64 (p.r - 1))) := tpTrans HE.out (hset.2.tp (by rintro i _ rfl; exact HS.out.tp))
        have hO2 : (wr.setCell ⟨gp, i * 4 + 3, none⟩ (.int .i64 (p.r - 1))).ownsRow w.heap.size 3 1 (.slice A k c2) k (nats (s.backP i)) := ownKept HO.out hset.2 (fun x hx hs => by
          obtain ⟨cs, fr, hq⟩ := HS.out.pblk
          exact ownNeBlk HO.out hq (by decide) x hx hs)
        have HS2 := Lib.hid hS2
        have HE2 := Lib.hid hE2
        have HO2 := Lib.hid hO2
        have HK := Lib.hid hk
        have hsz2 := hE2.size
        by_cases h1 : p.r = 1
        · have e1 : s.backP (i + 1) = s.backP i ++ [i] := by rw [hst, if_pos h1]
          have E1 := Lib.hid e1
          clear e1 e2 hst hp hp' hk hset hS2 hE2 hO2 HS HE HO h0
          have hr0 : p.r - 1 = 0 := by omega
          rw [hr0] at HS2 HE2 HO2
          go_wp2_with (at_builtin; refine wpApp w.heap.size (.tmp 39) (.tmp 41) 32 3 (.int .i64 0) 1 8 rfl rfl Try.underlying32 info3 rfl (by decide) (by decide) (.slice A k c2) k (nats (s.backP i)) _ 1 _ [.int .i64 (i : Int)] rfl rfl (ownKept0 HO2.out ((Ext.refl _ _).alloc _)) rfl (litReadsG (wr.setCell ⟨gp, i * 4 + 3, none⟩ (.int .i64 0)) [.int .i64 (i : Int)] 3 (g := wr.heap.size) (by simp) (by simp)) (by simp [Value.oneCell']) (by omega) (by simp; omega) ?_; intro A5 c5 w5 ho5 hE5 _; have HO5 := Lib.hid ho5; have HE5 := Lib.hid hE5; clear ho5 hE5)
          have hal : Ext N0 (wr.setCell ⟨gp, i * 4 + 3, none⟩ (.int .i64 0)) ((wr.setCell ⟨gp, i * 4 + 3, none⟩ (.int .i64 0)).alloc (.cells [Value.int .i64 (i : Int)].toArray 3)) := (Ext.refl _ _).alloc _
          have hS6 : IsSo base w5 g ⟨tickP s.ps (i + 1), s.rest⟩ gp c := by
            have h6 := HS2.out.kept0 hal
            obtain ⟨cs, fr, hq⟩ := h6.pblk
            exact h6.kept HE5.out (fun hs => ownNeBlk (ownKept0 HO2.out hal) h6.blk (by decide) _ hs rfl) (fun hs => ownNeBlk (ownKept0 HO2.out hal) hq (by decide) _ hs rfl)
          have hE6 : Ext (Tp base w) w w5 := (HE2.out.then0 hal).trans HE5.out (fun x hx => .inr (ownBase HO2.out x hx).1)
          have hlk : (s.backP (i + 1)).length = k + 1 := by rw [E1.out, List.length_append, HK.out]; rfl
          have hnl : nats (s.backP i) ++ [.int .i64 (i : Int)] = nats (s.backP (i + 1)) := by rw [E1.out]; simp [nats]
          have HLK := Lib.hid hlk
          have HNL := Lib.hid hnl
          have HS6 := Lib.hid hS6
          have HE6 := Lib.hid hE6
          clear hal hS6 hE6 hlk hnl
          go_wp2
          go_roundw
          case rel => exact ⟨i + 1, A5, c5, by go_num, by omega, by rw [HLK.out], Lib.hid (by rw [HLK.out, ← HNL.out]; exact HO5.out), HS6, HE6⟩
          case measure => simp only [intOf]; omega
        · have e1 : s.backP (i + 1) = s.backP i := by rw [hst, if_neg h1]; simp
          have E1 := Lib.hid e1
          clear e1 e2 hst hp hp' hk hset hS2 hE2 hO2 HS HE HO
          have hr0 : ¬ p.r - 1 = 0 := by omega
          go_wp2
          go_roundw
          case rel => exact ⟨i + 1, A, c2, by go_num, by omega, by rw [E1.out, HK.out], Lib.hid (by rw [E1.out, HK.out]; exact HO2.out), HS2, HE2⟩
          case measure => simp only [intOf]; omega
    · have hlt' : ¬ (i : Int) < s.ps.length := by omega
      obtain rfl : i = s.ps.length := by omega
      go_wp2
      go_ret
      refine ⟨A, c2, rfl, HO.out, ⟨gp, c, ?_⟩, HE.out⟩
      have := HS.out
      simpa [tickP, Sc.tick] using this
end Go.Proofs.Ytkkcdijnhegneaa
