/- Gauges at keys of one type: a new one, a note, each proved for every value that its statement lets in (the conditions stand in the statements). -/
import Derived.Test.YtcngefpdfkkgdaaGS1
import Derived.Laws.OwnMore
namespace Go.Proofs.Ytcngefpdfkkgdaa
open Go.RowKit Go.Maps
theorem new_badS (A : Option Addr) (c : Nat) (bs : List Int) (w : World) (h : Reads w A (iv bs)) (hm : mayB bs = false) :
    Calls Try.prog 6 #[.slice A bs.length c] w fun e w' => e = .returned (.tuple #[.pointer none, .int .i64 310]) ∧ w' = w := by
  have HM := Lib.hid (may_calls A c bs w h)
  rw [hm] at HM
  clear h hm
  go_enter Try.func6, Try.ntmps6
  go_wp2_with (go_at_call 30; refine HM.out.mono ?_; rintro e w' ⟨rfl, hw⟩; subst hw)
  exact bodyPost_ret (v := .tuple #[.pointer none, .int .i64 310]) (by simp [results, Try.results6, go_sem]) rfl ⟨rfl, rfl⟩
theorem new_goodS (A : Option Addr) (c : Nat) (bs : List Int) (w : World) (h : Reads w A (iv bs)) (hm : mayB bs = true) :
    Calls Try.prog 6 #[.slice A bs.length c] w fun e w' => ∃ g, e = .returned (.tuple #[.pointer (some ⟨g, 0, none⟩), .int .i64 0]) ∧ w.heap.size ≤ g ∧ IsGS w.heap.size w' g ⟨bs, [], fun _ => []⟩ 0 (fun x => w.heap.size ≤ x) ∧ Ext N0 w w' := by
  have HM := Lib.hid (may_calls A c bs w h)
  rw [hm] at HM
  have hbl : 1 ≤ bs.length ∧ bs.length ≤ 64 := by
    unfold mayB at hm
    rw [Bool.and_eq_true] at hm
    exact of_decide_eq_true hm.2
  have HC := Lib.hid (clone_calls A bs.length c (iv bs) w h (iv_len bs) (by omega) (iv_one bs))
  clear h hm
  have hmm := @run_makeMap Try.prog
  go_enter Try.func6, Try.ntmps6
  go_wp2_with (first
    | (go_at_call 30; refine HM.out.mono ?_; rintro e w' ⟨rfl, hw⟩; subst w')
    | (go_at_call 31; refine HC.out.mono ?_; rintro e w2 ⟨A2, c2, rfl, ho2, hE2⟩; obtain ⟨gb, cp, hv, _, _⟩ := World.ownsRow.form ho2 (by omega); injection hv with hv1 hv2 hv3; subst hv1; have HO := Lib.hid ho2; have HE := Lib.hid hE2; clear ho2 hE2 hv2 hv3))
  obtain ⟨W, hW⟩ : ∃ W, (w2.alloc (.map #[] 0)).alloc (.cells #[.slice (some ⟨gb, 0, none⟩) bs.length c2, .map (some w2.heap.size), .slice none 0 0] 53) = W := ⟨_, rfl⟩
  have hE3 : Ext N0 w2 W := by rw [← hW]; exact ((Ext.refl _ _).alloc _).alloc _
  have hE4 : Ext N0 (w2.alloc (.map #[] 0)) W := by rw [← hW]; exact (Ext.refl _ _).alloc _
  have hb : W.heap[w2.heap.size + 1]? = some (.cells #[.slice (some ⟨gb, 0, none⟩) bs.length c2, .map (some w2.heap.size), .slice none 0 0] 53 (0, 0)) := by rw [← hW]; exact blkNewG _ _ (by simp)
  have hmp : IsMp Try.prog 9 poR poD W w2.heap.size 0 (fun _ => none) := (mpMade w2).kept hE4 (fun e => e)
  have hs := HE.out.size
  have hgb := (ownBase HO.out gb rfl)
  have hG : IsGS w.heap.size W (w2.heap.size + 1) ⟨bs, [], fun _ => []⟩ 0 (fun x => w.heap.size ≤ x) := by
    refine ⟨w2.heap.size, gb, c2, none, 0, fun _ => 0, fun _ => 0, fun _ => 0, fun _ => none, ⟨by omega, hs, hb, hmp, ownKept0 HO.out hE3, ownNil _ _ _ _, fun k hk => (by cases hk), fun k hk => (by cases hk), fun k hk => (by cases hk), fun k => (by simp), fun k hk => (by cases hk), fun k hk => (by cases hk), fun x hx => (by simp [Value.ownBlock] at hx)⟩, ?_⟩
    rintro x (e | e | e | e | ⟨k, hk, _⟩)
    · omega
    · omega
    · omega
    · simp [Value.ownBlock] at e
    · cases hk
  simp only [hW]
  exact bodyPost_ret (v := .tuple #[.pointer (some ⟨w2.heap.size + 1, 0, none⟩), .int .i64 0]) (by simp [results, Try.results6, go_sem]) rfl ⟨_, rfl, by omega, hG, HE.out.then0 hE3⟩
theorem note_bdsS {G : Ga ByteArray} {N : Nat} (hok : G.Ok N) (hN : N ≤ 100000) (k : ByteArray) (x : Int) : (0 ≤ mostL (G.f k) ∧ mostL (G.f k) ≤ 1099511627776) ∧ (0 ≤ (G.f k).sum ∧ (G.f k).sum ≤ 200000000000000000) ∧ (0 ≤ ((G.f k).length : Int) ∧ ((G.f k).length : Int) ≤ 100000) ∧ (0 ≤ (((G.f k).filter fun y => bkt G.bs y == bkt G.bs x).length : Int) ∧ (((G.f k).filter fun y => bkt G.bs y == bkt G.bs x).length : Int) ≤ 100000) := by
  have hl := hok.lens k
  have hM := mostL_bd (G.f k) 1099511627776 (by omega) (fun y hy => (hok.vals k y hy).2)
  have hS := sum_bd 1099511627776 (by omega) (G.f k) (hok.vals k)
  have hc := List.length_filter_le (fun y => bkt G.bs y == bkt G.bs x) (G.f k)
  exact ⟨hM, ⟨hS.1, by omega⟩, by omega, by omega⟩
set_option maxRecDepth 100000 in
set_option maxHeartbeats 1000000 in
theorem note_inS (base g u N : Nat) (G : Ga ByteArray) (k : ByteArray) (x : Int) (F : Nat → Prop) (w : World) (h : IsGS base w g G u F) (hok : G.Ok N) (hN : N ≤ 100000) (hkey : keyOf Try.prog 9 (.string k) = some (.string k.data.toList)) (hk : k ∈ G.ks) (hx : 0 ≤ x ∧ x ≤ 1099511627776) :
    Calls Try.prog 10 #[.pointer (some ⟨g, 0, none⟩), .string k, .int .i64 x] w fun e w' => e = .returned (.int .i64 0) ∧ IsGS base w' g (G.add k x) u F ∧ Ext F w w' := by
  obtain ⟨mb, gb, cb, Ak, ck, bl, gc, cc, φ, ho, hF⟩ := h
  have hp := bkt_le x G.bs
  have hbl := hok.bl
  have c0 : w.cell? ⟨g, 0, none⟩ = some (.slice (some ⟨gb, 0, none⟩) G.bs.length cb) := (blkCell ho.blk 0).trans rfl
  have c1 : w.cell? ⟨g, 1, none⟩ = some (.map (some mb)) := (blkCell ho.blk 1).trans rfl
  have hlk := ho.mp.look (a0 := none) poT lawS Try.underlying51 (zeroS w) hkey
  have hfi := ho.fi k
  rw [if_pos hk] at hfi
  have hlk' : (Instr.lookup 51 (.map (some mb)) (.string k) true).run Try.prog w = .ok (.tuple #[.pointer (some ⟨bl k, 0, none⟩), .bool true]) w := by
    rw [show φ (.string k.data.toList) = _ from hfi] at hlk
    exact hlk
  have b3 := (ho.told hk x).1.2.2.2
  have HBS := Lib.hid (bs_calls (some ⟨gb, 0, none⟩) cb G.bs x (bkt G.bs x) w (ownReads1 ho.bo) hbl.2 hp (bkt_lo x G.bs) (bkt_hi x G.bs (mayF_srt _ _ hok.may)))
  have hT : ∀ w5, w5 = w → _ := fun w5 (hw : w5 = w) => by rw [← hw] at ho; exact ho.told hk x
  have hU : ∀ w5, w5 = w → _ := fun w5 (hw : w5 = w) => by rw [← hw] at ho; exact ho.bump tysS hk x
  obtain ⟨hM, hS, hL, hC⟩ := note_bdsS hok hN k x
  obtain ⟨M, hMe⟩ : ∃ M, mostL (G.f k) = M := ⟨_, rfl⟩
  obtain ⟨S, hSe⟩ : ∃ S, (G.f k).sum = S := ⟨_, rfl⟩
  obtain ⟨L, hLe⟩ : ∃ L : Int, ((G.f k).length : Int) = L := ⟨_, rfl⟩
  obtain ⟨cp, hCe⟩ : ∃ cp : Int, (((G.f k).filter fun y => bkt G.bs y == bkt G.bs x).length : Int) = cp := ⟨_, rfl⟩
  obtain ⟨p, hpe⟩ : ∃ p, bkt G.bs x = p := ⟨_, rfl⟩
  obtain ⟨n, hne⟩ : ∃ n, G.bs.length = n := ⟨_, rfl⟩
  obtain ⟨bk, hbk⟩ : ∃ bk, bl k = bk := ⟨_, rfl⟩
  obtain ⟨gk, hgk⟩ : ∃ gk, gc k = gk := ⟨_, rfl⟩
  obtain ⟨mx, hmx⟩ : ∃ mx, max M x = mx := ⟨_, rfl⟩
  rw [hMe] at hM
  rw [hSe] at hS
  rw [hLe] at hL b3
  rw [hCe] at hC
  rw [hpe, hne] at hp
  rw [hne] at hbl c0
  simp only [hMe, hSe, hLe, hCe, hbk, hgk, hmx] at hT hU
  simp only [hpe, hne] at hT
  simp only [hpe] at hU HBS
  rw [hne] at HBS
  rw [hbk] at hlk' b3
  have hpI : (p : Int) < ((n + 1 : Nat) : Int) := by omega
  have hx1 : ¬ x < 0 := by omega
  have hx2 : ¬ 1099511627776 < x := by omega
  have hL2 : ¬ 1048576 ≤ L := by omega
  have HT := Lib.hid hT
  have HU := Lib.hid hU
  have HF := Lib.hid hF
  clear ho hlk hfi hT hU hF hMe hSe hLe hCe hpe hne hbk hgk hok hkey hk hN
  have hcs : (M < x ∧ mx = x) ∨ (x = M ∧ mx = M) ∨ (x < M ∧ mx = M) := by omega
  rcases hcs with ⟨hm1, rfl⟩ | ⟨rfl, rfl⟩ | ⟨hm1, rfl⟩
  all_goals
    clear hmx
    go_enter Try.func10, Try.ntmps10
    go_wp2_with (first
      | (go_at_call 38; refine (none_callsS g mb _ c1).mono ?_; rintro e w' ⟨rfl, rfl⟩)
      | (go_at_call 39; refine HBS.out.mono ?_; rintro e w5 ⟨bb, rfl, hw5⟩; obtain ⟨⟨n0, n1, n2, n3⟩, ⟨f1, f2, f3⟩, r0, rf, hne⟩ := HT.out w5 hw5; have hne2 := Ne.symm hne; have HB5 := Lib.hid (HU.out w5 hw5); have HW5 := Lib.hid hw5; clear hw5))
    go_ret
    exact ⟨rfl, ⟨mb, gb, cb, Ak, ck, bl, gc, cc, φ, HB5.out.1, HF.out⟩, (by have hw := HW5.out; subst hw; exact HB5.out.2.mono (fun y _ hy => HF.out y hy))⟩
theorem made_ivS (m : Nat) : (madeCells (Value.int .i64 0).cells (m * 1)).toList = iv (List.replicate m 0) := by
  have hc : (Value.int .i64 0).cells = #[.int .i64 0] := rfl
  unfold madeCells iv
  rw [hc, Nat.mul_one, Array.toList_map]
  have : ∀ x : Nat, (#[Value.int .i64 0][x % #[Value.int .i64 0].size]! : Value) = .int .i64 0 := fun x => by
    have e : x % #[Value.int .i64 0].size = 0 := Nat.mod_one x
    rw [e]
    rfl
  simp only [this]
  rw [List.map_const', List.map_replicate]
  simp
set_option maxRecDepth 100000 in
set_option maxHeartbeats 1000000 in
theorem note_newS (base g u N : Nat) (G : Ga ByteArray) (k : ByteArray) (x : Int) (F : Nat → Prop) (w : World) (h : IsGS base w g G u F) (hF0 : ∀ y, w.heap.size ≤ y → F y) (hok : G.Ok N) (hN : N ≤ 900) (hkey : keyOf Try.prog 9 (.string k) = some (.string k.data.toList)) (hk : k ∉ G.ks) (hx : 0 ≤ x ∧ x ≤ 1099511627776) (hu : u ≤ 100000) (hbase : base ≤ w.heap.size) :
    Calls Try.prog 10 #[.pointer (some ⟨g, 0, none⟩), .string k, .int .i64 x] w fun e w' => e = .returned (.int .i64 0) ∧ IsGS base w' g ((G.push k).add k x) (u + 1) F ∧ Ext F w w' := by
  obtain ⟨mb, gb, cb, Ak, ck, bl, gc, cc, φ, ho, hF⟩ := h
  have hp := bkt_le x G.bs
  have hbl := hok.bl
  have c0 : w.cell? ⟨g, 0, none⟩ = some (.slice (some ⟨gb, 0, none⟩) G.bs.length cb) := (blkCell ho.blk 0).trans rfl
  have c1 : w.cell? ⟨g, 1, none⟩ = some (.map (some mb)) := (blkCell ho.blk 1).trans rfl
  have c2 : w.cell? ⟨g, 2, none⟩ = some (.slice Ak G.ks.length ck) := (blkCell ho.blk 2).trans rfl
  have hlk := ho.mp.look (a0 := none) poT lawS Try.underlying51 (zeroS w) hkey
  have hfi := ho.fi k
  rw [if_neg hk] at hfi
  have hlk' : (Instr.lookup 51 (.map (some mb)) (.string k) true).run Try.prog w = .ok (.tuple #[.pointer none, .bool false]) w := by
    rw [show φ (.string k.data.toList) = _ from hfi] at hlk
    exact hlk
  have hkl := hok.kl
  have hx1 : ¬ x < 0 := by omega
  have hx2 : ¬ 1099511627776 < x := by omega
  have hks : (G.ks.length : Int) < 1000 := by omega
  have hks2 : ¬ (1000 : Int) ≤ G.ks.length := by omega
  have hu' : u < maxLen := by simp only [maxLen]; omega
  obtain ⟨i0, hi0, hzz⟩ := Option.map_eq_some_iff.1 info3
  simp only [Prod.mk.injEq] at hzz
  obtain ⟨wA, hmk, hrowA, hgA⟩ := run_makeSlice_full (P := Try.prog) w base 22 3 i0 (.int .i64 0) 1 Try.underlying22 hi0 hzz.1 hzz.2.1 .i64 .i64 (G.bs.length + 1) (by omega) (by rw [hzz.2.2]; omega) (by simp only [maxLen]; omega) hbase
  rw [show ((G.bs.length + 1 : Nat) : Int) = (G.bs.length : Int) + 1 by omega] at hmk
  have hEA : Ext N0 w wA := (Ext.of_grown hgA).mono (fun y _ hy => by cases hy)
  have hsA := hEA.size
  have hrow0 : wA.ownsRow base 3 1 (.slice (some ⟨w.heap.size, 0, none⟩) (G.bs.length + 1) (G.bs.length + 1)) (G.bs.length + 1) (iv (cnt G.bs [])) := by
    rw [cnt_nil]
    have e := made_ivS (G.bs.length + 1)
    rw [← e]
    exact hrowA
  obtain ⟨W1, hW1⟩ : ∃ W1, wA.alloc (.cells #[.slice (some ⟨w.heap.size, 0, none⟩) (G.bs.length + 1) (G.bs.length + 1), .int .i64 0, .int .i64 0, .int .i64 0] 82) = W1 := ⟨_, rfl⟩
  have hE1' : Ext N0 wA W1 := by rw [← hW1]; exact (Ext.refl _ _).alloc _
  have hE1 := hEA.then0 hE1'
  have hb1 : W1.heap[wA.heap.size]? = some (.cells (nC G.bs.length [] w.heap.size (G.bs.length + 1)) 82 (0, 0)) := by rw [← hW1]; exact blkNew _ _
  obtain ⟨W2, hup, hmp2, hE2⟩ := (ho.mp.kept hE1 (fun e => e)).update poT lawS Try.underlying51 hu' hkey (some wA.heap.size)
  have d1 : W1.cell? ⟨g, 1, none⟩ = some (.map (some mb)) := hE1.cell c1 (fun e => e)
  have hmg : mb ≠ g := mapNe ho.mp ho.blk
  have e2 : W2.cell? ⟨g, 2, none⟩ = some (.slice Ak G.ks.length ck) := (blkCell (hE2.blk (hE1.blk0 ho.blk) (fun e => hmg (show g = mb from e).symm)) 2).trans rfl
  have hup' : (Instr.mapUpdate 51 (.map (some mb)) (.string k) (.pointer (some ⟨wA.heap.size, 0, none⟩))).run Try.prog W1 = .ok () W2 := hup
  have hko2 : W2.ownsRow base 9 1 (.slice Ak G.ks.length ck) G.ks.length (G.ks.map Value.string) := ownKept (ownKept0 ho.ko hE1) hE2 (fun y hy (e : y = mb) => by
    rcases ho.ko.2 with ⟨e1, _⟩ | ⟨g', cap, cur, e1, _, hh, _⟩
    · rw [e1] at hy
      simp [Value.ownBlock] at hy
    · rw [e1] at hy
      exact mapNe ho.mp hh (e.symm.trans (own_is hy)))
  have hs2 : base ≤ W2.heap.size := Nat.le_trans hbase (Nat.le_trans hE1.size hE2.size)
  have HKO := Lib.hid hko2
  obtain ⟨G1, hG1⟩ : ∃ G1, G.push k = G1 := ⟨_, rfl⟩
  have hok1 : G1.Ok (N + 1) := by rw [← hG1]; exact hok.push k
  have hmem : k ∈ G1.ks := by rw [← hG1]; exact Ga.push_mem G k
  have hbs1 : G1.bs = G.bs := by rw [← hG1]; exact Ga.push_bs G k
  have hPu : ∀ (W3 : World) (A3 : Option Addr) (c3 : Nat), Ext (fun x => (Value.slice Ak G.ks.length ck).ownBlock = some x) (W2.alloc (.cells #[.string k] 9)) W3 → W3.ownsRow base 9 1 (.slice A3 (G.ks.length + 1) c3) (G.ks.length + 1) (G.ks.map Value.string ++ [.string k]) →
      ((Value.slice A3 (G.ks.length + 1) c3).ownBlock = (Value.slice Ak G.ks.length ck).ownBlock ∨ (Value.slice A3 (G.ks.length + 1) c3).ownBlock = some (W2.alloc (.cells #[.string k] 9)).heap.size) →
      ∃ bl2 gc2 cc2 φ2, IsGo 53 9 Value.string (fun s : ByteArray => Lit.string s.data.toList) base (W3.setCell ⟨g, 2, none⟩ (.slice A3 (G.ks.length + 1) c3)) g G1 mb gb cb A3 c3 bl2 gc2 cc2 φ2 (u + 1) ∧ bl2 k = wA.heap.size ∧ gc2 k = w.heap.size ∧ Ext F w (W3.setCell ⟨g, 2, none⟩ (.slice A3 (G.ks.length + 1) c3)) ∧ (∀ y, Fp G1 g mb gb A3 c3 bl2 gc2 y → F y) ∧
        W3.heap[g]? = some (.cells #[.slice (some ⟨gb, 0, none⟩) G.bs.length cb, .map (some mb), .slice Ak G.ks.length ck] 53 (0, 0)) := fun W3 A3 c3 p1 p2 p3 => by
    obtain ⟨hI, hX, hfp, hb⟩ := ho.pushed tysS hk (hok.out k hk) injS hbase hE1 (Nat.le_refl _) hsA hb1 (ownKept0 hrow0 hE1') hE2 hmp2 ((Ext.refl N0 W2).alloc (.cells #[.string k] 9)) p1 p2 p3
    rw [hG1] at hI hfp
    exact ⟨_, _, _, _, hI, if_pos rfl, if_pos rfl, hX.mono (fun y _ hy => hF y hy), fun y hy => (hfp y hy).elim (hF y) (hF0 y), hb⟩
  have HBS := Lib.hid (fun W (h : Reads W (some ⟨gb, 0, none⟩) (iv G.bs)) => bs_calls (some ⟨gb, 0, none⟩) cb G.bs x (bkt G.bs x) W h hbl.2 hp (bkt_lo x G.bs) (bkt_hi x G.bs (mayF_srt _ _ hok.may)))
  have hT := fun W A c bl gc cc φ (h : IsGo 53 9 Value.string (fun s : ByteArray => Lit.string s.data.toList) base W g G1 mb gb cb A c bl gc cc φ (u + 1)) => And.intro (h.told hmem x) (And.intro (h.bump tysS hmem x) (ownReads1 h.bo))
  rw [hG1]
  obtain ⟨hM, hS, hL, hC⟩ := note_bdsS hok1 (by omega) k x
  obtain ⟨M, hMe⟩ : ∃ M, mostL (G1.f k) = M := ⟨_, rfl⟩
  obtain ⟨S, hSe⟩ : ∃ S, (G1.f k).sum = S := ⟨_, rfl⟩
  obtain ⟨L, hLe⟩ : ∃ L : Int, ((G1.f k).length : Int) = L := ⟨_, rfl⟩
  obtain ⟨cp, hCe⟩ : ∃ cp : Int, (((G1.f k).filter fun y => bkt G1.bs y == bkt G1.bs x).length : Int) = cp := ⟨_, rfl⟩
  obtain ⟨mx, hmx⟩ : ∃ mx, max M x = mx := ⟨_, rfl⟩
  rw [hMe] at hM
  rw [hSe] at hS
  rw [hLe] at hL
  rw [hCe] at hC
  simp only [hMe, hSe, hLe, hCe, hmx] at hT
  simp only [hbs1] at hT
  obtain ⟨p, hpe⟩ : ∃ p, bkt G.bs x = p := ⟨_, rfl⟩
  obtain ⟨n, hne⟩ : ∃ n, G.bs.length = n := ⟨_, rfl⟩
  obtain ⟨kn, hkn⟩ : ∃ kn, G.ks.length = kn := ⟨_, rfl⟩
  simp only [hpe, hne] at hT HBS
  rw [hpe, hne] at hp
  rw [hne] at hbl c0 hW1 hmk
  rw [hkn] at hks hks2 c2 e2 HKO hkl
  simp only [hne, hkn] at hPu
  have hpI : (p : Int) < ((n + 1 : Nat) : Int) := by omega
  have hkmap : (G.ks.map Value.string).length = kn := by rw [List.length_map]; exact hkn
  have HT := Lib.hid hT
  have HP := Lib.hid hPu
  clear ho hE1 hE1' hEA hb1 hrow0 hrowA hE2 hmp2 hko2 hT hPu hF hMe hSe hLe hCe hpe hne hkn hok hok1 hkey hk hN hmem hbs1 hG1 hup hi0 hzz hgA hfi hlk hF0
  have hcs : (M < x ∧ mx = x) ∨ (x = M ∧ mx = M) ∨ (x < M ∧ mx = M) := by omega
  rcases hcs with ⟨hm1, rfl⟩ | ⟨rfl, rfl⟩ | ⟨hm1, rfl⟩
  all_goals
    clear hmx
    go_enter Try.func10, Try.ntmps10
    go_wp2_with (first
      | (go_at_call 38; refine (none_callsS g mb _ c1).mono ?_; rintro e w' ⟨rfl, rfl⟩)
      | (at_builtin; refine wpApp base (.tmp 71) (.tmp 73) 46 9 (.string ⟨#[]⟩) 1 16 rfl rfl Try.underlying46 infoS rfl (by decide) (by decide) (.slice Ak kn ck) kn (G.ks.map Value.string) (some ⟨W2.heap.size, 0, none⟩) 1 1 [.string k] rfl rfl (ownKept0 HKO.out ((Ext.refl _ _).alloc _)) rfl (litReads W2 _ _ (by simp)) (by simp [Value.oneCell']) (by omega) (by simp; omega) ?_; intro A3 c3 W3 ho3 hE3 hat; obtain ⟨bl2, gc2, cc2, φ2, hI, hb2, hg2, hX, hfp, hb3⟩ := HP.out W3 A3 c3 hE3 ho3 hat; have q0 := (blkCell hb3 0).trans rfl; have q2 := (blkCell hb3 2).trans rfl; have qf := blkFrozen hb3 2; simp at q0 q2; have HI := Lib.hid (And.intro hI (And.intro hX hfp)); have HB2 := Lib.hid (And.intro hb2 hg2); clear hI hb2 hg2 hX hfp hb3 ho3 hE3 hat)
      | (go_at_call 39; refine (HBS.out _ (HT.out _ _ _ _ _ _ _ HI.out.1).2.2).mono ?_; rintro e w5 ⟨bb, rfl, hw5⟩; have hI5 := HI.out; rw [← hw5] at hI5; obtain ⟨⟨⟨n0, n1, n2, n3⟩, ⟨f1, f2, f3⟩, r0, rf, hne⟩, hbu, _⟩ := HT.out _ _ _ _ _ _ _ hI5.1; rw [HB2.out.1, HB2.out.2] at n0; rw [HB2.out.1] at n1 n2 n3 f1 f2 f3; rw [HB2.out.2] at r0 rf; rw [HB2.out.1, HB2.out.2] at hne hbu; have hne2 := Ne.symm hne; have HU5 := Lib.hid (And.intro hbu hI5.2); clear hbu hI5 hw5))
    go_ret
    exact ⟨rfl, ⟨mb, gb, cb, A3, c3, bl2, gc2, cc2, φ2, HU5.out.1.1, HU5.out.2.2⟩, HU5.out.2.1.trans HU5.out.1.2 (fun y hy => .inl (HU5.out.2.2 y hy))⟩
theorem note_callsS (base g u N : Nat) (G : Ga ByteArray) (k : ByteArray) (x : Int) (F : Nat → Prop) (w : World) (h : IsGS base w g G u F) (hF0 : ∀ y, w.heap.size ≤ y → F y) (hok : G.Ok N) (hN : N ≤ 900) (hkey : keyOf Try.prog 9 (.string k) = some (.string k.data.toList)) (hx : 0 ≤ x ∧ x ≤ 1099511627776) (hu : u ≤ 100000) (hbase : base ≤ w.heap.size) :
    Calls Try.prog 10 #[.pointer (some ⟨g, 0, none⟩), .string k, .int .i64 x] w fun e w' => e = .returned (.int .i64 0) ∧ IsGS base w' g (G.note k x) (u + 1) F ∧ Ext F w w' := by
  by_cases hk : k ∈ G.ks
  · rw [show G.note k x = G.add k x by unfold Ga.note Ga.push; rw [if_pos hk]]
    refine (note_inS base g u N G k x F w h hok (by omega) hkey hk hx).mono ?_
    rintro e w' ⟨h1, ⟨mb, gb, cb, Ak, ck, bl, gc, cc, φ, h2, h3⟩, h4⟩
    exact ⟨h1, ⟨mb, gb, cb, Ak, ck, bl, gc, cc, φ, h2.more (by omega), h3⟩, h4⟩
  · exact note_newS base g u N G k x F w h hF0 hok hN hkey hk hx hu hbase
end Go.Proofs.Ytcngefpdfkkgdaa
