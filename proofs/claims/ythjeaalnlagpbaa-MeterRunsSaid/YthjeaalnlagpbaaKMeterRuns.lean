/- The walk of the law MeterRuns: called with any values that fit its parameters, it returns true and nothing that was in memory before has changed. No other condition. -/
import Derived.Test.YthjeaalnlagpbaaR12
import Derived.Test.YthjeaalnlagpbaaR11
import Derived.Test.YthjeaalnlagpbaaOps
import Derived.Deep.DeepCutAuto
import Derived.Deep.CutBlock
import Derived.Deep.RegionHeld3
namespace Go.Proofs.Ythjeaalnlagpbaa
open Go.RowKit Go.ChangeShapes Go.WideShapes Go.Maps
namespace meterRuns
set_option maxRecDepth 100000 in
set_option maxHeartbeats 8000000 in
theorem walk (a0 a1 a2 : Int) (a3 : Option Addr) (len3 cap3 : Nat) (z3 : Nat → Int × ByteArray × Int) (w : World) (_w0 : (Lit.int .i64 a0).wf = true) (_w1 : (Lit.int .i64 a1).wf = true) (_w2 : (Lit.int .i64 a2).wf = true) (w3 : IsOps w a3 len3 cap3 z3) :
    Calls Try.prog 5 #[.int .i64 a0, .int .i64 a1, .int .i64 a2, .slice a3 len3 cap3] w fun e w' => e = .returned (.bool true) ∧ Below w.heap.size w w' := by
  have HW := Lib.hid w3
  clear w3 _w0 _w1 _w2
  by_cases hnew : NewOk a0 a1 a2
  · have HN : Hid (Calls Try.prog 14 #[.int .i64 a0, .int .i64 a1, .int .i64 a2] w fun e w' => e = .returned (.tuple #[.pointer (some ⟨w.heap.size + 1, 0, none⟩), .int .i64 0]) ∧ IsMS w.heap.size w' (w.heap.size + 1) (mt0 a0 a1 a2) 0 ∧ Ext N0 w w') := Lib.hid ((new_callsS a0 a1 a2 w).mono (by
      rintro e w' (⟨_, h1, h2, h3⟩ | ⟨h1, _⟩)
      · exact ⟨h1, h2, h3⟩
      · exact absurd hnew h1))
    have HM := Lib.hid (fun W => rnew_good a0 a1 a2 W hnew)
    have hok0 : (mt0 a0 a1 a2).Ok := NewOk.ok hnew _
    clear hnew
    go_enter Try.func5, Try.ntmps5
    go_wp2_with fail
    refine HN.out.mono ?_
    rintro e w1 ⟨rfl, hS, hE⟩
    have HS := Lib.hid hS
    have HE := Lib.hid hE
    clear hS hE
    go_wp2_with fail
    refine (HM.out _).mono ?_
    rintro e w2 ⟨rfl, hE⟩
    have HA0 : Hid (Al w (w2.alloc (.cells #[.int .i64 a0, .int .i64 a1, .int .i64 a2, .int .i64 0, .slice none 0 0] 46)) (w.heap.size + 1) w2.heap.size (mt0 a0 a1 a2) (mt0 a0 a1 a2) none 0 (3 * 0)) :=
      Lib.hid ⟨(HS.out.kept0 hE).kept0 ((Ext.refl _ _).alloc _), blkNew _ _, ownNil _ _ _ _, (HE.out.then0 hE).alloc _⟩
    have hgb := (HE.out.then0 hE).size
    clear HS HE HN HM hE
    go_wp2_with (go_at_call 8; refine (awake_calls _).mono ?_; rintro e w3 ⟨rfl, hE3⟩; have HA3 := Lib.hid (HA0.out.kept0 hE3); clear hE3)
    clear HA0
    obtain ⟨gb, hgbe⟩ : ∃ gb, w2.heap.size = gb := ⟨_, rfl⟩
    rw [hgbe] at hgb HA3
    simp only [hgbe]
    clear hgbe
    have HF0 : Hid ((mt0 a0 a1 a2).Ok ∧ KeyOk (mt0 a0 a1 a2) ∧ (mt0 a0 a1 a2).now ≤ ((0 : Nat) : Int) * 1073741824) := Lib.hid ⟨hok0, (fun k hk => (by cases hk)), (by simp [mt0])⟩
    clear hok0
    obtain ⟨g, hg⟩ : ∃ g, w.heap.size + 1 = g := ⟨_, rfl⟩
    rw [hg] at HA3
    simp only [hg]
    clear hg
    go_loopw [13] (fun i wr => ∃ (k : Nat) (m : Mt ByteArray) (A : Option Addr) (c : Nat), k ≤ 60 ∧ i = .int .i64 k ∧ Hid (m.Ok ∧ KeyOk m ∧ m.now ≤ (k : Int) * 1073741824) ∧ Hid (Al w wr g gb m m A c (3 * k))) (fun i _ => 61 - (intOf i).toNat)
    case atStart => exact ⟨0, _, _, _, by omega, rfl, HF0, HA3⟩
    case round =>
      clear HA3 HF0
      obtain ⟨k, m, A, c, hk, rfl, HF, HA⟩ := hrel
      by_cases hl : k < len3
      · have hl' : (k : Int) < len3 := by omega
        by_cases h6 : k < 60
        · have h6' : (k : Int) < 60 := by omega
          obtain ⟨hx1, hx2, hx3⟩ := HW.out
          obtain ⟨ad, rfl, hc⟩ := hx3 (by omega)
          obtain ⟨c0, c1, c2, d0, d1, d2⟩ := hc k hl
          obtain ⟨d, hd⟩ : ∃ d, (z3 k).1 = d := ⟨_, rfl⟩
          obtain ⟨key, hke⟩ : ∃ key, (z3 k).2.1 = key := ⟨_, rfl⟩
          obtain ⟨n, hn⟩ : ∃ n, (z3 k).2.2 = n := ⟨_, rfl⟩
          rw [hd] at c0 d0
          rw [hke] at c1 d1
          rw [hn] at c2
          have d0 := bd8 d0
          have hkey : keyOf Try.prog 9 (.string key) = some (.string key.data.toList) := WideMaps.keyOf_string_mk Try.underlying9 d1
          have HKey := Lib.hid hkey
          rw [addSucc] at c1 c2
          simp only [Nat.zero_add] at c1 c2
          have c0 := HA.out.ext.cell c0 (fun h => h)
          have c1 := HA.out.ext.cell c1 (fun h => h)
          have c2 := HA.out.ext.cell c2 (fun h => h)
          have hgo := blkLt HA.out.box
          clear hd hke hn hc hx1 hx2 hx3 d1 d2 hkey
          go_upto_block 2 with fail
          have HA1 := Lib.hid (HA.out.kept0 ((Ext.refl N0 wr).alloc (.cells #[.int .u8 d, .string key, .int .i64 n] 30)))
          have hO := blkNew wr (.cells #[.int .u8 d, .string key, .int .i64 n] 30)
          have HO := Lib.hid hO
          clear hO c0 c1 c2 HA
          go_cut [14, 77] (fun s14 _ wx => s14 = .pointer (some ⟨wr.heap.size, 0, none⟩) ∧ ∃ (m' : Mt ByteArray) (A' : Option Addr) (c' : Nat), Hid (m'.Ok ∧ KeyOk m' ∧ m'.now ≤ ((k + 1 : Nat) : Int) * 1073741824) ∧ Hid (Al w wx g gb m' m' A' c' (3 * k + 3)) ∧ Hid (wx.heap[wr.heap.size]? = some (.cells #[.int .u8 d, .string key, .int .i64 n] 30 (0, 0))))
          case first =>
            obtain ⟨hok, hks, hnow⟩ := HF.out
            have hcs : d % 5 = 0 ∨ d % 5 = 1 ∨ d % 5 = 2 ∨ d % 5 = 3 ∨ d % 5 = 4 := by omega
            rcases hcs with hcs | hcs | hcs | hcs | hcs
            · as_aux_lemma =>
              obtain ⟨m', ok, er, ho', hk', hn', hK, hR⟩ := take_both w.heap.size g (3 * k) m key n hok hks HKey.out (by omega)
              unfold GvV at hR
              have HK := Lib.hid hK
              have HR := Lib.hid hR
              have HF := Lib.hid (show m'.Ok ∧ KeyOk m' ∧ m'.now ≤ ((k + 1 : Nat) : Int) * 1073741824 from ⟨ho', hk', by omega⟩)
              clear ho' hk' hn' hK hR
              go_wp2_with (first | (go_at_call 16; refine (HK.out _ HA1.out.mt HA1.out.ext.size).mono ?_; rintro e w2 ⟨rfl, hM, hE⟩; have HH := Lib.hid (HA1.out.own hM hE); have HO2 := Lib.hid (op_own HO.out hE); obtain ⟨⟨e0, e1, e2, e3, e4⟩, _⟩ := cells5 HH.out.box; obtain ⟨o0, o1, o2⟩ := cells3 HO2.out; clear hM hE) | (go_at_call 17; refine (HR.out _ _ _ _ HH.out.row HH.out.ext.size).mono ?_; rintro e w3 ⟨A3, c3, rfl, hR3, hE3⟩; have HP := Lib.hid (HH.out.put hgb hE3 hR3); obtain ⟨⟨r0, r1, r2, r3, r4⟩, f0, f1, f2, f3, f4⟩ := cells5 (hE3.blk0 HH.out.box); have hlt3 := blkLt (hE3.blk0 HH.out.box); have HO3 := Lib.hid ((put5_ext w3 gb (.int .i64 m'.r) (.int .i64 m'.b) (.int .i64 m'.most) (.int .i64 m'.now) (.slice A3 m'.rows.length c3)).blk (hE3.blk0 HO2.out) (fun (h : wr.heap.size = gb) => absurd h (Nat.ne_of_gt hgo))); clear hR3 hE3))
              go_meet
              case rel => exact ⟨rfl, m', A3, c3, HF, Lib.hid (HP.out.kept0 ((Ext.refl _ _).alloc _)), Lib.hid (blkAlloc HO3.out _)⟩
            · as_aux_lemma =>
              obtain ⟨m', ok, er, ho', hk', hn', hK, hR⟩ := take_both w.heap.size g (3 * k) m key n hok hks HKey.out (by omega)
              unfold GvV at hR
              have HK := Lib.hid hK
              have HR := Lib.hid hR
              have HF := Lib.hid (show m'.Ok ∧ KeyOk m' ∧ m'.now ≤ ((k + 1 : Nat) : Int) * 1073741824 from ⟨ho', hk', by omega⟩)
              clear ho' hk' hn' hK hR
              go_wp2_with (first | (go_at_call 16; refine (HK.out _ HA1.out.mt HA1.out.ext.size).mono ?_; rintro e w2 ⟨rfl, hM, hE⟩; have HH := Lib.hid (HA1.out.own hM hE); have HO2 := Lib.hid (op_own HO.out hE); obtain ⟨⟨e0, e1, e2, e3, e4⟩, _⟩ := cells5 HH.out.box; obtain ⟨o0, o1, o2⟩ := cells3 HO2.out; clear hM hE) | (go_at_call 17; refine (HR.out _ _ _ _ HH.out.row HH.out.ext.size).mono ?_; rintro e w3 ⟨A3, c3, rfl, hR3, hE3⟩; have HP := Lib.hid (HH.out.put hgb hE3 hR3); obtain ⟨⟨r0, r1, r2, r3, r4⟩, f0, f1, f2, f3, f4⟩ := cells5 (hE3.blk0 HH.out.box); have hlt3 := blkLt (hE3.blk0 HH.out.box); have HO3 := Lib.hid ((put5_ext w3 gb (.int .i64 m'.r) (.int .i64 m'.b) (.int .i64 m'.most) (.int .i64 m'.now) (.slice A3 m'.rows.length c3)).blk (hE3.blk0 HO2.out) (fun (h : wr.heap.size = gb) => absurd h (Nat.ne_of_gt hgo))); clear hR3 hE3))
              go_meet
              case rel => exact ⟨rfl, m', A3, c3, HF, Lib.hid (HP.out.kept0 ((Ext.refl _ _).alloc _)), Lib.hid (blkAlloc HO3.out _)⟩
            · as_aux_lemma =>
              obtain ⟨m', v, er, ho', hk', hn', hK, hR⟩ := force_both w.heap.size g (3 * k) m key n hok hks HKey.out (by omega)
              unfold GvV at hR
              have HK := Lib.hid hK
              have HR := Lib.hid hR
              have HF := Lib.hid (show m'.Ok ∧ KeyOk m' ∧ m'.now ≤ ((k + 1 : Nat) : Int) * 1073741824 from ⟨ho', hk', by omega⟩)
              clear ho' hk' hn' hK hR
              go_wp2_with (first | (go_at_call 18; refine (HK.out _ HA1.out.mt HA1.out.ext.size).mono ?_; rintro e w2 ⟨rfl, hM, hE⟩; have HH := Lib.hid (HA1.out.own hM hE); have HO2 := Lib.hid (op_own HO.out hE); obtain ⟨⟨e0, e1, e2, e3, e4⟩, _⟩ := cells5 HH.out.box; obtain ⟨o0, o1, o2⟩ := cells3 HO2.out; clear hM hE) | (go_at_call 19; refine (HR.out _ _ _ _ HH.out.row HH.out.ext.size).mono ?_; rintro e w3 ⟨A3, c3, rfl, hR3, hE3⟩; have HP := Lib.hid (HH.out.put hgb hE3 hR3); obtain ⟨⟨r0, r1, r2, r3, r4⟩, f0, f1, f2, f3, f4⟩ := cells5 (hE3.blk0 HH.out.box); have hlt3 := blkLt (hE3.blk0 HH.out.box); have HO3 := Lib.hid ((put5_ext w3 gb (.int .i64 m'.r) (.int .i64 m'.b) (.int .i64 m'.most) (.int .i64 m'.now) (.slice A3 m'.rows.length c3)).blk (hE3.blk0 HO2.out) (fun (h : wr.heap.size = gb) => absurd h (Nat.ne_of_gt hgo))); clear hR3 hE3))
              go_meet
              case rel => exact ⟨rfl, m', A3, c3, HF, Lib.hid (HP.out.kept0 ((Ext.refl _ _).alloc _)), Lib.hid (blkAlloc HO3.out _)⟩
            · obtain ⟨m', ho', hk', hn', hK, hR⟩ := tick_both w.heap.size g (3 * k) m n hok hks (by omega)
              have HK := Lib.hid (fun W (h : IsMS w.heap.size W g m (3 * k)) (_ : w.heap.size ≤ W.heap.size) => hK W h)
              have HR := Lib.hid hR
              have HF := Lib.hid (show m'.Ok ∧ KeyOk m' ∧ m'.now ≤ ((k + 1 : Nat) : Int) * 1073741824 from ⟨ho', hk', by omega⟩)
              clear ho' hk' hn' hK hR
              go_wp2_with (first | (go_at_call 20; refine (HK.out _ HA1.out.mt HA1.out.ext.size).mono ?_; rintro e w2 ⟨rfl, hM, hE⟩; have HH := Lib.hid (HA1.out.own hM hE); have HO2 := Lib.hid (op_own HO.out hE); obtain ⟨⟨e0, e1, e2, e3, e4⟩, _⟩ := cells5 HH.out.box; obtain ⟨o0, o1, o2⟩ := cells3 HO2.out; clear hM hE) | (go_at_call 21; refine (HR.out _ _ _ _ HH.out.row HH.out.ext.size).mono ?_; rintro e w3 ⟨A3, c3, rfl, hR3, hE3⟩; have HP := Lib.hid (HH.out.put hgb hE3 hR3); obtain ⟨⟨r0, r1, r2, r3, r4⟩, f0, f1, f2, f3, f4⟩ := cells5 (hE3.blk0 HH.out.box); have hlt3 := blkLt (hE3.blk0 HH.out.box); have HO3 := Lib.hid ((put5_ext w3 gb (.int .i64 m'.r) (.int .i64 m'.b) (.int .i64 m'.most) (.int .i64 m'.now) (.slice A3 m'.rows.length c3)).blk (hE3.blk0 HO2.out) (fun (h : wr.heap.size = gb) => absurd h (Nat.ne_of_gt hgo))); clear hR3 hE3))
              go_meet
              case rel => exact ⟨rfl, m', A3, c3, HF, Lib.hid ⟨HP.out.mt.more (by omega), HP.out.box, HP.out.row, HP.out.ext⟩, HO3⟩
            · have HK := Lib.hid (fun W (h : IsMS w.heap.size W g m (3 * k)) => wait_callsS w.heap.size g (3 * k) m key n W h hok HKey.out)
              have HR := Lib.hid (fun W A c (h : RL w.heap.size W A c m.rows) => rwait_calls w.heap.size m A c key n W h hok)
              have HF := Lib.hid (show m.Ok ∧ KeyOk m ∧ m.now ≤ ((k + 1 : Nat) : Int) * 1073741824 from ⟨hok, hks, by omega⟩)
              clear hok hks hnow
              obtain ⟨o0, o1, o2⟩ := cells3 HO.out
              go_wp2_with (first | (go_at_call 22; refine (HK.out _ HA1.out.mt).mono ?_; rintro e w2 ⟨rfl, hE⟩; have HX := Lib.hid hE; obtain ⟨⟨e0, e1, e2, e3, e4⟩, _⟩ := cells5 (HA1.out.kept0 hE).box; obtain ⟨p0, p1, p2⟩ := cells3 (hE.blk0 HO.out); clear hE) | (go_at_call 23; refine (HR.out _ _ _ (HA1.out.kept0 HX.out).row).mono ?_; rintro e w3 ⟨rfl, hE3⟩; have HY := Lib.hid (HX.out.then0 hE3); clear hE3))
              go_meet
              case rel => exact ⟨rfl, m, A, c, HF, Lib.hid ⟨(HA1.out.kept0 HY.out).mt.more (by omega), (HA1.out.kept0 HY.out).box, (HA1.out.kept0 HY.out).row, (HA1.out.kept0 HY.out).ext⟩, Lib.hid (HY.out.blk0 HO.out)⟩
          case rest =>
            clear HF HA1 HO
            obtain ⟨rfl, m', A', c', HF, HA, HO⟩ := hcut
            go_wp2_with fail
            obtain ⟨hok, hks, hnow⟩ := HF.out
            obtain ⟨L, hL⟩ : ∃ L, m'.rows.length = L := ⟨_, rfl⟩
            have hlen : L ≤ 1000 := by
              have h1 := hok.len
              have h2 := hok.most
              rw [rows_len] at hL
              omega
            obtain ⟨_, o1, _⟩ := cells3 HO.out
            obtain ⟨⟨e0, e1, e2, e3, e4⟩, _⟩ := cells5 HA.out.box
            rw [hL] at e4
            have hT := fun W (h : RL w.heap.size W A' c' m'.rows) => rtok_calls w.heap.size m' A' c' key W h hok
            rw [hL] at hT
            have hK1 := fun W (h : IsMS w.heap.size W g m' (3 * k + 3)) => keys_yes w.heap.size g (3 * k + 3) m' hok hks (L + 1) (by omega) W h
            rw [show m'.rows.take (L + 1) = m'.rows by rw [List.take_of_length_le (by omega)], hL, show ((L + 1 : Nat) : Int) = IntKind.i64.wrap ((L : Int) + 1) from (IntWalk.i64_in _ (by omega)).symm] at hK1
            have hK2 : ∀ W, IsMS w.heap.size W g m' (3 * k + 3) → Calls Try.prog 28 #[.pointer (some ⟨g, 0, none⟩), .int .i64 1] W fun e w' => ∃ A c, e = .returned (.slice A (m'.rows.take 1).length c) ∧ RL W.heap.size w' A c (m'.rows.take 1) ∧ Ext N0 W w' := fun W h => keys_yes w.heap.size g (3 * k + 3) m' hok hks 1 (by omega) W h
            have hS1 := fun W A B c d (h1 : RC W A m'.rows) (h2 : RC W B m'.rows) => same_yes m'.rows A B c d W h1 h2 (by omega)
            rw [hL] at hS1
            have hS2 := fun W A B c d (h1 : RC W A (m'.rows.take 1)) (h2 : RC W B (m'.rows.take 1)) => same_yes (m'.rows.take 1) A B c d W h1 h2 (by rw [List.length_take]; omega)
            have hAA : ((A' = none ∧ L < 1) ∨ ∃ g, A' = some ⟨g, 0, none⟩) ∧ L ≤ c' := by
              rcases HA.out.row.2 with ⟨h1, _⟩ | ⟨g', cap, cur, h1, _, _, h2, _⟩
              · injection h1 with h1 h2 h3
                exact ⟨.inl ⟨h1, by omega⟩, by omega⟩
              · injection h1 with h1 h2 h3
                exact ⟨.inr ⟨_, h1⟩, by omega⟩
            have HT := Lib.hid hT
            have HK1 := Lib.hid hK1
            have HS1 := Lib.hid hS1
            have HOK := Lib.hid (And.intro hok hks)
            have HD := Lib.hid (Ext.refl N0 wc).drew
            have HNow := Lib.hid hnow
            clear hT hK1 hS1 hok hks hnow
            have hlc : (L : Int) ≤ c' := by have := hAA.2; omega
            rcases hAA.1 with ⟨rfl, hL1⟩ | ⟨g7, rfl⟩
            · as_aux_lemma =>
              have ht1 : (m'.rows.take 1).length = L := by rw [List.length_take, hL]; omega
              rw [ht1] at hS2
              simp only [ht1] at hK2
              have HK2 := Lib.hid hK2
              have HS2 := Lib.hid hS2
              have hm1 : ¬ (1 : Int) ≤ L := by omega
              have hm2 : (L : Int) < 1 := by omega
              clear hK2 hS2 ht1 hAA hL
              go_region_held3 (fun w' => w'.cell? ⟨wr.heap.size, 1, none⟩ = some (.string key) ∧ w'.cell? ⟨gb, 0, none⟩ = some (.int .i64 m'.r) ∧ w'.cell? ⟨gb, 1, none⟩ = some (.int .i64 m'.b) ∧ w'.cell? ⟨gb, 2, none⟩ = some (.int .i64 m'.most) ∧ w'.cell? ⟨gb, 3, none⟩ = some (.int .i64 m'.now) ∧ w'.cell? ⟨gb, 4, none⟩ = some (.slice none L c')) (first | go_keep | (refine ⟨?_, ?_, ?_, ?_, ?_, ?_⟩ <;> exact y7.cell (by simp_all) (fun x => x)) | (refine ⟨?_, ?_, ?_, ?_, ?_, ?_⟩ <;> exact y6.cell (by simp_all) (fun x => x)) | (refine ⟨?_, ?_, ?_, ?_, ?_, ?_⟩ <;> exact y5.cell (by simp_all) (fun x => x)) | (refine ⟨?_, ?_, ?_, ?_, ?_, ?_⟩ <;> exact y4.cell (by simp_all) (fun x => x)) | (refine ⟨?_, ?_, ?_, ?_, ?_, ?_⟩ <;> exact y2.cell (by simp_all) (fun x => x)) | (refine ⟨?_, ?_, ?_, ?_, ?_, ?_⟩ <;> exact y1.cell (by simp_all) (fun x => x))) (first | (have hx := X6; clear hx; go_at_call 27; refine (HS2.out _ _ _ _ _ ((H6.out.kept0 (Ext.refl N0 _)).rc) ((HA.out.kept0 X6.out).row.rc.take 1)).mono ?_; rintro e w7 ⟨rfl, y7⟩; have X7 := Lib.hid (X6.out.then0 y7)) | (have hx := X5; clear hx; go_at_call 28; refine (HK2.out _ (HA.out.kept0 X5.out).mt).mono ?_; rintro e w6 ⟨A6, c6, rfl, h6', y6⟩; have H6 := Lib.hid h6'; have X6 := Lib.hid (X5.out.then0 y6); clear h6') | (have hx := X4; clear hx; go_at_call 27; refine (HS1.out _ _ _ _ _ H4.out.rc (HA.out.kept0 X4.out).row.rc).mono ?_; rintro e w5 ⟨rfl, y5⟩; have X5 := Lib.hid (X4.out.then0 y5)) | (have hx := X2; clear hx; go_at_call 28; refine (HK1.out _ (HA.out.kept0 X2.out).mt).mono ?_; rintro e w4 ⟨A4, c4, rfl, h4', y4⟩; have H4 := Lib.hid h4'; have X4 := Lib.hid (X2.out.then0 y4); clear h4') | (have hx := X2; clear hx; go_at_call 26; refine (now_callsS w.heap.size g (3 * k + 3) m' _ (HA.out.kept0 X2.out).mt).mono ?_; rintro e w3' ⟨rfl, hww⟩; subst hww) | (have hx := X1; clear hx; go_at_call 25; refine (HT.out _ (HA.out.kept0 X1.out).row).mono ?_; rintro e w2' ⟨rfl, y2⟩; have X2 := Lib.hid (X1.out.then0 y2)) | (go_at_call 24; refine (tok_callsS w.heap.size g (3 * k + 3) m' key _ (HA.out.kept0 HD.out).mt HOK.out.1 HKey.out).mono ?_; rintro e w1' ⟨rfl, y1⟩; have X1 := Lib.hid (HD.out.then0 y1)))
              all_goals
                have HF9 := Lib.hid (show m'.Ok ∧ KeyOk m' ∧ m'.now ≤ ((k + 1 : Nat) : Int) * 1073741824 from ⟨HOK.out.1, HOK.out.2, HNow.out⟩)
                have HA9 := Lib.hid (HA.out.kept0 X7.out)
                clear y7 y6 y5 y4 y2 y1 o1 e0 e1 e2 e3 e4
                go_wp2
                go_roundw
                case rel => exact ⟨k + 1, m', _, c', by omega, by go_num, HF9, HA9⟩
                case measure => simp only [intOf]; omega
            · by_cases hL1 : 1 ≤ L
              · as_aux_lemma =>
                have ht1 : (m'.rows.take 1).length = 1 := by rw [List.length_take, hL]; omega
                rw [ht1] at hS2
                simp only [ht1] at hK2
                have HK2 := Lib.hid hK2
                have HS2 := Lib.hid hS2
                have hm1 : (1 : Int) ≤ L := by omega
                have hc1 : (1 : Int) ≤ c' := by omega
                have hl0 : ¬ L = 0 := by omega
                have hc0 : ¬ c' = 0 := by omega
                have hm2 : ¬ (L : Int) < 1 := by omega
                have hl1 : (if (L : Int) < 1 then (L : Int) else 1) = 1 := if_neg hm2
                clear hK2 hS2 ht1 hAA hL
                go_region_held3 (fun w' => w'.cell? ⟨wr.heap.size, 1, none⟩ = some (.string key) ∧ w'.cell? ⟨gb, 0, none⟩ = some (.int .i64 m'.r) ∧ w'.cell? ⟨gb, 1, none⟩ = some (.int .i64 m'.b) ∧ w'.cell? ⟨gb, 2, none⟩ = some (.int .i64 m'.most) ∧ w'.cell? ⟨gb, 3, none⟩ = some (.int .i64 m'.now) ∧ w'.cell? ⟨gb, 4, none⟩ = some (.slice (some ⟨g7, 0, none⟩) L c')) (first | go_keep | (refine ⟨?_, ?_, ?_, ?_, ?_, ?_⟩ <;> exact y7.cell (by simp_all) (fun x => x)) | (refine ⟨?_, ?_, ?_, ?_, ?_, ?_⟩ <;> exact y6.cell (by simp_all) (fun x => x)) | (refine ⟨?_, ?_, ?_, ?_, ?_, ?_⟩ <;> exact y5.cell (by simp_all) (fun x => x)) | (refine ⟨?_, ?_, ?_, ?_, ?_, ?_⟩ <;> exact y4.cell (by simp_all) (fun x => x)) | (refine ⟨?_, ?_, ?_, ?_, ?_, ?_⟩ <;> exact y2.cell (by simp_all) (fun x => x)) | (refine ⟨?_, ?_, ?_, ?_, ?_, ?_⟩ <;> exact y1.cell (by simp_all) (fun x => x))) (first | (have hx := X6; clear hx; go_at_call 27; refine (HS2.out _ _ _ _ _ ((H6.out.kept0 (Ext.refl N0 _)).rc) ((HA.out.kept0 X6.out).row.rc.take 1)).mono ?_; rintro e w7 ⟨rfl, y7⟩; have X7 := Lib.hid (X6.out.then0 y7)) | (have hx := X5; clear hx; go_at_call 28; refine (HK2.out _ (HA.out.kept0 X5.out).mt).mono ?_; rintro e w6 ⟨A6, c6, rfl, h6', y6⟩; have H6 := Lib.hid h6'; have X6 := Lib.hid (X5.out.then0 y6); clear h6') | (have hx := X4; clear hx; go_at_call 27; refine (HS1.out _ _ _ _ _ H4.out.rc (HA.out.kept0 X4.out).row.rc).mono ?_; rintro e w5 ⟨rfl, y5⟩; have X5 := Lib.hid (X4.out.then0 y5)) | (have hx := X2; clear hx; go_at_call 28; refine (HK1.out _ (HA.out.kept0 X2.out).mt).mono ?_; rintro e w4 ⟨A4, c4, rfl, h4', y4⟩; have H4 := Lib.hid h4'; have X4 := Lib.hid (X2.out.then0 y4); clear h4') | (have hx := X2; clear hx; go_at_call 26; refine (now_callsS w.heap.size g (3 * k + 3) m' _ (HA.out.kept0 X2.out).mt).mono ?_; rintro e w3' ⟨rfl, hww⟩; subst hww) | (have hx := X1; clear hx; go_at_call 25; refine (HT.out _ (HA.out.kept0 X1.out).row).mono ?_; rintro e w2' ⟨rfl, y2⟩; have X2 := Lib.hid (X1.out.then0 y2)) | (go_at_call 24; refine (tok_callsS w.heap.size g (3 * k + 3) m' key _ (HA.out.kept0 HD.out).mt HOK.out.1 HKey.out).mono ?_; rintro e w1' ⟨rfl, y1⟩; have X1 := Lib.hid (HD.out.then0 y1)))
                all_goals
                  have HF9 := Lib.hid (show m'.Ok ∧ KeyOk m' ∧ m'.now ≤ ((k + 1 : Nat) : Int) * 1073741824 from ⟨HOK.out.1, HOK.out.2, HNow.out⟩)
                  have HA9 := Lib.hid (HA.out.kept0 X7.out)
                  clear y7 y6 y5 y4 y2 y1 o1 e0 e1 e2 e3 e4
                  go_wp2
                  go_roundw
                  case rel => exact ⟨k + 1, m', _, c', by omega, by go_num, HF9, HA9⟩
                  case measure => simp only [intOf]; omega
              · as_aux_lemma =>
                have ht1 : (m'.rows.take 1).length = L := by rw [List.length_take, hL]; omega
                rw [ht1] at hS2
                simp only [ht1] at hK2
                have HK2 := Lib.hid hK2
                have HS2 := Lib.hid hS2
                have hm1 : ¬ (1 : Int) ≤ L := by omega
                have hm2 : (L : Int) < 1 := by omega
                clear hK2 hS2 ht1 hAA hL
                go_region_held3 (fun w' => w'.cell? ⟨wr.heap.size, 1, none⟩ = some (.string key) ∧ w'.cell? ⟨gb, 0, none⟩ = some (.int .i64 m'.r) ∧ w'.cell? ⟨gb, 1, none⟩ = some (.int .i64 m'.b) ∧ w'.cell? ⟨gb, 2, none⟩ = some (.int .i64 m'.most) ∧ w'.cell? ⟨gb, 3, none⟩ = some (.int .i64 m'.now) ∧ w'.cell? ⟨gb, 4, none⟩ = some (.slice (some ⟨g7, 0, none⟩) L c')) (first | go_keep | (refine ⟨?_, ?_, ?_, ?_, ?_, ?_⟩ <;> exact y7.cell (by simp_all) (fun x => x)) | (refine ⟨?_, ?_, ?_, ?_, ?_, ?_⟩ <;> exact y6.cell (by simp_all) (fun x => x)) | (refine ⟨?_, ?_, ?_, ?_, ?_, ?_⟩ <;> exact y5.cell (by simp_all) (fun x => x)) | (refine ⟨?_, ?_, ?_, ?_, ?_, ?_⟩ <;> exact y4.cell (by simp_all) (fun x => x)) | (refine ⟨?_, ?_, ?_, ?_, ?_, ?_⟩ <;> exact y2.cell (by simp_all) (fun x => x)) | (refine ⟨?_, ?_, ?_, ?_, ?_, ?_⟩ <;> exact y1.cell (by simp_all) (fun x => x))) (first | (have hx := X6; clear hx; go_at_call 27; refine (HS2.out _ _ _ _ _ ((H6.out.kept0 (Ext.refl N0 _)).rc) ((HA.out.kept0 X6.out).row.rc.take 1)).mono ?_; rintro e w7 ⟨rfl, y7⟩; have X7 := Lib.hid (X6.out.then0 y7)) | (have hx := X5; clear hx; go_at_call 28; refine (HK2.out _ (HA.out.kept0 X5.out).mt).mono ?_; rintro e w6 ⟨A6, c6, rfl, h6', y6⟩; have H6 := Lib.hid h6'; have X6 := Lib.hid (X5.out.then0 y6); clear h6') | (have hx := X4; clear hx; go_at_call 27; refine (HS1.out _ _ _ _ _ H4.out.rc (HA.out.kept0 X4.out).row.rc).mono ?_; rintro e w5 ⟨rfl, y5⟩; have X5 := Lib.hid (X4.out.then0 y5)) | (have hx := X2; clear hx; go_at_call 28; refine (HK1.out _ (HA.out.kept0 X2.out).mt).mono ?_; rintro e w4 ⟨A4, c4, rfl, h4', y4⟩; have H4 := Lib.hid h4'; have X4 := Lib.hid (X2.out.then0 y4); clear h4') | (have hx := X2; clear hx; go_at_call 26; refine (now_callsS w.heap.size g (3 * k + 3) m' _ (HA.out.kept0 X2.out).mt).mono ?_; rintro e w3' ⟨rfl, hww⟩; subst hww) | (have hx := X1; clear hx; go_at_call 25; refine (HT.out _ (HA.out.kept0 X1.out).row).mono ?_; rintro e w2' ⟨rfl, y2⟩; have X2 := Lib.hid (X1.out.then0 y2)) | (go_at_call 24; refine (tok_callsS w.heap.size g (3 * k + 3) m' key _ (HA.out.kept0 HD.out).mt HOK.out.1 HKey.out).mono ?_; rintro e w1' ⟨rfl, y1⟩; have X1 := Lib.hid (HD.out.then0 y1)))
                all_goals
                  have HF9 := Lib.hid (show m'.Ok ∧ KeyOk m' ∧ m'.now ≤ ((k + 1 : Nat) : Int) * 1073741824 from ⟨HOK.out.1, HOK.out.2, HNow.out⟩)
                  have HA9 := Lib.hid (HA.out.kept0 X7.out)
                  clear y7 y6 y5 y4 y2 y1 o1 e0 e1 e2 e3 e4
                  go_wp2
                  go_roundw
                  case rel => exact ⟨k + 1, m', _, c', by omega, by go_num, HF9, HA9⟩
                  case measure => simp only [intOf]; omega

        · have h6' : ¬ (k : Int) < 60 := by omega
          clear hl hl'
          have hq : (k : Int) < len3 ∨ ¬ (k : Int) < len3 := by omega
          rcases hq with hq | hq
          all_goals
            go_wp2
            go_ret
            exact ⟨rfl, HA.out.ext.below⟩
      · have hl' : ¬ (k : Int) < len3 := by omega
        go_wp2
        go_ret
        exact ⟨rfl, HA.out.ext.below⟩
  · have HN : Hid (Calls Try.prog 14 #[.int .i64 a0, .int .i64 a1, .int .i64 a2] w fun e w' => e = .returned (.tuple #[.pointer none, .int .i64 350]) ∧ w' = w) := Lib.hid ((new_callsS a0 a1 a2 w).mono (by
      rintro e w' (⟨h1, _⟩ | ⟨_, h1, h2⟩)
      · exact absurd h1 hnew
      · exact ⟨h1, h2⟩))
    have HM := Lib.hid (fun W => rnew_bad a0 a1 a2 W hnew)
    clear hnew
    go_enter Try.func5, Try.ntmps5
    go_wp2_with fail
    refine HN.out.mono ?_
    rintro e w1 ⟨rfl, rfl⟩
    go_wp2_with fail
    refine (HM.out _).mono ?_
    rintro e w2 ⟨rfl, hE⟩
    have HE := Lib.hid hE
    clear HN HM hE
    go_wp2_with (go_at_call 8; refine (awake_calls _).mono ?_; rintro e w3 ⟨rfl, hE3⟩; have HX := Lib.hid ((HE.out.alloc _).then0 hE3); clear hE3)
    clear HE
    go_loopw [13] (fun i wr => i = .int .i64 0 ∧ Hid (Ext N0 w1 wr)) (fun _ _ => 0)
    case atStart => exact ⟨rfl, HX⟩
    case round =>
      clear HX
      obtain ⟨rfl, HX⟩ := hrel
      have hq : (0 : Int) < len3 ∨ ¬ (0 : Int) < len3 := by omega
      rcases hq with hq | hq
      all_goals
        go_wp2
        go_ret
        exact ⟨rfl, HX.out.below⟩
end meterRuns
end Go.Proofs.Ythjeaalnlagpbaa
