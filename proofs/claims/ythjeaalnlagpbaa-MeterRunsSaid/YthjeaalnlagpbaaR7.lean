/- Contracts of the document's answer for package meter: Tick (the conditions stand in the statements). -/
import Derived.Test.YthjeaalnlagpbaaR6
namespace Go.Proofs.Ythjeaalnlagpbaa
open Go.RowKit
def upto (g : ByteArray × Int → ByteArray × Int) (L : Kr) (i : Nat) : Kr := (L.take i).map g ++ L.drop i
theorem upto_len (g : ByteArray × Int → ByteArray × Int) (L : Kr) (i : Nat) : (upto g L i).length = L.length := by
  unfold upto
  rw [List.length_append, List.length_map, List.length_take, List.length_drop]
  omega
theorem upto_zero (g : ByteArray × Int → ByteArray × Int) (L : Kr) : upto g L 0 = L := by simp [upto]
theorem upto_all (g : ByteArray × Int → ByteArray × Int) (L : Kr) : upto g L L.length = L.map g := by simp [upto]
theorem upto_get (g : ByteArray × Int → ByteArray × Int) (L : Kr) (i : Nat) : (upto g L i)[i]? = L[i]? := by
  unfold upto
  by_cases h : i < L.length
  · rw [List.getElem?_append_right (by simp; omega)]
    simp [Nat.min_eq_left (Nat.le_of_lt h)]
  · rw [List.getElem?_eq_none (by simp; omega), List.getElem?_eq_none (by omega)]
theorem upto_set (g : ByteArray × Int → ByteArray × Int) {L : Kr} {i : Nat} {p : ByteArray × Int} (hp : L[i]? = some p) : (upto g L i).set i (g p) = upto g L (i + 1) := by
  have hl := (List.getElem?_eq_some_iff.1 hp).1
  have hpe := (List.getElem?_eq_some_iff.1 hp).2
  unfold upto
  rw [List.set_append_right _ _ (by simp; omega)]
  have e : i - ((L.take i).map g).length = 0 := by simp; omega
  rw [e, List.drop_eq_getElem_cons hl, List.set_cons_zero, List.take_add_one, hp]
  simp
theorem rtick_no (m : Mt ByteArray) (A : Option Addr) (c : Nat) (n : Int) (w : World) (hn : n < 1) :
    Calls Try.prog 21 #[.agg #[.int .i64 m.r, .int .i64 m.b, .int .i64 m.most, .int .i64 m.now, .slice A m.rows.length c], .int .i64 n] w fun e w' => e = .returned (.agg (c5 m.r m.b m.most m.now A m.rows.length c)) ∧ Ext N0 w w' := by
  go_enter Try.func21, Try.ntmps21
  go_wp2
  refine bodyPost_ret (v := .agg (c5 m.r m.b m.most m.now A m.rows.length c)) (by simp [results, Try.results21, go_sem, c5]) rfl ⟨rfl, ((Ext.refl _ _).alloc _).alloc _⟩
abbrev gT (r b q : Int) (p : ByteArray × Int) : ByteArray × Int := (p.1, min b (p.2 + r * q))
set_option maxRecDepth 100000 in
set_option maxHeartbeats 1000000 in
theorem rtick_1 (base : Nat) (r b most now : Int) (A : Option Addr) (c : Nat) (L : Kr) (n : Int) (w : World) (h : RL base w A c L) (hl : L.length ≤ 1000) (hr : 1 ≤ r ∧ r ≤ 1048576) (hb : 1 ≤ b ∧ b ≤ 1073741824) (hN : ∀ p ∈ L, 0 ≤ p.2 ∧ p.2 ≤ b) (hn : 1 ≤ n ∧ n ≤ 1073741824) (h0 : 0 ≤ now) (hw : now + n < 4611686018427387904) :
    Calls Try.prog 21 #[.agg #[.int .i64 r, .int .i64 b, .int .i64 most, .int .i64 now, .slice A L.length c], .int .i64 n] w fun e w' =>
      ∃ A c, e = .returned (.agg (c5 r b most (now + n) A (L.map (gT r b n)).length c)) ∧ RL w.heap.size w' A c (L.map (gT r b n)) ∧ Ext N0 w w' := by
  have hx : 0 ≤ r * n ∧ r * n ≤ 1125899906842624 := ⟨Int.mul_nonneg (by omega) (by omega), Int.le_trans (Int.mul_le_mul hr.2 hn.2 (by omega) (by omega)) (by decide)⟩
  have hE0 : Ext N0 w ((w.alloc (.cells (c5 r b most (now + n) A L.length c) 46)).alloc (.cells c0 46)) := ((Ext.refl _ _).alloc _).alloc _
  have HB := Lib.hid (blkAlloc (blkNew w (.cells (c5 r b most (now + n) A L.length c) 46)) (.cells c0 46))
  have HS := Lib.hid (blkNewG (w.alloc (.cells (c5 r b most (now + n) A L.length c) 46)) (.cells c0 46) (g := w.heap.size + 1) (by simp))
  have HE := Lib.hid hE0
  have HR := Lib.hid h
  have HK := Lib.hid (kCells_len L)
  have HN := Lib.hid hN
  clear hE0 h hN
  go_enter Try.func21, Try.ntmps21
  go_wp2_with (at_builtin; refine wpApp w.heap.size (.tmp 17) (.tmp 19) 44 90 (.agg #[.string ⟨#[]⟩, .int .i64 0]) 2 24 rfl rfl Try.underlying44 info90 rfl (by decide) (by decide) (.slice (some ⟨w.heap.size + 1 + 1, 0, none⟩) 0 0) 0 [] A L.length c (kCells L) rfl rfl (ownLitG ((w.alloc (.cells (c5 r b most (now + n) A L.length c) 46)).alloc (.cells c0 46)) w.heap.size 90 2 #[] 0 (by simp) (by omega) (by decide) rfl) HK.out ((ownReadsN (HR.out.kept0 HE.out) (by omega)).mono0 ((Ext.refl _ _).alloc _)) (k_one L) (by omega) (by simp; omega) ?_; intro A3 c3 w3 ho3 hE3 _; have hb3 := hE3.blk (blkAlloc HB.out (.cells #[] 90)) (fun h => absurd (own_is h) (by omega)); have hr3 := hE3.blk (blkAlloc HS.out (.cells #[] 90)) (fun h => absurd (own_is h) (by omega)); have HM := Lib.hid (Md.lay hb3 hr3 ((HE.out.alloc _).trans hE3 (fun x hx => .inr (by have := own_is hx; omega))) (by simpa [RL] using ho3)); obtain ⟨_, _, _, _, _, f4⟩ := cells5 hb3; clear hb3 hr3 ho3 hE3)
  clear HB HS HE HR HK
  go_loopw [5] (fun v wr => ∃ i : Nat, v = .int .i64 i ∧ i ≤ L.length ∧ Hid (Md w wr r b most (now + n) A3 c3 (upto (gT r b n) L i))) (fun v _ => L.length - (intOf v).toNat)
  case atStart => exact ⟨0, rfl, by omega, Lib.hid (by rw [upto_zero]; exact HM.out)⟩
  case round =>
    clear HM f4
    obtain ⟨i, rfl, hi, HM⟩ := hrel
    by_cases hlt : i < L.length
    · have hlt' : (i : Int) < L.length := by omega
      obtain ⟨⟨k, t⟩, hp⟩ : ∃ p, L[i]? = some p := ⟨_, List.getElem?_eq_getElem hlt⟩
      have hp2 := (upto_get (gT r b n) L i).trans hp
      have hM := HM.out
      have c4 := (cells5 hM.box).1.2.2.2.2
      have hMd := hM.drew
      obtain ⟨⟨d0, d1, d2, d3, d4⟩, _⟩ := cells5 hMd.box
      rw [upto_len] at c4 d4
      obtain ⟨gn, rfl, _, hx2⟩ := hMd.row.at (i := i) (by rw [upto_len]; exact hlt)
      have q1 := (hx2 _ (Ext.refl _ _) i _ hp2).2
      have fq := hMd.row.frozenAt (i * 2 + 1)
      have hbt := HN.out _ (List.mem_of_getElem? hp)
      have hbt : 0 ≤ t ∧ t ≤ b := hbt
      obtain ⟨v, hv⟩ : ∃ v, min b (t + r * n) = v := ⟨_, rfl⟩
      have hM4 := (hM.set hp2 v).drew
      have hs := upto_set (gT r b n) hp
      rw [show gT r b n (k, t) = (k, v) by rw [← hv]] at hs
      rw [hs] at hM4
      have HM4 := Lib.hid hM4
      clear hx2 hM hMd hp hp2 hM4 hs d2 d3
      by_cases hle : t + r * n < b
      · obtain rfl : v = t + r * n := by omega
        have hle2 : ¬ b ≤ t + r * n := by omega
        clear hv
        go_wp2_with fail
        go_region
        all_goals
          clear d0 d1 d4 q1 fq c4
          obtain ⟨w5, hw5⟩ : ∃ w5, (wr.setCell ⟨gn, i * 2 + 1, none⟩ (.int .i64 (t + r * n))).drew = w5 := ⟨_, rfl⟩
          rw [hw5] at HM4
          simp only [hw5]
          clear hw5
          go_wp2
          go_roundw
          case rel => exact ⟨i + 1, by go_num, by omega, HM4⟩
          case measure => simp only [intOf]; omega
      · obtain rfl : v = b := by omega
        have hle2 : v ≤ t + r * n := by omega
        clear hv
        go_wp2_with fail
        go_region
        all_goals
          clear d0 d1 d4 q1 fq c4
          obtain ⟨w5, hw5⟩ : ∃ w5, (wr.setCell ⟨gn, i * 2 + 1, none⟩ (.int .i64 v)).drew = w5 := ⟨_, rfl⟩
          rw [hw5] at HM4
          simp only [hw5]
          clear hw5
          go_wp2
          go_roundw
          case rel => exact ⟨i + 1, by go_num, by omega, HM4⟩
          case measure => simp only [intOf]; omega
    · have hlt' : ¬ (i : Int) < L.length := by omega
      obtain rfl : i = L.length := by omega
      obtain ⟨⟨e0, e1, e2, e3, e4⟩, _⟩ := cells5 HM.out.box
      obtain ⟨_, g0, g1, g2, g3, g4⟩ := cells5 HM.out.res
      rw [upto_len] at e4
      have hM := HM.out
      rw [upto_all] at hM
      obtain ⟨d1, d2, d3⟩ := hM.done
      rw [List.length_map] at d1 d2 d3
      obtain ⟨W5, hW5⟩ : ∃ W5, put5 wr (w.heap.size + 1) (.int .i64 r) (.int .i64 b) (.int .i64 most) (.int .i64 (now + n)) (.slice A3 L.length c3) = W5 := ⟨_, rfl⟩
      unfold put5 at hW5
      rw [hW5] at d1 d2 d3
      have HD := Lib.hid (And.intro d2 d3)
      obtain ⟨⟨k0, k1, k2, k3, k4⟩, _⟩ := cells5 d1
      clear HM hM d1 d2 d3
      go_wp2
      try simp only [hW5]
      clear hW5
      refine bodyPost_ret (v := .agg (c5 r b most (now + n) A3 L.length c3)) (by simp [results, Try.results21, go_sem, c5, k0, k1, k2, k3, k4]) rfl ⟨A3, c3, rfl, HD.out.1, HD.out.2⟩
set_option maxRecDepth 100000 in
set_option maxHeartbeats 1000000 in
theorem rtick_2 (base : Nat) (r b most now : Int) (A : Option Addr) (c : Nat) (L : Kr) (n : Int) (w : World) (h : RL base w A c L) (hl : L.length ≤ 1000) (hr : 1 ≤ r ∧ r ≤ 1048576) (hb : 1 ≤ b ∧ b ≤ 1073741824) (hN : ∀ p ∈ L, 0 ≤ p.2 ∧ p.2 ≤ b) (hn : 1073741824 < n) (h0 : 0 ≤ now) (hw : now + 1073741824 < 4611686018427387904) :
    Calls Try.prog 21 #[.agg #[.int .i64 r, .int .i64 b, .int .i64 most, .int .i64 now, .slice A L.length c], .int .i64 n] w fun e w' =>
      ∃ A c, e = .returned (.agg (c5 r b most (now + 1073741824) A (L.map (gT r b 1073741824)).length c)) ∧ RL w.heap.size w' A c (L.map (gT r b 1073741824)) ∧ Ext N0 w w' := by
  have hx : 0 ≤ r * 1073741824 ∧ r * 1073741824 ≤ 1125899906842624 := ⟨by omega, by omega⟩
  have hE0 : Ext N0 w ((w.alloc (.cells (c5 r b most (now + 1073741824) A L.length c) 46)).alloc (.cells c0 46)) := ((Ext.refl _ _).alloc _).alloc _
  have HB := Lib.hid (blkAlloc (blkNew w (.cells (c5 r b most (now + 1073741824) A L.length c) 46)) (.cells c0 46))
  have HS := Lib.hid (blkNewG (w.alloc (.cells (c5 r b most (now + 1073741824) A L.length c) 46)) (.cells c0 46) (g := w.heap.size + 1) (by simp))
  have HE := Lib.hid hE0
  have HR := Lib.hid h
  have HK := Lib.hid (kCells_len L)
  have HN := Lib.hid hN
  clear hE0 h hN
  go_enter Try.func21, Try.ntmps21
  go_wp2_with (at_builtin; refine wpApp w.heap.size (.tmp 17) (.tmp 19) 44 90 (.agg #[.string ⟨#[]⟩, .int .i64 0]) 2 24 rfl rfl Try.underlying44 info90 rfl (by decide) (by decide) (.slice (some ⟨w.heap.size + 1 + 1, 0, none⟩) 0 0) 0 [] A L.length c (kCells L) rfl rfl (ownLitG ((w.alloc (.cells (c5 r b most (now + 1073741824) A L.length c) 46)).alloc (.cells c0 46)) w.heap.size 90 2 #[] 0 (by simp) (by omega) (by decide) rfl) HK.out ((ownReadsN (HR.out.kept0 HE.out) (by omega)).mono0 ((Ext.refl _ _).alloc _)) (k_one L) (by omega) (by simp; omega) ?_; intro A3 c3 w3 ho3 hE3 _; have hb3 := hE3.blk (blkAlloc HB.out (.cells #[] 90)) (fun h => absurd (own_is h) (by omega)); have hr3 := hE3.blk (blkAlloc HS.out (.cells #[] 90)) (fun h => absurd (own_is h) (by omega)); have HM := Lib.hid (Md.lay hb3 hr3 ((HE.out.alloc _).trans hE3 (fun x hx => .inr (by have := own_is hx; omega))) (by simpa [RL] using ho3)); obtain ⟨_, _, _, _, _, f4⟩ := cells5 hb3; clear hb3 hr3 ho3 hE3)
  clear HB HS HE HR HK
  go_loopw [5] (fun v wr => ∃ i : Nat, v = .int .i64 i ∧ i ≤ L.length ∧ Hid (Md w wr r b most (now + 1073741824) A3 c3 (upto (gT r b 1073741824) L i))) (fun v _ => L.length - (intOf v).toNat)
  case atStart => exact ⟨0, rfl, by omega, Lib.hid (by rw [upto_zero]; exact HM.out)⟩
  case round =>
    clear HM f4
    obtain ⟨i, rfl, hi, HM⟩ := hrel
    by_cases hlt : i < L.length
    · have hlt' : (i : Int) < L.length := by omega
      obtain ⟨⟨k, t⟩, hp⟩ : ∃ p, L[i]? = some p := ⟨_, List.getElem?_eq_getElem hlt⟩
      have hp2 := (upto_get (gT r b 1073741824) L i).trans hp
      have hM := HM.out
      have c4 := (cells5 hM.box).1.2.2.2.2
      have hMd := hM.drew
      obtain ⟨⟨d0, d1, d2, d3, d4⟩, _⟩ := cells5 hMd.box
      rw [upto_len] at c4 d4
      obtain ⟨gn, rfl, _, hx2⟩ := hMd.row.at (i := i) (by rw [upto_len]; exact hlt)
      have q1 := (hx2 _ (Ext.refl _ _) i _ hp2).2
      have fq := hMd.row.frozenAt (i * 2 + 1)
      have hbt := HN.out _ (List.mem_of_getElem? hp)
      have hbt : 0 ≤ t ∧ t ≤ b := hbt
      obtain ⟨v, hv⟩ : ∃ v, min b (t + r * 1073741824) = v := ⟨_, rfl⟩
      have hM4 := (hM.set hp2 v).drew
      have hs := upto_set (gT r b 1073741824) hp
      rw [show gT r b 1073741824 (k, t) = (k, v) by rw [← hv]] at hs
      rw [hs] at hM4
      have HM4 := Lib.hid hM4
      clear hx2 hM hMd hp hp2 hM4 hs d2 d3
      by_cases hle : t + r * 1073741824 < b
      · exfalso
        omega
      · obtain rfl : v = b := by omega
        have hle2 : v ≤ t + r * 1073741824 := by omega
        clear hv
        go_wp2_with fail
        go_region
        all_goals
          clear d0 d1 d4 q1 fq c4
          obtain ⟨w5, hw5⟩ : ∃ w5, (wr.setCell ⟨gn, i * 2 + 1, none⟩ (.int .i64 v)).drew = w5 := ⟨_, rfl⟩
          rw [hw5] at HM4
          simp only [hw5]
          clear hw5
          go_wp2
          go_roundw
          case rel => exact ⟨i + 1, by go_num, by omega, HM4⟩
          case measure => simp only [intOf]; omega
    · have hlt' : ¬ (i : Int) < L.length := by omega
      obtain rfl : i = L.length := by omega
      obtain ⟨⟨e0, e1, e2, e3, e4⟩, _⟩ := cells5 HM.out.box
      obtain ⟨_, g0, g1, g2, g3, g4⟩ := cells5 HM.out.res
      rw [upto_len] at e4
      have hM := HM.out
      rw [upto_all] at hM
      obtain ⟨d1, d2, d3⟩ := hM.done
      rw [List.length_map] at d1 d2 d3
      obtain ⟨W5, hW5⟩ : ∃ W5, put5 wr (w.heap.size + 1) (.int .i64 r) (.int .i64 b) (.int .i64 most) (.int .i64 (now + 1073741824)) (.slice A3 L.length c3) = W5 := ⟨_, rfl⟩
      unfold put5 at hW5
      rw [hW5] at d1 d2 d3
      have HD := Lib.hid (And.intro d2 d3)
      obtain ⟨⟨k0, k1, k2, k3, k4⟩, _⟩ := cells5 d1
      clear HM hM d1 d2 d3
      go_wp2
      try simp only [hW5]
      clear hW5
      refine bodyPost_ret (v := .agg (c5 r b most (now + 1073741824) A3 L.length c3)) (by simp [results, Try.results21, go_sem, c5, k0, k1, k2, k3, k4]) rfl ⟨A3, c3, rfl, HD.out.1, HD.out.2⟩
end Go.Proofs.Ythjeaalnlagpbaa
