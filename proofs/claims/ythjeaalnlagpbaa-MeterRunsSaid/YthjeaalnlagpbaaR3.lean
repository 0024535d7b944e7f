/- Contracts of the document's answer for package meter: New, Tokens, Wait (the conditions stand in the statements). -/
import Derived.Test.YthjeaalnlagpbaaR2
namespace Go.Proofs.Ythjeaalnlagpbaa
open Go.RowKit
theorem rnew_good (r b most : Int) (w : World) (h : NewOk r b most) : Calls Try.prog 15 #[.int .i64 r, .int .i64 b, .int .i64 most] w fun e w' =>
    e = .returned (.tuple #[.agg #[.int .i64 r, .int .i64 b, .int .i64 most, .int .i64 0, .slice none 0 0], .int .i64 0]) ∧ Ext N0 w w' := by
  obtain ⟨h1, h2, h3⟩ := h
  go_enter Try.func15, Try.ntmps15
  go_wp2_with (go_at_call 37; refine (within_yes _ _ _ _ ?hc).mono ?_; (case hc => omega); rintro e w' ⟨rfl, hw⟩; subst hw)
  have k := blkNew w (.cells #[.int .i64 r, .int .i64 b, .int .i64 most, .int .i64 0, .slice none 0 0] 46)
  refine bodyPost_ret (v := .tuple #[.agg #[.int .i64 r, .int .i64 b, .int .i64 most, .int .i64 0, .slice none 0 0], .int .i64 0]) (by simp [results, Try.results15, go_sem]) rfl ⟨rfl, (Ext.refl _ _).alloc _⟩
theorem rnew_bad (r b most : Int) (w : World) (h : ¬ NewOk r b most) : Calls Try.prog 15 #[.int .i64 r, .int .i64 b, .int .i64 most] w fun e w' =>
    e = .returned (.tuple #[.agg #[.int .i64 0, .int .i64 0, .int .i64 0, .int .i64 0, .slice none 0 0], .int .i64 350]) ∧ Ext N0 w w' := by
  unfold NewOk at h
  have hs : ¬ (1 ≤ r ∧ r ≤ 1048576) ∨ ((1 ≤ r ∧ r ≤ 1048576) ∧ ¬ (1 ≤ b ∧ b ≤ 1073741824)) ∨ ((1 ≤ r ∧ r ≤ 1048576) ∧ (1 ≤ b ∧ b ≤ 1073741824) ∧ ¬ (1 ≤ most ∧ most ≤ 1000)) := by omega
  clear h
  rcases hs with h | ⟨h1, h⟩ | ⟨h1, h2, h⟩
  all_goals
    go_enter Try.func15, Try.ntmps15
    go_wp2_with (first
      | (go_at_call 37; refine (within_no _ _ _ _ ?hc).mono ?_; (case hc => omega); rintro e w' ⟨rfl, hw⟩; subst hw)
      | (go_at_call 37; refine (within_yes _ _ _ _ ?hc).mono ?_; (case hc => omega); rintro e w' ⟨rfl, hw⟩; subst hw))
    refine bodyPost_ret (v := .tuple #[.agg #[.int .i64 0, .int .i64 0, .int .i64 0, .int .i64 0, .slice none 0 0], .int .i64 350]) (by simp [results, Try.results15, go_sem]) rfl ⟨rfl, (Ext.refl _ _).alloc _⟩
set_option maxRecDepth 100000 in
set_option maxHeartbeats 1000000 in
theorem rtok_calls (base : Nat) (m : Mt ByteArray) (A : Option Addr) (c : Nat) (k : ByteArray) (w : World) (h : RL base w A c m.rows) (hok : m.Ok) :
    Calls Try.prog 25 #[.agg #[.int .i64 m.r, .int .i64 m.b, .int .i64 m.most, .int .i64 m.now, .slice A m.rows.length c], .string k] w fun e w' => e = .returned (.int .i64 (m.tok k)) ∧ Ext N0 w w' := by
  have hl := rows_len m
  have hlen := hok.len
  have hmost := hok.most
  have hE0 : Ext N0 w (w.alloc (.cells #[.int .i64 m.r, .int .i64 m.b, .int .i64 m.most, .int .i64 m.now, .slice A m.rows.length c] 46)) := (Ext.refl _ _).alloc _
  have HF := Lib.hid (find_calls base m.r m.b m.most m.now A c m.rows k _ (h.kept0 hE0) (by omega))
  have b1 := (blkCell (blkNew w (.cells #[.int .i64 m.r, .int .i64 m.b, .int .i64 m.most, .int .i64 m.now, .slice A m.rows.length c] 46)) 1).trans rfl
  have b4 := (blkCell (blkNew w (.cells #[.int .i64 m.r, .int .i64 m.b, .int .i64 m.most, .int .i64 m.now, .slice A m.rows.length c] 46)) 4).trans rfl
  have B1 := Lib.hid b1
  have B4 := Lib.hid b4
  have HE := Lib.hid hE0
  have HR := Lib.hid h
  by_cases hk : k ∈ m.ks
  · have hp := rows_in hk
    have hpl := (List.getElem?_eq_some_iff.1 hp).1
    have hg := rows_get hp
    obtain ⟨f, hf⟩ : ∃ f, findK m.rows k = f := ⟨_, rfl⟩
    rw [hf] at HF hpl hg
    obtain ⟨g, rfl, hgl, hcell⟩ := h.at (i := f) (by omega)
    have HC := Lib.hid hcell
    have HG := Lib.hid hg
    have hff : ¬ (f : Int) = m.rows.length := by omega
    have hfl : (f : Int) < m.rows.length := by omega
    clear hp hpl hf hcell hg hk h hE0 b1 b4 hl hlen
    go_enter Try.func25, Try.ntmps25
    go_wp2_with (go_at_call 41; refine HF.out.mono ?_; rintro e w2 ⟨rfl, hE2⟩; have c1 := hE2.cell B1.out (fun x => x); have c4 := hE2.cell B4.out (fun x => x); have d1 := (HC.out _ (HE.out.then0 hE2) f _ HG.out).2; simp at c1 c4; have HX := Lib.hid (HE.out.then0 hE2); clear hE2)
    go_ret
    exact ⟨rfl, HX.out⟩
  · have hf := rows_out hk
    rw [← hl] at hf
    rw [hf] at HF
    rw [tok_out hk]
    clear hf hk h hE0 b1 b4 hl hlen
    go_enter Try.func25, Try.ntmps25
    go_wp2_with (go_at_call 41; refine HF.out.mono ?_; rintro e w2 ⟨rfl, hE2⟩; have c1 := hE2.cell B1.out (fun x => x); have c4 := hE2.cell B4.out (fun x => x); simp at c1 c4; have HX := Lib.hid (HE.out.then0 hE2); clear hE2)
    go_ret
    exact ⟨rfl, HX.out⟩
set_option maxRecDepth 100000 in
set_option maxHeartbeats 1000000 in
theorem rwait_calls (base : Nat) (m : Mt ByteArray) (A : Option Addr) (c : Nat) (k : ByteArray) (n : Int) (w : World) (h : RL base w A c m.rows) (hok : m.Ok) :
    Calls Try.prog 23 #[.agg #[.int .i64 m.r, .int .i64 m.b, .int .i64 m.most, .int .i64 m.now, .slice A m.rows.length c], .string k, .int .i64 n] w fun e w' => e = .returned (.tuple #[.int .i64 (m.waits k n).1, .bool (m.waits k n).2]) ∧ Ext N0 w w' := by
  have hb := hok.b
  have hr := hok.r
  have ht := hok.tok k
  have hE0 : Ext N0 w (w.alloc (.cells #[.int .i64 m.r, .int .i64 m.b, .int .i64 m.most, .int .i64 m.now, .slice A m.rows.length c] 46)) := (Ext.refl _ _).alloc _
  have HF := Lib.hid (rtok_calls base m A c k _ (h.kept0 hE0) hok)
  have b0 := (blkCell (blkNew w (.cells #[.int .i64 m.r, .int .i64 m.b, .int .i64 m.most, .int .i64 m.now, .slice A m.rows.length c] 46)) 0).trans rfl
  have B0 := Lib.hid b0
  have HE := Lib.hid hE0
  unfold Mt.waits
  by_cases hn : n < 1 ∨ m.b < n
  · rw [if_pos hn]
    clear h hE0 b0 ht
    go_enter Try.func23, Try.ntmps23
    go_wp2_with (go_at_call 37; refine (within_no _ _ _ _ ?hc).mono ?_; (case hc => omega); rintro e w' ⟨rfl, hw⟩; subst hw)
    refine bodyPost_ret (v := .tuple #[.int .i64 0, .bool false]) (by simp [results, Try.results23, go_sem]) rfl ⟨rfl, HE.out⟩
  · rw [if_neg hn]
    obtain ⟨t, htt⟩ : ∃ t, m.tok k = t := ⟨_, rfl⟩
    rw [htt] at HF ht ⊢
    have hw1 : IntKind.i64.wrap (n - t) = n - t := IntWalk.i64_in _ (by omega)
    by_cases hlk : n - t ≤ 0
    · have e0 : (max 0 (n - t) + m.r - 1) / m.r = 0 := by
        rw [show max 0 (n - t) + m.r - 1 = m.r - 1 by omega]
        exact Int.ediv_eq_zero_of_lt (by omega) (by omega)
      rw [e0]
      clear h hE0 b0 e0 htt
      go_enter Try.func23, Try.ntmps23
      go_wp2_with (first
        | (go_at_call 37; refine (within_yes _ _ _ _ ?hc).mono ?_; (case hc => omega); rintro e w' ⟨rfl, hw⟩; subst hw)
        | (go_at_call 25; refine HF.out.mono ?_; rintro e w2 ⟨rfl, hE2⟩; have HX := Lib.hid (HE.out.then0 hE2); clear hE2))
      refine bodyPost_ret (v := .tuple #[.int .i64 0, .bool true]) (by simp [results, Try.results23, go_sem]) rfl ⟨rfl, HX.out⟩
    · obtain ⟨q, hq⟩ : ∃ q, (n - t + m.r - 1) / m.r = q := ⟨_, rfl⟩
      rw [show max 0 (n - t) + m.r - 1 = n - t + m.r - 1 by omega, hq]
      have hw2 : IntKind.i64.wrap (n - t + m.r) = n - t + m.r := IntWalk.i64_in _ (by omega)
      have hw3 : IntKind.i64.wrap (n - t + m.r - 1) = n - t + m.r - 1 := IntWalk.i64_in _ (by omega)
      have hq0 : (n - t + m.r - 1).tdiv m.r = q := by rw [Int.tdiv_eq_ediv_of_nonneg (by omega)]; exact hq
      have hz : (m.r == 0) = false := beq_eq_false_iff_ne.mpr (by omega)
      have hq1 : 0 ≤ q := by rw [← hq]; exact Int.ediv_nonneg (by omega) (by omega)
      have hq2 : q ≤ n - t + m.r - 1 := by rw [← hq]; exact Int.ediv_le_self _ (by omega)
      have hq3 : IntKind.i64.wrap q = q := IntWalk.i64_in _ (by omega)
      clear h hE0 b0 htt hq
      go_enter Try.func23, Try.ntmps23
      go_wp2_with (first
        | (go_at_call 37; refine (within_yes _ _ _ _ ?hc).mono ?_; (case hc => omega); rintro e w' ⟨rfl, hw⟩; subst hw)
        | (go_at_call 25; refine HF.out.mono ?_; rintro e w2 ⟨rfl, hE2⟩; have c0 := hE2.cell B0.out (fun x => x); simp at c0; have HX := Lib.hid (HE.out.then0 hE2); clear hE2))
      refine bodyPost_ret (v := .tuple #[.int .i64 q, .bool true]) (by simp [results, Try.results23, go_sem]) rfl ⟨rfl, HX.out⟩
end Go.Proofs.Ythjeaalnlagpbaa
