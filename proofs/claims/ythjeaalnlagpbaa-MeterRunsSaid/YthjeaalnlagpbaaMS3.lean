/- Contracts of functions of package meter at keys of type string, each proved for every value that its statement lets in (the conditions stand in the statements). -/
import Derived.Test.YthjeaalnlagpbaaMS2
namespace Go.Proofs.Ythjeaalnlagpbaa
open Go.RowKit Go.Maps
set_option maxRecDepth 100000 in
/-- How long to wait. -/
theorem wait_callsS (base g u : Nat) (m : Mt ByteArray) (k : ByteArray) (n : Int) (w : World) (h : IsMS base w g m u) (hok : m.Ok) (hkey : keyOf Try.prog 9 (.string k) = some (.string k.data.toList)) :
    Calls Try.prog 22 #[.pointer (some ⟨g, 0, none⟩), .string k, .int .i64 n] w fun e w' => e = .returned (.tuple #[.int .i64 (m.waits k n).1, .bool (m.waits k n).2]) ∧ Ext N0 w w' := by
  have HT := fun w1 (h1 : IsMS base w1 g m u) => tok_callsS base g u m k w1 h1 hok hkey
  have HS := Lib.hid h
  obtain ⟨mb, A, c, φ, u', hu', ho, hφ⟩ := h
  have ht := hok.tok k
  have hr := hok.r
  have hb := hok.b
  have c0 := (blkCell ho.blk 0).trans rfl
  have c1 := (blkCell ho.blk 1).trans rfl
  have c4 := (blkCell ho.blk 4).trans rfl
  simp at c0 c1 c4
  unfold Mt.waits
  by_cases hn : n < 1 ∨ m.b < n
  · rw [if_pos hn]
    clear ho hφ HT
    by_cases hn1 : n < 1
    · go_enter Try.func22, Try.ntmps22
      go_wp2_with (go_at_call 40; refine (none_callsS g mb _ c4).mono ?_; rintro e w' ⟨rfl, rfl⟩)
      refine bodyPost_ret (v := .tuple #[.int .i64 0, .bool false]) (by simp [results, Try.results22, go_sem]) rfl ⟨rfl, Ext.refl _ _⟩
    · have hn2 : m.b < n := by omega
      go_enter Try.func22, Try.ntmps22
      go_wp2_with (go_at_call 40; refine (none_callsS g mb _ c4).mono ?_; rintro e w' ⟨rfl, rfl⟩)
      refine bodyPost_ret (v := .tuple #[.int .i64 0, .bool false]) (by simp [results, Try.results22, go_sem]) rfl ⟨rfl, Ext.refl _ _⟩
  · rw [if_neg hn]
    have hn1 : ¬ n < 1 := fun h => hn (.inl h)
    have hn2 : ¬ m.b < n := fun h => hn (.inr h)
    obtain ⟨t, htk⟩ : ∃ t, m.tok k = t := ⟨_, rfl⟩
    rw [htk] at HT ht ⊢
    have HC := fun W => wait_calls m.r m.b (n - t) W hr (by omega)
    have hwr : IntKind.i64.wrap (n - t) = n - t := IntWalk.i64_in _ (by omega)
    have HH := Lib.hid (And.intro HC HT)
    have D0 : IsMS base w.drew g m u := HS.out.kept0 (Ext.refl _ _).drew
    have HD := Lib.hid D0
    clear HC HT htk ho hφ hn D0
    go_enter Try.func22, Try.ntmps22
    go_wp2_with (go_at_call 40; refine (none_callsS g mb _ c4).mono ?_; rintro e w' ⟨rfl, rfl⟩)
    go_region_held3 (fun w' => w'.cell? ⟨g, 0, none⟩ = some (.int .i64 m.r) ∧ w'.cell? ⟨g, 1, none⟩ = some (.int .i64 m.b)) (first | go_keep | (refine ⟨?_, ?_⟩ <;> exact hE3.cell (by simp_all) (fun x => x)) | (refine ⟨?_, ?_⟩ <;> exact hE2.cell (by simp_all) (fun x => x)))
      (first | (go_at_call 24; refine (HH.out.2 _ HD.out).mono ?_; rintro e w2 ⟨rfl, hE2⟩) | (go_at_call 36; refine (HH.out.1 _).mono ?_; rintro e w3 ⟨rfl, hE3⟩))
    all_goals
      go_wp2
      refine bodyPost_ret (v := .tuple #[.int .i64 ((max 0 (n - t) + m.r - 1) / m.r), .bool true]) (by simp [results, Try.results22, go_sem]) rfl ⟨rfl, ?_⟩
      exact ((Ext.refl N0 w).drew.then0 hE2).then0 hE3
set_option maxRecDepth 100000 in
/-- A meter is made, or not. -/
theorem new_callsS (r b most : Int) (w : World) :
    Calls Try.prog 14 #[.int .i64 r, .int .i64 b, .int .i64 most] w fun e w' =>
      (NewOk r b most ∧ e = .returned (.tuple #[.pointer (some ⟨w.heap.size + 1, 0, none⟩), .int .i64 0]) ∧ IsMS w.heap.size w' (w.heap.size + 1) ⟨r, b, most, 0, [], fun _ => (0, 0)⟩ 0 ∧ Ext N0 w w') ∨
      (¬ NewOk r b most ∧ e = .returned (.tuple #[.pointer none, .int .i64 350]) ∧ w' = w) := by
  by_cases hc : NewOk r b most
  · have HC := Lib.hid hc
    unfold NewOk at hc
    have h1 : ¬ r < 1 := by omega
    have h2 : ¬ 1048576 < r := by omega
    have h3 : ¬ b < 1 := by omega
    have h4 : ¬ 1073741824 < b := by omega
    have h5 : ¬ most < 1 := by omega
    have h6 : ¬ 1000 < most := by omega
    clear hc
    have hmm := @run_makeMap Try.prog
    go_enter Try.func14, Try.ntmps14
    go_wp2
    refine bodyPost_ret (v := .tuple #[.pointer (some ⟨w.heap.size + 1, 0, none⟩), .int .i64 0]) (by simp [results, Try.results14, go_sem]) rfl ?_
    refine .inl ⟨HC.out, rfl, ⟨w.heap.size, none, 0, fun _ => none, 0, Nat.le_refl _, ⟨by omega, Nat.le_refl _, ?_, ?_, ownNil _ _ _ _⟩, fun k => by simp [Mt.get]⟩, ((Ext.refl _ _).alloc _).alloc _⟩
    · exact blkNewG _ _ (by simp)
    · exact (mpMade w).kept ((Ext.refl N0 _).alloc _) (fun x => x)
  · have HC := Lib.hid hc
    unfold NewOk at hc
    have hs : r < 1 ∨ (¬ r < 1 ∧ 1048576 < r) ∨ (¬ r < 1 ∧ ¬ 1048576 < r ∧ b < 1) ∨ (¬ r < 1 ∧ ¬ 1048576 < r ∧ ¬ b < 1 ∧ 1073741824 < b) ∨ (¬ r < 1 ∧ ¬ 1048576 < r ∧ ¬ b < 1 ∧ ¬ 1073741824 < b ∧ most < 1) ∨ (¬ r < 1 ∧ ¬ 1048576 < r ∧ ¬ b < 1 ∧ ¬ 1073741824 < b ∧ ¬ most < 1 ∧ 1000 < most) := by omega
    clear hc
    rcases hs with h1 | ⟨h1, h2⟩ | ⟨h1, h2, h3⟩ | ⟨h1, h2, h3, h4⟩ | ⟨h1, h2, h3, h4, h5⟩ | ⟨h1, h2, h3, h4, h5, h6⟩
    all_goals
      go_enter Try.func14, Try.ntmps14
      go_wp2
      refine bodyPost_ret (v := .tuple #[.pointer none, .int .i64 350]) (by simp [results, Try.results14, go_sem]) rfl ?_
      exact .inr ⟨HC.out, rfl, rfl⟩
end Go.Proofs.Ythjeaalnlagpbaa
