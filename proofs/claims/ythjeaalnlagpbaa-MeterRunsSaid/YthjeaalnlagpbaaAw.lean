/- The page's example of the meter comes out as it should. -/
import Derived.Test.YthjeaalnlagpbaaMI3
namespace Go.Proofs.Ythjeaalnlagpbaa
open Go.RowKit Go.Maps
theorem Ext.of_tc {TB KT : TypeId} {w w' : World} (h : Ext (Tc TB KT w.heap.size w) w w') : Ext N0 w w' := h.mono (fun k hk hs => by have := hs.1; omega)
theorem new_goodI (r b most : Int) (w : World) (hc : NewOk r b most) : Calls Try.prog 29 #[.int .i64 r, .int .i64 b, .int .i64 most] w fun e w' => e = .returned (.tuple #[.pointer (some ⟨w.heap.size + 1, 0, none⟩), .int .i64 0]) ∧ IsMI w.heap.size w' (w.heap.size + 1) ⟨r, b, most, 0, [], fun _ => (0, 0)⟩ 0 ∧ Ext N0 w w' := by
  refine (new_callsI r b most w).mono ?_
  rintro e w' (⟨_, h⟩ | ⟨hx, _⟩)
  · exact h
  · exact absurd hc hx
theorem new_badI (r b most : Int) (w : World) (hc : ¬ NewOk r b most) : Calls Try.prog 29 #[.int .i64 r, .int .i64 b, .int .i64 most] w fun e w' => e = .returned (.tuple #[.pointer none, .int .i64 350]) ∧ w' = w := by
  refine (new_callsI r b most w).mono ?_
  rintro e w' (⟨hx, _⟩ | ⟨_, h⟩)
  · exact absurd hx hc
  · exact h
noncomputable def aw0 : Mt Int := ⟨2, 5, 3, 0, [], fun _ => (0, 0)⟩
theorem aw_err : aw0.err 7 4 = 0 := by simp [Mt.err, aw0]
theorem aw_tok : (aw0.ask 7 4).tok 7 = 5 := by
  unfold Mt.ask
  rw [if_pos ⟨aw_err, by simp [aw0]⟩]
  simp [Mt.tok, Mt.set, Mt.push, aw0, afterV]
theorem aw_tok1 : (aw0.force 7 4).tok 7 = 1 := by
  unfold Mt.force
  rw [aw_tok]
  unfold Mt.ask
  rw [if_pos ⟨aw_err, by simp [aw0]⟩]
  simp [Mt.tok, Mt.set, Mt.push, aw0, afterV]
  decide
theorem aw_tok2 : (aw0.force 7 4).tok 8 = 5 := by
  unfold Mt.force Mt.ask
  rw [if_pos ⟨aw_err, by simp [aw0]⟩]
  simp [Mt.tok, Mt.set, Mt.push, aw0]
theorem aw_wait : (aw0.force 7 4).waits 7 4 = (2, true) := by
  have h : (aw0.force 7 4).b = 5 ∧ (aw0.force 7 4).r = 2 := ⟨(Mt.ask_now _ _ _).2.1, (Mt.ask_now _ _ _).2.2.1⟩
  unfold Mt.waits
  rw [aw_tok1, h.1, h.2]
  rfl
set_option maxHeartbeats 1000000 in
set_option maxRecDepth 100000 in
theorem awake_calls (w : World) : Calls Try.prog 8 #[] w fun e w' => e = .returned (.bool true) ∧ Ext N0 w w' := by
  have hok : aw0.Ok := NewOk.ok (by unfold NewOk; omega) _
  have hok1 : (aw0.force 7 4).Ok := hok.force 7 4 (by omega)
  have k7 : keyOf Try.prog 3 (.int .i64 7) = some (.int .i64 7) := keyOf_int_mk Try.underlying3 (by decide)
  have k8 : keyOf Try.prog 3 (.int .i64 8) = some (.int .i64 8) := keyOf_int_mk Try.underlying3 (by decide)
  have HT : Hid (∀ w1, w.heap.size ≤ w1.heap.size → IsMI w.heap.size w1 (w.heap.size + 1) aw0 0 → Calls Try.prog 30 #[.pointer (some ⟨w.heap.size + 1, 0, none⟩), .int .i64 7, .int .i64 4] w1 fun e w' => e = .returned (.tuple #[.bool true, .int .i64 0]) ∧ IsMI w.heap.size w' (w.heap.size + 1) (aw0.force 7 4) 3 ∧ Ext (TcI w.heap.size w1) w1 w') := by
    refine Lib.hid (fun w1 hw1 h1 => (take_callsI w.heap.size (w.heap.size + 1) 0 aw0 7 4 w1 h1 hok k7 (by omega) hw1).mono ?_)
    rintro e w' (⟨_, _, h⟩ | ⟨_, h, _⟩ | ⟨h, _⟩)
    · exact h
    · rw [aw_tok] at h; omega
    · exact absurd aw_err h
  have HW : Hid (∀ w1, IsMI w.heap.size w1 (w.heap.size + 1) (aw0.force 7 4) 3 → Calls Try.prog 31 #[.pointer (some ⟨w.heap.size + 1, 0, none⟩), .int .i64 7, .int .i64 4] w1 fun e w' => e = .returned (.tuple #[.int .i64 2, .bool true]) ∧ Ext N0 w1 w') := by
    refine Lib.hid (fun w1 h1 => ?_)
    have := wait_callsI w.heap.size (w.heap.size + 1) 3 (aw0.force 7 4) 7 4 w1 h1 hok1 k7
    rw [aw_wait] at this
    exact this
  have H7 : Hid (∀ w1, IsMI w.heap.size w1 (w.heap.size + 1) (aw0.force 7 4) 3 → Calls Try.prog 32 #[.pointer (some ⟨w.heap.size + 1, 0, none⟩), .int .i64 7] w1 fun e w' => e = .returned (.int .i64 1) ∧ Ext N0 w1 w') := by
    refine Lib.hid (fun w1 h1 => ?_)
    have := tok_callsI w.heap.size (w.heap.size + 1) 3 (aw0.force 7 4) 7 w1 h1 hok1 k7
    rw [aw_tok1] at this
    exact this
  have H8 : Hid (∀ w1, IsMI w.heap.size w1 (w.heap.size + 1) (aw0.force 7 4) 3 → Calls Try.prog 32 #[.pointer (some ⟨w.heap.size + 1, 0, none⟩), .int .i64 8] w1 fun e w' => e = .returned (.int .i64 5) ∧ Ext N0 w1 w') := by
    refine Lib.hid (fun w1 h1 => ?_)
    have := tok_callsI w.heap.size (w.heap.size + 1) 3 (aw0.force 7 4) 8 w1 h1 hok1 k8
    rw [aw_tok2] at this
    exact this
  clear hok hok1 k7 k8
  go_enter Try.func8, Try.ntmps8
  go_wp2_with (first
    | (go_at_call 29; have hx := hM2; clear hx; refine (new_badI 0 5 3 _ (by unfold NewOk; omega)).mono ?_; rintro e w4 ⟨rfl, rfl⟩)
    | (go_at_call 29; refine (new_goodI 2 5 3 _ (by unfold NewOk; omega)).mono ?_; rintro e w1 ⟨rfl, hM, hE⟩)
    | (go_at_call 30; refine (HT.out _ hE.size hM).mono ?_; rintro e w2 ⟨rfl, hM2, hE2'⟩; have hE2 := Ext.of_tc (tcTrans (Ext.of0 hE) hE2'); clear hE2' hM hE)
    | (go_at_call 31; refine (HW.out _ hM2).mono ?_; rintro e w3 ⟨rfl, hE3⟩; have hM3 := hM2.kept0 hE3)
    | (go_at_call 32; have hx := hE5; clear hx; refine (H8.out _ (hM3.kept0 hE5)).mono ?_; rintro e w6 ⟨rfl, hE6⟩)
    | (go_at_call 32; refine (H7.out _ hM3).mono ?_; rintro e w5 ⟨rfl, hE5⟩))
  go_ret
  exact ⟨rfl, ((hE2.then0 hE3).then0 hE5).then0 hE6⟩
end Go.Proofs.Ythjeaalnlagpbaa
