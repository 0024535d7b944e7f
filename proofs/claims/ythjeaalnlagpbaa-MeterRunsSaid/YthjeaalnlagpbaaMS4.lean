/- Contracts of functions of package meter at keys of type string, each proved for every value that its statement lets in (the conditions stand in the statements). -/
import Derived.Test.YthjeaalnlagpbaaMS3
namespace Go.Proofs.Ythjeaalnlagpbaa
open Go.RowKit Go.Maps
set_option maxRecDepth 100000 in
/-- Ticks go by. -/
theorem tick_callsS (base g u : Nat) (m : Mt ByteArray) (n : Int) (w : World) (h : IsMS base w g m u) (hok : m.Ok) :
    Calls Try.prog 20 #[.pointer (some ⟨g, 0, none⟩), .int .i64 n] w fun e w' => e = .returned (.tuple #[]) ∧ IsMS base w' g (m.tick n) u ∧ Ext (TcS base w) w w' := by
  obtain ⟨mb, A, c, φ, u', hu', ho, hφ⟩ := h
  have hnow := hok.now
  have c3 := (blkCell ho.blk 3).trans rfl
  have c4 := (blkCell ho.blk 4).trans rfl
  have f3 := blkFrozen ho.blk 3
  simp at c3 c4
  have hT : m.tick n = { m with now := m.now + min (max 0 (min n 1073741824)) (4611686018427387904 - m.now) } := rfl
  rw [hT]
  obtain ⟨d, hd⟩ : ∃ d, min (max 0 (min n 1073741824)) (4611686018427387904 - m.now) = d := ⟨_, rfl⟩
  rw [hd]
  have HF : Hid (IsMS base (w.setCell ⟨g, 3, none⟩ (.int .i64 (m.now + d))).drew g { m with now := m.now + d } u ∧ Ext (TcS base w) w (w.setCell ⟨g, 3, none⟩ (.int .i64 (m.now + d))).drew) := by
    refine Lib.hid ?_
    have hE : Ext (At g) w (w.setCell ⟨g, 3, none⟩ (.int .i64 (m.now + d))).drew := by
      refine ((Ext.refl (At g) w).setCell (.inl ?_) _).drew
      rfl
    refine ⟨⟨mb, A, c, φ, u', hu', ⟨ho.hg, ho.hmb, ?_, ho.mp.kept hE (fun hs => ho.ne (show mb = g from hs).symm), ownKept ho.own hE (fun i hi hs => ownNeBlk ho.own ho.blk (by decide) i hi hs)⟩, hφ⟩, hE.tc (tcBlk ho)⟩
    exact (blkSet ho.blk 3 _).trans (by simp)
  clear ho hφ hT
  have HI : Hid ((if 4611686018427387904 - m.now < (if 0 < (if 1073741824 < n then 1073741824 else n) then (if 1073741824 < n then 1073741824 else n) else 0) then 4611686018427387904 - m.now else (if 0 < (if 1073741824 < n then 1073741824 else n) then (if 1073741824 < n then 1073741824 else n) else 0)) = d) := by
    refine Lib.hid ?_
    rw [← hd]
    (repeat' split) <;> omega
  have hwr : IntKind.i64.wrap (m.now + d) = m.now + d := IntWalk.i64_in _ (by omega)
  clear hd
  have hw2 : IntKind.i64.wrap (4611686018427387904 - m.now) = 4611686018427387904 - m.now := IntWalk.i64_in _ (by omega)
  go_enter Try.func20, Try.ntmps20
  go_wp2_with (go_at_call 40; refine (none_callsS g mb _ c4).mono ?_; rintro e w' ⟨rfl, rfl⟩)
  go_region
  go_end0
  rw [HI.out]
  exact ⟨rfl, HF.out⟩
end Go.Proofs.Ythjeaalnlagpbaa
