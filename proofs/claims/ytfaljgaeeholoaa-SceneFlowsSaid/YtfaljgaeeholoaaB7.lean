/- Contracts of the document's answer for package scene, each proved for every value that its statement lets in (the conditions stand in the statements). -/
import Derived.Test.YtfaljgaeeholoaaB6
namespace Go.Proofs.Ytfaljgaeeholoaa
open Go.RowKit
/-- Two cells of a block set. -/
theorem set2 {w : World} {g : Nat} {t : TypeId} {a b x y : Value} (h : w.heap[g]? = some (.cells #[a, b] t (0, 0))) : ((w.setCell ⟨g, 0, none⟩ x).setCell ⟨g, 1, none⟩ y).heap[g]? = some (.cells #[x, y] t (0, 0)) ∧ Ext (At g) w ((w.setCell ⟨g, 0, none⟩ x).setCell ⟨g, 1, none⟩ y) := by
  refine ⟨(blkSet (blkSet h 0 x) 1 y).trans (by simp), ?_⟩
  have h0 : Ext (At g) w (w.setCell ⟨g, 0, none⟩ x) := by
    refine (Ext.refl (At g) w).setCell (.inl ?_) _
    rfl
  refine h0.setCell (.inl ?_) _
  rfl
set_option maxRecDepth 100000 in
theorem rbelow_calls (seed : Int) (n : Nat) (k : Int) (w : World) (hn : n ≤ 1000000000) (hk : 1 ≤ k ∧ k ≤ 4611686018427387904) :
    Calls Try.prog 24 #[.agg #[.int .u64 seed, .int .i64 n], .int .i64 k] w fun e w' => e = .returned (.tuple #[.agg #[.int .u64 seed, .int .i64 ((n + 1 : Nat) : Int)], .int .i64 (belowV seed n k)]) ∧ Ext N0 w w' := by
  have hq := belowV_in seed n hk.1
  have hu := in64_at seed n
  have e1 : (atV seed n).tmod k = belowV seed n k := Int.tmod_eq_emod_of_nonneg hu.1
  have e2 : IntKind.u64.wrap k = k := by rw [IntKind.wrap_u64]; omega
  have e3 : (k == 0) = false := beq_eq_false_iff_ne.mpr (by omega)
  have hc : ((n + 1 : Nat) : Int) = (n : Int) + 1 := by push_cast; rfl
  have HN := Lib.hid (fun W => rnext_calls seed n W hn)
  rw [hc] at HN ⊢
  obtain ⟨q, hqe⟩ : ∃ q, belowV seed n k = q := ⟨_, rfl⟩
  rw [hqe] at hq e1 ⊢
  have hw6 : IntKind.i64.wrap q = q := IntWalk.i64_in _ (by omega)
  clear hu hqe hc
  go_enter Try.func24, Try.ntmps24
  go_wp2_with (go_at_call 28; refine (HN.out _).mono ?_; rintro e w2 ⟨rfl, hE⟩; have bA := hE.blk0 (blkAlloc (blkNew w (.cells #[.int .u64 seed, .int .i64 n] 51)) (.cells #[.int .u64 0, .int .i64 0] 51)); have bB := hE.blk0 (blkNewG (w.alloc (.cells #[.int .u64 seed, .int .i64 n] 51)) (.cells #[.int .u64 0, .int .i64 0] 51) (g := w.heap.size + 1) (by simp)); have fA0 := blkFrozen bA 0; have fA1 := blkFrozen bA 1; have cA0 := (blkCell bA 0).trans rfl; have cA1 := (blkCell bA 1).trans rfl; have sA := set2 (x := .int .u64 seed) (y := .int .i64 (n + 1)) bA; have bB2 := sA.2.blk bB (show ¬ w.heap.size + 1 = w.heap.size by omega); have dA0 := (blkCell (blkDrew sA.1 1) 0).trans rfl; have dA1 := (blkCell (blkDrew sA.1 1) 1).trans rfl; have dB0 := (blkCell (blkDrew bB2 1) 0).trans rfl; have dB1 := (blkCell (blkDrew bB2 1) 1).trans rfl; have fB0 := blkFrozen bB2 0; have fB1 := blkFrozen bB2 1; simp at cA0 cA1 dA0 dA1 dB0 dB1; have sB := set2 (x := .int .u64 seed) (y := .int .i64 (n + 1)) bB2; have HE := Lib.hid (((((Ext.refl N0 w).alloc _).alloc _).then0 hE).trans sA.2 (fun x hx => .inr (by have hx : x = w.heap.size := hx; omega))); have HSB := Lib.hid sB; clear bA bB sA bB2 sB hE)
  go_region
  all_goals
    go_wp2
    have k0 := (blkCell HSB.out.1 0).trans rfl
    have k1 := (blkCell HSB.out.1 1).trans rfl
    simp at k0 k1
    refine bodyPost_ret (v := .tuple #[.agg #[.int .u64 seed, .int .i64 (n + 1)], .int .i64 q]) (by simp [results, Try.results24, go_sem, k0, k1]) rfl ⟨rfl, ?_⟩
    exact (HE.out.trans HSB.out.2 (fun x hx => .inr (by have hx : x = w.heap.size + 1 := hx; omega))).drew
end Go.Proofs.Ytfaljgaeeholoaa
