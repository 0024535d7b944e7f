/- Patterns of package scene, each proved for every value that its statement lets in (the conditions stand in the statements). -/
import Derived.Test.YtfaljgaeeholoaaB3
namespace Go.Proofs.Ytfaljgaeeholoaa
open Go.RowKit
/-- What a pattern gives: the flows of the pairs that are meant. -/
def Gives (h : Nat) (bytes : Int) (mt : Nat → Nat → Bool) (w : World) (e : Ending) (w' : World) : Prop :=
  ∃ A cap, e = .returned (.tuple #[.slice A (meantL h mt (pairsL h).length).length cap, .int .i64 0]) ∧
      w'.ownsRow w.heap.size 28 5 (.slice A (meantL h mt (pairsL h).length).length cap) (meantL h mt (pairsL h).length).length (flowsV bytes (meantL h mt (pairsL h).length)) ∧ Ext N0 w w'
def Bad (w : World) (e : Ending) (w' : World) : Prop := e = .returned (.tuple #[.slice none 0 0, .int .i64 330]) ∧ Ext N0 w w'
theorem incast_good (h : Nat) (dst bytes : Int) (w : World) (hR : RightP h bytes) (hd : 0 ≤ dst ∧ dst ≤ h - 1) :
    Calls Try.prog 7 #[.int .i64 h, .int .i64 dst, .int .i64 bytes] w (Gives h bytes (fun _ b => decide ((b : Int) = dst)) w) := by
  have hR' := hR
  unfold RightP at hR'
  have HI := Lib.hid (in_calls dst 0 (h - 1) (w.alloc (.cells #[.int .i64 dst] 3)))
  rw [decide_eq_true hd] at HI
  have HS := Lib.hid (some_callsI h bytes (fun _ b => decide ((b : Int) = dst)) w.heap.size (w.alloc (.cells #[.int .i64 dst] 3)) hR (fun W hE a b _ _ => incast_calls _ _ _ _ _ ((blkCell (hE.blk0 (blkNew _ _)) 0).trans rfl)))
  clear hR hd
  go_enter Try.func7, Try.ntmps7
  go_wp2_with (first
    | (go_at_call 20; refine HI.out.mono ?_; rintro e w' ⟨rfl, rfl⟩)
    | (go_at_call 18; refine HS.out.mono ?_; rintro e w' ⟨A, cap, rfl, ho, hE⟩; have HO := Lib.hid ho; clear ho))
  refine bodyPost_ret (v := .tuple #[.slice A (meantL h (fun _ b => decide ((b : Int) = dst)) (pairsL h).length).length cap, .int .i64 0]) (by simp [results, Try.results7, go_sem]) rfl ?_
  exact ⟨A, cap, rfl, ownLe HO.out (by simp), ((Ext.refl _ _).alloc _).then0 hE⟩
theorem incast_bad (h dst bytes : Int) (w : World) (hh : -9223372036854775807 ≤ h ∧ h ≤ 9223372036854775807) (hb : ¬ (RightP h bytes ∧ 0 ≤ dst ∧ dst ≤ h - 1)) :
    Calls Try.prog 7 #[.int .i64 h, .int .i64 dst, .int .i64 bytes] w (Bad w) := by
  have HI := Lib.hid (in_calls dst 0 (h - 1) (w.alloc (.cells #[.int .i64 dst] 3)))
  by_cases hd : 0 ≤ dst ∧ dst ≤ h - 1
  · rw [decide_eq_true hd] at HI
    have HS := Lib.hid (some_badI h bytes w.heap.size (w.alloc (.cells #[.int .i64 dst] 3)) (fun x => hb ⟨x, hd⟩))
    clear hb hd
    go_enter Try.func7, Try.ntmps7
    go_wp2_with (first
      | (go_at_call 20; refine HI.out.mono ?_; rintro e w' ⟨rfl, rfl⟩)
      | (go_at_call 18; refine HS.out.mono ?_; rintro e w' ⟨rfl, hE⟩))
    refine bodyPost_ret (v := .tuple #[.slice none 0 0, .int .i64 330]) (by simp [results, Try.results7, go_sem]) rfl ?_
    exact ⟨rfl, ((Ext.refl _ _).alloc _).then0 hE⟩
  · rw [decide_eq_false hd] at HI
    clear hb hd
    go_enter Try.func7, Try.ntmps7
    go_wp2_with (go_at_call 20; refine HI.out.mono ?_; rintro e w' ⟨rfl, rfl⟩)
    refine bodyPost_ret (v := .tuple #[.slice none 0 0, .int .i64 330]) (by simp [results, Try.results7, go_sem]) rfl ?_
    exact ⟨rfl, (Ext.refl _ _).alloc _⟩
theorem awL : meantL 3 (fun _ b => decide ((b : Int) = 1)) (pairsL 3).length = [(0, 1), (2, 1)] := by decide +kernel
set_option maxRecDepth 100000 in
theorem awake_calls (w : World) : Calls Try.prog 6 #[] w fun e w' => e = .returned (.bool true) ∧ Ext N0 w w' := by
  have hg := incast_good 3 1 5 w (by unfold RightP; omega) (by omega)
  unfold Gives at hg
  rw [awL] at hg
  have HG := Lib.hid hg
  have HB := Lib.hid (fun W => incast_bad 3 3 5 W (by omega) (by omega))
  clear hg
  go_enter Try.func6, Try.ntmps6
  go_wp2_with (first
    | (go_at_call 7; have hx := hq; refine (HB.out _).mono ?_; rintro e w2 ⟨rfl, hE2⟩; have k0 := hE2.cell d0 (fun h => h); have k1 := hE2.cell d1 (fun h => h); have k2 := hE2.cell d2 (fun h => h); have k3 := hE2.cell d3 (fun h => h); have k4 := hE2.cell d4 (fun h => h); have k5 := hE2.cell d5 (fun h => h); clear d0 d1 d2 d3 d4 d5; simp [Addr.add] at k0 k1 k2 k3 k4 k5)
    | (go_at_call 7; refine HG.out.mono ?_; rintro e w1 ⟨A, cap, rfl, ho, hE⟩; have hq := trivial; obtain ⟨ad, rfl, hc⟩ := (ownReadsN ho (by decide)).2 (by decide); have d0 := hc 0 _ rfl; have d1 := hc 1 _ rfl; have d2 := hc 2 _ rfl; have d3 := hc 3 _ rfl; have d4 := hc 4 _ rfl; have d5 := hc 5 _ rfl; clear hc ho))
  go_ret
  exact ⟨rfl, hE.then0 hE2⟩
end Go.Proofs.Ytfaljgaeeholoaa
