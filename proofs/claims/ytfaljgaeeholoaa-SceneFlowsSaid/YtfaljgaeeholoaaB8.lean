/- Patterns of package scene beside the document's, each proved for every value that its statement lets in (the conditions stand in the statements). -/
import Derived.Test.YtfaljgaeeholoaaB7
namespace Go.Proofs.Ytfaljgaeeholoaa
open Go.RowKit
/-- A row of flows is handed back. -/
def GivesF (t : TypeId) (L : List Fl) (w : World) (e : Ending) (w' : World) : Prop := ∃ A c, e = .returned (.tuple #[.slice A L.length c, .int .i64 0]) ∧ IsFl w.heap.size w' t A c L ∧ Ext N0 w w'
theorem ofP_len (bytes : Int) (L : List (Nat × Nat)) : (ofP bytes L).length = L.length := by simp [ofP]
theorem ofP_app (bytes : Int) (L M : List (Nat × Nat)) : ofP bytes (L ++ M) = ofP bytes L ++ ofP bytes M := by simp [ofP]
theorem info49 : (Try.prog.info? 49).map (fun i => (i.zero, i.size, i.bytes)) = some (some (.agg #[.int .i64 0, .int .i64 0, .int .i64 0, .int .i64 0, .int .i64 0]), 5, 40) := by kernel_rfl
def incP (d i : Nat) : List (Nat × Nat) := ((List.range i).filter fun a => decide (a ≠ d)).map fun a => (a, d)
theorem incP_step (d i : Nat) : incP d (i + 1) = incP d i ++ (if i = d then [] else [(i, d)]) := by
  unfold incP
  rw [List.range_succ, List.filter_append, List.map_append]
  by_cases h : i = d <;> simp [h]
theorem incP_len (d i : Nat) : (incP d i).length ≤ i := by
  unfold incP
  rw [List.length_map]
  exact Nat.le_trans (List.length_filter_le _ _) (by simp)
theorem inc_eq (h d : Nat) (hh : h ≤ 8) (hd : d < h) : (pairsL h).filter (fun p => decide ((p.2 : Int) = (d : Int))) = incP d h := by
  have : ∀ h : Fin 9, ∀ d : Fin h, (pairsL h).filter (fun p => decide ((p.2 : Int) = ((d.val : Nat) : Int))) = incP d.val h.val := by decide +kernel
  exact this ⟨h, by omega⟩ ⟨d, hd⟩
theorem incast_f (h d : Nat) (bytes : Int) (w : World) (hR : RightP h bytes) (hd : d < h) : Calls Try.prog 7 #[.int .i64 h, .int .i64 d, .int .i64 bytes] w (GivesF 28 (ofP bytes (incP d h)) w) := by
  have hh : h ≤ 8 := by unfold RightP at hR; omega
  refine (incast_good h d bytes w hR (by omega)).mono ?_
  rintro e w' ⟨A, c, he, ho, hE⟩
  rw [meantL_all, inc_eq h d hh hd] at he ho
  rw [flV_ofP] at ho
  refine ⟨A, c, by rw [ofP_len]; exact he, ?_, hE⟩
  unfold IsFl
  rw [ofP_len]
  exact ho
set_option maxRecDepth 100000 in
theorem all_f (h : Nat) (bytes : Int) (w : World) (hR : RightP h bytes) : Calls Try.prog 9 #[.int .i64 h, .int .i64 bytes] w (GivesF 28 (ofP bytes (pairsL h)) w) := by
  have HS := some_callsA h bytes (fun _ _ => true) w hR (fun W _ a b _ _ => all_calls _ _ _)
  have e : (pairsL h).filter (fun _ => true) = pairsL h := List.filter_eq_self.2 (fun _ _ => rfl)
  rw [meantL_all, e, flV_ofP] at HS
  have HS2 := Lib.hid HS
  clear HS hR
  go_enter Try.func9, Try.ntmps9
  go_wp2_with (go_at_call 18; refine HS2.out.mono ?_; rintro e w' ⟨A, cap, rfl, ho, hE⟩; have HO := Lib.hid ho; clear ho)
  refine bodyPost_ret (v := .tuple #[.slice A (pairsL h).length cap, .int .i64 0]) (by simp [results, Try.results9, go_sem]) rfl ?_
  refine ⟨A, cap, by rw [ofP_len], ?_, hE⟩
  unfold IsFl
  rw [ofP_len]
  exact HO.out
theorem all_bad (h bytes : Int) (w : World) (hR : ¬ RightP h bytes) : Calls Try.prog 9 #[.int .i64 h, .int .i64 bytes] w (Bad w) := by
  have HS2 := Lib.hid (some_badA h bytes w hR)
  clear hR
  go_enter Try.func9, Try.ntmps9
  go_wp2_with (go_at_call 18; refine HS2.out.mono ?_; rintro e w' ⟨rfl, hE⟩)
  refine bodyPost_ret (v := .tuple #[.slice none 0 0, .int .i64 330]) (by simp [results, Try.results9, go_sem]) rfl ⟨rfl, hE⟩
theorem ring_f (seed : Int) (n : Nat) (bytes : Int) (w : World) (hR : RightP n bytes) : Calls Try.prog 5 #[.int .u64 seed, .int .i64 n, .int .i64 bytes] w (GivesF 28 (ofP bytes (ringL seed n)) w) := by
  refine (ring_good seed n bytes w hR).mono ?_
  rintro e w' ⟨A, c, he, ho, hE⟩
  rw [flV_ofP] at ho
  refine ⟨A, c, by rw [ofP_len, ringL_len]; exact he, ?_, hE⟩
  unfold IsFl
  rw [ofP_len, ringL_len]
  exact ho
/-! The document's. -/
theorem lacks {h bytes : Int} (hR : ¬ RightP h bytes) : ¬ 2 ≤ h ∨ (2 ≤ h ∧ ¬ h ≤ 8) ∨ (2 ≤ h ∧ h ≤ 8 ∧ ¬ 1 ≤ bytes) ∨ (2 ≤ h ∧ h ≤ 8 ∧ 1 ≤ bytes ∧ ¬ bytes ≤ 65536) := by
  unfold RightP at hR
  omega
/-- One flow more. -/
theorem flMore {base : Nat} {w2 : World} {k : Nat} {L : List Fl} {f : Fl} {A2 : Option Addr} {c2 : Nat} (hk : L.length = k) (ho : w2.ownsRow base 49 5 (.slice A2 (k + 1) c2) (k + 1) (flV L ++ flC f)) : IsFl base w2 49 A2 c2 (L ++ [f]) := by
  unfold IsFl
  rw [flV_app, List.length_append, hk]
  exact ho
set_option maxRecDepth 100000 in
set_option maxHeartbeats 1000000 in
theorem rincast_f (h d : Nat) (bytes : Int) (w : World) (hR : RightP h bytes) (hd : d < h) : Calls Try.prog 8 #[.int .i64 h, .int .i64 d, .int .i64 bytes] w (GivesF 49 (ofP bytes (incP d h)) w) := by
  unfold RightP at hR
  obtain ⟨⟨r1, r2⟩, r3, r4⟩ := hR
  have hdh : (d : Int) ≤ (h : Int) - 1 := by omega
  have hd0 : (0 : Int) ≤ d := by omega
  unfold GivesF
  go_enter Try.func8, Try.ntmps8
  go_wp2_with (go_at_call 22; refine (within_calls _ _ _ _).mono ?_; rintro e w' ⟨rfl, rfl⟩)
  go_loopw [8, 9] (fun l v wr => ∃ (i : Nat) (A : Option Addr) (c : Nat), v = .int .i64 i ∧ i ≤ h ∧ l = .slice A (incP d i).length c ∧ Hid (wr.ownsRow w'.heap.size 49 5 (.slice A (incP d i).length c) (incP d i).length (flV (ofP bytes (incP d i)))) ∧ Hid (Ext N0 w' wr)) (fun _ v _ => h - (intOf v).toNat)
  case atStart => exact ⟨0, none, 0, rfl, by omega, rfl, Lib.hid (ownNil _ _ _ _), Lib.hid (Ext.refl _ _)⟩
  case round =>
    obtain ⟨i, A, c, rfl, hi, rfl, HO, HE⟩ := hrel
    have hst := incP_step d i
    have hln := incP_len d i
    have hsz := HE.out.size
    obtain ⟨k, hk⟩ : ∃ k, (incP d i).length = k := ⟨_, rfl⟩
    rw [hk] at HO hln
    simp only [hk]
    by_cases hlt : i < h
    · have hlt' : (i : Int) < h := by omega
      by_cases hid : i = d
      · have hid' : (i : Int) = d := by omega
        rw [if_pos hid, List.append_nil] at hst
        have HST := Lib.hid hst
        have HK := Lib.hid hk
        clear hst hk hid
        go_wp2
        go_roundw
        case rel => exact ⟨i + 1, A, c, by first | go_num | (rw [← hid']; go_num) | omega, by omega, by rw [HST.out, HK.out], Lib.hid (by rw [HST.out, HK.out]; exact HO.out), HE⟩
        case measure => simp only [intOf]; omega
      · have hid' : ¬ (i : Int) = d := by omega
        rw [if_neg hid] at hst
        have HST := Lib.hid hst
        have HK := Lib.hid hk
        clear hst hk hid
        go_wp2_with (at_builtin; refine wpApp w'.heap.size (.tmp 33) (.tmp 38) 32 49 (.agg #[.int .i64 0, .int .i64 0, .int .i64 0, .int .i64 0, .int .i64 0]) 5 40 rfl rfl Try.underlying32 info49 rfl (by decide) (by decide) (.slice A k c) k (flV (ofP bytes (incP d i))) _ 1 _ [.int .i64 (i : Int), .int .i64 (d : Int), .int .i64 0, .int .i64 bytes, .int .i64 0] rfl rfl (ownKept0 HO.out ((Ext.refl _ _).alloc _)) rfl (litReads wr _ _ (by simp)) (by simp [Value.oneCell']) (by omega) (by simp; omega) ?_; intro A5 c5 w5 ho5 hE5 _; have HO5 := Lib.hid ho5; have HE5 := Lib.hid (((HE.out).alloc _).trans hE5 (fun x hx => .inr (ownBase HO.out x hx).1)); clear ho5 hE5)
        have hlk : (incP d (i + 1)).length = k + 1 := by rw [HST.out, List.length_append, HK.out]; rfl
        have hfl : flV (ofP bytes (incP d i)) ++ [.int .i64 (i : Int), .int .i64 (d : Int), .int .i64 0, .int .i64 bytes, .int .i64 0] = flV (ofP bytes (incP d (i + 1))) := by rw [HST.out, ofP_app]; simp [flV, flC, ofP]
        go_roundw
        case rel => exact ⟨i + 1, A5, c5, by go_num, by omega, by rw [hlk], Lib.hid (by rw [hlk, ← hfl]; exact HO5.out), HE5⟩
        case measure => simp only [intOf]; omega
    · have hlt' : ¬ (i : Int) < h := by omega
      obtain rfl : i = h := by omega
      have HK := Lib.hid hk
      clear hk hst
      go_wp2
      refine bodyPost_ret (v := .tuple #[.slice A k c, .int .i64 0]) (by simp [results, Try.results8, go_sem]) rfl ?_
      refine ⟨A, c, by rw [ofP_len, HK.out], ?_, HE.out⟩
      unfold IsFl
      rw [ofP_len, HK.out]
      exact HO.out
end Go.Proofs.Ytfaljgaeeholoaa
