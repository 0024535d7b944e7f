/- Contracts of functions of package scene, each proved for every value that its statement lets in (the conditions stand in the statements). -/
import Derived.Test.YtfaljgaeeholoaaB1
namespace Go.Proofs.Ytfaljgaeeholoaa
open Go.RowKit
theorem in_calls (n l h : Int) (w : World) : Calls Try.prog 20 #[.int .i64 n, .int .i64 l, .int .i64 h] w fun e w' => e = .returned (.bool (decide (l ≤ n ∧ n ≤ h))) ∧ w' = w := by
  by_cases h1 : l ≤ n
  · by_cases h2 : n ≤ h
    · rw [decide_eq_true (show l ≤ n ∧ n ≤ h from ⟨h1, h2⟩)]
      go_enter Try.func20, Try.ntmps20
      go_wp2
      go_ret
      exact ⟨rfl, rfl⟩
    · rw [decide_eq_false (show ¬ (l ≤ n ∧ n ≤ h) from fun x => h2 x.2)]
      go_enter Try.func20, Try.ntmps20
      go_wp2
      go_ret
      exact ⟨rfl, rfl⟩
  · rw [decide_eq_false (show ¬ (l ≤ n ∧ n ≤ h) from fun x => h1 x.1)]
    go_enter Try.func20, Try.ntmps20
    go_wp2
    go_ret
    exact ⟨rfl, rfl⟩
/-- May a pattern's numbers be? -/
def RightP (hosts bytes : Int) : Prop := (2 ≤ hosts ∧ hosts ≤ 8) ∧ 1 ≤ bytes ∧ bytes ≤ 65536
instance (hosts bytes : Int) : Decidable (RightP hosts bytes) := inferInstanceAs (Decidable (_ ∧ _))
theorem right_calls (hosts bytes : Int) (w : World) : Calls Try.prog 15 #[.int .i64 hosts, .int .i64 bytes] w fun e w' => e = .returned (.bool (decide (RightP hosts bytes))) ∧ w' = w := by
  have H1 := Lib.hid (in_calls hosts 2 8 w)
  have H2 := Lib.hid (in_calls bytes 1 65536 w)
  by_cases h1 : 2 ≤ hosts ∧ hosts ≤ 8
  · rw [decide_eq_true h1] at H1
    by_cases h2 : 1 ≤ bytes ∧ bytes ≤ 65536
    · rw [decide_eq_true h2] at H2
      rw [decide_eq_true (show RightP hosts bytes from ⟨h1, h2⟩)]
      clear h1 h2
      go_enter Try.func15, Try.ntmps15
      go_wp2_with (first | (go_at_call 20; have hx := hq; refine H2.out.mono ?_; rintro e w' ⟨rfl, rfl⟩) | (go_at_call 20; refine H1.out.mono ?_; rintro e w' ⟨rfl, hq⟩; subst hq; have hq := trivial))
      go_ret
      exact ⟨rfl, rfl⟩
    · rw [decide_eq_false h2] at H2
      rw [decide_eq_false (show ¬ RightP hosts bytes from fun x => h2 x.2)]
      clear h1 h2
      go_enter Try.func15, Try.ntmps15
      go_wp2_with (first | (go_at_call 20; have hx := hq; refine H2.out.mono ?_; rintro e w' ⟨rfl, rfl⟩) | (go_at_call 20; refine H1.out.mono ?_; rintro e w' ⟨rfl, hq⟩; subst hq; have hq := trivial))
      go_ret
      exact ⟨rfl, rfl⟩
  · rw [decide_eq_false h1] at H1
    rw [decide_eq_false (show ¬ RightP hosts bytes from fun x => h1 x.1)]
    clear h1
    go_enter Try.func15, Try.ntmps15
    go_wp2_with (go_at_call 20; refine H1.out.mono ?_; rintro e w' ⟨rfl, rfl⟩)
    go_ret
    exact ⟨rfl, rfl⟩
/-! What is meant. -/
theorem incast_calls (c : Nat) (a b dst : Int) (w : World) (h : w.cell? ⟨c, 0, none⟩ = some (.int .i64 dst)) : Calls Try.prog 21 #[.int .i64 a, .int .i64 b, .pointer (some ⟨c, 0, none⟩)] w fun e w' => e = .returned (.bool (decide (b = dst))) ∧ w' = w := by
  go_enter Try.func21, Try.ntmps21
  go_wp2
  go_ret
  refine ⟨?_, rfl⟩
  by_cases h1 : b = dst <;> simp [h1]
theorem all_calls (a b : Int) (w : World) : Calls Try.prog 23 #[.int .i64 a, .int .i64 b] w fun e w' => e = .returned (.bool true) ∧ w' = w := by
  go_enter Try.func23, Try.ntmps23
  go_wp2
  go_ret
  exact ⟨rfl, rfl⟩
theorem ring_calls (c len cap : Nat) (ad : Addr) (a : Nat) (b t : Int) (w : World) (h : w.cell? ⟨c, 0, none⟩ = some (.slice (some ad) len cap)) (hl : a < len) (ht : w.cell? (ad.add a) = some (.int .i64 t)) :
    Calls Try.prog 19 #[.int .i64 a, .int .i64 b, .pointer (some ⟨c, 0, none⟩)] w fun e w' => e = .returned (.bool (decide (t = b))) ∧ w' = w := by
  have hl' : (a : Int) < len := by omega
  go_enter Try.func19, Try.ntmps19
  go_wp2
  go_ret
  refine ⟨?_, rfl⟩
  by_cases h1 : t = b <;> simp [h1]
/-! All pairs. -/
theorem pairs_calls (h : Int) (w : World) : Calls Try.prog 27 #[.int .i64 h] w fun e w' => e = .returned (.func (.func 30) #[] #[.pointer (some ⟨w.heap.size, 0, none⟩)]) ∧ w' = w.alloc (.cells #[.int .i64 h] 3) := by
  go_enter Try.func27, Try.ntmps27
  go_wp2
  go_ret
  exact ⟨rfl, rfl⟩
/-- Each of so many, and each other one. -/
def pairsL (h : Nat) : List (Nat × Nat) := (List.range h).flatMap fun a => ((List.range h).filter (fun b => a ≠ b)).map fun b => (a, b)
def pos (h a b : Nat) : Nat := a * (h - 1) + if a < b then b - 1 else b
theorem pairs_pos (h a b : Nat) (hh : h ≤ 8) (ha : a < h) (hb : b < h) (hab : a ≠ b) : (pairsL h)[pos h a b]? = some (a, b) := by
  have : ∀ h : Fin 9, ∀ a : Fin h, ∀ b : Fin h, a.val = b.val ∨ (pairsL h)[pos h a b]? = some (a.val, b.val) := by decide +kernel
  exact (this ⟨h, by omega⟩ ⟨a, ha⟩ ⟨b, hb⟩).resolve_left hab
theorem pairs_len (h : Nat) (hh : h ≤ 8) : (pairsL h).length = h * (h - 1) := by
  have : ∀ h, h < 9 → (pairsL h).length = h * (h - 1) := by decide +kernel
  exact this h (by omega)
def PStep (h : Nat) (i : Nat) (vs : Array Value) (i' : Nat) (_ : World) : Prop := ∃ p : Nat × Nat, (pairsL h)[i]? = some p ∧ i' = i + 1 ∧ vs = #[.int .i64 p.1, .int .i64 p.2]
set_option maxRecDepth 100000 in
set_option maxHeartbeats 1000000 in
theorem pairs_iter (C h : Nat) (hh : h ≤ 8) (w : World) (hC : w.heap[C]? = some (.cells #[.int .i64 h] 3 (0, 0))) :
    Iter Try.prog 30 #[.pointer (some ⟨C, 0, none⟩)] (PStep h) (fun i => i = (pairsL h).length) (fun _ => True) (fun k => k = C) 0 w := by
  intro l J Jx W hW hJ hJx hB hY h0
  refine callsIn_of_wp Try.func30 rfl trivial ?_ rfl
  simp only [Try.ntmps30, List.size_toArray, List.length_cons, List.length_nil, Nat.reduceAdd, Nat.reduceSub, Array.replicate_succ, Array.replicate_zero, List.push_toArray, List.append_toArray, List.nil_append, List.cons_append]
  have hCW := hW.blk0 hC
  have b0 := (blkCell hCW 0).trans rfl
  simp at b0
  have HY := Lib.hid hY
  have H0 := Lib.hid h0
  have HC := Lib.hid hCW
  clear hY hJ hJx hB h0 hCW
  gi_wp2_with fail
  gi_loopw [6] (fun v wr => ∃ a : Nat, v = .int .i64 a ∧ a ≤ h ∧ Hid (J (pos h a 0) wr) ∧ Hid (wr.heap[C]? = some (.cells #[.int .i64 h] 3 (0, 0)))) (fun v _ => h - (intOf v).toNat)
  case atStart => exact ⟨0, rfl, by omega, Lib.hid (by simpa [pos] using H0.out), HC⟩
  case round =>
    clear b0 HC H0
    obtain ⟨a, rfl, ha, HJ, HC⟩ := hrel
    have b0 := (blkCell HC.out 0).trans rfl
    simp at b0
    by_cases hlt : a < h
    · have hlt' : (a : Int) < h := by omega
      gi_wp2_with fail
      gi_loopw [10] (fun v wr => ∃ b : Nat, v = .int .i64 b ∧ b ≤ h ∧ Hid (J (pos h a b) wr) ∧ Hid (wr.heap[C]? = some (.cells #[.int .i64 h] 3 (0, 0)))) (fun v _ => h - (intOf v).toNat)
      case atStart => exact ⟨0, rfl, by omega, HJ, HC⟩
      case round =>
        clear b0 HC HJ
        obtain ⟨b, rfl, hb, HJ, HC⟩ := hrel
        by_cases hltb : b < h
        · have hltb' : (b : Int) < h := by omega
          by_cases hab : a = b
          · subst hab
            gi_wp2_with fail
            refine ⟨fun f hf => (by cases hf), ?_⟩
            gi_wp2_with fail
            go_roundw
            case rel => exact ⟨a + 1, by go_num, by omega, Lib.hid (by have := HJ.out; simpa [pos] using this), HC⟩
            case measure => simp only [intOf]; omega
          · have hab' : ¬ ((a : Int) = b) := by omega
            have hp := pairs_pos h a b hh hlt hltb hab
            obtain ⟨fn, tmps, assign, body, hy, hRd⟩ := HY.out (pos h a b) _ (pos h a b + 1) wr ⟨(a, b), hp, rfl, rfl⟩ HJ.out
            have HRd := Lib.hid hRd
            have hbl := blkLt HC.out
            have hpos : pos h a b + 1 = pos h a (b + 1) := by
              unfold pos
              split <;> split <;> omega
            clear hRd hp
            gi_wp2
            refine ⟨rfl, HRd.out.mono ?_⟩
            rintro e w2 (⟨rfl, hJ1, _, hkp⟩ | ⟨rfl, hJx⟩)
            · have HJ1 := Lib.hid hJ1
              have HC2 := Lib.hid (hkp.blk HC.out rfl)
              clear hJ1 hkp
              gi_wp2
              go_roundw
              case rel => exact ⟨b + 1, by go_num, by omega, Lib.hid (by rw [← hpos]; exact HJ1.out), HC2⟩
              case measure => simp only [intOf]; omega
            · have HJx := Lib.hid hJx
              clear hJx
              gi_wp2
              exact bodyPost_ret (v := .tuple #[]) (by simp [results, Try.results30, go_sem]) rfl ⟨⟨_, rfl⟩, .inr ⟨_, HJx.out⟩⟩
        · have hltb' : ¬ (b : Int) < h := by omega
          have hpos : pos h a b = pos h (a + 1) 0 := by
            obtain rfl : b = h := by omega
            unfold pos
            rw [if_pos hlt, if_neg (by omega), Nat.add_mul]
            omega
          gi_wp2_with fail
          go_roundw
          case rel => exact ⟨a + 1, by go_num, by omega, Lib.hid (by rw [← hpos]; exact HJ.out), HC⟩
          case measure => simp only [intOf]; omega
    · have hlt' : ¬ (a : Int) < h := by omega
      have hpos : pos h a 0 = (pairsL h).length := by
        obtain rfl : a = h := by omega
        rw [pairs_len a hh]
        unfold pos
        rw [if_neg (by omega)]
        omega
      gi_wp2_with fail
      exact bodyPost_end (results_none rfl _ _ _) rfl ⟨⟨_, rfl⟩, .inl (by rw [← hpos]; exact HJ.out)⟩
end Go.Proofs.Ytfaljgaeeholoaa
