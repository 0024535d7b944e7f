/- Package leaf: Parts (the conditions stand in the statements). -/
import Derived.Test.YtjnfapkjmgilcaaB7
namespace Go.Proofs.Ytjnfapkjmgilcaa
open Go.RowKit
def updB (f : Nat → Bool) (i : Nat) (v : Bool) : Nat → Bool := fun j => if j = i then v else f j
/-- Sixteen truths. -/
def BArr (w : World) (b : Nat) (f : Nat → Bool) : Prop := ∃ cs : Array Value, w.heap[b]? = some (.cells cs 51 (0, 0)) ∧ cs.size = 16 ∧ ∀ i, i < 16 → cs[i]? = some (.bool (f i))
section
variable {w w' : World} {b : Nat} {f : Nat → Bool}
theorem BArr.lt (h : BArr w b f) : b < w.heap.size := by
  obtain ⟨cs, h1, _⟩ := h
  exact blkLt h1
theorem BArr.kept0 (h : BArr w b f) (hE : Ext N0 w w') : BArr w' b f := by
  obtain ⟨cs, h1, h2⟩ := h
  exact ⟨cs, hE.blk0 h1, h2⟩
theorem BArr.cell (h : BArr w b f) {i : Nat} (hi : i < 16) : w.cell? ⟨b, i, none⟩ = some (.bool (f i)) := by
  obtain ⟨cs, h1, _, h3⟩ := h
  exact (blkCell h1 i).trans (h3 i hi)
theorem BArr.frozen (h : BArr w b f) (i : Nat) : w.frozen? ⟨b, i, none⟩ = false := by
  obtain ⟨cs, h1, _⟩ := h
  exact blkFrozen h1 i
theorem BArr.set (h : BArr w b f) {i : Nat} (hi : i < 16) (v : Bool) : BArr (w.setCell ⟨b, i, none⟩ (.bool v)) b (updB f i v) := by
  obtain ⟨cs, h1, h2, h3⟩ := h
  refine ⟨_, blkSet h1 i _, by simpa using h2, fun j hj => ?_⟩
  unfold updB
  by_cases e : j = i
  · subst e
    rw [if_pos rfl, Array.getElem?_setIfInBounds_self_of_lt (by omega)]
  · rw [if_neg e, Array.getElem?_setIfInBounds_ne (fun h => e h.symm)]
    exact h3 j hj
theorem BArr.same {f' : Nat → Bool} (h : BArr w b f) (e : ∀ i, i < 16 → f i = f' i) : BArr w b f' := by
  obtain ⟨cs, h1, h2, h3⟩ := h
  exact ⟨cs, h1, h2, fun i hi => by rw [← e i hi]; exact h3 i hi⟩
theorem barrZero (w : World) (b : Nat) (h : w.heap[b]? = some (.cells #[.bool false, .bool false, .bool false, .bool false, .bool false, .bool false, .bool false, .bool false, .bool false, .bool false, .bool false, .bool false, .bool false, .bool false, .bool false, .bool false] 51 (0, 0))) : BArr w b (fun _ => false) := by
  refine ⟨_, h, rfl, fun i hi => ?_⟩
  rcases i with _ | _ | _ | _ | _ | _ | _ | _ | _ | _ | _ | _ | _ | _ | _ | _ | i
  all_goals first | rfl | omega
end
/-- The parts, and what was seen, behind the first leaves. -/
def pS (s : Nat) (L : List Bool) : Nat → Nat × (Nat → Bool)
  | 0 => (0, fun _ => false)
  | i + 1 => if (pS s L i).2 i = true then pS s L i else ((pS s L i).1 + 1, fun x => (pS s L i).2 x || decide (0 ≤ (farS s L i 33).1 x))
theorem pS_le (s : Nat) (L : List Bool) : ∀ i, (pS s L i).1 ≤ i
  | 0 => Nat.le_refl _
  | i + 1 => by
    have := pS_le s L i
    unfold pS
    split
    · omega
    · dsimp only
      omega
set_option maxRecDepth 100000 in
set_option maxHeartbeats 2000000 in
theorem parts_calls (w : World) (g l s h : Nat) (L : List Bool) (k : IsNet w g l s h L) : Calls Try.prog 12 #[.pointer (some ⟨g, 0, none⟩)] w fun e w' => e = .returned (.int .i64 (pS s L l).1) ∧ Ext N0 w w' := by
  have HK := Lib.hid k
  have HN := Lib.hid (none_calls w g l s h L k)
  have hl16 := k.lb.2
  have hE0 : Ext N0 w (w.alloc (.cells #[.bool false, .bool false, .bool false, .bool false, .bool false, .bool false, .bool false, .bool false, .bool false, .bool false, .bool false, .bool false, .bool false, .bool false, .bool false, .bool false] 51)) := (Ext.refl _ _).alloc _
  have HB0 := Lib.hid (And.intro hE0 (barrZero _ _ (blkNew w _)))
  have c0 := (k.kept0 hE0).cells.1
  clear k hE0
  go_enter Try.func12, Try.ntmps12
  go_wp2_with (go_at_call 22; refine HN.out.mono ?_; rintro e w1 ⟨rfl, hw⟩; subst w1)
  clear c0 HN
  have HZ := Lib.hid (show w.heap.size ≤ w.heap.size from Nat.le_refl _)
  obtain ⟨b4, hb4⟩ : ∃ b4, w.heap.size = b4 := ⟨_, rfl⟩
  have HB4 := Lib.hid hb4
  rw [hb4] at HB0
  simp only [hb4]
  clear hb4
  go_loopw [3, 14] (fun p v wr => ∃ i pn : Nat, v = .int .i64 i ∧ p = .int .i64 pn ∧ i ≤ l ∧ pn ≤ i ∧ Hid (pn = (pS s L i).1) ∧ Hid (Ext N0 w wr ∧ BArr wr b4 (pS s L i).2)) (fun _ v _ => l - (intOf v).toNat)
  case atStart => exact ⟨0, 0, rfl, rfl, by omega, by omega, Lib.hid rfl, HB0⟩
  case round =>
    clear HB0
    obtain ⟨i, pn, rfl, rfl, hi, hpi, HPn, HB⟩ := hrel
    by_cases hlt : i < l
    · have hlt' : (i : Int) < l := by omega
      have hi16 : (i : Int) < 16 := by omega
      have c := HB.out.2.cell (i := i) (by omega)
      rcases hs : (pS s L i).2 i with _ | _
      · have HF := Lib.hid (far_calls wr g l s h L i hlt (HK.out.kept0 HB.out.1))
        obtain ⟨F, hF⟩ : ∃ F, (farS s L i 33).1 = F := ⟨_, rfl⟩
        have HNx := Lib.hid (show pS s L (i + 1) = (pn + 1, fun x => (pS s L i).2 x || decide (0 ≤ F x)) by
          conv => lhs; unfold pS
          rw [if_neg (by rw [hs]; decide), ← HPn.out, hF])
        rw [hF] at HF
        rw [hs] at c
        obtain ⟨sn, hsn⟩ : ∃ sn, (pS s L i).2 = sn := ⟨_, rfl⟩
        rw [hsn] at HB HNx
        clear hF hs hsn
        go_wp2_with (go_at_call 21; refine HF.out.mono ?_; rintro e w2 ⟨rfl, hE2⟩; have HB2 : Hid (Ext N0 w w2 ∧ BArr w2 b4 (fun x => if x < 0 then sn x || decide (0 ≤ F x) else sn x)) := Lib.hid ⟨HB.out.1.then0 hE2, (HB.out.2.kept0 hE2).same (fun x _ => by simp)⟩; clear hE2)
        clear c HB HF
        go_loopw [25] (fun v wr => ∃ j : Nat, v = .int .i64 j ∧ j ≤ 16 ∧ Hid (Ext N0 w wr ∧ BArr wr b4 (fun x => if x < j then sn x || decide (0 ≤ F x) else sn x))) (fun v _ => 16 - (intOf v).toNat)
        case atStart => exact ⟨0, rfl, by omega, HB2⟩
        case round =>
          clear HB2
          obtain ⟨j, rfl, hj, HB⟩ := hrel
          by_cases hlt2 : j < 16
          · have hlt2' : (j : Int) < 16 := by omega
            have hix := run_ix F j hlt2
            have c := HB.out.2.cell hlt2
            have f := HB.out.2.frozen j
            rw [if_neg (by omega)] at c
            have HB2 := Lib.hid (show Ext N0 w (wr.setCell ⟨b4, j, none⟩ (.bool (sn j || decide (0 ≤ F j)))) ∧ BArr (wr.setCell ⟨b4, j, none⟩ (.bool (sn j || decide (0 ≤ F j)))) b4 (fun x => if x < j + 1 then sn x || decide (0 ≤ F x) else sn x) from
              ⟨HB.out.1.trans (extSet wr b4 j _) (fun y (hy : y = b4) => .inr (by rw [hy, ← HB4.out]; exact Nat.le_refl _)), (HB.out.2.set hlt2 _).same (fun x hx => by
                unfold updB
                dsimp only
                by_cases e : x = j
                · subst e
                  rw [if_pos rfl, if_pos (by omega)]
                · rw [if_neg e]
                  by_cases e2 : x < j
                  · rw [if_pos e2, if_pos (by omega)]
                  · rw [if_neg e2, if_neg (by omega)])⟩)
            obtain ⟨v, hv⟩ : ∃ v, F j = v := ⟨_, rfl⟩
            obtain ⟨sj, hsj⟩ : ∃ sj, sn j = sj := ⟨_, rfl⟩
            rw [hv, hsj] at HB2
            rw [hsj] at c
            simp only [hv] at hix
            clear hv hsj HB
            rcases sj with _ | _
            · by_cases hv0 : 0 ≤ v
              · have HB3 := HB2
                rw [show (false || decide (0 ≤ v)) = true by simp [hv0]] at HB3
                clear HB2
                go_wp2
                go_roundw
                case rel => exact ⟨j + 1, by go_num, by omega, HB3⟩
                case measure => simp only [intOf]; omega
              · have HB3 := HB2
                rw [show (false || decide (0 ≤ v)) = false by simp [hv0]] at HB3
                clear HB2
                go_wp2
                go_roundw
                case rel => exact ⟨j + 1, by go_num, by omega, HB3⟩
                case measure => simp only [intOf]; omega
            · rw [Bool.true_or] at HB2
              go_wp2
              go_roundw
              case rel => exact ⟨j + 1, by go_num, by omega, HB2⟩
              case measure => simp only [intOf]; omega
          · have hlt2' : ¬ (j : Int) < 16 := by omega
            obtain rfl : j = 16 := by omega
            go_wp2
            go_roundw
            case rel => exact ⟨i + 1, pn + 1, by go_num, by go_num, by omega, by omega, Lib.hid (by rw [HNx.out]), Lib.hid ⟨HB.out.1, by rw [HNx.out]; exact HB.out.2.same (fun x hx => by rw [if_pos hx])⟩⟩
            case measure => simp only [intOf]; omega
      · have HNx := Lib.hid (show pS s L (i + 1) = pS s L i by
          conv => lhs; unfold pS
          rw [if_pos hs])
        rw [hs] at c
        clear hs
        go_wp2
        go_roundw
        case rel => exact ⟨i + 1, pn, by go_num, rfl, by omega, by omega, Lib.hid (by rw [HNx.out]; exact HPn.out), Lib.hid (by rw [HNx.out]; exact HB.out)⟩
        case measure => simp only [intOf]; omega
    · have hlt' : ¬ (i : Int) < l := by omega
      obtain rfl : i = l := by omega
      go_wp2
      go_ret
      exact ⟨retInt (by rw [← HPn.out]), HB.out.1⟩
end Go.Proofs.Ytjnfapkjmgilcaa
