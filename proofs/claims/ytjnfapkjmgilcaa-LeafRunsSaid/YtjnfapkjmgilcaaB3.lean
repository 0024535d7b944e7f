/- Package leaf: what Links hands out (the conditions stand in the statements). -/
import Derived.Test.YtjnfapkjmgilcaaB2
namespace Go.Proofs.Ytjnfapkjmgilcaa
open Go.RowKit
/-- What Links hands out. -/
def LStep (L : List Bool) (s : Nat) (k : Nat) (vs : Array Value) (k' : Nat) (_ : World) : Prop := k < L.length ∧ k' = k + 1 ∧ vs = #[.agg #[.int .i64 (k / s : Nat), .int .i64 (k % s : Nat)], .bool (L.getD k false)]
structure IL (w : World) (g C l s h : Nat) (L : List Bool) : Prop where
  net : IsNet w g l s h L
  box : w.heap[C]? = some (.cells #[.pointer (some ⟨g, 0, none⟩)] 23 (0, 0))
theorem IL.kept0 {w w' : World} {g C l s h : Nat} {L : List Bool} (k : IL w g C l s h L) (hE : Ext N0 w w') : IL w' g C l s h L := ⟨k.net.kept0 hE, hE.blk0 k.box⟩
theorem IL.kp {w w' : World} {g C l s h : Nat} {L : List Bool} (k : IL w g C l s h L) (hE : KpR (fun x => x = C ∨ x = g) w w') : IL w' g C l s h L := by
  obtain ⟨⟨⟨cs, h1, h2⟩, h3, h4, h5, h6⟩, h7⟩ := k
  exact ⟨⟨⟨cs, hE.blk h1 (.inr rfl), h2⟩, h3, h4, h5, h6⟩, hE.blk h7 (.inl rfl)⟩
theorem IL.cell {w : World} {g C l s h : Nat} {L : List Bool} (k : IL w g C l s h L) : w.cell? ⟨C, 0, none⟩ = some (.pointer (some ⟨g, 0, none⟩)) := (blkCell k.box 0).trans rfl
theorem wk_in {l s i j : Nat} (L : List Bool) (hi : i < l) (hj : j < s) : wk L l s i j = L.getD (i * s + j) false := by
  unfold wk
  rw [show inN l s i j = true from decide_eq_true (by omega), Bool.true_and]
  rfl
attribute [local go_sem] Oper.semAt_some
set_option maxRecDepth 100000 in
set_option maxHeartbeats 1000000 in
theorem links_iter (g C l s h : Nat) (L : List Bool) (w : World) (hI : IL w g C l s h L) :
    Iter Try.prog 35 #[.pointer (some ⟨C, 0, none⟩)] (LStep L s) (fun k => k = l * s) (fun _ => True) (fun x => x = C ∨ x = g) 0 w := by
  intro l0 J Jx W hW hJ hJx hB hY h0
  refine callsIn_of_wp Try.func35 rfl trivial ?_ rfl
  simp only [Try.ntmps35, List.size_toArray, List.length_cons, List.length_nil, Nat.reduceAdd, Nat.reduceSub, Array.replicate_succ, Array.replicate_zero, List.push_toArray, List.append_toArray, List.nil_append, List.cons_append]
  have HIL := Lib.hid (hI.kept0 hW)
  have q := HIL.out.cell
  obtain ⟨c0, c1, c2⟩ := HIL.out.net.cells
  have HN := Lib.hid (none_calls W g l s h L HIL.out.net)
  have HY := Lib.hid hY
  have HJ0 : Hid (J (0 * s) W) := Lib.hid (by rw [Nat.zero_mul]; exact h0)
  have HLen := Lib.hid hI.net.len
  have hl16 := hI.net.lb.2
  have hs16 := hI.net.sb.2
  clear hY hJ hJx hB h0 hI hW
  gi_wp2_with fail
  refine ⟨trivial, rfl, (callsIn_wide.2 HN.out).mono ?_⟩
  rintro e w' ⟨rfl, hw⟩
  subst hw
  gi_wp2_with fail
  clear q c0 c1 c2 HN
  gi_loopw [11] (fun v wr => ∃ i : Nat, v = .int .i64 i ∧ i ≤ l ∧ Hid (J (i * s) wr) ∧ Hid (IL wr g C l s h L)) (fun v _ => l - (intOf v).toNat)
  case atStart => exact ⟨0, rfl, by omega, HJ0, HIL⟩
  case round =>
    clear HJ0 HIL
    obtain ⟨i, rfl, hi, HJ0, HIL⟩ := hrel
    have q := HIL.out.cell
    obtain ⟨c0, c1, c2⟩ := HIL.out.net.cells
    by_cases hlt : i < l
    · have hlt' : (i : Int) < l := by omega
      have HJ1 : Hid (J (i * s + 0) wr) := Lib.hid HJ0.out
      clear HJ0
      gi_wp2_with fail
      clear q c0 c1 c2
      gi_loopw [18] (fun v wr => ∃ j : Nat, v = .int .i64 j ∧ j ≤ s ∧ Hid (J (i * s + j) wr) ∧ Hid (IL wr g C l s h L)) (fun v _ => s - (intOf v).toNat)
      case atStart => exact ⟨0, rfl, by omega, HJ1, HIL⟩
      case round =>
        clear HJ1 HIL
        obtain ⟨j, rfl, hj, HJ1, HIL⟩ := hrel
        have q := HIL.out.cell
        by_cases hlt2 : j < s
        · have hlt2' : (j : Int) < s := by omega
          have hwk := works_calls wr g l s h L i j HIL.out.net
          rw [wk_in L hlt hlt2] at hwk
          obtain ⟨d1, d2⟩ := posDiv i hlt2
          obtain ⟨fn, tmps, assign, body, hy, hRd⟩ := HY.out (i * s + j) #[.agg #[.int .i64 i, .int .i64 j], .bool (L.getD (i * s + j) false)] (i * s + j + 1) _ ⟨by rw [HLen.out]; exact posLt hlt hlt2, rfl, by rw [d1, d2]⟩ HJ1.out
          have HRd := Lib.hid hRd
          have HWk := Lib.hid hwk
          obtain ⟨b, hb⟩ : ∃ b, L.getD (i * s + j) false = b := ⟨_, rfl⟩
          rw [hb] at HWk hy
          clear hRd hwk hb d1 d2
          gi_wp2_with fail
          refine ⟨trivial, rfl, (callsIn_wide.2 HWk.out).mono ?_⟩
          rintro e w2 ⟨rfl, hw⟩
          subst hw
          gi_wp2
          refine ⟨rfl, HRd.out.mono ?_⟩
          rintro e w3 (⟨rfl, hJ1, _, hkp⟩ | ⟨rfl, hJx⟩)
          · have HJ2 := Lib.hid hJ1
            have HIL2 := Lib.hid (HIL.out.kp hkp)
            clear hJ1 hkp q HRd hy HIL HJ1 HWk
            gi_wp2
            go_roundw
            case rel => exact ⟨j + 1, by go_num, by omega, HJ2, HIL2⟩
            case measure => simp only [intOf]; omega
          · have HJx := Lib.hid hJx
            clear hJx q hy
            gi_wp2
            exact bodyPost_ret (v := .tuple #[]) (by simp [results, Try.results35, go_sem]) rfl ⟨⟨_, rfl⟩, .inr ⟨_, HJx.out⟩⟩
        · have hlt2' : ¬ (j : Int) < s := by omega
          obtain rfl : j = s := by omega
          gi_wp2
          go_roundw
          case rel => exact ⟨i + 1, by go_num, by omega, Lib.hid (by rw [Nat.add_mul, Nat.one_mul]; exact HJ1.out), HIL⟩
          case measure => simp only [intOf]; omega
    · have hlt' : ¬ (i : Int) < l := by omega
      obtain rfl : i = l := by omega
      gi_wp2_with fail
      exact bodyPost_end (results_none rfl _ _ _) rfl ⟨⟨_, rfl⟩, .inl HJ0.out⟩
end Go.Proofs.Ytjnfapkjmgilcaa
