/- The document's answer for package leaf: far (the conditions stand in the statements). -/
import Derived.Test.YtjnfapkjmgilcaaE2
import Derived.Deep.DeepCutAuto
namespace Go.Proofs.Ytjnfapkjmgilcaa
open Go.RowKit
section
open Classical
variable {L : List Bool} {l s : Nat}
/-- How far the leaves are, in the midst of a step: the first z leaves were looked at. -/
noncomputable def rZc (L : List Bool) (s : Nat) (D : Nat → Int) (t z : Nat) : Nat → Int := fun y => if D y < 0 ∧ ∃ z', z' < z ∧ D z' = t ∧ nr L s z' y then (t : Int) + 1 else D y
noncomputable def rS (L : List Bool) (l s x : Nat) : Nat → Nat → Int
  | 0 => fun y => if y = x then 0 else -1
  | t + 1 => rZc L s (rS L l s x t) t l
theorem rZ0 (D : Nat → Int) (t y : Nat) : rZc L s D t 0 y = D y := by
  unfold rZc
  rw [if_neg (by rintro ⟨_, z', hz, _⟩; omega)]
theorem rZ_skip {D : Nat → Int} {t z : Nat} (h : ¬ D z = t) (y : Nat) : rZc L s D t (z + 1) y = rZc L s D t z y := by
  unfold rZc
  refine ifIff ?_
  constructor
  · rintro ⟨h1, z', h2, h3, h4⟩
    refine ⟨h1, z', ?_, h3, h4⟩
    have : z' ≠ z := fun e => h (by rw [← e]; exact h3)
    omega
  · rintro ⟨h1, z', h2, h3, h4⟩
    exact ⟨h1, z', by omega, h3, h4⟩
theorem rZ_step {D : Nat → Int} {t z : Nat} (h : D z = t) (y : Nat) : rZc L s D t (z + 1) y = if rZc L s D t z y < 0 ∧ nr L s z y then (t : Int) + 1 else rZc L s D t z y := by
  by_cases c1 : D y < 0 ∧ ∃ z', z' < z ∧ D z' = t ∧ nr L s z' y
  · have e : rZc L s D t z y = (t : Int) + 1 := by
      unfold rZc
      rw [if_pos c1]
    rw [e, if_neg (by rintro ⟨h1, _⟩; omega)]
    unfold rZc
    obtain ⟨h1, z', h2, h3, h4⟩ := c1
    rw [if_pos ⟨h1, z', by omega, h3, h4⟩]
  · have e : rZc L s D t z y = D y := by
      unfold rZc
      rw [if_neg c1]
    rw [e]
    unfold rZc
    refine ifIff ?_
    constructor
    · rintro ⟨h1, z', h2, h3, h4⟩
      by_cases e2 : z' = z
      · subst e2
        exact ⟨h1, h4⟩
      · exact absurd ⟨h1, z', by omega, h3, h4⟩ c1
    · rintro ⟨h1, h2⟩
      exact ⟨h1, z, by omega, h, h2⟩
theorem rZ_at {D : Nat → Int} {t z y : Nat} : rZc L s D t z y = t ↔ D y = t := by
  unfold rZc
  split
  · rename_i h
    constructor
    · intro e; omega
    · intro e; omega
  · exact Iff.rfl
theorem rS_inv (x : Nat) : ∀ t y, y < l → (rS L l s x t y = -1 ∧ ∀ j, j ≤ t → ¬ wlk L l s j x y) ∨ ∃ j : Nat, j ≤ t ∧ rS L l s x t y = j ∧ wlk L l s j x y ∧ ∀ i, i < j → ¬ wlk L l s i x y
  | 0, y, hy => by
    show ((if y = x then (0 : Int) else -1) = -1 ∧ _) ∨ ∃ j : Nat, j ≤ 0 ∧ (if y = x then (0 : Int) else -1) = j ∧ _
    by_cases e : y = x
    · subst e
      exact .inr ⟨0, by omega, if_pos rfl, rfl, fun i hi => by omega⟩
    · refine .inl ⟨if_neg e, fun j hj hw => ?_⟩
      obtain rfl : j = 0 := by omega
      have hw : x = y := hw
      exact e hw.symm
  | t + 1, y, hy => by
    have ih := rS_inv x t
    show (rZc L s (rS L l s x t) t l y = -1 ∧ _) ∨ ∃ j : Nat, j ≤ t + 1 ∧ rZc L s (rS L l s x t) t l y = j ∧ _
    obtain ⟨D, hD⟩ : ∃ D, rS L l s x t = D := ⟨_, rfl⟩
    rw [hD] at ih ⊢
    unfold rZc
    by_cases hc : D y < 0 ∧ ∃ z', z' < l ∧ D z' = t ∧ nr L s z' y
    · rw [if_pos hc]
      obtain ⟨h0, z, hz, h1, h2⟩ := hc
      rcases ih y hy with ⟨p1, p2⟩ | ⟨j, _, p2, _⟩
      · rcases ih z hz with ⟨q1, _⟩ | ⟨j, q1, q2, q3, _⟩
        · omega
        · obtain rfl : j = t := by omega
          exact .inr ⟨j + 1, Nat.le_refl _, rfl, ⟨z, hz, q3, h2⟩, fun i hi => p2 i (by omega)⟩
      · omega
    · rw [if_neg hc]
      rcases ih y hy with ⟨p1, p2⟩ | ⟨j, p1, p2, p3, p4⟩
      · refine .inl ⟨p1, fun j hj hw => ?_⟩
        by_cases hj2 : j ≤ t
        · exact p2 j hj2 hw
        · obtain rfl : j = t + 1 := by omega
          obtain ⟨z, hz, hw2, hn⟩ := hw
          rcases ih z hz with ⟨q1, q2⟩ | ⟨j, q1, q2, q3, q4⟩
          · exact q2 t (Nat.le_refl _) hw2
          · by_cases e : j = t
            · subst e
              exact hc ⟨by omega, z, hz, q2, hn⟩
            · exact p2 (j + 1) (by omega) ⟨z, hz, q3, hn⟩
      · exact .inr ⟨j, by omega, p2, p3, p4⟩
theorem rS_isD {x y : Nat} (hy : y < l) : IsD L l s x y (if rS L l s x l y < 0 then -1 else 2 * rS L l s x l y) ∧ -1 ≤ rS L l s x l y ∧ rS L l s x l y ≤ l ∧ (rS L l s x l y < 0 ↔ ¬ rch L l s x y) := by
  rcases rS_inv (L := L) (s := s) x l y hy with ⟨h1, h2⟩ | ⟨j, h1, h2, h3, h4⟩
  · have hno : ∀ j, ¬ wlk L l s j x y := fun j hw => by
      obtain ⟨i, hi, _, hw2, _⟩ := wlk_short hy j hw
      exact h2 i (by omega) hw2
    rw [h1]
    exact ⟨.inl ⟨rfl, hno⟩, by omega, by omega, fun _ ⟨j, hw⟩ => hno j hw, fun _ => by omega⟩
  · rw [h2]
    refine ⟨.inr ⟨j, by rw [if_neg (by omega)], h3, h4⟩, by omega, by omega, fun h => by omega, fun h => absurd ⟨j, h3⟩ h⟩
end
set_option maxHeartbeats 8000000 in
theorem rfar_calls (w : World) (l s h c x : Nat) (A : Option Addr) (L : List Bool) (k : RN w l s h A L) (hx : x < l) : Calls Try.prog 34 #[.agg (nG l s h A L.length c), .int .i64 x] w fun e w' => ∃ d, e = .returned (.slice (some ⟨d, 0, none⟩) l l) ∧ IRow w.heap.size w' d l (rS L l s x l) ∧ Ext N0 w w' := by
  have hl16 := k.lb.2
  have hl1 := k.lb.1
  have HK := Lib.hid k
  have HE0 : Hid (Ext N0 w (w.alloc (.cells (nG l s h A L.length c) 42))) := Lib.hid ((Ext.refl _ _).alloc _)
  have HNr := Lib.hid (fun W y z (hE : Ext N0 w W) (hy : y < l) (hz : z < l) => rnear_calls W l s h c y z A L (k.kept0 hE) hy hz)
  obtain ⟨n, hn⟩ : ∃ n, L.length = n := ⟨_, rfl⟩
  rw [hn] at HE0 HNr ⊢
  have HBx := Lib.hid (fun W (hE : Ext N0 (w.alloc (.cells (nG l s h A n c) 42)) W) => box4 w (.int .i64 l) (.int .i64 s) (.int .i64 h) (.slice A n c) hE)
  obtain ⟨i0, hi0, hzz⟩ := Option.map_eq_some_iff.1 info3
  simp only [Prod.mk.injEq] at hzz
  have HMk : Hid (∀ W : World, w.heap.size ≤ W.heap.size → ∃ wA, (Instr.makeSlice 28 (.int .i64 (l : Int)) (.int .i64 (l : Int))).run Try.prog W = .ok (.slice (some ⟨W.heap.size, 0, none⟩) l l) wA ∧ IRow w.heap.size wA W.heap.size l (fun _ => 0) ∧ Ext N0 W wA) := Lib.hid (fun W hW => by
    obtain ⟨wA, hmk, hrowA, hgA⟩ := run_makeSlice_full (P := Try.prog) W w.heap.size 28 3 i0 (.int .i64 0) 1 Try.underlying28 hi0 hzz.1 hzz.2.1 .i64 .i64 l (by omega) (by rw [hzz.2.2]; omega) (by simp only [maxLen]; omega) hW
    refine ⟨wA, hmk, ?_, (Ext.of_grown hgA).mono (fun y _ hy => by cases hy)⟩
    unfold IRow
    have e : iv (fl l (fun _ => 0)) = iv (List.replicate l 0) := by
      congr 1
      unfold fl
      rw [List.map_const', List.length_range]
    rw [e, ← made_iv l]
    exact hrowA)
  clear k hn hi0 hzz
  go_enter Try.func34, Try.ntmps34
  go_upto_region 1 with fail
  obtain ⟨w1, hw1⟩ : ∃ w1, w.alloc (.cells (nG l s h A n c) 42) = w1 := ⟨_, rfl⟩
  rw [hw1] at HE0 HBx
  simp only [hw1]
  have hs1 := HE0.out.size
  obtain ⟨B, hB⟩ : ∃ B, w.heap.size = B := ⟨_, rfl⟩
  simp only [hB] at HBx HMk hs1 ⊢
  have HB := Lib.hid hB
  clear hw1 hB
  obtain ⟨wA, hmk, hrow, hEA⟩ := HMk.out w1 hs1
  obtain ⟨d, hd⟩ : ∃ d, w1.heap.size = d := ⟨_, rfl⟩
  rw [hd] at hmk hrow
  have HD := Lib.hid (show w1.heap.size ≤ d by omega)
  have HI0 : Hid (IRow B wA d l (fun y => if y < 0 then -1 else 0) ∧ Ext N0 w1 wA) := Lib.hid ⟨hrow.same (fun i _ => by simp), hEA⟩
  obtain ⟨d0, d1, d2, d3⟩ := HBx.out w1 (Ext.refl _ _)
  clear hrow hEA hd hs1 HMk
  go_wp2_with fail
  clear hmk d0 d1 d2 d3
  go_loopw [6] (fun v wr => ∃ i : Nat, v = .int .i64 i ∧ i ≤ l ∧ Hid (IRow B wr d l (fun y => if y < i then -1 else 0) ∧ Ext N0 w1 wr)) (fun v _ => l - (intOf v).toNat)
  case atStart => exact ⟨0, rfl, by omega, HI0⟩
  case round =>
    clear HI0
    obtain ⟨i, rfl, hi, HI⟩ := hrel
    by_cases hlt : i < l
    · have hlt' : (i : Int) < l := by omega
      have cc := HI.out.1.cell hlt
      have ff := HI.out.1.frozen i
      rw [if_neg (by omega)] at cc
      have HI2 : Hid (IRow B (wr.setCell ⟨d, i, none⟩ (.int .i64 (-1))) d l (fun y => if y < i + 1 then -1 else 0) ∧ Ext N0 w1 (wr.setCell ⟨d, i, none⟩ (.int .i64 (-1)))) := Lib.hid ⟨(HI.out.1.set i (-1)).1.same (fun y hy => by unfold upd; dsimp only; (repeat' split) <;> omega), HI.out.2.trans (HI.out.1.set i (-1)).2 (fun y (hy : y = d) => .inr (by rw [hy]; exact HD.out))⟩
      clear HI
      go_wp2
      go_roundw
      case rel => exact ⟨i + 1, by go_num, by omega, HI2⟩
      case measure => simp only [intOf]; omega
    · have hlt' : ¬ (i : Int) < l := by omega
      obtain rfl : i = l := by omega
      have hx' : (x : Int) < i := by omega
      have cc := HI.out.1.cell hx
      have ff := HI.out.1.frozen x
      rw [if_pos hx] at cc
      have HI2 : Hid (IRow B (wr.setCell ⟨d, x, none⟩ (.int .i64 0)) d i (rS L i s x 0) ∧ Ext N0 w1 (wr.setCell ⟨d, x, none⟩ (.int .i64 0))) := Lib.hid ⟨(HI.out.1.set x 0).1.same (fun y hy => by unfold upd rS; dsimp only; (repeat' split) <;> omega), HI.out.2.trans (HI.out.1.set x 0).2 (fun y (hy : y = d) => .inr (by rw [hy]; exact HD.out))⟩
      clear HI
      go_wp2_with fail
      clear cc ff hi hlt
      go_loopw [7] (fun v wr => ∃ t : Nat, v = .int .i64 t ∧ t ≤ i ∧ Hid (IRow B wr d i (rS L i s x t) ∧ Ext N0 w1 wr)) (fun v _ => i - (intOf v).toNat)
      case atStart => exact ⟨0, rfl, by omega, HI2⟩
      case round =>
        clear HI2
        obtain ⟨t, rfl, ht, HI⟩ := hrel
        obtain ⟨d0, d1, d2, d3⟩ := HBx.out wr HI.out.2
        by_cases htl : t < i
        · have htl' : (t : Int) < i := by omega
          have HN := Lib.hid (show rS L i s x (t + 1) = rZc L s (rS L i s x t) t i from rfl)
          obtain ⟨D, hD⟩ : ∃ D, rS L i s x t = D := ⟨_, rfl⟩
          rw [hD] at HI HN
          have HI1 : Hid (IRow B wr d i (rZc L s D t 0) ∧ Ext N0 w1 wr) := Lib.hid ⟨HI.out.1.same (fun y _ => (rZ0 D t y).symm), HI.out.2⟩
          clear HI hD
          go_wp2_with fail
          clear d0 d1 d2 d3
          go_loopw [8] (fun v wr => ∃ z : Nat, v = .int .i64 z ∧ z ≤ i ∧ Hid (IRow B wr d i (rZc L s D t z) ∧ Ext N0 w1 wr)) (fun v _ => i - (intOf v).toNat)
          case atStart => exact ⟨0, rfl, by omega, HI1⟩
          case round =>
            clear HI1
            obtain ⟨z, rfl, hz, HI⟩ := hrel
            obtain ⟨d0, d1, d2, d3⟩ := HBx.out wr HI.out.2
            by_cases hzl : z < i
            · have hzl' : (z : Int) < i := by omega
              by_cases hDz : D z = t
              · have HDz := Lib.hid hDz
                have HI1 : Hid (IRow B wr d i (fun u => if u < 0 then rZc L s D t (z + 1) u else rZc L s D t z u) ∧ Ext N0 w1 wr) := Lib.hid ⟨HI.out.1.same (fun y _ => by simp), HI.out.2⟩
                clear HI hDz
                go_wp2_with fail
                clear d0 d1 d2 d3
                go_loopw [9] (fun v wr => ∃ y : Nat, v = .int .i64 y ∧ y ≤ i ∧ Hid (IRow B wr d i (fun u => if u < y then rZc L s D t (z + 1) u else rZc L s D t z u) ∧ Ext N0 w1 wr)) (fun v _ => i - (intOf v).toNat)
                case atStart => exact ⟨0, rfl, by omega, HI1⟩
                case round =>
                  clear HI1
                  obtain ⟨y, rfl, hy, HI⟩ := hrel
                  obtain ⟨d0, d1, d2, d3⟩ := HBx.out wr HI.out.2
                  have cz := HI.out.1.cell hzl
                  have hz1 : (if z < y then rZc L s D t (z + 1) z else rZc L s D t z z) = (t : Int) := by
                    split
                    · exact rZ_at.2 HDz.out
                    · exact rZ_at.2 HDz.out
                  rw [hz1] at cz
                  clear hz1
                  by_cases hyl : y < i
                  · have hyl' : (y : Int) < i := by omega
                    have cy := HI.out.1.cell hyl
                    have fy := HI.out.1.frozen y
                    rw [if_neg (by omega)] at cy
                    have HSt := Lib.hid (rZ_step (L := L) (s := s) HDz.out y)
                    have HNe := Lib.hid (fun W (hE : Ext N0 wr W) => HNr.out W z y ((HE0.out.then0 HI.out.2).then0 hE) hzl hyl)
                    have hnb := @nrB_iff L s z y
                    obtain ⟨v, hv⟩ : ∃ v, rZc L s D t z y = v := ⟨_, rfl⟩
                    rw [hv] at cy HSt
                    by_cases hv0 : v < 0
                    · rcases hb : nrB L s z y with _ | _
                      · simp only [hb] at HNe
                        have HI3 : Hid (∀ W', Ext N0 wr W' → IRow B W' d i (fun u => if u < y + 1 then rZc L s D t (z + 1) u else rZc L s D t z u) ∧ Ext N0 w1 W') := Lib.hid (fun W' hE => ⟨(HI.out.1.kept0 hE).same (fun u hu => by
                          by_cases e : u = y
                          · subst e
                            rw [if_neg (by omega), if_pos (by omega), HSt.out, if_neg (fun h => by rw [← hnb, hb] at h; cases h.2), hv]
                          · by_cases e2 : u < y
                            · rw [if_pos e2, if_pos (by omega)]
                            · rw [if_neg e2, if_neg (by omega)]), HI.out.2.then0 hE⟩)
                        clear hb hnb hv HI HSt
                        go_wp2_with (go_at_call 36; refine (HNe.out _ (Ext.refl _ _)).mono ?_; rintro e w5 ⟨rfl, hE⟩; have HI4 := Lib.hid (HI3.out _ hE); clear hE)
                        clear d0 d1 d2 d3 cz cy fy
                        go_roundw
                        case rel => exact ⟨y + 1, by go_num, by omega, HI4⟩
                        case measure => simp only [intOf]; omega
                      · simp only [hb] at HNe
                        have hw : IntKind.i64.wrap ((t : Int) + 1) = (t : Int) + 1 := IntWalk.i64_in _ (by omega)
                        have HI3 : Hid (∀ W', Ext N0 wr W' → IRow B (W'.setCell ⟨d, y, none⟩ (.int .i64 ((t : Int) + 1))) d i (fun u => if u < y + 1 then rZc L s D t (z + 1) u else rZc L s D t z u) ∧ Ext N0 w1 (W'.setCell ⟨d, y, none⟩ (.int .i64 ((t : Int) + 1)))) := Lib.hid (fun W' hE => ⟨((HI.out.1.kept0 hE).set y ((t : Int) + 1)).1.same (fun u hu => by
                          unfold upd
                          dsimp only
                          by_cases e : u = y
                          · subst e
                            rw [if_pos rfl, if_pos (by omega), HSt.out, if_pos ⟨hv0, hnb.1 hb⟩]
                          · rw [if_neg e]
                            by_cases e2 : u < y
                            · rw [if_pos e2, if_pos (by omega)]
                            · rw [if_neg e2, if_neg (by omega)]), (HI.out.2.then0 hE).trans ((HI.out.1.kept0 hE).set y _).2 (fun q (hq : q = d) => .inr (by rw [hq]; exact HD.out))⟩)
                        have HC5 := Lib.hid (fun W' (hE : Ext N0 wr W') => And.intro (hE.cell cy (fun h => h)) ((HI.out.1.kept0 hE).frozen y))
                        clear hb hnb hv HI HSt
                        go_wp2_with (go_at_call 36; refine (HNe.out _ (Ext.refl _ _)).mono ?_; rintro e w5 ⟨rfl, hE⟩; have HI4 := Lib.hid (HI3.out _ hE); obtain ⟨cy5, fy5⟩ := HC5.out _ hE; clear hE)
                        clear d0 d1 d2 d3 cz cy fy cy5 fy5
                        go_roundw
                        case rel => exact ⟨y + 1, by go_num, by omega, HI4⟩
                        case measure => simp only [intOf]; omega
                    · have HI4 : Hid (IRow B wr d i (fun u => if u < y + 1 then rZc L s D t (z + 1) u else rZc L s D t z u) ∧ Ext N0 w1 wr) := Lib.hid ⟨HI.out.1.same (fun u hu => by
                        by_cases e : u = y
                        · subst e
                          rw [if_neg (by omega), if_pos (by omega), HSt.out, if_neg (fun h => hv0 h.1), hv]
                        · by_cases e2 : u < y
                          · rw [if_pos e2, if_pos (by omega)]
                          · rw [if_neg e2, if_neg (by omega)]), HI.out.2⟩
                      clear hnb hv HI HSt HNe
                      go_wp2_with fail
                      clear d0 d1 d2 d3 cz cy fy
                      go_roundw
                      case rel => exact ⟨y + 1, by go_num, by omega, HI4⟩
                      case measure => simp only [intOf]; omega
                  · have hyl' : ¬ (y : Int) < i := by omega
                    obtain rfl : y = i := by omega
                    have HI4 : Hid (IRow B wr d y (rZc L s D t (z + 1)) ∧ Ext N0 w1 wr) := Lib.hid ⟨HI.out.1.same (fun u hu => by rw [if_pos hu]), HI.out.2⟩
                    clear HI
                    go_wp2_with fail
                    clear d0 d1 d2 d3 cz
                    go_roundw
                    case rel => exact ⟨z + 1, by go_num, by omega, HI4⟩
                    case measure => simp only [intOf]; omega
              · have HI1 : Hid (IRow B wr d i (rZc L s D t (z + 1)) ∧ Ext N0 w1 wr) := Lib.hid ⟨HI.out.1.same (fun u _ => (rZ_skip hDz u).symm), HI.out.2⟩
                have hzz : ¬ rZc L s D t z z = (t : Int) := fun h => hDz (rZ_at.1 h)
                have cz := HI.out.1.cell hzl
                obtain ⟨v, hv⟩ : ∃ v, rZc L s D t z z = v := ⟨_, rfl⟩
                rw [hv] at cz hzz
                have HCz := Lib.hid cz
                have hbq : (v == (t : Int)) = false := beq_eq_false_iff_ne.2 hzz
                have h0l : (0 : Int) < i := by omega
                clear HI hDz hv hzz cz
                go_wp2_with fail
                clear d0 d1 d2 d3
                go_loopw [9] (fun v wr' => v = .int .i64 0 ∧ wr' = wr) (fun _ _ => 0)
                case atStart => exact ⟨rfl, rfl⟩
                case round =>
                  obtain ⟨rfl, hwr⟩ := hrel
                  subst hwr
                  have cz := HCz.out
                  obtain ⟨d0, d1, d2, d3⟩ := HBx.out _ HI1.out.2
                  go_wp2_with fail
                  clear d0 d1 d2 d3 cz
                  go_roundw
                  case rel => exact ⟨z + 1, by go_num, by omega, HI1⟩
                  case measure => simp only [intOf]; omega
            · have hzl' : ¬ (z : Int) < i := by omega
              obtain rfl : z = i := by omega
              have HI4 : Hid (IRow B wr d z (rS L z s x (t + 1)) ∧ Ext N0 w1 wr) := Lib.hid ⟨by rw [HN.out]; exact HI.out.1, HI.out.2⟩
              clear HI HN
              go_wp2_with fail
              clear d0 d1 d2 d3
              go_roundw
              case rel => exact ⟨t + 1, by go_num, by omega, HI4⟩
              case measure => simp only [intOf]; omega
        · have htl' : ¬ (t : Int) < i := by omega
          obtain rfl : t = i := by omega
          go_wp2
          go_ret
          exact ⟨d, rfl, by rw [HB.out]; exact HI.out.1, HE0.out.then0 HI.out.2⟩
end Go.Proofs.Ytjnfapkjmgilcaa
