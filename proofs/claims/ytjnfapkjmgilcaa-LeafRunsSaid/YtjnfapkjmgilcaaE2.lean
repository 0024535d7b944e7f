/- The document's answer for package leaf: near, far (the conditions stand in the statements). -/
import Derived.Test.YtjnfapkjmgilcaaE1
namespace Go.Proofs.Ytjnfapkjmgilcaa
open Go.RowKit
theorem made_iv (m : Nat) : (madeCells (Value.int .i64 0).cells (m * 1)).toList = iv (List.replicate m 0) := by
  have hc : (Value.int .i64 0).cells = #[.int .i64 0] := rfl
  unfold madeCells iv
  rw [hc, Nat.mul_one, Array.toList_map]
  have : ∀ x : Nat, (#[Value.int .i64 0][x % #[Value.int .i64 0].size]! : Value) = .int .i64 0 := fun x => by
    have e : x % #[Value.int .i64 0].size = 0 := Nat.mod_one x
    rw [e]
    rfl
  simp only [this]
  rw [List.map_const', List.map_replicate]
  simp
/-- Have two leaves a spine to which both links work? -/
def nrB (L : List Bool) (s x y : Nat) : Bool := (List.range s).any fun k => lk L s x k && lk L s y k
theorem nrB_iff {L : List Bool} {s x y : Nat} : nrB L s x y = true ↔ nr L s x y := by
  unfold nrB nr
  simp [List.any_eq_true]
set_option maxHeartbeats 1000000 in
theorem rnear_calls (w : World) (l s h c x y : Nat) (A : Option Addr) (L : List Bool) (k : RN w l s h A L) (hx : x < l) (hy : y < l) : Calls Try.prog 36 #[.agg (nG l s h A L.length c), .int .i64 x, .int .i64 y] w fun e w' => e = .returned (.bool (nrB L s x y)) ∧ Ext N0 w w' := by
  have hs := k.sb.2
  have HK := Lib.hid k
  have HE0 : Hid (Ext N0 w (w.alloc (.cells (nG l s h A L.length c) 42))) := Lib.hid ((Ext.refl _ _).alloc _)
  have HEr := Lib.hid (Ext.refl N0 (w.alloc (.cells (nG l s h A L.length c) 42)))
  have HX := Lib.hid hx
  have HY := Lib.hid hy
  have HW := Lib.hid (fun W (z : Int) (hE : Ext N0 w W) => rworks_calls W l s h c A L x z (k.kept0 hE))
  have HV := Lib.hid (fun W (z : Int) (hE : Ext N0 w W) => rworks_calls W l s h c A L y z (k.kept0 hE))
  obtain ⟨n, hn⟩ : ∃ n, L.length = n := ⟨_, rfl⟩
  rw [hn] at HE0 HEr HW HV ⊢
  have HBx := Lib.hid (fun W (hE : Ext N0 (w.alloc (.cells (nG l s h A n c) 42)) W) => box4 w (.int .i64 l) (.int .i64 s) (.int .i64 h) (.slice A n c) hE)
  clear k hn hx hy
  go_enter Try.func36, Try.ntmps36
  go_wp2_with fail
  obtain ⟨w1, hw1⟩ : ∃ w1, w.alloc (.cells (nG l s h A n c) 42) = w1 := ⟨_, rfl⟩
  obtain ⟨b, hb⟩ : ∃ b, w.heap.size = b := ⟨_, rfl⟩
  rw [hw1] at HE0 HEr HBx
  simp only [hb] at HBx
  simp only [hw1, hb]
  clear hw1 hb
  go_loopw [7] (fun v wr => ∃ i : Nat, v = .int .i64 i ∧ i ≤ s ∧ Hid (∀ k, k < i → (lk L s x k && lk L s y k) = false) ∧ Hid (Ext N0 w1 wr)) (fun v _ => s - (intOf v).toNat)
  case atStart => exact ⟨0, rfl, by omega, Lib.hid (fun k hk => by omega), HEr⟩
  case round =>
    clear HEr
    obtain ⟨i, rfl, hi, HN, HE⟩ := hrel
    obtain ⟨d0, d1, d2, d3⟩ := HBx.out wr HE.out
    by_cases hlt : i < s
    · have hlt' : (i : Int) < s := by omega
      have HW1 := Lib.hid (HW.out wr i (HE0.out.then0 HE.out))
      have HV1 := Lib.hid (fun W (hE : Ext N0 wr W) => HV.out W i ((HE0.out.then0 HE.out).then0 hE))
      rw [wk_in' HX.out hlt] at HW1
      rw [wk_in' HY.out hlt] at HV1
      have HAB := Lib.hid (show ∀ k, k < i → (lk L s x k && lk L s y k) = false from HN.out)
      rcases hb1 : lk L s x i with _ | _
      · rw [hb1] at HW1
        have HN2 : Hid (∀ k, k < i + 1 → (lk L s x k && lk L s y k) = false) := Lib.hid (fun k hk => by
          by_cases e : k = i
          · subst e; rw [hb1]; rfl
          · exact HN.out k (by omega))
        clear hb1 HN HAB
        go_wp2_with (go_at_call 24; refine HW1.out.mono ?_; rintro e w2 ⟨rfl, hE⟩; have HE2 := Lib.hid (HE.out.then0 hE); clear hE)
        clear d0 d1 d2 d3
        go_roundw
        case rel => exact ⟨i + 1, by go_num, by omega, HN2, HE2⟩
        case measure => simp only [intOf]; omega
      · rw [hb1] at HW1
        rcases hb2 : lk L s y i with _ | _
        · simp only [hb2] at HV1
          have HN2 : Hid (∀ k, k < i + 1 → (lk L s x k && lk L s y k) = false) := Lib.hid (fun k hk => by
            by_cases e : k = i
            · subst e; rw [hb2, Bool.and_false]
            · exact HN.out k (by omega))
          clear hb1 hb2 HN HAB
          go_wp2_with (first
            | (have hx := X1; clear hx; go_at_call 24; refine (HV1.out _ X1.out).mono ?_; rintro e w3 ⟨rfl, hE⟩; have HE3 := Lib.hid ((HE.out.then0 X1.out).then0 hE); clear hE)
            | (go_at_call 24; refine HW1.out.mono ?_; rintro e w2 ⟨rfl, hE⟩; have X1 := Lib.hid hE; obtain ⟨e0, e1, e2, e3⟩ := HBx.out w2 (HE.out.then0 hE); clear hE))
          clear d0 d1 d2 d3 e0 e1 e2 e3
          go_roundw
          case rel => exact ⟨i + 1, by go_num, by omega, HN2, HE3⟩
          case measure => simp only [intOf]; omega
        · simp only [hb2] at HV1
          have HR := Lib.hid (show nrB L s x y = true from nrB_iff.2 ⟨i, hlt, hb1, hb2⟩)
          clear hb1 hb2 HN HAB
          go_wp2_with (first
            | (have hx := X1; clear hx; go_at_call 24; refine (HV1.out _ X1.out).mono ?_; rintro e w3 ⟨rfl, hE⟩; have HE3 := Lib.hid ((HE.out.then0 X1.out).then0 hE); clear hE)
            | (go_at_call 24; refine HW1.out.mono ?_; rintro e w2 ⟨rfl, hE⟩; have X1 := Lib.hid hE; obtain ⟨e0, e1, e2, e3⟩ := HBx.out w2 (HE.out.then0 hE); clear hE))
          go_ret
          exact ⟨retBool HR.out.symm, HE0.out.then0 HE3.out⟩
    · have hlt' : ¬ (i : Int) < s := by omega
      obtain rfl : i = s := by omega
      have HR := Lib.hid (show nrB L i x y = false by
        cases h : nrB L i x y
        · rfl
        · obtain ⟨k, hk, h1, h2⟩ := nrB_iff.1 h
          have := HN.out k hk
          rw [h1, h2] at this
          cases this)
      go_wp2
      go_ret
      exact ⟨retBool HR.out.symm, HE0.out.then0 HE.out⟩
/-- So many numbers, told by a function. -/
def fl (l : Nat) (f : Nat → Int) : List Int := (List.range l).map f
theorem fl_len (l : Nat) (f : Nat → Int) : (fl l f).length = l := by simp [fl]
theorem fl_get {l i : Nat} (f : Nat → Int) (h : i < l) : (fl l f)[i]? = some (f i) := by
  unfold fl
  rw [List.getElem?_map, List.getElem?_range h]
  rfl
theorem fl_set {l i : Nat} (f : Nat → Int) (v : Int) : (fl l f).set i v = fl l (upd f i v) := by
  apply List.ext_getElem?
  intro j
  by_cases hj : j < l
  · rw [fl_get _ hj]
    unfold upd
    by_cases e : i = j
    · subst e
      rw [List.getElem?_set_self (by rw [fl_len]; exact hj), if_pos rfl]
    · rw [List.getElem?_set_ne e, fl_get _ hj, if_neg (fun h => e h.symm)]
  · rw [List.getElem?_eq_none (by rw [List.length_set, fl_len]; omega), List.getElem?_eq_none (by rw [fl_len]; omega)]
theorem fl_same {l : Nat} {f f' : Nat → Int} (h : ∀ i, i < l → f i = f' i) : fl l f = fl l f' := List.map_congr_left (fun i hi => h i (List.mem_range.1 hi))
/-- A row of numbers of the call's own. -/
def IRow (B : Nat) (w : World) (d l : Nat) (f : Nat → Int) : Prop := w.ownsRow B 3 1 (.slice (some ⟨d, 0, none⟩) l l) l (iv (fl l f))
section
variable {B d l : Nat} {w w' : World} {f f' : Nat → Int}
theorem IRow.kept0 (h : IRow B w d l f) (hE : Ext N0 w w') : IRow B w' d l f := ownKept0 h hE
theorem IRow.cell (h : IRow B w d l f) {i : Nat} (hi : i < l) : w.cell? ⟨d, i, none⟩ = some (.int .i64 (f i)) := (congrArg w.cell? (addPlain d i)).symm.trans (World.ownsRow.cells (g := d) h rfl i _ (iv_get (fl_get f hi)))
theorem IRow.frozen (h : IRow B w d l f) (i : Nat) : w.frozen? ⟨d, i, none⟩ = false := World.ownsRow.frozenAt h i
theorem IRow.base (h : IRow B w d l f) : B ≤ d ∧ d < w.heap.size := ownBase h d rfl
theorem IRow.set (h : IRow B w d l f) (i : Nat) (v : Int) : IRow B (w.setCell ⟨d, i, none⟩ (.int .i64 v)) d l (upd f i v) ∧ Ext (At d) w (w.setCell ⟨d, i, none⟩ (.int .i64 v)) := by
  refine ⟨?_, extSet w d i _⟩
  have := (World.ownsRow.stored h i (.int .i64 v)).1
  unfold IRow
  rw [← fl_set]
  have e : (iv (fl l f)).set i (.int .i64 v) = iv ((fl l f).set i v) := by simp [iv, List.map_set]
  rw [← e]
  exact this
theorem IRow.same (h : IRow B w d l f) (e : ∀ i, i < l → f i = f' i) : IRow B w d l f' := by
  unfold IRow at h ⊢
  rw [← fl_same e]
  exact h
end
end Go.Proofs.Ytjnfapkjmgilcaa
