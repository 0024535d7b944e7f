/- Contracts of functions of package score that read, each proved for every value that its statement lets in (the conditions stand in the statements). -/
import Derived.Test.YtkkcdijnhegneaaSc
namespace Go.Proofs.Ytkkcdijnhegneaa
open Go.RowKit
theorem none_calls (base g : Nat) (s : Sc) (w : World) (h : IsSc base w g s) (hl : 1 ≤ s.ps.length) : Calls Try.prog 22 #[.pointer (some ⟨g, 0, none⟩)] w fun e w' => e = .returned (.bool false) ∧ w = w' := by
  obtain ⟨gp, c, ho⟩ := h
  have c0 := (blkCell ho.blk 0).trans rfl
  simp at c0
  have hz : ((s.ps.length : Int) == 0) = false := beq_eq_false_iff_ne.mpr (by omega)
  clear ho
  go_enter Try.func22, Try.ntmps22
  go_wp2
  go_ret
  exact ⟨rfl, rfl⟩
theorem badly_calls (base g gp c : Nat) (s : Sc) (u : Int) (k : Nat) (p : Pa) (w : World) (h : IsSo base w g s gp c) (hp : s.ps[k]? = some p) (hok : s.Ok u) (hu : u ≤ 1000000) :
    Calls Try.prog 31 #[.pointer (some ⟨gp, k * 4, none⟩)] w fun e w' => e = .returned (.bool (decide p.bad)) ∧ Ext N0 w w' := by
  obtain ⟨⟨a0, a1⟩, ⟨n0, n1⟩, ⟨b0, b1⟩, _⟩ := hok.num p (List.mem_of_getElem? hp)
  obtain ⟨c0, c1, c2, _⟩ := (h.kept0 (Ext.refl N0 w).drew).path hp
  have hE : Ext N0 w w.drew := (Ext.refl N0 w).drew
  clear h hp hok
  have HE := Lib.hid hE
  clear hE
  unfold Pa.bad
  have hw1 : IntKind.i64.wrap (2 * p.b) = 2 * p.b := IntWalk.i64_in _ (by omega)
  have hw2 : IntKind.i64.wrap (p.n + 2 * p.b) = p.n + 2 * p.b := IntWalk.i64_in _ (by omega)
  have hw3 : IntKind.i64.wrap (p.a + 4) = p.a + 4 := IntWalk.i64_in _ (by omega)
  go_enter Try.func31, Try.ntmps31
  go_wp2_with fail
  go_region_held3 (fun w' => w'.cell? ⟨gp, k * 4, none⟩ = some (.int .i64 p.a) ∧ w'.cell? ⟨gp, k * 4 + 1, none⟩ = some (.int .i64 p.n) ∧ w'.cell? ⟨gp, k * 4 + 2, none⟩ = some (.int .i64 p.b)) (first | go_keep) (first | fail)
  all_goals
    go_wp2
    go_ret
    exact ⟨rfl, HE.out⟩
def Sc.has (s : Sc) (k : Int) : Prop := 0 ≤ k ∧ k < s.ps.length
instance (s : Sc) (k : Int) : Decidable (s.has k) := inferInstanceAs (Decidable (_ ∧ _))
theorem has_calls (base g : Nat) (s : Sc) (k : Int) (w : World) (h : IsSc base w g s) (hl : 1 ≤ s.ps.length) : Calls Try.prog 30 #[.pointer (some ⟨g, 0, none⟩), .int .i64 k] w fun e w' => e = .returned (.bool (decide (s.has k))) ∧ w = w' := by
  have HN := Lib.hid (none_calls base g s w h hl)
  obtain ⟨gp, c, ho⟩ := h
  have c0 := (blkCell ho.blk 0).trans rfl
  simp at c0
  clear ho hl
  by_cases h1 : 0 ≤ k
  · by_cases h2 : k < s.ps.length
    · rw [decide_eq_true (show s.has k from ⟨h1, h2⟩)]
      go_enter Try.func30, Try.ntmps30
      go_wp2_with (go_at_call 22; refine HN.out.mono ?_; rintro e w' ⟨rfl, rfl⟩)
      go_ret
      exact ⟨by simp, rfl⟩
    · rw [decide_eq_false (show ¬ s.has k from fun x => h2 x.2)]
      go_enter Try.func30, Try.ntmps30
      go_wp2_with (go_at_call 22; refine HN.out.mono ?_; rintro e w' ⟨rfl, rfl⟩)
      go_ret
      exact ⟨by simp [h2], rfl⟩
  · rw [decide_eq_false (show ¬ s.has k from fun x => h1 x.1)]
    go_enter Try.func30, Try.ntmps30
    go_wp2_with (go_at_call 22; refine HN.out.mono ?_; rintro e w' ⟨rfl, rfl⟩)
    go_ret
    exact ⟨rfl, rfl⟩
theorem paths_calls (g : Nat) (w : World) : Calls Try.prog 23 #[.pointer (some ⟨g, 0, none⟩)] w fun e w' => e = .returned (.func (.func 32) #[] #[.pointer (some ⟨w.heap.size, 0, none⟩)]) ∧ w' = w.alloc (.cells #[.pointer (some ⟨g, 0, none⟩)] 23) := by
  go_enter Try.func23, Try.ntmps23
  go_wp2
  go_ret
  exact ⟨rfl, rfl⟩
def PStep (s : Sc) (i : Nat) (vs : Array Value) (i' : Nat) (_ : World) : Prop := ∃ p, s.ps[i]? = some p ∧ i' = i + 1 ∧ vs = #[.int .i64 i, .bool (p.r == 0)]
set_option maxRecDepth 100000 in
set_option maxHeartbeats 1000000 in
theorem paths_iter (base C g gp c : Nat) (s : Sc) (u : Int) (hok : s.Ok u) (w : World) (hC : w.heap[C]? = some (.cells #[.pointer (some ⟨g, 0, none⟩)] 23 (0, 0))) (hS : IsSo base w g s gp c) :
    Iter Try.prog 32 #[.pointer (some ⟨C, 0, none⟩)] (PStep s) (fun i => i = s.ps.length) (fun _ => True) (fun k => k = C ∨ k = g ∨ k = gp) 0 w := by
  intro l J Jx W hW hJ hJx hB hY h0
  refine callsIn_of_wp Try.func32 rfl trivial ?_ rfl
  simp only [Try.ntmps32, List.size_toArray, List.length_cons, List.length_nil, Nat.reduceAdd, Nat.reduceSub, Array.replicate_succ, Array.replicate_zero, List.push_toArray, List.append_toArray, List.nil_append, List.cons_append]
  have hCW := hW.blk0 hC
  have b0 := (blkCell hCW 0).trans rfl
  simp at b0
  have hSW := hS.kept0 hW
  have c0 := (blkCell hSW.blk 0).trans rfl
  simp at c0
  have HN := Lib.hid (none_calls base g s W ⟨gp, c, hSW⟩ hok.len.1)
  have HY := Lib.hid hY
  have HJ := Lib.hid hJ
  have H0 := Lib.hid h0
  have HC := Lib.hid hCW
  have HS := Lib.hid hSW
  have hlen := hok.len.2
  clear hY hJ hJx hB h0 hCW hSW hS hC hok
  gi_wp2_with fail
  refine ⟨trivial, rfl, (callsIn_wide.2 HN.out).mono ?_⟩
  rintro e w' ⟨rfl, rfl⟩
  gi_wp2_with fail
  gi_loopw [12] (fun v wr => ∃ i : Nat, v = .int .i64 i ∧ i ≤ s.ps.length ∧ Hid (J i wr) ∧ Hid (wr.heap[C]? = some (.cells #[.pointer (some ⟨g, 0, none⟩)] 23 (0, 0))) ∧ Hid (IsSo base wr g s gp c)) (fun v _ => s.ps.length - (intOf v).toNat)
  case atStart => exact ⟨0, rfl, by omega, H0, HC, HS⟩
  case round =>
    clear b0 c0 HC H0 HS HN
    obtain ⟨i, rfl, hi, HJ0, HC, HS⟩ := hrel
    by_cases hlt : i < s.ps.length
    · have hlt' : (i : Int) < s.ps.length := by omega
      obtain ⟨p, hp⟩ : ∃ p, s.ps[i]? = some p := ⟨_, List.getElem?_eq_getElem hlt⟩
      obtain ⟨c0, c1, c2, c3⟩ := HS.out.path hp
      have hE : Ext N0 wr (wr.alloc (.cells #[.int .i64 p.a, .int .i64 p.n, .int .i64 p.b, .int .i64 p.r] 56)) := (Ext.refl _ _).alloc _
      have hj := HJ.out _ _ _ HJ0.out (Kb.of0 hE)
      obtain ⟨fn, tmps, assign, body, hy, hRd⟩ := HY.out i _ (i + 1) _ ⟨p, hp, rfl, rfl⟩ hj
      have HRd := Lib.hid hRd
      have HCn := Lib.hid (hE.blk0 HC.out)
      have HSn := Lib.hid (HS.out.kept0 hE)
      clear hRd hE hj hp
      gi_wp2
      refine ⟨rfl, HRd.out.mono ?_⟩
      rintro e w2 (⟨rfl, hJ1, _, hkp⟩ | ⟨rfl, hJx⟩)
      · have HJ1 := Lib.hid hJ1
        have HC2 := Lib.hid (hkp.blk HCn.out (.inl rfl))
        have HS2 : Hid (IsSo base w2 g s gp c) := Lib.hid ⟨HSn.out.hg, HSn.out.hp, hkp.blk HSn.out.blk (.inr (.inl rfl)), by
          obtain ⟨h1, h2⟩ := HSn.out.own
          refine ⟨h1, ?_⟩
          rcases h2 with h2 | ⟨g', cap, cur, h3, hb, hg, r⟩
          · exact .inl h2
          · refine .inr ⟨g', cap, cur, h3, hb, hkp.blk hg ?_, r⟩
            injection h3 with h3
            injection h3 with h3
            injection h3 with h3
            exact .inr (.inr h3.symm)⟩
        clear hJ1 hkp
        gi_wp2
        go_roundw
        case rel => exact ⟨i + 1, by go_num, by omega, HJ1, HC2, HS2⟩
        case measure => simp only [intOf]; omega
      · have HJx := Lib.hid hJx
        clear hJx
        gi_wp2
        exact bodyPost_ret (v := .tuple #[]) (by simp [results, Try.results32, go_sem]) rfl ⟨⟨_, rfl⟩, .inr ⟨_, HJx.out⟩⟩
    · have hlt' : ¬ (i : Int) < s.ps.length := by omega
      obtain rfl : i = s.ps.length := by omega
      gi_wp2_with fail
      exact bodyPost_end (results_none rfl _ _ _) rfl ⟨⟨_, rfl⟩, .inl HJ0.out⟩
end Go.Proofs.Ytkkcdijnhegneaa
