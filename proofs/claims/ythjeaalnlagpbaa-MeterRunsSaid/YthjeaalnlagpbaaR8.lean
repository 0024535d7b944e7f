/- Keys of package meter of texts: the iterators, each proved for every value that its statement lets in (the conditions stand in the statements). -/
import Derived.Test.YthjeaalnlagpbaaR7
import Derived.Test.YthjeaalnlagpbaaRt
import Derived.Lib.SliceRun
namespace Go.Proofs.Ythjeaalnlagpbaa
open Go.RowKit Go.Maps
theorem known_calls (p : Option Addr) (w : World) : Calls Try.prog 47 #[.pointer p] w fun e w' => e = .returned (.func (.func 48) #[] #[.pointer (some ⟨w.heap.size, 0, none⟩)]) ∧ w' = w.alloc (.cells #[.pointer p] 41) := by
  go_enter Try.func47, Try.ntmps47
  go_wp2
  go_ret
  exact ⟨rfl, rfl⟩
theorem keysM_calls (p : Option Addr) (w : World) : Calls Try.prog 42 #[.pointer p] w fun e w' => e = .returned (.func (.func 46) #[] #[.pointer (some ⟨w.heap.size, 0, none⟩)]) ∧ w' = w.alloc (.cells #[.pointer p] 41) := by
  go_enter Try.func42, Try.ntmps42
  go_wp2
  go_ret
  exact ⟨rfl, rfl⟩
theorem eqlFuncNil {P : Program} (w : World) {t : TypeId} {ps rs : Array TypeId} {vd : Bool} (f : Fn) (bs cs : Array Value) (ht : P.underlying t = some (.func ps rs vd)) : (binOp .eql t (.func f bs cs) .nilFunc).run P w = .ok (.bool false) w := by
  have h : ∀ d : Nat, (Op.equalIn (d + 1) t (.func f bs cs) .nilFunc).run P w = .ok false w := fun d => by
    simp [Op.equalIn, run_underlying ht]
  simp only [binOp]
  simp [Op.equal, Op.maxDepth, h 9999]
def tk : Obj → Prop
  | .cells _ t _ => t ≠ 90 ∧ t ≠ 44
  | .map .. => True
  | _ => False
theorem tk_bk : ∀ o, tk o → isBk o = false := by
  intro o h
  cases o <;> first | rfl | exact h.elim
theorem IsM.kpo {base g u : Nat} {w w' : World} {m : Mt ByteArray} (h : IsMS base w g m u) (k : KpO tk w w') : IsMS base w' g m u := by
  obtain ⟨mb, A, c, φ, u', h1, h2, h3⟩ := h
  refine ⟨mb, A, c, φ, u', h1, ⟨h2.hg, h2.hmb, k _ _ ⟨by decide, by decide⟩ h2.blk, ?_, k.own (fun _ _ => ⟨by decide, by decide⟩) h2.own⟩, h3⟩
  obtain ⟨D, ⟨es, clock, h4, h5⟩, h6⟩ := h2.mp
  exact ⟨D, ⟨es, clock, k _ _ trivial h4, h5⟩, h6⟩
theorem strs_one (l : List ByteArray) : ∀ u ∈ l.map Value.string, u.oneCell' = true := by
  intro u hu
  rw [List.mem_map] at hu
  obtain ⟨k, _, rfl⟩ := hu
  rfl
set_option maxRecDepth 100000 in
theorem clone_calls (base : Nat) (A : Option Addr) (n c : Nat) (xs : List Value) (w : World) (h : w.ownsRow base 9 1 (.slice A n c) n xs) (hn : n ≤ 1000) (h1 : ∀ u ∈ xs, u.oneCell' = true) :
    Calls Try.prog 49 #[.slice A n c] w fun e w' => ∃ A' c', e = .returned (.slice A' n c') ∧ w'.ownsRow w.heap.size 9 1 (.slice A' n c') n xs ∧ Ext N0 w w' := by
  have hl : xs.length = n := by have := h.1; omega
  rcases A with _ | ad
  · have h0 : n = 0 ∧ xs = [] := by
      rcases h.2 with ⟨h2, h3⟩ | ⟨g, cap, cur, h2, _⟩
      · exact ⟨h3, List.eq_nil_of_length_eq_zero (by omega)⟩
      · injection h2 with h3
        cases h3
    obtain ⟨rfl, rfl⟩ := h0
    clear h hl h1
    have qs := fun (W : World) => Lib.run_eql_slice_nil (P := Try.prog) W 67 9 none 0 c 0 0 Try.underlying67
    go_enter Try.func49, Try.ntmps49
    go_wp2
    go_ret
    exact ⟨none, 0, rfl, ownNil _ _ _ _, Ext.refl _ _⟩
  · have HR := Lib.hid (ownReads1 h)
    have HL := Lib.hid hl
    have H1 := Lib.hid h1
    clear h hl h1
    have qs := fun (W : World) => Lib.run_eql_slice_nil (P := Try.prog) W 67 9 (some ad) n c 0 0 Try.underlying67
    go_enter Try.func49, Try.ntmps49
    go_wp2_with (at_builtin; refine wpApp w.heap.size (.tmp 5) (.tmp 6) 67 9 (.string ⟨#[]⟩) 1 16 rfl rfl Try.underlying67 infoS rfl (by decide) (by decide) (.slice (some ⟨w.heap.size, 0, none⟩) 0 0) 0 [] (some ad) n c xs rfl rfl (ownLitG w w.heap.size 9 1 #[] 0 rfl (by omega) (by decide) rfl) (by rw [HL.out]; omega) (HR.out.mono0 ((Ext.refl _ _).alloc _)) H1.out (by omega) (by simp) ?_; intro A3 c3 w3 ho3 hE3 _; have HO := Lib.hid ho3; have HE := Lib.hid (((Ext.refl N0 w).alloc _).trans hE3 (fun x hx => .inr (by have := own_is hx; omega))); clear ho3 hE3)
    go_ret
    exact ⟨A3, c3, rfl, by simpa using HO.out, HE.out⟩
attribute [local go_sem] Oper.semAt_some
theorem two_ways {e : Ending} {A B : Prop} (h : (e = .returned (.bool true) ∧ A) ∨ (e = .returned (.bool false) ∧ B)) : ∃ bb : Bool, e = .returned (.bool bb) ∧ ((bb = true ∧ A) ∨ (bb = false ∧ B)) := by
  rcases h with ⟨h, k⟩ | ⟨h, k⟩
  · exact ⟨true, h, .inl ⟨rfl, k⟩⟩
  · exact ⟨false, h, .inr ⟨rfl, k⟩⟩
def KS (m : Mt ByteArray) (i : Nat) (vs : Array Value) (i' : Nat) (_ : World) : Prop := ∃ k, m.ks[i]? = some k ∧ i' = i + 1 ∧ vs = #[.string k]
def KS2 (m : Mt ByteArray) (i : Nat) (vs : Array Value) (i' : Nat) (_ : World) : Prop := ∃ k, m.ks[i]? = some k ∧ i' = i + 1 ∧ vs = #[.string k, .int .i64 (m.tok k)]
set_option maxRecDepth 100000 in
set_option maxHeartbeats 1000000 in
theorem known_iter (base C g u : Nat) (m : Mt ByteArray) (hok : m.Ok) (w : World) (hC : w.heap[C]? = some (.cells #[.pointer (some ⟨g, 0, none⟩)] 41 (0, 0))) (hM : IsMS base w g m u) :
    IterT Try.prog 48 #[.pointer (some ⟨C, 0, none⟩)] (KS m) (fun i => i = m.ks.length) (fun _ => True) tk 0 w := by
  intro l J Jx W hW hJ hJx hB hY h0
  obtain ⟨mb, A, c, φ, u', _, ho, _⟩ := hM
  have hoW := ho.kept0 hW
  have hlen := hok.len
  have hmost := hok.most
  refine callsIn_of_wp Try.func48 rfl trivial ?_ rfl
  simp only [Try.ntmps48, List.size_toArray, List.length_cons, List.length_nil, Nat.reduceAdd, Nat.reduceSub, Array.replicate_succ, Array.replicate_zero, List.push_toArray, List.append_toArray, List.nil_append, List.cons_append]
  have b0 := (blkCell (hW.blk0 hC) 0).trans rfl
  simp at b0
  have c4 : W.cell? ⟨g, 4, none⟩ = some (.map (some mb)) := (blkCell hoW.blk 4).trans rfl
  have c5' : W.cell? ⟨g, 5, none⟩ = some (.slice A m.ks.length c) := (blkCell hoW.blk 5).trans rfl
  have HN := Lib.hid (none_callsS g mb W c4)
  have HC := Lib.hid (clone_calls base A m.ks.length c _ W hoW.own (by omega) (strs_one _))
  have HY := Lib.hid hY
  have HJ := Lib.hid hJ
  have H0 := Lib.hid h0
  obtain ⟨n, hn⟩ : ∃ n, m.ks.length = n := ⟨_, rfl⟩
  rw [hn] at HC c5' hlen ⊢
  have HL := Lib.hid hn
  clear hY hJ hJx hB h0 hC ho hoW hok hn c4
  gi_wp2_with fail
  refine ⟨trivial, rfl, (callsIn_wide.2 HN.out).mono ?_⟩
  rintro e w' ⟨rfl, rfl⟩
  gi_wp2_with fail
  refine ⟨trivial, rfl, (callsIn_wide.2 HC.out).mono ?_⟩
  rintro e w2 ⟨A2, c2, rfl, ho2, hE2⟩
  have HO := Lib.hid ho2
  have HJ2 := Lib.hid (HJ.out _ _ _ H0.out (Kb.of0 hE2))
  clear ho2 hE2 b0 c5' HC HN H0
  gi_wp2_with fail
  gi_loopw [13] (fun v wr => ∃ i : Nat, v = .int .i64 i ∧ i ≤ n ∧ Hid (J i wr) ∧ Hid (wr.ownsRow W.heap.size 9 1 (.slice A2 n c2) n (m.ks.map Value.string))) (fun v _ => n - (intOf v).toNat)
  case atStart => exact ⟨0, rfl, by omega, HJ2, HO⟩
  case round =>
    clear HJ2 HO
    obtain ⟨i, rfl, hi, HJ0, HO⟩ := hrel
    by_cases hlt : i < n
    · have hlt' : (i : Int) < n := by omega
      obtain ⟨k, hk⟩ : ∃ k, m.ks[i]? = some k := ⟨_, List.getElem?_eq_getElem (by rw [HL.out]; exact hlt)⟩
      obtain ⟨g2, cp, hv, _, _⟩ := World.ownsRow.form HO.out (by omega)
      injection hv with hv1 hv2 hv3
      subst hv1
      have ck : wr.cell? ⟨g2, i, none⟩ = some (.string k) := (congrArg wr.cell? (addPlain g2 i)).symm.trans (World.ownsRow.cells (g := g2) HO.out rfl i (.string k) (by simp [hk]))
      obtain ⟨fn, tmps, assign, body, hy, hRd⟩ := HY.out i _ (i + 1) _ ⟨k, hk, rfl, rfl⟩ HJ0.out
      have HRd := Lib.hid hRd
      clear hRd hk hv2 hv3
      gi_wp2
      refine ⟨rfl, HRd.out.mono ?_⟩
      rintro e w2 (⟨rfl, hJ1, hkp, _⟩ | ⟨rfl, hJx, _⟩)
      · have HJ1 := Lib.hid hJ1
        have HO2 := Lib.hid (hkp.own (fun _ _ => ⟨by decide, by decide⟩) HO.out)
        clear hJ1 hkp ck
        gi_wp2
        go_roundw
        case rel => exact ⟨i + 1, by go_num, by omega, HJ1, HO2⟩
        case measure => simp only [intOf]; omega
      · have HJx := Lib.hid hJx
        clear hJx ck
        gi_wp2
        exact bodyPost_ret (v := .tuple #[]) (by simp [results, Try.results48, go_sem]) rfl ⟨⟨_, rfl⟩, .inr ⟨_, HJx.out⟩⟩
    · have hlt' : ¬ (i : Int) < n := by omega
      obtain rfl : i = n := by omega
      gi_wp2_with fail
      exact bodyPost_end (results_none rfl _ _ _) rfl ⟨⟨_, rfl⟩, .inl HJ0.out⟩
end Go.Proofs.Ythjeaalnlagpbaa
