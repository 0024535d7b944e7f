/- Keys of package gauge of texts: the iterator, and the first ones in a row (the conditions stand in the statements). -/
import Derived.Test.YtcngefpdfkkgdaaS3
import Derived.Test.YtcngefpdfkkgdaaGS5
import Derived.Test.YtcngefpdfkkgdaaRm
namespace Go.Proofs.Ytcngefpdfkkgdaa
open Go.RowKit Go.Maps
theorem sv_one (l : List ByteArray) : ∀ u ∈ sv l, u.oneCell' = true := by
  intro u hu
  unfold sv at hu
  rw [List.mem_map] at hu
  obtain ⟨k, _, rfl⟩ := hu
  rfl
set_option maxRecDepth 100000 in
theorem cloneS_calls (A : Option Addr) (n c : Nat) (xs : List Value) (w : World) (h : Reads w A xs) (hl : xs.length = n) (hn : n ≤ 100000) (h1 : ∀ u ∈ xs, u.oneCell' = true) :
    Calls Try.prog 54 #[.slice A n c] w fun e w' => ∃ A' c', e = .returned (.slice A' n c') ∧ w'.ownsRow w.heap.size 9 1 (.slice A' n c') n xs ∧ Ext N0 w w' := by
  rcases A with _ | ad
  · have h0 : xs = [] := h.isNil
    subst h0
    obtain rfl : n = 0 := by simpa using hl.symm
    clear h hl h1
    have qs := fun (W : World) => Lib.run_eql_slice_nil (P := Try.prog) W 46 9 none 0 c 0 0 Try.underlying46
    go_enter Try.func54, Try.ntmps54
    go_wp2
    go_ret
    exact ⟨none, 0, rfl, ownNil _ _ _ _, Ext.refl _ _⟩
  · have HR := Lib.hid h
    have HL := Lib.hid hl
    have H1 := Lib.hid h1
    clear h hl h1
    have qs := fun (W : World) => Lib.run_eql_slice_nil (P := Try.prog) W 46 9 (some ad) n c 0 0 Try.underlying46
    go_enter Try.func54, Try.ntmps54
    go_wp2_with (at_builtin; refine wpApp w.heap.size (.tmp 5) (.tmp 6) 46 9 (.string ⟨#[]⟩) 1 16 rfl rfl Try.underlying46 info9 rfl (by decide) (by decide) (.slice (some ⟨w.heap.size, 0, none⟩) 0 0) 0 [] (some ad) n c xs rfl rfl (ownLitG w w.heap.size 9 1 #[] 0 rfl (by omega) (by decide) rfl) (by rw [HL.out]; omega) (HR.out.mono0 ((Ext.refl _ _).alloc _)) H1.out (by omega) (by simp) ?_; intro A3 c3 w3 ho3 hE3 _; have HO := Lib.hid ho3; have HE := Lib.hid (((Ext.refl N0 w).alloc _).trans hE3 (fun x hx => .inr (by have := own_is hx; omega))); clear ho3 hE3)
    go_ret
    exact ⟨A3, c3, rfl, by simpa using HO.out, HE.out⟩
theorem keysG_calls (p : Option Addr) (w : World) : Calls Try.prog 43 #[.pointer p] w fun e w' => e = .returned (.func (.func 53) #[] #[.pointer (some ⟨w.heap.size, 0, none⟩)]) ∧ w' = w.alloc (.cells #[.pointer p] 24) := by
  go_enter Try.func43, Try.ntmps43
  go_wp2
  go_ret
  exact ⟨rfl, rfl⟩
theorem eqlFuncNil {P : Program} (w : World) {t : TypeId} {ps rs : Array TypeId} {vd : Bool} (f : Fn) (bs cs : Array Value) (ht : P.underlying t = some (.func ps rs vd)) : (binOp .eql t (.func f bs cs) .nilFunc).run P w = .ok (.bool false) w := by
  have h : ∀ d : Nat, (Op.equalIn (d + 1) t (.func f bs cs) .nilFunc).run P w = .ok false w := fun d => by
    simp [Op.equalIn, run_underlying ht]
  simp only [binOp]
  simp [Op.equal, Op.maxDepth, h 9999]
def KSt (ks : List ByteArray) (i : Nat) (vs : Array Value) (i' : Nat) (_ : World) : Prop := ∃ k, ks[i]? = some k ∧ i' = i + 1 ∧ vs = #[.string k]
theorem ownKpM {M : Nat → Prop} {A B : World} {base n s : Nat} {e : TypeId} {v : Value} {xs : List Value} (h : A.ownsRow base e s v n xs) (k : KpM M A B) (hM : ∀ x, v.ownBlock = some x → ¬ M x) : B.ownsRow base e s v n xs := by
  obtain ⟨h1, h2⟩ := h
  refine ⟨h1, ?_⟩
  rcases h2 with h2 | ⟨g, cap, cur, rfl, hb, hg, r⟩
  · exact .inl h2
  · exact .inr ⟨g, cap, cur, rfl, hb, k _ _ rfl (hM g rfl) hg, r⟩
attribute [local go_sem] Oper.semAt_some
set_option maxRecDepth 100000 in
set_option maxHeartbeats 1000000 in
theorem keysG_iter (base C g u : Nat) (G : Ga ByteArray) (F : Nat → Prop) (hl : G.ks.length ≤ 1000) (w : World) (hC : w.heap[C]? = some (.cells #[.pointer (some ⟨g, 0, none⟩)] 24 (0, 0))) (hG : IsGS base w g G u F) :
    IterM Try.prog 53 #[.pointer (some ⟨C, 0, none⟩)] (KSt G.ks) (fun i => i = G.ks.length) 0 w := by
  intro l J Jx M0 W hW hJ hJx hY hM0 h0
  obtain ⟨mb, gb, cb, Ak, ck, bl, gc, cc, φ, ho, _⟩ := hG
  have hoW := ho.kept0 hW
  refine callsIn_of_wp Try.func53 rfl trivial ?_ rfl
  simp only [Try.ntmps53, List.size_toArray, List.length_cons, List.length_nil, Nat.reduceAdd, Nat.reduceSub, Array.replicate_succ, Array.replicate_zero, List.push_toArray, List.append_toArray, List.nil_append, List.cons_append]
  have b0 := (blkCell (hW.blk0 hC) 0).trans rfl
  simp at b0
  have c1 : W.cell? ⟨g, 1, none⟩ = some (.map (some mb)) := (blkCell hoW.blk 1).trans rfl
  have c2 : W.cell? ⟨g, 2, none⟩ = some (.slice Ak G.ks.length ck) := (blkCell hoW.blk 2).trans rfl
  have HN := Lib.hid (none_callsS g mb W c1)
  have HC := Lib.hid (cloneS_calls Ak G.ks.length ck (sv G.ks) W (ownReads1 hoW.ko) (sv_len _) (by omega) (sv_one _))
  have HY := Lib.hid hY
  have HJ := Lib.hid hJ
  have H0 := Lib.hid h0
  have HM0 := Lib.hid hM0
  obtain ⟨n, hn⟩ : ∃ n, G.ks.length = n := ⟨_, rfl⟩
  rw [hn] at HC c2 hl ⊢
  have HL := Lib.hid hn
  clear hY hJ hJx h0 hC ho hoW hn c1 hM0
  gi_wp2_with fail
  refine ⟨trivial, rfl, (callsIn_wide.2 HN.out).mono ?_⟩
  rintro e w' ⟨rfl, rfl⟩
  gi_wp2_with fail
  refine ⟨trivial, rfl, (callsIn_wide.2 HC.out).mono ?_⟩
  rintro e w2 ⟨A2, c3, rfl, ho2, hE2⟩
  have HI0 : Hid (J 0 M0 w2 ∧ w2.ownsRow W.heap.size 9 1 (.slice A2 n c3) n (sv G.ks) ∧ ∀ x, (Value.slice A2 n c3).ownBlock = some x → ¬ M0 x) := Lib.hid ⟨HJ.out _ _ _ _ H0.out (Kb.of0 hE2), ho2, fun x hx hm => by have h1 := (ownBase ho2 x hx).1; have h2 := HM0.out x hm; omega⟩
  clear ho2 hE2 b0 c2 HC HN H0 HM0
  gi_wp2_with fail
  gi_loopw [13] (fun v wr => ∃ (i : Nat) (M : Nat → Prop), v = .int .i64 i ∧ i ≤ n ∧ Hid (J i M wr ∧ wr.ownsRow W.heap.size 9 1 (.slice A2 n c3) n (sv G.ks) ∧ ∀ x, (Value.slice A2 n c3).ownBlock = some x → ¬ M x)) (fun v _ => n - (intOf v).toNat)
  case atStart => exact ⟨0, M0, rfl, by omega, HI0⟩
  case round =>
    clear HI0
    obtain ⟨i, M, rfl, hi, HI⟩ := hrel
    by_cases hlt : i < n
    · have hlt' : (i : Int) < n := by omega
      obtain ⟨k, hk⟩ : ∃ k, G.ks[i]? = some k := ⟨_, List.getElem?_eq_getElem (by rw [HL.out]; exact hlt)⟩
      obtain ⟨g2, cp, hv, _, _⟩ := World.ownsRow.form HI.out.2.1 (by omega)
      injection hv with hv1 hv2 hv3
      subst hv1
      have ck' : wr.cell? ⟨g2, i, none⟩ = some (.string k) := (congrArg wr.cell? (addPlain g2 i)).symm.trans (World.ownsRow.cells (g := g2) HI.out.2.1 rfl i (.string k) (sv_get hk))
      obtain ⟨fn, tmps, assign, body, hy, hRd⟩ := HY.out i _ (i + 1) M _ ⟨k, hk, rfl, rfl⟩ HI.out.1
      have HRd := Lib.hid hRd
      clear hRd hk hv2 hv3
      gi_wp2
      refine ⟨rfl, HRd.out.mono ?_⟩
      rintro e w3 (⟨rfl, M', hJ1, hkp, hm, hsz⟩ | ⟨rfl, hJx⟩)
      · have HI2 : Hid (J (i + 1) M' w3 ∧ w3.ownsRow W.heap.size 9 1 (.slice (some ⟨g2, 0, none⟩) n c3) n (sv G.ks) ∧ ∀ x, (Value.slice (some ⟨g2, 0, none⟩) n c3).ownBlock = some x → ¬ M' x) := Lib.hid ⟨hJ1, ownKpM HI.out.2.1 hkp HI.out.2.2, fun x hx hm' => by
          rcases hm x hm' with h1 | h1
          · exact HI.out.2.2 x hx h1
          · have := (ownBase HI.out.2.1 x hx).2
            omega⟩
        clear hJ1 hkp hm hsz ck'
        gi_wp2
        go_roundw
        case rel => exact ⟨i + 1, M', by go_num, by omega, HI2⟩
        case measure => simp only [intOf]; omega
      · have HJx := Lib.hid hJx
        clear hJx ck'
        gi_wp2
        exact bodyPost_ret (v := .tuple #[]) (by simp [results, Try.results53, go_sem]) rfl ⟨⟨_, rfl⟩, .inr ⟨_, HJx.out⟩⟩
    · have hlt' : ¬ (i : Int) < n := by omega
      obtain rfl : i = n := by omega
      gi_wp2_with fail
      first
        | exact bodyPost_end (results_none rfl _ _ _) rfl ⟨⟨_, rfl⟩, .inl ⟨_, _, rfl, HI.out.1⟩⟩
        | exact bodyPost_end (results_none rfl _ _ _) rfl ⟨⟨_, rfl⟩, .inl ⟨M, HI.out.1⟩⟩
        | exact bodyPost_end (results_none rfl _ _ _) rfl ⟨⟨_, rfl⟩, .inl ⟨_, rfl, ⟨M, HI.out.1⟩⟩⟩
end Go.Proofs.Ytcngefpdfkkgdaa
