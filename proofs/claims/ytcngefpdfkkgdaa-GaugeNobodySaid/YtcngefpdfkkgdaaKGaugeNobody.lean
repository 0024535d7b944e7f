/- The walk of the law GaugeNobody: called with any values that fit its parameters, it returns true and nothing that was in memory before has changed. No other condition. -/
import Derived.Test.YtcngefpdfkkgdaaAw
import Derived.Test.YtcngefpdfkkgdaaRt
namespace Go.Proofs.Ytcngefpdfkkgdaa
open Go.RowKit Go.Maps
/-- A gauge that nobody made: none, or an empty one. -/
def NoG (w : World) (v : Value) : Prop := v = .pointer none ∨ ∃ g, v = .pointer (some ⟨g, 0, none⟩) ∧ w.cell? ⟨g, 1, none⟩ = some (.map none)
theorem NoG.kept0 {w w' : World} {v : Value} (h : NoG w v) (hE : Ext N0 w w') : NoG w' v := by
  rcases h with h | ⟨g, h1, h2⟩
  · exact .inl h
  · exact .inr ⟨g, h1, hE.cell h2 (fun x => x)⟩
theorem none_no (v : Value) (w : World) (h : NoG w v) : Calls Try.prog 38 #[v] w fun e w' => e = .returned (.bool true) ∧ w = w' := by
  have qm := fun (w : World) (r : Option Nat) => run_eql_map_nil (P := Try.prog) w 51 9 79 r Try.underlying51
  rcases h with rfl | ⟨g, rfl, hc⟩
  · go_enter Try.func38, Try.ntmps38
    go_wp2
    go_ret
    exact ⟨rfl, rfl⟩
  · go_enter Try.func38, Try.ntmps38
    go_wp2
    go_ret
    exact ⟨rfl, rfl⟩
theorem note_no (v : Value) (k : ByteArray) (n : Int) (w : World) (h : NoG w v) : Calls Try.prog 10 #[v, .string k, .int .i64 n] w fun e w' => e = .returned (.int .i64 4) ∧ w = w' := by
  have HN := Lib.hid (none_no v w h)
  clear h
  go_enter Try.func10, Try.ntmps10
  go_wp2_with (go_at_call 38; refine HN.out.mono ?_; rintro e w' ⟨rfl, rfl⟩)
  go_ret
  exact ⟨rfl, rfl⟩
theorem of_no (v : Value) (k : ByteArray) (w : World) (h : NoG w v) : Calls Try.prog 40 #[v, .string k] w fun e w' => e = .returned (.agg #[.slice none 0 0, .int .i64 0, .int .i64 0, .int .i64 0]) ∧ Ext N0 w w' := by
  have hE : Ext N0 w (w.alloc (.cells #[.slice none 0 0, .int .i64 0, .int .i64 0, .int .i64 0] 82)) := (Ext.refl _ _).alloc _
  have HN := Lib.hid (none_no v _ (h.kept0 hE))
  clear h
  go_enter Try.func40, Try.ntmps40
  go_wp2_with (go_at_call 38; refine HN.out.mono ?_; rintro e w' ⟨rfl, rfl⟩)
  refine bodyPost_ret (v := .agg #[.slice none 0 0, .int .i64 0, .int .i64 0, .int .i64 0]) (by simp [results, Try.results40, go_sem]) rfl ⟨rfl, hE⟩
theorem counts_no (v : Value) (k : ByteArray) (w : World) (h : NoG w v) : Calls Try.prog 13 #[v, .string k] w fun e w' => ∃ A c, e = .returned (.slice A 0 c) ∧ Ext N0 w w' := by
  have HO := Lib.hid (of_no v k w h)
  have q := fld0I
  clear h
  go_enter Try.func13, Try.ntmps13
  go_wp2_with (first
    | (go_at_call 40; refine HO.out.mono ?_; rintro e w1 ⟨rfl, hE⟩; have HE := Lib.hid hE; clear hE)
    | (go_at_call 31; refine (clone_calls none 0 0 [] _ (ownReads1 (ownNil _ 0 3 1)) rfl (by omega) (by simp)).mono ?_; rintro e w2 ⟨A2, c2, rfl, ho2, hE2⟩; have HO2 := Lib.hid (HE.out.then0 hE2); clear ho2 hE2))
  go_ret
  exact ⟨A2, c2, rfl, HO2.out⟩
theorem most_no (v : Value) (k : ByteArray) (w : World) (h : NoG w v) : Calls Try.prog 15 #[v, .string k] w fun e w' => e = .returned (.int .i64 0) ∧ Ext N0 w w' := by
  have HO := Lib.hid (of_no v k w h)
  have q := fld1I
  clear h
  go_enter Try.func15, Try.ntmps15
  go_wp2_with (go_at_call 40; refine HO.out.mono ?_; rintro e w1 ⟨rfl, hE⟩; have HE := Lib.hid hE; clear hE)
  go_ret
  exact ⟨rfl, HE.out⟩
theorem sum_no (v : Value) (k : ByteArray) (w : World) (h : NoG w v) : Calls Try.prog 16 #[v, .string k] w fun e w' => e = .returned (.int .i64 0) ∧ Ext N0 w w' := by
  have HO := Lib.hid (of_no v k w h)
  have q := fld2I
  clear h
  go_enter Try.func16, Try.ntmps16
  go_wp2_with (go_at_call 40; refine HO.out.mono ?_; rintro e w1 ⟨rfl, hE⟩; have HE := Lib.hid hE; clear hE)
  go_ret
  exact ⟨rfl, HE.out⟩
theorem noted_no (v : Value) (k : ByteArray) (w : World) (h : NoG w v) : Calls Try.prog 17 #[v, .string k] w fun e w' => e = .returned (.int .i64 0) ∧ Ext N0 w w' := by
  have HO := Lib.hid (of_no v k w h)
  have q := fld3I
  clear h
  go_enter Try.func17, Try.ntmps17
  go_wp2_with (go_at_call 40; refine HO.out.mono ?_; rintro e w1 ⟨rfl, hE⟩; have HE := Lib.hid hE; clear hE)
  go_ret
  exact ⟨rfl, HE.out⟩
theorem buck_calls (p : Option Addr) (k : ByteArray) (w : World) : Calls Try.prog 42 #[.pointer p, .string k] w fun e w' => e = .returned (.func (.func 52) #[] #[.pointer (some ⟨w.heap.size, 0, none⟩), .pointer (some ⟨w.heap.size + 1, 0, none⟩)]) ∧ w' = (w.alloc (.cells #[.pointer p] 24)).alloc (.cells #[.string k] 9) := by
  go_enter Try.func42, Try.ntmps42
  go_wp2
  go_ret
  exact ⟨rfl, rfl⟩
theorem keysG_calls (p : Option Addr) (w : World) : Calls Try.prog 43 #[.pointer p] w fun e w' => e = .returned (.func (.func 53) #[] #[.pointer (some ⟨w.heap.size, 0, none⟩)]) ∧ w' = w.alloc (.cells #[.pointer p] 24) := by
  go_enter Try.func43, Try.ntmps43
  go_wp2
  go_ret
  exact ⟨rfl, rfl⟩
def NStep (_ : Nat) (_ : Array Value) (_ : Nat) (_ : World) : Prop := False
theorem keysG_no (C : Nat) (p : Option Addr) (w : World) (hC : w.heap[C]? = some (.cells #[.pointer p] 24 (0, 0))) (h : NoG w (.pointer p)) :
    Iter Try.prog 53 #[.pointer (some ⟨C, 0, none⟩)] NStep (fun _ => True) (fun _ => True) (fun _ => False) 0 w := by
  intro l J Jx W hW hJ hJx hB hY h0
  refine callsIn_of_wp Try.func53 rfl trivial ?_ rfl
  simp only [Try.ntmps53, List.size_toArray, List.length_cons, List.length_nil, Nat.reduceAdd, Nat.reduceSub, Array.replicate_succ, Array.replicate_zero, List.push_toArray, List.append_toArray, List.nil_append, List.cons_append]
  have b0 := (blkCell (hW.blk0 hC) 0).trans rfl
  simp at b0
  have HN := Lib.hid (none_no (.pointer p) W (h.kept0 hW))
  have H0 := Lib.hid h0
  clear hY hJ hJx hB h0 h hC
  gi_wp2_with fail
  refine ⟨trivial, rfl, (callsIn_wide.2 HN.out).mono ?_⟩
  rintro e w' ⟨rfl, rfl⟩
  gi_wp2
  first
    | exact bodyPost_ret (v := .tuple #[]) (by simp [results, Try.results53, go_sem]) rfl ⟨⟨_, rfl⟩, .inl ⟨0, trivial, H0.out⟩⟩
    | exact bodyPost_ret (v := .tuple #[]) (by simp [results, Try.results53, go_sem]) rfl ⟨⟨_, rfl⟩, .inl ⟨0, H0.out⟩⟩
theorem buck_no (C1 C2 : Nat) (p : Option Addr) (k : ByteArray) (w : World) (h1 : w.heap[C1]? = some (.cells #[.pointer p] 24 (0, 0))) (h2 : w.heap[C2]? = some (.cells #[.string k] 9 (0, 0))) (h : NoG w (.pointer p)) :
    Iter Try.prog 52 #[.pointer (some ⟨C1, 0, none⟩), .pointer (some ⟨C2, 0, none⟩)] NStep (fun _ => True) (fun _ => True) (fun _ => False) 0 w := by
  intro l J Jx W hW hJ hJx hB hY h0
  refine callsIn_of_wp Try.func52 rfl trivial ?_ rfl
  simp only [Try.ntmps52, List.size_toArray, List.length_cons, List.length_nil, Nat.reduceAdd, Nat.reduceSub, Array.replicate_succ, Array.replicate_zero, List.push_toArray, List.append_toArray, List.nil_append, List.cons_append]
  have b0 := (blkCell (hW.blk0 h1) 0).trans rfl
  have b1 := (blkCell (hW.blk0 h2) 0).trans rfl
  simp at b0 b1
  have HN := Lib.hid (of_no (.pointer p) k W (h.kept0 hW))
  have HJ := Lib.hid hJ
  have H0 := Lib.hid h0
  have q := fld0I
  clear hY hJ hJx hB h0 h h1 h2
  gi_wp2_with fail
  refine ⟨trivial, rfl, (callsIn_wide.2 HN.out).mono ?_⟩
  rintro e w' ⟨rfl, hE⟩
  have HJ2 := Lib.hid (HJ.out _ _ _ H0.out (Kb.of0 hE))
  clear hE
  gi_wp2_with fail
  gi_loopw [4, 12] (fun _ i wr => i = .int .i64 0 ∧ Hid (J 0 wr)) (fun _ _ _ => 0)
  case atStart => exact ⟨rfl, HJ2⟩
  case round =>
    clear HJ2
    obtain ⟨rfl, HJ0⟩ := hrel
    gi_wp2_with fail
    first
      | exact bodyPost_end (results_none rfl _ _ _) rfl ⟨⟨_, rfl⟩, .inl ⟨0, trivial, HJ0.out⟩⟩
      | exact bodyPost_end (results_none rfl _ _ _) rfl ⟨⟨_, rfl⟩, .inl ⟨0, HJ0.out⟩⟩
theorem eqlFuncNil {P : Program} (w : World) {t : TypeId} {ps rs : Array TypeId} {vd : Bool} (f : Fn) (bs cs : Array Value) (ht : P.underlying t = some (.func ps rs vd)) : (binOp .eql t (.func f bs cs) .nilFunc).run P w = .ok (.bool false) w := by
  have h : ∀ d : Nat, (Op.equalIn (d + 1) t (.func f bs cs) .nilFunc).run P w = .ok false w := fun d => by
    simp [Op.equalIn, run_underlying ht]
  simp only [binOp]
  simp [Op.equal, Op.maxDepth, h 9999]
attribute [local go_sem] Oper.semAt_some
set_option maxRecDepth 100000 in
theorem keys_no (p : Option Addr) (n : Int) (w : World) (h : NoG w (.pointer p)) : Calls Try.prog 22 #[.pointer p, .int .i64 n] w fun e w' => e = .returned (.slice none 0 0) ∧ Ext N0 w w' := by
  refine callsIn_wide (n := 0) |>.1 ?_
  refine callsIn_of_wp_marks Try.func22 rfl trivial ?_ rfl
  simp only [Try.ntmps22, List.size_toArray, List.length_cons, List.length_nil, Nat.reduceAdd, Nat.reduceSub, Array.replicate_succ, Array.replicate_zero, List.push_toArray, List.append_toArray, List.nil_append, List.cons_append]
  have HN := Lib.hid h
  clear h
  gi_wp2_with fail
  refine ⟨trivial, rfl, (callsIn_wide.2 (keysG_calls p _)).mono ?_⟩
  rintro e w2 ⟨rfl, hw2⟩
  have HW2 := Lib.hid hw2
  clear hw2
  have qf := fun (W : World) => eqlFuncNil (P := Try.prog) W (.func 53) #[] #[.pointer (some ⟨w.heap.size + 1 + 1, 0, none⟩)] Try.underlying91
  gi_wp2_with fail
  have hsz : w2.heap.size = w.heap.size + 3 := by rw [HW2.out]; simp
  have hE2 : Ext N0 w w2 := by rw [HW2.out]; exact (((Ext.refl _ _).alloc _).alloc _).alloc _
  have hs2 : w2.heap[w.heap.size + 1]? = some (.cells #[.slice none 0 0] 46 (0, 0)) := by rw [HW2.out]; exact blkAlloc (blkNewG _ _ (by simp)) _
  have hb2 : w2.heap[w.heap.size + 1 + 1]? = some (.cells #[.pointer p] 24 (0, 0)) := by rw [HW2.out]; exact blkNewG _ _ (by simp)
  have hn2 : NoG w2 (.pointer p) := HN.out.kept0 hE2
  clear HW2 HN qf
  refine rangeLaw (β := Nat) (b0 := 0) (Step := NStep) (Fin := fun _ => True) (Bd := fun _ => True) (R := fun _ => False) (gf := 53) (lb := #[.pointer (some ⟨w.heap.size + 1 + 1, 0, none⟩)]) rfl (enters_of Try.func53 (by kernel_rfl) rfl)
    (keysG_no _ p w2 hb2 hn2) (fun k hk => (show False from hk).elim) (fun b vs b' W hs => (show False from hs).elim)
    (fun _ X => Ext N0 w2 X) (fun _ _ _ => False) (fun _ A B hh k => k.ext hh (Nat.le_refl _)) (fun _ _ A B hh k => hh) (Ext.refl N0 w2) (fun _ _ _ => trivial)
    (fun _ _ _ _ => False) (fun _ _ _ A B h k => h) ?assign ?body ?done ?stop
  case assign => exact fun l b b' vs W K hs => (show False from hs).elim
  case body => exact fun l b b' a' W _ _ _ hf => (show False from hf).elim
  case done =>
    rintro D b X hD hF hX hK
    have c2 := (blkCell (hX.blk0 hs2) 0).trans rfl
    simp at c2
    have HX := Lib.hid hX
    clear hX
    gi_wp2
    refine ⟨by simp, .inl ⟨_, _, rfl, run_takeDeferred hK, ?_⟩⟩
    have kb := Kb.put (z := w2.heap.size) (.deferred none) hK rfl hD
    exact ⟨.slice none 0 0, by simp [results, Try.f22, go_sem], rfl, kb.ext (hE2.then0 HX.out) (by omega)⟩
  case stop => exact fun D code b X _ hF _ => (show False from hF).elim
set_option maxRecDepth 100000 in
theorem above_no (p : Option Addr) (k : ByteArray) (n : Int) (w : World) (h : NoG w (.pointer p)) : Calls Try.prog 18 #[.pointer p, .string k, .int .i64 n] w fun e w' => e = .returned (.int .i64 0) ∧ Ext N0 w w' := by
  refine callsIn_wide (n := 0) |>.1 ?_
  refine callsIn_of_wp_marks Try.func18 rfl trivial ?_ rfl
  simp only [Try.ntmps18, List.size_toArray, List.length_cons, List.length_nil, Nat.reduceAdd, Nat.reduceSub, Array.replicate_succ, Array.replicate_zero, List.push_toArray, List.append_toArray, List.nil_append, List.cons_append]
  have HN := Lib.hid h
  clear h
  gi_wp2_with fail
  refine ⟨trivial, rfl, (callsIn_wide.2 (buck_calls p k _)).mono ?_⟩
  rintro e w2 ⟨rfl, hw2⟩
  have HW2 := Lib.hid hw2
  clear hw2
  gi_wp2_with fail
  have hsz : w2.heap.size = w.heap.size + 4 := by rw [HW2.out]; simp
  have hE2 : Ext N0 w w2 := by rw [HW2.out]; exact ((((Ext.refl _ _).alloc _).alloc _).alloc _).alloc _
  have hs2 : w2.heap[w.heap.size + 1]? = some (.cells #[.int .i64 0] 3 (0, 0)) := by rw [HW2.out]; exact blkAlloc (blkAlloc (blkNewG _ _ (by simp)) _) _
  have hp2 : w2.heap[w.heap.size + 1 + 1]? = some (.cells #[.pointer p] 24 (0, 0)) := by rw [HW2.out]; exact blkAlloc (blkNewG _ _ (by simp)) _
  have hk2 : w2.heap[w.heap.size + 1 + 1 + 1]? = some (.cells #[.string k] 9 (0, 0)) := by rw [HW2.out]; exact blkNewG _ _ (by simp)
  have hn2 : NoG w2 (.pointer p) := HN.out.kept0 hE2
  clear HW2 HN
  refine rangeLaw (β := Nat) (b0 := 0) (Step := NStep) (Fin := fun _ => True) (Bd := fun _ => True) (R := fun _ => False) (gf := 52) (lb := #[.pointer (some ⟨w.heap.size + 1 + 1, 0, none⟩), .pointer (some ⟨w.heap.size + 1 + 1 + 1, 0, none⟩)]) rfl (enters_of Try.func52 (by kernel_rfl) rfl)
    (buck_no _ _ p k w2 hp2 hk2 hn2) (fun k hk => (show False from hk).elim) (fun b vs b' W hs => (show False from hs).elim)
    (fun _ X => Ext N0 w2 X) (fun _ _ _ => False) (fun _ A B hh k => k.ext hh (Nat.le_refl _)) (fun _ _ A B hh k => hh) (Ext.refl N0 w2) (fun _ _ _ => trivial)
    (fun _ _ _ _ => False) (fun _ _ _ A B h k => h) ?assign ?body ?done ?stop
  case assign => exact fun l b b' vs W K hs => (show False from hs).elim
  case body => exact fun l b b' a' W _ _ _ hf => (show False from hf).elim
  case done =>
    rintro D b X hD hF hX hK
    have c2 := (blkCell (hX.blk0 hs2) 0).trans rfl
    simp at c2
    have HX := Lib.hid hX
    clear hX
    gi_wp2
    refine ⟨by simp, .inl ⟨_, _, rfl, run_takeDeferred hK, ?_⟩⟩
    have kb := Kb.put (z := w2.heap.size) (.deferred none) hK rfl hD
    exact ⟨.int .i64 0, by simp [results, Try.f18, go_sem], rfl, kb.ext (hE2.then0 HX.out) (by omega)⟩
  case stop => exact fun D code b X _ hF _ => (show False from hF).elim
end Go.Proofs.Ytcngefpdfkkgdaa
namespace Go.Proofs.Ytcngefpdfkkgdaa
open Go.RowKit Go.Maps
/-- The two that nobody made. -/
def Two (L : Nat) (W : World) : Prop := ∀ k : Nat, k < 2 → ∃ p : Option Addr, W.cell? ⟨L, k, none⟩ = some (.pointer p) ∧ NoG W (.pointer p)
theorem Two.kept0 {L : Nat} {W W' : World} (h : Two L W) (hE : Ext N0 W W') : Two L W' := fun k hk => by
  obtain ⟨p, h1, h2⟩ := h k hk
  exact ⟨p, hE.cell h1 (fun x => x), h2.kept0 hE⟩
namespace gaugeNobody
set_option maxRecDepth 100000 in
set_option maxHeartbeats 2000000 in
theorem walk (a0 : ByteArray) (a1 : Int) (w : World) (_w0 : a0.size ≤ maxLen) (_w1 : (Lit.int .i64 a1).wf = true) :
    Calls Try.prog 4 #[.string a0, .int .i64 a1] w fun e w' => e = .returned (.bool true) ∧ Below w.heap.size w w' := by
  go_enter Try.func4, Try.ntmps4
  go_wp2_with fail
  obtain ⟨W, hW⟩ : ∃ W, ((w.alloc (.cells #[.slice none 0 0, .map none, .slice none 0 0] 53)).alloc (.cells #[.pointer none, .pointer (some ⟨w.heap.size, 0, none⟩)] 24)) = W := ⟨_, rfl⟩
  have hE : Ext N0 w W := by rw [← hW]; exact ((Ext.refl _ _).alloc _).alloc _
  have hA : W.heap[w.heap.size]? = some (.cells #[.slice none 0 0, .map none, .slice none 0 0] 53 (0, 0)) := by rw [← hW]; exact blkAlloc (blkNew _ _) _
  have hL : W.heap[w.heap.size + 1]? = some (.cells #[.pointer none, .pointer (some ⟨w.heap.size, 0, none⟩)] 24 (0, 0)) := by rw [← hW]; exact blkNewG _ _ (by simp)
  have hv : Two (w.heap.size + 1) W := by
    intro k hk
    obtain rfl | rfl : k = 0 ∨ k = 1 := by omega
    · exact ⟨_, (blkCell hL 0).trans rfl, .inl rfl⟩
    · exact ⟨_, (blkCell hL 1).trans rfl, .inr ⟨_, rfl, (blkCell hA 1).trans rfl⟩⟩
  rw [hW]
  have HV := Lib.hid hv
  have HE := Lib.hid hE
  clear hW hE hA hL hv
  go_loopw [13] (fun i wr => ∃ k : Nat, k ≤ 2 ∧ i = .int .i64 k ∧ Hid (Two (w.heap.size + 1) wr) ∧ Hid (Ext N0 w wr)) (fun i _ => 2 - (intOf i).toNat)
  case atStart => exact ⟨0, by omega, rfl, HV, HE⟩
  case round =>
    clear HV HE
    obtain ⟨k, hk, rfl, HV, HE⟩ := hrel
    by_cases hlt : k < 2
    · obtain ⟨p, hc, hn⟩ := HV.out k hlt
      have HN := Lib.hid hn
      clear hn
      have hlt' : (k : Int) < 2 := by omega
      go_wp2_with (first
        | (go_at_call 10; refine (note_no (.pointer p) a0 a1 _ HN.out).mono ?_; rintro e w1 ⟨rfl, hw1⟩; subst hw1)
        | (go_at_call 13; refine (counts_no (.pointer p) a0 _ HN.out).mono ?_; rintro e w2 ⟨A2, c2, rfl, hE2⟩; have HX2 := Lib.hid hE2; clear hE2)
        | (go_at_call 15; refine (most_no (.pointer p) a0 _ (HN.out.kept0 HX2.out)).mono ?_; rintro e w3 ⟨rfl, hE3⟩; have HX3 := Lib.hid (HX2.out.then0 hE3); clear hE3)
        | (go_at_call 16; refine (sum_no (.pointer p) a0 _ (HN.out.kept0 HX3.out)).mono ?_; rintro e w4 ⟨rfl, hE4⟩; have HX4 := Lib.hid (HX3.out.then0 hE4); clear hE4)
        | (go_at_call 17; refine (noted_no (.pointer p) a0 _ (HN.out.kept0 HX4.out)).mono ?_; rintro e w5 ⟨rfl, hE5⟩; have HX5 := Lib.hid (HX4.out.then0 hE5); clear hE5)
        | (go_at_call 18; refine (above_no p a0 a1 _ (HN.out.kept0 HX5.out)).mono ?_; rintro e w6 ⟨rfl, hE6⟩; have HX6 := Lib.hid (HX5.out.then0 hE6); clear hE6)
        | (go_at_call 22; refine (keys_no p 3 _ (HN.out.kept0 HX6.out)).mono ?_; rintro e w7 ⟨rfl, hE7⟩; have HX7 := Lib.hid (HX6.out.then0 hE7); clear hE7))
      go_roundw
      case rel => exact ⟨k + 1, by omega, by go_num, Lib.hid (HV.out.kept0 HX7.out), Lib.hid (HE.out.then0 HX7.out)⟩
      case measure => simp [intOf]; omega
    · have hlt' : ¬ (k : Int) < 2 := by omega
      go_wp2_with (go_at_call 8; refine (awake_calls _).mono ?_; rintro e w8 ⟨rfl, hE8⟩)
      go_ret
      exact ⟨rfl, (HE.out.then0 hE8).below⟩
end gaugeNobody
end Go.Proofs.Ytcngefpdfkkgdaa
