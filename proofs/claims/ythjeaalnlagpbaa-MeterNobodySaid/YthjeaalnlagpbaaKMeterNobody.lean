/- The walk of the law MeterNobody: called with any values that fit its parameters, it returns true and nothing that was in memory before has changed. No other condition. -/
import Derived.Test.YthjeaalnlagpbaaMS4
import Derived.Test.YthjeaalnlagpbaaAw
namespace Go.Proofs.Ythjeaalnlagpbaa
open Go.RowKit Go.Maps
/-- A meter that nobody made: none, or an empty one. -/
def NoM (w : World) (v : Value) : Prop := v = .pointer none ∨ ∃ g, v = .pointer (some ⟨g, 0, none⟩) ∧ w.cell? ⟨g, 4, none⟩ = some (.map none)
theorem NoM.kept0 {w w' : World} {v : Value} (h : NoM w v) (hE : Ext N0 w w') : NoM w' v := by
  rcases h with h | ⟨g, h1, h2⟩
  · exact .inl h
  · exact .inr ⟨g, h1, hE.cell h2 (fun x => x)⟩
theorem none_no (v : Value) (w : World) (h : NoM w v) : Calls Try.prog 40 #[v] w fun e w' => e = .returned (.bool true) ∧ w = w' := by
  have qm := fun (w : World) (r : Option Nat) => run_eql_map_nil (P := Try.prog) w 66 9 84 r Try.underlying66
  rcases h with rfl | ⟨g, rfl, hc⟩
  · go_enter Try.func40, Try.ntmps40
    go_wp2
    go_ret
    exact ⟨rfl, rfl⟩
  · go_enter Try.func40, Try.ntmps40
    go_wp2
    go_ret
    exact ⟨rfl, rfl⟩
theorem ask_no (v : Value) (k : ByteArray) (n : Int) (w : World) (h : NoM w v) : Calls Try.prog 38 #[v, .string k, .int .i64 n] w fun e w' => e = .returned (.int .i64 4) ∧ w = w' := by
  have HN := Lib.hid (none_no v w h)
  clear h
  go_enter Try.func38, Try.ntmps38
  go_wp2_with (go_at_call 40; refine HN.out.mono ?_; rintro e w' ⟨rfl, rfl⟩)
  go_ret
  exact ⟨rfl, rfl⟩
theorem take_no (v : Value) (k : ByteArray) (n : Int) (w : World) (h : NoM w v) : Calls Try.prog 16 #[v, .string k, .int .i64 n] w fun e w' => e = .returned (.tuple #[.bool false, .int .i64 4]) ∧ w = w' := by
  have HN := Lib.hid (ask_no v k n w h)
  clear h
  go_enter Try.func16, Try.ntmps16
  go_wp2_with (go_at_call 38; refine HN.out.mono ?_; rintro e w' ⟨rfl, rfl⟩)
  exact bodyPost_ret (v := .tuple #[.bool false, .int .i64 4]) (by simp [results, Try.results16, go_sem]) rfl ⟨rfl, rfl⟩
theorem force_no (v : Value) (k : ByteArray) (n : Int) (w : World) (h : NoM w v) : Calls Try.prog 18 #[v, .string k, .int .i64 n] w fun e w' => e = .returned (.tuple #[.int .i64 0, .int .i64 4]) ∧ w = w' := by
  have HN := Lib.hid (ask_no v k n w h)
  clear h
  go_enter Try.func18, Try.ntmps18
  go_wp2_with (go_at_call 38; refine HN.out.mono ?_; rintro e w' ⟨rfl, rfl⟩)
  exact bodyPost_ret (v := .tuple #[.int .i64 0, .int .i64 4]) (by simp [results, Try.results18, go_sem]) rfl ⟨rfl, rfl⟩
theorem wait_no (v : Value) (k : ByteArray) (n : Int) (w : World) (h : NoM w v) : Calls Try.prog 22 #[v, .string k, .int .i64 n] w fun e w' => e = .returned (.tuple #[.int .i64 0, .bool false]) ∧ w = w' := by
  have HN := Lib.hid (none_no v w h)
  clear h
  go_enter Try.func22, Try.ntmps22
  go_wp2_with (go_at_call 40; refine HN.out.mono ?_; rintro e w' ⟨rfl, rfl⟩)
  exact bodyPost_ret (v := .tuple #[.int .i64 0, .bool false]) (by simp [results, Try.results22, go_sem]) rfl ⟨rfl, rfl⟩
theorem tick_no (v : Value) (n : Int) (w : World) (h : NoM w v) : Calls Try.prog 20 #[v, .int .i64 n] w fun e w' => e = .returned (.tuple #[]) ∧ w = w' := by
  have HN := Lib.hid (none_no v w h)
  clear h
  go_enter Try.func20, Try.ntmps20
  go_wp2_with (go_at_call 40; refine HN.out.mono ?_; rintro e w' ⟨rfl, rfl⟩)
  go_end0
  exact ⟨rfl, rfl⟩
theorem tok_no (v : Value) (k : ByteArray) (w : World) (h : NoM w v) : Calls Try.prog 24 #[v, .string k] w fun e w' => e = .returned (.int .i64 0) ∧ w = w' := by
  have HN := Lib.hid (none_no v w h)
  clear h
  go_enter Try.func24, Try.ntmps24
  go_wp2_with (go_at_call 40; refine HN.out.mono ?_; rintro e w' ⟨rfl, rfl⟩)
  go_ret
  exact ⟨rfl, rfl⟩
theorem now_no (v : Value) (w : World) (h : NoM w v) : Calls Try.prog 26 #[v] w fun e w' => e = .returned (.int .i64 0) ∧ w = w' := by
  have HN := Lib.hid (none_no v w h)
  clear h
  go_enter Try.func26, Try.ntmps26
  go_wp2_with (go_at_call 40; refine HN.out.mono ?_; rintro e w' ⟨rfl, rfl⟩)
  go_ret
  exact ⟨rfl, rfl⟩
theorem known_calls (p : Option Addr) (w : World) : Calls Try.prog 47 #[.pointer p] w fun e w' => e = .returned (.func (.func 48) #[] #[.pointer (some ⟨w.heap.size, 0, none⟩)]) ∧ w' = w.alloc (.cells #[.pointer p] 41) := by
  go_enter Try.func47, Try.ntmps47
  go_wp2
  go_ret
  exact ⟨rfl, rfl⟩
theorem keysM_calls (p : Option Addr) (w : World) : Calls Try.prog 42 #[.pointer p] w fun e w' => e = .returned (.func (.func 46) #[] #[.pointer (some ⟨w.heap.size, 0, none⟩)]) ∧ w' = w.alloc (.cells #[.pointer p] 41) := by
  go_enter Try.func42, Try.ntmps42
  go_wp2
  go_ret
  exact ⟨rfl, rfl⟩
def NStep (_ : Nat) (_ : Array Value) (_ : Nat) (_ : World) : Prop := False
theorem known_no (C : Nat) (p : Option Addr) (w : World) (hC : w.heap[C]? = some (.cells #[.pointer p] 41 (0, 0))) (h : NoM w (.pointer p)) :
    Iter Try.prog 48 #[.pointer (some ⟨C, 0, none⟩)] NStep (fun _ => True) (fun _ => True) (fun _ => False) 0 w := by
  intro l J Jx W hW hJ hJx hB hY h0
  refine callsIn_of_wp Try.func48 rfl trivial ?_ rfl
  simp only [Try.ntmps48, List.size_toArray, List.length_cons, List.length_nil, Nat.reduceAdd, Nat.reduceSub, Array.replicate_succ, Array.replicate_zero, List.push_toArray, List.append_toArray, List.nil_append, List.cons_append]
  have b0 := (blkCell (hW.blk0 hC) 0).trans rfl
  simp at b0
  have HN := Lib.hid (none_no (.pointer p) W (h.kept0 hW))
  have H0 := Lib.hid h0
  clear hY hJ hJx hB h0 h hC
  gi_wp2_with fail
  refine ⟨trivial, rfl, (callsIn_wide.2 HN.out).mono ?_⟩
  rintro e w' ⟨rfl, rfl⟩
  gi_wp2
  first
    | exact bodyPost_ret (v := .tuple #[]) (by simp [results, Try.results48, go_sem]) rfl ⟨⟨_, rfl⟩, .inl ⟨0, trivial, H0.out⟩⟩
    | exact bodyPost_ret (v := .tuple #[]) (by simp [results, Try.results48, go_sem]) rfl ⟨⟨_, rfl⟩, .inl ⟨0, H0.out⟩⟩
attribute [local go_sem] Oper.semAt_some
set_option maxRecDepth 100000 in
theorem keys_no_iter (C : Nat) (p : Option Addr) (w : World) (hC : w.heap[C]? = some (.cells #[.pointer p] 41 (0, 0))) (h : NoM w (.pointer p)) :
    Iter Try.prog 46 #[.pointer (some ⟨C, 0, none⟩)] NStep (fun _ => True) (fun _ => True) (fun _ => False) 0 w := by
  intro l J Jx W hW hJ hJx hB hY h0
  refine callsIn_of_wp_marks Try.func46 rfl trivial ?_ rfl
  simp only [Try.ntmps46, List.size_toArray, List.length_cons, List.length_nil, Nat.reduceAdd, Nat.reduceSub, Array.replicate_succ, Array.replicate_zero, List.push_toArray, List.append_toArray, List.nil_append, List.cons_append]
  have hE1 : Ext N0 W (W.alloc (.cells #[.func (.yield l) #[] #[]] 71)) := (Ext.refl _ _).alloc _
  have b0 := (blkCell (hE1.blk0 (hW.blk0 hC)) 0).trans rfl
  simp at b0
  have hN := (h.kept0 hW).kept0 hE1
  have HN := Lib.hid hN
  have HJ := Lib.hid hJ
  have H0 := Lib.hid h0
  clear hY hJ hJx hB h0 h hC hN hE1
  gi_wp2_with fail
  refine ⟨trivial, rfl, (callsIn_wide.2 (known_calls p _)).mono ?_⟩
  rintro e w2 ⟨rfl, hw2⟩
  have HW2 := Lib.hid hw2
  clear hw2
  gi_wp2_with fail
  have hsz : w2.heap.size = W.heap.size + 2 := by rw [HW2.out]; simp
  have hE2 : Ext N0 W w2 := by rw [HW2.out]; exact ((Ext.refl _ _).alloc _).alloc _
  have hb2 : w2.heap[W.heap.size + 1]? = some (.cells #[.pointer p] 41 (0, 0)) := by rw [HW2.out]; exact blkNewG _ _ (by simp)
  have hn2 : NoM w2 (.pointer p) := by rw [HW2.out]; exact HN.out.kept0 ((Ext.refl _ _).alloc _)
  clear HW2
  refine rangeLaw (β := Nat) (b0 := 0) (Step := NStep) (Fin := fun _ => True) (Bd := fun _ => True) (R := fun _ => False) (gf := 48) (lb := #[.pointer (some ⟨W.heap.size + 1, 0, none⟩)]) rfl (enters_of Try.func48 (by kernel_rfl) rfl)
    (known_no _ p w2 hb2 hn2) (fun k hk => (show False from hk).elim) (fun b vs b' W hs => (show False from hs).elim)
    (fun _ X => J 0 X) (fun _ _ _ => False) (fun _ A B hh k => HJ.out _ _ _ hh (k.mono (by omega))) (fun _ _ A B hh k => hh) (HJ.out _ _ _ H0.out (Kb.of0 hE2)) (fun _ _ _ => trivial)
    (fun _ _ _ _ => False) (fun _ _ _ A B h k => h) ?assign ?body ?done ?stop
  case assign => exact fun l b b' vs W K hs => (show False from hs).elim
  case body => exact fun l b b' a' W _ _ _ hf => (show False from hf).elim
  case done =>
    rintro D b X hD hF hX hK
    have HX := Lib.hid hX
    clear hX
    gi_wp2
    refine ⟨by simp, .inl ⟨_, _, rfl, run_takeDeferred hK, ?_⟩⟩
    have kb := Kb.put (z := W.heap.size) (.deferred none) hK rfl (by omega)
    first
      | exact ⟨.tuple #[], by simp [results, Try.f46, go_sem], ⟨_, rfl⟩, .inl ⟨0, trivial, HJ.out _ _ _ HX.out kb⟩⟩
      | exact ⟨.tuple #[], by simp [results, Try.f46, go_sem], ⟨_, rfl⟩, .inl ⟨0, HJ.out _ _ _ HX.out kb⟩⟩
  case stop => exact fun D code b X _ hF _ => (show False from hF).elim
theorem eqlFuncNil {P : Program} (w : World) {t : TypeId} {ps rs : Array TypeId} {vd : Bool} (f : Fn) (bs cs : Array Value) (ht : P.underlying t = some (.func ps rs vd)) : (binOp .eql t (.func f bs cs) .nilFunc).run P w = .ok (.bool false) w := by
  have h : ∀ d : Nat, (Op.equalIn (d + 1) t (.func f bs cs) .nilFunc).run P w = .ok false w := fun d => by
    simp [Op.equalIn, run_underlying ht]
  simp only [binOp]
  simp [Op.equal, Op.maxDepth, h 9999]
set_option maxRecDepth 100000 in
theorem keys_no (p : Option Addr) (n : Int) (w : World) (h : NoM w (.pointer p)) : Calls Try.prog 28 #[.pointer p, .int .i64 n] w fun e w' => e = .returned (.slice none 0 0) ∧ Ext N0 w w' := by
  refine callsIn_wide (n := 0) |>.1 ?_
  refine callsIn_of_wp_marks Try.func28 rfl trivial ?_ rfl
  simp only [Try.ntmps28, List.size_toArray, List.length_cons, List.length_nil, Nat.reduceAdd, Nat.reduceSub, Array.replicate_succ, Array.replicate_zero, List.push_toArray, List.append_toArray, List.nil_append, List.cons_append]
  have HN := Lib.hid h
  clear h
  gi_wp2_with fail
  refine ⟨trivial, rfl, (callsIn_wide.2 (keysM_calls p _)).mono ?_⟩
  rintro e w2 ⟨rfl, hw2⟩
  have HW2 := Lib.hid hw2
  clear hw2
  have qf := fun (W : World) => eqlFuncNil (P := Try.prog) W (.func 46) #[] #[.pointer (some ⟨w.heap.size + 1 + 1, 0, none⟩)] Try.underlying92
  gi_wp2_with fail
  have hsz : w2.heap.size = w.heap.size + 3 := by rw [HW2.out]; simp
  have hE2 : Ext N0 w w2 := by rw [HW2.out]; exact (((Ext.refl _ _).alloc _).alloc _).alloc _
  have hs2 : w2.heap[w.heap.size + 1]? = some (.cells #[.slice none 0 0] 44 (0, 0)) := by rw [HW2.out]; exact blkAlloc (blkNewG _ _ (by simp)) _
  have hb2 : w2.heap[w.heap.size + 1 + 1]? = some (.cells #[.pointer p] 41 (0, 0)) := by rw [HW2.out]; exact blkNewG _ _ (by simp)
  have hn2 : NoM w2 (.pointer p) := HN.out.kept0 hE2
  clear HW2 HN qf
  refine rangeLaw (β := Nat) (b0 := 0) (Step := NStep) (Fin := fun _ => True) (Bd := fun _ => True) (R := fun _ => False) (gf := 46) (lb := #[.pointer (some ⟨w.heap.size + 1 + 1, 0, none⟩)]) rfl (enters_of Try.func46 (by kernel_rfl) rfl)
    (keys_no_iter _ p w2 hb2 hn2) (fun k hk => (show False from hk).elim) (fun b vs b' W hs => (show False from hs).elim)
    (fun _ X => Ext N0 w2 X) (fun _ _ _ => False) (fun _ A B hh k => k.ext hh (Nat.le_refl _)) (fun _ _ A B hh k => hh) (Ext.refl N0 w2) (fun _ _ _ => trivial)
    (fun _ _ _ _ => False) (fun _ _ _ A B h k => h) ?assign ?body ?done ?stop
  case assign => exact fun l b b' vs W K hs => (show False from hs).elim
  case body => exact fun l b b' a' W _ _ _ hf => (show False from hf).elim
  case done =>
    rintro D b X hD hF hX hK
    have c2 := (blkCell (hX.blk0 hs2) 0).trans rfl
    simp at c2
    have HX := Lib.hid hX
    clear hX
    gi_wp2
    refine ⟨by simp, .inl ⟨_, _, rfl, run_takeDeferred hK, ?_⟩⟩
    have kb := Kb.put (z := w2.heap.size) (.deferred none) hK rfl hD
    exact ⟨.slice none 0 0, by simp [results, Try.f28, go_sem], rfl, kb.ext (hE2.then0 HX.out) (by omega)⟩
  case stop => exact fun D code b X _ hF _ => (show False from hF).elim
/-- The two that nobody made. -/
def Two (L : Nat) (W : World) : Prop := ∀ k : Nat, k < 2 → ∃ p : Option Addr, W.cell? ⟨L, k, none⟩ = some (.pointer p) ∧ NoM W (.pointer p)
theorem Two.kept0 {L : Nat} {W W' : World} (h : Two L W) (hE : Ext N0 W W') : Two L W' := fun k hk => by
  obtain ⟨p, h1, h2⟩ := h k hk
  exact ⟨p, hE.cell h1 (fun x => x), h2.kept0 hE⟩
namespace meterNobody
set_option maxRecDepth 100000 in
set_option maxHeartbeats 2000000 in
theorem walk (a0 : ByteArray) (a1 : Int) (w : World) (_w0 : a0.size ≤ maxLen) (_w1 : (Lit.int .i64 a1).wf = true) :
    Calls Try.prog 6 #[.string a0, .int .i64 a1] w fun e w' => e = .returned (.bool true) ∧ Below w.heap.size w w' := by
  go_enter Try.func6, Try.ntmps6
  go_wp2_with fail
  obtain ⟨W, hW⟩ : ∃ W, ((w.alloc (.cells #[.int .i64 0, .int .i64 0, .int .i64 0, .int .i64 0, .map none, .slice none 0 0] 69)).alloc (.cells #[.pointer none, .pointer (some ⟨w.heap.size, 0, none⟩)] 41)) = W := ⟨_, rfl⟩
  have hE : Ext N0 w W := by rw [← hW]; exact ((Ext.refl _ _).alloc _).alloc _
  have hA : W.heap[w.heap.size]? = some (.cells #[.int .i64 0, .int .i64 0, .int .i64 0, .int .i64 0, .map none, .slice none 0 0] 69 (0, 0)) := by rw [← hW]; exact blkAlloc (blkNew _ _) _
  have hL : W.heap[w.heap.size + 1]? = some (.cells #[.pointer none, .pointer (some ⟨w.heap.size, 0, none⟩)] 41 (0, 0)) := by rw [← hW]; exact blkNewG _ _ (by simp)
  have hv : Two (w.heap.size + 1) W := by
    intro k hk
    obtain rfl | rfl : k = 0 ∨ k = 1 := by omega
    · exact ⟨_, (blkCell hL 0).trans rfl, .inl rfl⟩
    · exact ⟨_, (blkCell hL 1).trans rfl, .inr ⟨_, rfl, (blkCell hA 4).trans rfl⟩⟩
  rw [hW]
  have HV := Lib.hid hv
  have HE := Lib.hid hE
  clear hW hE hA hL hv
  go_loopw [19] (fun i wr => ∃ k : Nat, k ≤ 2 ∧ i = .int .i64 k ∧ Hid (Two (w.heap.size + 1) wr) ∧ Hid (Ext N0 w wr)) (fun i _ => 2 - (intOf i).toNat)
  case atStart => exact ⟨0, by omega, rfl, HV, HE⟩
  case round =>
    clear HV HE
    obtain ⟨k, hk, rfl, HV, HE⟩ := hrel
    by_cases hlt : k < 2
    · obtain ⟨p, hc, hn⟩ := HV.out k hlt
      have HN := Lib.hid hn
      clear hn
      have hlt' : (k : Int) < 2 := by omega
      go_wp2_with (first
        | (go_at_call 16; refine (take_no (.pointer p) a0 a1 _ HN.out).mono ?_; rintro e w1 ⟨rfl, rfl⟩)
        | (go_at_call 18; refine (force_no (.pointer p) a0 a1 _ HN.out).mono ?_; rintro e w1 ⟨rfl, rfl⟩)
        | (go_at_call 22; refine (wait_no (.pointer p) a0 a1 _ HN.out).mono ?_; rintro e w1 ⟨rfl, rfl⟩)
        | (go_at_call 20; refine (tick_no (.pointer p) a1 _ HN.out).mono ?_; rintro e w1 ⟨rfl, rfl⟩)
        | (go_at_call 24; refine (tok_no (.pointer p) a0 _ HN.out).mono ?_; rintro e w1 ⟨rfl, rfl⟩)
        | (go_at_call 26; refine (now_no (.pointer p) _ HN.out).mono ?_; rintro e w1 ⟨rfl, rfl⟩)
        | (go_at_call 28; refine (keys_no p 3 _ HN.out).mono ?_; rintro e w1 ⟨rfl, hE1⟩; have HE1 := Lib.hid hE1; clear hE1))
      go_roundw
      case rel => exact ⟨k + 1, by omega, by go_num, Lib.hid (HV.out.kept0 HE1.out), Lib.hid (HE.out.then0 HE1.out)⟩
      case measure => simp [intOf]; omega
    · have hlt' : ¬ (k : Int) < 2 := by omega
      go_wp2_with (go_at_call 8; refine (awake_calls _).mono ?_; rintro e w8 ⟨rfl, hE8⟩)
      go_ret
      exact ⟨rfl, (HE.out.then0 hE8).below⟩
end meterNobody
end Go.Proofs.Ythjeaalnlagpbaa
