/- 'actives' of the law of package score, proved for every value that its statement lets in (the conditions stand in the statements). -/
import Derived.Test.YtkkcdijnhegneaaB9
import Derived.Test.YtkkcdijnhegneaaTwo
namespace Go.Proofs.Ytkkcdijnhegneaa
open Go.RowKit
attribute [local go_sem] Oper.semAt_some
theorem info4 : (Try.prog.info? 4).map (fun i => (i.zero, i.size, i.bytes)) = some (some (.bool false), 1, 1) := by kernel_rfl
theorem eqlFuncNil {P : Program} (w : World) {t : TypeId} {ps rs : Array TypeId} {vd : Bool} (f : Fn) (bs cs : Array Value) (ht : P.underlying t = some (.func ps rs vd)) : (binOp .eql t (.func f bs cs) .nilFunc).run P w = .ok (.bool false) w := by
  have h : ∀ d : Nat, (Op.equalIn (d + 1) t (.func f bs cs) .nilFunc).run P w = .ok false w := fun d => by
    simp [Op.equalIn, run_underlying ht]
  simp only [binOp]
  simp [Op.equal, Op.maxDepth, h 9999]
def bools (l : List Pa) : List Value := l.map fun p => .bool (p.r == 0)
theorem nats_range (i : Nat) : nats (List.range (i + 1)) = nats (List.range i) ++ [.int .i64 (i : Int)] := by simp [nats, List.range_succ]
theorem bools_take {l : List Pa} {i : Nat} {p : Pa} (hp : l[i]? = some p) : bools (l.take (i + 1)) = bools (l.take i) ++ [.bool (p.r == 0)] := by
  obtain ⟨h1, h2⟩ := List.getElem?_eq_some_iff.1 hp
  rw [List.take_succ_eq_append_getElem h1, h2]
  simp [bools]
set_option maxRecDepth 100000 in
set_option maxHeartbeats 1000000 in
theorem actives_calls (base g : Nat) (s : Sc) (u : Int) (w : World) (h : IsSc base w g s) (hok : s.Ok u) :
    Calls Try.prog 26 #[.pointer (some ⟨g, 0, none⟩), .int .i64 s.ps.length] w fun e w' => ∃ A c B d, e = .returned (.tuple #[.slice A s.ps.length c, .slice B s.ps.length d]) ∧
      w'.ownsRow w.heap.size 3 1 (.slice A s.ps.length c) s.ps.length (nats (List.range s.ps.length)) ∧ w'.ownsRow w.heap.size 4 1 (.slice B s.ps.length d) s.ps.length (bools s.ps) ∧ Ext N0 w w' := by
  obtain ⟨gp, c, hS⟩ := h
  have hlen := hok.len
  have hgl := blkLt hS.blk
  have hpl : gp < w.heap.size := by obtain ⟨cs, fr, he⟩ := hS.pblk; exact blkLt he
  obtain ⟨m, hm⟩ : ∃ m : Int, m = (s.ps.length : Int) := ⟨_, rfl⟩
  rw [← hm]
  have HM := Lib.hid hm
  clear hm
  refine callsIn_wide (n := 0) |>.1 ?_
  refine callsIn_of_wp_marks Try.func26 rfl trivial ?_ rfl
  simp only [Try.ntmps26, List.size_toArray, List.length_cons, List.length_nil, Nat.reduceAdd, Nat.reduceSub, Array.replicate_succ, Array.replicate_zero, List.push_toArray, List.append_toArray, List.nil_append, List.cons_append]
  have HS := Lib.hid hS
  clear hS
  gi_wp2_with fail
  refine ⟨trivial, rfl, (callsIn_wide.2 (paths_calls g _)).mono ?_⟩
  rintro e w2 ⟨rfl, hw2⟩
  have HW2 := Lib.hid hw2
  clear hw2
  have qf := fun (W : World) => eqlFuncNil (P := Try.prog) W (.func 32) #[] #[.pointer (some ⟨w.heap.size + 1 + 1 + 1, 0, none⟩)] Try.underlying58
  gi_wp2_with fail
  have hsz : w2.heap.size = w.heap.size + 4 := by rw [HW2.out]; simp
  have hE0 : Ext N0 w w2 := by rw [HW2.out]; exact ((((Ext.refl _ _).alloc _).alloc _).alloc _).alloc _
  have h0 : w2.heap[w.heap.size]? = some (.cells #[.int .i64 m] 3 (0, 0)) := by rw [HW2.out]; exact blkAlloc (blkAlloc (blkAlloc (blkNew _ _) _) _) _
  have h1 : w2.heap[w.heap.size + 1]? = some (.cells #[.slice none 0 0] 32 (0, 0)) := by rw [HW2.out]; exact blkAlloc (blkAlloc (blkNewG _ _ (by simp)) _) _
  have h2 : w2.heap[w.heap.size + 1 + 1]? = some (.cells #[.slice none 0 0] 64 (0, 0)) := by rw [HW2.out]; exact blkAlloc (blkNewG _ _ (by simp)) _
  have h3 : w2.heap[w.heap.size + 1 + 1 + 1]? = some (.cells #[.pointer (some ⟨g, 0, none⟩)] 23 (0, 0)) := by rw [HW2.out]; exact blkNewG _ _ (by simp)
  clear HW2 qf
  refine rangeLaw (β := Nat) (b0 := 0) (Step := PStep s) (Fin := fun i => i = s.ps.length) (Bd := fun _ => True) (R := fun k => k = w.heap.size + 1 + 1 + 1 ∨ k = g ∨ k = gp) (gf := 32) (lb := #[.pointer (some ⟨w.heap.size + 1 + 1 + 1, 0, none⟩)]) rfl (enters_of Try.func32 (by kernel_rfl) rfl)
    (paths_iter base _ g gp c s u hok w2 h3 (HS.out.kept0 hE0)) (fun k hk => by have hk : k = w.heap.size + 1 + 1 + 1 ∨ k = g ∨ k = gp := hk; omega) (fun b vs b' W hs => by obtain ⟨_, _, _, rfl⟩ := hs; rfl)
    (fun i W => i ≤ s.ps.length ∧ ∃ A c B d, W.heap[w.heap.size + 1]? = some (.cells #[.slice A i c] 32 (0, 0)) ∧ W.heap[w.heap.size + 1 + 1]? = some (.cells #[.slice B i d] 64 (0, 0)) ∧
      W.ownsRow w2.heap.size 3 1 (.slice A i c) i (nats (List.range i)) ∧ W.ownsRow w2.heap.size 4 1 (.slice B i d) i (bools (s.ps.take i)) ∧ Ext (fun k => k = w.heap.size + 1 ∨ k = w.heap.size + 1 + 1) w2 W)
    (fun code _ W => False)
    (fun i A B hh k => by
      obtain ⟨h0, x, c, y, d, h4, h5, h6, h7, h8⟩ := hh
      exact ⟨h0, x, c, y, d, k.blk h4, k.blk h5, k.own h6, k.own h7, k.ext h8 (Nat.le_refl _)⟩)
    (fun code i A B hh k => hh)
    ⟨Nat.zero_le _, none, 0, none, 0, h1, h2, ownNil _ _ _ _, ownNil _ _ _ _, Ext.refl _ w2⟩ (fun i A h => trivial)
    (fun i i' a' W => ∃ p, s.ps[i]? = some p ∧ i' = i + 1 ∧ a' = { tmps := #[.pointer (some ⟨g, 0, none⟩), .int .i64 m, undef, .pointer (some ⟨w.heap.size, 0, none⟩), .slice none 0 0, .slice none 0 0, .pointer (some ⟨w.heap.size + 1, 0, none⟩), .pointer (some ⟨w.heap.size + 1 + 1, 0, none⟩),
      .func (.func 32) #[] #[.pointer (some ⟨w.heap.size + 1 + 1 + 1, 0, none⟩)], .int .i64 i, .bool (p.r == 0), .pointer (some ⟨g, 0, none⟩), .func (.func 32) #[] #[.pointer (some ⟨w.heap.size + 1 + 1 + 1, 0, none⟩)], .func (.func 32) #[] #[.pointer (some ⟨w.heap.size + 1 + 1 + 1, 0, none⟩)], .bool false,
      .func (.func 32) #[] #[.pointer (some ⟨w.heap.size + 1 + 1 + 1, 0, none⟩)], .int .i64 i, .bool (p.r == 0), undef, undef, undef, undef, undef, undef, undef, undef, undef, undef, undef, undef, undef, undef], defers := [] })
    (fun i i' a' A B h k => h) ?assign ?body ?done ?stop
  case assign =>
    rintro l i i' vs W K ⟨p, hp, rfl, rfl⟩ hi hK
    gi_wp2
    exact hK _ _ (Bk.refl _) (KpR.refl _ _) hi ⟨p, hp, trivial, rfl⟩
  case body =>
    rintro l i i' a' W hl hlo ⟨hil, A, c, B, d, y1, y2, yo, yp, hE⟩ ⟨p, hp, rfl, rfl⟩
    have hpi := (List.getElem?_eq_some_iff.1 hp).1
    have h0W : W.heap[w.heap.size]? = some (.cells #[.int .i64 m] 3 (0, 0)) := hE.blk h0 (by omega)
    have c0 := (blkCell h0W 0).trans rfl
    have c1 := (blkCell y1 0).trans rfl
    simp at c0 c1
    have hge : decide ((i : Int) ≥ m) = false := decide_eq_false (by have := HM.out; omega)
    have HE := Lib.hid hE
    have HO := Lib.hid yo
    have HP := Lib.hid yp
    have H1 := Lib.hid y1
    have H2 := Lib.hid y2
    have HL := Lib.hid hp
    have hb2 := hE.size
    clear hE yo yp y1 y2 hp h0W h0 h1 h2 h3
    gi_wp2_with fail
    clear hge c0 c1
    obtain ⟨D, hD⟩ : ∃ D : Two, D = ⟨w2.heap.size, W.drew, w.heap.size + 1, w.heap.size + 1 + 1, 32, 64, 3, 4, .slice A i c, .slice B i d, i, nats (List.range i), bools (s.ps.take i), .int .i64 i, .bool (p.r == 0), by decide, by omega, by decide, by decide, by decide, by decide⟩ := ⟨_, rfl⟩
    have dbase : D.base = w2.heap.size := by rw [hD]
    have dW : D.W0 = W.drew := by rw [hD]
    have dg : D.g = w.heap.size + 1 := by rw [hD]
    have dh : D.h = w.heap.size + 1 + 1 := by rw [hD]
    have dtg : D.tg = 32 := by rw [hD]
    have dth : D.th = 64 := by rw [hD]
    have dex : D.ex = 3 := by rw [hD]
    have dey : D.ey = 4 := by rw [hD]
    have dsg : D.sg = .slice A i c := by rw [hD]
    have dsh : D.sh = .slice B i d := by rw [hD]
    have dn : D.n = i := by rw [hD]
    have dxs : D.xs = nats (List.range i) := by rw [hD]
    have dys : D.ys = bools (s.ps.take i) := by rw [hD]
    have dx : D.x = .int .i64 i := by rw [hD]
    have dy : D.y = .bool (p.r == 0) := by rw [hD]
    clear hD
    have hWs : D.W0.heap.size = W.heap.size := by rw [dW]; rfl
    refine wpIn_region_any (by kernel_rfl) ?_
    refine wpAnyIn_inv (fun L a w' => ∃ (f : Nat → Bool) (v : Nat → Value), L = #[f 0, f 1, f 2, f 3, f 4, f 5, f 6, f 7, f 8, f 9] ∧ a = { tmps := #[.pointer (some ⟨g, 0, none⟩), .int .i64 m, undef, .pointer (some ⟨w.heap.size, 0, none⟩), .slice none 0 0, .slice none 0 0, .pointer (some ⟨w.heap.size + 1, 0, none⟩), .pointer (some ⟨w.heap.size + 1 + 1, 0, none⟩),
      .func (.func 32) #[] #[.pointer (some ⟨w.heap.size + 1 + 1 + 1, 0, none⟩)], .int .i64 i, .bool (p.r == 0), .pointer (some ⟨g, 0, none⟩), .func (.func 32) #[] #[.pointer (some ⟨w.heap.size + 1 + 1 + 1, 0, none⟩)], .func (.func 32) #[] #[.pointer (some ⟨w.heap.size + 1 + 1 + 1, 0, none⟩)], .bool false,
      .func (.func 32) #[] #[.pointer (some ⟨w.heap.size + 1 + 1 + 1, 0, none⟩)], .int .i64 i, .bool (p.r == 0), .slice A i c, .int .i64 i, .int .i64 m, .bool false, v 0, v 1, v 2, v 3, v 4, v 5, v 6, v 7, undef, undef], defers := [] } ∧ D.St f v w') ?hs ?hd _ _ _ _ (by decide) ⟨fun _ => false, fun _ => undef, rfl, rfl, ?_⟩
    case hs =>
      rintro L a w' ⟨f, v, rfl, rfl, h⟩ j hj
      obtain ⟨hL, o, ho, hall⟩ := mem_ready.1 hj
      have hj10 : j < 10 := by have := (Array.getElem?_eq_some_iff.1 ho).1; simpa using this
      rcases (by omega : j = 0 ∨ j = 1 ∨ j = 2 ∨ j = 3 ∨ j = 4 ∨ j = 5 ∨ j = 6 ∨ j = 7 ∨ j = 8 ∨ j = 9) with rfl | rfl | rfl | rfl | rfl | rfl | rfl | rfl | rfl | rfl
      · have hL : f 0 = false := hL
        have b6 := h.b6
        rw [h.d8 (h.e0 hL), dg, dtg, dsg] at b6
        have c0 := (blkCell b6 0).trans rfl
        simp at c0
        refine wpOpIn_step rfl fun K' hK => ?_
        rw [if_pos (by rfl)]
        unfold Oper.wpIn
        refine ⟨by simp [Oper.about], ?_⟩
        rw [Oper.semAt_plain _ _ _ (by intro c hc; cases hc)]
        simp [execOp, go_sem, c0]
        exact hK _ _ ⟨upd f 0 true, upd v 0 D.sg, rfl, by rw [dsg]; rfl, h.op0⟩
      · refine wpOpIn_step rfl fun K' hK => ?_
        rw [if_pos (by rfl)]
        unfold Oper.wpIn
        refine ⟨by simp [Oper.about], ?_⟩
        rw [Oper.semAt_plain _ _ _ (by intro c hc; cases hc)]
        simp [execOp, go_sem]
        exact hK _ _ ⟨upd f 1 true, upd v 1 D.x, rfl, by rw [dx]; rfl, h.op1⟩
      · obtain rfl := Option.some.inj ho
        have x1 := h.x1 (hall ⟨1, .data⟩ (by simp) rfl)
        have hk := h.op2 3
        rw [dx] at hk x1
        refine wpOpIn_step rfl fun K' hK => ?_
        rw [if_pos (by rfl)]
        unfold Oper.wpIn
        refine ⟨by simp [Oper.about], ?_⟩
        rw [Oper.semAt_plain _ _ _ (by intro c hc; cases hc)]
        simp [execOp, go_sem, x1]
        exact hK _ _ ⟨upd f 2 true, upd v 2 _, rfl, by simp [upd, x1], hk⟩
      · have hL : f 3 = false := hL
        obtain rfl := Option.some.inj ho
        have h00 : f 0 = true := hall ⟨0, .data⟩ (by simp) rfl
        have x0 := h.x0 h00
        obtain ⟨lt, x2, hR, _⟩ := h.x2 (hall ⟨2, .data⟩ (by simp) rfl)
        have r3 := h.r3
        rw [hL] at r3
        obtain ⟨A0, c0, q1, q2⟩ := (show Row1 D.base D.ex w' D.sg D.n D.xs from r3)
        have hb := h.ext.size
        rw [dbase, dex, dsg, dn, dxs] at q2
        rw [dsg] at x0
        rw [dx] at hR
        obtain ⟨A1, c1, w1, hr, hown, hE1, _⟩ := appRun w2.heap.size 32 3 32 (.int .i64 0) 1 8 Try.underlying32 info3 rfl (by decide) (by decide) (.slice A i c) i (nats (List.range i)) (some ⟨lt, 0, none⟩) 1 1 [.int .i64 (i : Int)] q2 rfl hR (by simp [Value.oneCell']) (by omega) (by omega)
        have hk := h.op3 hL h00 (A := A1) (c := c1) (w' := w1) (by rw [dsg]; exact hE1) (by rw [dbase, dex, dn, dxs, dx]; exact hown)
        rw [dn] at hk
        refine wpOpIn_step rfl fun K' hK => ?_
        rw [if_pos (by rfl)]
        refine opAppIn (.tmp 22) (.tmp 24) 32 rfl x0 x2 hr ?_
        exact hK _ _ ⟨upd f 3 true, upd v 3 _, rfl, rfl, hk⟩
      · have hL : f 4 = false := hL
        have b6 := h.b7
        rw [h.d9 (h.e4 hL), dh, dth, dsh] at b6
        have c0 := (blkCell b6 0).trans rfl
        simp at c0
        refine wpOpIn_step rfl fun K' hK => ?_
        rw [if_pos (by rfl)]
        unfold Oper.wpIn
        refine ⟨by simp [Oper.about], ?_⟩
        rw [Oper.semAt_plain _ _ _ (by intro c hc; cases hc)]
        simp [execOp, go_sem, c0]
        exact hK _ _ ⟨upd f 4 true, upd v 4 D.sh, rfl, by rw [dsh]; rfl, h.op4⟩
      · refine wpOpIn_step rfl fun K' hK => ?_
        rw [if_pos (by rfl)]
        unfold Oper.wpIn
        refine ⟨by simp [Oper.about], ?_⟩
        rw [Oper.semAt_plain _ _ _ (by intro c hc; cases hc)]
        simp [execOp, go_sem]
        exact hK _ _ ⟨upd f 5 true, upd v 5 D.y, rfl, by rw [dy]; rfl, h.op5⟩
      · obtain rfl := Option.some.inj ho
        have x1 := h.x5 (hall ⟨5, .data⟩ (by simp) rfl)
        have hk := h.op6 4
        rw [dy] at hk x1
        refine wpOpIn_step rfl fun K' hK => ?_
        rw [if_pos (by rfl)]
        unfold Oper.wpIn
        refine ⟨by simp [Oper.about], ?_⟩
        rw [Oper.semAt_plain _ _ _ (by intro c hc; cases hc)]
        simp [execOp, go_sem, x1]
        exact hK _ _ ⟨upd f 6 true, upd v 6 _, rfl, by simp [upd, x1], hk⟩
      · have hL : f 7 = false := hL
        obtain rfl := Option.some.inj ho
        have h00 : f 4 = true := hall ⟨4, .data⟩ (by simp) rfl
        have x0 := h.x4 h00
        obtain ⟨lt, x2, hR, _⟩ := h.x6 (hall ⟨6, .data⟩ (by simp) rfl)
        have r3 := h.r7
        rw [hL] at r3
        obtain ⟨A0, c0, q1, q2⟩ := (show Row1 D.base D.ey w' D.sh D.n D.ys from r3)
        have hb := h.ext.size
        rw [dbase, dey, dsh, dn, dys] at q2
        rw [dsh] at x0
        rw [dy] at hR
        obtain ⟨A1, c1, w1, hr, hown, hE1, _⟩ := appRun w2.heap.size 64 4 64 (.bool false) 1 1 Try.underlying64 info4 rfl (by decide) (by decide) (.slice B i d) i (bools (s.ps.take i)) (some ⟨lt, 0, none⟩) 1 1 [.bool (p.r == 0)] q2 rfl hR (by simp [Value.oneCell']) (by omega) (by omega)
        have hk := h.op7 hL h00 (A := A1) (c := c1) (w' := w1) (by rw [dsh]; exact hE1) (by rw [dbase, dey, dn, dys, dy]; exact hown)
        rw [dn] at hk
        refine wpOpIn_step rfl fun K' hK => ?_
        rw [if_pos (by rfl)]
        refine opAppIn (.tmp 26) (.tmp 28) 64 rfl x0 x2 hr ?_
        exact hK _ _ ⟨upd f 7 true, upd v 7 _, rfl, rfl, hk⟩
      · obtain rfl := Option.some.inj ho
        have h3 : f 3 = true := hall ⟨3, .data⟩ (by simp) rfl
        have hk := h.op8 h3
        have r3 := h.r3
        rw [h3] at r3
        obtain ⟨A1, c1, e1, _⟩ := (show Row1 D.base D.ex w' (v 3) (D.n + 1) (D.xs ++ [D.x]) from r3)
        rw [e1] at hk
        have b6 := h.b6
        rw [dg] at b6 hk
        have fz := blkFrozen b6 0
        have c0 := (blkCell b6 0).trans rfl
        simp at c0
        refine wpOpIn_step rfl fun K' hK => ?_
        rw [if_pos (by rfl)]
        unfold Oper.wpIn
        refine ⟨by simp [Oper.about], ?_⟩
        rw [Oper.semAt_plain _ _ _ (by intro c hc; cases hc)]
        simp [execOp, go_sem, fz, c0, e1]
        exact hK _ _ ⟨upd f 8 true, v, rfl, by simp [e1], hk⟩
      · obtain rfl := Option.some.inj ho
        have h3 : f 7 = true := hall ⟨7, .data⟩ (by simp) rfl
        have hk := h.op9 h3
        have r3 := h.r7
        rw [h3] at r3
        obtain ⟨A1, c1, e1, _⟩ := (show Row1 D.base D.ey w' (v 7) (D.n + 1) (D.ys ++ [D.y]) from r3)
        rw [e1] at hk
        have b6 := h.b7
        rw [dh] at b6 hk
        have fz := blkFrozen b6 0
        have c0 := (blkCell b6 0).trans rfl
        simp at c0
        refine wpOpIn_step rfl fun K' hK => ?_
        rw [if_pos (by rfl)]
        unfold Oper.wpIn
        refine ⟨by simp [Oper.about], ?_⟩
        rw [Oper.semAt_plain _ _ _ (by intro c hc; cases hc)]
        simp [execOp, go_sem, fz, c0, e1]
        exact hK _ _ ⟨upd f 9 true, v, rfl, by simp [e1], hk⟩
    case hd =>
      rintro L a w' ⟨f, v, rfl, rfl, h⟩ hr
      have no : ∀ j, j ∈ Region.ready .any _ #[f 0, f 1, f 2, f 3, f 4, f 5, f 6, f 7, f 8, f 9] → False := fun j hj => by rw [hr] at hj; cases hj
      have f0 : f 0 = true := by
        cases e : f 0 with
        | true => rfl
        | false => exact (no 0 (mem_ready.2 ⟨e, _, rfl, by simp⟩)).elim
      have f1 : f 1 = true := by
        cases e : f 1 with
        | true => rfl
        | false => exact (no 1 (mem_ready.2 ⟨e, _, rfl, by simp⟩)).elim
      have f2 : f 2 = true := by
        cases e : f 2 with
        | true => rfl
        | false => exact (no 2 (mem_ready.2 ⟨e, _, rfl, by simp [f1]⟩)).elim
      have f3 : f 3 = true := by
        cases e : f 3 with
        | true => rfl
        | false => exact (no 3 (mem_ready.2 ⟨e, _, rfl, by simp [f0, f2]⟩)).elim
      have f4 : f 4 = true := by
        cases e : f 4 with
        | true => rfl
        | false => exact (no 4 (mem_ready.2 ⟨e, _, rfl, by simp⟩)).elim
      have f5 : f 5 = true := by
        cases e : f 5 with
        | true => rfl
        | false => exact (no 5 (mem_ready.2 ⟨e, _, rfl, by simp⟩)).elim
      have f6 : f 6 = true := by
        cases e : f 6 with
        | true => rfl
        | false => exact (no 6 (mem_ready.2 ⟨e, _, rfl, by simp [f5]⟩)).elim
      have f7 : f 7 = true := by
        cases e : f 7 with
        | true => rfl
        | false => exact (no 7 (mem_ready.2 ⟨e, _, rfl, by simp [f3, f4, f6]⟩)).elim
      have f8 : f 8 = true := by
        cases e : f 8 with
        | true => rfl
        | false => exact (no 8 (mem_ready.2 ⟨e, _, rfl, by simp [f0, f1, f2, f3, f4, f5, f6, f7]⟩)).elim
      have f9 : f 9 = true := by
        cases e : f 9 with
        | true => rfl
        | false => exact (no 9 (mem_ready.2 ⟨e, _, rfl, by simp [f0, f1, f2, f3, f4, f5, f6, f7, f8]⟩)).elim
      have b6 := h.b6
      have b7 := h.b7
      have r3 := h.r3
      have r7 := h.r7
      rw [f8, dg, dtg] at b6
      rw [f9, dh, dth] at b7
      rw [f3, dbase, dex, dn, dxs, dx] at r3
      rw [f7, dbase, dey, dn, dys, dy] at r7
      obtain ⟨A1, c1, e1, r3⟩ := r3
      obtain ⟨B1, d1, e2, r7⟩ := r7
      rw [e1] at b6 r3
      rw [e2] at b7 r7
      have hE1 : Ext D.S W w' := by
        have := h.ext
        rw [dW] at this
        exact ((Ext.refl D.S W).drew).same this
      have oS : ∀ k, D.S k → (w2.heap.size ≤ k ∧ k < W.heap.size ∧ (∀ o, W.heap[k]? = some o → isBk o = false)) ∨ k = w.heap.size + 1 ∨ k = w.heap.size + 1 + 1 := by
        intro k hk
        unfold Two.S at hk
        rw [dsg, dsh, dg, dh] at hk
        rcases hk with hk | hk | hk | hk
        · exact .inl ⟨(ownBase HO.out k hk).1, (ownBase HO.out k hk).2, fun o ho => ownBk HO.out k o hk ho⟩
        · exact .inl ⟨(ownBase HP.out k hk).1, (ownBase HP.out k hk).2, fun o ho => ownBk HP.out k o hk ho⟩
        · exact .inr (.inl hk)
        · exact .inr (.inr hk)
      refine ⟨Bk.of_ext hE1 (fun k o hk ho => ?_), KpR.of_ext hE1 (fun k hk h => ?_), by omega, A1, c1, B1, d1, b6, b7, ?_, ?_, HE.out.trans hE1 (fun k hk => ?_)⟩
      · rcases oS k hk with ⟨_, _, h3⟩ | rfl | rfl
        · exact h3 o ho
        · rw [H1.out] at ho
          injection ho with ho
          rw [← ho]
          rfl
        · rw [H2.out] at ho
          injection ho with ho
          rw [← ho]
          rfl
      · have hk : k = w.heap.size + 1 + 1 + 1 ∨ k = g ∨ k = gp := hk
        have := oS k h
        omega
      · rw [nats_range]; exact r3
      · rw [bools_take HL.out]; exact r7
      · rcases oS k hk with ⟨h1, _, _⟩ | h | h
        · exact .inr h1
        · exact .inl (.inl h)
        · exact .inl (.inr h)
    · refine ⟨by rw [dW]; exact Ext.refl D.S _, by rw [dg, dtg, dsg]; exact H1.out, by rw [dh, dth, dsh]; exact H2.out, fun e => (by cases e), fun e => (by cases e), fun e => (by cases e), fun e => (by cases e), fun e => (by cases e), fun e => (by cases e), ?_, ?_, fun _ => rfl, fun _ => rfl, fun _ => rfl, fun _ => rfl, ?_, ?_, ?_, ?_⟩
      · show Row1 D.base D.ex _ D.sg D.n D.xs
        rw [dbase, dex, dsg, dn, dxs]
        exact ⟨A, c, rfl, HO.out⟩
      · show Row1 D.base D.ey _ D.sh D.n D.ys
        rw [dbase, dey, dsh, dn, dys]
        exact ⟨B, d, rfl, HP.out⟩
      · rw [dsg, hWs]
        exact fun k hk => (ownBase HO.out k hk).2
      · rw [dsh, hWs]
        exact fun k hk => (ownBase HP.out k hk).2
      · rw [dg, hWs]; exact blkLt H1.out
      · rw [dh, hWs]; exact blkLt H2.out
  case done =>
    rintro D i W hD hF ⟨_, A, c, B, d, y1, y2, yo, yp, hE⟩ hK
    have hF : i = s.ps.length := hF
    subst hF
    have k4 := (blkCell y1 0).trans rfl
    have k5 := (blkCell y2 0).trans rfl
    clear y1 y2
    simp at k4 k5
    have HE := Lib.hid hE
    have HO := Lib.hid yo
    have HP := Lib.hid yp
    clear hE yo yp
    gi_wp2_with fail
    refine wpIn_mono (Q := NoPanic _) ?_ NoPanic.imp
    gi_region
    refine NoPanic.normal ?_
    gi_wp2
    refine ⟨by simp, .inl ⟨_, _, rfl, run_takeDeferred (w := W.drew) hK, ?_⟩⟩
    have kb := Kb.put (z := w2.heap.size) (A := W.drew) (.deferred none) hK rfl hD
    have ht : (bools (s.ps.take s.ps.length)) = bools s.ps := by rw [List.take_length]
    have hp2 := HP.out
    rw [ht] at hp2
    refine ⟨.tuple #[.slice A s.ps.length c, .slice B s.ps.length d], by simp [results, Try.f26, go_sem], A, c, B, d, rfl, ownLe (kb.own (ownKept0 HO.out (Ext.refl N0 W).drew)) (by omega), ownLe (kb.own (ownKept0 hp2 (Ext.refl N0 W).drew)) (by omega), kb.ext (hE0.trans HE.out.drew (fun k hk => .inr (by have : k = w.heap.size + 1 ∨ k = w.heap.size + 1 + 1 := hk; omega))) (by omega)⟩
  case stop => exact fun D code b W _ hF _ => (show False from hF).elim
end Go.Proofs.Ytkkcdijnhegneaa
