/- A region that draws its order and holds two appends and two stores: an invariant over every order. No program in sight. -/
import Derived.Test.YtkkcdijnhegneaaRf
namespace Go.Proofs.Ytkkcdijnhegneaa
open Go.RowKit
section
variable {F : Fence} {n : Nat} {P : Program} {ops : Array Oper} {Q : Exit → Act → World → Prop} {md : Region.Mode}
def undone (L : Array Bool) : Nat := (L.toList.filter (· == false)).length
theorem undone_set {L : Array Bool} {i : Nat} (h : L.getD i true = false) : undone (L.setIfInBounds i true) < undone L := by
  have hi : i < L.size := by
    rcases Nat.lt_or_ge i L.size with h' | h'
    · exact h'
    · simp [Array.getElem?_eq_none h'] at h
  have hv : L.toList[i]? = some false := by
    simp [hi] at h ⊢
    exact h
  obtain ⟨l⟩ := L
  unfold undone
  simp only [List.setIfInBounds_toArray] at *
  clear hi h
  induction l generalizing i with
  | nil => simp at hv
  | cons a l ih =>
    cases i with
    | zero =>
      simp at hv
      subst hv
      simp
    | succ i =>
      simp at hv ih ⊢
      have := ih hv
      cases a <;> simp <;> omega
theorem wpAnyIn_inv (I : Array Bool → Act → World → Prop)
    (hs : ∀ L a w, I L a w → ∀ i ∈ Region.ready md ops L, wpOpIn F n P ops Q i (I (L.setIfInBounds i true)) a w)
    (hd : ∀ L a w, I L a w → Region.ready md ops L = [] → Q .normal a w) :
    ∀ (fuel : Nat) (L : Array Bool) (a : Act) (w : World), undone L ≤ fuel → I L a w → wpAnyIn F n P md ops Q fuel L a w
  | 0, L, a, w, hl, hi => by
    have hr : Region.ready md ops L = [] := by
      cases hr : Region.ready md ops L with
      | nil => rfl
      | cons i rs =>
        have h1 := (mem_ready (md := md) (ops := ops)).1 (hr ▸ List.mem_cons_self : i ∈ Region.ready md ops L)
        have := undone_set h1.1
        omega
    exact ⟨hr, hd L a w hi hr⟩
  | f + 1, L, a, w, hl, hi => ⟨hd L a w hi, fun i hr => wpOpIn_mono (fun a' w' h => wpAnyIn_inv I hs hd f (L.setIfInBounds i true) a' w' (by have := undone_set (mem_ready.1 hr).1; omega) h) (hs L a w hi i hr)⟩
end
theorem opAppIn {F : Fence} {nF : Nat} {P : Program} {o : Oper} {a : Act} {W w1 : World} {K : Act → World → Prop} {Q : Exit → Act → World → Prop} (s x : Operand) (t : TypeId)
    (ho : o.op = .call { callee := .builtin .append, args := #[s, x], argTypes := #[t, t] }) {v u r : Value} (hs : a.eval s = v) (hx : a.eval x = u) (hr : (Builtin.append_ #[t, t] o.type #[v, u]).run P W = .ok r w1)
    (h : K (a.put o.dst r) w1) : Oper.wpIn F nF P o a W K Q := by
  unfold Oper.wpIn
  refine ⟨by simp [Oper.about, ho, resolve, Target.leads, Sem.run_pure], ?_⟩
  rw [Oper.semAt_plain F _ _ (by rw [ho]; intro c hc'; cases hc')]
  simp [execOp, ho, resolve, invoke, builtin, hs, hx, hr, Result.andThen]
  exact h
def upd {α : Type} (f : Nat → α) (i : Nat) (x : α) : Nat → α := fun j => if j = i then x else f j
/-- What is fixed: two rows of n, told by xs and ys, in the boxes g and h; x and y come to them. -/
structure Two where
  base : Nat
  W0 : World
  g : Nat
  h : Nat
  tg : TypeId
  th : TypeId
  ex : TypeId
  ey : TypeId
  sg : Value
  sh : Value
  n : Nat
  xs : List Value
  ys : List Value
  x : Value
  y : Value
  hex : ex ≠ ey
  hgh : g ≠ h
  h1 : ex ≠ tg
  h2 : ex ≠ th
  h3 : ey ≠ tg
  h4 : ey ≠ th
def Two.S (D : Two) : Nat → Prop := fun k => D.sg.ownBlock = some k ∨ D.sh.ownBlock = some k ∨ k = D.g ∨ k = D.h
def Row1 (base e : Nat) (w : World) (v : Value) (n : Nat) (xs : List Value) : Prop := ∃ A c, v = .slice A n c ∧ w.ownsRow base e 1 v n xs
def Lit1 (z : Nat) (w : World) (v x : Value) : Prop := ∃ l, v = .slice (some ⟨l, 0, none⟩) 1 1 ∧ Reads w (some ⟨l, 0, none⟩) [x] ∧ z ≤ l
theorem Row1.kept {S : Nat → Prop} {base e n : Nat} {w w' : World} {v : Value} {xs : List Value} (h : Row1 base e w v n xs) (hE : Ext S w w') (hS : ∀ k, v.ownBlock = some k → ¬ S k) : Row1 base e w' v n xs := by
  obtain ⟨A, c, h1, h2⟩ := h
  exact ⟨A, c, h1, ownKept h2 hE hS⟩
theorem Lit1.kept {S : Nat → Prop} {z : Nat} {w w' : World} {v x : Value} (h : Lit1 z w v x) (hE : Ext S w w') (hS : ∀ k, z ≤ k → ¬ S k) : Lit1 z w' v x := by
  obtain ⟨l, h1, h2, h3⟩ := h
  exact ⟨l, h1, h2.mono hE (fun ad e => by injection e with e; subst e; exact hS _ h3), h3⟩
structure Two.St (D : Two) (f : Nat → Bool) (v : Nat → Value) (w : World) : Prop where
  ext : Ext D.S D.W0 w
  b6 : w.heap[D.g]? = some (.cells #[if f 8 then v 3 else D.sg] D.tg (0, 0))
  b7 : w.heap[D.h]? = some (.cells #[if f 9 then v 7 else D.sh] D.th (0, 0))
  x0 : f 0 = true → v 0 = D.sg
  x1 : f 1 = true → v 1 = D.x
  x2 : f 2 = true → Lit1 D.W0.heap.size w (v 2) D.x
  x4 : f 4 = true → v 4 = D.sh
  x5 : f 5 = true → v 5 = D.y
  x6 : f 6 = true → Lit1 D.W0.heap.size w (v 6) D.y
  r3 : if f 3 then Row1 D.base D.ex w (v 3) (D.n + 1) (D.xs ++ [D.x]) else Row1 D.base D.ex w D.sg D.n D.xs
  r7 : if f 7 then Row1 D.base D.ey w (v 7) (D.n + 1) (D.ys ++ [D.y]) else Row1 D.base D.ey w D.sh D.n D.ys
  d8 : f 3 = false → f 8 = false
  d9 : f 7 = false → f 9 = false
  e0 : f 0 = false → f 3 = false
  e4 : f 4 = false → f 7 = false
  k0 : ∀ k, D.sg.ownBlock = some k → k < D.W0.heap.size
  k1 : ∀ k, D.sh.ownBlock = some k → k < D.W0.heap.size
  kg : D.g < D.W0.heap.size
  kh : D.h < D.W0.heap.size
theorem Two.St.op0 {D : Two} {f : Nat → Bool} {v : Nat → Value} {w : World} (h : D.St f v w) : D.St (upd f 0 true) (upd v 0 D.sg) w :=
  ⟨h.ext, h.b6, h.b7, fun _ => rfl, h.x1, h.x2, h.x4, h.x5, h.x6, h.r3, h.r7, h.d8, h.d9, fun e => (by cases e), h.e4, h.k0, h.k1, h.kg, h.kh⟩
theorem Two.St.op1 {D : Two} {f : Nat → Bool} {v : Nat → Value} {w : World} (h : D.St f v w) : D.St (upd f 1 true) (upd v 1 D.x) w :=
  ⟨h.ext, h.b6, h.b7, h.x0, fun _ => rfl, h.x2, h.x4, h.x5, h.x6, h.r3, h.r7, h.d8, h.d9, h.e0, h.e4, h.k0, h.k1, h.kg, h.kh⟩
theorem Two.St.op4 {D : Two} {f : Nat → Bool} {v : Nat → Value} {w : World} (h : D.St f v w) : D.St (upd f 4 true) (upd v 4 D.sh) w :=
  ⟨h.ext, h.b6, h.b7, h.x0, h.x1, h.x2, fun _ => rfl, h.x5, h.x6, h.r3, h.r7, h.d8, h.d9, h.e0, fun e => (by cases e), h.k0, h.k1, h.kg, h.kh⟩
theorem Two.St.op5 {D : Two} {f : Nat → Bool} {v : Nat → Value} {w : World} (h : D.St f v w) : D.St (upd f 5 true) (upd v 5 D.y) w :=
  ⟨h.ext, h.b6, h.b7, h.x0, h.x1, h.x2, h.x4, fun _ => rfl, h.x6, h.r3, h.r7, h.d8, h.d9, h.e0, h.e4, h.k0, h.k1, h.kg, h.kh⟩
theorem ite_kept {b : Bool} {A B A' B' : Prop} (h : if b then A else B) (ha : A → A') (hb : B → B') : if b then A' else B' := by
  cases b
  · exact hb h
  · exact ha h
theorem Two.St.kept0 {D : Two} {f : Nat → Bool} {v : Nat → Value} {w w' : World} (h : D.St f v w) (hE : Ext N0 w w') : D.St f v w' :=
  ⟨h.ext.then0 hE, hE.blk0 h.b6, hE.blk0 h.b7, h.x0, h.x1, fun e => (h.x2 e).kept hE (fun _ _ x => x), h.x4, h.x5, fun e => (h.x6 e).kept hE (fun _ _ x => x),
    ite_kept h.r3 (fun r => r.kept hE (fun _ _ x => x)) (fun r => r.kept hE (fun _ _ x => x)), ite_kept h.r7 (fun r => r.kept hE (fun _ _ x => x)) (fun r => r.kept hE (fun _ _ x => x)), h.d8, h.d9, h.e0, h.e4, h.k0, h.k1, h.kg, h.kh⟩
theorem Two.St.op2 {D : Two} {f : Nat → Bool} {v : Nat → Value} {w : World} (h : D.St f v w) (e : TypeId) :
    D.St (upd f 2 true) (upd v 2 (.slice (some ⟨w.heap.size, 0, none⟩) 1 1)) (w.alloc (.cells #[D.x] e)) := by
  have k := h.kept0 ((Ext.refl N0 w).alloc (.cells #[D.x] e))
  exact ⟨k.ext, k.b6, k.b7, k.x0, k.x1, fun _ => ⟨_, rfl, litReads w [D.x] _ (by simp), h.ext.size⟩, k.x4, k.x5, k.x6, k.r3, k.r7, k.d8, k.d9, k.e0, k.e4, k.k0, k.k1, k.kg, k.kh⟩
theorem Two.St.op6 {D : Two} {f : Nat → Bool} {v : Nat → Value} {w : World} (h : D.St f v w) (e : TypeId) :
    D.St (upd f 6 true) (upd v 6 (.slice (some ⟨w.heap.size, 0, none⟩) 1 1)) (w.alloc (.cells #[D.y] e)) := by
  have k := h.kept0 ((Ext.refl N0 w).alloc (.cells #[D.y] e))
  exact ⟨k.ext, k.b6, k.b7, k.x0, k.x1, k.x2, k.x4, k.x5, fun _ => ⟨_, rfl, litReads w [D.y] _ (by simp), h.ext.size⟩, k.r3, k.r7, k.d8, k.d9, k.e0, k.e4, k.k0, k.k1, k.kg, k.kh⟩
theorem Two.St.op3 {D : Two} {f : Nat → Bool} {v : Nat → Value} {w w' : World} (h : D.St f v w) (h0 : f 3 = false) (h00 : f 0 = true) {A : Option Addr} {c : Nat}
    (hE : Ext (fun k => D.sg.ownBlock = some k) w w') (hr : w'.ownsRow D.base D.ex 1 (.slice A (D.n + 1) c) (D.n + 1) (D.xs ++ [D.x])) :
    D.St (upd f 3 true) (upd v 3 (.slice A (D.n + 1) c)) w' := by
  have r3 := h.r3
  rw [h0] at r3
  obtain ⟨A0, c0, q1, q2⟩ := (show Row1 D.base D.ex w D.sg D.n D.xs from r3)
  have h8 := h.d8 h0
  have b6 := h.b6
  rw [h8] at b6
  have nl : ∀ k, D.W0.heap.size ≤ k → ¬ D.sg.ownBlock = some k := fun k hk hs => by have := h.k0 k hs; omega
  refine ⟨h.ext.trans hE (fun k hk => .inl (.inl hk)), ?_, hE.blk h.b7 (fun hs => ownNeBlk q2 h.b7 D.h2 _ hs rfl), h.x0, h.x1, fun e => (h.x2 e).kept hE nl, h.x4, h.x5, fun e => (h.x6 e).kept hE nl, ?_, ?_, fun e => (by cases e), h.d9, fun e => (by have e : f 0 = false := e; rw [h00] at e; cases e), h.e4, h.k0, h.k1, h.kg, h.kh⟩
  · show w'.heap[D.g]? = some (.cells #[if f 8 then _ else D.sg] D.tg (0, 0))
    rw [h8]
    exact hE.blk b6 (fun hs => ownNeBlk q2 b6 D.h1 _ hs rfl)
  · exact ⟨A, c, rfl, hr⟩
  · exact ite_kept (b := f 7) h.r7 (fun r => r.kept hE (fun k hk hs => by obtain ⟨_, _, _, r2⟩ := r; exact ownNe q2 r2 D.hex k hs hk)) (fun r => r.kept hE (fun k hk hs => by obtain ⟨_, _, _, r2⟩ := r; exact ownNe q2 r2 D.hex k hs hk))
theorem Two.St.op7 {D : Two} {f : Nat → Bool} {v : Nat → Value} {w w' : World} (h : D.St f v w) (h0 : f 7 = false) (h00 : f 4 = true) {A : Option Addr} {c : Nat}
    (hE : Ext (fun k => D.sh.ownBlock = some k) w w') (hr : w'.ownsRow D.base D.ey 1 (.slice A (D.n + 1) c) (D.n + 1) (D.ys ++ [D.y])) :
    D.St (upd f 7 true) (upd v 7 (.slice A (D.n + 1) c)) w' := by
  have r7 := h.r7
  rw [h0] at r7
  obtain ⟨A0, c0, q1, q2⟩ := (show Row1 D.base D.ey w D.sh D.n D.ys from r7)
  have h9 := h.d9 h0
  have b7 := h.b7
  rw [h9] at b7
  have nl : ∀ k, D.W0.heap.size ≤ k → ¬ D.sh.ownBlock = some k := fun k hk hs => by have := h.k1 k hs; omega
  refine ⟨h.ext.trans hE (fun k hk => .inl (.inr (.inl hk))), hE.blk h.b6 (fun hs => ownNeBlk q2 h.b6 D.h3 _ hs rfl), ?_, h.x0, h.x1, fun e => (h.x2 e).kept hE nl, h.x4, h.x5, fun e => (h.x6 e).kept hE nl, ?_, ?_, h.d8, fun e => (by cases e), h.e0, fun e => (by have e : f 4 = false := e; rw [h00] at e; cases e), h.k0, h.k1, h.kg, h.kh⟩
  · show w'.heap[D.h]? = some (.cells #[if f 9 then _ else D.sh] D.th (0, 0))
    rw [h9]
    exact hE.blk b7 (fun hs => ownNeBlk q2 b7 D.h4 _ hs rfl)
  · exact ite_kept (b := f 3) h.r3 (fun r => r.kept hE (fun k hk hs => by obtain ⟨_, _, _, r2⟩ := r; exact ownNe r2 q2 D.hex k hk hs)) (fun r => r.kept hE (fun k hk hs => by obtain ⟨_, _, _, r2⟩ := r; exact ownNe r2 q2 D.hex k hk hs))
  · exact ⟨A, c, rfl, hr⟩
theorem Two.St.op8 {D : Two} {f : Nat → Bool} {v : Nat → Value} {w : World} (h : D.St f v w) (h3 : f 3 = true) : D.St (upd f 8 true) v (w.setCell ⟨D.g, 0, none⟩ (v 3)) := by
  have hE : Ext (At D.g) w (w.setCell ⟨D.g, 0, none⟩ (v 3)) := (Ext.refl (At D.g) w).setCell (p := ⟨D.g, 0, none⟩) (.inl (show D.g = D.g from rfl)) _
  have nl : ∀ k, D.W0.heap.size ≤ k → ¬ At D.g k := fun k hk hs => by have := h.kg; have : k = D.g := hs; omega
  have k3 : ∀ {e : TypeId} {n : Nat} {u : Value} {xs : List Value}, e ≠ D.tg → Row1 D.base e w u n xs → Row1 D.base e (w.setCell ⟨D.g, 0, none⟩ (v 3)) u n xs := fun hne r => r.kept hE (fun k hk hs => by obtain ⟨_, _, _, r2⟩ := r; exact ownNeBlk r2 h.b6 hne k hk hs)
  refine ⟨h.ext.trans hE (fun k hk => .inl (.inr (.inr (.inl hk)))), blkSet h.b6 0 _, hE.blk h.b7 (fun hs => D.hgh (show D.h = D.g from hs).symm), h.x0, h.x1, fun e => (h.x2 e).kept hE nl, h.x4, h.x5, fun e => (h.x6 e).kept hE nl, ite_kept (b := f 3) h.r3 (k3 D.h1) (k3 D.h1), ite_kept (b := f 7) h.r7 (k3 D.h3) (k3 D.h3), fun e => ?_, h.d9, h.e0, h.e4, h.k0, h.k1, h.kg, h.kh⟩
  have e : f 3 = false := e
  rw [h3] at e
  cases e
theorem Two.St.op9 {D : Two} {f : Nat → Bool} {v : Nat → Value} {w : World} (h : D.St f v w) (h3 : f 7 = true) : D.St (upd f 9 true) v (w.setCell ⟨D.h, 0, none⟩ (v 7)) := by
  have hE : Ext (At D.h) w (w.setCell ⟨D.h, 0, none⟩ (v 7)) := (Ext.refl (At D.h) w).setCell (p := ⟨D.h, 0, none⟩) (.inl (show D.h = D.h from rfl)) _
  have nl : ∀ k, D.W0.heap.size ≤ k → ¬ At D.h k := fun k hk hs => by have := h.kh; have : k = D.h := hs; omega
  have k3 : ∀ {e : TypeId} {n : Nat} {u : Value} {xs : List Value}, e ≠ D.th → Row1 D.base e w u n xs → Row1 D.base e (w.setCell ⟨D.h, 0, none⟩ (v 7)) u n xs := fun hne r => r.kept hE (fun k hk hs => by obtain ⟨_, _, _, r2⟩ := r; exact ownNeBlk r2 h.b7 hne k hk hs)
  refine ⟨h.ext.trans hE (fun k hk => .inl (.inr (.inr (.inr hk)))), hE.blk h.b6 (fun hs => D.hgh (show D.g = D.h from hs)), blkSet h.b7 0 _, h.x0, h.x1, fun e => (h.x2 e).kept hE nl, h.x4, h.x5, fun e => (h.x6 e).kept hE nl, ite_kept (b := f 3) h.r3 (k3 D.h2) (k3 D.h2), ite_kept (b := f 7) h.r7 (k3 D.h4) (k3 D.h4), h.d8, fun e => ?_, h.e0, h.e4, h.k0, h.k1, h.kg, h.kh⟩
  have e : f 7 = false := e
  rw [h3] at e
  cases e
end Go.Proofs.Ytkkcdijnhegneaa
