/- Words of this claim's own: a range over a function where a round keeps all blocks of some kinds; iterators may range themselves. No program in sight. -/
import Derived.Test.YtcngefpdfkkgdaaRf
namespace Go.Proofs.Ytcngefpdfkkgdaa
open Go.RowKit
/-- What a round keeps of the book-keeping from block z on. -/
def Bkz (z : Nat) (A B : World) : Prop := A.heap.size ≤ B.heap.size ∧ ∀ (k : Nat) (o : Obj), z ≤ k → A.heap[k]? = some o → isBk o = true → B.heap[k]? = some o
theorem Bkz.refl (z : Nat) (A : World) : Bkz z A A := ⟨Nat.le_refl _, fun _ _ _ h _ => h⟩
theorem Bkz.trans {z : Nat} {A B C : World} (h : Bkz z A B) (k : Bkz z B C) : Bkz z A C := ⟨Nat.le_trans h.1 k.1, fun i o hz hi ho => k.2 i o hz (h.2 i o hz hi ho) ho⟩
theorem Bkz.mono {z z' : Nat} {A B : World} (h : Bkz z A B) (hz : z ≤ z') : Bkz z' A B := ⟨h.1, fun i o hi h1 h2 => h.2 i o (Nat.le_trans hz hi) h1 h2⟩
theorem Bk.z {A B : World} (h : Bk A B) (z : Nat) : Bkz z A B := ⟨h.1, fun k o _ => h.2 k o⟩
/-- What a round keeps for the iterator: the blocks of the kinds T. -/
def KpO (T : Obj → Prop) (A B : World) : Prop := ∀ (k : Nat) (o : Obj), T o → A.heap[k]? = some o → B.heap[k]? = some o
theorem KpO.refl (T : Obj → Prop) (A : World) : KpO T A A := fun _ _ _ h => h
theorem KpO.trans {T : Obj → Prop} {A B C : World} (h : KpO T A B) (k : KpO T B C) : KpO T A C := fun i o ho hi => k i o ho (h i o ho hi)
theorem KpO.of_ext {S : Nat → Prop} {T : Obj → Prop} {A B : World} (h : Ext S A B) (hS : ∀ k o, S k → A.heap[k]? = some o → ¬ T o) : KpO T A B := fun k o ho hk => h.blk hk (fun hs => hS k o hs hk ho)
theorem KpO.of0 {T : Obj → Prop} {A B : World} (h : Ext N0 A B) : KpO T A B := KpO.of_ext h (fun _ _ hs => hs.elim)
theorem Kb.kp {T : Obj → Prop} (hT : ∀ o, T o → isBk o = false) {z : Nat} {A B : World} (h : Kb z A B) : KpO T A B := fun k o ho hk => h.block k o hk (.inr (hT o ho))
theorem KpO.own {T : Obj → Prop} {A B : World} {base n : Nat} {e : TypeId} {size : Nat} {v : Value} {xs : List Value} (k : KpO T A B) (hT : ∀ cs fr, T (.cells cs e fr)) (h : A.ownsRow base e size v n xs) : B.ownsRow base e size v n xs := by
  obtain ⟨h1, h2⟩ := h
  refine ⟨h1, ?_⟩
  rcases h2 with h2 | ⟨g, cap, cur, rfl, hb, hg, r⟩
  · exact .inl h2
  · exact .inr ⟨g, cap, cur, rfl, hb, k _ _ (hT _ _) hg, r⟩
def IterT {β : Type} (P : Program) (gf : Nat) (lb : Array Value) (Step : β → Array Value → β → World → Prop) (Fin : β → Prop) (Bd : β → Prop) (T : Obj → Prop) (b0 : β) (w0 : World) : Prop :=
  ∀ (l : Nat) (J Jx : β → World → Prop) (W : World), Ext N0 w0 W →
    (∀ b A B, J b A → Kb W.heap.size A B → J b B) → (∀ b A B, Jx b A → Kb W.heap.size A B → Jx b B) → (∀ b A, J b A → Bd b) →
    (∀ b vs b' W1, Step b vs b' W1 → J b W1 → YieldAt Fence.wide 0 P l vs W1 fun e W' =>
      (e = .returned (.bool true) ∧ J b' W' ∧ KpO T W1 W' ∧ Bkz W.heap.size W1 W') ∨ (e = .returned (.bool false) ∧ Jx b' W' ∧ Bkz W.heap.size W1 W')) →
    J b0 W →
    CallsIn Fence.wide 0 P gf (#[.func (.yield l) #[] #[]] ++ lb) W fun e W' => (∃ v, e = .returned v) ∧ ((∃ b, Fin b ∧ J b W') ∨ (∃ b, Jx b W'))
def rfPostT {β : Type} (z : Nat) (T : Obj → Prop) (I : β → World → Prop) (Ix : Code → β → World → Prop) (b : β) (W : World) : Exit → Act → World → Prop
  | .normal, _, W' => Bkz z W W' ∧ KpO T W W' ∧ I b W'
  | .ret, _, W' => Bkz z W W' ∧ Ix .ret b W'
  | .exit id, _, W' => Bkz z W W' ∧ Ix (.exit id) b W'
  | _, _, _ => False

/-- THE STATEMENT 'for .. := range g { .. }' over an iterator that has its contract. -/
theorem rangeLawT {β : Type} {P : Program} {g : Operand} {ps : Array Tmp} {assign body : Code} {Q : Exit → Act → World → Prop} {a : Act} {w : World}
    {gf : Nat} {lb : Array Value} (hg : a.eval g = .func (.func gf) #[] lb) (eg : ∀ args w, (callFunc gf args).run P w = .ok (.enter gf args) w)
    {Step : β → Array Value → β → World → Prop} {Fin Bd : β → Prop} {T : Obj → Prop} {b0 : β} (hit : IterT P gf lb Step Fin Bd T b0 w) (hT : ∀ o, T o → isBk o = false)
    (hps : ∀ b vs b' W, Step b vs b' W → vs.size = ps.size)
    (I : β → World → Prop) (Ix : Code → β → World → Prop) (hI : ∀ b A B, I b A → Kb w.heap.size A B → I b B) (hIx : ∀ c b A B, Ix c b A → Kb w.heap.size A B → Ix c b B) (h0 : I b0 w) (hBd : ∀ b A, I b A → Bd b)
    (Ax : β → β → Act → World → Prop) (hAx : ∀ b b' a' A B, Ax b b' a' A → Kb w.heap.size A B → Ax b b' a' B)
    (hassign : ∀ (l : Nat) (b b' : β) (vs : Array Value) (W : World) (K : Act → World → Prop), Step b vs b' W → I b W → (∀ a' W', Bkz w.heap.size W W' → KpO T W W' → I b W' → Ax b b' a' W' → K a' W') →
      assign.wpIn (Fence.wide.inRound l) 0 P (Exit.then K (fun _ _ _ => False)) { tmps := (ps.zip vs).foldl (fun t (p, v) => t.setIfInBounds p v) a.tmps, defers := [] } W)
    (hbody : ∀ (l : Nat) (b b' : β) (a' : Act) (W : World), w.heap.size ≤ l → (∃ r, W.heap[l]? = some (.loop r)) → I b W → Ax b b' a' W → body.wpIn (Fence.wide.inRound l) 0 P (rfPostT w.heap.size T I Ix b' W) a' W)
    (hdone : ∀ (D : Nat) (b : β) (W : World), w.heap.size ≤ D → Fin b → I b W → W.heap[D]? = some (.deferred (some [])) → Q .normal { a with defers := { target := .collected D, args := #[] } :: a.defers } W)
    (hstop : ∀ (D : Nat) (c : Code) (b : β) (W : World), w.heap.size ≤ D → Ix c b W → W.heap[D]? = some (.deferred (some [])) → c.wpIn Fence.wide 0 P Q { a with defers := { target := .collected D, args := #[] } :: a.defers } W) :
    (Code.rangeFunc g ps assign body).wpIn Fence.wide 0 P Q a w := by
  refine wpIn_rangeFunc ?_
  intro fn hfn
  obtain ⟨rec, hrec⟩ : ∃ rec : LoopState → Option Code → Loop, rec = fun st pe => { state := st, pending := pe, fn, tmps := a.tmps, params := ps, assign, body, defers := w.heap.size } := ⟨_, rfl⟩
  obtain ⟨W1, hW1⟩ : ∃ W1, (w.alloc (.deferred (some []))).alloc (.loop (rec .ready none)) = W1 := ⟨_, rfl⟩
  have hsz : W1.heap.size = w.heap.size + 2 := by rw [← hW1]; simp
  have hL1 : W1.heap[w.heap.size + 1]? = some (.loop (rec .ready none)) := by rw [← hW1]; exact blkNewG _ _ (by simp)
  have hK1 : W1.heap[w.heap.size]? = some (.deferred (some [])) := by rw [← hW1]; exact blkAlloc (blkNew w _) _
  have hE1 : Ext N0 w W1 := by rw [← hW1]; exact ((Ext.refl _ _).alloc _).alloc _
  refine ⟨w.heap.size + 1, [{ target := .collected w.heap.size, args := #[] }], W1, { target := .fn (.func gf) lb, args := #[.func (.yield (w.heap.size + 1)) #[] #[]] }, W1, gf,
    #[.func (.yield (w.heap.size + 1)) #[] #[]] ++ lb, W1, ?_, ?_, fun _ _ => trivial, ?_, fun h => by simp [Fence.wide] at h, ?_⟩
  · rw [← hW1, hrec]
    exact run_enterLoop_outer _ _ _ _ _
  · simp only [resolve, hg]
    simp [go_sem]
  · simp [invoke, go_sem, eg]
  · refine (hit (w.heap.size + 1)
      (fun b W => I b W ∧ W.heap[w.heap.size + 1]? = some (.loop (rec .ready none)) ∧ W.heap[w.heap.size]? = some (.deferred (some [])))
      (fun b W => ∃ c, Ix c b W ∧ W.heap[w.heap.size + 1]? = some (.loop (rec .done (some c))) ∧ W.heap[w.heap.size]? = some (.deferred (some [])))
      W1 hE1
      (fun b A B hs hk => ⟨hI b A B hs.1 (hk.mono (by omega)), hk.low (by omega) hs.2.1, hk.low (by omega) hs.2.2⟩)
      (fun b A B hs hk => by
        obtain ⟨c, h1, h2, h3⟩ := hs
        exact ⟨c, hIx c b A B h1 (hk.mono (by omega)), hk.low (by omega) h2, hk.low (by omega) h3⟩)
      (fun b A hs => hBd b A hs.1) ?_ ⟨hI _ _ _ h0 (Kb.of0 hE1), hL1, hK1⟩).mono ?_
    · rintro b vs b' W hst ⟨hi, hl, hk⟩
      have hy := run_yield (P := P) (args := vs) hl (by rw [hrec]; exact hps b vs b' W hst)
      rw [hrec] at hy
      refine ⟨fn, _, assign, body, hy, roundIn_of_wpIn hfn (hassign _ b b' vs W _ hst hi ?_)⟩
      clear hy
      intro a' Wa hbk hkp hia hax
      have hla := hbk.2 _ _ (by omega) hl rfl
      have hka := hbk.2 _ _ (Nat.le_refl _) hk rfl
      have hlt : w.heap.size + 1 < Wa.heap.size := blkLt hla
      refine ⟨_, run_beginRound hla (by rw [hrec]), ?_⟩
      obtain ⟨Wb, hWb⟩ : ∃ Wb, Wa.putObj (w.heap.size + 1) (.loop { rec .ready none with state := .busy }) = Wb := ⟨_, rfl⟩
      have hkb : Kb w.heap.size Wa Wb := by rw [← hWb]; exact Kb.put _ hla rfl (by omega)
      have hlb : Wb.heap[w.heap.size + 1]? = some (.loop { rec .ready none with state := .busy }) := by rw [← hWb]; exact World.putObj_heap_same hlt
      have hdb : Wb.heap[w.heap.size]? = some (.deferred (some [])) := by rw [← hWb]; exact (World.putObj_heap_other (by omega)).trans hka
      have hzb : Bkz (w.heap.size + 2) Wa Wb := by rw [← hWb]; exact ⟨by simp, fun k o hz hk _ => (World.putObj_heap_other (by omega)).trans hk⟩
      have hz1 : Bkz (w.heap.size + 2) W Wb := (hbk.mono (by omega)).trans hzb
      rw [hWb]
      refine wpIn_mono (hbody _ b b' a' Wb (by omega) ⟨_, hlb⟩ (hI _ _ _ hia hkb) (hAx _ _ _ _ _ hax hkb)) ?_
      have fin : ∀ (jump : Option Code) (W3 : World), Bkz w.heap.size Wb W3 →
          (Instr.endRound (w.heap.size + 1) jump).run P W3 = .ok (.bool jump.isNone) (W3.putObj (w.heap.size + 1) (.loop (rec (if jump.isNone then .ready else .done) jump))) ∧
          W3.heap[w.heap.size + 1]? = some (.loop { rec .ready none with state := .busy }) ∧
          Bkz (w.heap.size + 2) W (W3.putObj (w.heap.size + 1) (.loop (rec (if jump.isNone then .ready else .done) jump))) ∧
          (W3.putObj (w.heap.size + 1) (.loop (rec (if jump.isNone then .ready else .done) jump))).heap[w.heap.size + 1]? = some (.loop (rec (if jump.isNone then .ready else .done) jump)) ∧
          (W3.putObj (w.heap.size + 1) (.loop (rec (if jump.isNone then .ready else .done) jump))).heap[w.heap.size]? = some (.deferred (some [])) := fun jump W3 hb3 => by
        have hl3 := hb3.2 _ _ (by omega) hlb rfl
        have hd3 := hb3.2 _ _ (Nat.le_refl _) hdb rfl
        have := run_endRound (P := P) jump hl3
        rw [hrec] at this ⊢
        exact ⟨this, by rw [hrec] at hl3; exact hl3, hz1.trans ((hb3.mono (by omega)).trans ⟨by simp, fun k o hz hk _ => (World.putObj_heap_other (by omega)).trans hk⟩), World.putObj_heap_same (blkLt hl3), (World.putObj_heap_other (by omega)).trans hd3⟩
      rintro e a3 W3 hp
      cases e with
      | normal =>
        obtain ⟨hb3, hkp3, hi3⟩ := hp
        obtain ⟨hr, hl3, hz4, hl4, hk4⟩ := fin none W3 hb3
        exact ⟨_, _, hr, .inl ⟨rfl, ⟨hI _ _ _ hi3 (Kb.put _ hl3 rfl (by omega)), hl4, hk4⟩, hkp.trans ((hkb.kp hT).trans (hkp3.trans (Kb.kp hT (Kb.put (z := w.heap.size) _ hl3 rfl (by omega))))), hsz ▸ hz4⟩⟩
      | ret =>
        obtain ⟨hb3, hi3⟩ := hp
        obtain ⟨hr, hl3, hz4, hl4, hk4⟩ := fin (some .ret) W3 hb3
        exact ⟨_, _, hr, .inr ⟨rfl, ⟨.ret, hIx _ _ _ _ hi3 (Kb.put _ hl3 rfl (by omega)), hl4, hk4⟩, hsz ▸ hz4⟩⟩
      | exit id =>
        obtain ⟨hb3, hi3⟩ := hp
        obtain ⟨hr, hl3, hz4, hl4, hk4⟩ := fin (some (.exit id)) W3 hb3
        exact ⟨_, _, hr, .inr ⟨rfl, ⟨.exit id, hIx _ _ _ _ hi3 (Kb.put _ hl3 rfl (by omega)), hl4, hk4⟩, hsz ▸ hz4⟩⟩
      | goto t => exact hp.elim
      | panic ch => exact hp.elim
      | outgrown => exact hp.elim
    · rintro e W2 ⟨⟨v, rfl⟩, (⟨b, hF, hi, hl, hk⟩ | ⟨b, c, hi, hl, hk⟩)⟩
      · exact ⟨none, _, by have := run_endLoop (P := P) hl (by rw [hrec]; simp); rw [hrec] at this; exact this, hdone _ b _ (Nat.le_refl _) hF (hI _ _ _ hi (Kb.put _ hl rfl (by omega))) ((World.putObj_heap_other (by omega)).trans hk)⟩
      · exact ⟨some c, _, by have := run_endLoop (P := P) hl (by rw [hrec]; simp); rw [hrec] at this; exact this, hstop _ c b _ (Nat.le_refl _) (hIx _ _ _ _ hi (Kb.put _ hl rfl (by omega))) ((World.putObj_heap_other (by omega)).trans hk)⟩
end Go.Proofs.Ytcngefpdfkkgdaa
