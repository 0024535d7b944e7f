/- Words of this claim's own: a range over a function where a round keeps all blocks but those of a set that grows by new ones alone. No program in sight. -/
import Derived.Test.YtcngefpdfkkgdaaRf
namespace Go.Proofs.Ytcngefpdfkkgdaa
open Go.RowKit
/-- All but the blocks of M and the book-keeping stand as they stood. -/
def KpM (M : Nat → Prop) (A B : World) : Prop := ∀ (k : Nat) (o : Obj), isBk o = false → ¬ M k → A.heap[k]? = some o → B.heap[k]? = some o
theorem KpM.refl (M : Nat → Prop) (A : World) : KpM M A A := fun _ _ _ _ h => h
theorem KpM.trans {M : Nat → Prop} {A B C : World} (h : KpM M A B) (k : KpM M B C) : KpM M A C := fun i o ho hm hi => k i o ho hm (h i o ho hm hi)
theorem KpM.of_ext {S M : Nat → Prop} {A B : World} (h : Ext S A B) (hS : ∀ k, S k → M k) : KpM M A B := fun k _ _ hm hk => h.blk hk (fun hs => hm (hS k hs))
theorem Kb.kpm {M : Nat → Prop} {z : Nat} {A B : World} (h : Kb z A B) : KpM M A B := fun k o ho _ hk => h.block k o hk (.inr ho)
def IterM {β : Type} (P : Program) (gf : Nat) (lb : Array Value) (Step : β → Array Value → β → World → Prop) (Fin : β → Prop) (b0 : β) (w0 : World) : Prop :=
  ∀ (l : Nat) (J : β → (Nat → Prop) → World → Prop) (Jx : β → World → Prop) (M0 : Nat → Prop) (W : World), Ext N0 w0 W →
    (∀ b M A B, J b M A → Kb W.heap.size A B → J b M B) → (∀ b A B, Jx b A → Kb W.heap.size A B → Jx b B) →
    (∀ b vs b' M W1, Step b vs b' W1 → J b M W1 → YieldAt Fence.wide 0 P l vs W1 fun e W' =>
      (e = .returned (.bool true) ∧ ∃ M', J b' M' W' ∧ KpM M W1 W' ∧ (∀ k, M' k → M k ∨ W1.heap.size ≤ k) ∧ W1.heap.size ≤ W'.heap.size) ∨ (e = .returned (.bool false) ∧ Jx b' W')) →
    (∀ k, M0 k → k < W.heap.size) → J b0 M0 W →
    CallsIn Fence.wide 0 P gf (#[.func (.yield l) #[] #[]] ++ lb) W fun e W' => (∃ v, e = .returned v) ∧ ((∃ b M, Fin b ∧ J b M W') ∨ (∃ b, Jx b W'))
def rfPostM {β : Type} (M : Nat → Prop) (I : β → (Nat → Prop) → World → Prop) (Ix : Code → β → World → Prop) (b : β) (W : World) : Exit → Act → World → Prop
  | .normal, _, W' => Bk W W' ∧ ∃ M', KpM M W W' ∧ (∀ k, M' k → M k ∨ W.heap.size ≤ k) ∧ I b M' W'
  | .ret, _, W' => Bk W W' ∧ Ix .ret b W'
  | .exit id, _, W' => Bk W W' ∧ Ix (.exit id) b W'
  | _, _, _ => False

/-- THE STATEMENT 'for .. := range g { .. }' over an iterator that has its contract. -/
theorem rangeLawM {β : Type} {P : Program} {g : Operand} {ps : Array Tmp} {assign body : Code} {Q : Exit → Act → World → Prop} {a : Act} {w : World}
    {gf : Nat} {lb : Array Value} (hg : a.eval g = .func (.func gf) #[] lb) (eg : ∀ args w, (callFunc gf args).run P w = .ok (.enter gf args) w)
    {Step : β → Array Value → β → World → Prop} {Fin : β → Prop} {b0 : β} (hit : IterM P gf lb Step Fin b0 w) (M0 : Nat → Prop) (hM0 : ∀ k, M0 k → k < w.heap.size)
    (hps : ∀ b vs b' W, Step b vs b' W → vs.size = ps.size)
    (I : β → (Nat → Prop) → World → Prop) (Ix : Code → β → World → Prop) (hI : ∀ b M A B, I b M A → Kb w.heap.size A B → I b M B) (hIx : ∀ c b A B, Ix c b A → Kb w.heap.size A B → Ix c b B) (h0 : I b0 M0 w)
    (Ax : β → β → Act → World → Prop) (hAx : ∀ b b' a' A B, Ax b b' a' A → Kb w.heap.size A B → Ax b b' a' B)
    (hassign : ∀ (l : Nat) (b b' : β) (vs : Array Value) (M : Nat → Prop) (W : World) (K : Act → World → Prop), Step b vs b' W → I b M W → (∀ a' W', Bk W W' → KpM M W W' → I b M W' → Ax b b' a' W' → K a' W') →
      assign.wpIn (Fence.wide.inRound l) 0 P (Exit.then K (fun _ _ _ => False)) { tmps := (ps.zip vs).foldl (fun t (p, v) => t.setIfInBounds p v) a.tmps, defers := [] } W)
    (hbody : ∀ (l : Nat) (b b' : β) (a' : Act) (M : Nat → Prop) (W : World), w.heap.size ≤ l → (∃ r, W.heap[l]? = some (.loop r)) → I b M W → Ax b b' a' W → body.wpIn (Fence.wide.inRound l) 0 P (rfPostM M I Ix b' W) a' W)
    (hdone : ∀ (D : Nat) (b : β) (M : Nat → Prop) (W : World), w.heap.size ≤ D → Fin b → I b M W → W.heap[D]? = some (.deferred (some [])) → Q .normal { a with defers := { target := .collected D, args := #[] } :: a.defers } W)
    (hstop : ∀ (D : Nat) (c : Code) (b : β) (W : World), w.heap.size ≤ D → Ix c b W → W.heap[D]? = some (.deferred (some [])) → c.wpIn Fence.wide 0 P Q { a with defers := { target := .collected D, args := #[] } :: a.defers } W) :
    (Code.rangeFunc g ps assign body).wpIn Fence.wide 0 P Q a w := by
  refine wpIn_rangeFunc ?_
  intro fn hfn
  obtain ⟨rec, hrec⟩ : ∃ rec : LoopState → Option Code → Loop, rec = fun st pe => { state := st, pending := pe, fn, tmps := a.tmps, params := ps, assign, body, defers := w.heap.size } := ⟨_, rfl⟩
  obtain ⟨W1, hW1⟩ : ∃ W1, (w.alloc (.deferred (some []))).alloc (.loop (rec .ready none)) = W1 := ⟨_, rfl⟩
  have hsz : W1.heap.size = w.heap.size + 2 := by rw [← hW1]; simp
  have hL1 : W1.heap[w.heap.size + 1]? = some (.loop (rec .ready none)) := by rw [← hW1]; exact blkNewG _ _ (by simp)
  have hK1 : W1.heap[w.heap.size]? = some (.deferred (some [])) := by rw [← hW1]; exact blkAlloc (blkNew w _) _
  have hE1 : Ext N0 w W1 := by rw [← hW1]; exact ((Ext.refl _ _).alloc _).alloc _
  refine ⟨w.heap.size + 1, [{ target := .collected w.heap.size, args := #[] }], W1, { target := .fn (.func gf) lb, args := #[.func (.yield (w.heap.size + 1)) #[] #[]] }, W1, gf,
    #[.func (.yield (w.heap.size + 1)) #[] #[]] ++ lb, W1, ?_, ?_, fun _ _ => trivial, ?_, fun h => by simp [Fence.wide] at h, ?_⟩
  · rw [← hW1, hrec]
    exact run_enterLoop_outer _ _ _ _ _
  · simp only [resolve, hg]
    simp [go_sem]
  · simp [invoke, go_sem, eg]
  · refine (hit (w.heap.size + 1)
      (fun b M W => I b M W ∧ W.heap[w.heap.size + 1]? = some (.loop (rec .ready none)) ∧ W.heap[w.heap.size]? = some (.deferred (some [])))
      (fun b W => ∃ c, Ix c b W ∧ W.heap[w.heap.size + 1]? = some (.loop (rec .done (some c))) ∧ W.heap[w.heap.size]? = some (.deferred (some [])))
      M0 W1 hE1
      (fun b M A B hs hk => ⟨hI b M A B hs.1 (hk.mono (by omega)), hk.low (by omega) hs.2.1, hk.low (by omega) hs.2.2⟩)
      (fun b A B hs hk => by
        obtain ⟨c, h1, h2, h3⟩ := hs
        exact ⟨c, hIx c b A B h1 (hk.mono (by omega)), hk.low (by omega) h2, hk.low (by omega) h3⟩)
      ?_ (fun k hk => Nat.lt_of_lt_of_le (hM0 k hk) hE1.size) ⟨hI _ _ _ _ h0 (Kb.of0 hE1), hL1, hK1⟩).mono ?_
    · rintro b vs b' M W hst ⟨hi, hl, hk⟩
      have hy := run_yield (P := P) (args := vs) hl (by rw [hrec]; exact hps b vs b' W hst)
      rw [hrec] at hy
      refine ⟨fn, _, assign, body, hy, roundIn_of_wpIn hfn (hassign _ b b' vs M W _ hst hi ?_)⟩
      clear hy
      intro a' Wa hbk hkp hia hax
      have hla := hbk.2 _ _ hl rfl
      have hka := hbk.2 _ _ hk rfl
      have hlt : w.heap.size + 1 < Wa.heap.size := blkLt hla
      refine ⟨_, run_beginRound hla (by rw [hrec]), ?_⟩
      obtain ⟨Wb, hWb⟩ : ∃ Wb, Wa.putObj (w.heap.size + 1) (.loop { rec .ready none with state := .busy }) = Wb := ⟨_, rfl⟩
      have hkb : Kb w.heap.size Wa Wb := by rw [← hWb]; exact Kb.put _ hla rfl (by omega)
      have hlb : Wb.heap[w.heap.size + 1]? = some (.loop { rec .ready none with state := .busy }) := by rw [← hWb]; exact World.putObj_heap_same hlt
      have hdb : Wb.heap[w.heap.size]? = some (.deferred (some [])) := by rw [← hWb]; exact (World.putObj_heap_other (by omega)).trans hka
      rw [hWb]
      refine wpIn_mono (hbody _ b b' a' M Wb (by omega) ⟨_, hlb⟩ (hI _ _ _ _ hia hkb) (hAx _ _ _ _ _ hax hkb)) ?_
      have fin : ∀ (jump : Option Code) (W3 : World), Bk Wb W3 →
          (Instr.endRound (w.heap.size + 1) jump).run P W3 = .ok (.bool jump.isNone) (W3.putObj (w.heap.size + 1) (.loop (rec (if jump.isNone then .ready else .done) jump))) ∧
          W3.heap[w.heap.size + 1]? = some (.loop { rec .ready none with state := .busy }) ∧
          (W3.putObj (w.heap.size + 1) (.loop (rec (if jump.isNone then .ready else .done) jump))).heap[w.heap.size + 1]? = some (.loop (rec (if jump.isNone then .ready else .done) jump)) ∧
          (W3.putObj (w.heap.size + 1) (.loop (rec (if jump.isNone then .ready else .done) jump))).heap[w.heap.size]? = some (.deferred (some [])) := fun jump W3 hb3 => by
        have hl3 := hb3.2 _ _ hlb rfl
        have hd3 := hb3.2 _ _ hdb rfl
        have := run_endRound (P := P) jump hl3
        rw [hrec] at this ⊢
        exact ⟨this, by rw [hrec] at hl3; exact hl3, World.putObj_heap_same (blkLt hl3), (World.putObj_heap_other (by omega)).trans hd3⟩
      rintro e a3 W3 hp
      cases e with
      | normal =>
        obtain ⟨hb3, M', hkp3, hm3, hi3⟩ := hp
        obtain ⟨hr, hl3, hl4, hk4⟩ := fin none W3 hb3
        have h1 := hbk.1
        have h2 := hkb.size
        have h3 := hb3.1
        refine ⟨_, _, hr, .inl ⟨rfl, M', ⟨hI _ _ _ _ hi3 (Kb.put _ hl3 rfl (by omega)), hl4, hk4⟩, hkp.trans (hkb.kpm.trans (hkp3.trans (Kb.kpm (Kb.put (z := w.heap.size) _ hl3 rfl (by omega))))), fun k hk => (hm3 k hk).imp id (fun h => by omega), ?_⟩⟩
        simp only [World.putObj_size]
        omega
      | ret =>
        obtain ⟨hb3, hi3⟩ := hp
        obtain ⟨hr, hl3, hl4, hk4⟩ := fin (some .ret) W3 hb3
        exact ⟨_, _, hr, .inr ⟨rfl, .ret, hIx _ _ _ _ hi3 (Kb.put _ hl3 rfl (by omega)), hl4, hk4⟩⟩
      | exit id =>
        obtain ⟨hb3, hi3⟩ := hp
        obtain ⟨hr, hl3, hl4, hk4⟩ := fin (some (.exit id)) W3 hb3
        exact ⟨_, _, hr, .inr ⟨rfl, .exit id, hIx _ _ _ _ hi3 (Kb.put _ hl3 rfl (by omega)), hl4, hk4⟩⟩
      | goto t => exact hp.elim
      | panic ch => exact hp.elim
      | outgrown => exact hp.elim
    · rintro e W2 ⟨⟨v, rfl⟩, (⟨b, M, hF, hi, hl, hk⟩ | ⟨b, c, hi, hl, hk⟩)⟩
      · exact ⟨none, _, by have := run_endLoop (P := P) hl (by rw [hrec]; simp); rw [hrec] at this; exact this, hdone _ b _ _ (Nat.le_refl _) hF (hI _ _ _ _ hi (Kb.put _ hl rfl (by omega))) ((World.putObj_heap_other (by omega)).trans hk)⟩
      · exact ⟨some c, _, by have := run_endLoop (P := P) hl (by rw [hrec]; simp); rw [hrec] at this; exact this, hstop _ c b _ (Nat.le_refl _) (hIx _ _ _ _ hi (Kb.put _ hl rfl (by omega))) ((World.putObj_heap_other (by omega)).trans hk)⟩
end Go.Proofs.Ytcngefpdfkkgdaa
