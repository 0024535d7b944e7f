/- Words of this claim's own: a map of the call's own, told as a function of its keys; elements of any type that has a one-to-one telling. No program in sight. -/
import Derived.Test.YtcngefpdfkkgdaaBase
import Derived.Maps.OwnSet
namespace Go.Proofs.Ytcngefpdfkkgdaa
open Go.RowKit Go.Maps
section
variable {P : Program} {k : TypeId} {α : Type} {R : Value → Option (DataW Unit × List MemPlace)} {val : α → Value} {dat : α → DataW Unit}
/-- A telling of elements: each has a value and a datum, one to one. -/
structure Tells (R : Value → Option (DataW Unit × List MemPlace)) (val : α → Value) (dat : α → DataW Unit) : Prop where
  read : ∀ a, R (val a) = some (dat a, [])
  inv : ∀ v z, R v = some z → ∃ a, v = val a ∧ z = (dat a, [])
  inj : ∀ a b, dat a = dat b → a = b
open Classical in
noncomputable def tellR (val : α → Value) (dat : α → DataW Unit) (v : Value) : Option (DataW Unit × List MemPlace) := if h : ∃ a, v = val a then some (dat h.choose, []) else none
theorem tells (hv : ∀ a b, val a = val b → a = b) (hd : ∀ a b, dat a = dat b → a = b) : Tells (tellR val dat) val dat where
  read := fun a => by
    have h : ∃ a', val a = val a' := ⟨a, rfl⟩
    unfold tellR
    rw [dif_pos h, hv _ _ h.choose_spec.symm]
  inv := fun v z h => by
    unfold tellR at h
    split at h
    · rename_i hx
      injection h with h
      exact ⟨hx.choose, hx.choose_spec, h.symm⟩
    · cases h
  inj := hd
/-- Block b is a map of at most n entries: at each key what φ tells. -/
def IsMp (P : Program) (k : TypeId) (R : Value → Option (DataW Unit × List MemPlace)) (dat : α → DataW Unit) (w : World) (b n : Nat) (φ : Lit → Option α) : Prop :=
  ∃ D : DataW Unit, w.ownsMap P k R b n D ∧ ∀ v kl, keyOf P k v = some kl → Maps.has D kl = (φ kl).isSome ∧ ∀ a, φ kl = some a → ∀ z, D.atKey kl z = dat a
open Classical in
noncomputable def mpSet (φ : Lit → Option α) (kl : Lit) (a : α) : Lit → Option α := fun l => if l = kl then some a else φ l
theorem mpSet_same (φ : Lit → Option α) (kl : Lit) (a : α) : mpSet φ kl a kl = some a := if_pos rfl
theorem mpSet_other (φ : Lit → Option α) {kl l : Lit} (a : α) (h : l ≠ kl) : mpSet φ kl a l = φ l := if_neg h
theorem mpMade (w : World) : IsMp (α := α) P k R dat (w.alloc (.map #[] 0)) w.heap.size 0 (fun _ => none) :=
  ⟨.map [], World.ownsMap_made w P k R, fun _ _ _ => ⟨rfl, fun a h => by cases h⟩⟩
theorem IsMp.kept {S : Nat → Prop} {w w' : World} {b n : Nat} {φ : Lit → Option α} (h : IsMp P k R dat w b n φ) (hE : Ext S w w') (hb : ¬ S b) : IsMp P k R dat w' b n φ := by
  obtain ⟨D, ⟨es, clock, h1, h2⟩, h3⟩ := h
  exact ⟨D, ⟨es, clock, hE.blk h1 hb, h2⟩, h3⟩
theorem IsMp.lt {w : World} {b n : Nat} {φ : Lit → Option α} (h : IsMp P k R dat w b n φ) : b < w.heap.size := by
  obtain ⟨D, h1, _⟩ := h
  exact h1.lt
theorem IsMp.look {w : World} {b n : Nat} {φ : Lit → Option α} {t e : TypeId} (h : IsMp P k R dat w b n φ) (T : Tells R val dat) (K : Keyed P k) (ht : P.underlying t = some (.map k e)) {a0 : α} (hz : (zeroValue e).run P w = .ok (val a0) w)
    {key : Value} {kl : Lit} (hkey : keyOf P k key = some kl) : (Instr.lookup t (.map (some b)) key true).run P w = .ok (.tuple #[val ((φ kl).getD a0), .bool (φ kl).isSome]) w := by
  obtain ⟨D, h1, h2⟩ := h
  obtain ⟨v, ps, hrun, hv⟩ := h1.look_ok K ht hz (T.read a0) hkey
  obtain ⟨h3, h4⟩ := h2 _ _ hkey
  obtain ⟨a, rfl, ha⟩ := T.inv _ _ hv
  rw [hrun, h3]
  have : a = (φ kl).getD a0 := by
    cases hφ : φ kl with
    | none =>
      rw [hφ] at h3
      rw [atKey_of_not_has h3] at ha
      injection ha with ha
      exact (T.inj _ _ ha).symm
    | some a' =>
      rw [h4 a' hφ] at ha
      injection ha with ha
      exact (T.inj _ _ ha).symm
  rw [this]
theorem IsMp.update {w : World} {b n : Nat} {φ : Lit → Option α} {t e : TypeId} (h : IsMp P k R dat w b n φ) (T : Tells R val dat) (K : Keyed P k) (ht : P.underlying t = some (.map k e)) (hn : n < maxLen) {key : Value} {kl : Lit} (hkey : keyOf P k key = some kl) (a : α) :
    ∃ w', (Instr.mapUpdate t (.map (some b)) key (val a)).run P w = .ok () w' ∧ IsMp P k R dat w' b (n + 1) (mpSet φ kl a) ∧ Ext (At b) w w' := by
  obtain ⟨D, h1, h2⟩ := h
  obtain ⟨w', hrun, h3, hg⟩ := h1.update K ht hn hkey (T.read a)
  refine ⟨w', hrun, ⟨_, h3, fun v kl' hk' => ?_⟩, (Ext.of_grown hg).mono (fun k _ hk => by injection hk with hk; exact hk.symm)⟩
  by_cases e1 : kl' = kl
  · subst e1
    rw [mpSet_same]
    exact ⟨has_put_same h1.isMap (K.key hkey) _, fun a' ha z => by injection ha with ha; subst ha; exact atKey_put_same h1.isMap (K.key hkey) _ _⟩
  · rw [mpSet_other φ a e1]
    obtain ⟨h4, h5⟩ := h2 v kl' hk'
    exact ⟨by rw [has_put_other e1]; exact h4, fun a' ha z => by rw [atKey_put_other e1]; exact h5 a' ha z⟩
end
end Go.Proofs.Ytcngefpdfkkgdaa
