/- A gauge of texts and the document's, side by side (the conditions stand in the statements). -/
import Derived.Test.YtcngefpdfkkgdaaS4
import Derived.Test.YtcngefpdfkkgdaaS6
import Derived.Test.YtcngefpdfkkgdaaS8
namespace Go.Proofs.Ytcngefpdfkkgdaa
open Go.RowKit Go.Maps
theorem IsG.small {K : Type} {TB KT : TypeId} {kv : K → Value} {kl : K → Lit} {base g u : Nat} {w : World} {G : Ga K} {F : Nat → Prop} (h : IsG TB KT kv kl base w g G u F) : IsG TB KT kv kl base w g G u (fun y => F y ∧ y < w.heap.size) := by
  obtain ⟨mb, gb, cb, Ak, ck, bl, gc, cc, φ, ho, hF⟩ := h
  refine ⟨mb, gb, cb, Ak, ck, bl, gc, cc, φ, ho, fun x hx => ⟨hF x hx, ?_⟩⟩
  rcases hx with e | e | e | e | ⟨k, hk, e | e⟩
  · rw [e]; exact blkLt ho.blk
  · rw [e]; exact ho.mp.lt
  · rw [e]; exact (ownBase ho.bo gb rfl).2
  · exact (ownBase ho.ko x e).2
  · rw [e]; exact blkLt (ho.nb k hk)
  · rw [e]; exact (ownBase (ho.no k hk) _ rfl).2
theorem IsG.weak {K : Type} {TB KT : TypeId} {kv : K → Value} {kl : K → Lit} {base g u : Nat} {w : World} {G : Ga K} {F F' : Nat → Prop} (h : IsG TB KT kv kl base w g G u F) (hF' : ∀ y, F y → F' y) : IsG TB KT kv kl base w g G u F' := by
  obtain ⟨mb, gb, cb, Ak, ck, bl, gc, cc, φ, ho, hF⟩ := h
  exact ⟨mb, gb, cb, Ak, ck, bl, gc, cc, φ, ho, fun x hx => hF' x (hF x hx)⟩
/-- The document's row tells the gauge. -/
structure Rel (G : Ga ByteArray) (bs : List Int) (R : List Rk) : Prop where
  bs : G.bs = bs
  ks : rKeys R = G.ks
  fs : ∀ p ∈ R, p.l = G.f p.k
  ne : ∀ k ∈ G.ks, 1 ≤ (G.f k).length
theorem note_ne {G : Ga ByteArray} (h : ∀ k ∈ G.ks, 1 ≤ (G.f k).length) (k : ByteArray) (x : Int) : ∀ k' ∈ (G.note k x).ks, 1 ≤ ((G.note k x).f k').length := by
  intro k' hk'
  by_cases e : k' = k
  · have e2 : (G.note k x).f k' = (G.push k).f k ++ [x] := if_pos e
    rw [e2]
    simp
  · have e2 : (G.note k x).f k' = (G.push k).f k' := if_neg e
    rw [e2, Ga.push_f]
    refine h k' ?_
    have hk2 : k' ∈ (G.push k).ks := hk'
    unfold Ga.push at hk2
    split at hk2
    · exact hk2
    · rcases List.mem_append.1 hk2 with h2 | h2
      · exact h2
      · exact absurd (List.mem_singleton.1 h2) e
theorem Rel.len {G : Ga ByteArray} {bs : List Int} {R : List Rk} (h : Rel G bs R) : R.length = G.ks.length := by rw [← h.ks]; simp [rKeys]
theorem Rel.find {G : Ga ByteArray} {bs : List Int} {R : List Rk} {N : Nat} (h : Rel G bs R) (hok : G.Ok N) {k : ByteArray} (hk : k ∈ G.ks) : ∃ (i : Nat) (p : Rk), R[i]? = some p ∧ p.k = k ∧ p.l = G.f k ∧ ∀ (j : Nat) (q : Rk), j ≠ i → R[j]? = some q → ¬ q.k = k := by
  rw [← h.ks] at hk
  unfold rKeys at hk
  rw [List.mem_map] at hk
  obtain ⟨p, hp, hpk⟩ := hk
  obtain ⟨i, hi⟩ := List.getElem?_of_mem hp
  refine ⟨i, p, hi, hpk, by rw [h.fs p hp, hpk], fun j q hj hq hqk => ?_⟩
  have hnd := hok.nd
  rw [← h.ks] at hnd
  have e1 : (rKeys R)[i]? = some k := by unfold rKeys; simp [hi, hpk]
  have e2 : (rKeys R)[j]? = some k := by unfold rKeys; simp [hq, hqk]
  obtain ⟨l1, q1⟩ := List.getElem?_eq_some_iff.1 e1
  obtain ⟨l2, q2⟩ := List.getElem?_eq_some_iff.1 e2
  exact hj ((List.getElem_inj hnd).1 (q2.trans q1.symm))
theorem Rel.out {G : Ga ByteArray} {bs : List Int} {R : List Rk} (h : Rel G bs R) {k : ByteArray} (hk : k ∉ G.ks) : ∀ q ∈ R, ¬ q.k = k := by
  rintro q hq rfl
  apply hk
  rw [← h.ks]
  exact List.mem_map_of_mem hq
theorem Rel.note_in {G : Ga ByteArray} {bs : List Int} {R : List Rk} (h : Rel G bs R) {k : ByteArray} {i : Nat} {p : Rk} (hk : k ∈ G.ks) (hp : R[i]? = some p) (hpk : p.k = k) (hne : ∀ (j : Nat) (q : Rk), j ≠ i → R[j]? = some q → ¬ q.k = k) (x : Int) (A : Option Addr) (c : Nat) : Rel (G.note k x) bs (R.set i (Rk.mk k A c (G.f k ++ [x]))) where
  ne := note_ne h.ne k x
  bs := (Ga.push_bs G k).trans h.bs
  ks := by
    have e : (G.note k x).ks = G.ks := by
      show (G.push k).ks = G.ks
      unfold Ga.push
      rw [if_pos hk]
    rw [e, ← h.ks]
    unfold rKeys
    apply List.ext_getElem?
    intro j
    rw [List.getElem?_map, List.getElem?_map]
    by_cases e : i = j
    · subst e
      have hl := (List.getElem?_eq_some_iff.1 hp).1
      rw [List.getElem?_set_self hl, hp]
      simp [hpk]
    · rw [List.getElem?_set_ne e]
  fs := fun q hq => by
    obtain ⟨j, hj⟩ := List.getElem?_of_mem hq
    by_cases e : i = j
    · subst e
      have hl := (List.getElem?_eq_some_iff.1 hp).1
      rw [List.getElem?_set_self hl] at hj
      injection hj with hj
      subst hj
      show G.f k ++ [x] = (G.note k x).f k
      have e2 : (G.note k x).f k = (G.push k).f k ++ [x] := if_pos rfl
      rw [e2, Ga.push_f]
    · rw [List.getElem?_set_ne e] at hj
      have hqk := hne j q (Ne.symm e) hj
      rw [h.fs q (List.mem_of_getElem? hj)]
      have e2 : (G.note k x).f q.k = (G.push k).f q.k := if_neg hqk
      rw [e2, Ga.push_f]
theorem Rel.note_out {G : Ga ByteArray} {bs : List Int} {R : List Rk} {N : Nat} (h : Rel G bs R) (hok : G.Ok N) {k : ByteArray} (hk : k ∉ G.ks) (x : Int) (A : Option Addr) (c : Nat) : Rel (G.note k x) bs (R ++ [Rk.mk k A c ([] ++ [x])]) where
  ne := note_ne h.ne k x
  bs := (Ga.push_bs G k).trans h.bs
  ks := by
    have e : (G.note k x).ks = G.ks ++ [k] := by
      show (G.push k).ks = G.ks ++ [k]
      unfold Ga.push
      rw [if_neg hk]
    rw [e, ← h.ks]
    simp [rKeys]
  fs := fun q hq => by
    rcases List.mem_append.1 hq with hq | hq
    · have hqk := h.out hk q hq
      rw [h.fs q hq]
      have e2 : (G.note k x).f q.k = (G.push k).f q.k := if_neg hqk
      rw [e2, Ga.push_f]
    · rw [List.mem_singleton.1 hq]
      show [] ++ [x] = (G.note k x).f k
      have e2 : (G.note k x).f k = (G.push k).f k ++ [x] := if_pos rfl
      rw [e2, Ga.push_f, hok.out k hk]
/-- A note in both: what the document's gives. -/
def NoteR (base : Nat) (A0 : Option Addr) (c0 : Nat) (A1 : Option Addr) (c1 : Nat) (bs : List Int) (R : List Rk) (er : Int) (G' : Ga ByteArray) (w : World) (e : Ending) (w' : World) : Prop :=
  ∃ A1' c1' R', e = .returned (.tuple #[.agg (rG A0 bs.length c0 A1' R'.length c1'), .int .i64 er]) ∧ RS base w' A0 c0 A1' c1' bs R' ∧ Ext N0 w w' ∧ (∀ y, RB A0 c0 A1' c1' bs R' y → RB A0 c0 A1 c1 bs R y ∨ w.heap.size ≤ y) ∧ Rel G' bs R'
theorem note_badS (base g u : Nat) (G : Ga ByteArray) (k : ByteArray) (x : Int) (F : Nat → Prop) (w : World) (h : IsGS base w g G u F) (hx : x < 0 ∨ 1099511627776 < x) :
    Calls Try.prog 10 #[.pointer (some ⟨g, 0, none⟩), .string k, .int .i64 x] w fun e w' => e = .returned (.int .i64 5) ∧ w' = w := by
  obtain ⟨mb, gb, cb, Ak, ck, bl, gc, cc, φ, ho, hF⟩ := h
  have c1 : w.cell? ⟨g, 1, none⟩ = some (.map (some mb)) := (blkCell ho.blk 1).trans rfl
  have hs : x < 0 ∨ (¬ x < 0 ∧ 1099511627776 < x) := by omega
  clear ho hF hx
  rcases hs with h1 | ⟨h1, h2⟩
  all_goals
    go_enter Try.func10, Try.ntmps10
    go_wp2_with (go_at_call 38; refine (none_callsS g mb _ c1).mono ?_; rintro e w' ⟨rfl, rfl⟩)
    go_ret
    exact ⟨rfl, rfl⟩
theorem note_both (base g N : Nat) (G : Ga ByteArray) (k : ByteArray) (x : Int) (bs : List Int) (R : List Rk) (hok : G.Ok N) (hN : N ≤ 100) (hrel : Rel G bs R) (hkey : keyOf Try.prog 9 (.string k) = some (.string k.data.toList)) :
    ∃ er G', G'.Ok (N + 1) ∧ G'.bs = bs ∧
    (∀ (c0 c1 : Nat) (A0 A1 : Option Addr) (w : World), RS base w A0 c0 A1 c1 bs R → base ≤ w.heap.size → Calls Try.prog 9 #[.agg (rG A0 bs.length c0 A1 R.length c1), .string k, .int .i64 x] w (NoteR base A0 c0 A1 c1 bs R er G' w)) ∧
    (∀ (u : Nat) (F : Nat → Prop) (w : World), IsGS base w g G u F → (∀ y, w.heap.size ≤ y → F y) → u ≤ 100000 → base ≤ w.heap.size → Calls Try.prog 10 #[.pointer (some ⟨g, 0, none⟩), .string k, .int .i64 x] w fun e w' => e = .returned (.int .i64 er) ∧ IsGS base w' g G' (u + 1) F ∧ Ext F w w') := by
  have hRl : R.length < 1000 := by rw [hrel.len]; have := hok.kl; omega
  by_cases hx : x < 0 ∨ 1099511627776 < x
  · refine ⟨5, G, ⟨hok.may, hok.bl, hok.nd, hok.vals, fun k => Nat.le_succ_of_le (hok.lens k), hok.out, Nat.le_succ_of_le hok.kl⟩, hrel.bs, fun c0 c1 A0 A1 w h hb => ?_, fun u F w h hF hu hb => ?_⟩
    · refine (rnote_bad A0 A1 bs.length c0 R.length c1 k x w hx).mono ?_
      rintro e w' ⟨rfl, hE⟩
      exact ⟨A1, c1, R, rfl, h.kept0 hE, hE, fun y hy => .inl hy, hrel⟩
    · refine (note_badS base g u G k x F w h hx).mono ?_
      rintro e w' ⟨rfl, hw⟩
      subst hw
      obtain ⟨mb, gb, cb, Ak, ck, bl, gc, cc, φ, ho, hF2⟩ := h
      exact ⟨rfl, ⟨mb, gb, cb, Ak, ck, bl, gc, cc, φ, ho.more (Nat.le_succ _), hF2⟩, Ext.refl _ _⟩
  · have hx' : 0 ≤ x ∧ x ≤ 1099511627776 := by omega
    refine ⟨0, G.note k x, hok.note k hx', (Ga.push_bs G k).trans hrel.bs, fun c0 c1 A0 A1 w h hb => ?_, fun u F w h hF hu hb => note_callsS base g u N G k x F w h hF hok (by omega) hkey hx' hu hb⟩
    by_cases hk : k ∈ G.ks
    · obtain ⟨i, p, hp, hpk, hpl, hne⟩ := hrel.find hok hk
      have hlen : p.l.length ≤ 900 := by rw [hpl]; have := hok.lens k; omega
      refine (rnote_in base c0 c1 p.c R.length A0 A1 p.A bs p.l R k x i w h hb hRl hlen hx' (List.getElem?_eq_some_iff.1 hp).1 (fun W hW => rof_in base c0 c1 bs.length A0 A1 bs R k i p W (h.kept0 hW) (by omega) hp hpk (fun j q hj hq => hne j q (by omega) hq)) (ownReads1 (h.e p (List.mem_of_getElem? hp)))).mono ?_
      rintro e w' ⟨A', c', A1', c1', rfl, h1, h2, h3⟩
      rw [hpl] at h1 h3
      exact ⟨A1', c1', _, by rw [hpl], h1, h2, h3, hrel.note_in hk hp hpk hne x A' c'⟩
    · refine (rnote_out base c0 c1 0 R.length A0 A1 none bs [] R k x R.length w h hb hRl (by simp) hx' rfl (fun W hW => rof_out base c0 c1 bs.length A0 A1 bs R k W (h.kept0 hW) (by omega) (hrel.out hk)) (ownReads1 (ownNil w 0 3 1))).mono ?_
      rintro e w' ⟨A', c', A1', c1', rfl, h1, h2, h3⟩
      exact ⟨A1', c1', _, rfl, h1, h2, h3, hrel.note_out hok hk x A' c'⟩
end Go.Proofs.Ytcngefpdfkkgdaa
