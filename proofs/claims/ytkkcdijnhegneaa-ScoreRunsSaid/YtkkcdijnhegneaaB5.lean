/- Contracts of the document's answer for package score, each proved for every value that its statement lets in (the conditions stand in the statements). -/
import Derived.Test.YtkkcdijnhegneaaKScoreBack
namespace Go.Proofs.Ytkkcdijnhegneaa
open Go.RowKit
def rCells (p : Pa) : List Value := [.int .i64 p.r, .int .i64 p.a, .int .i64 p.n, .int .i64 p.b]
def rcCells (ps : List Pa) : List Value := ps.flatMap rCells
theorem rcCells_len (ps : List Pa) : (rcCells ps).length = ps.length * 4 := by
  induction ps with
  | nil => rfl
  | cons p ps ih => simp [rcCells, rCells] at *; omega
theorem rc_get : ∀ (ps : List Pa) (k : Nat) (p : Pa), ps[k]? = some p →
    (rcCells ps)[k * 4]? = some (.int .i64 p.r) ∧ (rcCells ps)[k * 4 + 1]? = some (.int .i64 p.a) ∧ (rcCells ps)[k * 4 + 2]? = some (.int .i64 p.n) ∧ (rcCells ps)[k * 4 + 3]? = some (.int .i64 p.b) := by
  intro ps
  induction ps with
  | nil => intro k p h; simp at h
  | cons q ps ih =>
    intro k p h
    have e : rcCells (q :: ps) = rCells q ++ rcCells ps := by simp [rcCells]
    rw [e]
    cases k with
    | zero =>
      simp at h
      subst h
      simp [rCells]
    | succ k =>
      have := ih k p (by simpa using h)
      have hs : ∀ j, (rCells q ++ rcCells ps)[(k + 1) * 4 + j]? = (rcCells ps)[k * 4 + j]? := by
        intro j
        rw [List.getElem?_append_right (by simp [rCells]; omega)]
        congr 1
        simp [rCells]
        omega
      have h0 := hs 0
      simp only [Nat.add_zero] at h0
      rw [h0, hs 1, hs 2, hs 3]
      exact this
theorem rc_set (v : Value) (j : Nat) (hj : j < 4) (p' : Pa) : ∀ (ps : List Pa) (k : Nat) (p : Pa), ps[k]? = some p → (rCells p).set j v = rCells p' → (rcCells ps).set (k * 4 + j) v = rcCells (ps.set k p') := by
  intro ps
  induction ps with
  | nil => intro k p h; simp at h
  | cons q ps ih =>
    intro k p h hp
    have e : ∀ q ps, rcCells (q :: ps) = rCells q ++ rcCells ps := fun q ps => by simp [rcCells]
    rw [e]
    cases k with
    | zero =>
      simp at h
      subst h
      rw [List.set_append_left _ _ (by simp [rCells]; omega), List.set_cons_zero, e, ← hp]
      simp
    | succ k =>
      rw [List.set_append_right _ _ (by simp [rCells]; omega), List.set_cons_succ, e, ← ih k p (by simpa using h) hp]
      congr 2
      simp [rCells]
      omega
/-- The document's score: its paths in a row of its own. -/
def RR (base : Nat) (w : World) (gr c : Nat) (s : Sc) : Prop := w.ownsRow base 61 4 (.slice (some ⟨gr, 0, none⟩) s.ps.length c) s.ps.length (rcCells s.ps)
theorem RR.kept0 {base : Nat} {w w' : World} {gr c : Nat} {s : Sc} (h : RR base w gr c s) (hE : Ext N0 w w') : RR base w' gr c s := ownKept0 h hE
theorem RR.kept {base : Nat} {w w' : World} {gr c : Nat} {s : Sc} (h : RR base w gr c s) {S : Nat → Prop} (hE : Ext S w w') (hS : ¬ S gr) : RR base w' gr c s := ownKept h hE (fun k hk hs => by
  have e : gr = k := by simpa [Value.ownBlock] using hk
  subst e
  exact hS hs)
theorem RR.path {base : Nat} {w : World} {gr c : Nat} {s : Sc} (h : RR base w gr c s) {k : Nat} {p : Pa} (hp : s.ps[k]? = some p) :
    w.cell? ⟨gr, k * 4, none⟩ = some (.int .i64 p.r) ∧ w.cell? ⟨gr, k * 4 + 1, none⟩ = some (.int .i64 p.a) ∧ w.cell? ⟨gr, k * 4 + 2, none⟩ = some (.int .i64 p.n) ∧ w.cell? ⟨gr, k * 4 + 3, none⟩ = some (.int .i64 p.b) := by
  obtain ⟨h0, h1, h2, h3⟩ := rc_get s.ps k p hp
  have e : ∀ j v, (rcCells s.ps)[j]? = some v → w.cell? ⟨gr, j, none⟩ = some v := fun j v hv => (congrArg w.cell? (addPlain gr j)).symm.trans (World.ownsRow.cells (g := gr) h rfl j v hv)
  exact ⟨e _ _ h0, e _ _ h1, e _ _ h2, e _ _ h3⟩
theorem RR.lt {base : Nat} {w : World} {gr c : Nat} {s : Sc} (h : RR base w gr c s) : gr < w.heap.size := (ownBase h gr rfl).2
theorem RR.pblk {base : Nat} {w : World} {gr c : Nat} {s : Sc} (h : RR base w gr c s) : ∃ cs fr, w.heap[gr]? = some (.cells cs 61 fr) := by
  rcases h.2 with ⟨h1, _⟩ | ⟨g', cap', cur', h1, hb, hh, _⟩
  · cases h1
  · injection h1 with h1
    injection h1 with h1
    injection h1 with h1
    subst h1
    exact ⟨_, _, hh⟩
theorem RR.tp {base b2 : Nat} {w : World} {gr c : Nat} {s : Sc} (h : RR base w gr c s) : ¬ Tp b2 w gr := by
  rintro ⟨_, cs, fr, he⟩
  obtain ⟨cs', fr', he'⟩ := h.pblk
  rw [he] at he'
  injection he' with he'
  injection he' with _ he'
  exact absurd he' (by decide)
def agR (s : Sc) (gr c : Nat) : Value := .agg #[.int .i64 s.rest, .slice (some ⟨gr, 0, none⟩) s.ps.length c]
set_option maxRecDepth 100000 in
set_option maxHeartbeats 1000000 in
theorem ractive_calls (base gr c : Nat) (s : Sc) (u : Int) (w : World) (h : RR base w gr c s) (hok : s.Ok u) :
    Calls Try.prog 24 #[.agg #[.int .i64 s.rest, .slice (some ⟨gr, 0, none⟩) s.ps.length c]] w fun e w' => ∃ A c, e = .returned (.slice A s.act.length c) ∧ w'.ownsRow w.heap.size 3 1 (.slice A s.act.length c) s.act.length (nats s.act) ∧ Ext N0 w w' := by
  have hlen := hok.len
  have hE0 : Ext N0 w (w.alloc (.cells #[.int .i64 s.rest, .slice (some ⟨gr, 0, none⟩) s.ps.length c] 37)) := (Ext.refl _ _).alloc _
  have HR := Lib.hid (h.kept0 hE0)
  have HE0 := Lib.hid hE0
  have HB0 := Lib.hid (blkNew w (.cells #[.int .i64 s.rest, .slice (some ⟨gr, 0, none⟩) s.ps.length c] 37))
  clear h hok hE0
  go_enter Try.func24, Try.ntmps24
  go_wp2_with fail
  go_loopw [3, 4] (fun l v wr => ∃ (i : Nat) (A : Option Addr) (c2 : Nat), v = .int .i64 i ∧ i ≤ s.ps.length ∧ l = .slice A (s.actP i).length c2 ∧ Hid (wr.ownsRow w.heap.size 3 1 (.slice A (s.actP i).length c2) (s.actP i).length (nats (s.actP i))) ∧ Hid (RR base wr gr c s) ∧ Hid (wr.heap[w.heap.size]? = some (.cells #[.int .i64 s.rest, .slice (some ⟨gr, 0, none⟩) s.ps.length c] 37 (0, 0))) ∧ Hid (Ext N0 w wr))
    (fun _ v _ => s.ps.length - (intOf v).toNat)
  case atStart => exact ⟨0, none, 0, rfl, by omega, rfl, Lib.hid (ownNil _ _ _ _), HR, HB0, HE0⟩
  case round =>
    clear HR HB0 HE0
    obtain ⟨i, A, c2, rfl, hi, rfl, HO, HR, HB, HE⟩ := hrel
    have c1 := (blkCell HB.out 1).trans rfl
    simp at c1
    have hbl := s.actP_len i
    have hsz := HE.out.size
    obtain ⟨k, hk⟩ : ∃ k, (s.actP i).length = k := ⟨_, rfl⟩
    rw [hk] at HO hbl
    simp only [hk]
    by_cases hlt : i < s.ps.length
    · have hlt' : (i : Int) < s.ps.length := by omega
      obtain ⟨p, hp⟩ : ∃ p, s.ps[i]? = some p := ⟨_, List.getElem?_eq_getElem hlt⟩
      obtain ⟨q0, _⟩ := HR.out.path hp
      have hst := Sc.actP_step hp
      have HK := Lib.hid hk
      clear hk hp
      by_cases h0 : p.r = 0
      · rw [if_pos h0] at hst
        have E1 := Lib.hid hst
        clear hst
        go_wp2_with (at_builtin; refine wpApp w.heap.size (.tmp 19) (.tmp 21) 32 3 (.int .i64 0) 1 8 rfl rfl Try.underlying32 info3 rfl (by decide) (by decide) (.slice A k c2) k (nats (s.actP i)) _ 1 _ [.int .i64 (i : Int)] rfl rfl (ownKept0 HO.out ((Ext.refl _ _).alloc _)) rfl (litReads wr [.int .i64 (i : Int)] 3 (by simp)) (by simp [Value.oneCell']) (by omega) (by simp; omega) ?_; intro A5 c5 w5 ho5 hE5 _; have HO5 := Lib.hid ho5; have HE5 := Lib.hid hE5; clear ho5 hE5)
        have hal : Ext N0 wr (wr.alloc (.cells [Value.int .i64 (i : Int)].toArray 3)) := (Ext.refl _ _).alloc _
        have HR5 := Lib.hid (ownKept (ownKept0 HR.out hal) HE5.out (fun x hx => ownNe (ownKept0 HR.out hal) (ownKept0 HO.out hal) (by decide) x hx))
        have HB5 := Lib.hid (HE5.out.blk (hal.blk0 HB.out) (fun h => ownNeBlk (ownKept0 HO.out hal) (hal.blk0 HB.out) (by decide) _ h rfl))
        have HE6 := Lib.hid ((HE.out.then0 hal).trans HE5.out (fun x hx => .inr (ownBase HO.out x hx).1))
        have hlk : (s.actP (i + 1)).length = k + 1 := by rw [E1.out, List.length_append, HK.out]; rfl
        have hnl : nats (s.actP i) ++ [.int .i64 (i : Int)] = nats (s.actP (i + 1)) := by rw [E1.out]; simp [nats]
        clear hal
        go_roundw
        case rel => exact ⟨i + 1, A5, c5, by go_num, by omega, by rw [hlk], Lib.hid (by rw [hlk, ← hnl]; exact HO5.out), HR5, HB5, HE6⟩
        case measure => simp only [intOf]; omega
      · rw [if_neg h0, List.append_nil] at hst
        have E1 := Lib.hid hst
        clear hst
        go_wp2
        go_roundw
        case rel => exact ⟨i + 1, A, c2, by go_num, by omega, by rw [E1.out, HK.out], Lib.hid (by rw [E1.out, HK.out]; exact HO.out), HR, HB, HE⟩
        case measure => simp only [intOf]; omega
    · have hlt' : ¬ (i : Int) < s.ps.length := by omega
      obtain rfl : i = s.ps.length := by omega
      have hk2 : s.act.length = k := hk
      have HK := Lib.hid hk2
      clear hk hk2
      go_wp2
      go_ret
      refine ⟨A, c2, by rw [HK.out]; rfl, ?_, HE.out⟩
      rw [HK.out]
      exact HO.out
theorem rrests_calls (base gr c : Nat) (s : Sc) (k : Int) (w : World) (h : RR base w gr c s) : Calls Try.prog 28 #[.agg #[.int .i64 s.rest, .slice (some ⟨gr, 0, none⟩) s.ps.length c], .int .i64 k] w fun e w' => e = .returned (.int .i64 (s.restV k)) ∧ Ext N0 w w' := by
  have hE0 : Ext N0 w (w.alloc (.cells #[.int .i64 s.rest, .slice (some ⟨gr, 0, none⟩) s.ps.length c] 37)) := (Ext.refl _ _).alloc _
  have hR := h.kept0 hE0
  have HE := Lib.hid hE0
  have hgl := h.lt
  clear hE0
  unfold Sc.restV
  by_cases h1 : k < 0
  · rw [if_neg (fun x => by have := x.1; omega)]
    clear hR h
    go_enter Try.func28, Try.ntmps28
    go_wp2
    go_ret
    exact ⟨rfl, HE.out⟩
  · by_cases h2 : (s.ps.length : Int) ≤ k
    · rw [if_neg (fun x => by have := x.2; omega)]
      clear hR h
      go_enter Try.func28, Try.ntmps28
      go_wp2
      go_ret
      exact ⟨rfl, HE.out⟩
    · rw [if_pos ⟨by omega, by omega⟩]
      obtain ⟨kn, rfl⟩ : ∃ kn : Nat, k = kn := ⟨k.toNat, by omega⟩
      obtain ⟨p, hp⟩ : ∃ p, s.ps[kn]? = some p := ⟨_, List.getElem?_eq_getElem (by omega)⟩
      obtain ⟨q0, _⟩ := h.path hp
      have e : ((s.ps[((kn : Nat) : Int).toNat]?).map Pa.r).getD 0 = p.r := by simp [hp]
      rw [e]
      have h3 : (kn : Int) < s.ps.length := by omega
      clear hR h e hp
      go_enter Try.func28, Try.ntmps28
      go_wp2
      go_ret
      exact ⟨rfl, HE.out⟩
def Sc.cnt (s : Sc) (k : Int) : Pa := if s.has k then (s.ps[k.toNat]?).getD zeroP else zeroP
def cntV (p : Pa) : Value := .agg #[.int .i64 p.a, .int .i64 p.n, .int .i64 p.b]
theorem rcounts_calls (base gr c : Nat) (s : Sc) (k : Int) (w : World) (h : RR base w gr c s) : Calls Try.prog 29 #[.agg #[.int .i64 s.rest, .slice (some ⟨gr, 0, none⟩) s.ps.length c], .int .i64 k] w fun e w' => e = .returned (cntV (s.cnt k)) ∧ Ext N0 w w' := by
  have hgl := h.lt
  unfold Sc.cnt cntV
  by_cases h1 : k < 0
  · rw [if_neg (fun x => by have := x.1; omega)]
    clear h
    go_enter Try.func29, Try.ntmps29
    go_wp2
    have k0 := (blkCell (blkNewG (w.alloc (.cells #[.int .i64 s.rest, .slice (some ⟨gr, 0, none⟩) s.ps.length c] 37)) (.cells #[.int .i64 0, .int .i64 0, .int .i64 0] 54) (g := w.heap.size + 1) (by simp)) 0).trans rfl
    refine bodyPost_ret (v := .agg #[.int .i64 0, .int .i64 0, .int .i64 0]) (by simp [results, Try.results29, go_sem, k0]) rfl ⟨rfl, ((Ext.refl _ _).alloc _).alloc _⟩
  · by_cases h2 : (s.ps.length : Int) ≤ k
    · rw [if_neg (fun x => by have := x.2; omega)]
      clear h
      go_enter Try.func29, Try.ntmps29
      go_wp2
      refine bodyPost_ret (v := .agg #[.int .i64 0, .int .i64 0, .int .i64 0]) (by simp [results, Try.results29, go_sem]) rfl ⟨rfl, ((Ext.refl _ _).alloc _).alloc _⟩
    · rw [if_pos ⟨by omega, by omega⟩]
      obtain ⟨kn, rfl⟩ : ∃ kn : Nat, k = kn := ⟨k.toNat, by omega⟩
      obtain ⟨p, hp⟩ : ∃ p, s.ps[kn]? = some p := ⟨_, List.getElem?_eq_getElem (by omega)⟩
      obtain ⟨_, q1, q2, q3⟩ := h.path hp
      have e : (s.ps[((kn : Nat) : Int).toNat]?).getD zeroP = p := by simp [hp]
      rw [e]
      have h3 : (kn : Int) < s.ps.length := by omega
      clear h e hp
      go_enter Try.func29, Try.ntmps29
      go_wp2
      refine bodyPost_ret (v := .agg #[.int .i64 p.a, .int .i64 p.n, .int .i64 p.b]) (by simp [results, Try.results29, go_sem]) rfl ⟨rfl, ((Ext.refl _ _).alloc _).alloc _⟩
end Go.Proofs.Ytkkcdijnhegneaa
