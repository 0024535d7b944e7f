/- Contracts of package cut's laws' helpers, each proved for every value that its statement lets in (the conditions stand in the statements). -/
import Derived.Test.YteklmbbbhelkiaaA4
import Derived.BigRegion
import Derived.Deep.RegionHeld3
import Derived.Lib.SlBytesConst
namespace Go.Proofs.Yteklmbbbhelkiaa
open Go.RowKit

theorem pspec_get (xs : List Int) (mtu N k : Nat) (hk : k < N) : (pspec xs mtu N)[k]? = some ((xs.drop (k * mtu)).take mtu, decide (xs.length ≤ (k + 1) * mtu)) := by
  unfold pspec
  simp [hk]
theorem flat_get : ∀ (ps : List Pc) (k : Nat) (p : Pc), ps[k]? = some p → (ps.flatMap pcell)[k * 3]? = some (.slice p.1 p.2.2.1.length p.2.1) ∧ (ps.flatMap pcell)[k * 3 + 1]? = some (.bool p.2.2.2) ∧ (ps.flatMap pcell)[k * 3 + 2]? = some (.bool false)
  | [], k, p, h => by simp at h
  | q :: t, 0, p, h => by
    simp at h
    subst h
    simp [pcell]
  | q :: t, k + 1, p, h => by
    have := flat_get t k p (by simpa using h)
    simpa [pcell, Nat.succ_mul] using this
/-- The k-th piece. -/
theorem Cuts.at {base : Nat} {xs : List Int} {mtu N c : Nat} {A : Option Addr} {ps : List Pc} {W : World} (h : Cuts base xs mtu A N c ps W) (k : Nat) (hk : k < N) (hNb : N ≤ 100000) :
    ∃ g A1 c1, A = some ⟨g, 0, none⟩ ∧ W.cell? ⟨g, k * 3, none⟩ = some (.slice A1 ((xs.drop (k * mtu)).take mtu).length c1) ∧ W.cell? ⟨g, k * 3 + 1, none⟩ = some (.bool (decide (xs.length ≤ (k + 1) * mtu))) ∧ W.cell? ⟨g, k * 3 + 2, none⟩ = some (.bool false) ∧
      W.ownsRow base 5 1 (.slice A1 ((xs.drop (k * mtu)).take mtu).length c1) ((xs.drop (k * mtu)).take mtu).length (ints .u8 ((xs.drop (k * mtu)).take mtu)) := by
  obtain ⟨h1, h2, h3⟩ := h
  have h1k := congrArg (fun l => l[k]?) h1
  simp only [List.getElem?_map, pspec_get xs mtu N k hk] at h1k
  obtain ⟨p, hp, hpd⟩ := Option.map_eq_some_iff.1 h1k
  obtain ⟨f0, f1, f2⟩ := flat_get ps k p hp
  obtain ⟨g, cap, hv, _, _⟩ := h2.form (by omega)
  injection hv with hv1 hv2 hv3
  have hR := ownReadsN h2 (by omega)
  rw [hv1] at hR
  have hcell : ∀ (j : Nat) v, (ps.flatMap pcell)[j]? = some v → W.cell? ⟨g, j, none⟩ = some v := by
    intro j v hj
    obtain ⟨ad, e, hc⟩ := hR.2 (by have := (List.getElem?_eq_some_iff.1 hj).1; omega)
    injection e with e
    subst e
    have := hc j v hj
    rwa [addPlain] at this
  have hx1 : p.2.2.1 = (xs.drop (k * mtu)).take mtu := congrArg Prod.fst hpd
  have hx2 : p.2.2.2 = decide (xs.length ≤ (k + 1) * mtu) := congrArg Prod.snd hpd
  have hpk := h3 p (List.mem_of_getElem? hp)
  unfold PcOk at hpk
  rw [hx1] at f0 hpk
  rw [hx2] at f1
  exact ⟨g, p.1, p.2.1, hv1, hcell _ _ f0, hcell _ _ f1, hcell _ _ f2, hpk⟩
theorem Cuts.kept0 {base : Nat} {xs : List Int} {mtu N c : Nat} {A : Option Addr} {ps : List Pc} {W W' : World} (h : Cuts base xs mtu A N c ps W) (hE : Ext N0 W W') : Cuts base xs mtu A N c ps W' :=
  ⟨h.1, ownKept0 h.2.1 hE, fun p hp => ownKept0 (h.2.2 p hp) hE⟩
set_option maxRecDepth 100000 in
set_option maxHeartbeats 2000000 in
theorem sameAll_calls (xs : List Int) (mtu N b1 b2 c1 c2 : Nat) (A1 A2 : Option Addr) (ps qs : List Pc) (w : World) (hp : Cuts b1 xs mtu A1 N c1 ps w) (hq : Cuts b2 xs mtu A2 N c2 qs w) (hN : ∀ k, k < N → k * mtu < xs.length) (hm : 1 ≤ mtu) (hNb : N ≤ 100000) :
    Calls Try.prog 8 #[.slice A1 N c1, .slice A2 N c2] w fun e w' => e = .returned (.bool true) ∧ Ext N0 w w' := by
  have HP := Lib.hid hp
  have HQ := Lib.hid hq
  have HN := Lib.hid hN
  clear hp hq hN
  go_enter Try.func8, Try.ntmps8
  go_wp2
  go_loopw [5] (fun i wr => ∃ k : Nat, k ≤ N ∧ i = .int .i64 k ∧ Hid (Ext N0 w wr)) (fun i _ => N - (intOf i).toNat)
  case atStart => exact ⟨0, by omega, rfl, Lib.hid (Ext.refl _ _)⟩
  case round =>
    obtain ⟨k, hk, rfl, HE⟩ := hrel
    by_cases hlt : k < N
    · obtain ⟨g1, B1, d1, rfl, p0, p1, p2, po⟩ := (HP.out.kept0 HE.out).at k hlt hNb
      obtain ⟨g2, B2, d2, rfl, q0, q1, q2, qo⟩ := (HQ.out.kept0 HE.out).at k hlt hNb
      obtain ⟨ys, hys⟩ : ∃ ys, (xs.drop (k * mtu)).take mtu = ys := ⟨_, rfl⟩
      have hy0 : 0 < ys.length := by rw [← hys, List.length_take, List.length_drop]; have := HN.out k hlt; omega
      rw [hys] at p0 po q0 qo
      obtain ⟨b, hb⟩ : ∃ b, decide (xs.length ≤ (k + 1) * mtu) = b := ⟨_, rfl⟩
      rw [hb] at p1 q1
      have hlt' : (k : Int) < N := by omega
      have hs := Lib.hid (fun (W : World) (hW : Ext N0 wr W) => same_calls B1 B2 d1 d2 ys b b1 b2 W (ownKept0 po hW) (ownKept0 qo hW) hy0)
      clear hys hb po qo
      go_wp2_with fail
      go_region_with (go_at_call 14; go_loud (refine (hs.out _ (Ext.refl N0 wr).drew).mono ?_); rintro e w1 ⟨rfl, hE1⟩)
      all_goals
        have HX := Lib.hid (HE.out.then0 (((Ext.refl N0 wr).drew).then0 hE1))
        go_wp2
        go_roundw
        case rel => exact ⟨k + 1, by omega, by go_num, HX⟩
        case measure => simp [intOf]; omega
    · go_wp2
      go_ret
      exact ⟨rfl, HE.out⟩
theorem cut_cuts (A : Option Addr) (c : Nat) (xs : List Int) (mtu N : Nat) (w : World) (hr : Reads w A (ints .u8 xs)) (hc : xs.length ≤ c) (h : May xs.length mtu) (hN1 : xs.length ≤ N * mtu) (hN2 : ∀ k, k < N → k * mtu < xs.length) :
    Calls Try.prog 6 #[.slice A xs.length c, .int .i64 mtu] w fun e w' => ∃ (ps : List Pc) (A' : Option Addr) (c' : Nat), e = .returned (.tuple #[.slice A' N c', .int .i64 0]) ∧ Cuts w.heap.size xs mtu A' N c' ps w' ∧ Ext N0 w w' := by
  obtain ⟨⟨h1, h2⟩, h3, h4⟩ := h
  refine (cut_yes A c xs mtu w hr hc (by omega) (by omega) (by omega) (by omega)).mono ?_
  rintro e w' ⟨j, ps, A', c', rfl, e1, e2, e3, e4, e5, e6, e7⟩
  have hj : j = N := by
    rcases Nat.lt_trichotomy j N with h | h | h
    · have := hN2 j h; omega
    · exact h
    · have := e3 N h; omega
  subst hj
  exact ⟨ps, A', c', rfl, ⟨e4, e5, e6⟩, e7⟩
set_option maxRecDepth 100000 in
theorem awake_calls (w : World) : Calls Try.prog 11 #[] w fun e w' => e = .returned (.bool true) ∧ Ext N0 w w' := by
  have hcut := Lib.hid (fun (A : Option Addr) (c : Nat) (W : World) (hr : Reads W A (ints .u8 [97, 98, 99, 100, 101])) (hc : 5 ≤ c) => cut_cuts A c [97, 98, 99, 100, 101] 2 3 W hr hc (by decide) (by decide) (by decide))
  have hfd : ∀ w : World, (Instr.field 35 (.agg #[.slice none 0 0, .bool false, .bool true]) 2).run Try.prog w = .ok (.bool true) w := fun _ => by kernel_rfl
  have kc := fun (C : Array Value) (n c : Nat) => Lib.run_convert_bytes_const (P := Try.prog) w 22 5 C n c Try.underlying22 Try.underlying5
  go_enter Try.func11, Try.ntmps11
  go_wp2_with fail
  refine (hcut.out _ 5 _ (litReads w [.int .u8 97, .int .u8 98, .int .u8 99, .int .u8 100, .int .u8 101] 5 (by decide)) (by decide)).mono ?_
  rintro e w1 ⟨ps, A, c, rfl, hC, hE⟩
  clear hcut
  go_wp2_with fail
  refine (cut_no none 0 0 2 w1 (by decide)).mono ?_
  rintro e w2 ⟨rfl, rfl⟩
  obtain ⟨g, B, d, rfl, p0, p1, p2, po⟩ := hC.at 2 (by decide) (by decide)
  obtain ⟨g', B', d', hg, q0, q1, q2, qo⟩ := hC.at 1 (by decide) (by decide)
  injection hg with hg
  injection hg with hg
  subst hg
  have p0' : w2.cell? ⟨g, 6, none⟩ = some (.slice B 1 d) := p0
  have p1' : w2.cell? ⟨g, 7, none⟩ = some (.bool true) := p1
  have q1' : w2.cell? ⟨g, 4, none⟩ = some (.bool false) := q1
  have ks : (convert 22 9 (.slice B 1 d)).run Try.prog w2 = .ok (.string (strOfNums [101])) w2 := ownStr po (by decide)
  have he : strOfNums [101] = ⟨#[101]⟩ := by decide
  rw [he] at ks
  have hct : cnt 5 2 = 3 := by decide
  have hq := count_calls 5 2 w2
  rw [hct] at hq
  have HQ := Lib.hid hq
  clear p0 p1 p2 po q0 q1 q2 qo hC he hct hq
  go_wp2_with (first | (go_at_call 9; refine HQ.out.mono ?_; rintro e w3 ⟨rfl, rfl⟩) | (go_at_call 15; refine (fin_calls _).mono ?_; rintro e w4 ⟨rfl, hE4⟩))
  go_ret
  exact ⟨rfl, (((Ext.refl N0 w).alloc _).then0 hE).then0 hE4⟩
end Go.Proofs.Yteklmbbbhelkiaa
