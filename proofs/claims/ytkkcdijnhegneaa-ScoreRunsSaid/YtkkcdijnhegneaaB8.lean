/- Contracts of functions of package score: Counts, Clear, Fork, and of the document's New, each proved for every value that its statement lets in (the conditions stand in the statements). -/
import Derived.Test.YtkkcdijnhegneaaB7
namespace Go.Proofs.Ytkkcdijnhegneaa
open Go.RowKit
theorem counts_calls (base g : Nat) (s : Sc) (k : Int) (w : World) (h : IsSc base w g s) (hl : 1 ≤ s.ps.length ∧ s.ps.length ≤ 8) : Calls Try.prog 27 #[.pointer (some ⟨g, 0, none⟩), .int .i64 k] w fun e w' => e = .returned (cntV (s.cnt k)) ∧ Ext N0 w w' := by
  have hE0 : Ext N0 w (w.alloc (.cells #[.int .i64 0, .int .i64 0, .int .i64 0] 54)) := (Ext.refl _ _).alloc _
  have HH := has_calls base g s k _ (h.kept0 hE0) hl.1
  obtain ⟨gp, c, hS⟩ := h
  have c0 := (blkCell hS.blk 0).trans rfl
  simp at c0
  have hgl := blkLt hS.blk
  have hpl : gp < w.heap.size := by obtain ⟨cs, fr, he⟩ := hS.pblk; exact blkLt he
  unfold Sc.cnt cntV
  by_cases hk : s.has k
  · rw [decide_eq_true hk] at HH
    rw [if_pos hk]
    have HH2 := Lib.hid HH
    obtain ⟨k0, k1⟩ := hk
    obtain ⟨kn, rfl⟩ : ∃ kn : Nat, k = kn := ⟨k.toNat, by omega⟩
    obtain ⟨p, hp⟩ : ∃ p, s.ps[kn]? = some p := ⟨_, List.getElem?_eq_getElem (by omega)⟩
    obtain ⟨q0, q1, q2, _⟩ := hS.path hp
    have e : (s.ps[((kn : Nat) : Int).toNat]?).getD zeroP = p := by simp [hp]
    rw [e]
    have HE := Lib.hid hE0
    clear hS HH hp e hE0
    go_enter Try.func27, Try.ntmps27
    go_wp2_with (go_at_call 30; refine HH2.out.mono ?_; rintro e w' ⟨rfl, hw⟩; subst hw)
    refine bodyPost_ret (v := .agg #[.int .i64 p.a, .int .i64 p.n, .int .i64 p.b]) (by simp [results, Try.results27, go_sem]) rfl ⟨rfl, (Ext.refl _ _).alloc _⟩
  · rw [decide_eq_false hk] at HH
    rw [if_neg hk]
    have HH2 := Lib.hid HH
    clear hS HH hk hE0
    go_enter Try.func27, Try.ntmps27
    go_wp2_with (go_at_call 30; refine HH2.out.mono ?_; rintro e w' ⟨rfl, hw⟩; subst hw)
    refine bodyPost_ret (v := .agg #[.int .i64 0, .int .i64 0, .int .i64 0]) (by simp [results, Try.results27, go_sem]) rfl ⟨rfl, (Ext.refl _ _).alloc _⟩
/-! Clear. -/
def Pa.clear (p : Pa) : Pa := ⟨0, 0, 0, p.r⟩
def clearP (ps : List Pa) (i : Nat) : List Pa := (ps.take i).map Pa.clear ++ ps.drop i
theorem clearP_len (ps : List Pa) (i : Nat) : (clearP ps i).length = ps.length := by simp [clearP]; omega
theorem clearP_get {ps : List Pa} {i : Nat} (hi : i < ps.length) : (clearP ps i)[i]? = ps[i]? := by
  unfold clearP
  rw [List.getElem?_append_right (by simp; omega)]
  simp
  congr 1
  omega
theorem clearP_set {ps : List Pa} {i : Nat} {p : Pa} (hp : ps[i]? = some p) : (clearP ps i).set i p.clear = clearP ps (i + 1) := by
  obtain ⟨hi, hp'⟩ := List.getElem?_eq_some_iff.1 hp
  unfold clearP
  rw [List.set_append_right _ _ (by simp; omega), List.take_add_one, hp, List.drop_eq_getElem_cons hi, hp']
  simp [show i - min i ps.length = 0 by omega]
def Sc.clear (s : Sc) : Sc := ⟨s.ps.map Pa.clear, s.rest⟩
theorem Sc.Ok.clear {s : Sc} {u : Int} (h : s.Ok u) (hu : 0 ≤ u) : s.clear.Ok u :=
  ⟨by simpa [Sc.clear] using h.len, h.rest, fun q hq => by
    obtain ⟨p, hp, rfl⟩ := List.mem_map.1 hq
    have := h.num p hp
    exact ⟨⟨Int.le_refl _, hu⟩, ⟨Int.le_refl _, hu⟩, ⟨Int.le_refl _, hu⟩, this.2.2.2⟩⟩
theorem IsSo.clr {base g gp c : Nat} {w : World} {s : Sc} (h : IsSo base w g s gp c) {k : Nat} {p : Pa} (hp : s.ps[k]? = some p) :
    IsSo base (((w.setCell ⟨gp, k * 4, none⟩ (.int .i64 0)).setCell ⟨gp, k * 4 + 1, none⟩ (.int .i64 0)).setCell ⟨gp, k * 4 + 2, none⟩ (.int .i64 0)) g (s.setP k p.clear) gp c ∧
      Ext (At gp) w (((w.setCell ⟨gp, k * 4, none⟩ (.int .i64 0)).setCell ⟨gp, k * 4 + 1, none⟩ (.int .i64 0)).setCell ⟨gp, k * 4 + 2, none⟩ (.int .i64 0)) := by
  have hk := (List.getElem?_eq_some_iff.1 hp).1
  have s0 := h.set hp 0 (by decide) (.int .i64 0) { p with a := 0 } rfl
  have p0 : (s.ps.set k { p with a := 0 })[k]? = some { p with a := 0 } := by simp [hk]
  have s1 := s0.1.set p0 1 (by decide) (.int .i64 0) { p with a := 0, n := 0 } rfl
  have p1 : ((s.ps.set k { p with a := 0 }).set k { p with a := 0, n := 0 })[k]? = some { p with a := 0, n := 0 } := by simp [hk]
  have s2 := s1.1.set p1 2 (by decide) (.int .i64 0) p.clear rfl
  refine ⟨?_, (s0.2.same s1.2).same s2.2⟩
  have := s2.1
  simpa [Sc.setP] using this
set_option maxRecDepth 100000 in
set_option maxHeartbeats 1000000 in
theorem clear_calls (base g : Nat) (s : Sc) (u : Int) (w : World) (h : IsSc base w g s) (hok : s.Ok u) :
    Calls Try.prog 16 #[.pointer (some ⟨g, 0, none⟩)] w fun e w' => e = .returned (.tuple #[]) ∧ IsSc base w' g s.clear ∧ Ext (Tp base w) w w' := by
  have HN := Lib.hid (none_calls base g s w h hok.len.1)
  obtain ⟨gp, c, hS⟩ := h
  have hlen := hok.len
  have c0 := (blkCell hS.blk 0).trans rfl
  simp at c0
  have HS := Lib.hid hS
  clear hS hok
  go_enter Try.func16, Try.ntmps16
  go_wp2_with (go_at_call 22; refine HN.out.mono ?_; rintro e w' ⟨rfl, rfl⟩)
  go_loopw [10] (fun v wr => ∃ (i : Nat), v = .int .i64 i ∧ i ≤ s.ps.length ∧ Hid (IsSo base wr g ⟨clearP s.ps i, s.rest⟩ gp c) ∧ Hid (Ext (Tp base w) w wr))
    (fun v _ => s.ps.length - (intOf v).toNat)
  case atStart => exact ⟨0, rfl, by omega, Lib.hid (by simpa [clearP] using HS.out), Lib.hid (Ext.refl _ _)⟩
  case round =>
    clear HS HN c0
    obtain ⟨i, rfl, hi, HS, HE⟩ := hrel
    by_cases hlt : i < s.ps.length
    · have hlt' : (i : Int) < s.ps.length := by omega
      obtain ⟨p, hp⟩ : ∃ p, s.ps[i]? = some p := ⟨_, List.getElem?_eq_getElem hlt⟩
      have hp' : (clearP s.ps i)[i]? = some p := (clearP_get hlt).trans hp
      have hc := (blkCell HS.out.blk 0).trans rfl
      simp [clearP_len] at hc
      obtain ⟨q0, q1, q2, _⟩ := HS.out.path hp'
      have f0 := HS.out.frozen (i * 4)
      have f1 := HS.out.frozen (i * 4 + 1)
      have f2 := HS.out.frozen (i * 4 + 2)
      obtain ⟨o1, o2⟩ := HS.out.clr hp'
      have e2 := clearP_set hp
      have hS2 : IsSo base (((wr.setCell ⟨gp, i * 4, none⟩ (.int .i64 0)).setCell ⟨gp, i * 4 + 1, none⟩ (.int .i64 0)).setCell ⟨gp, i * 4 + 2, none⟩ (.int .i64 0)) g ⟨clearP s.ps (i + 1), s.rest⟩ gp c := by rw [← e2]; exact o1
      have HE2 := Lib.hid (tpTrans HE.out (o2.tp (by rintro i _ rfl; exact HS.out.tp)))
      have HS2 := Lib.hid hS2
      clear hp hp' o1 o2 e2 hS2
      go_wp2
      go_roundw
      case rel => exact ⟨i + 1, by go_num, by omega, HS2, HE2⟩
      case measure => simp only [intOf]; omega
    · have hlt' : ¬ (i : Int) < s.ps.length := by omega
      obtain rfl : i = s.ps.length := by omega
      go_wp2
      go_end0
      refine ⟨rfl, ⟨gp, c, ?_⟩, HE.out⟩
      have := HS.out
      simpa [clearP, Sc.clear] using this
/-! Fork. -/
theorem pa_one (ps : List Pa) : ∀ u ∈ paCells ps, u.oneCell' = true := by
  intro u hu
  unfold paCells at hu
  rw [List.mem_flatMap] at hu
  obtain ⟨p, _, hu⟩ := hu
  simp [pCells] at hu
  rcases hu with rfl | rfl | rfl | rfl <;> simp [Value.oneCell']
theorem eqlSliceNil {P : Program} (w : World) {t e : TypeId} (a : Addr) (n c : Nat) (ht : P.underlying t = some (.slice e)) : (binOp .eql t (.slice (some a) n c) (.slice none 0 0)).run P w = .ok (.bool false) w := by
  have h : ∀ d : Nat, (Op.equalIn (d + 1) t (.slice (some a) n c) (.slice none 0 0)).run P w = .ok false w := fun d => by
    simp [Op.equalIn, run_underlying ht]
  simp only [binOp]
  simp [Op.equal, Op.maxDepth, h 9999]
set_option maxRecDepth 100000 in
theorem clone_calls (base gp c : Nat) (ps : List Pa) (w : World) (h : w.ownsRow base 56 4 (.slice (some ⟨gp, 0, none⟩) ps.length c) ps.length (paCells ps)) (hl : 1 ≤ ps.length ∧ ps.length ≤ 8) :
    Calls Try.prog 25 #[.slice (some ⟨gp, 0, none⟩) ps.length c] w fun e w' => ∃ gn cn, e = .returned (.slice (some ⟨gn, 0, none⟩) ps.length cn) ∧ w'.ownsRow w.heap.size 56 4 (.slice (some ⟨gn, 0, none⟩) ps.length cn) ps.length (paCells ps) ∧ Ext N0 w w' := by
  have hrd := ownReadsN (ownKept0 h ((Ext.refl N0 w).alloc (.cells #[] 56))) (by omega)
  have HRD := Lib.hid hrd
  have hpl := paCells_len ps
  clear hrd h
  have qs := eqlSliceNil (P := Try.prog) w ⟨gp, 0, none⟩ ps.length c Try.underlying48
  go_enter Try.func25, Try.ntmps25
  go_wp2_with (at_builtin; refine wpApp w.heap.size (.tmp 5) (.tmp 6) 48 56 (.agg #[.int .i64 0, .int .i64 0, .int .i64 0, .int .i64 0]) 4 32 rfl rfl Try.underlying48 info56 rfl (by decide) (by decide) (.slice (some ⟨w.heap.size, 0, none⟩) 0 0) 0 [] _ ps.length _ (paCells ps) rfl rfl (ownLit w w.heap.size 56 4 #[] 0 (Nat.le_refl _) (by omega) rfl) hpl HRD.out (pa_one _) (by omega) (by simp) ?_; intro An cn w2 ho2 hE2 _; have HO2 := Lib.hid ho2; have HE2 := Lib.hid hE2; clear ho2 hE2)
  have ho2 := HO2.out
  simp only [Nat.zero_add, List.nil_append] at ho2
  obtain ⟨gn, cap, hvv, hgb, hgl⟩ := ho2.form (by omega)
  injection hvv with hv1 hv2 hv3
  subst hv1
  clear hv2 hv3 cap
  go_ret
  refine ⟨gn, cn, by simp, ho2, ((Ext.refl _ _).alloc _).trans HE2.out (fun x hx => .inr (by have := own_is hx; omega))⟩
set_option maxRecDepth 100000 in
theorem fork_calls (base g : Nat) (s : Sc) (u : Int) (w : World) (h : IsSc base w g s) (hok : s.Ok u) :
    Calls Try.prog 18 #[.pointer (some ⟨g, 0, none⟩)] w fun e w' => ∃ g', e = .returned (.pointer (some ⟨g', 0, none⟩)) ∧ IsSc w.heap.size w' g' s ∧ Ext N0 w w' := by
  have HN := Lib.hid (none_calls base g s w h hok.len.1)
  obtain ⟨gp, c, hS⟩ := h
  have c0 := (blkCell hS.blk 0).trans rfl
  simp at c0
  have hSd := hS.kept0 (Ext.refl N0 w).drew
  have d0 := (blkCell hSd.blk 0).trans rfl
  have d1 := (blkCell hSd.blk 1).trans rfl
  simp at d0 d1
  have HC := Lib.hid (clone_calls base gp c s.ps w.drew hSd.own hok.len)
  clear hS hSd hok
  go_enter Try.func18, Try.ntmps18
  go_wp2_with (go_at_call 22; refine HN.out.mono ?_; rintro e w' ⟨rfl, rfl⟩)
  go_region_held3 (fun w' => w'.cell? ⟨g, 0, none⟩ = some (.slice (some ⟨gp, 0, none⟩) s.ps.length c) ∧ w'.cell? ⟨g, 1, none⟩ = some (.int .i64 s.rest)) (first | go_keep | (refine ⟨?_, ?_⟩ <;> exact hE2.cell (by simp_all) (fun x => x)) | exact ⟨hE3.cell (hE2.cell d0 (fun x => x)) (fun x => x), hE3.cell (hE2.cell d1 (fun x => x)) (fun x => x)⟩) (first | (go_at_call 25; refine HC.out.mono ?_; rintro e w2 ⟨gn, cn, rfl, ho, hE2⟩; have hE3 : Ext N0 w2 (w2.alloc (.cells #[.slice (some ⟨gn, 0, none⟩) s.ps.length cn, .int .i64 s.rest] 50)) := (Ext.refl _ _).alloc _))
  all_goals
    go_wp2
    go_ret
    have hX : Ext N0 w w2 := ((Ext.refl N0 w).drew).then0 hE2
    exact ⟨w2.heap.size, rfl, ⟨gn, cn, ⟨hX.size, (ownBase ho gn rfl).1, blkNew _ _, ownKept0 ho hE3⟩⟩, hX.then0 hE3⟩
/-! The document's New. -/
theorem rmade_eq (n : Nat) : madeCells #[.int .i64 0, .int .i64 0, .int .i64 0, .int .i64 0] (n * 4) = (rcCells (List.replicate n zeroP)).toArray := by
  have hall : ∀ v, v ∈ rcCells (List.replicate n zeroP) → v = .int .i64 0 := by
    intro v hv
    unfold rcCells at hv
    rw [List.mem_flatMap] at hv
    obtain ⟨q, hq, hv⟩ := hv
    have := List.eq_of_mem_replicate hq
    subst this
    simpa [rCells, zeroP] using hv
  apply Array.ext
  · rw [size_madeCells, List.size_toArray, rcCells_len, List.length_replicate]
  · intro i h1 h2
    have e : (rcCells (List.replicate n zeroP)).toArray[i] = .int .i64 0 := hall _ (by simp)
    rw [e]
    have h4 : i % 4 = 0 ∨ i % 4 = 1 ∨ i % 4 = 2 ∨ i % 4 = 3 := by omega
    rcases h4 with h | h | h | h <;> simp [madeCells, h]
theorem rmake_run (n : Nat) (hn : n ≤ 8) (W : World) : (Instr.makeSlice 35 (.int .i64 n) (.int .i64 n)).run Try.prog W = .ok (.slice (some ⟨W.heap.size, 0, none⟩) n n) (W.alloc (.cells (rcCells (List.replicate n zeroP)).toArray 61)) := by
  obtain ⟨i, hi, hz⟩ := Option.map_eq_some_iff.1 info61
  simp only [Prod.mk.injEq] at hz
  obtain ⟨h1, h2, h3⟩ := hz
  have := run_make W 35 61 i _ Try.underlying35 hi h1 .i64 .i64 n n (by omega) (by omega) (by rw [h3]; omega) (by omega)
  rw [this, h2]
  rw [← rmade_eq n]
  rfl
set_option maxRecDepth 100000 in
theorem rnew_good (n : Nat) (rest : Int) (w : World) (hn : 1 ≤ n ∧ n ≤ 8) (hr : 0 ≤ rest ∧ rest ≤ 1048576) : Calls Try.prog 12 #[.int .i64 n, .int .i64 rest] w (GivesR (new0 n rest) 0 w) := by
  have hmk := rmake_run n hn.2 (w.alloc (.cells #[.int .i64 0, .slice none 0 0] 37))
  have h1 : ¬ (n : Int) < 1 := by omega
  have h2 : ¬ 8 < (n : Int) := by omega
  have h3 : ¬ rest < 0 := by omega
  have h4 : ¬ 1048576 < rest := by omega
  have ho := ownLit (w.alloc (.cells #[.int .i64 rest, .slice (some ⟨w.heap.size + 1, 0, none⟩) n n] 37)) w.heap.size 61 4 (rcCells (List.replicate n zeroP)).toArray n (by simp) (by omega) (by simp [rcCells_len])
  have HO := Lib.hid ho
  obtain ⟨X, hX⟩ : ∃ X, (rcCells (List.replicate n zeroP)).toArray = X := ⟨_, rfl⟩
  rw [hX] at hmk
  have HX := Lib.hid hX
  clear ho hX
  unfold GivesR
  go_enter Try.func12, Try.ntmps12
  go_wp2
  have hw : ((w.alloc (.cells #[.int .i64 rest, .slice (some ⟨w.heap.size + 1, 0, none⟩) n n] 37)).heap.size) = w.heap.size + 1 := by simp
  refine bodyPost_ret (v := .tuple #[.agg #[.int .i64 rest, .slice (some ⟨w.heap.size + 1, 0, none⟩) n n], .int .i64 0]) (by simp [results, Try.results12, go_sem]) rfl ⟨w.heap.size + 1, n, by simp [new0], ?_, ((Ext.refl _ _).alloc _).alloc _⟩
  have h5 := HO.out
  rw [HX.out, hw] at h5
  unfold RR
  rw [← HX.out] at h5 ⊢
  simpa [new0] using h5
theorem rnew_bad (n rest : Int) (w : World) (hb : ¬ ((1 ≤ n ∧ n ≤ 8) ∧ 0 ≤ rest ∧ rest ≤ 1048576)) : Calls Try.prog 12 #[.int .i64 n, .int .i64 rest] w fun e w' => e = .returned (.tuple #[.agg #[.int .i64 0, .slice none 0 0], .int .i64 70]) ∧ Ext N0 w w' := by
  have hs : n < 1 ∨ (¬ n < 1 ∧ 8 < n) ∨ (¬ n < 1 ∧ ¬ 8 < n ∧ rest < 0) ∨ (¬ n < 1 ∧ ¬ 8 < n ∧ ¬ rest < 0 ∧ 1048576 < rest) := by omega
  clear hb
  rcases hs with h1 | ⟨h1, h2⟩ | ⟨h1, h2, h3⟩ | ⟨h1, h2, h3, h4⟩
  all_goals
    go_enter Try.func12, Try.ntmps12
    go_wp2
    refine bodyPost_ret (v := .tuple #[.agg #[.int .i64 0, .slice none 0 0], .int .i64 70]) (by simp [results, Try.results12, go_sem]) rfl ⟨rfl, (Ext.refl _ _).alloc _⟩
end Go.Proofs.Ytkkcdijnhegneaa
