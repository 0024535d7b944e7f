/- 'Count' of the document's answer for package score, proved for every value that its statement lets in (the conditions stand in the statements). -/
import Derived.Test.YtkkcdijnhegneaaB5
namespace Go.Proofs.Ytkkcdijnhegneaa
open Go.RowKit
theorem info61 : (Try.prog.info? 61).map (fun i => (i.zero, i.size, i.bytes)) = some (some (.agg #[.int .i64 0, .int .i64 0, .int .i64 0, .int .i64 0]), 4, 32) := by kernel_rfl
theorem rc_one (ps : List Pa) : ∀ u ∈ rcCells ps, u.oneCell' = true := by
  intro u hu
  unfold rcCells at hu
  rw [List.mem_flatMap] at hu
  obtain ⟨p, _, hu⟩ := hu
  simp [rCells] at hu
  rcases hu with rfl | rfl | rfl | rfl <;> simp [Value.oneCell']
theorem RR.set {base : Nat} {w : World} {gr c : Nat} {s : Sc} (h : RR base w gr c s) {k : Nat} {p : Pa} (hp : s.ps[k]? = some p) (j : Nat) (hj : j < 4) (v : Value) (p' : Pa) (hv : (rCells p).set j v = rCells p') :
    RR base (w.setCell ⟨gr, k * 4 + j, none⟩ v) gr c (s.setP k p') ∧ Ext (At gr) w (w.setCell ⟨gr, k * 4 + j, none⟩ v) := by
  refine ⟨?_, ?_⟩
  · have := (World.ownsRow.stored h (k * 4 + j) v).1
    rw [rc_set v j hj p' s.ps k p hp hv] at this
    unfold RR
    simpa [Sc.setP] using this
  · refine (Ext.refl (At gr) w).setCell (.inl ?_) _
    rfl
theorem RR.put {base gr c : Nat} {w : World} {s : Sc} (h : RR base w gr c s) {k : Nat} {p : Pa} (hp : s.ps[k]? = some p) (q : Pa) :
    RR base ((((w.setCell ⟨gr, k * 4, none⟩ (.int .i64 q.r)).setCell ⟨gr, k * 4 + 1, none⟩ (.int .i64 q.a)).setCell ⟨gr, k * 4 + 2, none⟩ (.int .i64 q.n)).setCell ⟨gr, k * 4 + 3, none⟩ (.int .i64 q.b)) gr c (s.setP k q) ∧
      Ext (At gr) w ((((w.setCell ⟨gr, k * 4, none⟩ (.int .i64 q.r)).setCell ⟨gr, k * 4 + 1, none⟩ (.int .i64 q.a)).setCell ⟨gr, k * 4 + 2, none⟩ (.int .i64 q.n)).setCell ⟨gr, k * 4 + 3, none⟩ (.int .i64 q.b)) := by
  have hk := (List.getElem?_eq_some_iff.1 hp).1
  have s0 := h.set hp 0 (by decide) (.int .i64 q.r) { p with r := q.r } rfl
  have p0 : (s.setP k { p with r := q.r }).ps[k]? = some { p with r := q.r } := by simp [Sc.setP, hk]
  have s1 := s0.1.set p0 1 (by decide) (.int .i64 q.a) { p with r := q.r, a := q.a } rfl
  have p1 : ((s.setP k { p with r := q.r }).setP k { p with r := q.r, a := q.a }).ps[k]? = some { p with r := q.r, a := q.a } := by simp [Sc.setP, hk]
  have s2 := s1.1.set p1 2 (by decide) (.int .i64 q.n) { p with r := q.r, a := q.a, n := q.n } rfl
  have p2 : (((s.setP k { p with r := q.r }).setP k { p with r := q.r, a := q.a }).setP k { p with r := q.r, a := q.a, n := q.n }).ps[k]? = some { p with r := q.r, a := q.a, n := q.n } := by simp [Sc.setP, hk]
  have s3 := s2.1.set p2 3 (by decide) (.int .i64 q.b) q rfl
  refine ⟨?_, ((s0.2.same s1.2).same s2.2).same s3.2⟩
  have := s3.1
  simpa [Sc.setP] using this
/-- The document's score, handed back. -/
def GivesR (s : Sc) (er : Int) (w : World) (e : Ending) (w' : World) : Prop := ∃ gr c, e = .returned (.tuple #[.agg #[.int .i64 s.rest, .slice (some ⟨gr, 0, none⟩) s.ps.length c], .int .i64 er]) ∧ RR w.heap.size w' gr c s ∧ Ext N0 w w'
theorem set2 {w : World} {g : Nat} {t : TypeId} {a b x y : Value} (h : w.heap[g]? = some (.cells #[a, b] t (0, 0))) : ((w.setCell ⟨g, 0, none⟩ x).setCell ⟨g, 1, none⟩ y).heap[g]? = some (.cells #[x, y] t (0, 0)) ∧ Ext (At g) w ((w.setCell ⟨g, 0, none⟩ x).setCell ⟨g, 1, none⟩ y) := by
  refine ⟨(blkSet (blkSet h 0 x) 1 y).trans (by simp), ?_⟩
  have h0 : Ext (At g) w (w.setCell ⟨g, 0, none⟩ x) := by
    refine (Ext.refl (At g) w).setCell (.inl ?_) _
    rfl
  refine h0.setCell (.inl ?_) _
  rfl
/-- What stands behind the copy of the row and the count: the box of the score, that of the result, the row. -/
structure Mid (w w4 : World) (gn cn : Nat) (s s1 : Sc) : Prop where
  row : RR w.heap.size w4 gn cn s1
  box : w4.heap[w.heap.size]? = some (.cells #[.int .i64 s.rest, .slice (some ⟨gn, 0, none⟩) s.ps.length cn] 37 (0, 0))
  res : w4.heap[w.heap.size + 1]? = some (.cells #[.int .i64 0, .slice none 0 0] 37 (0, 0))
  ext : Ext N0 w w4
theorem Mid.kept0 {w w4 w5 : World} {gn cn : Nat} {s s1 : Sc} (h : Mid w w4 gn cn s s1) (hE : Ext N0 w4 w5) : Mid w w5 gn cn s s1 := ⟨h.row.kept0 hE, hE.blk0 h.box, hE.blk0 h.res, h.ext.then0 hE⟩
/-- The end: the score is laid into the result. -/
theorem Mid.done {w w4 : World} {gn cn : Nat} {s s1 : Sc} (h : Mid w w4 gn cn s s1) (hl : s1.ps.length = s.ps.length) (hr : s1.rest = s.rest) :
    ((w4.setCell ⟨w.heap.size + 1, 0, none⟩ (.int .i64 s.rest)).setCell ⟨w.heap.size + 1, 1, none⟩ (.slice (some ⟨gn, 0, none⟩) s.ps.length cn)).cell? ⟨w.heap.size + 1, 0, none⟩ = some (.int .i64 s.rest) ∧
    ((w4.setCell ⟨w.heap.size + 1, 0, none⟩ (.int .i64 s.rest)).setCell ⟨w.heap.size + 1, 1, none⟩ (.slice (some ⟨gn, 0, none⟩) s.ps.length cn)).cell? ⟨w.heap.size + 1, 1, none⟩ = some (.slice (some ⟨gn, 0, none⟩) s.ps.length cn) ∧
    RR w.heap.size ((w4.setCell ⟨w.heap.size + 1, 0, none⟩ (.int .i64 s.rest)).setCell ⟨w.heap.size + 1, 1, none⟩ (.slice (some ⟨gn, 0, none⟩) s.ps.length cn)) gn cn s1 ∧
    Ext N0 w ((w4.setCell ⟨w.heap.size + 1, 0, none⟩ (.int .i64 s.rest)).setCell ⟨w.heap.size + 1, 1, none⟩ (.slice (some ⟨gn, 0, none⟩) s.ps.length cn)) := by
  obtain ⟨h1, h2⟩ := set2 (x := .int .i64 s.rest) (y := .slice (some ⟨gn, 0, none⟩) s.ps.length cn) h.res
  have k0 := (blkCell h1 0).trans rfl
  have k1 := (blkCell h1 1).trans rfl
  simp at k0 k1
  refine ⟨k0, k1, h.row.kept h2 (fun hs => ownNeBlk h.row h.res (by decide) gn rfl hs), h.ext.trans h2 (fun x hx => .inr (by have hx : x = w.heap.size + 1 := hx; omega))⟩
theorem Mid.put {w w4 : World} {gn cn : Nat} {s s1 : Sc} (h : Mid w w4 gn cn s s1) {k : Nat} {p : Pa} (hp : s1.ps[k]? = some p) (q : Pa) :
    Mid w ((((w4.setCell ⟨gn, k * 4, none⟩ (.int .i64 q.r)).setCell ⟨gn, k * 4 + 1, none⟩ (.int .i64 q.a)).setCell ⟨gn, k * 4 + 2, none⟩ (.int .i64 q.n)).setCell ⟨gn, k * 4 + 3, none⟩ (.int .i64 q.b)) gn cn s (s1.setP k q) := by
  obtain ⟨h1, h2⟩ := h.row.put hp q
  have hb := (ownBase h.row gn rfl).1
  exact ⟨h1, h2.blk h.box (fun hs => ownNeBlk h.row h.box (by decide) gn rfl hs.symm), h2.blk h.res (fun hs => ownNeBlk h.row h.res (by decide) gn rfl hs.symm), h.ext.trans h2 (fun x hx => .inr (by have hx : x = gn := hx; omega))⟩
theorem own_is {a c n k : Nat} (h : (Value.slice (some ⟨a, 0, none⟩) n c).ownBlock = some k) : k = a := by
  have : a = k := by simpa [Value.ownBlock] using h
  exact this.symm
theorem not_own2 (a n c : Nat) : ¬ (Value.slice (some ⟨a + 1 + 1, 0, none⟩) n c).ownBlock = some a := fun h => by have := own_is h; omega
theorem not_own1 (a n c : Nat) : ¬ (Value.slice (some ⟨a + 1 + 1, 0, none⟩) n c).ownBlock = some (a + 1) := fun h => by have := own_is h; omega
set_option maxRecDepth 100000 in
set_option maxHeartbeats 1000000 in
theorem rcount_calls1 (base gr c : Nat) (s : Sc) (u : Int) (k : Nat) (p : Pa) (w : World) (h : RR base w gr c s) (hok : s.Ok u) (hu : u ≤ 900000) (hp : s.ps[k]? = some p) :
    Calls Try.prog 13 #[.agg #[.int .i64 s.rest, .slice (some ⟨gr, 0, none⟩) s.ps.length c], .int .i64 k, .int .i64 1] w (GivesR (s.count k 1 p) 0 w) := by
  have hk := (List.getElem?_eq_some_iff.1 hp).1
  have hkI : ¬ (s.ps.length : Int) ≤ k := by omega
  have hkI2 : (k : Int) < s.ps.length := by omega
  have hk0 : ¬ (k : Int) < 0 := by omega
  have hlen := hok.len
  obtain ⟨⟨a0, a1⟩, ⟨n0, n1⟩, ⟨b0, b1⟩, r0, r1⟩ := hok.num p (List.mem_of_getElem? hp)
  have hok1 := Sc.Ok.inc hok hp 1
  have hp1 : (s.setP k (p.inc 1)).ps[k]? = some (p.inc 1) := by simp [Sc.setP, hk]
  have hcl := count_len s k 1 p
  have hcr := count_rest s k 1 p
  obtain ⟨x, hx⟩ : ∃ x, p.n = x := ⟨_, rfl⟩
  have hE0 : Ext N0 w (((w.alloc (.cells #[.int .i64 s.rest, .slice (some ⟨gr, 0, none⟩) s.ps.length c] 37)).alloc (.cells #[.int .i64 0, .slice none 0 0] 37)).alloc (.cells #[] 61)) := (((Ext.refl _ _).alloc _).alloc _).alloc _
  have hrd := ownReadsN (h.kept0 hE0) (by omega)
  have HRD := Lib.hid hrd
  have HE0 := Lib.hid hE0
  have hrl := rcCells_len s.ps
  have HOK1 := Lib.hid hok1
  have HP1 := Lib.hid hp1
  have HP := Lib.hid hp
  have HCL := Lib.hid (And.intro hcl hcr)
  have hxa := n0
  have hxb := n1
  rw [hx] at hxa hxb
  have HX := Lib.hid hx
  clear h hrd hE0 hok hok1 hp hp1 hcl hcr hx
  unfold GivesR
  go_enter Try.func13, Try.ntmps13
  go_wp2_with (at_builtin; refine wpApp w.heap.size (.tmp 20) (.tmp 22) 35 61 (.agg #[.int .i64 0, .int .i64 0, .int .i64 0, .int .i64 0]) 4 32 rfl rfl Try.underlying35 info61 rfl (by decide) (by decide) (.slice (some ⟨w.heap.size + 1 + 1, 0, none⟩) 0 0) 0 [] _ s.ps.length _ (rcCells s.ps) rfl rfl (ownLitG ((w.alloc (.cells #[.int .i64 s.rest, .slice (some ⟨gr, 0, none⟩) s.ps.length c] 37)).alloc (.cells #[.int .i64 0, .slice none 0 0] 37)) w.heap.size 61 4 #[] 0 (by simp) (by omega) (by decide) rfl) hrl HRD.out (rc_one _) (by omega) (by simp; omega) ?_; intro An cn w2 ho2 hE2 _; have hb2 := hE2.blk (blkAlloc (blkAlloc (blkNew w (.cells #[.int .i64 s.rest, .slice (some ⟨gr, 0, none⟩) s.ps.length c] 37)) (.cells #[.int .i64 0, .slice none 0 0] 37)) (.cells #[] 61)) (not_own2 w.heap.size 0 0); have e1 := (blkCell hb2 1).trans rfl; have f1 := blkFrozen hb2 1; simp at e1; have HO2 := Lib.hid ho2; have HE2 := Lib.hid hE2; have HB2 := Lib.hid hb2; clear ho2 hE2 hb2)
  have ho2 := HO2.out
  simp only [Nat.zero_add, List.nil_append] at ho2
  obtain ⟨gn, cap, hvv, hgb, hgl⟩ := ho2.form (by omega)
  injection hvv with hv1 hv2 hv3
  subst hv1
  clear hv2 hv3 cap
  have hc2 := HE2.out.blk (blkAlloc (blkNewG (w.alloc (.cells #[.int .i64 s.rest, .slice (some ⟨gr, 0, none⟩) s.ps.length c] 37)) (.cells #[.int .i64 0, .slice none 0 0] 37) (g := w.heap.size + 1) (by simp)) (.cells #[] 61)) (not_own1 w.heap.size 0 0)
  have hX2 : Ext N0 w w2 := HE0.out.trans HE2.out (fun x hx => .inr (by have := own_is hx; omega))
  have hs3 : Ext (At w.heap.size) w2 (w2.setCell ⟨w.heap.size, 1, none⟩ (.slice (some ⟨gn, 0, none⟩) s.ps.length cn)) := (Ext.refl (At w.heap.size) w2).setCell (p := ⟨w.heap.size, 1, none⟩) (.inl (show w.heap.size = w.heap.size from rfl)) _
  have hb3 := (blkSet HB2.out 1 (.slice (some ⟨gn, 0, none⟩) s.ps.length cn)).trans (by simp : _ = some (Obj.cells #[.int .i64 s.rest, .slice (some ⟨gn, 0, none⟩) s.ps.length cn] 37 (0, 0)))
  have hM3 : Mid w (w2.setCell ⟨w.heap.size, 1, none⟩ (.slice (some ⟨gn, 0, none⟩) s.ps.length cn)) gn cn s s := ⟨ownKept ho2 hs3 (fun x hx hh => ownNeBlk ho2 HB2.out (by decide) x hx hh), hb3, blkFar hc2 (p := ⟨w.heap.size, 1, none⟩) (show w.heap.size + 1 ≠ w.heap.size by omega) _, hX2.trans hs3 (fun x hx => .inr (by have hx : x = w.heap.size := hx; omega))⟩
  clear hs3 hb3 hX2 hc2 ho2 HO2 HE2 HB2 e1 f1 HRD
  obtain ⟨w3, hw3⟩ : ∃ w3, w2.setCell ⟨w.heap.size, 1, none⟩ (.slice (some ⟨gn, 0, none⟩) s.ps.length cn) = w3 := ⟨_, rfl⟩
  rw [hw3] at hM3
  simp only [hw3]
  clear hw3
  have hMd := hM3.kept0 (Ext.refl N0 w3).drew
  have d0 := (blkCell hMd.box 1).trans rfl
  simp at d0
  have dd := hMd.row.path HP.out
  have d1 := dd.2.2.1
  have f1 := hMd.row.frozenAt (k * 4 + 2)
  rw [HX.out] at d1
  obtain ⟨s1, s2⟩ := hM3.row.set HP.out 2 (by decide) (.int .i64 (x + 1)) (p.inc 1) (by rw [← HX.out]; rfl)
  have hM4 : Mid w (w3.setCell ⟨gn, k * 4 + 2, none⟩ (.int .i64 (x + 1))).drew gn cn s (s.setP k (p.inc 1)) := ⟨s1, s2.blk hM3.box (fun hs => ownNeBlk hM3.row hM3.box (by decide) gn rfl hs.symm), s2.blk hM3.res (fun hs => ownNeBlk hM3.row hM3.res (by decide) gn rfl hs.symm), (hM3.ext.trans s2 (fun x hx => .inr (by have hx : x = gn := hx; omega))).drew⟩
  clear s1 s2 hM3 hMd dd
  go_region
  all_goals
    obtain ⟨w4, hw4⟩ : ∃ w4, (w3.setCell ⟨gn, k * 4 + 2, none⟩ (.int .i64 (x + 1))).drew = w4 := ⟨_, rfl⟩
    rw [hw4] at hM4
    simp only [hw4]
    clear hw4 d0 d1 f1
    have HM4 := Lib.hid hM4
    have c0 := (blkCell hM4.box 0).trans rfl
    have c1 := (blkCell hM4.box 1).trans rfl
    have l0 := blkLt hM4.box
    have l1 := blkLt hM4.res
    have l2 := hM4.row.lt
    simp at c0 c1
    obtain ⟨p0, p1, p2, p3⟩ := hM4.row.path HP1.out
    have er : (p.inc 1).r = p.r := rfl
    rw [er] at p0
    have fr0 := blkFrozen hM4.res 0
    have fr1 := blkFrozen hM4.res 1
    have cr0 := (blkCell hM4.res 0).trans rfl
    have cr1 := (blkCell hM4.res 1).trans rfl
    simp at cr0 cr1
    have hI := HOK1.out.num _ (List.mem_of_getElem? HP1.out)
    obtain ⟨qa, qn, qb, hq⟩ : ∃ qa qn qb, (p.inc 1).a = qa ∧ (p.inc 1).n = qn ∧ (p.inc 1).b = qb := ⟨_, _, _, rfl, rfl, rfl⟩
    obtain ⟨hqa, hqn, hqb⟩ := hq
    rw [hqa, hqn, hqb] at hI
    rw [hqa] at p1
    rw [hqn] at p2
    rw [hqb] at p3
    have hbad : (p.inc 1).bad ↔ qa + 4 < qn + 2 * qb := by unfold Pa.bad; rw [hqa, hqn, hqb]
    have HQ := Lib.hid (And.intro hqa (And.intro hqn hqb))
    have HC := Lib.hid (Sc.count_eq s k 1 p (by decide))
    have hA4 : Ext N0 w4 (w4.alloc (.cells #[.int .i64 qa, .int .i64 qn, .int .i64 qb] 54)) := (Ext.refl _ _).alloc _
    have HA4 := Lib.hid hA4
    have hact := fun W (hW : RR w.heap.size W gn cn (s.setP k (p.inc 1))) => ractive_calls w.heap.size gn cn _ (u + 1) W hW HOK1.out
    simp only [show (s.setP k (p.inc 1)).ps.length = s.ps.length by simp [Sc.setP], show (s.setP k (p.inc 1)).rest = s.rest from rfl] at hact
    have HAct := Lib.hid hact
    clear hact
    clear hM4 hqa hqn hqb hA4 er
    by_cases g1 : qa + 4 < qn + 2 * qb
    · by_cases g2 : p.r = 0
      · by_cases g3 : 1 < (s.setP k (p.inc 1)).act.length
        · have g3' : 1 < ((s.setP k (p.inc 1)).act.length : Int) := by omega
          by_cases g4 : 0 < s.rest
          · have hc := HC.out
            rw [if_pos ⟨g4, g2, hbad.2 g1, g3⟩] at hc
            have HC2 := Lib.hid hc
            clear hc hbad HC
            go_wp2_with (go_at_call 24; refine (HAct.out _ (HM4.out.row.kept0 HA4.out)).mono ?_; rintro e w5 ⟨A5, c5, rfl, _, hE5⟩; have hM5 := (HM4.out.kept0 HA4.out).kept0 hE5; have v0 := (blkCell hM5.box 0).trans rfl; have v1 := (blkCell hM5.box 1).trans rfl; have m0 := blkLt hM5.box; have m1 := blkLt hM5.res; have m2 := hM5.row.lt; obtain ⟨y0, y1, y2, y3⟩ := hM5.row.path HP1.out; have z0 := hM5.row.frozenAt (k * 4); have z1 := hM5.row.frozenAt (k * 4 + 1); have z2 := hM5.row.frozenAt (k * 4 + 2); have z3 := hM5.row.frozenAt (k * 4 + 3); have t0 := blkFrozen hM5.res 0; have t1 := blkFrozen hM5.res 1; have x0 := (blkCell hM5.res 0).trans rfl; have x1 := (blkCell hM5.res 1).trans rfl; simp at v0 v1 x0 x1; have hM6 := hM5.put HP1.out ⟨0, 0, 0, s.rest⟩; have V0 := (blkCell hM6.box 0).trans rfl; have V1 := (blkCell hM6.box 1).trans rfl; have T0 := blkFrozen hM6.res 0; have T1 := blkFrozen hM6.res 1; have X0 := (blkCell hM6.res 0).trans rfl; have X1 := (blkCell hM6.res 1).trans rfl; simp at V0 V1 X0 X1; have HM5 := Lib.hid hM5; have HM6 := Lib.hid hM6; clear hE5 hM5 hM6)
            obtain ⟨k0, k1, rr, ex⟩ := HM6.out.done (by simp [Sc.setP]) rfl
            refine bodyPost_ret (v := .tuple #[.agg #[.int .i64 s.rest, .slice (some ⟨gn, 0, none⟩) s.ps.length cn], .int .i64 0]) (by simp [results, Try.results13, go_sem, k0, k1]) rfl ⟨gn, cn, by rw [HCL.out.1, HCL.out.2], ?_, ex⟩
            rw [HC2.out]
            have := rr
            simpa [Sc.setP] using this
          · have hc := HC.out
            rw [if_neg (fun h => g4 h.1)] at hc
            have HC2 := Lib.hid hc
            clear hc hbad HC
            go_wp2_with (go_at_call 24; refine (HAct.out _ (HM4.out.row.kept0 HA4.out)).mono ?_; rintro e w5 ⟨A5, c5, rfl, _, hE5⟩; have hM5 := (HM4.out.kept0 HA4.out).kept0 hE5; have v0 := (blkCell hM5.box 0).trans rfl; have v1 := (blkCell hM5.box 1).trans rfl; have m0 := blkLt hM5.box; have m1 := blkLt hM5.res; have m2 := hM5.row.lt; obtain ⟨y0, y1, y2, y3⟩ := hM5.row.path HP1.out; have z0 := hM5.row.frozenAt (k * 4); have z1 := hM5.row.frozenAt (k * 4 + 1); have z2 := hM5.row.frozenAt (k * 4 + 2); have z3 := hM5.row.frozenAt (k * 4 + 3); have t0 := blkFrozen hM5.res 0; have t1 := blkFrozen hM5.res 1; have x0 := (blkCell hM5.res 0).trans rfl; have x1 := (blkCell hM5.res 1).trans rfl; simp at v0 v1 x0 x1; have hM6 := hM5.put HP1.out ⟨0, 0, 0, s.rest⟩; have V0 := (blkCell hM6.box 0).trans rfl; have V1 := (blkCell hM6.box 1).trans rfl; have T0 := blkFrozen hM6.res 0; have T1 := blkFrozen hM6.res 1; have X0 := (blkCell hM6.res 0).trans rfl; have X1 := (blkCell hM6.res 1).trans rfl; simp at V0 V1 X0 X1; have HM5 := Lib.hid hM5; have HM6 := Lib.hid hM6; clear hE5 hM5 hM6)
            obtain ⟨k0, k1, rr, ex⟩ := HM5.out.done (by simp [Sc.setP]) rfl
            refine bodyPost_ret (v := .tuple #[.agg #[.int .i64 s.rest, .slice (some ⟨gn, 0, none⟩) s.ps.length cn], .int .i64 0]) (by simp [results, Try.results13, go_sem, k0, k1]) rfl ⟨gn, cn, by rw [HCL.out.1, HCL.out.2], ?_, ex⟩
            rw [HC2.out]
            exact rr
        · have g3' : ¬ 1 < ((s.setP k (p.inc 1)).act.length : Int) := by omega
          have hc := HC.out
          rw [if_neg (fun h => g3 h.2.2.2)] at hc
          have HC2 := Lib.hid hc
          clear hc hbad HC
          go_wp2_with (go_at_call 24; refine (HAct.out _ (HM4.out.row.kept0 HA4.out)).mono ?_; rintro e w5 ⟨A5, c5, rfl, _, hE5⟩; have hM5 := (HM4.out.kept0 HA4.out).kept0 hE5; have v0 := (blkCell hM5.box 0).trans rfl; have v1 := (blkCell hM5.box 1).trans rfl; have m0 := blkLt hM5.box; have m1 := blkLt hM5.res; have m2 := hM5.row.lt; obtain ⟨y0, y1, y2, y3⟩ := hM5.row.path HP1.out; have z0 := hM5.row.frozenAt (k * 4); have z1 := hM5.row.frozenAt (k * 4 + 1); have z2 := hM5.row.frozenAt (k * 4 + 2); have z3 := hM5.row.frozenAt (k * 4 + 3); have t0 := blkFrozen hM5.res 0; have t1 := blkFrozen hM5.res 1; have x0 := (blkCell hM5.res 0).trans rfl; have x1 := (blkCell hM5.res 1).trans rfl; simp at v0 v1 x0 x1; have hM6 := hM5.put HP1.out ⟨0, 0, 0, s.rest⟩; have V0 := (blkCell hM6.box 0).trans rfl; have V1 := (blkCell hM6.box 1).trans rfl; have T0 := blkFrozen hM6.res 0; have T1 := blkFrozen hM6.res 1; have X0 := (blkCell hM6.res 0).trans rfl; have X1 := (blkCell hM6.res 1).trans rfl; simp at V0 V1 X0 X1; have HM5 := Lib.hid hM5; have HM6 := Lib.hid hM6; clear hE5 hM5 hM6)
          obtain ⟨k0, k1, rr, ex⟩ := HM5.out.done (by simp [Sc.setP]) rfl
          refine bodyPost_ret (v := .tuple #[.agg #[.int .i64 s.rest, .slice (some ⟨gn, 0, none⟩) s.ps.length cn], .int .i64 0]) (by simp [results, Try.results13, go_sem, k0, k1]) rfl ⟨gn, cn, by rw [HCL.out.1, HCL.out.2], ?_, ex⟩
          rw [HC2.out]
          exact rr
      · have hc := HC.out
        rw [if_neg (fun h => g2 h.2.1)] at hc
        have HC2 := Lib.hid hc
        clear hc hbad HC
        go_wp2_with fail
        obtain ⟨k0, k1, rr, ex⟩ := HM4.out.done (by simp [Sc.setP]) rfl
        have kk0 := ((Ext.refl N0 _).alloc (.cells #[.int .i64 qa, .int .i64 qn, .int .i64 qb] 54)).cell k0 (fun h => h)
        have kk1 := ((Ext.refl N0 _).alloc (.cells #[.int .i64 qa, .int .i64 qn, .int .i64 qb] 54)).cell k1 (fun h => h)
        refine bodyPost_ret (v := .tuple #[.agg #[.int .i64 s.rest, .slice (some ⟨gn, 0, none⟩) s.ps.length cn], .int .i64 0]) (by simp [results, Try.results13, go_sem, kk0, kk1]) rfl ⟨gn, cn, by rw [HCL.out.1, HCL.out.2], ?_, ex.alloc _⟩
        rw [HC2.out]
        exact rr.kept0 ((Ext.refl N0 _).alloc _)
    · have hc := HC.out
      rw [if_neg (fun h => g1 (hbad.1 h.2.2.1))] at hc
      have HC2 := Lib.hid hc
      clear hc hbad HC
      go_wp2_with fail
      obtain ⟨k0, k1, rr, ex⟩ := HM4.out.done (by simp [Sc.setP]) rfl
      have kk0 := ((Ext.refl N0 _).alloc (.cells #[.int .i64 qa, .int .i64 qn, .int .i64 qb] 54)).cell k0 (fun h => h)
      have kk1 := ((Ext.refl N0 _).alloc (.cells #[.int .i64 qa, .int .i64 qn, .int .i64 qb] 54)).cell k1 (fun h => h)
      refine bodyPost_ret (v := .tuple #[.agg #[.int .i64 s.rest, .slice (some ⟨gn, 0, none⟩) s.ps.length cn], .int .i64 0]) (by simp [results, Try.results13, go_sem, kk0, kk1]) rfl ⟨gn, cn, by rw [HCL.out.1, HCL.out.2], ?_, ex.alloc _⟩
      rw [HC2.out]
      exact rr.kept0 ((Ext.refl N0 _).alloc _)
end Go.Proofs.Ytkkcdijnhegneaa
