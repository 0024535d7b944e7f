/- The walk of the law ScoreRuns: called with any values that fit its parameters, it returns true and nothing that was in memory before has changed. No other condition. -/
import Derived.Test.YtkkcdijnhegneaaB13
import Derived.Test.YtkkcdijnhegneaaAw
namespace Go.Proofs.Ytkkcdijnhegneaa
open Go.RowKit
namespace scoreRuns
/-- The document's score, in its box. -/
def IsB (w : World) (gb : Nat) (s : Sc) (gr c : Nat) : Prop := w.heap[gb]? = some (.cells #[.int .i64 s.rest, .slice (some ⟨gr, 0, none⟩) s.ps.length c] 37 (0, 0))
theorem IsB.alls {w : World} {gb gr c : Nat} {s : Sc} (h : IsB w gb s gr c) : w.cell? ⟨gb, 0, none⟩ = some (.int .i64 s.rest) ∧ w.cell? ⟨gb, 1, none⟩ = some (.slice (some ⟨gr, 0, none⟩) s.ps.length c) ∧ w.frozen? ⟨gb, 0, none⟩ = false ∧ w.frozen? ⟨gb, 1, none⟩ = false :=
  ⟨(blkCell h 0).trans rfl, (blkCell h 1).trans rfl, blkFrozen h 0, blkFrozen h 1⟩
/-- The score stands at s', the document's at s. -/
structure Al (w0 w : World) (g gb : Nat) (s s' : Sc) (gr c : Nat) (u : Int) : Prop where
  sc : IsSc w0.heap.size w g s'
  box : IsB w gb s gr c
  rr : RR w0.heap.size w gr c s
  ok : s.Ok u
  ok' : s'.Ok u
  act : 1 ≤ s'.act.length
  ext : Ext N0 w0 w
theorem Al.kept0 {w0 w w' : World} {g gb gr c : Nat} {s s' : Sc} {u : Int} (h : Al w0 w g gb s s' gr c u) (hE : Ext N0 w w') : Al w0 w' g gb s s' gr c u :=
  ⟨h.sc.kept0 hE, hE.blk0 h.box, h.rr.kept0 hE, h.ok, h.ok', h.act, h.ext.then0 hE⟩
theorem Al.more {w0 w : World} {g gb gr c : Nat} {s s' : Sc} {u v : Int} (h : Al w0 w g gb s s' gr c u) (hv : u ≤ v) : Al w0 w g gb s s' gr c v := ⟨h.sc, h.box, h.rr, h.ok.more hv, h.ok'.more hv, h.act, h.ext⟩
theorem Al.own {w0 w w' : World} {g gb gr c : Nat} {s s' s1 : Sc} {u v : Int} (h : Al w0 w g gb s s' gr c u) (hv : u ≤ v) (hs : IsSc w0.heap.size w' g s1) (hok : s1.Ok v) (hact : 1 ≤ s1.act.length) (hE : Ext (Tp w0.heap.size w) w w') : Al w0 w' g gb s s1 gr c v :=
  ⟨hs, hE.blk h.box (boxTp h.box), h.rr.kept hE h.rr.tp, h.ok.more hv, hok, hact, Ext.of_tp (tpTrans (Ext.of0 h.ext) hE)⟩
theorem set2b {w : World} {g : Nat} {t : TypeId} {a b x y : Value} (h : w.heap[g]? = some (.cells #[a, b] t (0, 0))) : ((w.setCell ⟨g, 0, none⟩ x).setCell ⟨g, 1, none⟩ y).heap[g]? = some (.cells #[x, y] t (0, 0)) :=
  (set2 h).1
theorem blkNe {w : World} {g h : Nat} {cs ds : Array Value} {t u : TypeId} {fr fs : Nat × Nat} (h1 : w.heap[g]? = some (.cells cs t fr)) (h2 : w.heap[h]? = some (.cells ds u fs)) (hn : t ≠ u) : g ≠ h := by
  rintro rfl
  rw [h1] at h2
  injection h2 with h2
  injection h2 with _ ht
  exact hn ht
/-- The box is laid anew. -/
theorem Al.put {w0 w w' : World} {g gb gr c gn cn : Nat} {s s' s1 : Sc} {u : Int} (h : Al w0 w g gb s s' gr c u) (hE : Ext N0 w w') (hR : RR w0.heap.size w' gn cn s1) (hok : s1.Ok u) (hb : w0.heap.size ≤ gb) :
    Al w0 ((w'.setCell ⟨gb, 0, none⟩ (.int .i64 s1.rest)).setCell ⟨gb, 1, none⟩ (.slice (some ⟨gn, 0, none⟩) s1.ps.length cn)) g gb s1 s' gn cn u := by
  have hk := h.kept0 hE
  have hx : Ext (At gb) w' ((w'.setCell ⟨gb, 0, none⟩ (.int .i64 s1.rest)).setCell ⟨gb, 1, none⟩ (.slice (some ⟨gn, 0, none⟩) s1.ps.length cn)) :=
    ((Ext.refl (At gb) w').setCell (p := ⟨gb, 0, none⟩) (.inl (show gb = gb from rfl)) _).setCell (p := ⟨gb, 1, none⟩) (.inl (show gb = gb from rfl)) _
  refine ⟨?_, set2b hk.box, ?_, hok, h.ok', h.act, hk.ext.trans hx (fun k hk => .inr (by have : k = gb := hk; omega))⟩
  · obtain ⟨gp, c0, ho⟩ := hk.sc
    refine ⟨gp, c0, ho.kept hx (blkNe ho.blk hk.box (by decide)) ?_⟩
    obtain ⟨cs, fr, hp⟩ := ho.pblk
    exact blkNe hp hk.box (by decide)
  · refine hR.kept hx ?_
    obtain ⟨cs, fr, hp⟩ := hR.pblk
    exact blkNe hp hk.box (by decide)
/-- A fork comes in place of the score; what becomes of that one is nobody's. -/
theorem Al.fork {w0 w w1 w' : World} {g gb gr c g2 gp : Nat} {s : Sc} {u : Int} (h : Al w0 w g gb s s gr c u) (hs : IsSc w.heap.size w1 g2 s) (hE : Ext N0 w w1) (hp : gp < w.heap.size) (hp0 : w0.heap.size ≤ gp) (ht : ∃ cs fr, w1.heap[gp]? = some (.cells cs 56 fr)) (hX : Ext (At gp) w1 w') : Al w0 w' g2 gb s s gr c u := by
  have hk := h.kept0 hE
  obtain ⟨cs, fr, ht⟩ := ht
  obtain ⟨gq, c0, ho⟩ := hs
  have hi : IsSo w.heap.size w' g2 s gq c0 := ho.kept hX (fun (e : g2 = gp) => by have := ho.hg; omega) (fun (e : gq = gp) => by have := ho.hp; omega)
  refine ⟨IsSc.le ⟨gq, c0, hi⟩ h.ext.size, hX.blk hk.box (fun e => blkNe hk.box ht (by decide) e), hk.rr.kept hX ?_, h.ok, h.ok', h.act, hk.ext.trans hX (fun k hk => .inr (by have : k = gp := hk; omega))⟩
  obtain ⟨cs2, fr2, h2⟩ := hk.rr.pblk
  exact fun e => blkNe h2 ht (by decide) e
theorem boxExt (w : World) (gb : Nat) (x y : Value) : Ext (At gb) w ((w.setCell ⟨gb, 0, none⟩ x).setCell ⟨gb, 1, none⟩ y) :=
  ((Ext.refl (At gb) w).setCell (p := ⟨gb, 0, none⟩) (.inl (show gb = gb from rfl)) _).setCell (p := ⟨gb, 1, none⟩) (.inl (show gb = gb from rfl)) _
theorem ownTp {w : World} {base b n s : Nat} {e : TypeId} {v : Value} {xs : List Value} (h : w.ownsRow b e s v n xs) (he : e ≠ 56) : ∀ k, v.ownBlock = some k → ¬ Tp base w k := by
  rintro k hk ⟨_, cs, fr, hb⟩
  exact ownNeBlk h hb he k hk rfl
theorem rclear2 (base gr c : Nat) (s : Sc) (u : Int) (w : World) (h : RR base w gr c s) (hok : s.Ok u) :
    Calls Try.prog 17 #[.agg #[.int .i64 s.rest, .slice (some ⟨gr, 0, none⟩) s.ps.length c]] w fun e w' => ∃ gn cn, e = .returned (.agg #[.int .i64 s.clear.rest, .slice (some ⟨gn, 0, none⟩) s.clear.ps.length cn]) ∧ RR w.heap.size w' gn cn s.clear ∧ Ext N0 w w' := by
  have := rclear_calls base gr c s u w h hok
  rw [show s.clear.rest = s.rest from rfl, show s.clear.ps.length = s.ps.length by simp [Sc.clear]]
  exact this
theorem rtick2 (base gr c : Nat) (s : Sc) (u : Int) (w : World) (h : RR base w gr c s) (hok : s.Ok u) :
    Calls Try.prog 14 #[.agg #[.int .i64 s.rest, .slice (some ⟨gr, 0, none⟩) s.ps.length c]] w fun e w' => ∃ gn cn A c2, e = .returned (.tuple #[.agg #[.int .i64 s.tick.rest, .slice (some ⟨gn, 0, none⟩) s.tick.ps.length cn], .slice A (s.backP s.ps.length).length c2]) ∧ RR w.heap.size w' gn cn s.tick ∧ w'.ownsRow w.heap.size 3 1 (.slice A (s.backP s.ps.length).length c2) (s.backP s.ps.length).length (nats (s.backP s.ps.length)) ∧ Ext N0 w w' := by
  have := rtick_calls base gr c s u w h hok
  rw [show s.tick.rest = s.rest from rfl, show s.tick.ps.length = s.ps.length by simp [Sc.tick]]
  exact this
set_option maxRecDepth 100000 in
set_option maxHeartbeats 8000000 in
theorem walk (a0 a1 : Int) (a2 : Option Addr) (len2 cap2 : Nat) (z2 : Nat → Int × Int) (w : World) (_w0 : (Lit.int .i64 a0).wf = true) (_w1 : (Lit.int .i64 a1).wf = true) (w2 : IsOps w a2 len2 cap2 z2) :
    Calls Try.prog 4 #[.int .i64 a0, .int .i64 a1, .slice a2 len2 cap2] w fun e w' => e = .returned (.bool true) ∧ Below w.heap.size w w' := by
  have HW := Lib.hid w2
  clear w2
  by_cases hgood : (1 ≤ a0 ∧ a0 ≤ 8) ∧ 0 ≤ a1 ∧ a1 ≤ 1048576
  · obtain ⟨n, rfl⟩ : ∃ n : Nat, a0 = n := ⟨a0.toNat, by omega⟩
    have hn : 1 ≤ n ∧ n ≤ 8 := by omega
    have hr := hgood.2
    have HN := Lib.hid (new_good n a1 w hn hr)
    have HM := Lib.hid (fun W => rnew_good n a1 W hn hr)
    go_enter Try.func4, Try.ntmps4
    go_wp2_with fail
    refine HN.out.mono ?_
    rintro e w1 ⟨rfl, hS, hE⟩
    have HS := Lib.hid hS
    have HE := Lib.hid hE
    clear hS hE
    go_wp2_with fail
    refine (HM.out _).mono ?_
    rintro e w2 ⟨gr, c, rfl, hR, hE⟩
    have hA : Al w (w2.alloc (.cells #[.int .i64 (new0 n a1).rest, .slice (some ⟨gr, 0, none⟩) (new0 n a1).ps.length c] 37)) (w.heap.size + 1) w2.heap.size (new0 n a1) (new0 n a1) gr c 0 :=
      ⟨(HS.out.kept0 hE).kept0 ((Ext.refl _ _).alloc _), blkNew _ _, (hR.kept0 ((Ext.refl _ _).alloc _)).le HE.out.size, new0_ok n a1 hn hr, new0_ok n a1 hn hr, new_pos n a1 hn.1, (HE.out.then0 hE).alloc _⟩
    have hgb := (HE.out.then0 hE).size
    have hrest : (new0 n a1).rest = a1 := rfl
    have hpsl : (new0 n a1).ps.length = n := by simp [new0]
    rw [hrest, hpsl] at hA
    have HA := Lib.hid hA
    clear hR hE HS HE HN HM hA hgood
    go_wp2_with (go_at_call 6; refine (awake_calls _).mono ?_; rintro e w3 ⟨rfl, hE3⟩; have HA3 := Lib.hid (HA.out.kept0 hE3); clear hE3)
    clear HA hrest hpsl
    obtain ⟨gb, hgbe⟩ : ∃ gb, w2.heap.size = gb := ⟨_, rfl⟩
    rw [hgbe] at hgb HA3
    simp only [hgbe]
    clear hgbe
    go_loopw [7, 11] (fun pa i wr => ∃ (k g : Nat) (s : Sc) (gr c : Nat), k ≤ 80 ∧ i = .int .i64 k ∧ pa = .pointer (some ⟨g, 0, none⟩) ∧ Hid (Al w wr g gb s s gr c k)) (fun _ i _ => 81 - (intOf i).toNat)
    case atStart => exact ⟨0, _, _, _, _, by omega, rfl, rfl, HA3⟩
    case round =>
      clear HA3
      obtain ⟨k, g, s, gr, c, hk, rfl, rfl, HA⟩ := hrel
      by_cases hl : k < len2
      · have hl' : (k : Int) < len2 := by omega
        by_cases h6 : k < 80
        · have h6' : (k : Int) < 80 := by omega
          obtain ⟨hx1, hx2, hx3⟩ := HW.out
          obtain ⟨ad, rfl, hc⟩ := hx3 (by omega)
          obtain ⟨c0, c1, d0, d1⟩ := hc k hl
          obtain ⟨d, hd⟩ : ∃ d, (z2 k).1 = d := ⟨_, rfl⟩
          obtain ⟨P, hP⟩ : ∃ P, (z2 k).2 = P := ⟨_, rfl⟩
          rw [hd] at c0 d0
          rw [hP] at c1 d1
          have d0 := bd8 d0
          have d1 := bd64 d1
          rw [addSucc] at c1
          simp only [Nat.zero_add] at c1
          have C1 := Lib.hid c1
          have c0 := HA.out.ext.cell c0 (fun h => h)
          have c1 := HA.out.ext.cell c1 (fun h => h)
          have hlen := HA.out.ok.len
          clear hd hP hc hx1 hx2 hx3
          have hcs : d % 6 = 0 ∨ d % 6 = 1 ∨ d % 6 = 2 ∨ d % 6 = 3 ∨ d % 6 = 4 ∨ d % 6 = 5 := by omega
          rcases hcs with hcs | hcs | hcs | hcs | hcs | hcs
          · as_aux_lemma =>
            by_cases hin : s.has P
            · obtain ⟨q, rfl⟩ : ∃ q : Nat, P = q := ⟨P.toNat, by have := hin.1; omega⟩
              obtain ⟨p, hp⟩ : ∃ p, s.ps[q]? = some p := ⟨_, List.getElem?_eq_getElem (by have := hin.2; omega)⟩
              have hK := ack_calls w.heap.size g s k q p wr HA.out.sc HA.out.ok (by omega) hp
              have hR := fun W (hW : RR w.heap.size W gr c s) => rcount_calls0 w.heap.size gr c s k q p W hW HA.out.ok (by omega) hp
              have hok' := HA.out.ok.count hp 0
              have hpos := count_pos 0 hp HA.out.act
              obtain ⟨s9, hs9⟩ : ∃ s9, s.count q 0 p = s9 := ⟨_, rfl⟩
              rw [hs9] at hK hok' hpos
              simp only [hs9] at hR
              unfold GivesR at hR
              have HK := Lib.hid hK
              have HR := Lib.hid hR
              have HP := Lib.hid hpos
              have HO := Lib.hid hok'
              clear hs9 hK hR hok' hpos hp hin
              go_wp2_with (go_at_call 9; refine HK.out.mono ?_; rintro e w6 ⟨rfl, hS, hE⟩; have HH := Lib.hid (HA.out.own (v := k + 1) (by omega) hS HO.out HP.out hE); clear hS hE)
              obtain ⟨b0, b1, f0, f1⟩ := HH.out.box.alls
              have n1 := HH.out.ext.cell C1.out (fun h => h)
              have HD := Lib.hid (Ext.refl N0 w6).drew
              obtain ⟨e0, e1, i0, i1⟩ := (HH.out.kept0 HD.out).box.alls
              have n2 := (HH.out.kept0 HD.out).ext.cell C1.out (fun h => h)
              clear HK HP
              go_wp2_with fail
              go_region_with (go_at_call 13; refine (HR.out _ (HH.out.kept0 HD.out).rr).mono ?_; rintro e w7 ⟨gn, cn, rfl, hR7, hE7⟩; have HA9 := Lib.hid (HH.out.put (HD.out.then0 hE7) (hR7.le (HH.out.kept0 HD.out).ext.size) HO.out hgb); obtain ⟨m0, m1, m2, m3⟩ := (HH.out.kept0 (HD.out.then0 hE7)).box.alls; clear hR7 hE7)
              all_goals
              clear b0 b1 f0 f1 e0 e1 i0 i1 m0 m1 m2 m3 n1 n2 c0 c1
              have HD9 := Lib.hid (Ext.refl N0 ((w7.setCell ⟨gb, 0, none⟩ (.int .i64 s9.rest)).setCell ⟨gb, 1, none⟩ (.slice (some ⟨gn, 0, none⟩) s9.ps.length cn))).drew
              obtain ⟨b0, b1, _, _⟩ := HA9.out.box.alls
              have n1 := HA9.out.ext.cell C1.out (fun h => h)
              have hact := HA9.out.act
              have hact' : ¬ (s9.act.length : Int) < 1 := by omega
              clear hact hcs
              go_wp2_with fail
              go_region_held3 (fun w' => w'.cell? ⟨gb, 0, none⟩ = some (.int .i64 s9.rest) ∧ w'.cell? ⟨gb, 1, none⟩ = some (.slice (some ⟨gn, 0, none⟩) s9.ps.length cn) ∧ w'.cell? ⟨(ad.add (k * 2)).block, (ad.add (k * 2)).off + 1, none⟩ = some (.int .i64 q)) (first | go_keep | (refine ⟨?_, ?_, ?_⟩ <;> exact y11.cell (by simp_all) (fun x => x)) | (refine ⟨?_, ?_, ?_⟩ <;> exact y10.cell (by simp_all) (fun x => x))) (first | (go_at_call 11; refine (active_calls w.heap.size g s9 (k + 1) _ (HA9.out.kept0 X9.out).sc HA9.out.ok).mono ?_; rintro e w11 ⟨A11, c11, rfl, _, y11⟩) | (go_at_call 19; refine (shows_calls w.heap.size w.heap.size g gn cn s9 (k + 1) q _ (HA9.out.kept0 HD9.out).sc (HA9.out.kept0 HD9.out).rr HA9.out.ok).mono ?_; rintro e w10 ⟨rfl, y10⟩; have X9 := Lib.hid (HD9.out.then0 y10)))
              all_goals
                have HZ := Lib.hid (((HA9.out.kept0 X9.out).kept0 y11).more (v := ((k + 1 : Nat) : Int)) (by omega))
                clear y11 y10
                go_wp2
                go_roundw
                case rel => exact ⟨k + 1, g, s9, gn, cn, by omega, by go_num, rfl, HZ⟩
                case measure => simp only [intOf]; omega
            · have HK := Lib.hid (ack_out w.heap.size g s P wr HA.out.sc HA.out.ok.len.1 hin)
              have HR := Lib.hid (fun W (hW : RR w.heap.size W gr c s) => rcount_out w.heap.size gr c s P 0 W hW hin)
              obtain ⟨b0, b1, f0, f1⟩ := HA.out.box.alls
              have HD := Lib.hid (Ext.refl N0 wr).drew
              obtain ⟨e0, e1, i0, i1⟩ := (HA.out.kept0 HD.out).box.alls
              have n2 := (HA.out.kept0 HD.out).ext.cell C1.out (fun h => h)
              clear hin
              go_wp2_with (go_at_call 9; refine HK.out.mono ?_; rintro e w6 ⟨rfl, hw6⟩; subst hw6)
              go_region_with (go_at_call 13; refine (HR.out _ (HA.out.kept0 HD.out).rr).mono ?_; rintro e w7 ⟨rfl, hE7⟩; have HA9 := Lib.hid ((HA.out.put (HD.out.then0 hE7) (HA.out.kept0 (HD.out.then0 hE7)).rr HA.out.ok hgb).more (v := k + 1) (by omega)); obtain ⟨m0, m1, m2, m3⟩ := (HA.out.kept0 (HD.out.then0 hE7)).box.alls; clear hE7)
              all_goals
              clear b0 b1 f0 f1 e0 e1 i0 i1 m0 m1 m2 m3 n2 c0 c1
              have HD9 := Lib.hid (Ext.refl N0 ((w7.setCell ⟨gb, 0, none⟩ (.int .i64 s.rest)).setCell ⟨gb, 1, none⟩ (.slice (some ⟨gr, 0, none⟩) s.ps.length c))).drew
              obtain ⟨b0, b1, _, _⟩ := HA9.out.box.alls
              have n1 := HA9.out.ext.cell C1.out (fun h => h)
              have hact := HA9.out.act
              have hact' : ¬ (s.act.length : Int) < 1 := by omega
              clear hact hcs
              go_wp2_with fail
              go_region_held3 (fun w' => w'.cell? ⟨gb, 0, none⟩ = some (.int .i64 s.rest) ∧ w'.cell? ⟨gb, 1, none⟩ = some (.slice (some ⟨gr, 0, none⟩) s.ps.length c) ∧ w'.cell? ⟨(ad.add (k * 2)).block, (ad.add (k * 2)).off + 1, none⟩ = some (.int .i64 P)) (first | go_keep | (refine ⟨?_, ?_, ?_⟩ <;> exact y11.cell (by simp_all) (fun x => x)) | (refine ⟨?_, ?_, ?_⟩ <;> exact y10.cell (by simp_all) (fun x => x))) (first | (go_at_call 11; refine (active_calls w.heap.size g s (k + 1) _ (HA9.out.kept0 X9.out).sc HA9.out.ok).mono ?_; rintro e w11 ⟨A11, c11, rfl, _, y11⟩) | (go_at_call 19; refine (shows_calls w.heap.size w.heap.size g gr c s (k + 1) P _ (HA9.out.kept0 HD9.out).sc (HA9.out.kept0 HD9.out).rr HA9.out.ok).mono ?_; rintro e w10 ⟨rfl, y10⟩; have X9 := Lib.hid (HD9.out.then0 y10)))
              all_goals
                have HZ := Lib.hid (((HA9.out.kept0 X9.out).kept0 y11).more (v := ((k + 1 : Nat) : Int)) (by omega))
                clear y11 y10
                go_wp2
                go_roundw
                case rel => exact ⟨k + 1, g, s, gr, c, by omega, by go_num, rfl, HZ⟩
                case measure => simp only [intOf]; omega
          · as_aux_lemma =>
            by_cases hin : s.has P
            · obtain ⟨q, rfl⟩ : ∃ q : Nat, P = q := ⟨P.toNat, by have := hin.1; omega⟩
              obtain ⟨p, hp⟩ : ∃ p, s.ps[q]? = some p := ⟨_, List.getElem?_eq_getElem (by have := hin.2; omega)⟩
              have hK := nack_calls w.heap.size g s k q p wr HA.out.sc HA.out.ok (by omega) hp HA.out.ext.size
              have hR := fun W (hW : RR w.heap.size W gr c s) => rcount_calls1 w.heap.size gr c s k q p W hW HA.out.ok (by omega) hp
              have hok' := HA.out.ok.count hp 1
              have hpos := count_pos 1 hp HA.out.act
              obtain ⟨s9, hs9⟩ : ∃ s9, s.count q 1 p = s9 := ⟨_, rfl⟩
              rw [hs9] at hK hok' hpos
              simp only [hs9] at hR
              unfold GivesR at hR
              have HK := Lib.hid hK
              have HR := Lib.hid hR
              have HP := Lib.hid hpos
              have HO := Lib.hid hok'
              clear hs9 hK hR hok' hpos hp hin
              go_wp2_with (go_at_call 7; refine HK.out.mono ?_; rintro e w6 ⟨rfl, hS, hE⟩; have HH := Lib.hid (HA.out.own (v := k + 1) (by omega) hS HO.out HP.out hE); clear hS hE)
              obtain ⟨b0, b1, f0, f1⟩ := HH.out.box.alls
              have n1 := HH.out.ext.cell C1.out (fun h => h)
              have HD := Lib.hid (Ext.refl N0 w6).drew
              obtain ⟨e0, e1, i0, i1⟩ := (HH.out.kept0 HD.out).box.alls
              have n2 := (HH.out.kept0 HD.out).ext.cell C1.out (fun h => h)
              clear HK HP
              go_wp2_with fail
              go_region_with (go_at_call 13; refine (HR.out _ (HH.out.kept0 HD.out).rr).mono ?_; rintro e w7 ⟨gn, cn, rfl, hR7, hE7⟩; have HA9 := Lib.hid (HH.out.put (HD.out.then0 hE7) (hR7.le (HH.out.kept0 HD.out).ext.size) HO.out hgb); obtain ⟨m0, m1, m2, m3⟩ := (HH.out.kept0 (HD.out.then0 hE7)).box.alls; clear hR7 hE7)
              all_goals
              clear b0 b1 f0 f1 e0 e1 i0 i1 m0 m1 m2 m3 n1 n2 c0 c1
              have HD9 := Lib.hid (Ext.refl N0 ((w7.setCell ⟨gb, 0, none⟩ (.int .i64 s9.rest)).setCell ⟨gb, 1, none⟩ (.slice (some ⟨gn, 0, none⟩) s9.ps.length cn))).drew
              obtain ⟨b0, b1, _, _⟩ := HA9.out.box.alls
              have n1 := HA9.out.ext.cell C1.out (fun h => h)
              have hact := HA9.out.act
              have hact' : ¬ (s9.act.length : Int) < 1 := by omega
              clear hact hcs
              go_wp2_with fail
              go_region_held3 (fun w' => w'.cell? ⟨gb, 0, none⟩ = some (.int .i64 s9.rest) ∧ w'.cell? ⟨gb, 1, none⟩ = some (.slice (some ⟨gn, 0, none⟩) s9.ps.length cn) ∧ w'.cell? ⟨(ad.add (k * 2)).block, (ad.add (k * 2)).off + 1, none⟩ = some (.int .i64 q)) (first | go_keep | (refine ⟨?_, ?_, ?_⟩ <;> exact y11.cell (by simp_all) (fun x => x)) | (refine ⟨?_, ?_, ?_⟩ <;> exact y10.cell (by simp_all) (fun x => x))) (first | (go_at_call 11; refine (active_calls w.heap.size g s9 (k + 1) _ (HA9.out.kept0 X9.out).sc HA9.out.ok).mono ?_; rintro e w11 ⟨A11, c11, rfl, _, y11⟩) | (go_at_call 19; refine (shows_calls w.heap.size w.heap.size g gn cn s9 (k + 1) q _ (HA9.out.kept0 HD9.out).sc (HA9.out.kept0 HD9.out).rr HA9.out.ok).mono ?_; rintro e w10 ⟨rfl, y10⟩; have X9 := Lib.hid (HD9.out.then0 y10)))
              all_goals
                have HZ := Lib.hid (((HA9.out.kept0 X9.out).kept0 y11).more (v := ((k + 1 : Nat) : Int)) (by omega))
                clear y11 y10
                go_wp2
                go_roundw
                case rel => exact ⟨k + 1, g, s9, gn, cn, by omega, by go_num, rfl, HZ⟩
                case measure => simp only [intOf]; omega
            · have HK := Lib.hid (nack_out w.heap.size g s P wr HA.out.sc HA.out.ok.len.1 hin)
              have HR := Lib.hid (fun W (hW : RR w.heap.size W gr c s) => rcount_out w.heap.size gr c s P 1 W hW hin)
              obtain ⟨b0, b1, f0, f1⟩ := HA.out.box.alls
              have HD := Lib.hid (Ext.refl N0 wr).drew
              obtain ⟨e0, e1, i0, i1⟩ := (HA.out.kept0 HD.out).box.alls
              have n2 := (HA.out.kept0 HD.out).ext.cell C1.out (fun h => h)
              clear hin
              go_wp2_with (go_at_call 7; refine HK.out.mono ?_; rintro e w6 ⟨rfl, hw6⟩; subst hw6)
              go_region_with (go_at_call 13; refine (HR.out _ (HA.out.kept0 HD.out).rr).mono ?_; rintro e w7 ⟨rfl, hE7⟩; have HA9 := Lib.hid ((HA.out.put (HD.out.then0 hE7) (HA.out.kept0 (HD.out.then0 hE7)).rr HA.out.ok hgb).more (v := k + 1) (by omega)); obtain ⟨m0, m1, m2, m3⟩ := (HA.out.kept0 (HD.out.then0 hE7)).box.alls; clear hE7)
              all_goals
              clear b0 b1 f0 f1 e0 e1 i0 i1 m0 m1 m2 m3 n2 c0 c1
              have HD9 := Lib.hid (Ext.refl N0 ((w7.setCell ⟨gb, 0, none⟩ (.int .i64 s.rest)).setCell ⟨gb, 1, none⟩ (.slice (some ⟨gr, 0, none⟩) s.ps.length c))).drew
              obtain ⟨b0, b1, _, _⟩ := HA9.out.box.alls
              have n1 := HA9.out.ext.cell C1.out (fun h => h)
              have hact := HA9.out.act
              have hact' : ¬ (s.act.length : Int) < 1 := by omega
              clear hact hcs
              go_wp2_with fail
              go_region_held3 (fun w' => w'.cell? ⟨gb, 0, none⟩ = some (.int .i64 s.rest) ∧ w'.cell? ⟨gb, 1, none⟩ = some (.slice (some ⟨gr, 0, none⟩) s.ps.length c) ∧ w'.cell? ⟨(ad.add (k * 2)).block, (ad.add (k * 2)).off + 1, none⟩ = some (.int .i64 P)) (first | go_keep | (refine ⟨?_, ?_, ?_⟩ <;> exact y11.cell (by simp_all) (fun x => x)) | (refine ⟨?_, ?_, ?_⟩ <;> exact y10.cell (by simp_all) (fun x => x))) (first | (go_at_call 11; refine (active_calls w.heap.size g s (k + 1) _ (HA9.out.kept0 X9.out).sc HA9.out.ok).mono ?_; rintro e w11 ⟨A11, c11, rfl, _, y11⟩) | (go_at_call 19; refine (shows_calls w.heap.size w.heap.size g gr c s (k + 1) P _ (HA9.out.kept0 HD9.out).sc (HA9.out.kept0 HD9.out).rr HA9.out.ok).mono ?_; rintro e w10 ⟨rfl, y10⟩; have X9 := Lib.hid (HD9.out.then0 y10)))
              all_goals
                have HZ := Lib.hid (((HA9.out.kept0 X9.out).kept0 y11).more (v := ((k + 1 : Nat) : Int)) (by omega))
                clear y11 y10
                go_wp2
                go_roundw
                case rel => exact ⟨k + 1, g, s, gr, c, by omega, by go_num, rfl, HZ⟩
                case measure => simp only [intOf]; omega
          · as_aux_lemma =>
            by_cases hin : s.has P
            · obtain ⟨q, rfl⟩ : ∃ q : Nat, P = q := ⟨P.toNat, by have := hin.1; omega⟩
              obtain ⟨p, hp⟩ : ∃ p, s.ps[q]? = some p := ⟨_, List.getElem?_eq_getElem (by have := hin.2; omega)⟩
              have hK := bounce_calls w.heap.size g s k q p wr HA.out.sc HA.out.ok (by omega) hp HA.out.ext.size
              have hR := fun W (hW : RR w.heap.size W gr c s) => rcount_calls2 w.heap.size gr c s k q p W hW HA.out.ok (by omega) hp
              have hok' := HA.out.ok.count hp 2
              have hpos := count_pos 2 hp HA.out.act
              obtain ⟨s9, hs9⟩ : ∃ s9, s.count q 2 p = s9 := ⟨_, rfl⟩
              rw [hs9] at hK hok' hpos
              simp only [hs9] at hR
              unfold GivesR at hR
              have HK := Lib.hid hK
              have HR := Lib.hid hR
              have HP := Lib.hid hpos
              have HO := Lib.hid hok'
              clear hs9 hK hR hok' hpos hp hin
              go_wp2_with (go_at_call 8; refine HK.out.mono ?_; rintro e w6 ⟨rfl, hS, hE⟩; have HH := Lib.hid (HA.out.own (v := k + 1) (by omega) hS HO.out HP.out hE); clear hS hE)
              obtain ⟨b0, b1, f0, f1⟩ := HH.out.box.alls
              have n1 := HH.out.ext.cell C1.out (fun h => h)
              have HD := Lib.hid (Ext.refl N0 w6).drew
              obtain ⟨e0, e1, i0, i1⟩ := (HH.out.kept0 HD.out).box.alls
              have n2 := (HH.out.kept0 HD.out).ext.cell C1.out (fun h => h)
              clear HK HP
              go_wp2_with fail
              go_region_with (go_at_call 13; refine (HR.out _ (HH.out.kept0 HD.out).rr).mono ?_; rintro e w7 ⟨gn, cn, rfl, hR7, hE7⟩; have HA9 := Lib.hid (HH.out.put (HD.out.then0 hE7) (hR7.le (HH.out.kept0 HD.out).ext.size) HO.out hgb); obtain ⟨m0, m1, m2, m3⟩ := (HH.out.kept0 (HD.out.then0 hE7)).box.alls; clear hR7 hE7)
              all_goals
              clear b0 b1 f0 f1 e0 e1 i0 i1 m0 m1 m2 m3 n1 n2 c0 c1
              have HD9 := Lib.hid (Ext.refl N0 ((w7.setCell ⟨gb, 0, none⟩ (.int .i64 s9.rest)).setCell ⟨gb, 1, none⟩ (.slice (some ⟨gn, 0, none⟩) s9.ps.length cn))).drew
              obtain ⟨b0, b1, _, _⟩ := HA9.out.box.alls
              have n1 := HA9.out.ext.cell C1.out (fun h => h)
              have hact := HA9.out.act
              have hact' : ¬ (s9.act.length : Int) < 1 := by omega
              clear hact hcs
              go_wp2_with fail
              go_region_held3 (fun w' => w'.cell? ⟨gb, 0, none⟩ = some (.int .i64 s9.rest) ∧ w'.cell? ⟨gb, 1, none⟩ = some (.slice (some ⟨gn, 0, none⟩) s9.ps.length cn) ∧ w'.cell? ⟨(ad.add (k * 2)).block, (ad.add (k * 2)).off + 1, none⟩ = some (.int .i64 q)) (first | go_keep | (refine ⟨?_, ?_, ?_⟩ <;> exact y11.cell (by simp_all) (fun x => x)) | (refine ⟨?_, ?_, ?_⟩ <;> exact y10.cell (by simp_all) (fun x => x))) (first | (go_at_call 11; refine (active_calls w.heap.size g s9 (k + 1) _ (HA9.out.kept0 X9.out).sc HA9.out.ok).mono ?_; rintro e w11 ⟨A11, c11, rfl, _, y11⟩) | (go_at_call 19; refine (shows_calls w.heap.size w.heap.size g gn cn s9 (k + 1) q _ (HA9.out.kept0 HD9.out).sc (HA9.out.kept0 HD9.out).rr HA9.out.ok).mono ?_; rintro e w10 ⟨rfl, y10⟩; have X9 := Lib.hid (HD9.out.then0 y10)))
              all_goals
                have HZ := Lib.hid (((HA9.out.kept0 X9.out).kept0 y11).more (v := ((k + 1 : Nat) : Int)) (by omega))
                clear y11 y10
                go_wp2
                go_roundw
                case rel => exact ⟨k + 1, g, s9, gn, cn, by omega, by go_num, rfl, HZ⟩
                case measure => simp only [intOf]; omega
            · have HK := Lib.hid (bounce_out w.heap.size g s P wr HA.out.sc HA.out.ok.len.1 hin)
              have HR := Lib.hid (fun W (hW : RR w.heap.size W gr c s) => rcount_out w.heap.size gr c s P 2 W hW hin)
              obtain ⟨b0, b1, f0, f1⟩ := HA.out.box.alls
              have HD := Lib.hid (Ext.refl N0 wr).drew
              obtain ⟨e0, e1, i0, i1⟩ := (HA.out.kept0 HD.out).box.alls
              have n2 := (HA.out.kept0 HD.out).ext.cell C1.out (fun h => h)
              clear hin
              go_wp2_with (go_at_call 8; refine HK.out.mono ?_; rintro e w6 ⟨rfl, hw6⟩; subst hw6)
              go_region_with (go_at_call 13; refine (HR.out _ (HA.out.kept0 HD.out).rr).mono ?_; rintro e w7 ⟨rfl, hE7⟩; have HA9 := Lib.hid ((HA.out.put (HD.out.then0 hE7) (HA.out.kept0 (HD.out.then0 hE7)).rr HA.out.ok hgb).more (v := k + 1) (by omega)); obtain ⟨m0, m1, m2, m3⟩ := (HA.out.kept0 (HD.out.then0 hE7)).box.alls; clear hE7)
              all_goals
              clear b0 b1 f0 f1 e0 e1 i0 i1 m0 m1 m2 m3 n2 c0 c1
              have HD9 := Lib.hid (Ext.refl N0 ((w7.setCell ⟨gb, 0, none⟩ (.int .i64 s.rest)).setCell ⟨gb, 1, none⟩ (.slice (some ⟨gr, 0, none⟩) s.ps.length c))).drew
              obtain ⟨b0, b1, _, _⟩ := HA9.out.box.alls
              have n1 := HA9.out.ext.cell C1.out (fun h => h)
              have hact := HA9.out.act
              have hact' : ¬ (s.act.length : Int) < 1 := by omega
              clear hact hcs
              go_wp2_with fail
              go_region_held3 (fun w' => w'.cell? ⟨gb, 0, none⟩ = some (.int .i64 s.rest) ∧ w'.cell? ⟨gb, 1, none⟩ = some (.slice (some ⟨gr, 0, none⟩) s.ps.length c) ∧ w'.cell? ⟨(ad.add (k * 2)).block, (ad.add (k * 2)).off + 1, none⟩ = some (.int .i64 P)) (first | go_keep | (refine ⟨?_, ?_, ?_⟩ <;> exact y11.cell (by simp_all) (fun x => x)) | (refine ⟨?_, ?_, ?_⟩ <;> exact y10.cell (by simp_all) (fun x => x))) (first | (go_at_call 11; refine (active_calls w.heap.size g s (k + 1) _ (HA9.out.kept0 X9.out).sc HA9.out.ok).mono ?_; rintro e w11 ⟨A11, c11, rfl, _, y11⟩) | (go_at_call 19; refine (shows_calls w.heap.size w.heap.size g gr c s (k + 1) P _ (HA9.out.kept0 HD9.out).sc (HA9.out.kept0 HD9.out).rr HA9.out.ok).mono ?_; rintro e w10 ⟨rfl, y10⟩; have X9 := Lib.hid (HD9.out.then0 y10)))
              all_goals
                have HZ := Lib.hid (((HA9.out.kept0 X9.out).kept0 y11).more (v := ((k + 1 : Nat) : Int)) (by omega))
                clear y11 y10
                go_wp2
                go_roundw
                case rel => exact ⟨k + 1, g, s, gr, c, by omega, by go_num, rfl, HZ⟩
                case measure => simp only [intOf]; omega
          · as_aux_lemma =>
            have hR := rtick2 w.heap.size gr c s k wr HA.out.rr HA.out.ok
            have hT := fun W (hb : w.heap.size ≤ W.heap.size) (hW : IsSc w.heap.size W g s) => tick_calls w.heap.size g s k W hW HA.out.ok hb
            have hok9 := HA.out.ok.tick
            have hpos := tick_pos HA.out.act
            have hbl : (s.backP s.ps.length).length ≤ 1000 := Nat.le_trans (s.backP_len _) (by omega)
            obtain ⟨s9, hs9⟩ : ∃ s9, s.tick = s9 := ⟨_, rfl⟩
            simp only [hs9] at hR hT hok9 hpos
            obtain ⟨bk, hbk⟩ : ∃ bk, s.backP s.ps.length = bk := ⟨_, rfl⟩
            simp only [hbk] at hR hT hbl
            have HR := Lib.hid hR
            have HT := Lib.hid hT
            have HO := Lib.hid hok9
            have HP := Lib.hid hpos
            have HB := Lib.hid hbl
            clear hs9 hR hT hok9 hpos hbk hbl
            obtain ⟨b0, b1, f0, f1⟩ := HA.out.box.alls
            go_wp2_with fail
            refine HR.out.mono ?_
            rintro e w6 ⟨gn, cn, A6, c6, rfl, hR6, ho6, hE6⟩
            have hE8 : Ext N0 wr (w6.alloc (.cells #[.int .i64 s9.rest, .slice (some ⟨gn, 0, none⟩) s9.ps.length cn] 37)) := hE6.alloc _
            obtain ⟨m0, m1, m2, m3⟩ := (HA.out.kept0 hE8).box.alls
            have hA8 := HA.out.put hE8 ((hR6.le HA.out.ext.size).kept0 ((Ext.refl _ _).alloc _)) HO.out hgb
            have ho8 := ownKept (ownKept0 ho6 ((Ext.refl N0 w6).alloc (.cells #[.int .i64 s9.rest, .slice (some ⟨gn, 0, none⟩) s9.ps.length cn] 37))) (boxExt _ gb (.int .i64 s9.rest) (.slice (some ⟨gn, 0, none⟩) s9.ps.length cn)) (fun x hx hs => ownNeBlk (ownKept0 ho6 ((Ext.refl N0 w6).alloc _)) (HA.out.kept0 hE8).box (by decide) x hx hs)
            have HA8 := Lib.hid hA8
            have HO8 := Lib.hid ho8
            clear hR6 ho6 hE6 hE8 hA8 ho8 b0 b1 f0 f1
            go_wp2_with fail
            refine (HT.out _ HA8.out.ext.size HA8.out.sc).mono ?_
            rintro e w10 ⟨A7, c7, rfl, ho7, hS7, hE7⟩
            have ho9 := ownKept HO8.out hE7 (ownTp HO8.out (by decide))
            have HA10 := Lib.hid (HA8.out.own (v := k + 1) (by omega) hS7 (HO.out.more (by omega)) HP.out hE7)
            have HR7 := Lib.hid (ownReads1 ho7)
            have HR9 := Lib.hid (ownReads1 ho9)
            clear ho7 ho9 hS7 hE7 m0 m1 m2 m3
            go_wp2_with fail
            refine (same_calls A7 A6 bk bk.length c7 c6 rfl _ HR7.out HR9.out HB.out).mono ?_
            rintro e w11 ⟨rfl, hE11⟩
            have HA9 := Lib.hid (HA10.out.kept0 hE11)
            clear hE11 c0 c1
            have HD9 := Lib.hid (Ext.refl N0 (w11)).drew
            obtain ⟨b0, b1, _, _⟩ := HA9.out.box.alls
            have n1 := HA9.out.ext.cell C1.out (fun h => h)
            have hact := HA9.out.act
            have hact' : ¬ (s9.act.length : Int) < 1 := by omega
            clear hact hcs
            go_wp2_with fail
            go_region_held3 (fun w' => w'.cell? ⟨gb, 0, none⟩ = some (.int .i64 s9.rest) ∧ w'.cell? ⟨gb, 1, none⟩ = some (.slice (some ⟨gn, 0, none⟩) s9.ps.length cn) ∧ w'.cell? ⟨(ad.add (k * 2)).block, (ad.add (k * 2)).off + 1, none⟩ = some (.int .i64 P)) (first | go_keep | (refine ⟨?_, ?_, ?_⟩ <;> exact y11.cell (by simp_all) (fun x => x)) | (refine ⟨?_, ?_, ?_⟩ <;> exact y10.cell (by simp_all) (fun x => x))) (first | (go_at_call 11; refine (active_calls w.heap.size g s9 (k + 1) _ (HA9.out.kept0 X9.out).sc HA9.out.ok).mono ?_; rintro e w11 ⟨A11, c11, rfl, _, y11⟩) | (go_at_call 19; refine (shows_calls w.heap.size w.heap.size g gn cn s9 (k + 1) P _ (HA9.out.kept0 HD9.out).sc (HA9.out.kept0 HD9.out).rr HA9.out.ok).mono ?_; rintro e w10 ⟨rfl, y10⟩; have X9 := Lib.hid (HD9.out.then0 y10)))
            all_goals
              have HZ := Lib.hid (((HA9.out.kept0 X9.out).kept0 y11).more (v := ((k + 1 : Nat) : Int)) (by omega))
              clear y11 y10
              go_wp2
              go_roundw
              case rel => exact ⟨k + 1, g, s9, gn, cn, by omega, by go_num, rfl, HZ⟩
              case measure => simp only [intOf]; omega
          · as_aux_lemma =>
            have hR := fun W hW => rclear2 w.heap.size gr c s k W hW HA.out.ok
            have hT := clear_calls w.heap.size g s k wr HA.out.sc HA.out.ok
            have hok9 := HA.out.ok.clear (by omega)
            have hpos := clear_pos HA.out.act
            obtain ⟨s9, hs9⟩ : ∃ s9, s.clear = s9 := ⟨_, rfl⟩
            simp only [hs9] at hR hT hok9 hpos
            have HR := Lib.hid hR
            have HT := Lib.hid hT
            have HO := Lib.hid hok9
            have HP := Lib.hid hpos
            clear hs9 hR hT hok9 hpos
            go_wp2_with fail
            refine HT.out.mono ?_
            rintro e w6 ⟨rfl, hS6, hE6⟩
            have HH := Lib.hid (HA.out.own (Int.le_refl _) hS6 HO.out HP.out hE6)
            clear hS6 hE6
            obtain ⟨b0, b1, f0, f1⟩ := HH.out.box.alls
            go_wp2_with fail
            refine (HR.out _ HH.out.rr).mono ?_
            rintro e w7 ⟨gn, cn, rfl, hR7, hE7⟩
            obtain ⟨m0, m1, m2, m3⟩ := (HH.out.kept0 hE7).box.alls
            have HA9 := Lib.hid ((HH.out.put hE7 (hR7.le HH.out.ext.size) HO.out hgb).more (v := k + 1) (by omega))
            clear hR7 hE7 b0 b1 f0 f1 c0 c1
            have HD9 := Lib.hid (Ext.refl N0 ((w7.setCell ⟨gb, 0, none⟩ (.int .i64 s9.rest)).setCell ⟨gb, 1, none⟩ (.slice (some ⟨gn, 0, none⟩) s9.ps.length cn))).drew
            obtain ⟨b0, b1, _, _⟩ := HA9.out.box.alls
            have n1 := HA9.out.ext.cell C1.out (fun h => h)
            have hact := HA9.out.act
            have hact' : ¬ (s9.act.length : Int) < 1 := by omega
            clear hact hcs
            go_wp2_with fail
            go_region_held3 (fun w' => w'.cell? ⟨gb, 0, none⟩ = some (.int .i64 s9.rest) ∧ w'.cell? ⟨gb, 1, none⟩ = some (.slice (some ⟨gn, 0, none⟩) s9.ps.length cn) ∧ w'.cell? ⟨(ad.add (k * 2)).block, (ad.add (k * 2)).off + 1, none⟩ = some (.int .i64 P)) (first | go_keep | (refine ⟨?_, ?_, ?_⟩ <;> exact y11.cell (by simp_all) (fun x => x)) | (refine ⟨?_, ?_, ?_⟩ <;> exact y10.cell (by simp_all) (fun x => x))) (first | (go_at_call 11; refine (active_calls w.heap.size g s9 (k + 1) _ (HA9.out.kept0 X9.out).sc HA9.out.ok).mono ?_; rintro e w11 ⟨A11, c11, rfl, _, y11⟩) | (go_at_call 19; refine (shows_calls w.heap.size w.heap.size g gn cn s9 (k + 1) P _ (HA9.out.kept0 HD9.out).sc (HA9.out.kept0 HD9.out).rr HA9.out.ok).mono ?_; rintro e w10 ⟨rfl, y10⟩; have X9 := Lib.hid (HD9.out.then0 y10)))
            all_goals
              have HZ := Lib.hid (((HA9.out.kept0 X9.out).kept0 y11).more (v := ((k + 1 : Nat) : Int)) (by omega))
              clear y11 y10
              go_wp2
              go_roundw
              case rel => exact ⟨k + 1, g, s9, gn, cn, by omega, by go_num, rfl, HZ⟩
              case measure => simp only [intOf]; omega
          · as_aux_lemma =>
            have HF := Lib.hid (fork_calls w.heap.size g s k wr HA.out.sc HA.out.ok)
            obtain ⟨p0, hp0⟩ : ∃ p, s.ps[0]? = some p := ⟨_, List.getElem?_eq_getElem (by omega)⟩
            obtain ⟨gp, co, hS⟩ := HA.out.sc
            have hgp : gp < wr.heap.size := by obtain ⟨cs, fr, he⟩ := hS.pblk; exact blkLt he
            have HB := Lib.hid (fun W (hE : Ext N0 wr W) => bounce_at w.heap.size g gp co s k 0 p0 W (hS.kept0 hE) HA.out.ok (by omega) hp0 (Nat.le_trans HA.out.ext.size hE.size))
            have HS := Lib.hid hS
            clear hS hp0
            go_wp2_with fail
            refine HF.out.mono ?_
            rintro e w6 ⟨g9, rfl, hS6, hE6⟩
            have HS6 := Lib.hid hS6
            have HE6 := Lib.hid hE6
            clear hS6 hE6
            go_wp2_with fail
            refine (HB.out _ HE6.out).mono ?_
            rintro e w7 ⟨rfl, _, hX⟩
            have HA9 := Lib.hid ((HA.out.fork HS6.out HE6.out hgp HS.out.hp (HS.out.kept0 HE6.out).pblk hX).more (v := k + 1) (by omega))
            clear hX hgp c0 c1
            have HD9 := Lib.hid (Ext.refl N0 (w7)).drew
            obtain ⟨b0, b1, _, _⟩ := HA9.out.box.alls
            have n1 := HA9.out.ext.cell C1.out (fun h => h)
            have hact := HA9.out.act
            have hact' : ¬ (s.act.length : Int) < 1 := by omega
            clear hact hcs
            go_wp2_with fail
            go_region_held3 (fun w' => w'.cell? ⟨gb, 0, none⟩ = some (.int .i64 s.rest) ∧ w'.cell? ⟨gb, 1, none⟩ = some (.slice (some ⟨gr, 0, none⟩) s.ps.length c) ∧ w'.cell? ⟨(ad.add (k * 2)).block, (ad.add (k * 2)).off + 1, none⟩ = some (.int .i64 P)) (first | go_keep | (refine ⟨?_, ?_, ?_⟩ <;> exact y11.cell (by simp_all) (fun x => x)) | (refine ⟨?_, ?_, ?_⟩ <;> exact y10.cell (by simp_all) (fun x => x))) (first | (go_at_call 11; refine (active_calls w.heap.size g9 s (k + 1) _ (HA9.out.kept0 X9.out).sc HA9.out.ok).mono ?_; rintro e w11 ⟨A11, c11, rfl, _, y11⟩) | (go_at_call 19; refine (shows_calls w.heap.size w.heap.size g9 gr c s (k + 1) P _ (HA9.out.kept0 HD9.out).sc (HA9.out.kept0 HD9.out).rr HA9.out.ok).mono ?_; rintro e w10 ⟨rfl, y10⟩; have X9 := Lib.hid (HD9.out.then0 y10)))
            all_goals
              have HZ := Lib.hid (((HA9.out.kept0 X9.out).kept0 y11).more (v := ((k + 1 : Nat) : Int)) (by omega))
              clear y11 y10
              go_wp2
              go_roundw
              case rel => exact ⟨k + 1, g9, s, gr, c, by omega, by go_num, rfl, HZ⟩
              case measure => simp only [intOf]; omega
        · have h6' : ¬ (k : Int) < 80 := by omega
          go_wp2
          go_ret
          exact ⟨rfl, HA.out.ext.below⟩
      · have hl' : ¬ (k : Int) < len2 := by omega
        go_wp2
        go_ret
        exact ⟨rfl, HA.out.ext.below⟩
  · have HN := Lib.hid (new_bad a0 a1 w hgood)
    have HM := Lib.hid (fun W => rnew_bad a0 a1 W hgood)
    clear hgood
    go_enter Try.func4, Try.ntmps4
    go_wp2_with fail
    refine HN.out.mono ?_
    rintro e w1 ⟨rfl, rfl⟩
    go_wp2_with fail
    refine (HM.out _).mono ?_
    rintro e w2 ⟨rfl, hE⟩
    go_wp2_with fail
    refine (awake_calls _).mono ?_
    rintro e w3 ⟨rfl, hE3⟩
    have HE := Lib.hid ((hE.alloc (.cells #[.int .i64 0, .slice none 0 0] 37)).then0 hE3)
    clear hE hE3
    rcases Nat.eq_zero_or_pos len2 with hl | hl
    · subst hl
      go_wp2_with fail
      go_loopw [7, 11] (fun pa i wr => pa = .pointer none ∧ i = .int .i64 0 ∧ wr = w3) (fun _ _ _ => 0)
      case atStart => exact ⟨rfl, rfl, rfl⟩
      case round =>
        obtain ⟨rfl, rfl, rfl⟩ := hrel
        go_wp2
        go_ret
        exact ⟨rfl, HE.out.below⟩
    · have hl' : (0 : Int) < len2 := by omega
      have hd : decide ((0 : Int) < len2) = true := decide_eq_true hl'
      go_wp2_with fail
      go_loopw [7, 11] (fun pa i wr => pa = .pointer none ∧ i = .int .i64 0 ∧ wr = w3) (fun _ _ _ => 0)
      case atStart => exact ⟨rfl, rfl, rfl⟩
      case round =>
        obtain ⟨rfl, rfl, rfl⟩ := hrel
        go_wp2
        go_ret
        exact ⟨rfl, HE.out.below⟩
end scoreRuns
end Go.Proofs.Ytkkcdijnhegneaa
