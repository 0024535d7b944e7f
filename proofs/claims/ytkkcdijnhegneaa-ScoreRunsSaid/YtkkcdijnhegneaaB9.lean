/- 'Tick' and 'Clear' of the document's answer for package score, proved for every value that its statement lets in (the conditions stand in the statements). -/
import Derived.Test.YtkkcdijnhegneaaB8
namespace Go.Proofs.Ytkkcdijnhegneaa
open Go.RowKit
theorem Mid.made {w w2 : World} {gr c cn : Nat} {s : Sc} {An : Option Addr} (hlen : 1 ≤ s.ps.length ∧ s.ps.length ≤ 8)
    (ho : w2.ownsRow w.heap.size 61 4 (.slice An (0 + s.ps.length) cn) (0 + s.ps.length) ([] ++ rcCells s.ps))
    (hE : Ext (fun k => (Value.slice (some ⟨w.heap.size + 1 + 1, 0, none⟩) 0 0).ownBlock = some k) (((w.alloc (.cells #[.int .i64 s.rest, .slice (some ⟨gr, 0, none⟩) s.ps.length c] 37)).alloc (.cells #[.int .i64 0, .slice none 0 0] 37)).alloc (.cells #[] 61)) w2) :
    ∃ gn, An = some ⟨gn, 0, none⟩ ∧ Mid w (w2.setCell ⟨w.heap.size, 1, none⟩ (.slice (some ⟨gn, 0, none⟩) s.ps.length cn)) gn cn s s := by
  simp only [Nat.zero_add, List.nil_append] at ho
  have hb2 := hE.blk (blkAlloc (blkAlloc (blkNew w (.cells #[.int .i64 s.rest, .slice (some ⟨gr, 0, none⟩) s.ps.length c] 37)) (.cells #[.int .i64 0, .slice none 0 0] 37)) (.cells #[] 61)) (not_own2 w.heap.size 0 0)
  obtain ⟨gn, cap, hvv, hgb, hgl⟩ := ho.form (by omega)
  injection hvv with hv1 hv2 hv3
  subst hv1
  have hc2 := hE.blk (blkAlloc (blkNewG (w.alloc (.cells #[.int .i64 s.rest, .slice (some ⟨gr, 0, none⟩) s.ps.length c] 37)) (.cells #[.int .i64 0, .slice none 0 0] 37) (g := w.heap.size + 1) (by simp)) (.cells #[] 61)) (not_own1 w.heap.size 0 0)
  have hX2 : Ext N0 w w2 := ((((Ext.refl _ _).alloc _).alloc _).alloc _).trans hE (fun x hx => .inr (by have := own_is hx; omega))
  have hs3 : Ext (At w.heap.size) w2 (w2.setCell ⟨w.heap.size, 1, none⟩ (.slice (some ⟨gn, 0, none⟩) s.ps.length cn)) := (Ext.refl (At w.heap.size) w2).setCell (p := ⟨w.heap.size, 1, none⟩) (.inl (show w.heap.size = w.heap.size from rfl)) _
  have hb3 := (blkSet hb2 1 (.slice (some ⟨gn, 0, none⟩) s.ps.length cn)).trans (by simp : _ = some (Obj.cells #[.int .i64 s.rest, .slice (some ⟨gn, 0, none⟩) s.ps.length cn] 37 (0, 0)))
  exact ⟨gn, rfl, ownKept ho hs3 (fun x hx hh => ownNeBlk ho hb2 (by decide) x hx hh), hb3, blkFar hc2 (p := ⟨w.heap.size, 1, none⟩) (show w.heap.size + 1 ≠ w.heap.size by omega) _, hX2.trans hs3 (fun x hx => .inr (by have hx : x = w.heap.size := hx; omega))⟩
theorem Mid.set {w w4 : World} {gn cn : Nat} {s s1 : Sc} (h : Mid w w4 gn cn s s1) {k : Nat} {p : Pa} (hp : s1.ps[k]? = some p) (j : Nat) (hj : j < 4) (v : Value) (p' : Pa) (hv : (rCells p).set j v = rCells p') :
    Mid w (w4.setCell ⟨gn, k * 4 + j, none⟩ v) gn cn s (s1.setP k p') := by
  obtain ⟨h1, h2⟩ := h.row.set hp j hj v p' hv
  have hb := (ownBase h.row gn rfl).1
  exact ⟨h1, h2.blk h.box (fun hs => ownNeBlk h.row h.box (by decide) gn rfl hs.symm), h2.blk h.res (fun hs => ownNeBlk h.row h.res (by decide) gn rfl hs.symm), h.ext.trans h2 (fun x hx => .inr (by have hx : x = gn := hx; omega))⟩
set_option maxRecDepth 100000 in
set_option maxHeartbeats 2000000 in
theorem rclear_calls (base gr c : Nat) (s : Sc) (u : Int) (w : World) (h : RR base w gr c s) (hok : s.Ok u) :
    Calls Try.prog 17 #[.agg #[.int .i64 s.rest, .slice (some ⟨gr, 0, none⟩) s.ps.length c]] w fun e w' => ∃ gn cn, e = .returned (.agg #[.int .i64 s.rest, .slice (some ⟨gn, 0, none⟩) s.ps.length cn]) ∧ RR w.heap.size w' gn cn s.clear ∧ Ext N0 w w' := by
  have hlen := hok.len
  have hE0 : Ext N0 w (((w.alloc (.cells #[.int .i64 s.rest, .slice (some ⟨gr, 0, none⟩) s.ps.length c] 37)).alloc (.cells #[.int .i64 0, .slice none 0 0] 37)).alloc (.cells #[] 61)) := (((Ext.refl _ _).alloc _).alloc _).alloc _
  have hrd := ownReadsN (h.kept0 hE0) (by omega)
  have HRD := Lib.hid hrd
  have hrl := rcCells_len s.ps
  clear h hrd hE0 hok
  go_enter Try.func17, Try.ntmps17
  go_wp2_with (at_builtin; refine wpApp w.heap.size (.tmp 4) (.tmp 6) 35 61 (.agg #[.int .i64 0, .int .i64 0, .int .i64 0, .int .i64 0]) 4 32 rfl rfl Try.underlying35 info61 rfl (by decide) (by decide) (.slice (some ⟨w.heap.size + 1 + 1, 0, none⟩) 0 0) 0 [] _ s.ps.length _ (rcCells s.ps) rfl rfl (ownLitG ((w.alloc (.cells #[.int .i64 s.rest, .slice (some ⟨gr, 0, none⟩) s.ps.length c] 37)).alloc (.cells #[.int .i64 0, .slice none 0 0] 37)) w.heap.size 61 4 #[] 0 (by simp) (by omega) (by decide) rfl) hrl HRD.out (rc_one _) (by omega) (by simp; omega) ?_; intro An cn w2 ho2 hE2 _; have hb2 := hE2.blk (blkAlloc (blkAlloc (blkNew w (.cells #[.int .i64 s.rest, .slice (some ⟨gr, 0, none⟩) s.ps.length c] 37)) (.cells #[.int .i64 0, .slice none 0 0] 37)) (.cells #[] 61)) (not_own2 w.heap.size 0 0); have e1 := (blkCell hb2 1).trans rfl; have f1 := blkFrozen hb2 1; simp at e1; obtain ⟨gn, rfl, hM⟩ := Mid.made hlen ho2 hE2; have HM := Lib.hid hM; clear ho2 hE2 hb2 hM)
  go_loopw [3] (fun v wr => ∃ (i : Nat), v = .int .i64 i ∧ i ≤ s.ps.length ∧ Hid (Mid w wr gn cn s ⟨clearP s.ps i, s.rest⟩)) (fun v _ => s.ps.length - (intOf v).toNat)
  case atStart => exact ⟨0, rfl, by omega, Lib.hid (by simpa [clearP] using HM.out)⟩
  case round =>
    clear HM e1 f1
    obtain ⟨i, rfl, hi, HM⟩ := hrel
    have c1 := (blkCell HM.out.box 1).trans rfl
    simp at c1
    by_cases hlt : i < s.ps.length
    · have hlt' : (i : Int) < s.ps.length := by omega
      obtain ⟨p, hp⟩ : ∃ p, s.ps[i]? = some p := ⟨_, List.getElem?_eq_getElem hlt⟩
      have hp' : (clearP s.ps i)[i]? = some p := (clearP_get hlt).trans hp
      obtain ⟨_, q1, q2, q3⟩ := HM.out.row.path hp'
      have f1 := HM.out.row.frozenAt (i * 4 + 1)
      have f2 := HM.out.row.frozenAt (i * 4 + 2)
      have f3 := HM.out.row.frozenAt (i * 4 + 3)
      have m1 := HM.out.set hp' 1 (by decide) (.int .i64 0) { p with a := 0 } rfl
      have hl1 : i < (clearP s.ps i).length := by rw [clearP_len]; exact hlt
      have p1 : ((⟨clearP s.ps i, s.rest⟩ : Sc).setP i { p with a := 0 }).ps[i]? = some { p with a := 0 } := by simp [Sc.setP, hl1]
      have m2 := m1.set p1 2 (by decide) (.int .i64 0) { p with a := 0, n := 0 } rfl
      have p2 : (((⟨clearP s.ps i, s.rest⟩ : Sc).setP i { p with a := 0 }).setP i { p with a := 0, n := 0 }).ps[i]? = some { p with a := 0, n := 0 } := by simp [Sc.setP, hl1]
      have m3 := m2.set p2 3 (by decide) (.int .i64 0) p.clear rfl
      have e2 := clearP_set hp
      have hfin : (((⟨clearP s.ps i, s.rest⟩ : Sc).setP i { p with a := 0 }).setP i { p with a := 0, n := 0 }).setP i p.clear = ⟨clearP s.ps (i + 1), s.rest⟩ := by rw [← e2]; simp [Sc.setP]
      rw [hfin] at m3
      have HM3 := Lib.hid m3
      clear m1 m2 m3 hp hp' p1 p2 e2 hfin hl1
      go_wp2
      go_roundw
      case rel => exact ⟨i + 1, by go_num, by omega, HM3⟩
      case measure => simp only [intOf]; omega
    · have hlt' : ¬ (i : Int) < s.ps.length := by omega
      obtain rfl : i = s.ps.length := by omega
      have c0 := (blkCell HM.out.box 0).trans rfl
      have fr0 := blkFrozen HM.out.res 0
      have fr1 := blkFrozen HM.out.res 1
      have cr0 := (blkCell HM.out.res 0).trans rfl
      have cr1 := (blkCell HM.out.res 1).trans rfl
      simp at c0 cr0 cr1
      go_wp2
      obtain ⟨k0, k1, rr, ex⟩ := HM.out.done (by simp [clearP_len]) rfl
      refine bodyPost_ret (v := .agg #[.int .i64 s.rest, .slice (some ⟨gn, 0, none⟩) s.ps.length cn]) (by simp [results, Try.results17, go_sem, k0, k1]) rfl ⟨gn, cn, rfl, ?_, ex⟩
      simpa [clearP, Sc.clear] using rr
set_option maxRecDepth 100000 in
set_option maxHeartbeats 2000000 in
theorem rtick_calls (base gr c : Nat) (s : Sc) (u : Int) (w : World) (h : RR base w gr c s) (hok : s.Ok u) :
    Calls Try.prog 14 #[.agg #[.int .i64 s.rest, .slice (some ⟨gr, 0, none⟩) s.ps.length c]] w fun e w' => ∃ gn cn A c2, e = .returned (.tuple #[.agg #[.int .i64 s.rest, .slice (some ⟨gn, 0, none⟩) s.ps.length cn], .slice A (s.backP s.ps.length).length c2]) ∧ RR w.heap.size w' gn cn s.tick ∧ w'.ownsRow w.heap.size 3 1 (.slice A (s.backP s.ps.length).length c2) (s.backP s.ps.length).length (nats (s.backP s.ps.length)) ∧ Ext N0 w w' := by
  have hlen := hok.len
  have hE0 : Ext N0 w (((w.alloc (.cells #[.int .i64 s.rest, .slice (some ⟨gr, 0, none⟩) s.ps.length c] 37)).alloc (.cells #[.int .i64 0, .slice none 0 0] 37)).alloc (.cells #[] 61)) := (((Ext.refl _ _).alloc _).alloc _).alloc _
  have hrd := ownReadsN (h.kept0 hE0) (by omega)
  have HRD := Lib.hid hrd
  have hrl := rcCells_len s.ps
  have hrest := hok.rest
  have HN2 := Lib.hid hok.num
  clear h hrd hE0 hok
  go_enter Try.func14, Try.ntmps14
  go_wp2_with (at_builtin; refine wpApp w.heap.size (.tmp 6) (.tmp 8) 35 61 (.agg #[.int .i64 0, .int .i64 0, .int .i64 0, .int .i64 0]) 4 32 rfl rfl Try.underlying35 info61 rfl (by decide) (by decide) (.slice (some ⟨w.heap.size + 1 + 1, 0, none⟩) 0 0) 0 [] _ s.ps.length _ (rcCells s.ps) rfl rfl (ownLitG ((w.alloc (.cells #[.int .i64 s.rest, .slice (some ⟨gr, 0, none⟩) s.ps.length c] 37)).alloc (.cells #[.int .i64 0, .slice none 0 0] 37)) w.heap.size 61 4 #[] 0 (by simp) (by omega) (by decide) rfl) hrl HRD.out (rc_one _) (by omega) (by simp; omega) ?_; intro An cn w2 ho2 hE2 _; have hb2 := hE2.blk (blkAlloc (blkAlloc (blkNew w (.cells #[.int .i64 s.rest, .slice (some ⟨gr, 0, none⟩) s.ps.length c] 37)) (.cells #[.int .i64 0, .slice none 0 0] 37)) (.cells #[] 61)) (not_own2 w.heap.size 0 0); have e1 := (blkCell hb2 1).trans rfl; have f1 := blkFrozen hb2 1; simp at e1; obtain ⟨gn, rfl, hM⟩ := Mid.made hlen ho2 hE2; have HM := Lib.hid hM; clear ho2 hE2 hb2 hM)
  go_loopw [4, 5] (fun l v wr => ∃ (i : Nat) (A : Option Addr) (c2 : Nat), v = .int .i64 i ∧ i ≤ s.ps.length ∧ l = .slice A (s.backP i).length c2 ∧ Hid (wr.ownsRow w.heap.size 3 1 (.slice A (s.backP i).length c2) (s.backP i).length (nats (s.backP i))) ∧ Hid (Mid w wr gn cn s ⟨tickP s.ps i, s.rest⟩)) (fun _ v _ => s.ps.length - (intOf v).toNat)
  case atStart => exact ⟨0, none, 0, rfl, by omega, rfl, Lib.hid (ownNil _ _ _ _), Lib.hid (by simpa [tickP] using HM.out)⟩
  case round =>
    clear HM e1 f1
    obtain ⟨i, A, c2, rfl, hi, rfl, HO, HM⟩ := hrel
    have c1 := (blkCell HM.out.box 1).trans rfl
    simp at c1
    have hbl := s.backP_len i
    have hsz := HM.out.ext.size
    obtain ⟨k, hk⟩ : ∃ k, (s.backP i).length = k := ⟨_, rfl⟩
    rw [hk] at HO hbl
    simp only [hk]
    by_cases hlt : i < s.ps.length
    · have hlt' : (i : Int) < s.ps.length := by omega
      obtain ⟨p, hp⟩ : ∃ p, s.ps[i]? = some p := ⟨_, List.getElem?_eq_getElem hlt⟩
      have hp' : (tickP s.ps i)[i]? = some p := (tickP_get hlt).trans hp
      have hr := (HN2.out p (List.mem_of_getElem? hp)).2.2.2
      obtain ⟨q0, _⟩ := HM.out.row.path hp'
      have f0 := HM.out.row.frozenAt (i * 4)
      have hst := Sc.backP_step hp
      have HK := Lib.hid hk
      by_cases h0 : 0 < p.r
      · have m1 := HM.out.set hp' 0 (by decide) (.int .i64 (p.r - 1)) p.tick (by unfold Pa.tick; rw [if_neg (by omega)]; rfl)
        have e2 := tickP_set hp
        have hfin : (⟨tickP s.ps i, s.rest⟩ : Sc).setP i p.tick = ⟨tickP s.ps (i + 1), s.rest⟩ := by rw [← e2]; rfl
        rw [hfin] at m1
        have hO2 : (wr.setCell ⟨gn, i * 4, none⟩ (.int .i64 (p.r - 1))).ownsRow w.heap.size 3 1 (.slice A k c2) k (nats (s.backP i)) := ownKept HO.out ((Ext.refl (At gn) wr).setCell (p := ⟨gn, i * 4, none⟩) (.inl (show gn = gn from rfl)) _) (fun x hx hs => by
          obtain ⟨cs, fr, hq⟩ := HM.out.row.pblk
          exact ownNeBlk HO.out hq (by decide) x hx hs)
        have HM1 := Lib.hid m1
        have HO2 := Lib.hid hO2
        by_cases h1 : p.r = 1
        · have e1 : s.backP (i + 1) = s.backP i ++ [i] := by rw [hst, if_pos h1]
          have E1 := Lib.hid e1
          have hr0 : p.r - 1 = 0 := by omega
          rw [hr0] at HM1 HO2
          clear e1 e2 hst hp hp' hk m1 hO2 hfin
          go_wp2_with (at_builtin; refine wpApp w.heap.size (.tmp 41) (.tmp 43) 32 3 (.int .i64 0) 1 8 rfl rfl Try.underlying32 info3 rfl (by decide) (by decide) (.slice A k c2) k (nats (s.backP i)) _ 1 _ [.int .i64 (i : Int)] rfl rfl (ownKept0 HO2.out ((Ext.refl _ _).alloc _)) rfl (litReadsG (wr.setCell ⟨gn, i * 4, none⟩ (.int .i64 0)) [.int .i64 (i : Int)] 3 (g := wr.heap.size) (by simp) (by simp)) (by simp [Value.oneCell']) (by omega) (by simp; omega) ?_; intro A5 c5 w5 ho5 hE5 _; have HO5 := Lib.hid ho5; have HE5 := Lib.hid hE5; clear ho5 hE5)
          have hal : Ext N0 (wr.setCell ⟨gn, i * 4, none⟩ (.int .i64 0)) ((wr.setCell ⟨gn, i * 4, none⟩ (.int .i64 0)).alloc (.cells [Value.int .i64 (i : Int)].toArray 3)) := (Ext.refl _ _).alloc _
          have hM6 : Mid w w5 gn cn s ⟨tickP s.ps (i + 1), s.rest⟩ := by
            have h6 := HM1.out.kept0 hal
            have ho6 := ownKept0 HO2.out hal
            exact ⟨ownKept h6.row HE5.out (fun x hx => ownNe h6.row ho6 (by decide) x hx), HE5.out.blk h6.box (fun hs => ownNeBlk ho6 h6.box (by decide) _ hs rfl), HE5.out.blk h6.res (fun hs => ownNeBlk ho6 h6.res (by decide) _ hs rfl), h6.ext.trans HE5.out (fun x hx => .inr (ownBase HO2.out x hx).1)⟩
          have hlk : (s.backP (i + 1)).length = k + 1 := by rw [E1.out, List.length_append, HK.out]; rfl
          have hnl : nats (s.backP i) ++ [.int .i64 (i : Int)] = nats (s.backP (i + 1)) := by rw [E1.out]; simp [nats]
          have HLK := Lib.hid hlk
          have HNL := Lib.hid hnl
          have HM6 := Lib.hid hM6
          clear hal hM6 hlk hnl
          go_roundw
          case rel => exact ⟨i + 1, A5, c5, by go_num, by omega, by rw [HLK.out], Lib.hid (by rw [HLK.out, ← HNL.out]; exact HO5.out), HM6⟩
          case measure => simp only [intOf]; omega
        · have e1 : s.backP (i + 1) = s.backP i := by rw [hst, if_neg h1]; simp
          have E1 := Lib.hid e1
          have hr0 : ¬ p.r - 1 = 0 := by omega
          clear e1 e2 hst hp hp' hk m1 hO2 hfin
          go_wp2
          go_roundw
          case rel => exact ⟨i + 1, A, c2, by go_num, by omega, by rw [E1.out, HK.out], Lib.hid (by rw [E1.out, HK.out]; exact HO2.out), HM1⟩
          case measure => simp only [intOf]; omega
      · have hr00 : p.r = 0 := by omega
        have e1 : s.backP (i + 1) = s.backP i := by rw [hst, if_neg (by omega)]; simp
        have e2 := tickP_same hp hr00
        have E1 := Lib.hid e1
        have E2 := Lib.hid e2
        clear e1 e2 hst hp hp' hk
        go_wp2
        go_roundw
        case rel => exact ⟨i + 1, A, c2, by go_num, by omega, by rw [E1.out, HK.out], Lib.hid (by rw [E1.out, HK.out]; exact HO.out), Lib.hid (by rw [E2.out]; exact HM.out)⟩
        case measure => simp only [intOf]; omega
    · have hlt' : ¬ (i : Int) < s.ps.length := by omega
      obtain rfl : i = s.ps.length := by omega
      have HK := Lib.hid hk
      have c0 := (blkCell HM.out.box 0).trans rfl
      have fr0 := blkFrozen HM.out.res 0
      have fr1 := blkFrozen HM.out.res 1
      have cr0 := (blkCell HM.out.res 0).trans rfl
      have cr1 := (blkCell HM.out.res 1).trans rfl
      simp at c0 cr0 cr1
      clear hk
      go_wp2
      obtain ⟨k0, k1, rr, ex⟩ := HM.out.done (by simp [tickP_len]) rfl
      refine bodyPost_ret (v := .tuple #[.agg #[.int .i64 s.rest, .slice (some ⟨gn, 0, none⟩) s.ps.length cn], .slice A k c2]) (by simp [results, Try.results14, go_sem, k0, k1]) rfl ⟨gn, cn, A, c2, by rw [HK.out], ?_, ?_, ex⟩
      · simpa [tickP, Sc.tick] using rr
      · rw [HK.out]
        obtain ⟨_, hx⟩ := set2 (x := .int .i64 s.rest) (y := .slice (some ⟨gn, 0, none⟩) s.ps.length cn) HM.out.res
        exact ownKept HO.out hx (fun x hx2 hs => ownNeBlk HO.out HM.out.res (by decide) x hx2 hs)
end Go.Proofs.Ytkkcdijnhegneaa
