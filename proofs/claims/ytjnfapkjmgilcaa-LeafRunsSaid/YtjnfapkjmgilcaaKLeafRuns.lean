/- The walk of the law LeafRuns: called with any values that fit its parameters, it returns true and nothing that was in memory before has changed. No other condition. -/
import Derived.Test.YtjnfapkjmgilcaaB10
import Derived.Test.YtjnfapkjmgilcaaF2
import Derived.Test.YtjnfapkjmgilcaaF3
import Derived.Deep.DeepCutAuto
import Derived.Deep.CutBlock
import Derived.Deep.RegionHeld3
namespace Go.Proofs.Ytjnfapkjmgilcaa
open Go.RowKit Go.ChangeShapes Go.WideShapes
namespace leafRuns
/-- What stands in memory. -/
structure St (w0 W : World) (g x l s h n : Nat) (L : List Bool) (A : Option Addr) (c : Nat) : Prop where
  len : L.length = n
  net : IsNet W g l s h L
  box : W.heap[x]? = some (.cells (nG l s h A n c) 42 (0, 0))
  row : W.ownsRow g 4 1 (.slice A n c) n (bv L)
  ext : Ext N0 w0 W
section
variable {w0 W W' : World} {g x l s h n c : Nat} {L : List Bool} {A : Option Addr}
theorem St.kept0 (k : St w0 W g x l s h n L A c) (hE : Ext N0 W W') : St w0 W' g x l s h n L A c := ⟨k.len, k.net.kept0 hE, hE.blk0 k.box, ownKept0 k.row hE, k.ext.then0 hE⟩
theorem St.rn (k : St w0 W g x l s h n L A c) : RN W l s h A L := ⟨ownReads1 k.row, k.net.len, k.net.lb, k.net.sb, k.net.hb⟩
theorem St.cells (k : St w0 W g x l s h n L A c) : (W.cell? ⟨x, 0, none⟩ = some (.int .i64 l) ∧ W.cell? ⟨x, 1, none⟩ = some (.int .i64 s) ∧ W.cell? ⟨x, 2, none⟩ = some (.int .i64 h) ∧ W.cell? ⟨x, 3, none⟩ = some (.slice A n c)) ∧ W.frozen? ⟨x, 0, none⟩ = false ∧ W.frozen? ⟨x, 1, none⟩ = false ∧ W.frozen? ⟨x, 2, none⟩ = false ∧ W.frozen? ⟨x, 3, none⟩ = false :=
  ⟨⟨(blkCell k.box 0).trans rfl, (blkCell k.box 1).trans rfl, (blkCell k.box 2).trans rfl, (blkCell k.box 3).trans rfl⟩, blkFrozen k.box 0, blkFrozen k.box 1, blkFrozen k.box 2, blkFrozen k.box 3⟩
/-- The code's network was turned. -/
theorem St.code (k : St w0 W g x l s h n L A c) (hg : g = w0.heap.size) {L' : List Bool} (h1 : IsNet W' g l s h L') (hE : Ext (At g) W W') : IsNet W' g l s h L' ∧ W'.heap[x]? = some (.cells (nG l s h A n c) 42 (0, 0)) ∧ W'.ownsRow g 4 1 (.slice A n c) n (bv L) ∧ Ext N0 w0 W' := by
  obtain ⟨⟨cs, hb, _⟩, _⟩ := k.net
  refine ⟨h1, hE.blk k.box (fun (e : x = g) => ?_), ownKept k.row hE (fun y hy (e : y = g) => ownNeBlk k.row hb (by decide) y hy e), k.ext.trans hE (fun y (hy : y = g) => .inr (by rw [hy, hg]; exact Nat.le_refl _))⟩
  have h2 := k.box
  rw [e, hb] at h2
  injection h2 with h2
  injection h2 with _ h2
  exact absurd h2 (by decide)
/-- The document's was turned, and put into its box. -/
theorem St.doc {L' : List Bool} {A' : Option Addr} {c' : Nat} (hl : L'.length = n) (hx : w0.heap.size ≤ x) (h1 : IsNet W g l s h L') (h2 : W.heap[x]? = some (.cells (nG l s h A n c) 42 (0, 0))) (h3 : W.ownsRow g 4 1 (.slice A' n c') n (bv L')) (h4 : Ext N0 w0 W) :
    St w0 ((((W.setCell ⟨x, 0, none⟩ (.int .i64 l)).setCell ⟨x, 1, none⟩ (.int .i64 s)).setCell ⟨x, 2, none⟩ (.int .i64 h)).setCell ⟨x, 3, none⟩ (.slice A' n c')) g x l s h n L' A' c' := by
  have hX : Ext (At x) W ((((W.setCell ⟨x, 0, none⟩ (.int .i64 l)).setCell ⟨x, 1, none⟩ (.int .i64 s)).setCell ⟨x, 2, none⟩ (.int .i64 h)).setCell ⟨x, 3, none⟩ (.slice A' n c')) := (((extSet _ _ _ _).same (extSet _ _ _ _)).same (extSet _ _ _ _)).same (extSet _ _ _ _)
  have hne : ¬ g = x := fun e => by
    obtain ⟨⟨cs, hb, _⟩, _⟩ := h1
    rw [e, h2] at hb
    injection hb with hb
    injection hb with _ hb
    exact absurd hb (by decide)
  refine ⟨hl, h1.kept hX (fun e => hne e), ?_, ownKept h3 hX (fun y hy (e : y = x) => ownNeBlk h3 h2 (by decide) y hy e), h4.trans hX (fun y (hy : y = x) => .inr (by rw [hy]; exact hx))⟩
  exact (blkSet (blkSet (blkSet (blkSet h2 0 (.int .i64 l)) 1 (.int .i64 s)) 2 (.int .i64 h)) 3 (.slice A' n c')).trans (by simp)
end
set_option maxRecDepth 100000 in
set_option maxHeartbeats 40000000 in
theorem walk (a0 a1 a2 : Int) (a3 : Option Addr) (len3 cap3 : Nat) (z3 : Nat → OpV) (w : World) (_w0 : (Lit.int .i64 a0).wf = true) (_w1 : (Lit.int .i64 a1).wf = true) (_w2 : (Lit.int .i64 a2).wf = true) (w3 : IsOps w a3 len3 cap3 z3) :
    Calls Try.prog 4 #[.int .i64 a0, .int .i64 a1, .int .i64 a2, .slice a3 len3 cap3] w fun e w' => e = .returned (.bool true) ∧ Below w.heap.size w w' := by
  have HW := Lib.hid w3
  clear w3 _w0 _w1 _w2
  by_cases hnew : newB a0 a1 a2 = true
  · have hb := of_decide_eq_true hnew
    obtain ⟨l, rfl⟩ : ∃ l : Nat, a0 = l := ⟨a0.toNat, by omega⟩
    obtain ⟨s, rfl⟩ : ∃ s : Nat, a1 = s := ⟨a1.toNat, by omega⟩
    obtain ⟨h, rfl⟩ : ∃ h : Nat, a2 = h := ⟨a2.toNat, by omega⟩
    have hl : 1 ≤ l ∧ l ≤ 16 := by omega
    have hs : 1 ≤ s ∧ s ≤ 16 := by omega
    have hh : 1 ≤ h ∧ h ≤ 64 := by omega
    have HN := Lib.hid (new_good w l s h hl hs hh)
    have HM := Lib.hid (fun W => rnew_good W l s h hl hs hh)
    have hn256 : l * s ≤ 256 := Nat.mul_le_mul hl.2 hs.2
    have hn1 : 1 ≤ l * s := Nat.mul_pos hl.1 hs.1
    obtain ⟨n, hn⟩ : ∃ n, l * s = n := ⟨_, rfl⟩
    rw [hn] at HN hn256 hn1
    simp only [hn] at HM
    have HSz := Lib.hid (And.intro hn.symm (And.intro hl (And.intro hs hh)))
    clear hnew hb hn hl hs hh
    go_enter Try.func4, Try.ntmps4
    go_wp2_with fail
    refine HN.out.mono ?_
    rintro e w1 ⟨rfl, hk, hE⟩
    have K1 := Lib.hid (And.intro hk hE)
    clear hk hE HN
    go_wp2_with fail
    refine (HM.out _).mono ?_
    rintro e w2 ⟨A, c, rfl, ho, hE2⟩
    obtain ⟨g, hg⟩ : ∃ g, w.heap.size = g := ⟨_, rfl⟩
    rw [hg] at K1
    simp only [hg]
    have hE3 : Ext N0 w2 (w2.alloc (.cells (nG l s h A n c) 42)) := (Ext.refl _ _).alloc _
    have HS0 : Hid (St w (w2.alloc (.cells (nG l s h A n c) 42)) g w2.heap.size l s h n (List.replicate n true) A c) := Lib.hid ⟨by simp, (K1.out.1.kept0 hE2).kept0 hE3, blkNew _ _, ownKept0 (ownLe ho (by have := K1.out.2.size; omega)) hE3, (K1.out.2.then0 hE2).then0 hE3⟩
    have HX := Lib.hid (show w.heap.size ≤ w2.heap.size from Nat.le_trans K1.out.2.size hE2.size)
    have HG := Lib.hid hg
    clear hE3 hE2 ho K1 HM hg
    go_upto_region 5 with (go_at_call 6; refine (awake_calls _).mono ?_; rintro e w3 ⟨rfl, hE⟩; have HS := Lib.hid (HS0.out.kept0 hE); clear hE)
    clear HS0
    obtain ⟨x, hx⟩ : ∃ x, w2.heap.size = x := ⟨_, rfl⟩
    rw [hx] at HS HX
    simp only [hx]
    clear hx
    go_wp2_with fail
    go_loopw [13] (fun i wr => ∃ (k : Nat) (L : List Bool) (A : Option Addr) (c : Nat), k ≤ 40 ∧ i = .int .i64 k ∧ Hid (St w wr g x l s h n L A c)) (fun i _ => 41 - (intOf i).toNat)
    case atStart => exact ⟨0, _, _, _, by omega, rfl, HS⟩
    case round =>
      clear HS
      obtain ⟨k, L, A, c, hk, rfl, HS⟩ := hrel
      by_cases hl : k < len3
      · have hl' : (k : Int) < len3 := by omega
        by_cases h6 : k < 40
        · have h6' : (k : Int) < 40 := by omega
          obtain ⟨hx1, hx2, hx3⟩ := HW.out
          obtain ⟨ad, rfl, hc⟩ := hx3 (by omega)
          obtain ⟨⟨p0, p1, p2, p3, p4, p5⟩, g0, _, _, _, _, g5⟩ := hc k hl
          obtain ⟨⟨kd, lf, sp, a, b, key⟩, hz⟩ : ∃ o, z3 k = o := ⟨_, rfl⟩
          rw [hz] at p0 p1 p2 p3 p4 p5 g0 g5
          dsimp only at p0 p1 p2 p3 p4 p5 g0 g5
          have g0 := bd8 g0
          have g5 := bd64 g5
          obtain ⟨kd, rfl⟩ : ∃ q : Nat, kd = q := ⟨kd.toNat, by omega⟩
          obtain ⟨key, rfl⟩ : ∃ q : Nat, key = q := ⟨key.toNat, by omega⟩
          rw [addSucc] at p1 p2 p3 p4 p5
          simp only [Nat.zero_add] at p1 p2 p3 p4 p5
          have p0 := HS.out.ext.cell p0 (fun h => h)
          have p1 := HS.out.ext.cell p1 (fun h => h)
          have p2 := HS.out.ext.cell p2 (fun h => h)
          have p3 := HS.out.ext.cell p3 (fun h => h)
          have p4 := HS.out.ext.cell p4 (fun h => h)
          have p5 := HS.out.ext.cell p5 (fun h => h)
          have hkey : key ≤ 18446744073709551615 := by omega
          have hkd : (kd : Int).tmod 3 = ((kd % 3 : Nat) : Int) := Int.ofNat_tmod kd 3
          obtain ⟨m, hm⟩ : ∃ m, kd % 3 = m := ⟨_, rfl⟩
          have hm3 : m < 3 := by rw [← hm]; exact Nat.mod_lt _ (by omega)
          rw [hm] at hkd
          clear hx1 hx2 hx3 hc hz g5 hm
          go_upto_if 73 with fail
          have HSb := Lib.hid (HS.out.kept0 ((Ext.refl N0 wr).alloc (.cells #[.int .u8 kd, .int .i64 lf, .int .i64 sp, .int .i64 a, .int .i64 b, .int .u64 key] 35)))
          have HO := Lib.hid (blkNew wr (.cells #[.int .u8 kd, .int .i64 lf, .int .i64 sp, .int .i64 a, .int .i64 b, .int .u64 key] 35))
          clear p0 p1 p2 p3 p4 p5 HS
          go_cut [15, 16, 17, 18] (fun s15 s16 s17 s18 wx => ∃ (ob : Bool) (ov : Int) (L' : List Bool) (A' : Option Addr) (c' : Nat), s15 = .bool ob ∧ s16 = .bool ob ∧ s17 = .int .i64 ov ∧ s18 = .int .i64 ov ∧ Hid (St w wx g x l s h n L' A' c') ∧ Hid (wx.heap[wr.heap.size]? = some (.cells #[.int .u8 kd, .int .i64 lf, .int .i64 sp, .int .i64 a, .int .i64 b, .int .u64 key] 35 (0, 0))))
          case first =>
            by_cases hm2 : m < 2
            · have hm2' : (m : Int) < 2 := by omega
              have o1 : (wr.alloc (.cells #[.int .u8 kd, .int .i64 lf, .int .i64 sp, .int .i64 a, .int .i64 b, .int .u64 key] 35)).cell? ⟨wr.heap.size, 1, none⟩ = some (.int .i64 lf) := (blkCell HO.out 1).trans rfl
              have o2 : (wr.alloc (.cells #[.int .u8 kd, .int .i64 lf, .int .i64 sp, .int .i64 a, .int .i64 b, .int .u64 key] 35)).cell? ⟨wr.heap.size, 2, none⟩ = some (.int .i64 sp) := (blkCell HO.out 2).trans rfl
              obtain ⟨ob, ov, L', hL', hC, hM, hR⟩ := turn_both l s h n L lf sp false HSb.out.len HSz.out.1 HSz.out.2.1 HSz.out.2.2.1 HSz.out.2.2.2
              have HC := Lib.hid (hC rfl)
              have HR := Lib.hid hR
              have HL' := Lib.hid hL'
              clear hL' hC hM hR
              go_wp2_with (first
                | (have hx := X1; clear hx; go_at_call 14; refine (HR.out _ g _ _ H2.out.2.2.1 (by have := H2.out.2.2.2.size; have h2 := HG.out; omega)).mono ?_; rintro e w5 ⟨A', c', rfl, hr5, hE5⟩; have HP := Lib.hid (St.doc HL'.out HX.out (H2.out.1.kept0 hE5) (hE5.blk0 H2.out.2.1) hr5 (H2.out.2.2.2.then0 hE5)); have HO5 := Lib.hid (hE5.blk0 HO4.out); have hb5 := hE5.blk0 H2.out.2.1; have z0 : w5.cell? ⟨x, 0, none⟩ = some (.int .i64 l) := (blkCell hb5 0).trans rfl; have z1 : w5.cell? ⟨x, 1, none⟩ = some (.int .i64 s) := (blkCell hb5 1).trans rfl; have z2 : w5.cell? ⟨x, 2, none⟩ = some (.int .i64 h) := (blkCell hb5 2).trans rfl; have z3' : w5.cell? ⟨x, 3, none⟩ = some (.slice A n c) := (blkCell hb5 3).trans rfl; have zf0 := blkFrozen hb5 0; have zf1 := blkFrozen hb5 1; have zf2 := blkFrozen hb5 2; have zf3 := blkFrozen hb5 3; have HB5 := Lib.hid hb5; clear hr5 hE5 hb5)
                | (go_at_call 8; refine (HC.out _ _ HSb.out.net).mono ?_; rintro e w4 ⟨rfl, hk4, hE4⟩; have H2 := Lib.hid (HSb.out.code HG.out.symm hk4 hE4); have hO4 := hE4.blk HO.out (fun (e : wr.heap.size = g) => by obtain ⟨⟨cs, hb, _⟩, _⟩ := HSb.out.net; have h9 := HO.out; rw [e, hb] at h9; injection h9 with h9; injection h9 with _ h9; exact absurd h9 (by decide)); have HO4 := Lib.hid hO4; have q1 : w4.cell? ⟨wr.heap.size, 1, none⟩ = some (.int .i64 lf) := (blkCell hO4 1).trans rfl; have q2 : w4.cell? ⟨wr.heap.size, 2, none⟩ = some (.int .i64 sp) := (blkCell hO4 2).trans rfl; have y0 : w4.cell? ⟨x, 0, none⟩ = some (.int .i64 l) := (blkCell H2.out.2.1 0).trans rfl; have y1 : w4.cell? ⟨x, 1, none⟩ = some (.int .i64 s) := (blkCell H2.out.2.1 1).trans rfl; have y2 : w4.cell? ⟨x, 2, none⟩ = some (.int .i64 h) := (blkCell H2.out.2.1 2).trans rfl; have y3 : w4.cell? ⟨x, 3, none⟩ = some (.slice A n c) := (blkCell H2.out.2.1 3).trans rfl; have X1 := trivial; clear hk4 hE4 hO4))
              go_meet
              case rel => exact ⟨ob, ov, L', A', c', rfl, rfl, rfl, rfl, HP, Lib.hid ((((((extSet w5 x 0 (.int .i64 l)).same (extSet _ x 1 (.int .i64 s))).same (extSet _ x 2 (.int .i64 h))).same (extSet _ x 3 (.slice A' n c')))).blk HO5.out (fun (e : wr.heap.size = x) => by have h9 := HO5.out; rw [e, HB5.out] at h9; injection h9 with h9; injection h9 with _ h9; exact absurd h9 (by decide)))⟩
            · have hm2' : ¬ (m : Int) < 2 := by omega
              have o1 : (wr.alloc (.cells #[.int .u8 kd, .int .i64 lf, .int .i64 sp, .int .i64 a, .int .i64 b, .int .u64 key] 35)).cell? ⟨wr.heap.size, 1, none⟩ = some (.int .i64 lf) := (blkCell HO.out 1).trans rfl
              have o2 : (wr.alloc (.cells #[.int .u8 kd, .int .i64 lf, .int .i64 sp, .int .i64 a, .int .i64 b, .int .u64 key] 35)).cell? ⟨wr.heap.size, 2, none⟩ = some (.int .i64 sp) := (blkCell HO.out 2).trans rfl
              obtain ⟨ob, ov, L', hL', hC, hM, hR⟩ := turn_both l s h n L lf sp true HSb.out.len HSz.out.1 HSz.out.2.1 HSz.out.2.2.1 HSz.out.2.2.2
              have HC := Lib.hid (hM rfl)
              have HR := Lib.hid hR
              have HL' := Lib.hid hL'
              clear hL' hC hM hR
              go_wp2_with (first
                | (have hx := X1; clear hx; go_at_call 14; refine (HR.out _ g _ _ H2.out.2.2.1 (by have := H2.out.2.2.2.size; have h2 := HG.out; omega)).mono ?_; rintro e w5 ⟨A', c', rfl, hr5, hE5⟩; have HP := Lib.hid (St.doc HL'.out HX.out (H2.out.1.kept0 hE5) (hE5.blk0 H2.out.2.1) hr5 (H2.out.2.2.2.then0 hE5)); have HO5 := Lib.hid (hE5.blk0 HO4.out); have hb5 := hE5.blk0 H2.out.2.1; have z0 : w5.cell? ⟨x, 0, none⟩ = some (.int .i64 l) := (blkCell hb5 0).trans rfl; have z1 : w5.cell? ⟨x, 1, none⟩ = some (.int .i64 s) := (blkCell hb5 1).trans rfl; have z2 : w5.cell? ⟨x, 2, none⟩ = some (.int .i64 h) := (blkCell hb5 2).trans rfl; have z3' : w5.cell? ⟨x, 3, none⟩ = some (.slice A n c) := (blkCell hb5 3).trans rfl; have zf0 := blkFrozen hb5 0; have zf1 := blkFrozen hb5 1; have zf2 := blkFrozen hb5 2; have zf3 := blkFrozen hb5 3; have HB5 := Lib.hid hb5; clear hr5 hE5 hb5)
                | (go_at_call 10; refine (HC.out _ _ HSb.out.net).mono ?_; rintro e w4 ⟨rfl, hk4, hE4⟩; have H2 := Lib.hid (HSb.out.code HG.out.symm hk4 hE4); have hO4 := hE4.blk HO.out (fun (e : wr.heap.size = g) => by obtain ⟨⟨cs, hb, _⟩, _⟩ := HSb.out.net; have h9 := HO.out; rw [e, hb] at h9; injection h9 with h9; injection h9 with _ h9; exact absurd h9 (by decide)); have HO4 := Lib.hid hO4; have q1 : w4.cell? ⟨wr.heap.size, 1, none⟩ = some (.int .i64 lf) := (blkCell hO4 1).trans rfl; have q2 : w4.cell? ⟨wr.heap.size, 2, none⟩ = some (.int .i64 sp) := (blkCell hO4 2).trans rfl; have y0 : w4.cell? ⟨x, 0, none⟩ = some (.int .i64 l) := (blkCell H2.out.2.1 0).trans rfl; have y1 : w4.cell? ⟨x, 1, none⟩ = some (.int .i64 s) := (blkCell H2.out.2.1 1).trans rfl; have y2 : w4.cell? ⟨x, 2, none⟩ = some (.int .i64 h) := (blkCell H2.out.2.1 2).trans rfl; have y3 : w4.cell? ⟨x, 3, none⟩ = some (.slice A n c) := (blkCell H2.out.2.1 3).trans rfl; have X1 := trivial; clear hk4 hE4 hO4))
              go_meet
              case rel => exact ⟨ob, ov, L', A', c', rfl, rfl, rfl, rfl, HP, Lib.hid ((((((extSet w5 x 0 (.int .i64 l)).same (extSet _ x 1 (.int .i64 s))).same (extSet _ x 2 (.int .i64 h))).same (extSet _ x 3 (.slice A' n c')))).blk HO5.out (fun (e : wr.heap.size = x) => by have h9 := HO5.out; rw [e, HB5.out] at h9; injection h9 with h9; injection h9 with _ h9; exact absurd h9 (by decide)))⟩

          case rest =>
            clear HSb HO
            obtain ⟨ob, ov, L', A', c', rfl, rfl, rfl, rfl, HS, HO⟩ := hcut
            obtain ⟨⟨d0, d1, d2, d3⟩, _⟩ := HS.out.cells
            have o0 : wc.cell? ⟨wr.heap.size, 0, none⟩ = some (.int .u8 kd) := (blkCell HO.out 0).trans rfl
            have o1 : wc.cell? ⟨wr.heap.size, 1, none⟩ = some (.int .i64 lf) := (blkCell HO.out 1).trans rfl
            have o2 : wc.cell? ⟨wr.heap.size, 2, none⟩ = some (.int .i64 sp) := (blkCell HO.out 2).trans rfl
            have o3 : wc.cell? ⟨wr.heap.size, 3, none⟩ = some (.int .i64 a) := (blkCell HO.out 3).trans rfl
            have o4 : wc.cell? ⟨wr.heap.size, 4, none⟩ = some (.int .i64 b) := (blkCell HO.out 4).trans rfl
            have o5 : wc.cell? ⟨wr.heap.size, 5, none⟩ = some (.int .u64 key) := (blkCell HO.out 5).trans rfl
            have HSh := Lib.hid (shows_calls wc g l s h c' A' L' kd lf sp a b key hkey HS.out.net HS.out.rn)
            rw [HS.out.len] at HSh
            have HLa : Hid (∀ W, Ext N0 wc W → Calls Try.prog 16 #[.pointer (some ⟨g, 0, none⟩), .int .i64 s, .int .i64 300] W fun e w' => ∃ A c, e = .returned (.tuple #[.slice A n c, .bool true]) ∧ Reads w' A (bv L') ∧ Ext N0 W w') := Lib.hid (fun W hE => by
              have := links_law W g l s h L' 300 (by omega) (HS.out.kept0 hE).net
              rw [List.take_of_length_le (by rw [HS.out.len]; omega), HS.out.len] at this
              exact this)
            obtain ⟨mb, hmb⟩ : ∃ mb, min 2 n = mb := ⟨_, rfl⟩
            have HLb : Hid (∀ W, Ext N0 wc W → Calls Try.prog 16 #[.pointer (some ⟨g, 0, none⟩), .int .i64 s, .int .i64 2] W fun e w' => ∃ A c, e = .returned (.tuple #[.slice A mb c, .bool true]) ∧ Ext N0 W w') := Lib.hid (fun W hE => by
              have := links_law W g l s h L' 2 (by omega) (HS.out.kept0 hE).net
              rw [List.length_take, HS.out.len, hmb] at this
              refine this.mono ?_
              rintro e w' ⟨A9, c9, h1, _, h3⟩
              exact ⟨A9, c9, h1, h3⟩)
            have HMb := Lib.hid hmb
            clear hmb hkey hkd hm3 g0
            go_upto_region 21 with (first
              | (have hx := X2; clear hx; go_at_call 16; refine (HLb.out _ X2.out).mono ?_; rintro e w7 ⟨A7, c7, rfl, hE⟩; have X3 := Lib.hid (X2.out.then0 hE); have R7 := Lib.hid (R6.out.mono0 hE); obtain ⟨⟨y0, y1, y2, y3⟩, _⟩ := (HS.out.kept0 X3.out).cells; clear hE)
              | (have hx := X1; clear hx; go_at_call 16; refine (HLa.out _ X1.out).mono ?_; rintro e w6 ⟨A6, c6, rfl, hr6, hE⟩; have X2 := Lib.hid (X1.out.then0 hE); have R6 := Lib.hid hr6; clear hE hr6)
              | (go_at_call 15; refine HSh.out.mono ?_; rintro e w5 ⟨rfl, hE⟩; have X1 := Lib.hid hE; clear hE))
            clear d0 d1 d2 d3 o0 o1 o2 o3 o4 o5 X1 X2 R6 HSh HLa HLb
            go_cut [161] (fun s161 wx => s161 = .bool false ∧ w7 = wx)
            case first =>
              by_cases hn2 : n < 2
              · have hm2 : (n : Int) < 2 := by omega
                obtain rfl : mb = n := by have := HMb.out; omega
                go_wp2_with fail
                go_meet
                case rel => exact ⟨rfl, rfl⟩
              · have hm2 : ¬ (n : Int) < 2 := by omega
                obtain rfl : mb = 2 := by have := HMb.out; omega
                go_wp2_with fail
                go_meet
                case rel => exact ⟨rfl, rfl⟩
            case rest =>
              obtain ⟨rfl, hw7⟩ := hcut
              subst hw7
              clear y0 y1 y2 y3 HMb
              have HE7 := Lib.hid (Ext.refl N0 w7)
              go_wp2_with fail
              go_loopw [23] (fun v wr' => ∃ j : Nat, v = .int .i64 j ∧ j ≤ n ∧ Hid (Ext N0 w7 wr')) (fun v _ => n - (intOf v).toNat)
              case atStart => exact ⟨0, rfl, by omega, HE7⟩
              case round =>
                clear HE7
                obtain ⟨j, rfl, hj, HE⟩ := hrel
                by_cases hlt : j < n
                · have hlt' : (j : Int) < n := by omega
                  obtain ⟨v, hv⟩ : ∃ v, L'[j]? = some v := ⟨_, List.getElem?_eq_getElem (by rw [HS.out.len]; exact hlt)⟩
                  obtain ⟨a6, rfl, ha⟩ := (R7.out.mono0 HE.out).2 (by rw [bv_len, HS.out.len]; omega)
                  obtain ⟨a7, rfl, hb⟩ := ((HS.out.kept0 X3.out).kept0 HE.out).rn.rd.2 (by rw [bv_len, HS.out.len]; omega)
                  have c1 := ha j _ (bv_get hv)
                  have c2 := hb j _ (bv_get hv)
                  obtain ⟨⟨y0, y1, y2, y3⟩, _⟩ := ((HS.out.kept0 X3.out).kept0 HE.out).cells
                  clear hv ha hb
                  go_wp2_with fail
                  go_quiet (fail)
                  go_wp2_with fail
                  clear c1 c2 y0 y1 y2 y3
                  go_roundw
                  case rel => exact ⟨j + 1, by go_num, by omega, Lib.hid (HE.out.drewN _)⟩
                  case measure => simp only [intOf]; omega
                · have hlt' : ¬ (j : Int) < n := by omega
                  have HS9 := Lib.hid ((HS.out.kept0 X3.out).kept0 HE.out)
                  go_wp2_with fail
                  go_roundw
                  case rel => exact ⟨k + 1, L', A', c', by omega, by go_num, HS9⟩
                  case measure => simp only [intOf]; omega

        · have h6' : ¬ (k : Int) < 40 := by omega
          clear hl hl'
          have hq : (k : Int) < len3 ∨ ¬ (k : Int) < len3 := by omega
          rcases hq with hq | hq
          all_goals
            go_wp2
            go_ret
            exact ⟨rfl, HS.out.ext.below⟩
      · have hl' : ¬ (k : Int) < len3 := by omega
        go_wp2
        go_ret
        exact ⟨rfl, HS.out.ext.below⟩
  · have hnew : newB a0 a1 a2 = false := by simpa using hnew
    have HN := Lib.hid (new_bad w a0 a1 a2 hnew)
    have HM := Lib.hid (fun W => rnew_bad W a0 a1 a2 hnew)
    clear hnew
    go_enter Try.func4, Try.ntmps4
    go_wp2_with fail
    refine HN.out.mono ?_
    rintro e w1 ⟨rfl, hw⟩
    subst w1
    go_wp2_with fail
    refine (HM.out _).mono ?_
    rintro e w2 ⟨rfl, hE⟩
    have HE := Lib.hid hE
    clear HN HM hE
    go_wp2_with (go_at_call 6; refine (awake_calls _).mono ?_; rintro e w3 ⟨rfl, hE3⟩; have HX := Lib.hid ((HE.out.alloc _).then0 hE3); clear hE3)
    clear HE
    go_loopw [13] (fun i wr => i = .int .i64 0 ∧ Hid (Ext N0 w wr)) (fun _ _ => 0)
    case atStart => exact ⟨rfl, HX⟩
    case round =>
      clear HX
      obtain ⟨rfl, HX⟩ := hrel
      have hq : (0 : Int) < len3 ∨ ¬ (0 : Int) < len3 := by omega
      rcases hq with hq | hq
      all_goals
        go_wp2
        go_ret
        exact ⟨rfl, HX.out.below⟩
end leafRuns
end Go.Proofs.Ytjnfapkjmgilcaa
