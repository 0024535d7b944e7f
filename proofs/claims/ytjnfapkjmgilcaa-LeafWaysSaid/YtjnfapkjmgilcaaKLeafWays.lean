/- The walk of the law LeafWays: called with any values that fit its parameters, it returns true and nothing that was in memory before has changed. No other condition. -/
import Derived.Test.YtjnfapkjmgilcaaB10
import Derived.Deep.DeepCutAuto
import Derived.Deep.CutBlock
import Derived.Deep.RegionHeld3
namespace Go.Proofs.Ytjnfapkjmgilcaa
open Go.RowKit Go.ChangeShapes Go.WideShapes
namespace leafWays
theorem wrapU (x : Int) (h : 0 ≤ x ∧ x < 18446744073709551616) : IntKind.u64.wrap x = x := by
  unfold IntKind.wrap
  simp [IntKind.bits, IntKind.signed]
  omega
theorem wrapNat (x : Int) : ∃ u : Nat, IntKind.u64.wrap x = u := by
  refine ⟨(IntKind.u64.wrap x).toNat, ?_⟩
  have : 0 ≤ IntKind.u64.wrap x := by
    unfold IntKind.wrap
    simp [IntKind.bits, IntKind.signed]
    omega
  omega
/-- What the law says of hops and paths. -/
theorem ways_facts {L : List Bool} {X Y P Q : Nat} (hL : L.length = X * Y) (hX : 1 ≤ X ∧ X ≤ 6) (_hY : Y ≤ 4) (hP : P < 2 * X) (hQ : Q < 2 * X) :
    hopsV L X Y 2 Q P = hopsV L X Y 2 P Q ∧ (hopsV L X Y 2 P Q = -1 ∨ (hopsV L X Y 2 P Q).tmod 2 = 0) ∧ (hopsV L X Y 2 P Q = 2 ↔ (psV L X Y 2 P Q).length ≠ 0) ∧ True := by
  have hP1 : lfB X 2 P = true := decide_eq_true (by omega)
  have hQ1 : lfB X 2 Q = true := decide_eq_true (by omega)
  have h1 := hops_isD hL (by omega) hP1 hQ1
  have h2 := hops_isD hL (by omega) hQ1 hP1
  have hp := lfV_lt hP1
  have hq := lfV_lt hQ1
  refine ⟨(h2.symm hq hp).uniq h1, ?_, ?_, trivial⟩
  · rcases h1 with ⟨e, _⟩ | ⟨j, e, _⟩
    · exact .inl e
    · exact .inr (by rw [e]; exact Int.mul_tmod_right 2 j)
  · unfold psV
    constructor
    · intro e
      rw [e] at h1
      obtain ⟨hne, k, hk, g1, g2⟩ := h1.two
      rw [if_pos (by rw [hP1, hQ1]; simpa using hne)]
      exact (pth_ne _ _).2 ⟨k, hk, by rw [g1, g2]; rfl⟩
    · intro hn
      split at hn
      · rename_i hc
        obtain ⟨k, hk, g⟩ := (pth_ne _ _).1 hn
        rw [Bool.and_eq_true] at g
        refine h1.one hp ?_ ⟨k, hk, g.1, g.2⟩
        rw [hP1, hQ1] at hc
        simpa using hc
      · exact absurd rfl hn
theorem all_true {L : List Bool} {n : Nat} (hL : L.length = n) (h : ∀ p, p < n → L.getD p false = true) : L = List.replicate n true := by
  apply List.ext_getElem
  · rw [List.length_replicate]; exact hL
  · intro i h1 h2
    have := h i (by omega)
    rw [List.getD_eq_getElem?_getD, List.getElem?_eq_getElem h1] at this
    rw [List.getElem_replicate]
    exact this
theorem parts_all {X Y : Nat} (hX : 1 ≤ X ∧ X ≤ 16) (hY : 1 ≤ Y) : (pS Y (List.replicate (X * Y) true) X).1 = 1 := by
  rw [(parts_cnt (L := List.replicate (X * Y) true) (l := X) (s := Y) (by simp) hX.2 X (Nat.le_refl _)).1]
  refine cntP_one (fun x y hx hy => ?_) X hX.1 (Nat.le_refl _)
  have hk : ∀ x, x < X → lk (List.replicate (X * Y) true) Y x 0 = true := fun x hx => by
    unfold lk
    rw [List.getD_eq_getElem?_getD, List.getElem?_replicate, if_pos (posLt hx (by omega))]
    rfl
  exact ⟨1, x, hx, rfl, 0, by omega, hk x hx, hk y hy⟩
set_option maxRecDepth 100000 in
set_option maxHeartbeats 20000000 in
theorem walk (a0 a1 : Int) (a2 : Option Addr) (len2 cap2 : Nat) (z2 : Nat → OpV) (a3 a4 : Int) (w : World) (w0 : (Lit.int .u8 a0).wf = true) (w1 : (Lit.int .u8 a1).wf = true) (w2 : IsOps w a2 len2 cap2 z2) (w3 : (Lit.int .u8 a3).wf = true) (w4 : (Lit.int .u8 a4).wf = true) :
    Calls Try.prog 3 #[.int .u8 a0, .int .u8 a1, .slice a2 len2 cap2, .int .u8 a3, .int .u8 a4] w fun e w' => e = .returned (.bool true) ∧ Below w.heap.size w w' := by
  have HW := Lib.hid w2
  have b0 := bd8 w0
  have b1 := bd8 w1
  have b3 := bd8 w3
  have b4 := bd8 w4
  clear w0 w1 w2 w3 w4
  obtain ⟨n0, rfl⟩ : ∃ n : Nat, a0 = n := ⟨a0.toNat, by omega⟩
  obtain ⟨n1, rfl⟩ : ∃ n : Nat, a1 = n := ⟨a1.toNat, by omega⟩
  obtain ⟨n3, rfl⟩ : ∃ n : Nat, a3 = n := ⟨a3.toNat, by omega⟩
  obtain ⟨n4, rfl⟩ : ∃ n : Nat, a4 = n := ⟨a4.toNat, by omega⟩
  obtain ⟨X, hX⟩ : ∃ X, n0 % 6 + 1 = X := ⟨_, rfl⟩
  obtain ⟨Y, hY⟩ : ∃ Y, n1 % 4 + 1 = Y := ⟨_, rfl⟩
  obtain ⟨P, hP⟩ : ∃ P, n3 % (2 * X) = P := ⟨_, rfl⟩
  obtain ⟨Q, hQ⟩ : ∃ Q, n4 % (2 * X) = Q := ⟨_, rfl⟩
  have hX6 : 1 ≤ X ∧ X ≤ 6 := by omega
  have hY4 : 1 ≤ Y ∧ Y ≤ 4 := by omega
  have hPX : P < 2 * X := by rw [← hP]; exact Nat.mod_lt _ (by omega)
  have hQX : Q < 2 * X := by rw [← hQ]; exact Nat.mod_lt _ (by omega)
  have m0 : (n0 : Int).tmod 6 = (X : Int) - 1 := by
    have : (n0 : Int).tmod 6 = ((n0 % 6 : Nat) : Int) := Int.ofNat_tmod n0 6
    omega
  have m1 : (n1 : Int).tmod 4 = (Y : Int) - 1 := by
    have : (n1 : Int).tmod 4 = ((n1 % 4 : Nat) : Int) := Int.ofNat_tmod n1 4
    omega
  have m3 : (n3 : Int).tmod (2 * (X : Int)) = P := by
    have : (n3 : Int).tmod ((2 * X : Nat) : Int) = ((n3 % (2 * X) : Nat) : Int) := Int.ofNat_tmod n3 (2 * X)
    rw [hP] at this
    exact this
  have m4 : (n4 : Int).tmod (2 * (X : Int)) = Q := by
    have : (n4 : Int).tmod ((2 * X : Nat) : Int) = ((n4 % (2 * X) : Nat) : Int) := Int.ofNat_tmod n4 (2 * X)
    rw [hQ] at this
    exact this
  have HN : Hid (Calls Try.prog 5 #[.int .i64 X, .int .i64 Y, .int .i64 2] w fun e w' => e = .returned (.tuple #[.pointer (some ⟨w.heap.size, 0, none⟩), .int .i64 0]) ∧ IsNet w' w.heap.size X Y 2 (List.replicate (X * Y) true) ∧ Ext N0 w w') := Lib.hid (new_good w X Y 2 (by omega) (by omega) (by omega))
  have q1 : (1 : Int) + ((X : Int) - 1) = X := by omega
  have q2 : (1 : Int) + ((Y : Int) - 1) = Y := by omega
  have q3 : ¬ (2 * (X : Int)) = 0 := by omega
  have hXi : 1 ≤ (X : Int) ∧ (X : Int) ≤ 6 := by omega
  have hYi : 1 ≤ (Y : Int) ∧ (Y : Int) ≤ 4 := by omega
  have HXY := Lib.hid (And.intro hX6 (And.intro hY4 (And.intro hPX hQX)))
  clear hX hY hP hQ hX6 hY4 hPX hQX
  go_enter Try.func3, Try.ntmps3
  go_wp2_with fail
  refine HN.out.mono ?_
  rintro e w1 ⟨rfl, hk, hE⟩
  have K1 := Lib.hid (And.intro hk hE)
  clear hk hE HN
  obtain ⟨g, hg⟩ : ∃ g, w.heap.size = g := ⟨_, rfl⟩
  rw [hg] at K1
  simp only [hg]
  have HG := Lib.hid hg
  clear hg
  go_upto_region 5 with (go_at_call 6; refine (awake_calls _).mono ?_; rintro e w2 ⟨rfl, hE⟩; have K2 := Lib.hid (And.intro (K1.out.1.kept0 hE) (K1.out.2.then0 hE)); clear hE)
  clear K1
  go_quiet (fail)
  have HL0 : Hid (IsNet (w2.drewN nq) g X Y 2 (List.replicate (X * Y) true) ∧ Ext N0 w (w2.drewN nq)) := Lib.hid ⟨K2.out.1.kept0 ((Ext.refl _ _).drewN _), K2.out.2.drewN _⟩
  clear K2
  obtain ⟨V, hV⟩ : ∃ V, psV (List.replicate (X * Y) true) X Y 2 P Q = V := ⟨_, rfl⟩
  have HV := Lib.hid hV
  have HP := Lib.hid (paths_calls (w2.drewN nq) g X Y 2 _ P Q HL0.out.1)
  rw [hV] at HP
  have hVl : V.length ≤ 4 := by
    rw [← hV]
    unfold psV
    have := pth_len (fun k => lk (List.replicate (X * Y) true) Y (lfV X 2 P) k && lk (List.replicate (X * Y) true) Y (lfV X 2 Q) k) Y
    split
    · have := HXY.out.2.1; omega
    · simp
  clear hV
  go_upto_block 0 with (go_at_call 7; refine HP.out.mono ?_; rintro e w3 ⟨A, c, rfl, ho, hE⟩; have HF0 : Hid (Ext N0 w w3 ∧ w3.ownsRow (w2.drewN nq).heap.size 3 1 (.slice A V.length c) V.length (iv V)) := Lib.hid ⟨HL0.out.2.then0 hE, ho⟩; have HK0 := Lib.hid (HL0.out.1.kept0 hE); clear ho hE)
  clear HP HL0
  obtain ⟨B, hB⟩ : ∃ B, (w2.drewN nq).heap.size = B := ⟨_, rfl⟩
  rw [hB] at HF0
  clear hB
  go_cut [] (fun wx => ∃ L, Hid (IsNet wx g X Y 2 L) ∧ Hid (Ext N0 w wx ∧ wx.ownsRow B 3 1 (.slice A V.length c) V.length (iv V)))
  case first =>
    go_wp2_with fail
    go_loopw [18] (fun v wr => ∃ (i : Nat) (L : List Bool), v = .int .i64 i ∧ i ≤ 30 ∧ Hid (IsNet wr g X Y 2 L) ∧ Hid (Ext N0 w wr ∧ wr.ownsRow B 3 1 (.slice A V.length c) V.length (iv V))) (fun v _ => 31 - (intOf v).toNat)
    case atStart => exact ⟨0, _, rfl, by omega, HK0, HF0⟩
    case round =>
      clear HK0 HF0
      obtain ⟨k, L, rfl, hk, HK, HF⟩ := hrel
      by_cases hl : k < len2
      · have hl' : (k : Int) < len2 := by omega
        by_cases h6 : k < 30
        · have h6' : (k : Int) < 30 := by omega
          obtain ⟨hx1, hx2, hx3⟩ := HW.out
          obtain ⟨ad, rfl, hc⟩ := hx3 (by omega)
          obtain ⟨⟨_, p1, p2, _⟩, _, g1, g2, _⟩ := hc k hl
          obtain ⟨lf, hlf⟩ : ∃ lf, (z2 k).leaf = lf := ⟨_, rfl⟩
          obtain ⟨sp, hsp⟩ : ∃ sp, (z2 k).spine = sp := ⟨_, rfl⟩
          rw [hlf] at p1 g1
          rw [hsp] at p2 g2
          rw [addSucc] at p1 p2
          simp only [Nat.zero_add] at p1 p2
          have p1 := HF.out.1.cell p1 (fun h => h)
          have p2 := HF.out.1.cell p2 (fun h => h)
          clear hx1 hx2 hx3 hc hlf hsp g1 g2
          have hX0 : ¬ (X : Int) = 0 := by omega
          have hY0 : ¬ (Y : Int) = 0 := by omega
          go_upto_region 10 with fail
          have hX1 := HXY.out.1
          have hY1 := HXY.out.2.1
          obtain ⟨u, hu⟩ := wrapNat lf
          obtain ⟨v, hv⟩ := wrapNat sp
          have wX : IntKind.u64.wrap (X : Int) = X := wrapU _ (by omega)
          have wY : IntKind.u64.wrap (Y : Int) = Y := wrapU _ (by omega)
          have tu : (u : Int).tmod (X : Int) = ((u % X : Nat) : Int) := Int.ofNat_tmod u X
          have tv : (v : Int).tmod (Y : Int) = ((v % Y : Nat) : Int) := Int.ofNat_tmod v Y
          have hiX : u % X < X := Nat.mod_lt _ (by omega)
          have hjY : v % Y < Y := Nat.mod_lt _ (by omega)
          obtain ⟨i, hi⟩ : ∃ i, u % X = i := ⟨_, rfl⟩
          obtain ⟨j, hj⟩ : ∃ j, v % Y = j := ⟨_, rfl⟩
          rw [hi] at tu hiX
          rw [hj] at tv hjY
          have wi : IntKind.i64.wrap (i : Int) = i := IntWalk.i64_in _ (by omega)
          have wj : IntKind.i64.wrap (j : Int) = j := IntWalk.i64_in _ (by omega)
          have HFl := Lib.hid (fun W (h : IsNet W g X Y 2 L) => fail_yes W g X Y 2 L i j h hiX hjY)
          have HDr : Hid (Ext N0 wr wr.drew) := Lib.hid (Ext.refl N0 wr).drew
          have HLs := Lib.hid (show (L.set (i * Y + j) false).length = L.length by simp)
          clear hi hj hiX hjY hX1 hY1
          go_cut [] (fun wx => ∃ L', Hid (IsNet wx g X Y 2 L') ∧ Hid (Ext N0 w wx ∧ wx.ownsRow B 3 1 (.slice A V.length c) V.length (iv V)))
          case first =>
            have r1 := p1
            change wr.drew.cell? _ = _ at r1
            have r2 := p2
            change wr.drew.cell? _ = _ at r2
            go_region_with (go_at_call 8; refine (HFl.out _ (HK.out.kept0 HDr.out)).mono ?_; rintro e w4 ⟨rfl, hk4, hE4⟩; have HK4 := Lib.hid hk4; have HF4 : Hid (Ext N0 w w4 ∧ w4.ownsRow B 3 1 (.slice A V.length c) V.length (iv V)) := Lib.hid ⟨(HF.out.1.then0 HDr.out).trans hE4 (fun y (hy : y = g) => .inr (by rw [hy, ← HG.out]; exact Nat.le_refl _)), ownKept (ownKept0 HF.out.2 HDr.out) hE4 (fun y hy (h : y = g) => by obtain ⟨⟨cs, hb, _⟩, _⟩ := HK.out.kept0 HDr.out; exact ownNeBlk (ownKept0 HF.out.2 HDr.out) hb (by decide) y hy h)⟩; clear hk4 hE4)
            all_goals
              go_wp2_with fail
              go_meet
              case rel => exact ⟨_, HK4, HF4⟩
          case rest =>
            clear HK HF HFl HDr HLs p1 p2 hX0 hY0 hu hv wX wY tu tv wi wj
            obtain ⟨L', HK, HF⟩ := hcut
            have HH1 := Lib.hid (fun W (h : Ext N0 wc W) => hops_calls W g X Y 2 L' P Q (HK.out.kept0 h))
            have HH2 := Lib.hid (fun W (h : Ext N0 wc W) => hops_calls W g X Y 2 L' Q P (HK.out.kept0 h))
            have HPa := Lib.hid (fun W (h : Ext N0 wc W) => paths_calls W g X Y 2 L' P Q (HK.out.kept0 h))
            obtain ⟨f1, f2, f3, _⟩ := ways_facts HK.out.len HXY.out.1 (by have := HXY.out.2.1; omega) HXY.out.2.2.1 HXY.out.2.2.2
            rw [f1] at HH2
            obtain ⟨H, hH⟩ : ∃ H, hopsV L' X Y 2 P Q = H := ⟨_, rfl⟩
            obtain ⟨n, hn⟩ : ∃ n, (psV L' X Y 2 P Q).length = n := ⟨_, rfl⟩
            rw [hH] at HH1 HH2 f2 f3
            rw [hn] at HPa f3
            have HEr := Lib.hid (Ext.refl N0 wc)
            clear f1 hH hn
            have hcs : (H = 2 ∧ n ≠ 0) ∨ (H = -1 ∧ n = 0) ∨ (H.tmod 2 = 0 ∧ ¬ H = 2 ∧ ¬ H = -1 ∧ n = 0) := by
              by_cases h2 : H = 2
              · exact .inl ⟨h2, f3.1 h2⟩
              · have hn0 : n = 0 := Classical.not_not.1 (fun h => h2 (f3.2 h))
                rcases f2 with f2 | f2
                · exact .inr (.inl ⟨f2, hn0⟩)
                · exact .inr (.inr ⟨f2, h2, fun e => by rw [e] at f2; exact absurd f2 (by decide), hn0⟩)
            clear f2 f3
            rcases hcs with ⟨rfl, h2⟩ | ⟨rfl, rfl⟩ | ⟨h1, h2, h3, rfl⟩
            · have hn1 : (0 : Int) < n := by omega
              have hn2 : ¬ (n : Int) = 0 := by omega
              go_wp2_with (first
                | (have hx := X2; clear hx; go_at_call 9; refine (HH2.out _ X2.out).mono ?_; rintro e w8 ⟨rfl, hE⟩; have X3 := Lib.hid (X2.out.then0 hE); clear hE)
                | (have hx := X2; clear hx; go_at_call 7; refine (HPa.out _ X2.out).mono ?_; rintro e w9 ⟨A9, c9, rfl, _, hE⟩; have X9 := Lib.hid (X2.out.then0 hE); clear hE X2; have X2 := X9; clear X9)
                | (have hx := X1; clear hx; go_at_call 7; refine (HPa.out _ X1.out).mono ?_; rintro e w7 ⟨A7, c7, rfl, _, hE⟩; have X2 := Lib.hid (X1.out.then0 hE); clear hE)
                | (go_at_call 9; refine (HH1.out _ HEr.out).mono ?_; rintro e w6 ⟨rfl, hE⟩; have X1 := Lib.hid hE; clear hE))
              go_roundw
              case rel => exact ⟨k + 1, L', by go_num, by omega, Lib.hid (HK.out.kept0 X3.out), Lib.hid ⟨HF.out.1.then0 X3.out, ownKept0 HF.out.2 X3.out⟩⟩
              case measure => simp only [intOf]; omega
            · go_wp2_with (first
                | (have hx := X2; clear hx; go_at_call 9; refine (HH2.out _ X2.out).mono ?_; rintro e w8 ⟨rfl, hE⟩; have X3 := Lib.hid (X2.out.then0 hE); clear hE)
                | (have hx := X2; clear hx; go_at_call 7; refine (HPa.out _ X2.out).mono ?_; rintro e w9 ⟨A9, c9, rfl, _, hE⟩; have X9 := Lib.hid (X2.out.then0 hE); clear hE X2; have X2 := X9; clear X9)
                | (have hx := X1; clear hx; go_at_call 7; refine (HPa.out _ X1.out).mono ?_; rintro e w7 ⟨A7, c7, rfl, _, hE⟩; have X2 := Lib.hid (X1.out.then0 hE); clear hE)
                | (go_at_call 9; refine (HH1.out _ HEr.out).mono ?_; rintro e w6 ⟨rfl, hE⟩; have X1 := Lib.hid hE; clear hE))
              go_roundw
              case rel => exact ⟨k + 1, L', by go_num, by omega, Lib.hid (HK.out.kept0 X3.out), Lib.hid ⟨HF.out.1.then0 X3.out, ownKept0 HF.out.2 X3.out⟩⟩
              case measure => simp only [intOf]; omega
            · go_wp2_with (first
                | (have hx := X2; clear hx; go_at_call 9; refine (HH2.out _ X2.out).mono ?_; rintro e w8 ⟨rfl, hE⟩; have X3 := Lib.hid (X2.out.then0 hE); clear hE)
                | (have hx := X2; clear hx; go_at_call 7; refine (HPa.out _ X2.out).mono ?_; rintro e w9 ⟨A9, c9, rfl, _, hE⟩; have X9 := Lib.hid (X2.out.then0 hE); clear hE X2; have X2 := X9; clear X9)
                | (have hx := X1; clear hx; go_at_call 7; refine (HPa.out _ X1.out).mono ?_; rintro e w7 ⟨A7, c7, rfl, _, hE⟩; have X2 := Lib.hid (X1.out.then0 hE); clear hE)
                | (go_at_call 9; refine (HH1.out _ HEr.out).mono ?_; rintro e w6 ⟨rfl, hE⟩; have X1 := Lib.hid hE; clear hE))
              go_roundw
              case rel => exact ⟨k + 1, L', by go_num, by omega, Lib.hid (HK.out.kept0 X3.out), Lib.hid ⟨HF.out.1.then0 X3.out, ownKept0 HF.out.2 X3.out⟩⟩
              case measure => simp only [intOf]; omega
        · have h6' : ¬ (k : Int) < 30 := by omega
          clear hl hl'
          have hq : (k : Int) < len2 ∨ ¬ (k : Int) < len2 := by omega
          rcases hq with hq | hq
          all_goals
            go_wp2
            go_meet
            case rel => exact ⟨L, HK, HF⟩
      · have hl' : ¬ (k : Int) < len2 := by omega
        go_wp2
        go_meet
        case rel => exact ⟨L, HK, HF⟩
  case rest =>
    clear HK0 HF0
    obtain ⟨L0, HK, HF⟩ := hcut
    go_wp2_with fail
    have HI0 : Hid (IsNet wc g X Y 2 L0 ∧ ∀ p, p < 0 * Y → L0.getD p false = true) := Lib.hid ⟨HK.out, fun p hp => by rw [Nat.zero_mul] at hp; omega⟩
    clear HK
    go_loopw [20] (fun v wr => ∃ (i : Nat) (L : List Bool), v = .int .i64 i ∧ i ≤ X ∧ Hid (IsNet wr g X Y 2 L ∧ ∀ p, p < i * Y → L.getD p false = true) ∧ Hid (Ext N0 w wr ∧ wr.ownsRow B 3 1 (.slice A V.length c) V.length (iv V))) (fun v _ => X - (intOf v).toNat)
    case atStart => exact ⟨0, L0, rfl, by omega, HI0, HF⟩
    case round =>
      clear HI0 HF
      obtain ⟨i, L, rfl, hi, HI, HF⟩ := hrel
      by_cases hlt : i < X
      · have hlt' : (i : Int) < X := by omega
        have HI1 : Hid (IsNet wr g X Y 2 L ∧ ∀ p, p < i * Y + 0 → L.getD p false = true) := Lib.hid HI.out
        clear HI
        go_wp2_with fail
        go_loopw [21] (fun v wr => ∃ (j : Nat) (L : List Bool), v = .int .i64 j ∧ j ≤ Y ∧ Hid (IsNet wr g X Y 2 L ∧ ∀ p, p < i * Y + j → L.getD p false = true) ∧ Hid (Ext N0 w wr ∧ wr.ownsRow B 3 1 (.slice A V.length c) V.length (iv V))) (fun v _ => Y - (intOf v).toNat)
        case atStart => exact ⟨0, L, rfl, by omega, HI1, HF⟩
        case round =>
          clear HI1 HF
          obtain ⟨j, L, rfl, hj, HI, HF⟩ := hrel
          by_cases hlt2 : j < Y
          · have hlt2' : (j : Int) < Y := by omega
            have HM := Lib.hid (mend_yes wr g X Y 2 L i j HI.out.1 hlt hlt2)
            have HSt : Hid (∀ p, p < i * Y + (j + 1) → (L.set (i * Y + j) true).getD p false = true) := Lib.hid (fun p hp => by
              have hpl := posLt hlt hlt2
              rw [List.getD_eq_getElem?_getD]
              by_cases e : i * Y + j = p
              · subst e
                rw [List.getElem?_set_self (by rw [HI.out.1.len]; exact hpl)]
                rfl
              · rw [List.getElem?_set_ne e, ← List.getD_eq_getElem?_getD]
                exact HI.out.2 p (by omega))
            go_wp2_with (go_at_call 10; refine HM.out.mono ?_; rintro e w4 ⟨rfl, hk4, hE4⟩; have HI4 : Hid (IsNet w4 g X Y 2 (L.set (i * Y + j) true) ∧ ∀ p, p < i * Y + (j + 1) → (L.set (i * Y + j) true).getD p false = true) := Lib.hid ⟨hk4, HSt.out⟩; have HF4 : Hid (Ext N0 w w4 ∧ w4.ownsRow B 3 1 (.slice A V.length c) V.length (iv V)) := Lib.hid ⟨HF.out.1.trans hE4 (fun y (hy : y = g) => .inr (by rw [hy, ← HG.out]; exact Nat.le_refl _)), ownKept HF.out.2 hE4 (fun y hy (h : y = g) => by obtain ⟨⟨cs, hb, _⟩, _⟩ := HI.out.1; exact ownNeBlk HF.out.2 hb (by decide) y hy h)⟩; clear hk4 hE4)
            go_roundw
            case rel => exact ⟨j + 1, _, by go_num, by omega, HI4, HF4⟩
            case measure => simp only [intOf]; omega
          · have hlt2' : ¬ (j : Int) < Y := by omega
            obtain rfl : j = Y := by omega
            go_wp2
            go_roundw
            case rel => exact ⟨i + 1, L, by go_num, by omega, Lib.hid ⟨HI.out.1, fun p hp => HI.out.2 p (by rw [Nat.add_mul, Nat.one_mul] at hp; exact hp)⟩, HF⟩
            case measure => simp only [intOf]; omega
      · have hlt' : ¬ (i : Int) < X := by omega
        obtain rfl : i = X := by omega
        have hLr : L = List.replicate (i * Y) true := all_true HI.out.1.len HI.out.2
        subst hLr
        have HPa := Lib.hid (fun W (h : Ext N0 wr W) => paths_calls W g i Y 2 _ P Q (HI.out.1.kept0 h))
        rw [HV.out] at HPa
        have HPt := Lib.hid (fun W (h : Ext N0 wr W) => parts_calls W g i Y 2 _ (HI.out.1.kept0 h))
        rw [parts_all (by have := HXY.out.1; omega) (by have := HXY.out.2.1; omega)] at HPt
        have HEr := Lib.hid (Ext.refl N0 wr)
        go_wp2_with (first
          | (have hx := X2; clear hx; go_at_call 12; refine (HPt.out _ X2.out).mono ?_; rintro e w8 ⟨rfl, hE⟩; have X3 := Lib.hid (X2.out.then0 hE); clear hE)
          | (have hx := X1; clear hx; go_at_call 11; refine (same_yes V _ _ _ _ _ R1.out (ownReads1 (ownKept0 HF.out.2 X1.out))).mono ?_; rintro e w7 ⟨rfl, hE⟩; have X2 := Lib.hid (X1.out.then0 hE); clear hE)
          | (go_at_call 7; refine (HPa.out _ HEr.out).mono ?_; rintro e w6 ⟨A6, c6, rfl, ho, hE⟩; have X1 := Lib.hid hE; have R1 := Lib.hid (ownReads1 ho); clear hE ho))
        go_ret
        exact ⟨rfl, (HF.out.1.then0 X3.out).below⟩
end leafWays
end Go.Proofs.Ytjnfapkjmgilcaa
