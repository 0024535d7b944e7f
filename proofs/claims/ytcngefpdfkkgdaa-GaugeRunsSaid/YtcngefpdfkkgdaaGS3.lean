/- Gauges at keys of one type: buckets, Above, each proved for every value that its statement lets in (the conditions stand in the statements). -/
import Derived.Test.YtcngefpdfkkgdaaGS2
namespace Go.Proofs.Ytcngefpdfkkgdaa
open Go.RowKit Go.Maps
theorem buckets_callsS (p : Option Addr) (k : ByteArray) (w : World) : Calls Try.prog 42 #[.pointer p, .string k] w fun e w' => e = .returned (.func (.func 52) #[] #[.pointer (some ⟨w.heap.size, 0, none⟩), .pointer (some ⟨w.heap.size + 1, 0, none⟩)]) ∧ w' = (w.alloc (.cells #[.pointer p] 24)).alloc (.cells #[.string k] 9) := by
  go_enter Try.func42, Try.ntmps42
  go_wp2
  go_ret
  exact ⟨rfl, rfl⟩
/-- What the buckets hand out. -/
def BSS (bs cs : List Int) (i : Nat) (vs : Array Value) (i' : Nat) (_ : World) : Prop := ∃ a c, ((-1 : Int) :: bs)[i]? = some a ∧ cs[i]? = some c ∧ i' = i + 1 ∧ vs = #[.int .i64 a, .int .i64 c]
theorem ownKpS {R : Nat → Prop} {A B : World} {base n g c s : Nat} {e : TypeId} {xs : List Value} (h : A.ownsRow base e s (.slice (some ⟨g, 0, none⟩) n c) n xs) (k : KpR R A B) (hr : R g) : B.ownsRow base e s (.slice (some ⟨g, 0, none⟩) n c) n xs := by
  obtain ⟨h1, h2⟩ := h
  refine ⟨h1, ?_⟩
  rcases h2 with ⟨e1, _⟩ | ⟨g', cap, cur, e1, hb, hg, r⟩
  · cases e1
  · have e2 := e1
    injection e2 with e2
    injection e2 with e2
    injection e2 with e2
    subst e2
    exact .inr ⟨g, cap, cur, e1, hb, k.blk hg hr, r⟩
/-- What the buckets read of memory. -/
structure IBS (base : Nat) (w : World) (g C1 mb gb cb : Nat) (Ak : Option Addr) (ck gk ck2 : Nat) (G : Ga ByteArray) (cs : List Int) : Prop where
  c1 : w.heap[C1]? = some (.cells #[.pointer (some ⟨g, 0, none⟩)] 24 (0, 0))
  blk : w.heap[g]? = some (.cells #[.slice (some ⟨gb, 0, none⟩) G.bs.length cb, .map (some mb), .slice Ak G.ks.length ck] 53 (0, 0))
  r1 : w.ownsRow base 3 1 (.slice (some ⟨gb, 0, none⟩) G.bs.length cb) G.bs.length (iv G.bs)
  r2 : w.ownsRow base 3 1 (.slice (some ⟨gk, 0, none⟩) (G.bs.length + 1) ck2) (G.bs.length + 1) (iv cs)
theorem IBS.kept0 {base g C1 mb gb cb ck gk ck2 : Nat} {Ak : Option Addr} {w w' : World} {G : Ga ByteArray} {cs : List Int} (h : IBS base w g C1 mb gb cb Ak ck gk ck2 G cs) (hE : Ext N0 w w') : IBS base w' g C1 mb gb cb Ak ck gk ck2 G cs :=
  ⟨hE.blk0 h.c1, hE.blk0 h.blk, ownKept0 h.r1 hE, ownKept0 h.r2 hE⟩
theorem IBS.kp {base g C1 mb gb cb ck gk ck2 : Nat} {Ak : Option Addr} {w w' : World} {G : Ga ByteArray} {cs : List Int} (h : IBS base w g C1 mb gb cb Ak ck gk ck2 G cs) (k : KpR (fun x => x = C1 ∨ x = g ∨ x = gb ∨ x = gk) w w') : IBS base w' g C1 mb gb cb Ak ck gk ck2 G cs :=
  ⟨k.blk h.c1 (.inl rfl), k.blk h.blk (.inr (.inl rfl)), ownKpS h.r1 k (.inr (.inr (.inl rfl))), ownKpS h.r2 k (.inr (.inr (.inr rfl)))⟩
attribute [local go_sem] Oper.semAt_some
set_option maxRecDepth 100000 in
set_option maxHeartbeats 1000000 in
theorem buckets_iterS (base g u C1 C2 mb gb cb : Nat) (Ak : Option Addr) (ck : Nat) (bl gc cc : ByteArray → Nat) (φ : Lit → Option (Option Nat)) (G : Ga ByteArray) (k : ByteArray) (w : World) (ho : IsGo 53 9 Value.string (fun s : ByteArray => Lit.string s.data.toList) base w g G mb gb cb Ak ck bl gc cc φ u) (hl : G.bs.length ≤ 64)
    (hkey : keyOf Try.prog 9 (.string k) = some (.string k.data.toList)) (hk : k ∈ G.ks) (h1 : w.heap[C1]? = some (.cells #[.pointer (some ⟨g, 0, none⟩)] 24 (0, 0))) (h2 : w.heap[C2]? = some (.cells #[.string k] 9 (0, 0))) :
    Iter Try.prog 52 #[.pointer (some ⟨C1, 0, none⟩), .pointer (some ⟨C2, 0, none⟩)] (BSS G.bs (cnt G.bs (G.f k))) (fun i => i = G.bs.length + 1) (fun _ => True) (fun x => x = C1 ∨ x = g ∨ x = gb ∨ x = gc k) 0 w := by
  intro l J Jx W hW hJ hJx hB hY h0
  refine callsIn_of_wp Try.func52 rfl trivial ?_ rfl
  simp only [Try.ntmps52, List.size_toArray, List.length_cons, List.length_nil, Nat.reduceAdd, Nat.reduceSub, Array.replicate_succ, Array.replicate_zero, List.push_toArray, List.append_toArray, List.nil_append, List.cons_append]
  have q1 := (blkCell (hW.blk0 h1) 0).trans rfl
  have q2 := (blkCell (hW.blk0 h2) 0).trans rfl
  simp at q1 q2
  have hoW := ho.kept0 hW
  have HOf := Lib.hid (of_goS k W hoW hkey hk)
  have HY := Lib.hid hY
  have HJ := Lib.hid hJ
  have H0 := Lib.hid h0
  have HIB : Hid (IBS base W g C1 mb gb cb Ak ck (gc k) (cc k) G (cnt G.bs (G.f k))) := Lib.hid ⟨hW.blk0 h1, hoW.blk, hoW.bo, hoW.no k hk⟩
  obtain ⟨cs, hcs⟩ : ∃ cs, cnt G.bs (G.f k) = cs := ⟨_, rfl⟩
  obtain ⟨n, hn⟩ : ∃ n, G.bs.length = n := ⟨_, rfl⟩
  have hcl : cs.length = n + 1 := by rw [← hcs, cnt_len, hn]
  obtain ⟨gk, hgk⟩ : ∃ gk, gc k = gk := ⟨_, rfl⟩
  obtain ⟨ck2, hck⟩ : ∃ ck2, cc k = ck2 := ⟨_, rfl⟩
  have q := fld0S
  rw [hcs, hgk, hck] at HIB
  rw [hcs, hgk] at HY
  rw [hgk, hck, hn] at HOf
  rw [hn] at hl ⊢
  have HN := Lib.hid hn
  have HCL := Lib.hid hcl
  clear hY hJ hJx hB h0 ho hoW h1 h2 hkey hk hcs hn hcl hgk hck
  gi_wp2_with fail
  refine ⟨trivial, rfl, (callsIn_wide.2 HOf.out).mono ?_⟩
  rintro e w2 ⟨rfl, hE2⟩
  have HIB2 := Lib.hid (HIB.out.kept0 hE2)
  have HJ2 := Lib.hid (HJ.out _ _ _ H0.out (Kb.of0 hE2))
  clear hE2 q1 q2 HOf H0 HIB
  gi_wp2_with fail
  gi_loopw [4, 12] (fun a i wr => ∃ (j : Nat) (x : Int), i = .int .i64 j ∧ a = .int .i64 x ∧ j ≤ n + 1 ∧ Hid (j ≤ n → ((-1 : Int) :: G.bs)[j]? = some x) ∧ Hid (J j wr) ∧ Hid (IBS base wr g C1 mb gb cb Ak ck gk ck2 G cs)) (fun _ i _ => n + 1 - (intOf i).toNat)
  case atStart => exact ⟨0, -1, rfl, rfl, by omega, Lib.hid (fun _ => rfl), HJ2, HIB2⟩
  case round =>
    clear HJ2 HIB2
    obtain ⟨j, x, rfl, rfl, hj, HA, HJ0, HIB⟩ := hrel
    by_cases hlt : j < n + 1
    · have hlt' : (j : Int) < ((n + 1 : Nat) : Int) := by omega
      obtain ⟨c, hc⟩ : ∃ c, cs[j]? = some c := ⟨_, List.getElem?_eq_getElem (by rw [HCL.out]; exact hlt)⟩
      have c0 : wr.cell? ⟨gk, j, none⟩ = some (.int .i64 c) := (congrArg wr.cell? (addPlain gk j)).symm.trans (World.ownsRow.cells (g := gk) HIB.out.r2 rfl j _ (iv_get hc))
      obtain ⟨fn, tmps, assign, body, hy, hRd⟩ := HY.out j _ (j + 1) _ ⟨x, c, HA.out (by omega), hc, rfl, rfl⟩ HJ0.out
      have HRd := Lib.hid hRd
      clear hRd hc
      gi_wp2
      refine ⟨rfl, HRd.out.mono ?_⟩
      rintro e w3 (⟨rfl, hJ1, _, hkp⟩ | ⟨rfl, hJx⟩)
      · have HJ1 := Lib.hid hJ1
        have hIB3 := HIB.out.kp hkp
        have HIB3 := Lib.hid hIB3
        have p1 := (blkCell hIB3.c1 0).trans rfl
        have p0 := (blkCell hIB3.blk 0).trans rfl
        simp at p0 p1
        rw [HN.out] at p0
        clear hJ1 hkp c0 hIB3
        by_cases hjn : j < n
        · have hjn' : (j : Int) < n := by omega
          obtain ⟨y, hy2⟩ : ∃ y, G.bs[j]? = some y := ⟨_, List.getElem?_eq_getElem (by rw [HN.out]; exact hjn)⟩
          have c1 : w3.cell? ⟨gb, j, none⟩ = some (.int .i64 y) := (congrArg w3.cell? (addPlain gb j)).symm.trans (World.ownsRow.cells (g := gb) HIB3.out.r1 rfl j _ (iv_get hy2))
          have HA2 : Hid (j + 1 ≤ n → ((-1 : Int) :: G.bs)[j + 1]? = some y) := Lib.hid (fun _ => by simpa using hy2)
          clear hy2
          gi_wp2
          go_roundw
          case rel => exact ⟨j + 1, y, by go_num, rfl, by omega, HA2, HJ1, HIB3⟩
          case measure => simp only [intOf]; omega
        · have hjn' : ¬ (j : Int) < n := by omega
          gi_wp2
          go_roundw
          case rel => exact ⟨j + 1, x, by go_num, rfl, by omega, Lib.hid (fun h => by omega), HJ1, HIB3⟩
          case measure => simp only [intOf]; omega
      · have HJx := Lib.hid hJx
        clear hJx c0
        gi_wp2
        exact bodyPost_ret (v := .tuple #[]) (by simp [results, Try.results52, go_sem]) rfl ⟨⟨_, rfl⟩, .inr ⟨_, HJx.out⟩⟩
    · have hlt' : ¬ (j : Int) < ((n + 1 : Nat) : Int) := by omega
      obtain rfl : j = n + 1 := by omega
      gi_wp2_with fail
      exact bodyPost_end (results_none rfl _ _ _) rfl ⟨⟨_, rfl⟩, .inl HJ0.out⟩
/-- What of the buckets is surely above a number. -/
def abvS (bs cs : List Int) (t : Int) : Nat → Int
  | 0 => 0
  | i + 1 => abvS bs cs t i + (match ((-1 : Int) :: bs)[i]?, cs[i]? with | some a, some c => if max t (-1) ≤ a then c else 0 | _, _ => 0)
end Go.Proofs.Ytcngefpdfkkgdaa
