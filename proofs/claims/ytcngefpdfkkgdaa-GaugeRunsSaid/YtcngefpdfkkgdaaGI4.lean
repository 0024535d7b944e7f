/- Gauges at keys of one type: Above, proved for every value that its statement lets in (the conditions stand in the statements). -/
import Derived.Test.YtcngefpdfkkgdaaGI3
namespace Go.Proofs.Ytcngefpdfkkgdaa
open Go.RowKit Go.Maps
attribute [local go_sem] Oper.semAt_some
theorem abv_stepI {bs cs : List Int} {t : Int} {i : Nat} {a c : Int} (ha : ((-1 : Int) :: bs)[i]? = some a) (hc : cs[i]? = some c) : abvI bs cs t (i + 1) = abvI bs cs t i + (if max t (-1) ≤ a then c else 0) := by
  rw [abvI, ha, hc]
theorem abv_bdI (bs cs : List Int) (t : Int) (hb : ∀ c ∈ cs, 0 ≤ c ∧ c ≤ 1000000) : ∀ i : Nat, 0 ≤ abvI bs cs t i ∧ abvI bs cs t i ≤ i * 1000000 := by
  intro i
  induction i with
  | zero => simp [abvI]
  | succ i ih =>
    rw [abvI]
    have : ((i + 1 : Nat) : Int) = (i : Int) + 1 := by omega
    rw [this, Int.add_mul]
    cases ha : ((-1 : Int) :: bs)[i]? with
    | none => simp; omega
    | some a =>
      cases hc : cs[i]? with
      | none => simp; omega
      | some c =>
        have := hb c (List.mem_of_getElem? hc)
        simp only []
        split <;> omega
theorem cnt_bdI {G : Ga Int} {N : Nat} (hok : G.Ok N) (hN : N ≤ 100000) (k : Int) : ∀ c ∈ cnt G.bs (G.f k), 0 ≤ c ∧ c ≤ 1000000 := by
  intro c hc
  unfold cnt at hc
  rw [List.mem_map] at hc
  obtain ⟨i, _, rfl⟩ := hc
  have h1 := List.length_filter_le (fun x => bkt G.bs x == i) (G.f k)
  have h2 := hok.lens k
  omega
set_option maxRecDepth 100000 in
set_option maxHeartbeats 1000000 in
theorem above_inI (base g u N : Nat) (G : Ga Int) (k : Int) (t : Int) (F : Nat → Prop) (w : World) (h : IsGI base w g G u F) (hok : G.Ok N) (hN : N ≤ 100000) (hkey : keyOf Try.prog 3 (.int .i64 k) = some (.int .i64 k)) (hk : k ∈ G.ks) :
    Calls Try.prog 36 #[.pointer (some ⟨g, 0, none⟩), .int .i64 k, .int .i64 t] w fun e w' => e = .returned (.int .i64 (abvI G.bs (cnt G.bs (G.f k)) t (G.bs.length + 1))) ∧ Ext N0 w w' := by
  obtain ⟨mb, gb, cb, Ak, ck, bl, gc, cc, φ, ho, _⟩ := h
  have hbl := hok.bl.2
  have hbd := abv_bdI G.bs (cnt G.bs (G.f k)) t (cnt_bdI hok hN k)
  have hcl := cnt_len G.bs (G.f k)
  have hgl := blkLt ho.blk
  have hgbl := (ownBase ho.bo gb rfl).2
  have hgcl := (ownBase (ho.no k hk) (gc k) rfl).2
  refine callsIn_wide (n := 0) |>.1 ?_
  refine callsIn_of_wp_marks Try.func36 rfl trivial ?_ rfl
  simp only [Try.ntmps36, List.size_toArray, List.length_cons, List.length_nil, Nat.reduceAdd, Nat.reduceSub, Array.replicate_succ, Array.replicate_zero, List.push_toArray, List.append_toArray, List.nil_append, List.cons_append]
  have HO := Lib.hid ho
  have HK := Lib.hid (And.intro hkey hk)
  have HB := Lib.hid hbd
  have HCL := Lib.hid hcl
  clear ho hkey hk hbd hcl hok
  gi_wp2_with fail
  refine ⟨trivial, rfl, (callsIn_wide.2 (buckets_callsI (some ⟨g, 0, none⟩) k _)).mono ?_⟩
  rintro e w2 ⟨rfl, hw2⟩
  have HW2 := Lib.hid hw2
  clear hw2
  gi_wp2_with fail
  have hsz : w2.heap.size = w.heap.size + 4 := by rw [HW2.out]; simp
  have hE2 : Ext N0 w w2 := by rw [HW2.out]; exact ((((Ext.refl _ _).alloc _).alloc _).alloc _).alloc _
  have ht2 : w2.heap[w.heap.size]? = some (.cells #[.int .i64 t] 3 (0, 0)) := by rw [HW2.out]; exact blkAlloc (blkAlloc (blkAlloc (blkNew _ _) _) _) _
  have hs2 : w2.heap[w.heap.size + 1]? = some (.cells #[.int .i64 0] 3 (0, 0)) := by rw [HW2.out]; exact blkAlloc (blkAlloc (blkNewG _ _ (by simp)) _) _
  have hp2 : w2.heap[w.heap.size + 1 + 1]? = some (.cells #[.pointer (some ⟨g, 0, none⟩)] 69 (0, 0)) := by rw [HW2.out]; exact blkAlloc (blkNewG _ _ (by simp)) _
  have hk2 : w2.heap[w.heap.size + 1 + 1 + 1]? = some (.cells #[.int .i64 k] 3 (0, 0)) := by rw [HW2.out]; exact blkNewG _ _ (by simp)
  have hO2 := HO.out.kept0 hE2
  clear HW2 HO
  refine rangeLaw (β := Nat) (b0 := 0) (Step := BSI G.bs (cnt G.bs (G.f k))) (Fin := fun i => i = G.bs.length + 1) (Bd := fun _ => True) (R := fun x => x = w.heap.size + 1 + 1 ∨ x = g ∨ x = gb ∨ x = gc k) (gf := 56) (lb := #[.pointer (some ⟨w.heap.size + 1 + 1, 0, none⟩), .pointer (some ⟨w.heap.size + 1 + 1 + 1, 0, none⟩)]) rfl (enters_of Try.func56 (by kernel_rfl) rfl)
    (buckets_iterI base g u _ _ mb gb cb Ak ck bl gc cc φ G k w2 hO2 hbl HK.out.1 HK.out.2 hp2 hk2) (fun x hx => by have hx : x = w.heap.size + 1 + 1 ∨ x = g ∨ x = gb ∨ x = gc k := hx; omega) (fun b vs b' W hs => by obtain ⟨_, _, _, _, _, rfl⟩ := hs; rfl)
    (fun i W => i ≤ G.bs.length + 1 ∧ W.heap[w.heap.size + 1]? = some (.cells #[.int .i64 (abvI G.bs (cnt G.bs (G.f k)) t i)] 3 (0, 0)) ∧ Ext (At (w.heap.size + 1)) w2 W)
    (fun code _ W => False)
    (fun i A B hh kb => ⟨hh.1, kb.blk hh.2.1, kb.ext hh.2.2 (Nat.le_refl _)⟩)
    (fun code i A B hh k => hh)
    ⟨Nat.zero_le _, hs2, Ext.refl _ w2⟩ (fun i A h => trivial)
    (fun i i' a' W => ∃ a c, ((-1 : Int) :: G.bs)[i]? = some a ∧ (cnt G.bs (G.f k))[i]? = some c ∧ i' = i + 1 ∧ a' = { tmps := #[.pointer (some ⟨g, 0, none⟩), .int .i64 k, .int .i64 t, undef, undef, .pointer (some ⟨w.heap.size, 0, none⟩), .int .i64 0, .pointer (some ⟨w.heap.size + 1, 0, none⟩), .int .i64 a, .int .i64 c, .pointer (some ⟨g, 0, none⟩), .int .i64 k, .func (.func 56) #[] #[.pointer (some ⟨w.heap.size + 1 + 1, 0, none⟩), .pointer (some ⟨w.heap.size + 1 + 1 + 1, 0, none⟩)], .int .i64 a, .int .i64 c, undef, undef, undef, undef, undef, undef, undef, undef], defers := [] })
    (fun i i' a' A B h k => h) ?assign ?body ?done ?stop
  case assign =>
    rintro l i i' vs W K ⟨a, c, ha, hc, rfl, rfl⟩ hi hK
    gi_wp2
    exact hK _ _ (Bk.refl _) (KpR.refl _ _) hi ⟨a, c, ha, hc, trivial, rfl⟩
  case body =>
    rintro l i i' a' W hl hlo ⟨hil, hb, hE⟩ ⟨a, c, ha, hc, rfl, rfl⟩
    have hii : i < G.bs.length + 1 := by
      have := (List.getElem?_eq_some_iff.1 hc).1
      have := HCL.out
      omega
    have hB0 := HB.out i
    have hB1 := HB.out (i + 1)
    have hst := abv_stepI (t := t) ha hc
    have t0 := (blkCell (hE.blk ht2 (fun (e : w.heap.size = w.heap.size + 1) => by omega)) 0).trans rfl
    have s0 := (blkCell hb 0).trans rfl
    have sf := blkFrozen hb 0
    simp at t0 s0
    obtain ⟨A0, hA0⟩ : ∃ A0, abvI G.bs (cnt G.bs (G.f k)) t i = A0 := ⟨_, rfl⟩
    obtain ⟨A1, hA1⟩ : ∃ A1, abvI G.bs (cnt G.bs (G.f k)) t (i + 1) = A1 := ⟨_, rfl⟩
    rw [hA0] at hB0 hst s0 hb
    rw [hA1] at hB1 hst
    have hA1v : ((i + 1 : Nat) : Int) * 1000000 ≤ 65000000 := by omega
    have HE := Lib.hid (And.intro hE hb)
    have HA1 := Lib.hid hA1
    have HII := Lib.hid (show i + 1 ≤ G.bs.length + 1 by omega)
    clear hE hb ha hc hA0 hA1
    by_cases htm : ¬ t < -1
    · by_cases hta : t ≤ a
      · obtain rfl : A1 = A0 + c := by rw [hst, if_pos (by omega)]
        have hsum : 0 ≤ A0 + c ∧ A0 + c ≤ 65000000 := by omega
        clear hst hB0 hB1 hA1v hii hil
        gi_wp2
        have hx := extSet W (w.heap.size + 1) 0 (.int .i64 (A0 + c))
        have hbW := HE.out.2
        refine ⟨Bk.of_ext hx ?_, KpR.of_ext hx (fun x hx (e : x = w.heap.size + 1) => by have hx : x = w.heap.size + 1 + 1 ∨ x = g ∨ x = gb ∨ x = gc k := hx; omega), HII.out, ?_, HE.out.1.same hx⟩
        · rintro x o (rfl : x = w.heap.size + 1) ho
          rw [hbW] at ho
          injection ho with ho
          rw [← ho]
          rfl
        · rw [HA1.out]
          exact (blkSet hbW 0 _).trans (by simp)
      · obtain rfl : A1 = A0 := by rw [hst, if_neg (by omega)]; omega
        clear hst hB0 hB1 hA1v hii hil
        gi_wp2
        refine ⟨Bk.refl _, KpR.refl _ _, HII.out, ?_, HE.out.1⟩
        rw [HA1.out]
        exact HE.out.2
    · have htm : t < -1 := by omega
      by_cases hta : -1 ≤ a
      · obtain rfl : A1 = A0 + c := by rw [hst, if_pos (by omega)]
        have hsum : 0 ≤ A0 + c ∧ A0 + c ≤ 65000000 := by omega
        clear hst hB0 hB1 hA1v hii hil
        gi_wp2
        have hx := extSet W (w.heap.size + 1) 0 (.int .i64 (A0 + c))
        have hbW := HE.out.2
        refine ⟨Bk.of_ext hx ?_, KpR.of_ext hx (fun x hx (e : x = w.heap.size + 1) => by have hx : x = w.heap.size + 1 + 1 ∨ x = g ∨ x = gb ∨ x = gc k := hx; omega), HII.out, ?_, HE.out.1.same hx⟩
        · rintro x o (rfl : x = w.heap.size + 1) ho
          rw [hbW] at ho
          injection ho with ho
          rw [← ho]
          rfl
        · rw [HA1.out]
          exact (blkSet hbW 0 _).trans (by simp)
      · obtain rfl : A1 = A0 := by rw [hst, if_neg (by omega)]; omega
        clear hst hB0 hB1 hA1v hii hil
        gi_wp2
        refine ⟨Bk.refl _, KpR.refl _ _, HII.out, ?_, HE.out.1⟩
        rw [HA1.out]
        exact HE.out.2
  case done =>
    rintro D i W hD hF ⟨hil, hb, hE⟩ hK
    have hF : i = G.bs.length + 1 := hF
    subst hF
    have k4 := (blkCell hb 0).trans rfl
    clear hb
    simp at k4
    have HE := Lib.hid hE
    clear hE
    gi_wp2
    refine ⟨by simp, .inl ⟨_, _, rfl, run_takeDeferred hK, ?_⟩⟩
    have kb := Kb.put (z := w2.heap.size) (.deferred none) hK rfl hD
    exact ⟨.int .i64 (abvI G.bs (cnt G.bs (G.f k)) t (G.bs.length + 1)), by simp [results, Try.f36, go_sem], rfl, kb.ext (hE2.trans HE.out (fun k hk => .inr (by have : k = w.heap.size + 1 := hk; omega))) (by omega)⟩
  case stop => exact fun D code b W _ hF _ => (show False from hF).elim
end Go.Proofs.Ytcngefpdfkkgdaa
