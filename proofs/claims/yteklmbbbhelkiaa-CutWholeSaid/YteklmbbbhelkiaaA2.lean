/- Contracts of functions of package cut, each proved for every value that its statement lets in (the conditions stand in the statements). -/
import Derived.Test.YteklmbbbhelkiaaA1
namespace Go.Proofs.Yteklmbbbhelkiaa
open Go.RowKit
attribute [local go_sem] Oper.semAt_some

theorem pieces_calls (mtu : Int) (G : Nat) (w : World) :
    Calls Try.prog 13 #[.int .i64 mtu, .slice (some ⟨G, 0, none⟩) 1 1] w fun e w' => e = .returned (.func (.func 16) #[] #[.pointer (some ⟨w.heap.size + 1, 0, none⟩), .pointer (some ⟨w.heap.size, 0, none⟩)]) ∧ w' = (w.alloc (.cells #[.int .i64 mtu] 3)).alloc (.cells #[.slice (some ⟨G, 0, none⟩) 1 1] 43) := by
  go_enter Try.func13, Try.ntmps13
  go_wp2
  go_ret
  exact ⟨rfl, rfl⟩

theorem info35 : (Try.prog.info? 35).map (fun i => (i.zero, i.size, i.bytes)) = some (some (.agg #[.slice none 0 0, .bool false, .bool false]), 3, 32) := by kernel_rfl

/-- A piece as it lies in memory: its slice's address, capacity, bytes; is it the last one? -/
abbrev Pc := Option Addr × Nat × List Int × Bool
def pcell (p : Pc) : List Value := [.slice p.1 p.2.2.1.length p.2.1, .bool p.2.2.2, .bool false]
def pdata (p : Pc) : List Int × Bool := (p.2.2.1, p.2.2.2)
/-- The pieces of a message, by definition: the first j. -/
def pspec (xs : List Int) (mtu j : Nat) : List (List Int × Bool) := (List.range j).map fun k => ((xs.drop (k * mtu)).take mtu, decide (xs.length ≤ (k + 1) * mtu))
theorem pspec_succ (xs : List Int) (mtu j : Nat) : pspec xs mtu (j + 1) = pspec xs mtu j ++ [((xs.drop (j * mtu)).take mtu, decide (xs.length ≤ (j + 1) * mtu))] := by
  unfold pspec
  rw [List.range_succ, List.map_append]
  rfl
def PcOk (base : Nat) (W : World) (p : Pc) : Prop := W.ownsRow base 5 1 (.slice p.1 p.2.2.1.length p.2.1) p.2.2.1.length (ints .u8 p.2.2.1)
def CInv (w0 : World) (n0 : Nat) (xs : List Int) (mtu : Nat) (i : Nat) (W : World) : Prop :=
  ∃ (j : Nat) (ps : List Pc) (A : Option Addr) (c : Nat), i = min (j * mtu) xs.length ∧ (j ≤ i ∧ ∀ k, k < j → k * mtu < xs.length) ∧ ps.map pdata = pspec xs mtu j ∧ W.heap[n0]? = some (.cells #[.slice A j c] 24 (0, 0)) ∧
    W.ownsRow w0.heap.size 35 3 (.slice A j c) j (ps.flatMap pcell) ∧ (∀ p, p ∈ ps → PcOk w0.heap.size W p) ∧ Ext (At n0) w0 W
theorem CInv.kb {w0 : World} {n0 : Nat} {xs : List Int} {mtu z : Nat} (hz : w0.heap.size ≤ z) : ∀ i A B, CInv w0 n0 xs mtu i A → Kb z A B → CInv w0 n0 xs mtu i B := by
  rintro i A B ⟨j, ps, Av, c, h1, h2, h3, h4, h5, h6, h7⟩ k
  exact ⟨j, ps, Av, c, h1, h2, h3, k.blk h4, k.own h5, fun p hp => k.own (h6 p hp), k.ext h7 hz⟩
theorem cstep {xs : List Int} {mtu j b b' : Nat} (h1 : b = min (j * mtu) xs.length) (hb : b < xs.length) (h2 : b' = min (b + mtu) xs.length) :
    b' = min ((j + 1) * mtu) xs.length ∧ ((xs.drop b).take (b' - b)).length = b' - b ∧ ((xs.drop b).take (b' - b), decide (b' = xs.length)) = ((xs.drop (j * mtu)).take mtu, decide (xs.length ≤ (j + 1) * mtu)) := by
  have e1 : b = j * mtu := by omega
  have e2 : (j + 1) * mtu = b + mtu := by rw [e1, Nat.succ_mul]
  refine ⟨by rw [e2, h2], ?_, ?_⟩
  · rw [List.length_take, List.length_drop]
    omega
  · rw [e2, ← e1]
    refine Prod.ext ?_ ?_
    · show List.take (b' - b) (List.drop b xs) = List.take mtu (List.drop b xs)
      rcases Nat.le_total (b + mtu) xs.length with h | h
      · rw [show b' - b = mtu by omega]
      · rw [List.take_of_length_le (by rw [List.length_drop]; omega), List.take_of_length_le (by rw [List.length_drop]; omega)]
    · show decide _ = decide _
      congr 1
      exact propext ⟨fun h => by omega, fun h => by omega⟩
theorem ownBk {w : World} {b n s : Nat} {e : TypeId} {v : Value} {xs : List Value} (h : w.ownsRow b e s v n xs) : ∀ (k : Nat) (o : Obj), v.ownBlock = some k → w.heap[k]? = some o → isBk o = false := by
  intro k o hk ho
  rcases h.2 with ⟨rfl, _⟩ | ⟨g', cap', cur', rfl, _, hh', _⟩
  · simp [Value.ownBlock] at hk
  · have e2 : g' = k := by simpa [Value.ownBlock] using hk
    subst e2
    rw [hh'] at ho
    injection ho with ho
    rw [← ho]
    rfl
def CAx (n0 : Nat) (xs : List Int) (mtu : Nat) (T : Value → Value → Array Value) (b b' : Nat) (a' : Act) (W : World) : Prop :=
  b < xs.length ∧ b' = min (b + mtu) xs.length ∧ ∃ A c, W.ownsRow n0 5 1 (.slice A (b' - b) c) (b' - b) (ints .u8 ((xs.drop b).take (b' - b))) ∧
    ∃ Bp, n0 ≤ Bp ∧ W.heap[Bp]? = some (.cells #[.slice A (b' - b) c, .bool (decide (b' = xs.length)), .bool false] 35 (0, 0)) ∧
      a' = { tmps := T (.pointer (some ⟨Bp, 0, none⟩)) (.agg #[.slice A (b' - b) c, .bool (decide (b' = xs.length)), .bool false]), defers := [] }
theorem CAx.kb {n0 : Nat} {xs : List Int} {mtu z : Nat} {T : Value → Value → Array Value} : ∀ b b' a' A B, CAx n0 xs mtu T b b' a' A → Kb z A B → CAx n0 xs mtu T b b' a' B := by
  rintro b b' a' A B ⟨h1, h2, Av, c, h3, Bp, h4, h5, h6⟩ k
  exact ⟨h1, h2, Av, c, k.own h3, Bp, h4, k.blk h5, h6⟩

set_option maxRecDepth 100000 in
set_option maxHeartbeats 2000000 in
theorem cut_yes (A : Option Addr) (c : Nat) (xs : List Int) (mtu : Nat) (w : World) (hr : Reads w A (ints .u8 xs)) (hc : xs.length ≤ c) 
    (h1 : 1 ≤ xs.length) (h2 : xs.length ≤ 65536) (h3 : 1 ≤ mtu) (h4 : mtu ≤ 1024) :
    Calls Try.prog 6 #[.slice A xs.length c, .int .i64 mtu] w fun e w' => ∃ (j : Nat) (ps : List Pc) (A' : Option Addr) (c' : Nat), e = .returned (.tuple #[.slice A' j c', .int .i64 0]) ∧
      xs.length = min (j * mtu) xs.length ∧ j ≤ xs.length ∧ (∀ k, k < j → k * mtu < xs.length) ∧ ps.map pdata = pspec xs mtu j ∧ w'.ownsRow w.heap.size 35 3 (.slice A' j c') j (ps.flatMap pcell) ∧ (∀ p, p ∈ ps → PcOk w.heap.size w' p) ∧ Ext N0 w w' := by
  refine callsIn_wide (n := 0) |>.1 ?_
  refine callsIn_of_wp_marks Try.func6 rfl trivial ?_ rfl
  simp only [Try.ntmps6, List.size_toArray, List.length_cons, List.length_nil, Nat.reduceAdd, Nat.reduceSub, Array.replicate_succ, Array.replicate_zero, List.push_toArray, List.append_toArray, List.nil_append, List.cons_append]
  gi_wp2_with fail
  refine ⟨trivial, rfl, (callsIn_wide.2 (may_calls _ _ _ (by omega) (by omega) (by omega) (by omega))).mono ?_⟩
  rintro e w' ⟨rfl, rfl⟩
  gi_wp2_with fail
  refine ⟨trivial, rfl, (callsIn_wide.2 (pieces_calls _ _ _)).mono ?_⟩
  rintro e w1 ⟨rfl, hw1⟩
  subst hw1
  gi_wp2_with fail
  obtain ⟨W0, hW0⟩ : ∃ W0, ((((w'.alloc (.cells #[.slice none 0 0] 24)).alloc (.cells #[.slice A xs.length c] 22)).alloc (.cells #[.int .i64 mtu] 3)).alloc (.cells #[.slice (some ⟨w'.heap.size + 1, 0, none⟩) 1 1] 43)) = W0 := ⟨_, rfl⟩
  have hsz : W0.heap.size = w'.heap.size + 4 := by rw [← hW0]; simp
  have hB : W0.heap[w'.heap.size]? = some (.cells #[.slice none 0 0] 24 (0, 0)) := by rw [← hW0]; exact blkAlloc (blkAlloc (blkAlloc (blkNew _ _) _) _) _
  have hG : W0.heap[w'.heap.size + 1]? = some (.cells #[.slice A xs.length c] 22 (0, 0)) := by rw [← hW0]; exact blkAlloc (blkAlloc (blkNewG _ _ (by simp)) _) _
  have hT : W0.heap[w'.heap.size + 2]? = some (.cells #[.int .i64 mtu] 3 (0, 0)) := by rw [← hW0]; exact blkAlloc (blkNewG _ _ (by simp)) _
  have hM : W0.heap[w'.heap.size + 3]? = some (.cells #[.slice (some ⟨w'.heap.size + 1, 0, none⟩) 1 1] 43 (0, 0)) := by rw [← hW0]; exact blkNewG _ _ (by simp)
  have hE0 : Ext N0 w' W0 := by rw [← hW0]; exact (((Ext.refl _ _).alloc _).alloc _ |>.alloc _).alloc _
  rw [hW0]
  clear hW0
  have hlt := fun h0 => hr.lt h0
  rw [ints_length] at hlt
  have hit := pieces_iter (w'.heap.size + 3) (w'.heap.size + 2) (w'.heap.size + 1) A c xs mtu (fun k => k < w'.heap.size + 4 ∧ k ≠ w'.heap.size) W0 hM hG hT (hr.mono0 hE0) hc
    (fun ad e => by have := hlt (by omega) ad e; constructor <;> omega) (by omega) (by omega) (by omega) (fun k hk => by omega) h1 h2 h3 h4
  refine rangeLaw (gf := 16) (lb := #[.pointer (some ⟨w'.heap.size + 3, 0, none⟩), .pointer (some ⟨w'.heap.size + 2, 0, none⟩)]) rfl (enters_of Try.func16 (by kernel_rfl) rfl) hit (fun k hk => by omega)
    (fun b vs b' W hs => by obtain ⟨_, _, _, _, rfl, _⟩ := hs; rfl)
    (CInv W0 w'.heap.size xs mtu) (fun _ _ _ => False) (CInv.kb (by omega)) (fun _ _ _ _ h _ => h)
    ⟨0, [], none, 0, by omega, ⟨by omega, fun k hk => absurd hk (by omega)⟩, rfl, hB, ownNil _ _ _ _, (fun p hp => by cases hp), Ext.refl _ _⟩
    (CAx W0.heap.size xs mtu (fun p v => #[.slice A xs.length c, .int .i64 mtu, undef, undef, .slice none 0 0, .int .i64 0, .pointer (some ⟨w'.heap.size, 0, none⟩), p, .slice A xs.length c, .int .i64 xs.length, .int .i64 mtu, .bool true, .bool false, .int .i64 mtu, .slice A xs.length c, .slice (some ⟨w'.heap.size + 1, 0, none⟩) 1 1, .func (.func 16) #[] #[.pointer (some ⟨w'.heap.size + 1 + 1 + 1, 0, none⟩), .pointer (some ⟨w'.heap.size + 1 + 1, 0, none⟩)], v, undef, undef, undef, undef, undef])) CAx.kb ?assign ?body ?done ?stop
  case assign =>
    rintro l b b' vs W K ⟨hb1, hb2, A1, c1, rfl, ho⟩ hi hK
    have HB := Lib.hid hb2
    clear hb2
    gi_wp2
    refine hK _ _ (Bk.of0 ((Ext.refl _ _).alloc _)) (KpR.of_ext ((Ext.refl N0 _).alloc _) (fun _ _ h => h)) (CInv.kb (z := W0.heap.size) (Nat.le_refl _) _ _ _ hi (Kb.of0 ((Ext.refl _ _).alloc _))) ?_
    refine ⟨hb1, HB.out, A1, c1, ownKept0 ho ((Ext.refl _ _).alloc _), W.heap.size, by obtain ⟨_, _, _, _, _, _, _, _, _, _, h⟩ := hi; exact h.size, blkNew _ _, rfl⟩
  case body =>
    rintro l b b' a' W hl hlo ⟨j, ps, A1, c1, h1, ⟨h2, hlast⟩, h3, h4, h5, h6, h7⟩ ⟨g1, g2, A2, c2, g3, Bp, g4, g5, rfl⟩
    have H1 := Lib.hid h1
    have H2 := Lib.hid g2
    have H3 := Lib.hid h3
    clear h1 g2 h3
    have k4 := (blkCell h4 0).trans rfl
    have p0 := (blkCell g5 0).trans rfl
    have p1 := (blkCell g5 1).trans rfl
    have p2 := (blkCell g5 2).trans rfl
    have hs7 := h7.size
    gi_wp2_with (gi_at_builtin; (refine wpAppIn W0.heap.size (.tmp 18) (.tmp 20) 24 35 (.agg #[.slice none 0 0, .bool false, .bool false]) 3 32 rfl rfl Try.underlying24 info35 rfl (by decide) (by decide) (.slice A1 j c1) j (ps.flatMap pcell) (some ⟨W.heap.size, 0, none⟩) 1 1 [.slice A2 (b' - b) c2, .bool (decide (b' = xs.length)), .bool false] rfl rfl (ownKept0 h5 ((Ext.refl _ _).alloc _)) rfl (litReads W _ _ (by simp)) (by simp [Value.oneCell']) (by omega) (by simp; omega) ?_); intro A' c' w2 ho2 hE2 hd2; have hE1 : Ext N0 W (W.alloc (Obj.cells #[Value.slice A2 (b' - b) c2, Value.bool (decide (b' = xs.length)), Value.bool false] 35)) := (Ext.refl _ _).alloc _; have n4 : w2.heap[w'.heap.size]? = some (.cells #[.slice A1 j c1] 24 (0, 0)) := hE2.blk (hE1.blk0 h4) (fun h => ownNeBlk h5 h4 (by decide) _ h rfl); have q4 := (blkCell n4 0).trans rfl; have f4 := blkFrozen n4 0)
    have ex : Ext (At w'.heap.size) w2 (w2.setCell ⟨w'.heap.size, 0, none⟩ (.slice A' (j + 1) c')) := (Ext.refl (At w'.heap.size) w2).setCell (p := ⟨w'.heap.size, 0, none⟩) (.inl (show w'.heap.size = w'.heap.size from rfl)) _
    have h5' := ownKept0 h5 hE1
    obtain ⟨e1, e2, e3⟩ := cstep H1.out g1 H2.out
    refine ⟨((Bk.of0 hE1).trans (Bk.of_ext hE2 (ownBk h5'))).trans (Bk.of_ext ex ?_), ?_, j + 1, ps ++ [(A2, c2, (xs.drop b).take (b' - b), decide (b' = xs.length))], A', c', e1, ?_, ?_, blkSet n4 0 _, ?_, ?_, ?_⟩
    · rintro k o rfl ho
      rw [n4] at ho
      injection ho with ho
      rw [← ho]
      rfl
    · exact (KpR.of_ext hE1 (fun _ _ h => h)).trans hE1.size ((KpR.of_ext hE2 (fun k hk h => by have := (ownBase h5 k h).1; omega)).trans hE2.size (KpR.of_ext ex (fun k hk h => hk.2 h)))
    · have := H2.out
      refine ⟨by omega, fun k hk => ?_⟩
      rcases Nat.lt_or_ge k j with h | h
      · exact hlast k h
      · obtain rfl : k = j := by omega
        have := H1.out
        omega
    · rw [List.map_append, H3.out, pspec_succ]
      congr 1
      rw [← e3]
      rfl
    · have := ownKept ho2 ex (fun k hk h => ownNeBlk ho2 n4 (by decide) k hk h)
      rw [List.flatMap_append]
      simpa [pcell, e2] using this
    · have hpk : ∀ v n xs, W.ownsRow W0.heap.size 5 1 v n xs → (w2.setCell ⟨w'.heap.size, 0, none⟩ (.slice A' (j + 1) c')).ownsRow W0.heap.size 5 1 v n xs := fun v n xs h => by
        have h1 := ownKept (ownKept0 h hE1) hE2 (fun k hk => ownNe (ownKept0 h hE1) h5' (by decide) k hk)
        exact ownKept h1 ex (fun k hk h => ownNeBlk h1 n4 (by decide) k hk h)
      intro p hp
      rcases List.mem_append.1 hp with hp | hp
      · exact hpk _ _ _ (h6 p hp)
      · rw [List.mem_singleton.1 hp]
        have := hpk _ _ _ g3
        unfold PcOk
        simpa [e2] using this
    · exact ((h7.then0 hE1).trans hE2 (fun k hk => .inr (ownBase h5 k hk).1)).same ex
  case done =>
    rintro D b W hD hF ⟨j, ps, A1, c1, h1, ⟨h2, hlast⟩, h3, h4, h5, h6, h7⟩ hK
    have k4 := (blkCell h4 0).trans rfl
    gi_wp2
    refine ⟨by simp, .inl ⟨_, _, rfl, run_takeDeferred hK, ?_⟩⟩
    have kb := Kb.put (z := W0.heap.size) (.deferred none) hK rfl hD
    subst hF
    refine ⟨.tuple #[.slice A1 j c1, .int .i64 0], by simp [results, Try.f6, go_sem], j, ps, A1, c1, rfl, h1, h2, hlast, h3, ownLe (kb.own h5) (by omega), fun p hp => ownLe (kb.own (h6 p hp)) (by omega), kb.ext (hE0.trans h7 (fun k hk => .inr (by have : k = w'.heap.size := hk; omega))) (by omega)⟩
  case stop =>
    rintro D c b W _ h _
    exact h.elim
end Go.Proofs.Yteklmbbbhelkiaa
