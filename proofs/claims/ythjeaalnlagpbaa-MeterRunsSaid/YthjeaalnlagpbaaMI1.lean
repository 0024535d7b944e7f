/- Contracts of functions of package meter at keys of type int, each proved for every value that its statement lets in (the conditions stand in the statements). -/
import Derived.Test.YthjeaalnlagpbaaMt
import Derived.StringKeys
namespace Go.Proofs.Ythjeaalnlagpbaa
open Go.RowKit Go.Maps
theorem lawI : Keyed Try.prog 3 := int_keyed Try.underlying3
theorem zeroI (w : World) : (zeroValue 84).run Try.prog w = .ok (.agg #[.int .i64 0, .int .i64 0]) w := by kernel_rfl
theorem infoI : (Try.prog.info? 3).map (fun i => (i.zero, i.size, i.bytes)) = some (some (.int .i64 0), 1, 8) := by kernel_rfl
theorem injI : ∀ a b : Int, (Lit.int .i64) a = (Lit.int .i64) b → a = b := fun a b h => by injection h
abbrev IsMI (base : Nat) (w : World) (g : Nat) (m : Mt Int) (u : Nat) : Prop := IsM 97 3 (Value.int .i64) (Lit.int .i64) base w g m u
abbrev TcI (base : Nat) (w : World) : Nat → Prop := Tc 97 3 base w
theorem none_callsI (g mb : Nat) (w : World) (h : w.cell? ⟨g, 4, none⟩ = some (.map (some mb))) : Calls Try.prog 45 #[.pointer (some ⟨g, 0, none⟩)] w fun e w' => e = .returned (.bool false) ∧ w = w' := by
  have qm := fun (w : World) (r : Option Nat) => run_eql_map_nil (P := Try.prog) w 94 3 84 r Try.underlying94
  go_enter Try.func45, Try.ntmps45
  go_wp2
  go_ret
  exact ⟨rfl, rfl⟩
/-- A key's tokens. -/
theorem tok_callsI (base g u : Nat) (m : Mt Int) (k : Int) (w : World) (h : IsMI base w g m u) (hok : m.Ok) (hkey : keyOf Try.prog 3 (.int .i64 k) = some (.int .i64 k)) :
    Calls Try.prog 32 #[.pointer (some ⟨g, 0, none⟩), .int .i64 k] w fun e w' => e = .returned (.int .i64 (m.tok k)) ∧ Ext N0 w w' := by
  obtain ⟨mb, A, c, φ, u', _, ho, hφ⟩ := h
  have hr := hok.r
  have hb := hok.b
  have hnow := hok.now
  have hbu := hok.bu k
  have h := ho.blk
  have c0 := (blkCell h 0).trans rfl
  have c1 := (blkCell h 1).trans rfl
  have c3 := (blkCell h 3).trans rfl
  have c4 := (blkCell h 4).trans rfl
  simp at c0 c1 c3 c4
  have hlk := ho.mp.look (a0 := (0, 0)) buT lawI Try.underlying94 (zeroI w) hkey
  have hv : φ (.int .i64 k) = m.get k := hφ k
  rw [hv] at hlk
  clear hv hφ ho hok
  unfold Mt.tok
  by_cases hk : k ∈ m.ks
  · have hlk' : (Instr.lookup 94 (.map (some mb)) (.int .i64 k) true).run Try.prog w = .ok (.tuple #[.agg #[.int .i64 (m.f k).1, .int .i64 (m.f k).2], .bool true]) w := by
      simpa [Mt.get, hk, buV] using hlk
    rw [if_pos hk]
    obtain ⟨y1, y2, y3, y4⟩ := hbu hk
    clear hlk hk hbu
    obtain ⟨y, hy⟩ : ∃ y, m.f k = y := ⟨_, rfl⟩
    rw [hy] at hlk' y1 y2 y3 y4 ⊢
    clear hy
    have hE : Ext N0 w ((w.alloc (.cells #[.int .i64 y.1, .int .i64 y.2] 84)).drew) := ((Ext.refl _ _).alloc _).drew
    have hB : ((w.alloc (.cells #[.int .i64 y.1, .int .i64 y.2] 84)).drew).heap[w.heap.size]? = some (.cells #[.int .i64 y.1, .int .i64 y.2] 84 (0, 0)) := blkNew _ _
    have d0 := (blkCell (hE.blk0 h) 0).trans rfl
    have d1 := (blkCell (hE.blk0 h) 1).trans rfl
    have d3 := (blkCell (hE.blk0 h) 3).trans rfl
    have o0 := (blkCell hB 0).trans rfl
    have o1 := (blkCell hB 1).trans rfl
    simp at d0 d1 d3 o0 o1
    have hwr : IntKind.i64.wrap (m.now - y.2) = m.now - y.2 := IntWalk.i64_in _ (by omega)
    have HC := Lib.hid (fun W => after_calls m.r m.b y.1 (m.now - y.2) W hr hb ⟨y1, y2⟩ (by omega))
    have HE := Lib.hid hE
    clear hE h hB
    go_enter Try.func32, Try.ntmps32
    go_wp2_with (go_at_call 45; refine (none_callsI g mb _ c4).mono ?_; rintro e w' ⟨rfl, rfl⟩)
    go_region_held3 (fun w' => w'.cell? ⟨g, 0, none⟩ = some (.int .i64 m.r) ∧ w'.cell? ⟨g, 1, none⟩ = some (.int .i64 m.b) ∧ w'.cell? ⟨g, 3, none⟩ = some (.int .i64 m.now) ∧ w'.cell? ⟨w.heap.size, 0, none⟩ = some (.int .i64 y.1) ∧ w'.cell? ⟨w.heap.size, 1, none⟩ = some (.int .i64 y.2)) (first | go_keep | (refine ⟨?_, ?_, ?_, ?_, ?_⟩ <;> exact hE2.cell (by simp_all) (fun x => x)))
      (first | (go_at_call 35; refine (HC.out _).mono ?_; rintro e w2 ⟨rfl, hE2⟩))
    all_goals
      go_wp2
      go_ret
      exact ⟨rfl, HE.out.then0 hE2⟩
  · have hlk' : (Instr.lookup 94 (.map (some mb)) (.int .i64 k) true).run Try.prog w = .ok (.tuple #[.agg #[.int .i64 0, .int .i64 0], .bool false]) w := by
      simpa [Mt.get, hk, buV] using hlk
    rw [if_neg hk]
    clear hlk hk hbu
    have hE : Ext N0 w (w.alloc (.cells #[.int .i64 0, .int .i64 0] 84)) := (Ext.refl _ _).alloc _
    have d1 := (blkCell (hE.blk0 h) 1).trans rfl
    simp at d1
    have HE := Lib.hid hE
    clear hE h
    go_enter Try.func32, Try.ntmps32
    go_wp2_with (go_at_call 45; refine (none_callsI g mb _ c4).mono ?_; rintro e w' ⟨rfl, rfl⟩)
    go_ret
    exact ⟨rfl, HE.out⟩
set_option maxRecDepth 100000 in
/-- A key is asked for. -/
theorem ask_callsI (base g u : Nat) (m : Mt Int) (k : Int) (n : Int) (w : World) (h : IsMI base w g m u) (hok : m.Ok) (hkey : keyOf Try.prog 3 (.int .i64 k) = some (.int .i64 k)) (hu : u ≤ 100000) (hbase : base ≤ w.heap.size) :
    Calls Try.prog 43 #[.pointer (some ⟨g, 0, none⟩), .int .i64 k, .int .i64 n] w fun e w' => e = .returned (.int .i64 (m.err k n)) ∧ IsMI base w' g (m.ask k n) (u + 1) ∧ Ext (TcI base w) w w' := by
  have h0 := h
  obtain ⟨mb, A, c, φ, u', hu', ho, hφ⟩ := h
  have hlen := hok.len
  have hmost := hok.most
  have h := ho.blk
  have c4 := (blkCell h 4).trans rfl
  simp at c4
  by_cases hn : n < 1 ∨ 1073741824 < n
  · have e1 : m.err k n = 1 := by unfold Mt.err; rw [if_pos hn]
    have e2 : m.ask k n = m := by unfold Mt.ask; rw [e1]; simp
    rw [e1, e2]
    have H0 := Lib.hid (h0.more (show u ≤ u + 1 by omega))
    clear h h0 ho hφ e1 e2
    by_cases hn1 : n < 1
    · go_enter Try.func43, Try.ntmps43
      go_wp2_with (go_at_call 45; refine (none_callsI g mb _ c4).mono ?_; rintro e w' ⟨rfl, rfl⟩)
      go_ret
      exact ⟨rfl, H0.out, Ext.refl _ _⟩
    · have hn2 : 1073741824 < n := by omega
      go_enter Try.func43, Try.ntmps43
      go_wp2_with (go_at_call 45; refine (none_callsI g mb _ c4).mono ?_; rintro e w' ⟨rfl, rfl⟩)
      go_ret
      exact ⟨rfl, H0.out, Ext.refl _ _⟩
  · have hn1 : ¬ n < 1 := fun h => hn (.inl h)
    have hn2 : ¬ 1073741824 < n := fun h => hn (.inr h)
    have hlk := ho.mp.look (a0 := (0, 0)) buT lawI Try.underlying94 (zeroI w) hkey
    have hv : φ (.int .i64 k) = m.get k := hφ k
    rw [hv] at hlk
    clear hv
    by_cases hk : k ∈ m.ks
    · have e1 : m.err k n = 0 := by unfold Mt.err; rw [if_neg hn, if_pos hk]
      have e2 : m.ask k n = m := by unfold Mt.ask; rw [if_neg (fun h => h.2 hk)]
      have hlk' : (Instr.lookup 94 (.map (some mb)) (.int .i64 k) true).run Try.prog w = .ok (.tuple #[.agg #[.int .i64 (m.f k).1, .int .i64 (m.f k).2], .bool true]) w := by
        simpa [Mt.get, hk, buV] using hlk
      rw [e1, e2]
      have H0 := Lib.hid (h0.more (show u ≤ u + 1 by omega))
      clear h h0 ho hφ e1 e2 hlk hk hn
      go_enter Try.func43, Try.ntmps43
      go_wp2_with (go_at_call 45; refine (none_callsI g mb _ c4).mono ?_; rintro e w' ⟨rfl, rfl⟩)
      go_ret
      exact ⟨rfl, H0.out.kept0 ((Ext.refl _ _).alloc _), (Ext.refl _ _).alloc _⟩
    · have hlk' : (Instr.lookup 94 (.map (some mb)) (.int .i64 k) true).run Try.prog w = .ok (.tuple #[.agg #[.int .i64 0, .int .i64 0], .bool false]) w := by
        simpa [Mt.get, hk, buV] using hlk
      have hE : Ext N0 w ((w.alloc (.cells #[.int .i64 0, .int .i64 0] 84))) := (Ext.refl _ _).alloc _
      have d5 := (blkCell (hE.blk0 h) 5).trans rfl
      have d2 := (blkCell (hE.blk0 h) 2).trans rfl
      have dd5 := (blkCell (hE.drew.blk0 h) 5).trans rfl
      have dd2 := (blkCell (hE.drew.blk0 h) 2).trans rfl
      simp at d5 d2 dd5 dd2
      have HE := Lib.hid hE
      by_cases hm : m.most ≤ m.ks.length
      · have e1 : m.err k n = 3 := by unfold Mt.err; rw [if_neg hn, if_neg hk, if_pos hm]
        have e2 : m.ask k n = m := by unfold Mt.ask; rw [e1]; simp
        rw [e1, e2]
        have H0 := Lib.hid (h0.more (show u ≤ u + 1 by omega))
        clear h h0 ho hφ e1 e2 hlk hk hE hn
        go_enter Try.func43, Try.ntmps43
        go_wp2_with (go_at_call 45; refine (none_callsI g mb _ c4).mono ?_; rintro e w' ⟨rfl, rfl⟩)
        go_region
        go_wp2
        go_ret
        exact ⟨rfl, H0.out.kept0 ((Ext.refl _ _).alloc _).drew, ((Ext.refl _ _).alloc _).drew⟩
      · have e1 : m.err k n = 0 := by unfold Mt.err; rw [if_neg hn, if_neg hk, if_neg hm]
        have e2 : m.ask k n = (m.push k).set k m.b := by unfold Mt.ask; rw [if_pos ⟨e1, hk⟩]
        rw [e1, e2]
        have HO := Lib.hid ho
        have HF := Lib.hid hφ
        clear h h0 ho hφ e1 e2 hlk hk hE hn
        go_enter Try.func43, Try.ntmps43
        go_wp2_with (go_at_call 45; refine (none_callsI g mb _ c4).mono ?_; rintro e w' ⟨rfl, rfl⟩)
        go_region
        go_wp2_with (at_builtin; refine wpApp base (.tmp 43) (.tmp 45) 95 3 (.int .i64 0) 1 8 rfl rfl Try.underlying95 infoI rfl (by decide) (by decide) (.slice A m.ks.length c) m.ks.length (m.ks.map (Value.int .i64)) _ 1 _ [.int .i64 k] rfl rfl (HO.out.kept0 ((HE.out.alloc _).drew)).own rfl ((litReadsG (w.alloc (.cells #[.int .i64 0, .int .i64 0] 84)) [.int .i64 k] 3 (g := w.heap.size + 1) (by simp) (by simp)).mono0 (Ext.refl _ _).drew) (by simp [Value.oneCell']) (by omega) (by simp; omega) ?_; intro A2 c2 w2 ho2 hE2 _; obtain ⟨HP, HT, b2⟩ := HO.out.push (k := k) (by decide) ((HE.out.alloc _).drew) hE2 ho2; have f5 := blkFrozen b2 5; have e5 := (blkCell b2 5).trans rfl; simp at e5; obtain ⟨w4, hup, hE4, h4⟩ := (HP.kept0 (Ext.refl _ _).drew).upd (kl := (Lit.int .i64)) (k := k) lawI Try.underlying94 hkey (by simp only [maxLen]; omega) (m.b, m.now); have hup' : (Instr.mapUpdate 94 (.map (some mb)) (.int .i64 k) (.agg #[.int .i64 m.b, .int .i64 m.now])).run Try.prog (w2.setCell ⟨g, 5, none⟩ (.slice A2 (m.ks.length + 1) c2)).drew = .ok () w4 := hup; have s1 := (blkCell HP.blk 1).trans rfl; have s3 := (blkCell HP.blk 3).trans rfl; have s4 := (blkCell HP.blk 4).trans rfl; have t1 := (blkCell (h4 m.f).blk 1).trans rfl; have t3 := (blkCell (h4 m.f).blk 3).trans rfl; have t4 := (blkCell (h4 m.f).blk 4).trans rfl; simp [Mt.push] at s1 s3 s4 t1 t3 t4; have HR := Lib.hid (And.intro HP (And.intro HT (And.intro hE4 h4))); clear HP HT hE4 h4 hup ho2 hE2)
        go_region_held3 (fun w' => w'.cell? ⟨g, 1, none⟩ = some (.int .i64 m.b) ∧ w'.cell? ⟨g, 3, none⟩ = some (.int .i64 m.now) ∧ w'.cell? ⟨g, 4, none⟩ = some (.map (some mb))) (first | go_keep) (first | fail)
        all_goals
          go_wp2
          go_ret
          obtain ⟨HP, HT, hE4, h4⟩ := HR.out
          refine ⟨rfl, ⟨mb, A2, c2, _, u' + 1, by omega, h4 _, mpSetGet (m := m.push k) k (fun k' hk' => (HF.out k').trans (Mt.push_get hk').symm) injI m.b (Mt.push_mem m k)⟩, ?_⟩
          exact tcTrans HT.drew (hE4.tc (tcMap (HP.kept0 (Ext.refl _ _).drew)))
end Go.Proofs.Ythjeaalnlagpbaa
