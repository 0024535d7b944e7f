/- Contracts of functions of package meter at keys of type string, each proved for every value that its statement lets in (the conditions stand in the statements). -/
import Derived.Test.YthjeaalnlagpbaaMS1
namespace Go.Proofs.Ythjeaalnlagpbaa
open Go.RowKit Go.Maps
set_option maxRecDepth 100000 in
/-- As many as there are are taken. -/
theorem force_callsS (base g u : Nat) (m : Mt ByteArray) (k : ByteArray) (n : Int) (w : World) (h : IsMS base w g m u) (hok : m.Ok) (hkey : keyOf Try.prog 9 (.string k) = some (.string k.data.toList)) (hu : u ≤ 90000) (hbase : base ≤ w.heap.size) :
    Calls Try.prog 18 #[.pointer (some ⟨g, 0, none⟩), .string k, .int .i64 n] w fun e w' =>
      (m.err k n = 0 ∧ e = .returned (.tuple #[.int .i64 (min n ((m.ask k n).tok k)), .int .i64 0]) ∧ IsMS base w' g (m.force k n) (u + 2) ∧ Ext (TcS base w) w w') ∨
      (¬ m.err k n = 0 ∧ e = .returned (.tuple #[.int .i64 0, .int .i64 (m.err k n)]) ∧ IsMS base w' g m (u + 2) ∧ Ext (TcS base w) w w') := by
  have HA := ask_callsS base g u m k n w h hok hkey (by omega) hbase
  by_cases he : m.err k n = 0
  · have hn := Mt.err_n he
    have hok1 := hok.ask k n
    have hmem := Mt.ask_mem he
    have ht := hok1.tok k
    have hb := hok1.b
    rw [he] at HA
    have HF : m.force k n = (m.ask k n).set k ((m.ask k n).tok k - min n ((m.ask k n).tok k)) := rfl
    obtain ⟨M, hM⟩ : ∃ M, m.ask k n = M := ⟨_, rfl⟩
    rw [hM] at HA HF hok1 hmem ht hb ⊢
    rw [HF]
    clear hM HF h
    obtain ⟨t, htk⟩ : ∃ t, M.tok k = t := ⟨_, rfl⟩
    have HT := fun w1 (h1 : IsMS base w1 g M (u + 1)) => tok_callsS base g (u + 1) M k w1 h1 hok1 hkey
    rw [htk] at HT ht ⊢
    have HH := Lib.hid (And.intro HA (And.intro HT (And.intro hok1 (And.intro hmem he))))
    clear HA HT hok hok1 hmem htk
    have hw1 : IntKind.i64.wrap (t - n) = t - n := IntWalk.i64_in _ (by omega)
    by_cases hq : t < n
    · have hmin : min n t = t := by omega
      rw [hmin]
      clear hw1 hmin
      clear he
      go_enter Try.func18, Try.ntmps18
      go_wp2_with (first
        | (go_at_call 38; refine HH.out.1.mono ?_; rintro e w1 ⟨rfl, hM1, hE1⟩)
        | (go_at_call 24; refine (HH.out.2.1 _ hM1).mono ?_; rintro e w2 ⟨rfl, hE2⟩; obtain ⟨mb, A, c, φ, u', hu', ho, hφ⟩ := hM1.kept0 hE2; have c3 := (blkCell ho.blk 3).trans rfl; have c4 := (blkCell ho.blk 4).trans rfl; simp at c3 c4; obtain ⟨w4, hup, hE4, h4⟩ := (ho.kept0 (Ext.refl _ _).drew).upd (kl := (fun s : ByteArray => Lit.string s.data.toList)) (k := k) lawS Try.underlying66 hkey (by simp only [maxLen]; omega) (0, M.now); have hup' : (Instr.mapUpdate 66 (.map (some mb)) (.string k) (.agg #[.int .i64 (IntKind.i64.wrap 0), .int .i64 M.now])).run Try.prog w2.drew = .ok () w4 := hup; have t3 := (blkCell (h4 M.f).blk 3).trans rfl; have t4 := (blkCell (h4 M.f).blk 4).trans rfl; simp at t3 t4; have HR := Lib.hid (And.intro ho (And.intro hφ (And.intro hE4 (And.intro h4 (And.intro hE1 hE2))))); clear ho hφ hE4 h4 hE1 hE2 hup hM1))
      go_region_held3 (fun w' => w'.cell? ⟨g, 3, none⟩ = some (.int .i64 M.now) ∧ w'.cell? ⟨g, 4, none⟩ = some (.map (some mb))) (first | go_keep) (first | fail)
      all_goals
        go_wp2
        obtain ⟨ho, hφ, hE4, h4, hE1, hE2⟩ := HR.out
        refine bodyPost_ret (v := .tuple #[.int .i64 t, .int .i64 0]) (by simp [results, Try.results18, go_sem]) rfl ?_
        refine .inl ⟨HH.out.2.2.2.2, rfl, ⟨mb, A, c, _, u' + 1, by omega, h4 _, ?_⟩, ?_⟩
        · rw [Int.sub_self]
          exact mpSetGet (m := M) k (fun k' _ => hφ k') injS 0 HH.out.2.2.2.1
        · exact tcTrans (hE1.then0 hE2).drew (hE4.tc (tcMap (ho.kept0 (Ext.refl _ _).drew)))
    · have hmin : min n t = n := by omega
      rw [hmin]
      clear hmin
      clear he
      go_enter Try.func18, Try.ntmps18
      go_wp2_with (first
        | (go_at_call 38; refine HH.out.1.mono ?_; rintro e w1 ⟨rfl, hM1, hE1⟩)
        | (go_at_call 24; refine (HH.out.2.1 _ hM1).mono ?_; rintro e w2 ⟨rfl, hE2⟩; obtain ⟨mb, A, c, φ, u', hu', ho, hφ⟩ := hM1.kept0 hE2; have c3 := (blkCell ho.blk 3).trans rfl; have c4 := (blkCell ho.blk 4).trans rfl; simp at c3 c4; obtain ⟨w4, hup, hE4, h4⟩ := (ho.kept0 (Ext.refl _ _).drew).upd (kl := (fun s : ByteArray => Lit.string s.data.toList)) (k := k) lawS Try.underlying66 hkey (by simp only [maxLen]; omega) (t - n, M.now); have hup' : (Instr.mapUpdate 66 (.map (some mb)) (.string k) (.agg #[.int .i64 (t - n), .int .i64 M.now])).run Try.prog w2.drew = .ok () w4 := hup; have t3 := (blkCell (h4 M.f).blk 3).trans rfl; have t4 := (blkCell (h4 M.f).blk 4).trans rfl; simp at t3 t4; have HR := Lib.hid (And.intro ho (And.intro hφ (And.intro hE4 (And.intro h4 (And.intro hE1 hE2))))); clear ho hφ hE4 h4 hE1 hE2 hup hM1))
      go_region_held3 (fun w' => w'.cell? ⟨g, 3, none⟩ = some (.int .i64 M.now) ∧ w'.cell? ⟨g, 4, none⟩ = some (.map (some mb))) (first | go_keep) (first | fail)
      all_goals
        go_wp2
        obtain ⟨ho, hφ, hE4, h4, hE1, hE2⟩ := HR.out
        refine bodyPost_ret (v := .tuple #[.int .i64 n, .int .i64 0]) (by simp [results, Try.results18, go_sem]) rfl ?_
        refine .inl ⟨HH.out.2.2.2.2, rfl, ⟨mb, A, c, _, u' + 1, by omega, h4 _, ?_⟩, ?_⟩
        · exact mpSetGet (m := M) k (fun k' _ => hφ k') injS (t - n) HH.out.2.2.2.1
        · exact tcTrans (hE1.then0 hE2).drew (hE4.tc (tcMap (ho.kept0 (Ext.refl _ _).drew)))
  · rw [Mt.ask_err he] at HA
    have HE := Lib.hid he
    obtain ⟨E, hE⟩ : ∃ E, m.err k n = E := ⟨_, rfl⟩
    rw [hE] at HA HE he ⊢
    have HH := Lib.hid HA
    clear hE HA
    go_enter Try.func18, Try.ntmps18
    go_wp2_with (go_at_call 38; refine HH.out.mono ?_; rintro e w1 ⟨rfl, hM1, hE1⟩)
    refine bodyPost_ret (v := .tuple #[.int .i64 0, .int .i64 E]) (by simp [results, Try.results18, go_sem]) rfl ?_
    exact .inr ⟨HE.out, rfl, hM1.more (by omega), hE1⟩
set_option maxRecDepth 100000 in
/-- Tokens are taken, or none. -/
theorem take_callsS (base g u : Nat) (m : Mt ByteArray) (k : ByteArray) (n : Int) (w : World) (h : IsMS base w g m u) (hok : m.Ok) (hkey : keyOf Try.prog 9 (.string k) = some (.string k.data.toList)) (hu : u ≤ 80000) (hbase : base ≤ w.heap.size) :
    Calls Try.prog 16 #[.pointer (some ⟨g, 0, none⟩), .string k, .int .i64 n] w fun e w' =>
      (m.err k n = 0 ∧ n ≤ (m.ask k n).tok k ∧ e = .returned (.tuple #[.bool true, .int .i64 0]) ∧ IsMS base w' g (m.force k n) (u + 3) ∧ Ext (TcS base w) w w') ∨
      (m.err k n = 0 ∧ (m.ask k n).tok k < n ∧ e = .returned (.tuple #[.bool false, .int .i64 0]) ∧ IsMS base w' g (m.ask k n) (u + 3) ∧ Ext (TcS base w) w w') ∨
      (¬ m.err k n = 0 ∧ e = .returned (.tuple #[.bool false, .int .i64 (m.err k n)]) ∧ IsMS base w' g m (u + 3) ∧ Ext (TcS base w) w w') := by
  have HA := ask_callsS base g u m k n w h hok hkey (by omega) hbase
  by_cases he : m.err k n = 0
  · have hok1 := hok.ask k n
    have HF : (m.ask k n).force k n = m.force k n := by unfold Mt.force; rw [(Mt.ask_again he).2]
    have HG := Mt.ask_again he
    rw [he] at HA
    have HB := fun w1 (hw1 : base ≤ w1.heap.size) (h1 : IsMS base w1 g (m.ask k n) (u + 1)) => force_callsS base g (u + 1) (m.ask k n) k n w1 h1 hok1 hkey (by omega) hw1
    rw [HF, HG.2, HG.1] at HB
    obtain ⟨M, hM⟩ : ∃ M, m.ask k n = M := ⟨_, rfl⟩
    rw [hM] at HA HB hok1 ⊢
    clear hM HF HG h
    obtain ⟨t, htk⟩ : ∃ t, M.tok k = t := ⟨_, rfl⟩
    have HT := fun w1 (h1 : IsMS base w1 g M (u + 1)) => tok_callsS base g (u + 1) M k w1 h1 hok1 hkey
    rw [htk] at HT HB ⊢
    have HH := Lib.hid (And.intro HA (And.intro HT (And.intro HB he)))
    clear HA HT HB hok hok1 htk he
    by_cases hq : t < n
    · go_enter Try.func16, Try.ntmps16
      go_wp2_with (first
        | (go_at_call 38; refine HH.out.1.mono ?_; rintro e w1 ⟨rfl, hM1, hE1⟩)
        | (go_at_call 24; refine (HH.out.2.1 _ hM1).mono ?_; rintro e w2 ⟨rfl, hE2⟩))
      refine bodyPost_ret (v := .tuple #[.bool false, .int .i64 0]) (by simp [results, Try.results16, go_sem]) rfl ?_
      exact .inr (.inl ⟨HH.out.2.2.2, hq, rfl, (hM1.kept0 hE2).more (by omega), hE1.then0 hE2⟩)
    · go_enter Try.func16, Try.ntmps16
      go_wp2_with (first
        | (go_at_call 38; refine HH.out.1.mono ?_; rintro e w1 ⟨rfl, hM1, hE1⟩)
        | (go_at_call 24; refine (HH.out.2.1 _ hM1).mono ?_; rintro e w2 ⟨rfl, hE2⟩; have HS := Lib.hid (And.intro hM1 (And.intro hE1 hE2)); clear hM1 hE1 hE2)
        | (go_at_call 18; refine (HH.out.2.2.1 w2 (by have := HS.out.2.1.size; have := HS.out.2.2.size; omega) (HS.out.1.kept0 HS.out.2.2)).mono ?_; rintro e w3 (⟨_, rfl, hM3, hE3⟩ | ⟨hx, _⟩); all_goals try exact absurd rfl hx))
      refine bodyPost_ret (v := .tuple #[.bool true, .int .i64 0]) (by simp [results, Try.results16, go_sem]) rfl ?_
      obtain ⟨hM1, hE1, hE2⟩ := HS.out
      exact .inl ⟨HH.out.2.2.2, by omega, rfl, hM3.more (by omega), tcTrans (hE1.then0 hE2) hE3⟩
  · rw [Mt.ask_err he] at HA
    have HE := Lib.hid he
    obtain ⟨E, hE⟩ : ∃ E, m.err k n = E := ⟨_, rfl⟩
    rw [hE] at HA HE he ⊢
    have HH := Lib.hid HA
    clear hE HA
    go_enter Try.func16, Try.ntmps16
    go_wp2_with (go_at_call 38; refine HH.out.mono ?_; rintro e w1 ⟨rfl, hM1, hE1⟩)
    refine bodyPost_ret (v := .tuple #[.bool false, .int .i64 E]) (by simp [results, Try.results16, go_sem]) rfl ?_
    exact .inr (.inr ⟨HE.out, rfl, hM1.more (by omega), hE1⟩)
end Go.Proofs.Ythjeaalnlagpbaa
