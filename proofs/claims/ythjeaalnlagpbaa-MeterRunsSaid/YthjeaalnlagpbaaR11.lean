/- A call upon a meter of texts, and upon the document's meter, side by side (the conditions stand in the statements). -/
import Derived.Test.YthjeaalnlagpbaaR7
namespace Go.Proofs.Ythjeaalnlagpbaa
open Go.RowKit Go.Maps
def KeyOk (m : Mt ByteArray) : Prop := ∀ k ∈ m.ks, keyOf Try.prog 9 (.string k) = some (.string k.data.toList)
theorem ask_keys {m : Mt ByteArray} (h : KeyOk m) {k : ByteArray} (hk : keyOf Try.prog 9 (.string k) = some (.string k.data.toList)) (n : Int) : KeyOk (m.ask k n) := by
  unfold Mt.ask
  split
  · intro k' hk'
    have hk' : k' ∈ m.ks ++ [k] := hk'
    rw [List.mem_append] at hk'
    rcases hk' with hk' | hk'
    · exact h k' hk'
    · rw [List.mem_singleton] at hk'
      subst hk'
      exact hk
  · exact h
theorem force_now (m : Mt ByteArray) (k : ByteArray) (n : Int) : (m.force k n).now = m.now ∧ (m.force k n).b = m.b ∧ (m.force k n).r = m.r ∧ (m.force k n).most = m.most := Mt.ask_now m k n
noncomputable abbrev vM (m : Mt ByteArray) (A : Option Addr) (c : Nat) : Value := .agg #[.int .i64 m.r, .int .i64 m.b, .int .i64 m.most, .int .i64 m.now, .slice A m.rows.length c]
def GvV (base : Nat) (m : Mt ByteArray) (x y : Value) (w : World) (e : Ending) (w' : World) : Prop :=
  ∃ A c, e = .returned (.tuple #[.agg (c5 m.r m.b m.most m.now A m.rows.length c), x, y]) ∧ RL base w' A c m.rows ∧ Ext N0 w w'
theorem GvB.v {base : Nat} {r b most now : Int} {m : Mt ByteArray} {x y : Value} {w : World} (h : m.now = now ∧ m.b = b ∧ m.r = r ∧ m.most = most) {e : Ending} {w' : World} (h2 : GvB base r b most now m.rows x y w e w') : GvV base m x y w e w' := by
  obtain ⟨rfl, rfl, rfl, rfl⟩ := h
  exact h2
theorem take_both (base g u : Nat) (m : Mt ByteArray) (k : ByteArray) (n : Int) (hok : m.Ok) (hks : KeyOk m) (hk : keyOf Try.prog 9 (.string k) = some (.string k.data.toList)) (hu : u ≤ 80000) :
    ∃ m' ok er, m'.Ok ∧ KeyOk m' ∧ m'.now = m.now ∧
    (∀ w, IsMS base w g m u → base ≤ w.heap.size → Calls Try.prog 16 #[.pointer (some ⟨g, 0, none⟩), .string k, .int .i64 n] w fun e w' => e = .returned (.tuple #[.bool ok, .int .i64 er]) ∧ IsMS base w' g m' (u + 3) ∧ Ext (TcS base w) w w') ∧
    (∀ b2 A c w, RL b2 w A c m.rows → b2 ≤ w.heap.size → Calls Try.prog 17 #[vM m A c, .string k, .int .i64 n] w (GvV b2 m' (.bool ok) (.int .i64 er) w)) := by
  by_cases he : m.err k n = 0
  · have hn := Mt.err_n he
    by_cases ht : n ≤ (m.ask k n).tok k
    · refine ⟨m.force k n, true, 0, hok.force k n (by omega), ask_keys hks hk n, (force_now m k n).1, fun w hM hb => ?_, fun b2 A c w hR hb => ?_⟩
      · refine (take_callsS base g u m k n w hM hok hk hu hb).mono ?_
        rintro e w' (⟨_, _, h1, h2, h3⟩ | ⟨_, h1, _⟩ | ⟨h1, _⟩)
        · exact ⟨h1, h2, h3⟩
        · omega
        · exact absurd he h1
      · exact (rtake_yes b2 m A c k n w hR hok he ht).mono (fun _ _ x => (x.b hb).v (force_now m k n))
    · refine ⟨m.ask k n, false, 0, hok.ask k n, ask_keys hks hk n, (Mt.ask_now m k n).1, fun w hM hb => ?_, fun b2 A c w hR hb => ?_⟩
      · refine (take_callsS base g u m k n w hM hok hk hu hb).mono ?_
        rintro e w' (⟨_, h1, _⟩ | ⟨_, _, h1, h2, h3⟩ | ⟨h1, _⟩)
        · exact absurd h1 ht
        · exact ⟨h1, h2, h3⟩
        · exact absurd he h1
      · exact (rtake_low b2 m A c k n w hR hok he (by omega)).mono (fun _ _ x => (x.b hb).v (Mt.ask_now m k n))
  · refine ⟨m, false, m.err k n, hok, hks, rfl, fun w hM hb => ?_, fun b2 A c w hR hb => ?_⟩
    · refine (take_callsS base g u m k n w hM hok hk hu hb).mono ?_
      rintro e w' (⟨h1, _⟩ | ⟨h1, _⟩ | ⟨_, h1, h2, h3⟩)
      · exact absurd h1 he
      · exact absurd h1 he
      · exact ⟨h1, h2, h3⟩
    · exact (rtake_no b2 m A c k n w hR hok hb he).mono (fun _ _ x => GvB.v ⟨rfl, rfl, rfl, rfl⟩ x)
theorem force_both (base g u : Nat) (m : Mt ByteArray) (k : ByteArray) (n : Int) (hok : m.Ok) (hks : KeyOk m) (hk : keyOf Try.prog 9 (.string k) = some (.string k.data.toList)) (hu : u ≤ 80000) :
    ∃ m' v er, m'.Ok ∧ KeyOk m' ∧ m'.now = m.now ∧
    (∀ w, IsMS base w g m u → base ≤ w.heap.size → Calls Try.prog 18 #[.pointer (some ⟨g, 0, none⟩), .string k, .int .i64 n] w fun e w' => e = .returned (.tuple #[.int .i64 v, .int .i64 er]) ∧ IsMS base w' g m' (u + 3) ∧ Ext (TcS base w) w w') ∧
    (∀ b2 A c w, RL b2 w A c m.rows → b2 ≤ w.heap.size → Calls Try.prog 19 #[vM m A c, .string k, .int .i64 n] w (GvV b2 m' (.int .i64 v) (.int .i64 er) w)) := by
  by_cases he : m.err k n = 0
  · have hn := Mt.err_n he
    refine ⟨m.force k n, min n ((m.ask k n).tok k), 0, hok.force k n (by omega), ask_keys hks hk n, (force_now m k n).1, fun w hM hb => ?_, fun b2 A c w hR hb => ?_⟩
    · refine (force_callsS base g u m k n w hM hok hk (by omega) hb).mono ?_
      rintro e w' (⟨_, h1, h2, h3⟩ | ⟨h1, _⟩)
      · exact ⟨h1, h2.more (by omega), h3⟩
      · exact absurd he h1
    · exact (rforce_yes b2 m A c k n w hR hok he).mono (fun _ _ x => (x.b hb).v (force_now m k n))
  · refine ⟨m, 0, m.err k n, hok, hks, rfl, fun w hM hb => ?_, fun b2 A c w hR hb => ?_⟩
    · refine (force_callsS base g u m k n w hM hok hk (by omega) hb).mono ?_
      rintro e w' (⟨h1, _⟩ | ⟨_, h1, h2, h3⟩)
      · exact absurd h1 he
      · exact ⟨h1, h2.more (by omega), h3⟩
    · exact (rforce_no b2 m A c k n w hR hok hb he).mono (fun _ _ x => GvB.v ⟨rfl, rfl, rfl, rfl⟩ x)
theorem tick_both (base g u : Nat) (m : Mt ByteArray) (n : Int) (hok : m.Ok) (hks : KeyOk m) (hnow : m.now ≤ 4000000000000000000) :
    ∃ m' : Mt ByteArray, m'.Ok ∧ KeyOk m' ∧ m'.now ≤ m.now + 1073741824 ∧
    (∀ w, IsMS base w g m u → Calls Try.prog 20 #[.pointer (some ⟨g, 0, none⟩), .int .i64 n] w fun e w' => e = .returned (.tuple #[]) ∧ IsMS base w' g m' u ∧ Ext (TcS base w) w w') ∧
    (∀ b2 A c w, RL b2 w A c m.rows → b2 ≤ w.heap.size → Calls Try.prog 21 #[vM m A c, .int .i64 n] w fun e w' => ∃ A c, e = .returned (.agg (c5 m'.r m'.b m'.most m'.now A m'.rows.length c)) ∧ RL b2 w' A c m'.rows ∧ Ext N0 w w') := by
  have hlen : m.rows.length ≤ 1000 := by
    have h1 := hok.len
    have h2 := hok.most
    rw [rows_len]
    omega
  have hN : ∀ p ∈ m.rows, 0 ≤ p.2 ∧ p.2 ≤ m.b := by
    intro p hp
    unfold Mt.rows at hp
    rw [List.mem_map] at hp
    obtain ⟨k, _, rfl⟩ := hp
    exact hok.tok k
  refine ⟨m.tick n, hok.tick n, hks, ?_, fun w hM => tick_callsS base g u m n w hM hok, fun b2 A c w hR hb => ?_⟩
  · have := hok.now
    show m.now + min (max 0 (min n 1073741824)) (4611686018427387904 - m.now) ≤ _
    omega
  · by_cases h1 : n < 1
    · rw [tick_no hok h1]
      refine (rtick_no m A c n w h1).mono ?_
      rintro e w' ⟨rfl, hE⟩
      exact ⟨A, c, rfl, hR.kept0 hE, hE⟩
    · have hw : m.now + min n 1073741824 ≤ 4611686018427387904 := by omega
      rw [tick_now (by omega) hw, rows_tick hok (by omega) hw]
      by_cases h2 : n ≤ 1073741824
      · rw [show min n 1073741824 = n by omega]
        refine (rtick_1 b2 m.r m.b m.most m.now A c m.rows n w hR hlen hok.r hok.b hN ⟨by omega, h2⟩ hok.now.1 (by omega)).mono ?_
        rintro e w' ⟨A', c', rfl, hR', hE⟩
        exact ⟨A', c', rfl, ownLe hR' hb, hE⟩
      · rw [show min n 1073741824 = 1073741824 by omega]
        refine (rtick_2 b2 m.r m.b m.most m.now A c m.rows n w hR hlen hok.r hok.b hN (by omega) hok.now.1 (by omega)).mono ?_
        rintro e w' ⟨A', c', rfl, hR', hE⟩
        exact ⟨A', c', rfl, ownLe hR' hb, hE⟩
theorem now_callsS (base g u : Nat) (m : Mt ByteArray) (w : World) (h : IsMS base w g m u) : Calls Try.prog 26 #[.pointer (some ⟨g, 0, none⟩)] w fun e w' => e = .returned (.int .i64 m.now) ∧ w' = w := by
  obtain ⟨mb, A, c, φ, u', _, ho, _⟩ := h
  have c4 : w.cell? ⟨g, 4, none⟩ = some (.map (some mb)) := (blkCell ho.blk 4).trans rfl
  have c3 : w.cell? ⟨g, 3, none⟩ = some (.int .i64 m.now) := (blkCell ho.blk 3).trans rfl
  have HN := Lib.hid (none_callsS g mb w c4)
  clear ho c4
  go_enter Try.func26, Try.ntmps26
  go_wp2_with (go_at_call 40; refine HN.out.mono ?_; rintro e w' ⟨rfl, rfl⟩)
  go_ret
  exact ⟨rfl, rfl⟩
end Go.Proofs.Ythjeaalnlagpbaa
