/- The document's answer for package gauge: New, Totals, Keys, same rows (the conditions stand in the statements). -/
import Derived.Test.YtcngefpdfkkgdaaS1
namespace Go.Proofs.Ytcngefpdfkkgdaa
open Go.RowKit
theorem info78 : (Try.prog.info? 78).map (fun i => (i.zero, i.size, i.bytes)) = some (some (.agg #[.string ⟨#[]⟩, .slice none 0 0]), 2, 40) := by kernel_rfl
theorem info9 : (Try.prog.info? 9).map (fun i => (i.zero, i.size, i.bytes)) = some (some (.string ⟨#[]⟩), 1, 16) := by kernel_rfl
/-- What New gives. -/
def NewR (bs : List Int) (w : World) (e : Ending) (w' : World) : Prop :=
  (mayB bs = true ∧ ∃ A c, e = .returned (.tuple #[.agg (rG A bs.length c none 0 0), .int .i64 0]) ∧ RS w.heap.size w' A c none 0 bs [] ∧ Ext N0 w w') ∨
  (mayB bs = false ∧ e = .returned (.tuple #[.agg #[.slice none 0 0, .slice none 0 0], .int .i64 310]) ∧ Ext N0 w w')
set_option maxRecDepth 100000 in
set_option maxHeartbeats 2000000 in
theorem rnew_calls (A : Option Addr) (c : Nat) (bs : List Int) (w : World) (h : Reads w A (iv bs)) (hnb : bs.length ≤ 100) :
    Calls Try.prog 7 #[.slice A bs.length c] w (NewR bs w) := by
  have HR := Lib.hid h
  have HB0 := Lib.hid (blkNew w (.cells #[.slice none 0 0, .slice none 0 0] 30))
  have HE0 := Lib.hid ((Ext.refl N0 w).alloc (.cells #[.slice none 0 0, .slice none 0 0] 30))
  have HM := Lib.hid (show mayB bs = (mayF (-1) bs && decide (1 ≤ bs.length ∧ bs.length ≤ 64)) from rfl)
  unfold NewR
  obtain ⟨n, hn⟩ : ∃ n, bs.length = n := ⟨_, rfl⟩
  have HN := Lib.hid hn
  rw [hn] at hnb HM ⊢
  clear h hn
  by_cases hlen : 1 ≤ n ∧ n ≤ 64
  · obtain ⟨hl1, hl2⟩ := hlen
    have g1 : ¬ (n : Int) < 1 := by omega
    have g2 : ¬ (64 : Int) < n := by omega
    go_enter Try.func7, Try.ntmps7
    go_wp2_with fail
    go_loopw [4] (fun i wr => ∃ (k : Nat) (x : Int), i = .int .i64 k ∧ k ≤ n ∧ -1 ≤ x ∧ Hid (k = 0 → x = -1) ∧ Hid (∀ k', k = k' + 1 → bs[k']? = some x) ∧ Hid (mayF x (bs.drop k) = mayF (-1) bs) ∧ Hid (Ext N0 w wr ∧ wr.heap[w.heap.size]? = some (.cells #[.slice none 0 0, .slice none 0 0] 30 (0, 0)))) (fun i _ => n - (intOf i).toNat)
    case atStart => exact ⟨0, -1, rfl, by omega, by omega, Lib.hid (fun _ => rfl), Lib.hid (fun k' h => by omega), Lib.hid rfl, Lib.hid ⟨HE0.out, HB0.out⟩⟩
    case round =>
      obtain ⟨k, x, rfl, hk, hx1, HX0, HXk, HF, HE⟩ := hrel
      by_cases hlt : k < n
      · have hlt' : (k : Int) < n := by omega
        obtain ⟨ad, rfl, hc⟩ := (HR.out.mono0 HE.out.1).2 (by rw [iv_len, HN.out]; omega)
        obtain ⟨y, hy⟩ : ∃ y, bs[k]? = some y := ⟨_, List.getElem?_eq_getElem (by rw [HN.out]; exact hlt)⟩
        have c0 := hc k _ (iv_get hy)
        have hdr : bs.drop k = y :: bs.drop (k + 1) := by
          rw [List.drop_eq_getElem_cons (by rw [HN.out]; exact hlt)]
          congr 1
          exact (List.getElem?_eq_some_iff.1 hy).2
        have hF := HF.out
        rw [hdr, mayF_cons] at hF
        have HY2 : Hid (∀ k', k + 1 = k' + 1 → bs[k']? = some y) := Lib.hid (fun k' h => by rw [show k' = k by omega]; exact hy)
        by_cases hb : y ≤ x ∨ 1099511627776 < y
        · rw [if_pos hb] at hF
          have HB2 : Hid (mayB bs = false) := Lib.hid (by rw [HM.out, ← hF]; rfl)
          have hcs : y < 0 ∨ (¬ y < 0 ∧ 1099511627776 < y) ∨ (¬ y < 0 ∧ ¬ 1099511627776 < y ∧ y ≤ x) := by omega
          rcases hcs with h1 | ⟨h1, h2⟩ | ⟨h1, h2, h3⟩
          · clear hF HF hb hc hdr hy HY2
            go_wp2_with fail
            go_quiet (fail)
            all_goals
              obtain ⟨w5, hw5⟩ : ∃ w5, wr.drewN nq = w5 := ⟨_, rfl⟩
              have HX5 : Hid (Ext N0 w w5 ∧ w5.heap[w.heap.size]? = some (.cells #[.slice none 0 0, .slice none 0 0] 30 (0, 0))) := Lib.hid (by rw [← hw5]; exact ⟨HE.out.1.drewN nq, ((Ext.refl N0 wr).drewN nq).blk0 HE.out.2⟩)
              have f0 := blkFrozen HX5.out.2 0
              have f1 := blkFrozen HX5.out.2 1
              have z0 : w5.cell? ⟨w.heap.size, 0, none⟩ = some (.slice none 0 0) := (blkCell HX5.out.2 0).trans rfl
              have z1 : w5.cell? ⟨w.heap.size, 1, none⟩ = some (.slice none 0 0) := (blkCell HX5.out.2 1).trans rfl
              simp only [hw5]
              clear hw5
              go_wp2
              obtain ⟨W5, hW5⟩ : ∃ W5, (w5.setCell ⟨w.heap.size, 0, none⟩ (.slice none 0 0)).setCell ⟨w.heap.size, 1, none⟩ (.slice none 0 0) = W5 := ⟨_, rfl⟩
              have hb5 : W5.heap[w.heap.size]? = some (.cells #[.slice none 0 0, .slice none 0 0] 30 (0, 0)) := by
                rw [← hW5]
                exact (blkSet (blkSet HX5.out.2 0 _) 1 _).trans (by simp)
              have hE5 : Ext N0 w W5 := by
                rw [← hW5]
                exact HX5.out.1.trans ((extSet _ _ _ _).same (extSet _ _ _ _)) (fun x hx => .inr (by have hx : x = w.heap.size := hx; omega))
              have k0 := (blkCell hb5 0).trans rfl
              have k1 := (blkCell hb5 1).trans rfl
              simp at k0 k1
              simp only [hW5]
              clear hW5
              exact bodyPost_ret (v := .tuple #[.agg #[.slice none 0 0, .slice none 0 0], .int .i64 310]) (by simp [results, Try.results7, go_sem, k0, k1]) rfl (.inr ⟨HB2.out, rfl, hE5⟩)
          · have e1 : decide (y < 0) = false := decide_eq_false h1
            clear hF HF hb hc hdr hy HY2
            go_wp2_with fail
            go_quiet (fail)
            all_goals
              obtain ⟨w5, hw5⟩ : ∃ w5, wr.drewN nq = w5 := ⟨_, rfl⟩
              have HX5 : Hid (Ext N0 w w5 ∧ w5.heap[w.heap.size]? = some (.cells #[.slice none 0 0, .slice none 0 0] 30 (0, 0))) := Lib.hid (by rw [← hw5]; exact ⟨HE.out.1.drewN nq, ((Ext.refl N0 wr).drewN nq).blk0 HE.out.2⟩)
              have f0 := blkFrozen HX5.out.2 0
              have f1 := blkFrozen HX5.out.2 1
              have z0 : w5.cell? ⟨w.heap.size, 0, none⟩ = some (.slice none 0 0) := (blkCell HX5.out.2 0).trans rfl
              have z1 : w5.cell? ⟨w.heap.size, 1, none⟩ = some (.slice none 0 0) := (blkCell HX5.out.2 1).trans rfl
              simp only [hw5]
              clear hw5
              go_wp2
              obtain ⟨W5, hW5⟩ : ∃ W5, (w5.setCell ⟨w.heap.size, 0, none⟩ (.slice none 0 0)).setCell ⟨w.heap.size, 1, none⟩ (.slice none 0 0) = W5 := ⟨_, rfl⟩
              have hb5 : W5.heap[w.heap.size]? = some (.cells #[.slice none 0 0, .slice none 0 0] 30 (0, 0)) := by
                rw [← hW5]
                exact (blkSet (blkSet HX5.out.2 0 _) 1 _).trans (by simp)
              have hE5 : Ext N0 w W5 := by
                rw [← hW5]
                exact HX5.out.1.trans ((extSet _ _ _ _).same (extSet _ _ _ _)) (fun x hx => .inr (by have hx : x = w.heap.size := hx; omega))
              have k0 := (blkCell hb5 0).trans rfl
              have k1 := (blkCell hb5 1).trans rfl
              simp at k0 k1
              simp only [hW5]
              clear hW5
              exact bodyPost_ret (v := .tuple #[.agg #[.slice none 0 0, .slice none 0 0], .int .i64 310]) (by simp [results, Try.results7, go_sem, k0, k1]) rfl (.inr ⟨HB2.out, rfl, hE5⟩)
          · obtain ⟨k', hkk⟩ : ∃ k', k = k' + 1 := by
              rcases Nat.eq_zero_or_pos k with h' | h'
              · have := HX0.out h'
                omega
              · exact ⟨k - 1, by omega⟩
            have c1 := hc k' _ (iv_get (HXk.out k' hkk))
            have e1 : decide (y < 0) = false := decide_eq_false h1
            have e2 : decide (1099511627776 < y) = false := decide_eq_false h2
            have hk0' : (0 : Int) < (k : Int) := by omega
            have hks : IntKind.i64.wrap ((k : Int) - 1) = (k' : Int) := by rw [show (k : Int) - 1 = k' by omega]; exact IntWalk.i64_in _ (by omega)
            have hk'n : (k' : Int) < n := by omega
            have e3 : decide (y ≤ x) = true := decide_eq_true h3
            have e5 : 0 < k := by omega
            clear hkk
            clear hF HF hb hc hdr hy HY2
            go_wp2_with fail
            go_quiet (fail)
            all_goals
              obtain ⟨w5, hw5⟩ : ∃ w5, wr.drewN nq = w5 := ⟨_, rfl⟩
              have HX5 : Hid (Ext N0 w w5 ∧ w5.heap[w.heap.size]? = some (.cells #[.slice none 0 0, .slice none 0 0] 30 (0, 0))) := Lib.hid (by rw [← hw5]; exact ⟨HE.out.1.drewN nq, ((Ext.refl N0 wr).drewN nq).blk0 HE.out.2⟩)
              have f0 := blkFrozen HX5.out.2 0
              have f1 := blkFrozen HX5.out.2 1
              have z0 : w5.cell? ⟨w.heap.size, 0, none⟩ = some (.slice none 0 0) := (blkCell HX5.out.2 0).trans rfl
              have z1 : w5.cell? ⟨w.heap.size, 1, none⟩ = some (.slice none 0 0) := (blkCell HX5.out.2 1).trans rfl
              simp only [hw5]
              clear hw5
              go_wp2
              obtain ⟨W5, hW5⟩ : ∃ W5, (w5.setCell ⟨w.heap.size, 0, none⟩ (.slice none 0 0)).setCell ⟨w.heap.size, 1, none⟩ (.slice none 0 0) = W5 := ⟨_, rfl⟩
              have hb5 : W5.heap[w.heap.size]? = some (.cells #[.slice none 0 0, .slice none 0 0] 30 (0, 0)) := by
                rw [← hW5]
                exact (blkSet (blkSet HX5.out.2 0 _) 1 _).trans (by simp)
              have hE5 : Ext N0 w W5 := by
                rw [← hW5]
                exact HX5.out.1.trans ((extSet _ _ _ _).same (extSet _ _ _ _)) (fun x hx => .inr (by have hx : x = w.heap.size := hx; omega))
              have k0 := (blkCell hb5 0).trans rfl
              have k1 := (blkCell hb5 1).trans rfl
              simp at k0 k1
              simp only [hW5]
              clear hW5
              exact bodyPost_ret (v := .tuple #[.agg #[.slice none 0 0, .slice none 0 0], .int .i64 310]) (by simp [results, Try.results7, go_sem, k0, k1]) rfl (.inr ⟨HB2.out, rfl, hE5⟩)
        · rw [if_neg hb] at hF
          have HF2 := Lib.hid hF
          have h1 : ¬ y < 0 := by omega
          have h2 : ¬ 1099511627776 < y := by omega
          have h3 : ¬ y ≤ x := by omega
          rcases Nat.eq_zero_or_pos k with hk0 | hk0
          · have hkz : ¬ (0 : Int) < (k : Int) := by omega
            have e4 : decide (0 < k) = false := decide_eq_false (by omega)
            have e5 : ¬ 0 < k := by omega
            clear hk0
            have e1 : decide (y < 0) = false := decide_eq_false h1
            have e2 : decide (1099511627776 < y) = false := decide_eq_false h2
            clear hF HF hb hc hdr hy
            go_wp2_with fail
            go_quiet (fail)
            all_goals
              obtain ⟨w5, hw5⟩ : ∃ w5, wr.drewN nq = w5 := ⟨_, rfl⟩
              have HX5 : Hid (Ext N0 w w5 ∧ w5.heap[w.heap.size]? = some (.cells #[.slice none 0 0, .slice none 0 0] 30 (0, 0))) := Lib.hid (by rw [← hw5]; exact ⟨HE.out.1.drewN nq, ((Ext.refl N0 wr).drewN nq).blk0 HE.out.2⟩)
              have f0 := blkFrozen HX5.out.2 0
              have f1 := blkFrozen HX5.out.2 1
              have z0 : w5.cell? ⟨w.heap.size, 0, none⟩ = some (.slice none 0 0) := (blkCell HX5.out.2 0).trans rfl
              have z1 : w5.cell? ⟨w.heap.size, 1, none⟩ = some (.slice none 0 0) := (blkCell HX5.out.2 1).trans rfl
              simp only [hw5]
              clear hw5
              go_wp2
              go_roundw
              case rel => exact ⟨k + 1, y, by go_num, by omega, by omega, Lib.hid (fun h => by omega), HY2, HF2, HX5⟩
              case measure => simp only [intOf]; omega
          · obtain ⟨k', hkk⟩ : ∃ k', k = k' + 1 := ⟨k - 1, by omega⟩
            have c1 := hc k' _ (iv_get (HXk.out k' hkk))
            have e1 : decide (y < 0) = false := decide_eq_false h1
            have e2 : decide (1099511627776 < y) = false := decide_eq_false h2
            have hk0' : (0 : Int) < (k : Int) := by omega
            have hks : IntKind.i64.wrap ((k : Int) - 1) = (k' : Int) := by rw [show (k : Int) - 1 = k' by omega]; exact IntWalk.i64_in _ (by omega)
            have hk'n : (k' : Int) < n := by omega
            have e3 : decide (y ≤ x) = false := decide_eq_false h3
            clear hkk
            clear hF HF hb hc hdr hy
            go_wp2_with fail
            go_quiet (fail)
            all_goals
              obtain ⟨w5, hw5⟩ : ∃ w5, wr.drewN nq = w5 := ⟨_, rfl⟩
              have HX5 : Hid (Ext N0 w w5 ∧ w5.heap[w.heap.size]? = some (.cells #[.slice none 0 0, .slice none 0 0] 30 (0, 0))) := Lib.hid (by rw [← hw5]; exact ⟨HE.out.1.drewN nq, ((Ext.refl N0 wr).drewN nq).blk0 HE.out.2⟩)
              have f0 := blkFrozen HX5.out.2 0
              have f1 := blkFrozen HX5.out.2 1
              have z0 : w5.cell? ⟨w.heap.size, 0, none⟩ = some (.slice none 0 0) := (blkCell HX5.out.2 0).trans rfl
              have z1 : w5.cell? ⟨w.heap.size, 1, none⟩ = some (.slice none 0 0) := (blkCell HX5.out.2 1).trans rfl
              simp only [hw5]
              clear hw5
              go_wp2
              go_roundw
              case rel => exact ⟨k + 1, y, by go_num, by omega, by omega, Lib.hid (fun h => by omega), HY2, HF2, HX5⟩
              case measure => simp only [intOf]; omega
      · have hlt' : ¬ (k : Int) < n := by omega
        obtain rfl : k = n := by omega
        have hF := HF.out
        rw [List.drop_of_length_le (by rw [HN.out]; omega)] at hF
        have HB2 : Hid (mayB bs = true) := Lib.hid (by rw [HM.out, ← hF]; simp [mayF]; omega)
        have f0 := blkFrozen HE.out.2 0
        have f1 := blkFrozen HE.out.2 1
        have hs := HE.out.1.size
        clear hF HF
        go_wp2_with (at_builtin; refine wpApp w.heap.size (.tmp 49) (.tmp 50) 22 3 (.int .i64 0) 1 8 rfl rfl Try.underlying22 info3 rfl (by decide) (by decide) (.slice (some ⟨wr.heap.size, 0, none⟩) 0 0) 0 [] A k c (iv bs) rfl rfl (ownLitG wr w.heap.size 3 1 #[] 0 rfl hs (by decide) rfl) (by rw [iv_len, HN.out]; omega) ((HR.out.mono0 HE.out.1).mono0 ((Ext.refl _ _).alloc _)) (iv_one bs) (by omega) (by simp; omega) ?_; intro A3 c3 w3 ho3 hE3 _; have HO3 := Lib.hid ho3; have HE3 := Lib.hid hE3; have hl3 := hE3.blk (blkAlloc HE.out.2 (.cells #[] 3)) (fun h => absurd (own_is h) (by have := blkLt HE.out.2; omega)); have j0 := blkFrozen hl3 0; have j1 := blkFrozen hl3 1; have y0 : w3.cell? ⟨w.heap.size, 0, none⟩ = some (.slice none 0 0) := (blkCell hl3 0).trans rfl; have y1 : w3.cell? ⟨w.heap.size, 1, none⟩ = some (.slice none 0 0) := (blkCell hl3 1).trans rfl; have HL3 := Lib.hid hl3; clear ho3 hE3 hl3)
        obtain ⟨W5, hW5⟩ : ∃ W5, (w3.setCell ⟨w.heap.size, 0, none⟩ (.slice A3 k c3)).setCell ⟨w.heap.size, 1, none⟩ (.slice none 0 0) = W5 := ⟨_, rfl⟩
        have hx5 : Ext (At w.heap.size) w3 W5 := by rw [← hW5]; exact (extSet _ _ _ _).same (extSet _ _ _ _)
        have hb5 : W5.heap[w.heap.size]? = some (.cells #[.slice A3 k c3, .slice none 0 0] 30 (0, 0)) := by
          rw [← hW5]
          exact (blkSet (blkSet HL3.out 0 _) 1 _).trans (by simp)
        have ho3 : w3.ownsRow w.heap.size 3 1 (.slice A3 k c3) k (iv bs) := by simpa using HO3.out
        have hE3 : Ext N0 w w3 := (HE.out.1.alloc (.cells #[] 3)).trans HE3.out (fun x hx => .inr (by have := own_is hx; omega))
        have hE5 : Ext N0 w W5 := hE3.trans hx5 (fun x hx => .inr (by have hx : x = w.heap.size := hx; omega))
        have ho5 := ownKept ho3 hx5 (fun x hx hs => ownNeBlk ho3 HL3.out (by decide) x hx hs)
        have k0 := (blkCell hb5 0).trans rfl
        have k1 := (blkCell hb5 1).trans rfl
        simp at k0 k1
        simp only [hW5]
        clear hW5
        refine bodyPost_ret (v := .tuple #[.agg (rG A3 k c3 none 0 0), .int .i64 0]) (by simp [results, Try.results7, go_sem, k0, k1]) rfl (.inl ⟨HB2.out, A3, c3, rfl, ⟨?_, ownNil _ _ _ _, fun p hp => by cases hp⟩, hE5⟩)
        rw [HN.out]
        exact ho5
  · have HB2 : Hid (mayB bs = false) := Lib.hid (by rw [HM.out, decide_eq_false hlen, Bool.and_false])
    have hcs : n < 1 ∨ (¬ n < 1 ∧ 64 < n) := by omega
    rcases hcs with h1 | ⟨h1, h2⟩
    · have g1 : (n : Int) < 1 := by omega
      go_enter Try.func7, Try.ntmps7
      go_wp2
      exact bodyPost_ret (v := .tuple #[.agg #[.slice none 0 0, .slice none 0 0], .int .i64 310]) (by simp [results, Try.results7, go_sem]) rfl (.inr ⟨HB2.out, rfl, HE0.out⟩)
    · have g1 : ¬ (n : Int) < 1 := by omega
      have g2 : (64 : Int) < n := by omega
      go_enter Try.func7, Try.ntmps7
      go_wp2
      exact bodyPost_ret (v := .tuple #[.agg #[.slice none 0 0, .slice none 0 0], .int .i64 310]) (by simp [results, Try.results7, go_sem]) rfl (.inr ⟨HB2.out, rfl, HE0.out⟩)
end Go.Proofs.Ytcngefpdfkkgdaa
