/- 'Active' of package score, proved for every value that its statement lets in (the conditions stand in the statements). -/
import Derived.Test.YtkkcdijnhegneaaB1
namespace Go.Proofs.Ytkkcdijnhegneaa
open Go.RowKit
attribute [local go_sem] Oper.semAt_some
theorem info3 : (Try.prog.info? 3).map (fun i => (i.zero, i.size, i.bytes)) = some (some (.int .i64 0), 1, 8) := by kernel_rfl
def nats (l : List Nat) : List Value := l.map fun (x : Nat) => Value.int .i64 (x : Int)
theorem nats_len (l : List Nat) : (nats l).length = l.length := by simp [nats]
theorem nats_get (l : List Nat) (j : Nat) (h : j < l.length) : (nats l)[j]? = some (.int .i64 ((l.getD j 0 : Nat) : Int)) := by simp [nats, h]
theorem ownBk {w : World} {b n s : Nat} {e : TypeId} {v : Value} {xs : List Value} (h : w.ownsRow b e s v n xs) : ∀ (k : Nat) (o : Obj), v.ownBlock = some k → w.heap[k]? = some o → isBk o = false := by
  intro k o hk ho
  rcases h.2 with ⟨rfl, _⟩ | ⟨g, cap, cur, rfl, _, hh, _⟩
  · simp [Value.ownBlock] at hk
  · have e2 : g = k := by simpa [Value.ownBlock] using hk
    subst e2
    rw [hh] at ho
    injection ho with ho
    rw [← ho]
    rfl
/-- The active ones of the first i. -/
def Sc.actP (s : Sc) (i : Nat) : List Nat := (List.range i).filter fun k => decide ((s.ps[k]?.map Pa.r) = some 0)
theorem Sc.actP_step {s : Sc} {i : Nat} {p : Pa} (hp : s.ps[i]? = some p) : s.actP (i + 1) = s.actP i ++ (if p.r = 0 then [i] else []) := by
  unfold Sc.actP
  rw [List.range_succ, List.filter_append]
  congr 1
  by_cases h : p.r = 0 <;> simp [hp, h]
theorem Sc.actP_len (s : Sc) (i : Nat) : (s.actP i).length ≤ i := by
  unfold Sc.actP
  exact Nat.le_trans (List.length_filter_le _ _) (by simp)
set_option maxRecDepth 100000 in
set_option maxHeartbeats 1000000 in
theorem active_calls (base g : Nat) (s : Sc) (u : Int) (w : World) (h : IsSc base w g s) (hok : s.Ok u) :
    Calls Try.prog 11 #[.pointer (some ⟨g, 0, none⟩)] w fun e w' => ∃ A c, e = .returned (.slice A s.act.length c) ∧ w'.ownsRow w.heap.size 3 1 (.slice A s.act.length c) s.act.length (nats s.act) ∧ Ext N0 w w' := by
  obtain ⟨gp, c, hS⟩ := h
  have hlen := hok.len
  have hgl := blkLt hS.blk
  have hpl : gp < w.heap.size := by obtain ⟨cs, fr, he⟩ := hS.pblk; exact blkLt he
  refine callsIn_wide (n := 0) |>.1 ?_
  refine callsIn_of_wp_marks Try.func11 rfl trivial ?_ rfl
  simp only [Try.ntmps11, List.size_toArray, List.length_cons, List.length_nil, Nat.reduceAdd, Nat.reduceSub, Array.replicate_succ, Array.replicate_zero, List.push_toArray, List.append_toArray, List.nil_append, List.cons_append]
  have HS := Lib.hid hS
  clear hS
  gi_wp2_with fail
  refine ⟨trivial, rfl, (callsIn_wide.2 (paths_calls g _)).mono ?_⟩
  rintro e w2 ⟨rfl, hw2⟩
  have HW2 := Lib.hid hw2
  clear hw2
  gi_wp2_with fail
  have hsz : w2.heap.size = w.heap.size + 2 := by rw [HW2.out]; simp
  have hE0 : Ext N0 w w2 := by rw [HW2.out]; exact ((Ext.refl _ _).alloc _).alloc _
  have h0 : w2.heap[w.heap.size]? = some (.cells #[.slice none 0 0] 32 (0, 0)) := by rw [HW2.out]; exact blkAlloc (blkNew _ _) _
  have h1 : w2.heap[w.heap.size + 1]? = some (.cells #[.pointer (some ⟨g, 0, none⟩)] 23 (0, 0)) := by rw [HW2.out]; exact blkNewG _ _ (by simp)
  clear HW2
  refine rangeLaw (β := Nat) (b0 := 0) (Step := PStep s) (Fin := fun i => i = s.ps.length) (Bd := fun _ => True) (R := fun k => k = w.heap.size + 1 ∨ k = g ∨ k = gp) (gf := 32) (lb := #[.pointer (some ⟨w.heap.size + 1, 0, none⟩)]) rfl (enters_of Try.func32 (by kernel_rfl) rfl)
    (paths_iter base _ g gp c s u hok w2 h1 (HS.out.kept0 hE0)) (fun k hk => by have hk : k = w.heap.size + 1 ∨ k = g ∨ k = gp := hk; omega) (fun b vs b' W hs => by obtain ⟨_, _, _, rfl⟩ := hs; rfl)
    (fun i W => i ≤ s.ps.length ∧ ∃ A c, W.heap[w.heap.size]? = some (.cells #[.slice A (s.actP i).length c] 32 (0, 0)) ∧ W.ownsRow w2.heap.size 3 1 (.slice A (s.actP i).length c) (s.actP i).length (nats (s.actP i)) ∧ Ext (At w.heap.size) w2 W)
    (fun code _ W => False)
    (fun i A B hh k => by
      obtain ⟨h0, x, c, h4, h5, h6⟩ := hh
      exact ⟨h0, x, c, k.blk h4, k.own h5, k.ext h6 (Nat.le_refl _)⟩)
    (fun code i A B hh k => hh)
    ⟨Nat.zero_le _, none, 0, h0, ownNil _ _ _ _, Ext.refl (At w.heap.size) w2⟩ (fun i A h => trivial)
    (fun i i' a' W => ∃ p, s.ps[i]? = some p ∧ i' = i + 1 ∧ a' = { tmps := #[.pointer (some ⟨g, 0, none⟩), undef, .slice none 0 0, .pointer (some ⟨w.heap.size, 0, none⟩), .int .i64 i, .bool (p.r == 0), .pointer (some ⟨g, 0, none⟩), .func (.func 32) #[] #[.pointer (some ⟨w.heap.size + 1, 0, none⟩)], .int .i64 i, .bool (p.r == 0), undef, undef, undef, undef, undef, undef], defers := [] })
    (fun i i' a' A B h k => h) ?assign ?body ?done ?stop
  case assign =>
    rintro l i i' vs W K ⟨p, hp, rfl, rfl⟩ hi hK
    gi_wp2
    exact hK _ _ (Bk.refl _) (KpR.refl _ _) hi ⟨p, hp, trivial, rfl⟩
  case body =>
    rintro l i i' a' W hl hlo ⟨hil, A, c, y2, yo, hE⟩ ⟨p, hp, rfl, rfl⟩
    have hst := Sc.actP_step hp
    have hpi := (List.getElem?_eq_some_iff.1 hp).1
    have hlen2 := s.actP_len i
    obtain ⟨k, hk⟩ : ∃ k, (s.actP i).length = k := ⟨_, rfl⟩
    rw [hk] at y2 yo hlen2
    have c2 := (blkCell y2 0).trans rfl
    simp at c2
    have HE := Lib.hid hE
    have HO := Lib.hid yo
    have HST := Lib.hid hst
    have HY := Lib.hid y2
    have HK := Lib.hid hk
    have hb2 := hE.size
    clear hE yo hst y2 hp hk
    by_cases hr : p.r = 0
    · have e1 : s.actP (i + 1) = s.actP i ++ [i] := by have := HST.out; rw [if_pos hr] at this; exact this
      have E1 := Lib.hid e1
      clear HST e1
      gi_wp2_with (gi_at_builtin; (refine wpAppIn w2.heap.size (.tmp 11) (.tmp 13) 32 3 (.int .i64 0) 1 8 rfl rfl Try.underlying32 info3 rfl (by decide) (by decide) (.slice A k c) k (nats (s.actP i)) (some ⟨W.heap.size, 0, none⟩) 1 1 [.int .i64 (i : Int)] rfl rfl (ownKept0 HO.out ((Ext.refl _ _).alloc _)) rfl (litReads W _ _ (by simp)) (by simp [Value.oneCell']) (by omega) (by simp; omega) ?_); intro A' c' w4 ho2 hE2 hd2; have hE1 : Ext N0 W (W.alloc (Obj.cells #[.int .i64 (i : Int)] 3)) := (Ext.refl _ _).alloc _; have n4 : w4.heap[w.heap.size]? = some (.cells #[.slice A k c] 32 (0, 0)) := hE2.blk (hE1.blk0 HY.out) (fun h => ownNeBlk HO.out HY.out (by decide) _ h rfl); have q4 := (blkCell n4 0).trans rfl; have f4 := blkFrozen n4 0)
      have ex : Ext (At (w.heap.size)) w4 (w4.setCell ⟨w.heap.size, 0, none⟩ (.slice A' (k + 1) c')) := (Ext.refl (At (w.heap.size)) w4).setCell (p := ⟨w.heap.size, 0, none⟩) (.inl (show w.heap.size = w.heap.size from rfl)) _
      have h5' := ownKept0 HO.out hE1
      have hlk : (s.actP (i + 1)).length = k + 1 := by rw [E1.out, List.length_append, HK.out]; rfl
      have hnl : nats (s.actP i) ++ [.int .i64 (i : Int)] = nats (s.actP i ++ [i]) := by simp [nats]
      refine ⟨((Bk.of0 hE1).trans (Bk.of_ext hE2 (ownBk h5'))).trans (Bk.of_ext ex ?_), ?_, by omega, A', c', ?_, ?_, ?_⟩
      · rintro k o rfl ho
        rw [n4] at ho
        injection ho with ho
        rw [← ho]
        rfl
      · exact (KpR.of_ext hE1 (fun _ _ h => h)).trans hE1.size ((KpR.of_ext hE2 (fun k hk h => by have := (ownBase h5' k h).1; have hk : k = w.heap.size + 1 ∨ k = g ∨ k = gp := hk; omega)).trans hE2.size (KpR.of_ext ex (fun k hk h => by have hk : k = w.heap.size + 1 ∨ k = g ∨ k = gp := hk; have h : k = w.heap.size := h; omega)))
      · rw [hlk]
        exact blkSet n4 0 _
      · rw [hlk, E1.out, ← hnl]
        exact ownKept ho2 ex (fun k hk h => ownNeBlk ho2 n4 (by decide) k hk h)
      · exact ((HE.out.then0 hE1).trans hE2 (fun k hk => .inr (ownBase h5' k hk).1)).same ex
    · have e1 : s.actP (i + 1) = s.actP i := by have := HST.out; rw [if_neg hr] at this; simpa using this
      have E1 := Lib.hid e1
      clear HST e1
      gi_wp2
      refine ⟨Bk.refl _, KpR.refl _ _, by omega, A, c, ?_, ?_, HE.out⟩
      · rw [E1.out, HK.out]; exact HY.out
      · rw [E1.out, HK.out]; exact HO.out
  case done =>
    rintro D i W hD hF ⟨_, A, c, y2, yo, hE⟩ hK
    have hF : i = s.ps.length := hF
    subst hF
    have k4 := (blkCell y2 0).trans rfl
    clear y2
    simp at k4
    have HE := Lib.hid hE
    have HO := Lib.hid yo
    clear hE yo
    gi_wp2
    refine ⟨by simp, .inl ⟨_, _, rfl, run_takeDeferred hK, ?_⟩⟩
    have kb := Kb.put (z := w2.heap.size) (.deferred none) hK rfl hD
    refine ⟨.slice A (s.actP s.ps.length).length c, by simp [results, Try.f11, go_sem], A, c, rfl, ownLe (kb.own HO.out) (by omega), kb.ext (hE0.trans HE.out (fun k hk => .inr (by have : k = w.heap.size := hk; omega))) (by omega)⟩
  case stop => exact fun D code b W _ hF _ => (show False from hF).elim
end Go.Proofs.Ytkkcdijnhegneaa
