/- Gauges at keys of one type, at a key of which nothing is noted, each proved for every value that its statement lets in (the conditions stand in the statements). -/
import Derived.Test.YtcngefpdfkkgdaaGS4
namespace Go.Proofs.Ytcngefpdfkkgdaa
open Go.RowKit Go.Maps
theorem most_outS (base g u : Nat) (G : Ga ByteArray) (k : ByteArray) (F : Nat → Prop) (w : World) (h : IsGS base w g G u F) (hkey : keyOf Try.prog 9 (.string k) = some (.string k.data.toList)) (hk : k ∉ G.ks) :
    Calls Try.prog 15 #[.pointer (some ⟨g, 0, none⟩), .string k] w fun e w' => e = .returned (.int .i64 0) ∧ Ext N0 w w' := by
  have HO := Lib.hid (of_outS base g u G k F w h hkey hk)
  have q := fld1S
  clear h hkey hk
  go_enter Try.func15, Try.ntmps15
  go_wp2_with (go_at_call 40; refine HO.out.mono ?_; rintro e w1 ⟨rfl, hE⟩; have HE := Lib.hid hE; clear hE)
  go_ret
  exact ⟨rfl, HE.out⟩
theorem sum_outS (base g u : Nat) (G : Ga ByteArray) (k : ByteArray) (F : Nat → Prop) (w : World) (h : IsGS base w g G u F) (hkey : keyOf Try.prog 9 (.string k) = some (.string k.data.toList)) (hk : k ∉ G.ks) :
    Calls Try.prog 16 #[.pointer (some ⟨g, 0, none⟩), .string k] w fun e w' => e = .returned (.int .i64 0) ∧ Ext N0 w w' := by
  have HO := Lib.hid (of_outS base g u G k F w h hkey hk)
  have q := fld2S
  clear h hkey hk
  go_enter Try.func16, Try.ntmps16
  go_wp2_with (go_at_call 40; refine HO.out.mono ?_; rintro e w1 ⟨rfl, hE⟩; have HE := Lib.hid hE; clear hE)
  go_ret
  exact ⟨rfl, HE.out⟩
theorem noted_outS (base g u : Nat) (G : Ga ByteArray) (k : ByteArray) (F : Nat → Prop) (w : World) (h : IsGS base w g G u F) (hkey : keyOf Try.prog 9 (.string k) = some (.string k.data.toList)) (hk : k ∉ G.ks) :
    Calls Try.prog 17 #[.pointer (some ⟨g, 0, none⟩), .string k] w fun e w' => e = .returned (.int .i64 0) ∧ Ext N0 w w' := by
  have HO := Lib.hid (of_outS base g u G k F w h hkey hk)
  have q := fld3S
  clear h hkey hk
  go_enter Try.func17, Try.ntmps17
  go_wp2_with (go_at_call 40; refine HO.out.mono ?_; rintro e w1 ⟨rfl, hE⟩; have HE := Lib.hid hE; clear hE)
  go_ret
  exact ⟨rfl, HE.out⟩
def NStepS (_ : Nat) (_ : Array Value) (_ : Nat) (_ : World) : Prop := False
theorem buck_outS (base g u C1 C2 : Nat) (G : Ga ByteArray) (k : ByteArray) (w : World) (ho : IsGS base w g G u (fun _ => True)) (hkey : keyOf Try.prog 9 (.string k) = some (.string k.data.toList)) (hk : k ∉ G.ks) (h1 : w.heap[C1]? = some (.cells #[.pointer (some ⟨g, 0, none⟩)] 24 (0, 0))) (h2 : w.heap[C2]? = some (.cells #[.string k] 9 (0, 0))) :
    Iter Try.prog 52 #[.pointer (some ⟨C1, 0, none⟩), .pointer (some ⟨C2, 0, none⟩)] NStepS (fun _ => True) (fun _ => True) (fun _ => False) 0 w := by
  intro l J Jx W hW hJ hJx hB hY h0
  refine callsIn_of_wp Try.func52 rfl trivial ?_ rfl
  simp only [Try.ntmps52, List.size_toArray, List.length_cons, List.length_nil, Nat.reduceAdd, Nat.reduceSub, Array.replicate_succ, Array.replicate_zero, List.push_toArray, List.append_toArray, List.nil_append, List.cons_append]
  have b0 := (blkCell (hW.blk0 h1) 0).trans rfl
  have b1 := (blkCell (hW.blk0 h2) 0).trans rfl
  simp at b0 b1
  have HN := Lib.hid (of_outS base g u G k _ W (ho.kept0 hW) hkey hk)
  have HJ := Lib.hid hJ
  have H0 := Lib.hid h0
  have q := fld0S
  clear hY hJ hJx hB h0 ho h1 h2 hkey hk
  gi_wp2_with fail
  refine ⟨trivial, rfl, (callsIn_wide.2 HN.out).mono ?_⟩
  rintro e w' ⟨rfl, hE⟩
  have HJ2 := Lib.hid (HJ.out _ _ _ H0.out (Kb.of0 hE))
  clear hE
  gi_wp2_with fail
  gi_loopw [4, 12] (fun _ i wr => i = .int .i64 0 ∧ Hid (J 0 wr)) (fun _ _ _ => 0)
  case atStart => exact ⟨rfl, HJ2⟩
  case round =>
    clear HJ2
    obtain ⟨rfl, HJ0⟩ := hrel
    gi_wp2_with fail
    first
      | exact bodyPost_end (results_none rfl _ _ _) rfl ⟨⟨_, rfl⟩, .inl ⟨0, trivial, HJ0.out⟩⟩
      | exact bodyPost_end (results_none rfl _ _ _) rfl ⟨⟨_, rfl⟩, .inl ⟨0, HJ0.out⟩⟩
attribute [local go_sem] Oper.semAt_some
set_option maxRecDepth 100000 in
theorem above_outS (base g u : Nat) (G : Ga ByteArray) (k : ByteArray) (t : Int) (F : Nat → Prop) (w : World) (h : IsGS base w g G u F) (hkey : keyOf Try.prog 9 (.string k) = some (.string k.data.toList)) (hk : k ∉ G.ks) :
    Calls Try.prog 18 #[.pointer (some ⟨g, 0, none⟩), .string k, .int .i64 t] w fun e w' => e = .returned (.int .i64 0) ∧ Ext N0 w w' := by
  have ht : IsGS base w g G u (fun _ => True) := by
    obtain ⟨mb, gb, cb, Ak, ck, bl, gc, cc, φ, ho, _⟩ := h
    exact ⟨mb, gb, cb, Ak, ck, bl, gc, cc, φ, ho, fun _ _ => trivial⟩
  refine callsIn_wide (n := 0) |>.1 ?_
  refine callsIn_of_wp_marks Try.func18 rfl trivial ?_ rfl
  simp only [Try.ntmps18, List.size_toArray, List.length_cons, List.length_nil, Nat.reduceAdd, Nat.reduceSub, Array.replicate_succ, Array.replicate_zero, List.push_toArray, List.append_toArray, List.nil_append, List.cons_append]
  have HN := Lib.hid ht
  have HK := Lib.hid (And.intro hkey hk)
  clear h ht hkey hk
  gi_wp2_with fail
  refine ⟨trivial, rfl, (callsIn_wide.2 (buckets_callsS (some ⟨g, 0, none⟩) k _)).mono ?_⟩
  rintro e w2 ⟨rfl, hw2⟩
  have HW2 := Lib.hid hw2
  clear hw2
  gi_wp2_with fail
  have hsz : w2.heap.size = w.heap.size + 4 := by rw [HW2.out]; simp
  have hE2 : Ext N0 w w2 := by rw [HW2.out]; exact ((((Ext.refl _ _).alloc _).alloc _).alloc _).alloc _
  have hs2 : w2.heap[w.heap.size + 1]? = some (.cells #[.int .i64 0] 3 (0, 0)) := by rw [HW2.out]; exact blkAlloc (blkAlloc (blkNewG _ _ (by simp)) _) _
  have hp2 : w2.heap[w.heap.size + 1 + 1]? = some (.cells #[.pointer (some ⟨g, 0, none⟩)] 24 (0, 0)) := by rw [HW2.out]; exact blkAlloc (blkNewG _ _ (by simp)) _
  have hk2 : w2.heap[w.heap.size + 1 + 1 + 1]? = some (.cells #[.string k] 9 (0, 0)) := by rw [HW2.out]; exact blkNewG _ _ (by simp)
  have hn2 := HN.out.kept0 hE2
  clear HW2 HN
  refine rangeLaw (β := Nat) (b0 := 0) (Step := NStepS) (Fin := fun _ => True) (Bd := fun _ => True) (R := fun _ => False) (gf := 52) (lb := #[.pointer (some ⟨w.heap.size + 1 + 1, 0, none⟩), .pointer (some ⟨w.heap.size + 1 + 1 + 1, 0, none⟩)]) rfl (enters_of Try.func52 (by kernel_rfl) rfl)
    (buck_outS base g u _ _ G k w2 hn2 HK.out.1 HK.out.2 hp2 hk2) (fun k hk => (show False from hk).elim) (fun b vs b' W hs => (show False from hs).elim)
    (fun _ X => Ext N0 w2 X) (fun _ _ _ => False) (fun _ A B hh k => k.ext hh (Nat.le_refl _)) (fun _ _ A B hh k => hh) (Ext.refl N0 w2) (fun _ _ _ => trivial)
    (fun _ _ _ _ => False) (fun _ _ _ A B h k => h) ?assign ?body ?done ?stop
  case assign => exact fun l b b' vs W K hs => (show False from hs).elim
  case body => exact fun l b b' a' W _ _ _ hf => (show False from hf).elim
  case done =>
    rintro D b X hD hF hX hK
    have c2 := (blkCell (hX.blk0 hs2) 0).trans rfl
    simp at c2
    have HX := Lib.hid hX
    clear hX
    gi_wp2
    refine ⟨by simp, .inl ⟨_, _, rfl, run_takeDeferred hK, ?_⟩⟩
    have kb := Kb.put (z := w2.heap.size) (.deferred none) hK rfl hD
    exact ⟨.int .i64 0, by simp [results, Try.f18, go_sem], rfl, kb.ext (hE2.then0 HX.out) (by omega)⟩
  case stop => exact fun D code b X _ hF _ => (show False from hF).elim
end Go.Proofs.Ytcngefpdfkkgdaa
