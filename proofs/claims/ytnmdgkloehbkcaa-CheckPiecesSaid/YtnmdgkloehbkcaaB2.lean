/- Contracts of functions of the package and of its reference, each proved for every value that its statement lets in (the conditions stand in the statements). -/
import Derived.Test.YtnmdgkloehbkcaaB1
namespace Go.Proofs.Ytnmdgkloehbkcaa
open Go.RowKit

/-! The plain sums. -/
theorem adl_bd (p : Int × Int) (xs : List Int) (h1 : 0 ≤ p.1 ∧ p.1 < 65521) (h2 : 0 ≤ p.2 ∧ p.2 < 65521) : (0 ≤ (adl p xs).1 ∧ (adl p xs).1 < 65521) ∧ (0 ≤ (adl p xs).2 ∧ (adl p xs).2 < 65521) := by
  induction xs generalizing p with
  | nil => exact ⟨h1, h2⟩
  | cons x xs ih => exact ih (adA p x) (by unfold adA; simp only; omega) (by unfold adA; simp only; omega)
theorem adl_app (p : Int × Int) (xs ys : List Int) : adl p (xs ++ ys) = adl (adl p xs) ys := by unfold adl; rw [List.foldl_append]
def asum (p : Int × Int) : Int := 65536 * p.2 + p.1
def cat (ps : List (Option Addr × Nat × List Int)) : List Int := ps.flatMap fun p => p.2.2
def partV (p : Option Addr × Nat × List Int) : Value := .slice p.1 p.2.2.length p.2.1
def PartOk (w : World) (p : Option Addr × Nat × List Int) : Prop := Reads w p.1 (ints .u8 p.2.2) ∧ Bytes p.2.2
theorem PartOk.mono0 {w w' : World} {p : Option Addr × Nat × List Int} (h : PartOk w p) (hE : Ext N0 w w') : PartOk w' p := ⟨h.1.mono0 hE, h.2⟩
theorem cat_take (ps : List (Option Addr × Nat × List Int)) (k : Nat) (p : Option Addr × Nat × List Int) (h : ps[k]? = some p) : cat (ps.take (k + 1)) = cat (ps.take k) ++ p.2.2 := by
  obtain ⟨hk, rfl⟩ := List.getElem?_eq_some_iff.1 h
  unfold cat
  rw [List.take_succ_eq_append_getElem hk, List.flatMap_append]
  simp

set_option maxHeartbeats 400000 in
theorem adler_calls (A : Option Addr) (c : Nat) (ps : List (Option Addr × Nat × List Int)) (w : World) (hr : Reads w A (ps.map partV)) (hp : ∀ p, p ∈ ps → PartOk w p) :
    Calls Try.prog 11 #[.slice A ps.length c] w fun e w' => e = .returned (.int .u32 (asum (adl (1, 0) (cat ps)))) ∧ Ext N0 w w' := by
  have hmax := hr.1
  rw [List.length_map] at hmax
  go_enter Try.func11, Try.ntmps11
  go_wp2
  go_loopw [9] (fun i wr => ∃ (k : Nat) (p : Int × Int), k ≤ ps.length ∧ i = .int .i64 k ∧ Hid (p = adl (1, 0) (cat (ps.take k))) ∧ Hid (Ext N0 w wr) ∧ Hid (wr.heap[w.heap.size]? = some (.cells [Value.int .u32 p.1, Value.int .u32 p.2].toArray 39 (0, 0))))
                 (fun i _ => ps.length - (intOf i).toNat)
  case atStart => exact ⟨0, (1, 0), Nat.zero_le _, rfl, Lib.hid rfl, Lib.hid ((Ext.refl _ _).alloc _), blkNew _ _⟩
  case round =>
    obtain ⟨k, p, hk, rfl, hpe, hE, hB⟩ := hrel
    have hbd := adl_bd (1, 0) (cat (ps.take k)) (by decide) (by decide)
    rw [← hpe.out] at hbd
    by_cases hlt : k < ps.length
    · obtain ⟨q, hq⟩ : ∃ q, ps[k]? = some q := ⟨_, List.getElem?_eq_getElem hlt⟩
      obtain ⟨ad, rfl, hc⟩ := hr.at k (by rw [List.length_map]; exact hlt)
      have hc' := hE.out.cell (hc k (partV q) (by simp [hq])) (fun x => x)
      have hqo := (hp q (List.mem_of_getElem? hq)).mono0 hE.out
      have hqw := hp q (List.mem_of_getElem? hq)
      have hq' := Lib.hid hq
      have hcl := Lib.hid (add_calls w.heap.size 39 p.1 p.2 [] q.1 q.2.1 q.2.2 wr hbd.1 hbd.2 hqo.2 hB.out hqo.1 (fun h0 ad e => Nat.ne_of_lt (hqw.1.lt (by rw [ints_length]; exact h0) ad e)))
      clear hc hr hp hq hqo hqw
      unfold partV at hc'
      go_wp2_with (go_at_call 27; refine hcl.out.mono ?_; rintro e w' ⟨rfl, hE2, hB2⟩)
      go_roundw
      case rel => exact ⟨k + 1, adl (p.1, p.2) q.2.2, by omega, by go_num, Lib.hid (by rw [cat_take ps k q hq'.out, adl_app, ← hpe.out]), Lib.hid (hE.out.trans hE2 (fun k hk => .inr (by rw [show k = w.heap.size from hk]; exact Nat.le_refl _))), Lib.hid hB2⟩
      case measure => simp [intOf]; omega
    · obtain rfl : k = ps.length := by omega
      have hcl := Lib.hid (sum_calls w.heap.size 39 p.1 p.2 [] wr hbd.1 hbd.2 hB.out)
      rw [List.take_length] at hpe
      go_wp2_with (go_at_call 28; refine hcl.out.mono ?_; rintro e w' ⟨rfl, hE2⟩)
      go_ret
      exact ⟨by rw [← hpe.out]; rfl, hE.out.then0 hE2⟩

def spl (s : Int) : Int × Int := (s % 65536 % 65521, s / 65536 % 65521)
theorem spl_bd (s : Int) : (0 ≤ (spl s).1 ∧ (spl s).1 < 65521) ∧ (0 ≤ (spl s).2 ∧ (spl s).2 < 65521) := by unfold spl; simp only; omega

set_option maxHeartbeats 400000 in
theorem next_calls (s : Int) (A : Option Addr) (c : Nat) (xs : List Int) (w : World) (h0 : 0 ≤ s) (h1 : s < 4294967296) (hr : Reads w A (ints .u8 xs)) (hx : Bytes xs) :
    Calls Try.prog 14 #[.int .u32 s, .slice A xs.length c] w fun e w' => e = .returned (.int .u32 (asum (adl (spl s) xs))) ∧ Ext N0 w w' := by
  have hb := spl_bd s
  have hb2 := adl_bd (spl s) xs hb.1 hb.2
  go_enter Try.func14, Try.ntmps14
  go_wp2_with (go_at_call 29; refine (split_calls s _ h0 h1).mono ?_; rintro e w1 ⟨rfl, hE1⟩)
  have hE2 := hE1.alloc (Obj.cells #[Value.int .u32 (s % 65536 % 65521), Value.int .u32 (s / 65536 % 65521)] 39)
  refine (add_calls w1.heap.size 39 (spl s).1 (spl s).2 [] A c xs _ hb.1 hb.2 hx (blkNew _ _) (hr.mono0 hE2) (fun hp ad e => ?_)).mono ?_
  · have := hr.lt (by rw [ints_length]; exact hp) ad e
    have := hE1.size
    omega
  rintro e w3 ⟨rfl, hE3, hB3⟩
  have hE4 := hE2.trans hE3 (fun k hk => .inr (by rw [show k = w1.heap.size from hk]; exact hE1.size))
  clear hE3 hE2
  go_wp2_with fail
  refine (sum_calls w1.heap.size 39 _ _ [] w3 hb2.1 hb2.2 hB3).mono ?_
  rintro e w5 ⟨rfl, hE5⟩
  go_wp2
  go_ret
  exact ⟨rfl, hE4.then0 hE5⟩

/-! The reference. -/
set_option maxHeartbeats 400000 in
theorem on_calls (s : Int) (A : Option Addr) (c : Nat) (xs : List Int) (w : World) (h0 : 0 ≤ s) (h1 : s < 4294967296) (hr : Reads w A (ints .u8 xs)) (hx : Bytes xs) :
    Calls Try.prog 15 #[.int .u32 s, .slice A xs.length c] w fun e w' => e = .returned (.int .u32 (asum (adl (spl s) xs))) ∧ w' = w := by
  have hmax := hr.1
  rw [ints_length] at hmax
  go_enter Try.func15, Try.ntmps15
  go_wp2
  go_loop [5, 6, 7] (fun a b i => ∃ (k : Nat) (p : Int × Int), k ≤ xs.length ∧ i = .int .i64 k ∧ a = .int .u32 p.1 ∧ b = .int .u32 p.2 ∧ Hid (p = adl (spl s) (xs.take k)))
                 (fun _ _ i => xs.length - (intOf i).toNat)
  case atStart => exact ⟨0, spl s, Nat.zero_le _, rfl, rfl, rfl, Lib.hid rfl⟩
  case round =>
    obtain ⟨k, p, hk, rfl, rfl, rfl, hpe⟩ := hrel
    have hbd := adl_bd (spl s) (xs.take k) (spl_bd s).1 (spl_bd s).2
    rw [← hpe.out] at hbd
    by_cases hlt : k < xs.length
    · obtain ⟨ad, rfl, hc⟩ := hr.num k hlt
      have hxk := hx.at k hlt
      clear hr hx
      obtain ⟨c, hcc⟩ : ∃ c, xs.getD k 0 = c := ⟨_, rfl⟩
      rw [hcc] at hc hxk
      have HC := Lib.hid hcc
      clear hcc
      go_wp2
      go_round
      case rel => exact ⟨k + 1, adA p c, by omega, by go_num, rfl, rfl, Lib.hid (by rw [adl_take _ _ _ hlt, HC.out, ← hpe.out])⟩
      case measure => simp [intOf]; omega
    · obtain rfl : k = xs.length := by omega
      go_wp2
      go_ret
      rw [List.take_length] at hpe
      exact ⟨retInt (by rw [← hpe.out]; rfl), rfl⟩

theorem of_calls (A : Option Addr) (c : Nat) (xs : List Int) (w : World) (hr : Reads w A (ints .u8 xs)) (hx : Bytes xs) :
    Calls Try.prog 13 #[.slice A xs.length c] w fun e w' => e = .returned (.int .u32 (asum (adl (1, 0) xs))) ∧ w' = w := by
  go_enter Try.func13, Try.ntmps13
  go_wp2_with (go_at_call 15; refine (on_calls 1 A c xs w (by decide) (by decide) hr hx).mono ?_; rintro e w' ⟨rfl, rfl⟩)
  go_ret
  exact ⟨rfl, rfl⟩
end Go.Proofs.Ytnmdgkloehbkcaa
