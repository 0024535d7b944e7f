/- Contracts of functions of the package and of its reference, each proved for every value that its statement lets in (the conditions stand in the statements). -/
import Derived.Test.YtnmdgkloehbkcaaB4
namespace Go.Proofs.Ytnmdgkloehbkcaa
open Go.RowKit

set_option maxHeartbeats 1000000 in
theorem rsl_calls (A : Option Addr) (c : Nat) (xs : List Int) (w : World) (hr : Reads w A (ints .u8 xs)) (hx : Bytes xs) (hn : xs.length ≤ 140737488355300) :
    Calls Try.prog 19 #[.slice A xs.length c] w fun e w' => ∃ A' c', e = .returned (.slice A' (slB xs).length c') ∧ w'.ownsRow w.heap.size 5 1 (.slice A' (slB xs).length c') (slB xs).length (ints .u8 (slB xs)) ∧ Ext N0 w w' := by
  have hpl := pad_len xs
  have hpb := pad_bytes hx
  go_enter Try.func19, Try.ntmps19
  have hl1 : (ints .u8 xs).length = xs.length * 1 := by simp [ints]
  have hbA := Lib.hid hr
  clear hr
  by_cases hodd : xs.length % 2 = 1
  · go_wp2_with (first
      | (at_builtin; refine wpApp w.heap.size (.tmp 5) (.tmp 6) 22 5 (.int .u8 0) 1 1 rfl rfl Try.underlying22 info5 rfl (by decide) (by decide) (.slice (some ⟨w.heap.size, 0, none⟩) 0 0) 0 [] _ xs.length _ (ints .u8 xs) rfl rfl (ownLit _ _ _ _ _ _ (Nat.le_refl _) (by decide) rfl) hl1 (hbA.out.mono0 ((Ext.refl _ _).alloc _)) (by simp [ints, Value.oneCell']) (by omega) (by simp) ?_; intro A1 c1 w1 ho hE _; simp only [Nat.zero_add, List.nil_append] at ho)
      | (at_builtin; refine wpApp w.heap.size (.tmp 12) (.tmp 13) 22 5 (.int .u8 0) 1 1 rfl rfl Try.underlying22 info5 rfl (by decide) (by decide) (.slice A1 xs.length c1) xs.length (ints .u8 xs) _ 1 _ [.int .u8 0] rfl rfl (ownKept0 ho ((Ext.refl _ _).alloc _)) rfl (litReads _ [.int .u8 0] _ (by decide)) (by simp [Value.oneCell']) (by omega) (by have := hE.size; simp at this; simp; omega) ?_; intro A2 c2 w2 ho2 hE2 _))
    have hE1 : Ext N0 w w1 := ((Ext.refl _ _).alloc _).trans hE (fun k hk => .inr (by injection hk with hk; rw [← hk]; exact Nat.le_refl _))
    have hp : pad xs = xs ++ [0] := if_pos hodd
    have hlen : xs.length + 1 = (pad xs).length := by rw [hp]; simp
    have hv : ints .u8 xs ++ [Value.int .u8 0] = ints .u8 (pad xs) := by rw [hp]; simp [ints]
    rw [hv] at ho2
    have hE3 := (hE1.alloc (.cells #[Value.int .u8 0] 5)).trans hE2 (fun k hk => .inr (ho.lt k hk).1)
    rw [hlen]
    rw [hlen] at ho2
    refine (rones_calls A2 c2 (pad xs) w2 (ownReads1 ho2) hpb (by omega)).mono ?_
    rintro e w3 ⟨rfl, rfl⟩
    obtain ⟨r, hr⟩ : ∃ r, on2 0 (pad xs) = r := ⟨_, rfl⟩
    have hrb := on2_bd (pad xs) 0 hpb (by decide)
    rw [hr] at hrb ⊢
    have HR := Lib.hid hr
    have hq : IntKind.u16.wrap ((65535 - r).tdiv 256) = (65535 - r) / 256 := by rw [Int.tdiv_eq_ediv_of_nonneg (by omega), wrap_u16]; omega
    clear hr hlen hv hp
    go_wp2_with (at_builtin; refine wpApp w.heap.size (.tmp 18) (.tmp 25) 22 5 (.int .u8 0) 1 1 rfl rfl Try.underlying22 info5 rfl (by decide) (by decide) (.slice A2 (pad xs).length c2) (pad xs).length (ints .u8 (pad xs)) _ 2 _ [.int .u8 ((65535 - r) / 256), .int .u8 ((65535 - r) % 256)] rfl rfl (ownKept0 ho2 ((Ext.refl _ _).alloc _)) rfl (litReadsG _ [.int .u8 ((65535 - r) / 256), .int .u8 ((65535 - r) % 256)] _ (by first | rfl | simp) (by simp)) (by simp [Value.oneCell']) (by omega) (by have := hE3.size; (try simp); omega) ?_; intro A4 c4 w4 ho4 hE4 _)
    have hE5 := (hE3.alloc (.cells #[Value.int .u8 ((65535 - r) / 256), Value.int .u8 ((65535 - r) % 256)] 5)).trans hE4 (fun k hk => .inr (ho2.lt k hk).1)
    go_ret
    have hs : slB xs = pad xs ++ [(65535 - r) / 256, (65535 - r) % 256] := by unfold slB slN; rw [HR.out]
    have hl : (pad xs).length + 2 = (slB xs).length := by rw [hs]; simp
    have hi : ints .u8 (pad xs) ++ [Value.int .u8 ((65535 - r) / 256), Value.int .u8 ((65535 - r) % 256)] = ints .u8 (slB xs) := by rw [hs]; simp [ints]
    rw [hl, hi] at ho4
    exact ⟨A4, c4, retSl hl, ho4, hE5⟩
  · go_wp2_with (first
      | (at_builtin; refine wpApp w.heap.size (.tmp 5) (.tmp 6) 22 5 (.int .u8 0) 1 1 rfl rfl Try.underlying22 info5 rfl (by decide) (by decide) (.slice (some ⟨w.heap.size, 0, none⟩) 0 0) 0 [] _ xs.length _ (ints .u8 xs) rfl rfl (ownLit _ _ _ _ _ _ (Nat.le_refl _) (by decide) rfl) hl1 (hbA.out.mono0 ((Ext.refl _ _).alloc _)) (by simp [ints, Value.oneCell']) (by omega) (by simp) ?_; intro A1 c1 w1 ho hE _; simp only [Nat.zero_add, List.nil_append] at ho))
    have hE3 : Ext N0 w w1 := ((Ext.refl _ _).alloc _).trans hE (fun k hk => .inr (by injection hk with hk; rw [← hk]; exact Nat.le_refl _))
    have hp : pad xs = xs := if_neg hodd
    refine (rones_calls A1 c1 xs w1 (ownReads1 ho) hx (by omega)).mono ?_
    rintro e w3 ⟨rfl, rfl⟩
    obtain ⟨r, hr⟩ : ∃ r, on2 0 xs = r := ⟨_, rfl⟩
    have hrb := on2_bd xs 0 hx (by decide)
    rw [hr] at hrb ⊢
    have HR := Lib.hid hr
    have HP := Lib.hid hp
    have hq : IntKind.u16.wrap ((65535 - r).tdiv 256) = (65535 - r) / 256 := by rw [Int.tdiv_eq_ediv_of_nonneg (by omega), wrap_u16]; omega
    clear hr hp
    go_wp2_with (at_builtin; refine wpApp w.heap.size (.tmp 18) (.tmp 25) 22 5 (.int .u8 0) 1 1 rfl rfl Try.underlying22 info5 rfl (by decide) (by decide) (.slice A1 xs.length c1) xs.length (ints .u8 xs) _ 2 _ [.int .u8 ((65535 - r) / 256), .int .u8 ((65535 - r) % 256)] rfl rfl (ownKept0 ho ((Ext.refl _ _).alloc _)) rfl (litReadsG _ [.int .u8 ((65535 - r) / 256), .int .u8 ((65535 - r) % 256)] _ (by first | rfl | simp) (by simp)) (by simp [Value.oneCell']) (by omega) (by have := hE3.size; (try simp); omega) ?_; intro A4 c4 w4 ho4 hE4 _)
    have hE5 := (hE3.alloc (.cells #[Value.int .u8 ((65535 - r) / 256), Value.int .u8 ((65535 - r) % 256)] 5)).trans hE4 (fun k hk => .inr (ho.lt k hk).1)
    go_ret
    have hs : slB xs = xs ++ [(65535 - r) / 256, (65535 - r) % 256] := by unfold slB slN; rw [HP.out, HR.out]
    have hl : xs.length + 2 = (slB xs).length := by rw [hs]; simp
    have hi : ints .u8 xs ++ [Value.int .u8 ((65535 - r) / 256), Value.int .u8 ((65535 - r) % 256)] = ints .u8 (slB xs) := by rw [hs]; simp [ints]
    rw [hl, hi] at ho4
    exact ⟨A4, c4, retSl hl, ho4, hE5⟩

def sealedB (xs : List Int) : Bool := decide (2 ≤ xs.length) && decide (xs.length % 2 = 0) && (on2 0 xs == 65535)

set_option maxHeartbeats 400000 in
theorem sealed_calls (A : Option Addr) (c : Nat) (xs : List Int) (w : World) (hr : Reads w A (ints .u8 xs)) (hx : Bytes xs) :
    Calls Try.prog 20 #[.slice A xs.length c] w fun e w' => e = .returned (.bool (sealedB xs)) ∧ Ext N0 w w' := by
  have hm := hr.1
  rw [ints_length] at hm
  by_cases h1 : 2 ≤ xs.length
  · by_cases h2 : xs.length % 2 = 0
    · have hh := Lib.hid (ones_one (some ⟨w.heap.size, 0, none⟩) A 1 xs.length c xs (w.alloc (.cells #[.slice A xs.length c] 22)) (litReads w [.slice A xs.length c] 22 (by simp)) rfl (hr.mono0 ((Ext.refl _ _).alloc _)) hx)
      go_enter Try.func20, Try.ntmps20
      go_wp2_with (go_at_call 16; refine hh.out.mono ?_; rintro e w1 ⟨rfl, rfl⟩)
      go_ret
      exact ⟨retBool (by unfold sealedB; simp [h1, h2]), (Ext.refl _ _).alloc _⟩
    · go_enter Try.func20, Try.ntmps20
      go_wp2
      go_ret
      exact ⟨retBool (by unfold sealedB; simp [h1, h2]), Ext.refl _ _⟩
  · go_enter Try.func20, Try.ntmps20
    go_wp2
    go_ret
    exact ⟨retBool (by unfold sealedB; simp [h1]), Ext.refl _ _⟩

set_option maxHeartbeats 400000 in
theorem rsealed_calls (A : Option Addr) (c : Nat) (xs : List Int) (w : World) (hr : Reads w A (ints .u8 xs)) (hx : Bytes xs) (hn : xs.length ≤ 140737488355328) :
    Calls Try.prog 21 #[.slice A xs.length c] w fun e w' => e = .returned (.bool (sealedB xs)) ∧ w' = w := by
  by_cases h1 : 2 ≤ xs.length
  · by_cases h2 : xs.length % 2 = 0
    · have hh := Lib.hid (rones_calls A c xs w hr hx hn)
      go_enter Try.func21, Try.ntmps21
      go_wp2_with (go_at_call 17; refine hh.out.mono ?_; rintro e w1 ⟨rfl, rfl⟩)
      go_ret
      exact ⟨retBool (by unfold sealedB; simp [h1, h2]), rfl⟩
    · go_enter Try.func21, Try.ntmps21
      go_wp2
      go_ret
      exact ⟨retBool (by unfold sealedB; simp [h1, h2]), rfl⟩
  · go_enter Try.func21, Try.ntmps21
    go_wp2
    go_ret
    exact ⟨retBool (by unfold sealedB; simp [h1]), rfl⟩

set_option maxHeartbeats 400000 in
theorem join_calls (A B : Option Addr) (c d : Nat) (xs ys : List Int) (w : World) (hr : Reads w A (ints .u8 xs)) (hs : Reads w B (ints .u8 ys)) (hn : xs.length + ys.length ≤ 140737488355328) :
    Calls Try.prog 12 #[.slice A xs.length c, .slice B ys.length d] w fun e w' => ∃ A' c', e = .returned (.slice A' (xs ++ ys).length c') ∧ w'.ownsRow w.heap.size 5 1 (.slice A' (xs ++ ys).length c') (xs ++ ys).length (ints .u8 (xs ++ ys)) ∧ Ext N0 w w' := by
  have hl1 : (ints .u8 xs).length = xs.length * 1 := by simp [ints]
  have hl2 : (ints .u8 ys).length = ys.length * 1 := by simp [ints]
  have HA := Lib.hid hr
  have HB := Lib.hid hs
  clear hr hs
  go_enter Try.func12, Try.ntmps12
  go_wp2_with (first
      | (at_builtin; refine wpApp w.heap.size (.tmp 5) (.tmp 6) 22 5 (.int .u8 0) 1 1 rfl rfl Try.underlying22 info5 rfl (by decide) (by decide) (.slice (some ⟨w.heap.size, 0, none⟩) 0 0) 0 [] _ xs.length _ (ints .u8 xs) rfl rfl (ownLit _ _ _ _ _ _ (Nat.le_refl _) (by decide) rfl) hl1 (HA.out.mono0 ((Ext.refl _ _).alloc _)) (by simp [ints, Value.oneCell']) (by omega) (by simp) ?_; intro A1 c1 w1 ho hE0 _; simp only [Nat.zero_add, List.nil_append] at ho; have hE : Ext N0 w w1 := ((Ext.refl _ _).alloc _).trans hE0 (fun k hk => .inr (by injection hk with hk; rw [← hk]; exact Nat.le_refl _)))
      | (at_builtin; refine wpApp w.heap.size (.tmp 7) (.tmp 8) 22 5 (.int .u8 0) 1 1 rfl rfl Try.underlying22 info5 rfl (by decide) (by decide) (.slice A1 xs.length c1) xs.length (ints .u8 xs) _ ys.length _ (ints .u8 ys) rfl rfl ho hl2 (HB.out.mono0 hE) (by simp [ints, Value.oneCell']) (by omega) hE.size ?_; intro A2 c2 w2 ho2 hE2 _))
  go_ret
  have hE5 := hE.trans hE2 (fun k hk => .inr (ho.lt k hk).1)
  have hl : xs.length + ys.length = (xs ++ ys).length := by simp
  have hi : ints .u8 xs ++ ints .u8 ys = ints .u8 (xs ++ ys) := by simp [ints]
  rw [hl, hi] at ho2
  exact ⟨A2, c2, retSl hl, ho2, hE5⟩
end Go.Proofs.Ytnmdgkloehbkcaa
