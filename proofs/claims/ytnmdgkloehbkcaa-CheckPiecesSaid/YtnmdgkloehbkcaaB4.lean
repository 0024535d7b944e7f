/- Contracts of functions of the package and of its reference, each proved for every value that its statement lets in (the conditions stand in the statements). -/
import Derived.Test.YtnmdgkloehbkcaaB3
namespace Go.Proofs.Ytnmdgkloehbkcaa
open Go.RowKit

def pad (xs : List Int) : List Int := if xs.length % 2 = 1 then xs ++ [0] else xs
def slN (xs : List Int) : Int := 65535 - on2 0 (pad xs)
def slB (xs : List Int) : List Int := pad xs ++ [slN xs / 256, slN xs % 256]
theorem pad_bytes {xs : List Int} (h : Bytes xs) : Bytes (pad xs) := by
  unfold pad
  split
  · exact h.app (fun x hx => by simp at hx; omega)
  · exact h
theorem pad_even (xs : List Int) : (pad xs).length % 2 = 0 := by
  unfold pad
  split
  · simp; omega
  · omega
theorem pad_len (xs : List Int) : (pad xs).length ≤ xs.length + 1 := by
  unfold pad
  split <;> simp
theorem slN_bd {xs : List Int} (h : Bytes xs) : 0 ≤ slN xs ∧ slN xs ≤ 65535 := by
  have := on2_bd (pad xs) 0 (pad_bytes h) (by decide)
  unfold slN
  omega
theorem on1_one {xs : List Int} (h : Bytes xs) (A : Option Addr) (c : Nat) : (on1l (0, true) (cat [(A, c, xs)])).1 = on2 0 xs := by
  rw [show cat [(A, c, xs)] = xs from by simp [cat]]
  exact on2_on1 xs 0 h (by decide)

theorem ones_one (B A : Option Addr) (cb n c : Nat) (xs : List Int) (W : World) (hB : Reads W B [.slice A n c]) (hn : n = xs.length) (hr : Reads W A (ints .u8 xs)) (hx : Bytes xs) :
    Calls Try.prog 16 #[.slice B 1 cb] W fun e w' => e = .returned (.int .u16 (on2 0 xs)) ∧ w' = W := by
  subst hn
  refine (ones_calls B cb [(A, c, xs)] W hB (fun p hp => by simp at hp; subst hp; exact ⟨hr, hx⟩)).mono ?_
  rintro e w' ⟨rfl, rfl⟩
  exact ⟨by rw [on1_one hx], rfl⟩
theorem adler_one (B A : Option Addr) (cb n c : Nat) (xs : List Int) (W : World) (hB : Reads W B [.slice A n c]) (hn : n = xs.length) (hr : Reads W A (ints .u8 xs)) (hx : Bytes xs) :
    Calls Try.prog 11 #[.slice B 1 cb] W fun e w' => e = .returned (.int .u32 (asum (adl (1, 0) xs))) ∧ Ext N0 W w' := by
  subst hn
  refine (adler_calls B cb [(A, c, xs)] W hB (fun p hp => by simp at hp; subst hp; exact ⟨hr, hx⟩)).mono ?_
  rintro e w' ⟨rfl, h⟩
  exact ⟨by rw [show cat [(A, c, xs)] = xs from by simp [cat]], h⟩

set_option maxHeartbeats 1000000 in
theorem sl_calls (A : Option Addr) (c : Nat) (xs : List Int) (w : World) (hr : Reads w A (ints .u8 xs)) (hx : Bytes xs) (hn : xs.length ≤ 140737488355300) :
    Calls Try.prog 18 #[.slice A xs.length c] w fun e w' => ∃ A' c', e = .returned (.slice A' (slB xs).length c') ∧ w'.ownsRow w.heap.size 5 1 (.slice A' (slB xs).length c') (slB xs).length (ints .u8 (slB xs)) ∧ Ext N0 w w' := by
  have hpe := pad_even xs
  have hpl := pad_len xs
  have hpb := pad_bytes hx
  go_enter Try.func18, Try.ntmps18
  go_wp2_with fail
  refine (clone_calls A c xs w hr (by omega)).mono ?_
  rintro e w1 ⟨v, rfl, ho, hE⟩
  obtain ⟨A1, c1, rfl, hc1⟩ := ownSlice ho
  have HO := Lib.hid ho
  clear hr
  by_cases hodd : xs.length % 2 = 1
  · go_wp2_with (at_builtin; refine wpApp w.heap.size (.tmp 11) (.tmp 12) 22 5 (.int .u8 0) 1 1 rfl rfl Try.underlying22 info5 rfl (by decide) (by decide) (.slice A1 xs.length c1) xs.length (ints .u8 xs) _ 1 _ [.int .u8 0] rfl rfl (ownKept0 HO.out ((Ext.refl _ _).alloc _)) rfl (litReads _ [.int .u8 0] _ (by decide)) (by simp [Value.oneCell']) (by omega) (by have := hE.size; simp; omega) ?_; intro A2 c2 w2 ho2 hE2 _)
    have hp : pad xs = xs ++ [0] := if_pos hodd
    have hlen : xs.length + 1 = (pad xs).length := by rw [hp]; simp
    have hv : ints .u8 xs ++ [Value.int .u8 0] = ints .u8 (pad xs) := by rw [hp]; simp [ints]
    rw [hv] at ho2
    have hE3 := (hE.alloc (.cells #[Value.int .u8 0] 5)).trans hE2 (fun k hk => .inr (ho.lt k hk).1)
    have hO3 := ownKept0 ho2 ((Ext.refl _ _).alloc (.cells #[Value.slice A2 (xs.length + 1) c2] 22))
    refine (ones_one _ A2 _ _ c2 (pad xs) _ (litReads w2 [.slice A2 (xs.length + 1) c2] 22 (by simp)) hlen (ownReads1 hO3) hpb).mono ?_
    rintro e w3 ⟨rfl, rfl⟩
    obtain ⟨r, hr⟩ : ∃ r, on2 0 (pad xs) = r := ⟨_, rfl⟩
    have hrb := on2_bd (pad xs) 0 hpb (by decide)
    rw [hr] at hrb ⊢
    have HR := Lib.hid hr
    have HL := Lib.hid hlen
    have HV := Lib.hid hv
    have HP := Lib.hid hp
    clear hr hlen hv hp
    go_wp2_with (at_builtin; refine wpApp w.heap.size (.tmp 18) (.tmp 24) 22 5 (.int .u8 0) 1 1 rfl rfl Try.underlying22 info5 rfl (by decide) (by decide) (.slice A2 (xs.length + 1) c2) (xs.length + 1) (ints .u8 (pad xs)) _ 2 _ [.int .u8 ((65535 - r) / 256), .int .u8 ((65535 - r) % 256)] rfl rfl (ownKept0 hO3 ((Ext.refl _ _).alloc _)) rfl (litReadsG _ [.int .u8 ((65535 - r) / 256), .int .u8 ((65535 - r) % 256)] _ (by simp) (by simp)) (by simp [Value.oneCell']) (by omega) (by have := hE3.size; simp; omega) ?_; intro A4 c4 w4 ho4 hE4 _)
    have hE5 := ((hE3.alloc (.cells #[Value.slice A2 (xs.length + 1) c2] 22)).alloc (.cells #[Value.int .u8 ((65535 - r) / 256), Value.int .u8 ((65535 - r) % 256)] 5)).trans hE4 (fun k hk => .inr (ho2.lt k hk).1)
    go_ret
    have hs : slB xs = pad xs ++ [(65535 - r) / 256, (65535 - r) % 256] := by unfold slB slN; rw [HR.out]
    have hl : xs.length + 1 + 2 = (slB xs).length := by rw [hs, HL.out]; simp
    have hi : ints .u8 (pad xs) ++ [Value.int .u8 ((65535 - r) / 256), Value.int .u8 ((65535 - r) % 256)] = ints .u8 (slB xs) := by rw [hs]; simp [ints]
    rw [hl, hi] at ho4
    exact ⟨A4, c4, retSl hl, ho4, hE5⟩
  · have hp : pad xs = xs := if_neg hodd
    have hO3 := ownKept0 ho ((Ext.refl _ _).alloc (.cells #[Value.slice A1 xs.length c1] 22))
    have hb2 := (by decide : ¬ ((1 : Int) = 0))
    go_wp2_with fail
    refine (ones_one _ A1 _ _ c1 xs _ (litReads w1 [.slice A1 xs.length c1] 22 (by simp)) rfl (ownReads1 hO3) hx).mono ?_
    rintro e w3 ⟨rfl, rfl⟩
    obtain ⟨r, hr⟩ : ∃ r, on2 0 xs = r := ⟨_, rfl⟩
    have hrb := on2_bd xs 0 hx (by decide)
    rw [hr] at hrb ⊢
    have HR := Lib.hid hr
    have HP := Lib.hid hp
    clear hr hp hb2
    go_wp2_with (at_builtin; refine wpApp w.heap.size (.tmp 18) (.tmp 24) 22 5 (.int .u8 0) 1 1 rfl rfl Try.underlying22 info5 rfl (by decide) (by decide) (.slice A1 xs.length c1) xs.length (ints .u8 xs) _ 2 _ [.int .u8 ((65535 - r) / 256), .int .u8 ((65535 - r) % 256)] rfl rfl (ownKept0 hO3 ((Ext.refl _ _).alloc _)) rfl (litReadsG _ [.int .u8 ((65535 - r) / 256), .int .u8 ((65535 - r) % 256)] _ (by simp) (by simp)) (by simp [Value.oneCell']) (by omega) (by have := hE.size; simp; omega) ?_; intro A4 c4 w4 ho4 hE4 _)
    have hE5 := ((hE.alloc (.cells #[Value.slice A1 xs.length c1] 22)).alloc (.cells #[Value.int .u8 ((65535 - r) / 256), Value.int .u8 ((65535 - r) % 256)] 5)).trans hE4 (fun k hk => .inr (ho.lt k hk).1)
    go_ret
    have hs : slB xs = xs ++ [(65535 - r) / 256, (65535 - r) % 256] := by unfold slB slN; rw [HP.out, HR.out]
    have hl : xs.length + 2 = (slB xs).length := by rw [hs]; simp
    have hi : ints .u8 xs ++ [Value.int .u8 ((65535 - r) / 256), Value.int .u8 ((65535 - r) % 256)] = ints .u8 (slB xs) := by rw [hs]; simp [ints]
    rw [hl, hi] at ho4
    exact ⟨A4, c4, retSl hl, ho4, hE5⟩
end Go.Proofs.Ytnmdgkloehbkcaa
