/- Contracts of functions of the package and of its reference, each proved for every value that its statement lets in (the conditions stand in the statements). -/
import Derived.Test.YtnmdgkloehbkcaaB5
import Derived.Lib.SlBytesConst
namespace Go.Proofs.Ytnmdgkloehbkcaa
open Go.RowKit

theorem ones_nil (W : World) : Calls Try.prog 16 #[.slice none 0 0] W fun e w' => e = .returned (.int .u16 0) ∧ w' = W :=
  (ones_calls none 0 [] W (Reads.nil _ _) (fun p hp => by cases hp)).mono fun _ _ h => h
theorem adler_nil (W : World) : Calls Try.prog 11 #[.slice none 0 0] W fun e w' => e = .returned (.int .u32 1) ∧ Ext N0 W w' :=
  (adler_calls none 0 [] W (Reads.nil _ _) (fun p hp => by cases hp)).mono fun _ _ h => h
theorem adler_two (B A1 A2 : Option Addr) (cb c1 c2 n1 n2 : Nat) (xs ys : List Int) (W : World) (hB : Reads W B [.slice A1 n1 c1, .slice A2 n2 c2]) (h1 : n1 = xs.length) (h2 : n2 = ys.length) (hr : Reads W A1 (ints .u8 xs)) (hs : Reads W A2 (ints .u8 ys)) (hx : Bytes xs) (hy : Bytes ys) :
    Calls Try.prog 11 #[.slice B 2 cb] W fun e w' => e = .returned (.int .u32 (asum (adl (1, 0) (xs ++ ys)))) ∧ Ext N0 W w' := by
  subst h1 h2
  refine (adler_calls B cb [(A1, c1, xs), (A2, c2, ys)] W hB (fun p hp => by
    simp at hp
    rcases hp with rfl | rfl
    · exact ⟨hr, hx⟩
    · exact ⟨hs, hy⟩)).mono ?_
  rintro e w' ⟨rfl, h⟩
  exact ⟨by rw [show cat [(A1, c1, xs), (A2, c2, ys)] = xs ++ ys from by simp [cat]], h⟩
theorem ones_two (B A1 A2 : Option Addr) (cb c1 c2 n1 n2 : Nat) (xs ys : List Int) (W : World) (hB : Reads W B [.slice A1 n1 c1, .slice A2 n2 c2]) (h1 : n1 = xs.length) (h2 : n2 = ys.length) (hr : Reads W A1 (ints .u8 xs)) (hs : Reads W A2 (ints .u8 ys)) (hx : Bytes xs) (hy : Bytes ys) :
    Calls Try.prog 16 #[.slice B 2 cb] W fun e w' => e = .returned (.int .u16 (on2 0 (xs ++ ys))) ∧ w' = W := by
  subst h1 h2
  refine (ones_calls B cb [(A1, c1, xs), (A2, c2, ys)] W hB (fun p hp => by
    simp at hp
    rcases hp with rfl | rfl
    · exact ⟨hr, hx⟩
    · exact ⟨hs, hy⟩)).mono ?_
  rintro e w' ⟨rfl, h⟩
  exact ⟨by rw [show cat [(A1, c1, xs), (A2, c2, ys)] = xs ++ ys from by simp [cat], on2_on1 _ _ (hx.app hy) (by decide)], h⟩

set_option maxHeartbeats 1000000 in
theorem awake_calls (w : World) : Calls Try.prog 10 #[] w fun e w' => e = .returned (.bool true) ∧ Ext N0 w w' := by
  have e1 : asum (adl (1, 0) ([87, 105, 107, 105] ++ [112, 101, 100, 105, 97])) = 300286872 := by decide
  have e2 : on2 0 [1, 2, 3] = 1026 := by decide
  have b1 : Bytes [87, 105, 107, 105] := by unfold Bytes; decide
  have b2 : Bytes [112, 101, 100, 105, 97] := by unfold Bytes; decide
  have b3 : Bytes [1, 2, 3] := by unfold Bytes; decide
  have kc := fun (w : World) (C : Array Value) (n c : Nat) => Lib.run_convert_bytes_const (P := Try.prog) w 22 5 C n c Try.underlying22 Try.underlying5
  have kc2 : ∀ (X : Obj) (C : Array Value) (n c : Nat), (convert 22 22 (.slice (some ⟨w.heap.size + 1, 0, none⟩) n c)).run Try.prog ((w.alloc X).alloc (.cells C 5)) = .ok (.slice (some ⟨w.heap.size + 1, 0, none⟩) n c) ((w.alloc X).alloc (.cells C 5 (C.size, C.size + 1))) := by
    intro X C n c
    have := kc (w.alloc X) C n c
    simpa using this
  go_enter Try.func10, Try.ntmps10
  go_wp2_with fail
  have r1 : Reads (((w.alloc (.cells [Value.int .u8 87, .int .u8 105, .int .u8 107, .int .u8 105].toArray 5 (4, 5))).alloc (.cells [Value.int .u8 112, .int .u8 101, .int .u8 100, .int .u8 105, .int .u8 97].toArray 5 (5, 6))).alloc (.cells [Value.slice (some ⟨w.heap.size, 0, none⟩) 4 4, .slice (some ⟨w.heap.size + 1, 0, none⟩) 5 5].toArray 22)) (some ⟨w.heap.size, 0, none⟩) (ints .u8 [87, 105, 107, 105]) := ((litReads w [.int .u8 87, .int .u8 105, .int .u8 107, .int .u8 105] 5 (by simp)).mono0 ((Ext.refl _ _).alloc _)).mono0 ((Ext.refl _ _).alloc _)
  have r2 : Reads (((w.alloc (.cells [Value.int .u8 87, .int .u8 105, .int .u8 107, .int .u8 105].toArray 5 (4, 5))).alloc (.cells [Value.int .u8 112, .int .u8 101, .int .u8 100, .int .u8 105, .int .u8 97].toArray 5 (5, 6))).alloc (.cells [Value.slice (some ⟨w.heap.size, 0, none⟩) 4 4, .slice (some ⟨w.heap.size + 1, 0, none⟩) 5 5].toArray 22)) (some ⟨w.heap.size + 1, 0, none⟩) (ints .u8 [112, 101, 100, 105, 97]) := (litReadsG (g := w.heap.size + 1) (w.alloc (.cells [Value.int .u8 87, .int .u8 105, .int .u8 107, .int .u8 105].toArray 5 (4, 5))) [.int .u8 112, .int .u8 101, .int .u8 100, .int .u8 105, .int .u8 97] 5 (by simp) (by simp)).mono0 ((Ext.refl _ _).alloc _)
  refine (adler_two _ _ _ 2 4 5 4 5 [87, 105, 107, 105] [112, 101, 100, 105, 97] _ (litReadsG ((w.alloc (.cells [Value.int .u8 87, .int .u8 105, .int .u8 107, .int .u8 105].toArray 5 (4, 5))).alloc (.cells [Value.int .u8 112, .int .u8 101, .int .u8 100, .int .u8 105, .int .u8 97].toArray 5 (5, 6))) [Value.slice (some ⟨w.heap.size, 0, none⟩) 4 4, .slice (some ⟨w.heap.size + 1, 0, none⟩) 5 5] 22 (by simp) (by simp)) rfl rfl r1 r2 b1 b2).mono ?_
  rintro e w1 ⟨rfl, hE1⟩
  clear r1 r2 kc kc2
  have hE := Ext.then0 (((Ext.refl N0 w).alloc _).alloc _ |>.alloc _) hE1
  clear hE1
  rw [e1]
  go_wp2_with fail
  refine (adler_nil w1).mono ?_
  rintro e w2 ⟨rfl, hE2⟩
  have hE3 := hE.then0 hE2
  clear hE hE2
  go_wp2_with fail
  refine (ones_one _ _ _ 3 3 [1, 2, 3] _ (litReadsG (w2.alloc (.cells [Value.int .u8 1, .int .u8 2, .int .u8 3].toArray 5)) [Value.slice (some ⟨w2.heap.size, 0, none⟩) 3 3] 22 (by simp) (by simp)) rfl ((litReads w2 [Value.int .u8 1, .int .u8 2, .int .u8 3] 5 (by simp)).mono0 ((Ext.refl _ _).alloc _)) b3).mono ?_
  rintro e w3 ⟨rfl, rfl⟩
  rw [e2]
  go_wp2
  go_ret
  exact ⟨rfl, (hE3.alloc _).alloc _⟩

/-! The sum of bytes that come. -/
def IsSum (w : World) (g : Nat) (p : Int × Int) (n : Int) : Prop := w.heap[g]? = some (.cells [Value.int .u32 p.1, Value.int .u32 p.2, Value.int .i64 n, Value.bool true].toArray 41 (0, 0))
theorem none_calls (g : Nat) (b : Bool) (w : World) (c3 : w.cell? ⟨g, 3, none⟩ = some (.bool b)) : Calls Try.prog 31 #[.pointer (some ⟨g, 0, none⟩)] w fun e w' => e = .returned (.bool (!b)) ∧ w' = w := by
  go_enter Try.func31, Try.ntmps31
  go_wp2
  go_ret
  exact ⟨rfl, rfl⟩
theorem none_nil (w : World) : Calls Try.prog 31 #[.pointer none] w fun e w' => e = .returned (.bool true) ∧ w' = w := by
  go_enter Try.func31, Try.ntmps31
  go_wp2
  go_ret
  exact ⟨rfl, rfl⟩
theorem new_calls (w : World) : Calls Try.prog 26 #[] w fun e w' => e = .returned (.pointer (some ⟨w.heap.size, 0, none⟩)) ∧ Ext N0 w w' ∧ IsSum w' w.heap.size (1, 0) 0 := by
  go_enter Try.func26, Try.ntmps26
  go_wp2
  go_ret
  exact ⟨rfl, (Ext.refl _ _).alloc _, blkNew _ _⟩
theorem len_calls (g : Nat) (p : Int × Int) (n : Int) (w : World) (hI : IsSum w g p n) : Calls Try.prog 24 #[.pointer (some ⟨g, 0, none⟩)] w fun e w' => e = .returned (.int .i64 n) ∧ w' = w := by
  have c2 := (blkCell hI 2).trans rfl
  have c3 := (blkCell hI 3).trans rfl
  simp at c2 c3
  go_enter Try.func24, Try.ntmps24
  go_wp2
  go_ret
  exact ⟨rfl, rfl⟩
theorem summ_calls (g : Nat) (p : Int × Int) (n : Int) (w : World) (hI : IsSum w g p n) (ha : 0 ≤ p.1 ∧ p.1 < 65521) (hb : 0 ≤ p.2 ∧ p.2 < 65521) : Calls Try.prog 23 #[.pointer (some ⟨g, 0, none⟩)] w fun e w' => e = .returned (.int .u32 (asum p)) ∧ Ext N0 w w' := by
  have c3 := (blkCell hI 3).trans rfl
  simp at c3
  have hh := Lib.hid (sum_calls g 41 p.1 p.2 _ w ha hb hI)
  clear hI
  go_enter Try.func23, Try.ntmps23
  go_wp2_with (first | (go_at_call 31; refine (none_calls g true _ c3).mono ?_; rintro e w1 ⟨rfl, rfl⟩) | (go_at_call 28; refine hh.out.mono ?_; rintro e w1 ⟨rfl, hE⟩))
  go_ret
  exact ⟨rfl, hE⟩
theorem fork_calls (g : Nat) (p : Int × Int) (n : Int) (w : World) (hI : IsSum w g p n) : Calls Try.prog 25 #[.pointer (some ⟨g, 0, none⟩)] w fun e w' => e = .returned (.pointer (some ⟨w.heap.size, 0, none⟩)) ∧ Ext N0 w w' ∧ IsSum w' w.heap.size p n := by
  have c0 := (blkCell hI 0).trans rfl
  have c1 := (blkCell hI 1).trans rfl
  have c2 := (blkCell hI 2).trans rfl
  have c3 := (blkCell hI 3).trans rfl
  simp at c0 c1 c2 c3
  go_enter Try.func25, Try.ntmps25
  go_wp2
  go_ret
  exact ⟨rfl, (Ext.refl _ _).alloc _, blkNew _ _⟩
set_option maxHeartbeats 400000 in
theorem write_calls (g : Nat) (p : Int × Int) (n : Int) (A : Option Addr) (c : Nat) (xs : List Int) (w : World) (hI : IsSum w g p n) (ha : 0 ≤ p.1 ∧ p.1 < 65521) (hb : 0 ≤ p.2 ∧ p.2 < 65521)
    (hx : Bytes xs) (hr : Reads w A (ints .u8 xs)) (hA : 0 < xs.length → ∀ ad, A = some ad → ad.block ≠ g) (hn : 0 ≤ n ∧ n ≤ 1000000000) (hl : xs.length ≤ 1000000000) :
    Calls Try.prog 22 #[.pointer (some ⟨g, 0, none⟩), .slice A xs.length c] w fun e w' => e = .returned (.int .i64 xs.length) ∧ Ext (At g) w w' ∧ IsSum w' g (adl p xs) (n + xs.length) := by
  have c3 := (blkCell hI 3).trans rfl
  simp at c3
  have hh := Lib.hid (add_calls g 41 p.1 p.2 _ A c xs w ha hb hx hI hr hA)
  clear hI hr hA hx
  go_enter Try.func22, Try.ntmps22
  go_wp2_with (first | (go_at_call 31; refine (none_calls g true _ c3).mono ?_; rintro e w0 ⟨rfl, rfl⟩) | (go_at_call 27; refine hh.out.mono ?_; rintro e w1 ⟨rfl, hE, hB⟩; have c2 := (blkCell hB 2).trans rfl; have f2 := blkFrozen hB 2; simp at c2; have HB := Lib.hid hB; clear hB c3))
  go_ret
  exact ⟨rfl, hE.setCell (p := ⟨g, 2, none⟩) (.inl rfl) _, blkSet HB.out 2 _⟩

/-! Sums that nobody made. -/
theorem nobody_none (A : Option Addr) (n c : Nat) (w : World) : Calls Try.prog 22 #[.pointer none, .slice A n c] w fun e w' => e = .returned (.int .i64 0) ∧ w' = w := by
  go_enter Try.func22, Try.ntmps22
  go_wp2
  go_ret
  exact ⟨rfl, rfl⟩
end Go.Proofs.Ytnmdgkloehbkcaa
