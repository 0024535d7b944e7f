/- Contracts of functions of the package and of its reference, each proved for every value that its statement lets in (the conditions stand in the statements). -/
import Derived.Test.YtnmdgkloehbkcaaB2
namespace Go.Proofs.Ytnmdgkloehbkcaa
open Go.RowKit

/-! The ones' sum. -/
theorem wrap_u16 (n : Int) : IntKind.u16.wrap n = n % 65536 := by simp [IntKind.wrap, IntKind.bits, IntKind.signed]
def fold16 (n : Int) : Int := if n > 65535 then n - 65535 else n
def on1 (p : Int × Bool) (c : Int) : Int × Bool := (fold16 (p.1 + if p.2 then c * 256 else c), !p.2)
def on1l (p : Int × Bool) (xs : List Int) : Int × Bool := xs.foldl on1 p
theorem fold16_bd (n : Int) (h0 : 0 ≤ n) (h1 : n ≤ 131070) : 0 ≤ fold16 n ∧ fold16 n ≤ 65535 := by unfold fold16; split <;> omega
theorem on1_bd (p : Int × Bool) (c : Int) (hp : 0 ≤ p.1 ∧ p.1 ≤ 65535) (hc : 0 ≤ c ∧ c ≤ 255) : 0 ≤ (on1 p c).1 ∧ (on1 p c).1 ≤ 65535 := by
  unfold on1
  simp only
  split <;> exact fold16_bd _ (by omega) (by omega)
theorem on1l_bd (p : Int × Bool) (xs : List Int) (hx : Bytes xs) (hp : 0 ≤ p.1 ∧ p.1 ≤ 65535) : 0 ≤ (on1l p xs).1 ∧ (on1l p xs).1 ≤ 65535 := by
  induction xs generalizing p with
  | nil => exact hp
  | cons x xs ih => exact ih (on1 p x) (fun y hy => hx y (List.mem_cons_of_mem _ hy)) (on1_bd p x hp (hx x (List.mem_cons_self ..)))
theorem on1l_take (p : Int × Bool) (xs : List Int) (k : Nat) (h : k < xs.length) : on1l p (xs.take (k + 1)) = on1 (on1l p (xs.take k)) (xs.getD k 0) := by
  unfold on1l
  rw [List.take_succ_eq_append_getElem h, List.foldl_append]
  simp [h]
theorem on1l_app (p : Int × Bool) (xs ys : List Int) : on1l p (xs ++ ys) = on1l (on1l p xs) ys := by unfold on1l; rw [List.foldl_append]
theorem fold_bits (n : Int) (h0 : 0 ≤ n) (h1 : n ≤ 131070) : (bits .and .u32 n 65535 + n / 65536) % 4294967296 = fold16 n := by
  rw [bits_and16 n h0 (by omega)]
  unfold fold16
  split <;> omega
theorem Bytes.cat {w : World} {ps : List (Option Addr × Nat × List Int)} (hp : ∀ p, p ∈ ps → PartOk w p) : Bytes (cat ps) := by
  intro x hx
  unfold Ytnmdgkloehbkcaa.cat at hx
  obtain ⟨p, hpm, hxm⟩ := List.mem_flatMap.1 hx
  exact (hp p hpm).2 x hxm

set_option maxHeartbeats 1000000 in
theorem ones_calls (A : Option Addr) (c : Nat) (ps : List (Option Addr × Nat × List Int)) (w : World) (hr : Reads w A (ps.map partV)) (hp : ∀ p, p ∈ ps → PartOk w p) :
    Calls Try.prog 16 #[.slice A ps.length c] w fun e w' => e = .returned (.int .u16 (on1l (0, true) (cat ps)).1) ∧ w' = w := by
  have hmax := hr.1
  rw [List.length_map] at hmax
  go_enter Try.func16, Try.ntmps16
  go_wp2
  go_loop [3, 4, 11] (fun a b i => ∃ (k : Nat) (p : Int × Bool), k ≤ ps.length ∧ i = .int .i64 k ∧ a = .int .u32 p.1 ∧ b = .bool p.2 ∧ Hid (p = on1l (0, true) (cat (ps.take k))) ∧ 0 ≤ p.1 ∧ p.1 ≤ 65535)
                 (fun _ _ i => ps.length - (intOf i).toNat)
  case atStart => exact ⟨0, (0, true), Nat.zero_le _, rfl, rfl, rfl, Lib.hid rfl, by decide, by decide⟩
  case round =>
    obtain ⟨k, p, hk, rfl, rfl, rfl, hpe, hp0, hp1⟩ := hrel
    by_cases hlt : k < ps.length
    · obtain ⟨⟨qA, qc, qx⟩, hq⟩ : ∃ q, ps[k]? = some q := ⟨_, List.getElem?_eq_getElem hlt⟩
      obtain ⟨ad, rfl, hc⟩ := hr.at k (by rw [List.length_map]; exact hlt)
      have hc' : w.cell? (ad.add k) = some (Value.slice qA qx.length qc) := hc k (partV (qA, qc, qx)) (by simp [hq])
      obtain ⟨hqr, hqb⟩ : Reads w qA (ints .u8 qx) ∧ Bytes qx := hp _ (List.mem_of_getElem? hq)
      have hq' := Lib.hid hq
      clear hc hr hp hq
      have hqm := hqr.1
      rw [ints_length] at hqm
      go_wp2
      go_loop [3, 4, 17] (fun a b i => ∃ (j : Nat) (p2 : Int × Bool), j ≤ qx.length ∧ i = .int .i64 j ∧ a = .int .u32 p2.1 ∧ b = .bool p2.2 ∧ Hid (p2 = on1l p (qx.take j)) ∧ 0 ≤ p2.1 ∧ p2.1 ≤ 65535)
                 (fun _ _ i => qx.length - (intOf i).toNat)
      case atStart => exact ⟨0, p, Nat.zero_le _, rfl, rfl, rfl, Lib.hid rfl, hp0, hp1⟩
      case round =>
        obtain ⟨j, ⟨n, b⟩, hj, rfl, rfl, rfl, hpe2, hq0, hq1⟩ := hrel
        simp only at hq0 hq1
        by_cases hlt2 : j < qx.length
        · obtain ⟨bd, rfl, hc⟩ := hqr.num j hlt2
          have hxk := hqb.at j hlt2
          clear hqr hqb
          obtain ⟨c, hcc⟩ : ∃ c, qx.getD j 0 = c := ⟨_, rfl⟩
          rw [hcc] at hc hxk
          have HC := Lib.hid hcc
          clear hcc
          have hon := on1_bd (n, b) c ⟨hq0, hq1⟩ hxk
          cases b with
          | true =>
            have hf := Lib.hid (fold_bits (n + c * 256) (by omega) (by omega))
            go_wp2
            go_round
            case rel => exact ⟨j + 1, on1 (n, true) c, by omega, by go_num, by unfold on1; simp only [if_true]; rw [← hf.out], rfl, Lib.hid (by rw [on1l_take _ _ _ hlt2, HC.out, ← hpe2.out]), hon.1, hon.2⟩
            case measure => simp [intOf]; omega
          | false =>
            have hf := Lib.hid (fold_bits (n + c) (by omega) (by omega))
            go_wp2
            go_round
            case rel => exact ⟨j + 1, on1 (n, false) c, by omega, by go_num, by unfold on1; simp only [Bool.false_eq_true, if_false]; rw [← hf.out], rfl, Lib.hid (by rw [on1l_take _ _ _ hlt2, HC.out, ← hpe2.out]), hon.1, hon.2⟩
            case measure => simp [intOf]; omega
        · obtain rfl : j = qx.length := by omega
          rw [List.take_length] at hpe2
          go_wp2
          go_round
          case rel => exact ⟨k + 1, (n, b), by omega, by go_num, rfl, rfl, Lib.hid (by rw [cat_take ps k _ hq'.out, on1l_app, ← hpe.out]; exact hpe2.out), hq0, hq1⟩
          case measure => simp [intOf]; omega
    · obtain rfl : k = ps.length := by omega
      rw [List.take_length] at hpe
      have hf := Lib.hid (fold_bits p.1 (by omega) (by omega))
      have hg : fold16 p.1 = p.1 := by unfold fold16; rw [if_neg (by omega)]
      have hg' := Lib.hid hg
      clear hg
      go_wp2
      go_ret
      exact ⟨retInt (by rw [hf.out, hg'.out, ← hpe.out, wrap_u16]; omega), rfl⟩

/-! The reference's. -/
def on2 : Int → List Int → Int
  | n, [] => n
  | n, [h] => fold16 (n + 256 * h)
  | n, h :: l :: t => on2 (fold16 (n + (256 * h + l))) t
theorem on2_one (n h : Int) : on2 n [h] = fold16 (n + 256 * h) := rfl
theorem on2_two (n h l : Int) (t : List Int) : on2 n (h :: l :: t) = on2 (fold16 (n + (256 * h + l))) t := rfl
theorem on2_bd : ∀ (xs : List Int) (n : Int), Bytes xs → 0 ≤ n ∧ n ≤ 65535 → 0 ≤ on2 n xs ∧ on2 n xs ≤ 65535
  | [], _, _, hn => hn
  | [h], n, hx, hn => by
    have := hx h (by simp)
    exact fold16_bd _ (by omega) (by omega)
  | h :: l :: t, n, hx, hn => by
    have := hx h (by simp)
    have := hx l (by simp)
    exact on2_bd t _ (fun y hy => hx y (by simp [hy])) (fold16_bd _ (by omega) (by omega))
theorem on2_on1 : ∀ (xs : List Int) (n : Int), Bytes xs → 0 ≤ n ∧ n ≤ 65535 → (on1l (n, true) xs).1 = on2 n xs
  | [], _, _, _ => rfl
  | [h], n, hx, hn => by
    unfold on1l on2
    simp only [List.foldl_cons, List.foldl_nil, on1, if_true]
    rw [Int.mul_comm]
  | h :: l :: t, n, hx, hn => by
    have h1 := hx h (by simp)
    have h2 := hx l (by simp)
    have e : on1 (on1 (n, true) h) l = (fold16 (n + (256 * h + l)), true) := by
      unfold on1
      simp only [if_true, Bool.not_true, Bool.false_eq_true, if_false, Bool.not_false, Prod.mk.injEq, and_true]
      unfold fold16
      split <;> split <;> split <;> omega
    have := on2_on1 t (fold16 (n + (256 * h + l))) (fun y hy => hx y (by simp [hy])) (fold16_bd _ (by omega) (by omega))
    rw [← e] at this
    exact this
theorem drop_two (xs : List Int) (i : Nat) (h : i + 1 < xs.length) : xs.drop i = xs.getD i 0 :: xs.getD (i + 1) 0 :: xs.drop (i + 2) := by
  rw [List.drop_eq_getElem_cons (by omega), List.drop_eq_getElem_cons (by omega)]
  simp [h, show i < xs.length by omega]
theorem drop_one (xs : List Int) (i : Nat) (h : i + 1 = xs.length) : xs.drop i = [xs.getD i 0] := by
  rw [List.drop_eq_getElem_cons (by omega), List.drop_eq_nil_of_le (by omega)]
  simp [show i < xs.length by omega]

set_option maxHeartbeats 1000000 in
theorem rones_calls (A : Option Addr) (c : Nat) (xs : List Int) (w : World) (hr : Reads w A (ints .u8 xs)) (hx : Bytes xs) (hn : xs.length ≤ 140737488355328) :
    Calls Try.prog 17 #[.slice A xs.length c] w fun e w' => e = .returned (.int .u16 (on2 0 xs)) ∧ w' = w := by
  have hbd := on2_bd xs 0 hx (by decide)
  go_enter Try.func17, Try.ntmps17
  go_wp2
  go_loop [3, 4] (fun a i => ∃ (k : Nat) (n : Int), k ≤ xs.length + 1 ∧ i = .int .i64 k ∧ a = .int .i64 n ∧ Hid (on2 0 xs = on2 n (xs.drop k)) ∧ 0 ≤ n ∧ n ≤ 65535)
                 (fun _ i => xs.length - (intOf i).toNat)
  case atStart => exact ⟨0, 0, by omega, rfl, rfl, Lib.hid rfl, by decide, by decide⟩
  case round =>
    obtain ⟨k, n, hk, rfl, rfl, hpe, hp0, hp1⟩ := hrel
    by_cases hlt : k < xs.length
    · obtain ⟨ad, rfl, hc⟩ := hr.num k hlt
      have hxk := hx.at k hlt
      by_cases hlt2 : k + 1 < xs.length
      · obtain ⟨ad', e', hc2⟩ := hr.num (k + 1) hlt2
        cases e'
        have hxk2 := hx.at (k + 1) hlt2
        rw [drop_two xs k hlt2, on2_two] at hpe
        rw [addSucc] at hc2
        clear hr hx
        obtain ⟨c, hcc⟩ : ∃ c, xs.getD k 0 = c := ⟨_, rfl⟩
        obtain ⟨d, hdd⟩ : ∃ c, xs.getD (k + 1) 0 = c := ⟨_, rfl⟩
        rw [hcc] at hc hxk hpe
        rw [hdd] at hc2 hxk2 hpe
        clear hcc hdd
        by_cases hf : n + (256 * c + d) > 65535
        · have hff : fold16 (n + (256 * c + d)) = n + (256 * c + d) - 65535 := if_pos hf
          rw [hff] at hpe
          clear hff
          go_wp2
          go_round
          case rel => exact ⟨k + 2, n + (256 * c + d) - 65535, by omega, by go_num, rfl, hpe, by omega, by omega⟩
          case measure => simp [intOf]; omega
        · have hff : fold16 (n + (256 * c + d)) = n + (256 * c + d) := if_neg hf
          rw [hff] at hpe
          clear hff
          go_wp2
          go_round
          case rel => exact ⟨k + 2, n + (256 * c + d), by omega, by go_num, rfl, hpe, by omega, by omega⟩
          case measure => simp [intOf]; omega
      · rw [drop_one xs k (by omega), on2_one] at hpe
        clear hr hx
        obtain ⟨c, hcc⟩ : ∃ c, xs.getD k 0 = c := ⟨_, rfl⟩
        rw [hcc] at hc hxk hpe
        clear hcc
        by_cases hf : n + 256 * c > 65535
        · have hff : fold16 (n + 256 * c) = n + 256 * c - 65535 := if_pos hf
          rw [hff] at hpe
          clear hff
          go_wp2
          go_round
          case rel => exact ⟨k + 2, n + 256 * c - 65535, by omega, by go_num, rfl, by rw [List.drop_eq_nil_of_le (by omega)]; exact hpe, by omega, by omega⟩
          case measure => simp [intOf]; omega
        · have hff : fold16 (n + 256 * c) = n + 256 * c := if_neg hf
          rw [hff] at hpe
          clear hff
          go_wp2
          go_round
          case rel => exact ⟨k + 2, n + 256 * c, by omega, by go_num, rfl, by rw [List.drop_eq_nil_of_le (by omega)]; exact hpe, by omega, by omega⟩
          case measure => simp [intOf]; omega
    · rw [List.drop_eq_nil_of_le (by omega)] at hpe
      have hpe' : on2 0 xs = n := hpe.out
      have H := Lib.hid hpe'
      clear hpe hpe'
      go_wp2
      go_ret
      exact ⟨retInt H.out.symm, rfl⟩
end Go.Proofs.Ytnmdgkloehbkcaa
