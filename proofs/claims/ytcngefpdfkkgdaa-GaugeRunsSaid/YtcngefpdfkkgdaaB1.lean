/- Functions of package gauge and of Go's library that read, each proved for every value that its statement lets in (the conditions stand in the statements). -/
import Derived.Test.YtcngefpdfkkgdaaProg
import Derived.Test.YtcngefpdfkkgdaaRt
import Derived.WalkSpells
import Derived.Outline
import Derived.BigRegion
import Derived.BigQuiet
import Derived.Lib.SliceRun
namespace Go.Proofs.Ytcngefpdfkkgdaa
open Go.RowKit
theorem info3 : (Try.prog.info? 3).map (fun i => (i.zero, i.size, i.bytes)) = some (some (.int .i64 0), 1, 8) := by kernel_rfl
def iv (l : List Int) : List Value := l.map (Value.int .i64)
theorem iv_len (l : List Int) : (iv l).length = l.length := by simp [iv]
theorem iv_get {l : List Int} {j : Nat} {y : Int} (h : l[j]? = some y) : (iv l)[j]? = some (.int .i64 y) := by simp [iv, h]
theorem iv_one (l : List Int) : ∀ u ∈ iv l, u.oneCell' = true := by
  intro u hu
  unfold iv at hu
  rw [List.mem_map] at hu
  obtain ⟨k, _, rfl⟩ := hu
  rfl
theorem iv_app (l m : List Int) : iv (l ++ m) = iv l ++ iv m := by simp [iv]
theorem iv_set (l : List Int) (i : Nat) (y : Int) : (iv l).set i (.int .i64 y) = iv (l.set i y) := by simp [iv, List.map_set]
theorem own_is {a c n k : Nat} (h : (Value.slice (some ⟨a, 0, none⟩) n c).ownBlock = some k) : k = a := by
  have : a = k := by simpa [Value.ownBlock] using h
  exact this.symm
theorem extSet (w : World) (g i : Nat) (v : Value) : Ext (At g) w (w.setCell ⟨g, i, none⟩ v) := (Ext.refl (At g) w).setCell (p := ⟨g, i, none⟩) (.inl (show g = g from rfl)) v
set_option maxRecDepth 100000 in
theorem clone_calls (A : Option Addr) (n c : Nat) (xs : List Value) (w : World) (h : Reads w A xs) (hl : xs.length = n) (hn : n ≤ 100000) (h1 : ∀ u ∈ xs, u.oneCell' = true) :
    Calls Try.prog 31 #[.slice A n c] w fun e w' => ∃ A' c', e = .returned (.slice A' n c') ∧ w'.ownsRow w.heap.size 3 1 (.slice A' n c') n xs ∧ Ext N0 w w' := by
  rcases A with _ | ad
  · have h0 : xs = [] := h.isNil
    subst h0
    obtain rfl : n = 0 := by simpa using hl.symm
    clear h hl h1
    have qs := fun (W : World) => Lib.run_eql_slice_nil (P := Try.prog) W 22 3 none 0 c 0 0 Try.underlying22
    go_enter Try.func31, Try.ntmps31
    go_wp2
    go_ret
    exact ⟨none, 0, rfl, ownNil _ _ _ _, Ext.refl _ _⟩
  · have HR := Lib.hid h
    have HL := Lib.hid hl
    have H1 := Lib.hid h1
    clear h hl h1
    have qs := fun (W : World) => Lib.run_eql_slice_nil (P := Try.prog) W 22 3 (some ad) n c 0 0 Try.underlying22
    go_enter Try.func31, Try.ntmps31
    go_wp2_with (at_builtin; refine wpApp w.heap.size (.tmp 5) (.tmp 6) 22 3 (.int .i64 0) 1 8 rfl rfl Try.underlying22 info3 rfl (by decide) (by decide) (.slice (some ⟨w.heap.size, 0, none⟩) 0 0) 0 [] (some ad) n c xs rfl rfl (ownLitG w w.heap.size 3 1 #[] 0 rfl (by omega) (by decide) rfl) (by rw [HL.out]; omega) (HR.out.mono0 ((Ext.refl _ _).alloc _)) H1.out (by omega) (by simp) ?_; intro A3 c3 w3 ho3 hE3 _; have HO := Lib.hid ho3; have HE := Lib.hid (((Ext.refl N0 w).alloc _).trans hE3 (fun x hx => .inr (by have := own_is hx; omega))); clear ho3 hE3)
    go_ret
    exact ⟨A3, c3, rfl, by simpa using HO.out, HE.out⟩
/-- May bounds be? -/
def mayF : Int → List Int → Bool
  | _, [] => true
  | last, n :: l => if n ≤ last ∨ 1099511627776 < n then false else mayF n l
theorem mayF_cons (x y : Int) (l : List Int) : mayF x (y :: l) = if y ≤ x ∨ 1099511627776 < y then false else mayF y l := rfl
def mayB (l : List Int) : Bool := mayF (-1) l && decide (1 ≤ l.length ∧ l.length ≤ 64)
set_option maxRecDepth 100000 in
set_option maxHeartbeats 1000000 in
theorem may_calls (A : Option Addr) (c : Nat) (bs : List Int) (w : World) (h : Reads w A (iv bs)) :
    Calls Try.prog 30 #[.slice A bs.length c] w fun e w' => e = .returned (.bool (mayB bs)) ∧ w' = w := by
  have HR := Lib.hid h
  obtain ⟨n, hn⟩ : ∃ n, bs.length = n := ⟨_, rfl⟩
  obtain ⟨b, hb⟩ : ∃ b, mayB bs = b := ⟨_, rfl⟩
  have HN := Lib.hid hn
  have HB := Lib.hid hb
  have hnb : n ≤ 9223372036854775807 := by have := h.1; rw [iv_len, hn] at this; exact this
  rw [hn, hb]
  clear h hn hb
  go_enter Try.func30, Try.ntmps30
  go_wp2_with fail
  go_loopw [3, 8] (fun last i wr => ∃ (k : Nat) (x : Int), i = .int .i64 k ∧ last = .int .i64 x ∧ k ≤ n ∧ Hid (mayF x (bs.drop k) = mayF (-1) bs) ∧ wr = w) (fun _ i _ => n - (intOf i).toNat)
  case atStart => exact ⟨0, -1, rfl, rfl, by omega, Lib.hid rfl, rfl⟩
  case round =>
    obtain ⟨k, x, rfl, rfl, hk, HF, rfl⟩ := hrel
    by_cases hlt : k < n
    · have hlt' : (k : Int) < n := by omega
      obtain ⟨ad, rfl, hc⟩ := HR.out.2 (by rw [iv_len, HN.out]; omega)
      obtain ⟨y, hy⟩ : ∃ y, bs[k]? = some y := ⟨_, List.getElem?_eq_getElem (by rw [HN.out]; exact hlt)⟩
      have c0 := hc k _ (iv_get hy)
      have hdr : bs.drop k = y :: bs.drop (k + 1) := by
        rw [List.drop_eq_getElem_cons (by rw [HN.out]; exact hlt)]
        congr 1
        exact (List.getElem?_eq_some_iff.1 hy).2
      have hF := HF.out
      rw [hdr] at hF
      rw [mayF_cons] at hF
      clear hc hdr hy
      by_cases h1 : y ≤ x
      · rw [if_pos (.inl h1)] at hF
        have HB2 : Hid (b = false) := Lib.hid (by rw [← HB.out]; unfold mayB; rw [← hF]; rfl)
        clear hF HF
        go_wp2
        go_ret
        exact ⟨by rw [HB2.out]; rfl, rfl⟩
      · by_cases h2 : 1099511627776 < y
        · rw [if_pos (.inr h2)] at hF
          have HB2 : Hid (b = false) := Lib.hid (by rw [← HB.out]; unfold mayB; rw [← hF]; rfl)
          clear hF HF
          go_wp2
          go_ret
          exact ⟨by rw [HB2.out]; rfl, rfl⟩
        · rw [if_neg (by omega)] at hF
          have HF2 := Lib.hid hF
          clear hF HF
          go_wp2
          go_roundw
          case rel => exact ⟨k + 1, y, by go_num, rfl, by omega, HF2, trivial⟩
          case measure => simp only [intOf]; omega
    · have hlt' : ¬ (k : Int) < n := by omega
      obtain rfl : k = n := by omega
      have hF := HF.out
      rw [List.drop_of_length_le (by rw [HN.out]; omega)] at hF
      have hb2 : b = decide (1 ≤ k ∧ k ≤ 64) := by rw [← HB.out]; unfold mayB; rw [← hF, HN.out]; rfl
      by_cases h1 : 1 ≤ k
      · have h1' : (1 : Int) ≤ k := by omega
        by_cases h2 : k ≤ 64
        · have h2' : (k : Int) ≤ 64 := by omega
          rw [decide_eq_true ⟨h1, h2⟩] at hb2
          have HB2 := Lib.hid hb2
          clear hF HF hb2
          go_wp2
          go_ret
          exact ⟨by rw [HB2.out]; rfl, rfl⟩
        · have h2' : ¬ (k : Int) ≤ 64 := by omega
          rw [decide_eq_false (fun h => h2 h.2)] at hb2
          have HB2 := Lib.hid hb2
          clear hF HF hb2
          go_wp2
          go_ret
          exact ⟨by rw [HB2.out]; rfl, rfl⟩
      · have h1' : ¬ (1 : Int) ≤ k := by omega
        rw [decide_eq_false (fun h => h1 h.1)] at hb2
        have HB2 := Lib.hid hb2
        clear hF HF hb2
        go_wp2
        go_ret
        exact ⟨by rw [HB2.out]; rfl, rfl⟩
theorem nan57 (x : Int) (w : World) : Calls Try.prog 57 #[.int .i64 x] w fun e w' => e = .returned (.bool false) ∧ w' = w := by
  go_enter Try.func57, Try.ntmps57
  go_wp2
  go_ret
  exact ⟨rfl, rfl⟩
theorem nan51 (x : Int) (w : World) : Calls Try.prog 51 #[.int .i64 x] w fun e w' => e = .returned (.bool false) ∧ w' = w := by
  go_enter Try.func51, Try.ntmps51
  go_wp2
  go_ret
  exact ⟨rfl, rfl⟩
theorem less_yes (x y : Int) (w : World) (h : x < y) : Calls Try.prog 50 #[.int .i64 x, .int .i64 y] w fun e w' => e = .returned (.bool true) ∧ w' = w := by
  go_enter Try.func50, Try.ntmps50
  go_wp2_with (go_at_call 57; refine (nan57 _ _).mono ?_; rintro e w' ⟨rfl, hw⟩; subst hw)
  go_ret
  exact ⟨by simp [h], rfl⟩
theorem less_no (x y : Int) (w : World) (h : ¬ x < y) : Calls Try.prog 50 #[.int .i64 x, .int .i64 y] w fun e w' => e = .returned (.bool false) ∧ w' = w := by
  go_enter Try.func50, Try.ntmps50
  go_wp2_with (go_at_call 57; refine (nan57 _ _).mono ?_; rintro e w' ⟨rfl, hw⟩; subst hw)
  go_ret
  exact ⟨by simp [h], rfl⟩
set_option maxRecDepth 100000 in
set_option maxHeartbeats 1000000 in
theorem bs_calls (A : Option Addr) (c : Nat) (bs : List Int) (x : Int) (p : Nat) (w : World) (h : Reads w A (iv bs)) (hl : bs.length ≤ 64) (hp : p ≤ bs.length) (hlo : ∀ i y, i < p → bs[i]? = some y → y < x) (hhi : ∀ i y, p ≤ i → bs[i]? = some y → ¬ y < x) :
    Calls Try.prog 39 #[.slice A bs.length c, .int .i64 x] w fun e w' => ∃ b, e = .returned (.tuple #[.int .i64 p, .bool b]) ∧ w' = w := by
  have HR := Lib.hid h
  have HLo := Lib.hid hlo
  have HHi := Lib.hid hhi
  obtain ⟨n, hn⟩ : ∃ n, bs.length = n := ⟨_, rfl⟩
  have HN := Lib.hid hn
  rw [hn] at hl hp ⊢
  clear h hn hlo hhi
  go_enter Try.func39, Try.ntmps39
  go_wp2_with fail
  go_loopw [7, 8] (fun i j wr => ∃ (a b : Nat), i = .int .i64 a ∧ j = .int .i64 b ∧ a ≤ p ∧ p ≤ b ∧ b ≤ n ∧ wr = w) (fun i j _ => (intOf j).toNat - (intOf i).toNat)
  case atStart => exact ⟨0, n, rfl, rfl, by omega, hp, by omega, rfl⟩
  case round =>
    obtain ⟨a, b, rfl, rfl, ha, hb, hbn, rfl⟩ := hrel
    by_cases hlt : a < b
    · have hlt' : (a : Int) < b := by omega
      obtain ⟨m, hm⟩ : ∃ m, (a + b) / 2 = m := ⟨_, rfl⟩
      have hmn : m < n := by omega
      have hma : a ≤ m ∧ m < b := by omega
      obtain ⟨ad, rfl, hc⟩ := HR.out.2 (by rw [iv_len, HN.out]; omega)
      obtain ⟨y, hy⟩ : ∃ y, bs[m]? = some y := ⟨_, List.getElem?_eq_getElem (by rw [HN.out]; exact hmn)⟩
      have c0 := hc m _ (iv_get hy)
      clear hc
      by_cases hyx : y < x
      · have hpm : m < p := by
          rcases Nat.lt_or_ge m p with h' | h'
          · exact h'
          · have := HHi.out m y h' hy
            omega
        clear hy
        go_wp2_with (go_at_call 50; refine (less_yes _ _ _ hyx).mono ?_; rintro e w' ⟨rfl, hw⟩; subst hw)
        go_roundw
        case rel => exact ⟨m + 1, b, by congr 1; omega, rfl, by omega, hb, hbn, trivial⟩
        case measure => simp only [intOf]; omega
      · have hpm : p ≤ m := by
          rcases Nat.lt_or_ge m p with h' | h'
          · exact absurd (HLo.out m y h' hy) (by omega)
          · exact h'
        clear hy
        go_wp2_with (go_at_call 50; refine (less_no _ _ _ hyx).mono ?_; rintro e w' ⟨rfl, hw⟩; subst hw)
        go_roundw
        case rel => exact ⟨a, m, rfl, by congr 1; omega, ha, hpm, by omega, trivial⟩
        case measure => simp only [intOf]; omega
    · have hlt' : ¬ (a : Int) < b := by omega
      obtain rfl : a = b := by omega
      obtain rfl : a = p := by omega
      by_cases han : a < n
      · have han' : (a : Int) < n := by omega
        obtain ⟨ad, rfl, hc⟩ := HR.out.2 (by rw [iv_len, HN.out]; omega)
        obtain ⟨y, hy⟩ : ∃ y, bs[a]? = some y := ⟨_, List.getElem?_eq_getElem (by rw [HN.out]; exact han)⟩
        have c0 := hc a _ (iv_get hy)
        clear hc hy
        by_cases hyx : y = x
        · subst hyx
          go_wp2_with (go_at_call 51; refine (nan51 _ _).mono ?_; rintro e w' ⟨rfl, hw⟩; subst hw)
          refine bodyPost_ret (v := .tuple #[.int .i64 a, .bool true]) (by simp [results, Try.results39, go_sem]) rfl ⟨by simp, rfl⟩
        · go_wp2_with (go_at_call 51; refine (nan51 _ _).mono ?_; rintro e w' ⟨rfl, hw⟩; subst hw)
          refine bodyPost_ret (v := .tuple #[.int .i64 a, .bool false]) (by simp [results, Try.results39, go_sem, hyx]) rfl ⟨false, rfl, rfl⟩
      · have han' : ¬ (a : Int) < n := by omega
        go_wp2_with (go_at_call 51; refine (nan51 _ _).mono ?_; rintro e w' ⟨rfl, hw⟩; subst hw)
        refine bodyPost_ret (v := .tuple #[.int .i64 a, .bool false]) (by simp [results, Try.results39, go_sem]) rfl ⟨by simp, rfl⟩
set_option maxRecDepth 100000 in
set_option maxHeartbeats 1000000 in
theorem same_yes (L : List Int) (A B : Option Addr) (c d : Nat) (w : World) (hA : Reads w A (iv L)) (hB : Reads w B (iv L)) :
    Calls Try.prog 12 #[.slice A L.length c, .slice B L.length d] w fun e w' => e = .returned (.bool true) ∧ Ext N0 w w' := by
  have HA := Lib.hid hA
  have HB := Lib.hid hB
  have HE0 := Lib.hid (Ext.refl N0 w)
  obtain ⟨n, hn⟩ : ∃ n, L.length = n := ⟨_, rfl⟩
  have HN := Lib.hid hn
  have hnb : n ≤ 9223372036854775807 := by have := hA.1; rw [iv_len, hn] at this; exact this
  rw [hn]
  clear hA hB hn
  go_enter Try.func12, Try.ntmps12
  go_wp2_with fail
  go_loopw [5] (fun v wr => ∃ i : Nat, v = .int .i64 i ∧ i ≤ n ∧ Hid (Ext N0 w wr)) (fun v _ => n - (intOf v).toNat)
  case atStart => exact ⟨0, rfl, by omega, HE0⟩
  case round =>
    clear HE0
    obtain ⟨i, rfl, hi, HE⟩ := hrel
    by_cases hlt : i < n
    · have hlt' : (i : Int) < n := by omega
      obtain ⟨y, hy⟩ : ∃ y, L[i]? = some y := ⟨_, List.getElem?_eq_getElem (by rw [HN.out]; exact hlt)⟩
      have HD := Lib.hid (HE.out.drew)
      obtain ⟨a, rfl, ha⟩ := (HA.out.mono0 HD.out).2 (by rw [iv_len, HN.out]; omega)
      obtain ⟨b, rfl, hb⟩ := (HB.out.mono0 HD.out).2 (by rw [iv_len, HN.out]; omega)
      have a1 := ha i _ (iv_get hy)
      have b1 := hb i _ (iv_get hy)
      clear hy ha hb
      go_wp2_with fail
      go_region
      all_goals
        go_wp2
        go_roundw
        case rel => exact ⟨i + 1, by go_num, by omega, HD⟩
        case measure => simp only [intOf]; omega
    · have hlt' : ¬ (i : Int) < n := by omega
      go_wp2
      go_ret
      exact ⟨rfl, HE.out⟩
end Go.Proofs.Ytcngefpdfkkgdaa
