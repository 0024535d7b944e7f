/- Gauges at keys of one type: none, of, and what is told of a key, each proved for every value that its statement lets in (the conditions stand in the statements). -/
import Derived.Test.YtcngefpdfkkgdaaGt
import Derived.StringKeys
namespace Go.Proofs.Ytcngefpdfkkgdaa
open Go.RowKit Go.Maps
theorem lawS : Keyed Try.prog 9 := string_keyed Try.underlying9
theorem zeroS (w : World) : (zeroValue 79).run Try.prog w = .ok (poV none) w := by kernel_rfl
theorem infoS : (Try.prog.info? 9).map (fun i => (i.zero, i.size, i.bytes)) = some (some (.string ⟨#[]⟩), 1, 16) := by kernel_rfl
theorem injS : ∀ a b : ByteArray, (fun s : ByteArray => Lit.string s.data.toList) a = (fun s : ByteArray => Lit.string s.data.toList) b → a = b := fun a b h => by injection h with h; exact ByteArray.ext (Array.toList_inj.1 h)
theorem tysS : Tys 53 9 := ⟨by decide, by decide, by decide, by decide⟩
abbrev IsGS (base : Nat) (w : World) (g : Nat) (G : Ga ByteArray) (u : Nat) (F : Nat → Prop) : Prop := IsG 53 9 Value.string (fun s : ByteArray => Lit.string s.data.toList) base w g G u F
theorem none_callsS (g mb : Nat) (w : World) (h : w.cell? ⟨g, 1, none⟩ = some (.map (some mb))) : Calls Try.prog 38 #[.pointer (some ⟨g, 0, none⟩)] w fun e w' => e = .returned (.bool false) ∧ w = w' := by
  have qm := fun (w : World) (r : Option Nat) => run_eql_map_nil (P := Try.prog) w 51 9 79 r Try.underlying51
  go_enter Try.func38, Try.ntmps38
  go_wp2
  go_ret
  exact ⟨rfl, rfl⟩
set_option maxRecDepth 100000 in
set_option maxHeartbeats 1000000 in
theorem of_goS {base g u mb gb cb ck : Nat} {G : Ga ByteArray} {Ak : Option Addr} {bl gc cc : ByteArray → Nat} {φ : Lit → Option (Option Nat)} (k : ByteArray) (w : World) (ho : IsGo 53 9 Value.string (fun s : ByteArray => Lit.string s.data.toList) base w g G mb gb cb Ak ck bl gc cc φ u) (hkey : keyOf Try.prog 9 (.string k) = some (.string k.data.toList)) (hk : k ∈ G.ks) :
    Calls Try.prog 40 #[.pointer (some ⟨g, 0, none⟩), .string k] w fun e w' => e = .returned (.agg #[.slice (some ⟨gc k, 0, none⟩) (G.bs.length + 1) (cc k), .int .i64 (mostL (G.f k)), .int .i64 (G.f k).sum, .int .i64 (G.f k).length]) ∧ Ext N0 w w' := by
  have hE : Ext N0 w (w.alloc (.cells #[.slice none 0 0, .int .i64 0, .int .i64 0, .int .i64 0] 82)) := (Ext.refl _ _).alloc _
  have h1 := ho.kept0 hE
  have c1 : (w.alloc (.cells #[.slice none 0 0, .int .i64 0, .int .i64 0, .int .i64 0] 82)).cell? ⟨g, 1, none⟩ = some (.map (some mb)) := (blkCell h1.blk 1).trans rfl
  have hlk := h1.mp.look (a0 := none) poT lawS Try.underlying51 (zeroS _) hkey
  have hfi := ho.fi k
  rw [if_pos hk] at hfi
  have hlk' : (Instr.lookup 51 (.map (some mb)) (.string k) true).run Try.prog (w.alloc (.cells #[.slice none 0 0, .int .i64 0, .int .i64 0, .int .i64 0] 82)) = .ok (.tuple #[.pointer (some ⟨bl k, 0, none⟩), .bool true]) (w.alloc (.cells #[.slice none 0 0, .int .i64 0, .int .i64 0, .int .i64 0] 82)) := by
    rw [show φ (.string k.data.toList) = _ from hfi] at hlk
    exact hlk
  have hb := h1.nb k hk
  obtain ⟨M, hM⟩ : ∃ M, mostL (G.f k) = M := ⟨_, rfl⟩
  obtain ⟨S, hS⟩ : ∃ S, (G.f k).sum = S := ⟨_, rfl⟩
  obtain ⟨N, hN⟩ : ∃ N, (G.f k).length = N := ⟨_, rfl⟩
  obtain ⟨n, hn⟩ : ∃ n, G.bs.length + 1 = n := ⟨_, rfl⟩
  unfold nC at hb
  rw [hM, hS, hN, hn] at hb
  rw [hM, hS, hN, hn]
  have b0 := (blkCell hb 0).trans rfl
  have b1 := (blkCell hb 1).trans rfl
  have b2 := (blkCell hb 2).trans rfl
  have b3 := (blkCell hb 3).trans rfl
  obtain ⟨bk, hbk⟩ : ∃ bk, bl k = bk := ⟨_, rfl⟩
  obtain ⟨gk, hgk⟩ : ∃ gk, gc k = gk := ⟨_, rfl⟩
  obtain ⟨ckk, hck⟩ : ∃ ckk, cc k = ckk := ⟨_, rfl⟩
  rw [hgk, hck] at b0 ⊢
  rw [hbk] at hlk' b0 b1 b2 b3
  clear ho h1 hlk hfi hb hM hS hN hn hbk hgk hck hE hk
  go_enter Try.func40, Try.ntmps40
  go_wp2_with (go_at_call 38; refine (none_callsS g mb _ c1).mono ?_; rintro e w' ⟨rfl, rfl⟩)
  refine bodyPost_ret (v := .agg #[.slice (some ⟨gk, 0, none⟩) n ckk, .int .i64 M, .int .i64 S, .int .i64 N]) (by simp [results, Try.results40, go_sem]) rfl ⟨rfl, (Ext.refl _ _).alloc _⟩
theorem of_inS (base g u : Nat) (G : Ga ByteArray) (k : ByteArray) (F : Nat → Prop) (w : World) (h : IsGS base w g G u F) (hkey : keyOf Try.prog 9 (.string k) = some (.string k.data.toList)) (hk : k ∈ G.ks) :
    Calls Try.prog 40 #[.pointer (some ⟨g, 0, none⟩), .string k] w fun e w' => ∃ a c, e = .returned (.agg #[.slice (some ⟨a, 0, none⟩) (G.bs.length + 1) c, .int .i64 (mostL (G.f k)), .int .i64 (G.f k).sum, .int .i64 (G.f k).length]) ∧ w.ownsRow base 3 1 (.slice (some ⟨a, 0, none⟩) (G.bs.length + 1) c) (G.bs.length + 1) (iv (cnt G.bs (G.f k))) ∧ F a ∧ Ext N0 w w' := by
  obtain ⟨mb, gb, cb, Ak, ck, bl, gc, cc, φ, ho, hF⟩ := h
  refine (of_goS k w ho hkey hk).mono ?_
  rintro e w' ⟨rfl, hE⟩
  exact ⟨gc k, cc k, rfl, ho.no k hk, hF (gc k) (.inr (.inr (.inr (.inr ⟨k, hk, .inr rfl⟩)))), hE⟩
theorem of_outS (base g u : Nat) (G : Ga ByteArray) (k : ByteArray) (F : Nat → Prop) (w : World) (h : IsGS base w g G u F) (hkey : keyOf Try.prog 9 (.string k) = some (.string k.data.toList)) (hk : k ∉ G.ks) :
    Calls Try.prog 40 #[.pointer (some ⟨g, 0, none⟩), .string k] w fun e w' => e = .returned (.agg #[.slice none 0 0, .int .i64 0, .int .i64 0, .int .i64 0]) ∧ Ext N0 w w' := by
  obtain ⟨mb, gb, cb, Ak, ck, bl, gc, cc, φ, ho, hF⟩ := h
  have hE : Ext N0 w (w.alloc (.cells #[.slice none 0 0, .int .i64 0, .int .i64 0, .int .i64 0] 82)) := (Ext.refl _ _).alloc _
  have h1 := ho.kept0 hE
  have c1 : (w.alloc (.cells #[.slice none 0 0, .int .i64 0, .int .i64 0, .int .i64 0] 82)).cell? ⟨g, 1, none⟩ = some (.map (some mb)) := (blkCell h1.blk 1).trans rfl
  have hlk := h1.mp.look (a0 := none) poT lawS Try.underlying51 (zeroS _) hkey
  have hfi := ho.fi k
  rw [if_neg hk] at hfi
  have hlk' : (Instr.lookup 51 (.map (some mb)) (.string k) true).run Try.prog (w.alloc (.cells #[.slice none 0 0, .int .i64 0, .int .i64 0, .int .i64 0] 82)) = .ok (.tuple #[.pointer none, .bool false]) (w.alloc (.cells #[.slice none 0 0, .int .i64 0, .int .i64 0, .int .i64 0] 82)) := by
    rw [show φ (.string k.data.toList) = _ from hfi] at hlk
    exact hlk
  clear ho h1 hlk hfi hF hE hk
  go_enter Try.func40, Try.ntmps40
  go_wp2_with (go_at_call 38; refine (none_callsS g mb _ c1).mono ?_; rintro e w' ⟨rfl, rfl⟩)
  refine bodyPost_ret (v := .agg #[.slice none 0 0, .int .i64 0, .int .i64 0, .int .i64 0]) (by simp [results, Try.results40, go_sem]) rfl ⟨rfl, (Ext.refl _ _).alloc _⟩
theorem fld0S (A : Option Addr) (n c : Nat) (x y z : Int) (W : World) : (Instr.field 82 (.agg #[.slice A n c, .int .i64 x, .int .i64 y, .int .i64 z]) 0).run Try.prog W = .ok (.slice A n c) W := by kernel_rfl
theorem fld1S (A : Option Addr) (n c : Nat) (x y z : Int) (W : World) : (Instr.field 82 (.agg #[.slice A n c, .int .i64 x, .int .i64 y, .int .i64 z]) 1).run Try.prog W = .ok (.int .i64 x) W := by kernel_rfl
theorem fld2S (A : Option Addr) (n c : Nat) (x y z : Int) (W : World) : (Instr.field 82 (.agg #[.slice A n c, .int .i64 x, .int .i64 y, .int .i64 z]) 2).run Try.prog W = .ok (.int .i64 y) W := by kernel_rfl
theorem fld3S (A : Option Addr) (n c : Nat) (x y z : Int) (W : World) : (Instr.field 82 (.agg #[.slice A n c, .int .i64 x, .int .i64 y, .int .i64 z]) 3).run Try.prog W = .ok (.int .i64 z) W := by kernel_rfl
theorem counts_inS (base g u : Nat) (G : Ga ByteArray) (k : ByteArray) (F : Nat → Prop) (w : World) (h : IsGS base w g G u F) (hl : G.bs.length ≤ 64) (hkey : keyOf Try.prog 9 (.string k) = some (.string k.data.toList)) (hk : k ∈ G.ks) :
    Calls Try.prog 13 #[.pointer (some ⟨g, 0, none⟩), .string k] w fun e w' => ∃ A c, e = .returned (.slice A (G.bs.length + 1) c) ∧ w'.ownsRow w.heap.size 3 1 (.slice A (G.bs.length + 1) c) (G.bs.length + 1) (iv (cnt G.bs (G.f k))) ∧ Ext N0 w w' := by
  have HO := Lib.hid (of_inS base g u G k F w h hkey hk)
  have q := fld0S
  clear h hkey hk
  go_enter Try.func13, Try.ntmps13
  go_wp2_with (first
    | (go_at_call 40; refine HO.out.mono ?_; rintro e w1 ⟨a, c, rfl, hr, _, hE⟩; have HR := Lib.hid (ownReads1 (ownKept0 hr hE)); have HE := Lib.hid hE; clear hr hE)
    | (go_at_call 31; refine (clone_calls _ _ _ _ _ HR.out (by rw [iv_len, cnt_len]) (by omega) (iv_one _)).mono ?_; rintro e w2 ⟨A2, c2, rfl, ho2, hE2⟩; have HO2 := Lib.hid (And.intro (ownLe ho2 HE.out.size) (HE.out.then0 hE2)); clear ho2 hE2))
  go_ret
  exact ⟨A2, c2, rfl, HO2.out.1, HO2.out.2⟩
theorem counts_outS (base g u : Nat) (G : Ga ByteArray) (k : ByteArray) (F : Nat → Prop) (w : World) (h : IsGS base w g G u F) (hkey : keyOf Try.prog 9 (.string k) = some (.string k.data.toList)) (hk : k ∉ G.ks) :
    Calls Try.prog 13 #[.pointer (some ⟨g, 0, none⟩), .string k] w fun e w' => ∃ A c, e = .returned (.slice A 0 c) ∧ Ext N0 w w' := by
  have HO := Lib.hid (of_outS base g u G k F w h hkey hk)
  have q := fld0S
  clear h hkey hk
  go_enter Try.func13, Try.ntmps13
  go_wp2_with (first
    | (go_at_call 40; refine HO.out.mono ?_; rintro e w1 ⟨rfl, hE⟩; have HE := Lib.hid hE; clear hE)
    | (go_at_call 31; refine (clone_calls none 0 0 [] _ (ownReads1 (ownNil _ 0 3 1)) rfl (by omega) (by simp)).mono ?_; rintro e w2 ⟨A2, c2, rfl, ho2, hE2⟩; have HO2 := Lib.hid (HE.out.then0 hE2); clear ho2 hE2))
  go_ret
  exact ⟨A2, c2, rfl, HO2.out⟩
theorem most_inS (base g u : Nat) (G : Ga ByteArray) (k : ByteArray) (F : Nat → Prop) (w : World) (h : IsGS base w g G u F) (hkey : keyOf Try.prog 9 (.string k) = some (.string k.data.toList)) (hk : k ∈ G.ks) :
    Calls Try.prog 15 #[.pointer (some ⟨g, 0, none⟩), .string k] w fun e w' => e = .returned (.int .i64 (mostL (G.f k))) ∧ Ext N0 w w' := by
  have HO := Lib.hid (of_inS base g u G k F w h hkey hk)
  have q := fld1S
  clear h hkey hk
  go_enter Try.func15, Try.ntmps15
  go_wp2_with (go_at_call 40; refine HO.out.mono ?_; rintro e w1 ⟨a, c, rfl, _, _, hE⟩; have HE := Lib.hid hE; clear hE)
  go_ret
  exact ⟨rfl, HE.out⟩
theorem sum_inS (base g u : Nat) (G : Ga ByteArray) (k : ByteArray) (F : Nat → Prop) (w : World) (h : IsGS base w g G u F) (hkey : keyOf Try.prog 9 (.string k) = some (.string k.data.toList)) (hk : k ∈ G.ks) :
    Calls Try.prog 16 #[.pointer (some ⟨g, 0, none⟩), .string k] w fun e w' => e = .returned (.int .i64 ((G.f k).sum)) ∧ Ext N0 w w' := by
  have HO := Lib.hid (of_inS base g u G k F w h hkey hk)
  have q := fld2S
  clear h hkey hk
  go_enter Try.func16, Try.ntmps16
  go_wp2_with (go_at_call 40; refine HO.out.mono ?_; rintro e w1 ⟨a, c, rfl, _, _, hE⟩; have HE := Lib.hid hE; clear hE)
  go_ret
  exact ⟨rfl, HE.out⟩
theorem noted_inS (base g u : Nat) (G : Ga ByteArray) (k : ByteArray) (F : Nat → Prop) (w : World) (h : IsGS base w g G u F) (hkey : keyOf Try.prog 9 (.string k) = some (.string k.data.toList)) (hk : k ∈ G.ks) :
    Calls Try.prog 17 #[.pointer (some ⟨g, 0, none⟩), .string k] w fun e w' => e = .returned (.int .i64 ((G.f k).length)) ∧ Ext N0 w w' := by
  have HO := Lib.hid (of_inS base g u G k F w h hkey hk)
  have q := fld3S
  clear h hkey hk
  go_enter Try.func17, Try.ntmps17
  go_wp2_with (go_at_call 40; refine HO.out.mono ?_; rintro e w1 ⟨a, c, rfl, _, _, hE⟩; have HE := Lib.hid hE; clear hE)
  go_ret
  exact ⟨rfl, HE.out⟩
end Go.Proofs.Ytcngefpdfkkgdaa
