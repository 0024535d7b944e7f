/- The walk of the law SceneFlows: called with any values that fit its parameters, it returns true and nothing that was in memory before has changed. No other condition. -/
import Derived.Test.YtfaljgaeeholoaaC4
namespace Go.Proofs.Ytfaljgaeeholoaa
open Go.RowKit
namespace sceneFlows
set_option maxRecDepth 100000 in
set_option maxHeartbeats 2000000 in
theorem walk (a0 a1 a2 a3 : Int) (w : World) (_w0 : (Lit.int .u64 a0).wf = true) (_w1 : (Lit.int .i64 a1).wf = true) (_w2 : (Lit.int .i64 a2).wf = true) (_w3 : (Lit.int .i64 a3).wf = true) :
    Calls Try.prog 4 #[.int .u64 a0, .int .i64 a1, .int .i64 a2, .int .i64 a3] w fun e w' => e = .returned (.bool true) ∧ Below w.heap.size w w' := by
  obtain ⟨L1, r1, l1, p1, q1⟩ := incast_both a1 a2 a3
  obtain ⟨L2, r2, l2, p2, q2⟩ := all_both a1 a3
  obtain ⟨L3, r3, l3, p3, q3⟩ := ring_both a0 a1 a3
  obtain ⟨L4, r4, l4, p4, q4⟩ := rand_both a0 a1 a2 a3
  have P1 := Lib.hid p1
  have P2 := Lib.hid p2
  have P3 := Lib.hid p3
  have P4 := Lib.hid p4
  have Q1 := Lib.hid q1
  have Q2 := Lib.hid q2
  have Q3 := Lib.hid q3
  have Q4 := Lib.hid q4
  have LL := Lib.hid (And.intro l1 (And.intro l2 (And.intro l3 l4)))
  clear p1 p2 p3 p4 q1 q2 q3 q4 _w0 _w1 _w2 _w3 l1 l2 l3 l4
  go_enter Try.func4, Try.ntmps4
  go_wp2_with (first
    | (go_at_call 7; refine (P1.out _).mono ?_; rintro e v1 ⟨A1, c1, rfl, h1, e1⟩; have H1 := Lib.hid h1; have E1 := Lib.hid e1; clear h1 e1)
    | (go_at_call 8; refine (Q1.out _).mono ?_; rintro e v2 ⟨B1, d1, rfl, h1, e1⟩; have H2 := Lib.hid h1; have E2 := Lib.hid e1; clear h1 e1)
    | (go_at_call 9; refine (P2.out _).mono ?_; rintro e v3 ⟨A2, c2, rfl, h1, e1⟩; have H3 := Lib.hid h1; have E3 := Lib.hid e1; clear h1 e1)
    | (go_at_call 10; refine (Q2.out _).mono ?_; rintro e v4 ⟨B2, d2, rfl, h1, e1⟩; have H4 := Lib.hid h1; have E4 := Lib.hid e1; clear h1 e1)
    | (go_at_call 5; refine (P3.out _).mono ?_; rintro e v5 ⟨A3, c3, rfl, h1, e1⟩; have H5 := Lib.hid h1; have E5 := Lib.hid e1; clear h1 e1)
    | (go_at_call 11; refine (Q3.out _).mono ?_; rintro e v6 ⟨B3, d3, rfl, h1, e1⟩; have H6 := Lib.hid h1; have E6 := Lib.hid e1; clear h1 e1)
    | (go_at_call 12; refine (P4.out _).mono ?_; rintro e v7 ⟨A4, c4, rfl, h1, e1⟩; have H7 := Lib.hid h1; have E7 := Lib.hid e1; clear h1 e1)
    | (go_at_call 13; refine (Q4.out _).mono ?_; rintro e v8 ⟨B4, d4, rfl, h1, e1⟩; have H8 := Lib.hid h1; have E8 := Lib.hid e1; clear h1 e1)
    | (go_at_call 14; have hx := S3; clear hx; refine (same_calls _ _ A4 B4 c4 d4 L4 _ ((H7.out.kept0 E8.out).kept0 ((S1.out.then0 S2.out).then0 S3.out)) (H8.out.kept0 ((S1.out.then0 S2.out).then0 S3.out)) LL.out.2.2.2).mono ?_; rintro e u4 ⟨rfl, s⟩; have S4 := Lib.hid s; clear s)
    | (go_at_call 14; have hx := S2; clear hx; refine (same_calls _ _ A3 B3 c3 d3 L3 _ ((((H5.out.kept0 E6.out).kept0 E7.out).kept0 E8.out).kept0 (S1.out.then0 S2.out)) (((H6.out.kept0 E7.out).kept0 E8.out).kept0 (S1.out.then0 S2.out)) LL.out.2.2.1).mono ?_; rintro e u3 ⟨rfl, s⟩; have S3 := Lib.hid s; clear s)
    | (go_at_call 14; have hx := S1; clear hx; refine (same_calls _ _ A2 B2 c2 d2 L2 _ ((((((H3.out.kept0 E4.out).kept0 E5.out).kept0 E6.out).kept0 E7.out).kept0 E8.out).kept0 S1.out) (((((H4.out.kept0 E5.out).kept0 E6.out).kept0 E7.out).kept0 E8.out).kept0 S1.out) LL.out.2.1).mono ?_; rintro e u2 ⟨rfl, s⟩; have S2 := Lib.hid s; clear s)
    | (go_at_call 14; refine (same_calls _ _ A1 B1 c1 d1 L1 _ (((((((H1.out.kept0 E2.out).kept0 E3.out).kept0 E4.out).kept0 E5.out).kept0 E6.out).kept0 E7.out).kept0 E8.out) ((((((H2.out.kept0 E3.out).kept0 E4.out).kept0 E5.out).kept0 E6.out).kept0 E7.out).kept0 E8.out) LL.out.1).mono ?_; rintro e u1 ⟨rfl, s⟩; have S1 := Lib.hid s; clear s)
    | (go_at_call 6; refine (awake_calls _).mono ?_; rintro e u5 ⟨rfl, s⟩; have S5 := Lib.hid s; clear s))
  go_ret
  exact ⟨rfl, ((((((((((((E1.out.then0 E2.out).then0 E3.out).then0 E4.out).then0 E5.out).then0 E6.out).then0 E7.out).then0 E8.out).then0 S1.out).then0 S2.out).then0 S3.out).then0 S4.out).then0 S5.out).below⟩
end sceneFlows
end Go.Proofs.Ytfaljgaeeholoaa
