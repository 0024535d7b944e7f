/-
  No cell of these rows narrows 'for every input' (looked for: loops, veiled, ifaces, maps, wideKeys, modest, calm, conditions, laid).
  DERIVED. THE GIVEN ROWS OF THIS SEAT. 3 by the template 'for every input the law returns true; each argument reads behind the call as it read before'; 0 by the template 'total and deterministic' (their statements: YtcngefpdfkkgdaaTotals.lean).
  GIVEN WITH THE SEED: the statements are not yours to turn. If you find one false, say at which input.
  Laid BY PROGRAM, IN A SANDBOX (cutbox-rows.mjs): the forced cells as the released guide's own fill.sh prints them over the translation 6fd8bc7ef5c0fd39… (all of the seat's roots in one cut). By AI agents, Wed Nov 11 2026. No macro, syntax, notation, axiom, sorry.
-/
import Derived.Test.YtcngefpdfkkgdaaChecked
import GoSem.Claim
import GoSem.ClaimJoined
import GoSem.ClaimMapViews
import Derived.JoinedTies
import Derived.KernelRfl
namespace Go.Proofs.Ytcngefpdfkkgdaa
/- THE CELL 'sum', in the pinned program and in every row, IS THE sha256 OF THE DUMP (.gsa) THAT YtcngefpdfkkgdaaProg.lean LOADS. Nothing in Lean hashes anything: it is a label: what it is worth is what the hold of that sum in a sandbox is worth. -/
noncomputable def Try.pinned : Pinned := { name := "ytcngefpdfkkgdaa", sum := "6fd8bc7ef5c0fd39bdd425f42103455e00fd34256e5f8391120b09855c1be367", checked := Try.checked }
namespace Rows
def none {H : Type} : Left H := { results := [], args := [] }

/-- 'nozzlelaw31.GaugeRuns': WHATEVER THE INPUT: true; the input reads as it did. -/
def gaugeRunsSpec : ChangeSpec := { name := "gaugeRuns", fn := fun _ => fun
  | [d1, d2, d3] => { results := [.lit (.bool true)], args := [d1, d2, d3] }
  | _ => none }
def gaugeRunsRow : OpenClaim := { program := "ytcngefpdfkkgdaa", sum := "6fd8bc7ef5c0fd39bdd425f42103455e00fd34256e5f8391120b09855c1be367", func := "nozzle/nozzlelaw31.GaugeRuns", spec := "gaugeRuns", unfollowed := true, recurses := true, apart := false }
def GaugeRunsSaid : Prop := gaugeRunsRow.holds Try.pinned (OpenSpec.ofChange gaugeRunsSpec)

/-- ITS FALSE NEIGHBOUR: 'it returns false'. Refute it at one input. -/
def gaugeRunsWrong : ChangeSpec := { name := "gaugeRuns", fn := fun _ => fun
  | [d1, d2, d3] => { results := [.lit (.bool false)], args := [d1, d2, d3] }
  | _ => none }
def GaugeRunsWrongFalsely : Prop := gaugeRunsRow.holds Try.pinned (OpenSpec.ofChange gaugeRunsWrong)

/-- 'nozzlelaw31.GaugeNobody': WHATEVER THE INPUT: true; the input reads as it did. -/
def gaugeNobodySpec : ChangeSpec := { name := "gaugeNobody", fn := fun _ => fun
  | [d1, d2] => { results := [.lit (.bool true)], args := [d1, d2] }
  | _ => none }
def gaugeNobodyRow : OpenClaim := { program := "ytcngefpdfkkgdaa", sum := "6fd8bc7ef5c0fd39bdd425f42103455e00fd34256e5f8391120b09855c1be367", func := "nozzle/nozzlelaw31.GaugeNobody", spec := "gaugeNobody", unfollowed := true, recurses := true, apart := false }
def GaugeNobodySaid : Prop := gaugeNobodyRow.holds Try.pinned (OpenSpec.ofChange gaugeNobodySpec)

/-- ITS FALSE NEIGHBOUR: 'it returns false'. Refute it at one input. -/
def gaugeNobodyWrong : ChangeSpec := { name := "gaugeNobody", fn := fun _ => fun
  | [d1, d2] => { results := [.lit (.bool false)], args := [d1, d2] }
  | _ => none }
def GaugeNobodyWrongFalsely : Prop := gaugeNobodyRow.holds Try.pinned (OpenSpec.ofChange gaugeNobodyWrong)

/-- 'nozzlelaw31.GaugeSums': WHATEVER THE INPUT: true; the input reads as it did. -/
def gaugeSumsSpec : ChangeSpec := { name := "gaugeSums", fn := fun _ => fun
  | [d1, d2, d3] => { results := [.lit (.bool true)], args := [d1, d2, d3] }
  | _ => none }
def gaugeSumsRow : OpenClaim := { program := "ytcngefpdfkkgdaa", sum := "6fd8bc7ef5c0fd39bdd425f42103455e00fd34256e5f8391120b09855c1be367", func := "nozzle/nozzlelaw31.GaugeSums", spec := "gaugeSums", unfollowed := true, recurses := true, apart := false }
def GaugeSumsSaid : Prop := gaugeSumsRow.holds Try.pinned (OpenSpec.ofChange gaugeSumsSpec)

/-- ITS FALSE NEIGHBOUR: 'it returns false'. Refute it at one input. -/
def gaugeSumsWrong : ChangeSpec := { name := "gaugeSums", fn := fun _ => fun
  | [d1, d2, d3] => { results := [.lit (.bool false)], args := [d1, d2, d3] }
  | _ => none }
def GaugeSumsWrongFalsely : Prop := gaugeSumsRow.holds Try.pinned (OpenSpec.ofChange gaugeSumsWrong)

/- THE SECOND FORM. 'bulk': how many values and letters a reading holds, each counted each time it is reached (what is shared counts as often as it is met; a slice's spare places count too). A statement '..UptoSaid' is the law's where the arguments, and the package variables that the reading takes, are together of bulk at most 1048576: NARROWER than '..Said'. Prove '..Said' where nothing that the law and all that it calls make is longer than what came in: it says more and counts as full. Else prove '..UptoSaid'. A law counts once. -/
mutual
def uptoBulk {H : Type} : DataW H → Nat
  | .lit (.string bytes) => bytes.length + 1
  | .lit _ => 1
  | .nil => 1
  | .ptr d => uptoBulk d + 1
  | .slice elems spare => uptoBulkAll elems + uptoBulkAll spare + 1
  | .agg parts => uptoBulkAll parts + 1
  | .iface _ d => uptoBulk d + 1
  | .map entries => uptoBulkEntries entries + 1
  | .held _ => 1
def uptoBulkAll {H : Type} : List (DataW H) → Nat
  | [] => 0
  | d :: r => uptoBulk d + uptoBulkAll r
def uptoBulkEntries {H : Type} : List (Lit × DataW H) → Nat
  | [] => 0
  | x :: r => uptoBulkEntry x + uptoBulkEntries r
def uptoBulkEntry {H : Type} : Lit × DataW H → Nat
  | (.string bytes, d) => bytes.length + uptoBulk d + 1
  | (_, d) => uptoBulk d + 1
 end
def uptoSmall : (H : Type) → List (DataW H) → Bool := fun _ ds => decide (uptoBulkAll ds ≤ 1048576)
def OpenSpec.upto (s : _root_.Go.ChangeSpec) : _root_.Go.OpenSpec := { _root_.Go.OpenSpec.ofChange s with cond := some uptoSmall }

/-- 'nozzlelaw31.GaugeRuns', WHERE WHAT IT READS IS OF BULK AT MOST 1048576: true; the input reads as it did. -/
def gaugeRunsUptoRow : OpenClaim := { program := "ytcngefpdfkkgdaa", sum := "6fd8bc7ef5c0fd39bdd425f42103455e00fd34256e5f8391120b09855c1be367", func := "nozzle/nozzlelaw31.GaugeRuns", spec := "gaugeRuns", unfollowed := true, recurses := true, apart := false, narrowed := true }
def GaugeRunsUptoSaid : Prop := gaugeRunsUptoRow.holds Try.pinned (OpenSpec.upto gaugeRunsSpec)

/-- 'nozzlelaw31.GaugeNobody', WHERE WHAT IT READS IS OF BULK AT MOST 1048576: true; the input reads as it did. -/
def gaugeNobodyUptoRow : OpenClaim := { program := "ytcngefpdfkkgdaa", sum := "6fd8bc7ef5c0fd39bdd425f42103455e00fd34256e5f8391120b09855c1be367", func := "nozzle/nozzlelaw31.GaugeNobody", spec := "gaugeNobody", unfollowed := true, recurses := true, apart := false, narrowed := true }
def GaugeNobodyUptoSaid : Prop := gaugeNobodyUptoRow.holds Try.pinned (OpenSpec.upto gaugeNobodySpec)

/-- 'nozzlelaw31.GaugeSums', WHERE WHAT IT READS IS OF BULK AT MOST 1048576: true; the input reads as it did. -/
def gaugeSumsUptoRow : OpenClaim := { program := "ytcngefpdfkkgdaa", sum := "6fd8bc7ef5c0fd39bdd425f42103455e00fd34256e5f8391120b09855c1be367", func := "nozzle/nozzlelaw31.GaugeSums", spec := "gaugeSums", unfollowed := true, recurses := true, apart := false, narrowed := true }
def GaugeSumsUptoSaid : Prop := gaugeSumsUptoRow.holds Try.pinned (OpenSpec.upto gaugeSumsSpec)

end Rows
end Go.Proofs.Ytcngefpdfkkgdaa
