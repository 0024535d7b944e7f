/-
  No cell of these rows narrows 'for every input' (looked for: loops, veiled, ifaces, maps, wideKeys, modest, calm, conditions, laid).
  DERIVED. THE GIVEN ROWS OF THIS SEAT. 4 by the template 'for every input the law returns true; each argument reads behind the call as it read before'; 0 by the template 'total and deterministic' (their statements: YthjeaalnlagpbaaTotals.lean).
  GIVEN WITH THE SEED: the statements are not yours to turn. If you find one false, say at which input.
  Laid BY PROGRAM, IN A SANDBOX (cutbox-rows.mjs): the forced cells as the released guide's own fill.sh prints them over the translation 89139c6e6b8146f5… (all of the seat's roots in one cut). By AI agents, Wed Nov 11 2026. No macro, syntax, notation, axiom, sorry.
-/
import Derived.Test.YthjeaalnlagpbaaChecked
import GoSem.Claim
import GoSem.ClaimJoined
import GoSem.ClaimMapViews
import Derived.JoinedTies
import Derived.KernelRfl
namespace Go.Proofs.Ythjeaalnlagpbaa
/- THE CELL 'sum', in the pinned program and in every row, IS THE sha256 OF THE DUMP (.gsa) THAT YthjeaalnlagpbaaProg.lean LOADS. Nothing in Lean hashes anything: it is a label: what it is worth is what the hold of that sum in a sandbox is worth. -/
noncomputable def Try.pinned : Pinned := { name := "ythjeaalnlagpbaa", sum := "89139c6e6b8146f56a1c9182a57d2dcfe25b7d122d1512e9a77e99efd960198d", checked := Try.checked }
namespace Rows
def none {H : Type} : Left H := { results := [], args := [] }

/-- 'nozzlelaw35.MeterNever': WHATEVER THE INPUT: true; the input reads as it did. -/
def meterNeverSpec : ChangeSpec := { name := "meterNever", fn := fun _ => fun
  | [d1, d2, d3] => { results := [.lit (.bool true)], args := [d1, d2, d3] }
  | _ => none }
def meterNeverRow : OpenClaim := { program := "ythjeaalnlagpbaa", sum := "89139c6e6b8146f56a1c9182a57d2dcfe25b7d122d1512e9a77e99efd960198d", func := "nozzle/nozzlelaw35.MeterNever", spec := "meterNever", apart := false }
def MeterNeverSaid : Prop := meterNeverRow.holds Try.pinned (OpenSpec.ofChange meterNeverSpec)

/-- ITS FALSE NEIGHBOUR: 'it returns false'. Refute it at one input. -/
def meterNeverWrong : ChangeSpec := { name := "meterNever", fn := fun _ => fun
  | [d1, d2, d3] => { results := [.lit (.bool false)], args := [d1, d2, d3] }
  | _ => none }
def MeterNeverWrongFalsely : Prop := meterNeverRow.holds Try.pinned (OpenSpec.ofChange meterNeverWrong)

/-- 'nozzlelaw35.MeterWaits': WHATEVER THE INPUT: true; the input reads as it did. -/
def meterWaitsSpec : ChangeSpec := { name := "meterWaits", fn := fun _ => fun
  | [d1, d2, d3, d4] => { results := [.lit (.bool true)], args := [d1, d2, d3, d4] }
  | _ => none }
def meterWaitsRow : OpenClaim := { program := "ythjeaalnlagpbaa", sum := "89139c6e6b8146f56a1c9182a57d2dcfe25b7d122d1512e9a77e99efd960198d", func := "nozzle/nozzlelaw35.MeterWaits", spec := "meterWaits", apart := false }
def MeterWaitsSaid : Prop := meterWaitsRow.holds Try.pinned (OpenSpec.ofChange meterWaitsSpec)

/-- ITS FALSE NEIGHBOUR: 'it returns false'. Refute it at one input. -/
def meterWaitsWrong : ChangeSpec := { name := "meterWaits", fn := fun _ => fun
  | [d1, d2, d3, d4] => { results := [.lit (.bool false)], args := [d1, d2, d3, d4] }
  | _ => none }
def MeterWaitsWrongFalsely : Prop := meterWaitsRow.holds Try.pinned (OpenSpec.ofChange meterWaitsWrong)

/-- 'nozzlelaw35.MeterRuns': WHATEVER THE INPUT: true; the input reads as it did. -/
def meterRunsSpec : ChangeSpec := { name := "meterRuns", fn := fun _ => fun
  | [d1, d2, d3, d4] => { results := [.lit (.bool true)], args := [d1, d2, d3, d4] }
  | _ => none }
def meterRunsRow : OpenClaim := { program := "ythjeaalnlagpbaa", sum := "89139c6e6b8146f56a1c9182a57d2dcfe25b7d122d1512e9a77e99efd960198d", func := "nozzle/nozzlelaw35.MeterRuns", spec := "meterRuns", unfollowed := true, recurses := true, apart := false }
def MeterRunsSaid : Prop := meterRunsRow.holds Try.pinned (OpenSpec.ofChange meterRunsSpec)

/-- ITS FALSE NEIGHBOUR: 'it returns false'. Refute it at one input. -/
def meterRunsWrong : ChangeSpec := { name := "meterRuns", fn := fun _ => fun
  | [d1, d2, d3, d4] => { results := [.lit (.bool false)], args := [d1, d2, d3, d4] }
  | _ => none }
def MeterRunsWrongFalsely : Prop := meterRunsRow.holds Try.pinned (OpenSpec.ofChange meterRunsWrong)

/-- 'nozzlelaw35.MeterNobody': WHATEVER THE INPUT: true; the input reads as it did. -/
def meterNobodySpec : ChangeSpec := { name := "meterNobody", fn := fun _ => fun
  | [d1, d2] => { results := [.lit (.bool true)], args := [d1, d2] }
  | _ => none }
def meterNobodyRow : OpenClaim := { program := "ythjeaalnlagpbaa", sum := "89139c6e6b8146f56a1c9182a57d2dcfe25b7d122d1512e9a77e99efd960198d", func := "nozzle/nozzlelaw35.MeterNobody", spec := "meterNobody", unfollowed := true, recurses := true, apart := false }
def MeterNobodySaid : Prop := meterNobodyRow.holds Try.pinned (OpenSpec.ofChange meterNobodySpec)

/-- ITS FALSE NEIGHBOUR: 'it returns false'. Refute it at one input. -/
def meterNobodyWrong : ChangeSpec := { name := "meterNobody", fn := fun _ => fun
  | [d1, d2] => { results := [.lit (.bool false)], args := [d1, d2] }
  | _ => none }
def MeterNobodyWrongFalsely : Prop := meterNobodyRow.holds Try.pinned (OpenSpec.ofChange meterNobodyWrong)

/- THE SECOND FORM. 'bulk': how many values and letters a reading holds, each counted each time it is reached (what is shared counts as often as it is met; a slice's spare places count too). A statement '..UptoSaid' is the law's where the arguments, and the package variables that the reading takes, are together of bulk at most 1048576: NARROWER than '..Said'. Prove '..Said' where nothing that the law and all that it calls make is longer than what came in: it says more and counts as full. Else prove '..UptoSaid'. A law counts once. -/
mutual
def uptoBulk {H : Type} : DataW H → Nat
  | .lit (.string bytes) => bytes.length + 1
  | .lit _ => 1
  | .nil => 1
  | .ptr d => uptoBulk d + 1
  | .slice elems spare => uptoBulkAll elems + uptoBulkAll spare + 1
  | .agg parts => uptoBulkAll parts + 1
  | .iface _ d => uptoBulk d + 1
  | .map entries => uptoBulkEntries entries + 1
  | .held _ => 1
def uptoBulkAll {H : Type} : List (DataW H) → Nat
  | [] => 0
  | d :: r => uptoBulk d + uptoBulkAll r
def uptoBulkEntries {H : Type} : List (Lit × DataW H) → Nat
  | [] => 0
  | x :: r => uptoBulkEntry x + uptoBulkEntries r
def uptoBulkEntry {H : Type} : Lit × DataW H → Nat
  | (.string bytes, d) => bytes.length + uptoBulk d + 1
  | (_, d) => uptoBulk d + 1
 end
def uptoSmall : (H : Type) → List (DataW H) → Bool := fun _ ds => decide (uptoBulkAll ds ≤ 1048576)
def OpenSpec.upto (s : _root_.Go.ChangeSpec) : _root_.Go.OpenSpec := { _root_.Go.OpenSpec.ofChange s with cond := some uptoSmall }

/-- 'nozzlelaw35.MeterNever', WHERE WHAT IT READS IS OF BULK AT MOST 1048576: true; the input reads as it did. -/
def meterNeverUptoRow : OpenClaim := { program := "ythjeaalnlagpbaa", sum := "89139c6e6b8146f56a1c9182a57d2dcfe25b7d122d1512e9a77e99efd960198d", func := "nozzle/nozzlelaw35.MeterNever", spec := "meterNever", apart := false, narrowed := true }
def MeterNeverUptoSaid : Prop := meterNeverUptoRow.holds Try.pinned (OpenSpec.upto meterNeverSpec)

/-- 'nozzlelaw35.MeterWaits', WHERE WHAT IT READS IS OF BULK AT MOST 1048576: true; the input reads as it did. -/
def meterWaitsUptoRow : OpenClaim := { program := "ythjeaalnlagpbaa", sum := "89139c6e6b8146f56a1c9182a57d2dcfe25b7d122d1512e9a77e99efd960198d", func := "nozzle/nozzlelaw35.MeterWaits", spec := "meterWaits", apart := false, narrowed := true }
def MeterWaitsUptoSaid : Prop := meterWaitsUptoRow.holds Try.pinned (OpenSpec.upto meterWaitsSpec)

/-- 'nozzlelaw35.MeterRuns', WHERE WHAT IT READS IS OF BULK AT MOST 1048576: true; the input reads as it did. -/
def meterRunsUptoRow : OpenClaim := { program := "ythjeaalnlagpbaa", sum := "89139c6e6b8146f56a1c9182a57d2dcfe25b7d122d1512e9a77e99efd960198d", func := "nozzle/nozzlelaw35.MeterRuns", spec := "meterRuns", unfollowed := true, recurses := true, apart := false, narrowed := true }
def MeterRunsUptoSaid : Prop := meterRunsUptoRow.holds Try.pinned (OpenSpec.upto meterRunsSpec)

/-- 'nozzlelaw35.MeterNobody', WHERE WHAT IT READS IS OF BULK AT MOST 1048576: true; the input reads as it did. -/
def meterNobodyUptoRow : OpenClaim := { program := "ythjeaalnlagpbaa", sum := "89139c6e6b8146f56a1c9182a57d2dcfe25b7d122d1512e9a77e99efd960198d", func := "nozzle/nozzlelaw35.MeterNobody", spec := "meterNobody", unfollowed := true, recurses := true, apart := false, narrowed := true }
def MeterNobodyUptoSaid : Prop := meterNobodyUptoRow.holds Try.pinned (OpenSpec.upto meterNobodySpec)

end Rows
end Go.Proofs.Ythjeaalnlagpbaa
