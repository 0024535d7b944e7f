/-
  No cell of these rows narrows 'for every input' (looked for: loops, veiled, ifaces, maps, wideKeys, modest, calm, conditions, laid).
  DERIVED. THE GIVEN ROWS OF THIS SEAT. 6 by the template 'for every input the law returns true; each argument reads behind the call as it read before'; 0 by the template 'total and deterministic' (their statements: YtnmdgkloehbkcaaTotals.lean).
  GIVEN WITH THE SEED: the statements are not yours to turn. If you find one false, say at which input.
  Laid BY PROGRAM, IN A SANDBOX (cutbox-rows.mjs): the forced cells as the released guide's own fill.sh prints them over the translation 1dd94fa242a44bc4… (all of the seat's roots in one cut). By AI agents, Wed Nov 11 2026. No macro, syntax, notation, axiom, sorry.
-/
import Derived.Test.YtnmdgkloehbkcaaChecked
import GoSem.Claim
import GoSem.ClaimJoined
import GoSem.ClaimMapViews
import Derived.JoinedTies
import Derived.KernelRfl
namespace Go.Proofs.Ytnmdgkloehbkcaa
/- THE CELL 'sum', in the pinned program and in every row, IS THE sha256 OF THE DUMP (.gsa) THAT YtnmdgkloehbkcaaProg.lean LOADS. Nothing in Lean hashes anything: it is a label: what it is worth is what the hold of that sum in a sandbox is worth. -/
noncomputable def Try.pinned : Pinned := { name := "ytnmdgkloehbkcaa", sum := "1dd94fa242a44bc412c373bc2d9ca90938bb838fc9972ecac14b9b5fc05d79e2", checked := Try.checked }
namespace Rows
def none {H : Type} : Left H := { results := [], args := [] }

/-- 'nozzlelaw02.CheckTurned': WHATEVER THE INPUT: true; the input reads as it did. -/
def checkTurnedSpec : ChangeSpec := { name := "checkTurned", fn := fun _ => fun
  | [d1, d2, d3] => { results := [.lit (.bool true)], args := [d1, d2, d3] }
  | _ => none }
def checkTurnedRow : OpenClaim := { program := "ytnmdgkloehbkcaa", sum := "1dd94fa242a44bc412c373bc2d9ca90938bb838fc9972ecac14b9b5fc05d79e2", func := "nozzle/nozzlelaw02.CheckTurned", spec := "checkTurned", apart := false }
def CheckTurnedSaid : Prop := checkTurnedRow.holds Try.pinned (OpenSpec.ofChange checkTurnedSpec)

/-- ITS FALSE NEIGHBOUR: 'it returns false'. Refute it at one input. -/
def checkTurnedWrong : ChangeSpec := { name := "checkTurned", fn := fun _ => fun
  | [d1, d2, d3] => { results := [.lit (.bool false)], args := [d1, d2, d3] }
  | _ => none }
def CheckTurnedWrongFalsely : Prop := checkTurnedRow.holds Try.pinned (OpenSpec.ofChange checkTurnedWrong)

/-- 'nozzlelaw02.CheckSums': WHATEVER THE INPUT: true; the input reads as it did. -/
def checkSumsSpec : ChangeSpec := { name := "checkSums", fn := fun _ => fun
  | [d1, d2, d3] => { results := [.lit (.bool true)], args := [d1, d2, d3] }
  | _ => none }
def checkSumsRow : OpenClaim := { program := "ytnmdgkloehbkcaa", sum := "1dd94fa242a44bc412c373bc2d9ca90938bb838fc9972ecac14b9b5fc05d79e2", func := "nozzle/nozzlelaw02.CheckSums", spec := "checkSums", apart := false }
def CheckSumsSaid : Prop := checkSumsRow.holds Try.pinned (OpenSpec.ofChange checkSumsSpec)

/-- ITS FALSE NEIGHBOUR: 'it returns false'. Refute it at one input. -/
def checkSumsWrong : ChangeSpec := { name := "checkSums", fn := fun _ => fun
  | [d1, d2, d3] => { results := [.lit (.bool false)], args := [d1, d2, d3] }
  | _ => none }
def CheckSumsWrongFalsely : Prop := checkSumsRow.holds Try.pinned (OpenSpec.ofChange checkSumsWrong)

/-- 'nozzlelaw02.CheckSeals': WHATEVER THE INPUT: true; the input reads as it did. -/
def checkSealsSpec : ChangeSpec := { name := "checkSeals", fn := fun _ => fun
  | [d] => { results := [.lit (.bool true)], args := [d] }
  | _ => none }
def checkSealsRow : OpenClaim := { program := "ytnmdgkloehbkcaa", sum := "1dd94fa242a44bc412c373bc2d9ca90938bb838fc9972ecac14b9b5fc05d79e2", func := "nozzle/nozzlelaw02.CheckSeals", spec := "checkSeals", apart := false }
def CheckSealsSaid : Prop := checkSealsRow.holds Try.pinned (OpenSpec.ofChange checkSealsSpec)

/-- ITS FALSE NEIGHBOUR: 'it returns false'. Refute it at one input. -/
def checkSealsWrong : ChangeSpec := { name := "checkSeals", fn := fun _ => fun
  | [d] => { results := [.lit (.bool false)], args := [d] }
  | _ => none }
def CheckSealsWrongFalsely : Prop := checkSealsRow.holds Try.pinned (OpenSpec.ofChange checkSealsWrong)

/-- 'nozzlelaw02.CheckPairs': WHATEVER THE INPUT: true; the input reads as it did. -/
def checkPairsSpec : ChangeSpec := { name := "checkPairs", fn := fun _ => fun
  | [d1, d2, d3] => { results := [.lit (.bool true)], args := [d1, d2, d3] }
  | _ => none }
def checkPairsRow : OpenClaim := { program := "ytnmdgkloehbkcaa", sum := "1dd94fa242a44bc412c373bc2d9ca90938bb838fc9972ecac14b9b5fc05d79e2", func := "nozzle/nozzlelaw02.CheckPairs", spec := "checkPairs", apart := false }
def CheckPairsSaid : Prop := checkPairsRow.holds Try.pinned (OpenSpec.ofChange checkPairsSpec)

/-- ITS FALSE NEIGHBOUR: 'it returns false'. Refute it at one input. -/
def checkPairsWrong : ChangeSpec := { name := "checkPairs", fn := fun _ => fun
  | [d1, d2, d3] => { results := [.lit (.bool false)], args := [d1, d2, d3] }
  | _ => none }
def CheckPairsWrongFalsely : Prop := checkPairsRow.holds Try.pinned (OpenSpec.ofChange checkPairsWrong)

/-- 'nozzlelaw02.CheckNobody': WHATEVER THE INPUT: true; the input reads as it did. -/
def checkNobodySpec : ChangeSpec := { name := "checkNobody", fn := fun _ => fun
  | [d] => { results := [.lit (.bool true)], args := [d] }
  | _ => none }
def checkNobodyRow : OpenClaim := { program := "ytnmdgkloehbkcaa", sum := "1dd94fa242a44bc412c373bc2d9ca90938bb838fc9972ecac14b9b5fc05d79e2", func := "nozzle/nozzlelaw02.CheckNobody", spec := "checkNobody", apart := false }
def CheckNobodySaid : Prop := checkNobodyRow.holds Try.pinned (OpenSpec.ofChange checkNobodySpec)

/-- ITS FALSE NEIGHBOUR: 'it returns false'. Refute it at one input. -/
def checkNobodyWrong : ChangeSpec := { name := "checkNobody", fn := fun _ => fun
  | [d] => { results := [.lit (.bool false)], args := [d] }
  | _ => none }
def CheckNobodyWrongFalsely : Prop := checkNobodyRow.holds Try.pinned (OpenSpec.ofChange checkNobodyWrong)

/-- 'nozzlelaw02.CheckPieces': WHATEVER THE INPUT: true; the input reads as it did. -/
def checkPiecesSpec : ChangeSpec := { name := "checkPieces", fn := fun _ => fun
  | [d1, d2] => { results := [.lit (.bool true)], args := [d1, d2] }
  | _ => none }
def checkPiecesRow : OpenClaim := { program := "ytnmdgkloehbkcaa", sum := "1dd94fa242a44bc412c373bc2d9ca90938bb838fc9972ecac14b9b5fc05d79e2", func := "nozzle/nozzlelaw02.CheckPieces", spec := "checkPieces", apart := false }
def CheckPiecesSaid : Prop := checkPiecesRow.holds Try.pinned (OpenSpec.ofChange checkPiecesSpec)

/-- ITS FALSE NEIGHBOUR: 'it returns false'. Refute it at one input. -/
def checkPiecesWrong : ChangeSpec := { name := "checkPieces", fn := fun _ => fun
  | [d1, d2] => { results := [.lit (.bool false)], args := [d1, d2] }
  | _ => none }
def CheckPiecesWrongFalsely : Prop := checkPiecesRow.holds Try.pinned (OpenSpec.ofChange checkPiecesWrong)

/- THE SECOND FORM. 'bulk': how many values and letters a reading holds, each counted each time it is reached (what is shared counts as often as it is met; a slice's spare places count too). A statement '..UptoSaid' is the law's where the arguments, and the package variables that the reading takes, are together of bulk at most 1048576: NARROWER than '..Said'. Prove '..Said' where nothing that the law and all that it calls make is longer than what came in: it says more and counts as full. Else prove '..UptoSaid'. A law counts once. -/
mutual
def uptoBulk {H : Type} : DataW H → Nat
  | .lit (.string bytes) => bytes.length + 1
  | .lit _ => 1
  | .nil => 1
  | .ptr d => uptoBulk d + 1
  | .slice elems spare => uptoBulkAll elems + uptoBulkAll spare + 1
  | .agg parts => uptoBulkAll parts + 1
  | .iface _ d => uptoBulk d + 1
  | .map entries => uptoBulkEntries entries + 1
  | .held _ => 1
def uptoBulkAll {H : Type} : List (DataW H) → Nat
  | [] => 0
  | d :: r => uptoBulk d + uptoBulkAll r
def uptoBulkEntries {H : Type} : List (Lit × DataW H) → Nat
  | [] => 0
  | x :: r => uptoBulkEntry x + uptoBulkEntries r
def uptoBulkEntry {H : Type} : Lit × DataW H → Nat
  | (.string bytes, d) => bytes.length + uptoBulk d + 1
  | (_, d) => uptoBulk d + 1
 end
def uptoSmall : (H : Type) → List (DataW H) → Bool := fun _ ds => decide (uptoBulkAll ds ≤ 1048576)
def OpenSpec.upto (s : _root_.Go.ChangeSpec) : _root_.Go.OpenSpec := { _root_.Go.OpenSpec.ofChange s with cond := some uptoSmall }

/-- 'nozzlelaw02.CheckTurned', WHERE WHAT IT READS IS OF BULK AT MOST 1048576: true; the input reads as it did. -/
def checkTurnedUptoRow : OpenClaim := { program := "ytnmdgkloehbkcaa", sum := "1dd94fa242a44bc412c373bc2d9ca90938bb838fc9972ecac14b9b5fc05d79e2", func := "nozzle/nozzlelaw02.CheckTurned", spec := "checkTurned", apart := false, narrowed := true }
def CheckTurnedUptoSaid : Prop := checkTurnedUptoRow.holds Try.pinned (OpenSpec.upto checkTurnedSpec)

/-- 'nozzlelaw02.CheckSums', WHERE WHAT IT READS IS OF BULK AT MOST 1048576: true; the input reads as it did. -/
def checkSumsUptoRow : OpenClaim := { program := "ytnmdgkloehbkcaa", sum := "1dd94fa242a44bc412c373bc2d9ca90938bb838fc9972ecac14b9b5fc05d79e2", func := "nozzle/nozzlelaw02.CheckSums", spec := "checkSums", apart := false, narrowed := true }
def CheckSumsUptoSaid : Prop := checkSumsUptoRow.holds Try.pinned (OpenSpec.upto checkSumsSpec)

/-- 'nozzlelaw02.CheckSeals', WHERE WHAT IT READS IS OF BULK AT MOST 1048576: true; the input reads as it did. -/
def checkSealsUptoRow : OpenClaim := { program := "ytnmdgkloehbkcaa", sum := "1dd94fa242a44bc412c373bc2d9ca90938bb838fc9972ecac14b9b5fc05d79e2", func := "nozzle/nozzlelaw02.CheckSeals", spec := "checkSeals", apart := false, narrowed := true }
def CheckSealsUptoSaid : Prop := checkSealsUptoRow.holds Try.pinned (OpenSpec.upto checkSealsSpec)

/-- 'nozzlelaw02.CheckPairs', WHERE WHAT IT READS IS OF BULK AT MOST 1048576: true; the input reads as it did. -/
def checkPairsUptoRow : OpenClaim := { program := "ytnmdgkloehbkcaa", sum := "1dd94fa242a44bc412c373bc2d9ca90938bb838fc9972ecac14b9b5fc05d79e2", func := "nozzle/nozzlelaw02.CheckPairs", spec := "checkPairs", apart := false, narrowed := true }
def CheckPairsUptoSaid : Prop := checkPairsUptoRow.holds Try.pinned (OpenSpec.upto checkPairsSpec)

/-- 'nozzlelaw02.CheckNobody', WHERE WHAT IT READS IS OF BULK AT MOST 1048576: true; the input reads as it did. -/
def checkNobodyUptoRow : OpenClaim := { program := "ytnmdgkloehbkcaa", sum := "1dd94fa242a44bc412c373bc2d9ca90938bb838fc9972ecac14b9b5fc05d79e2", func := "nozzle/nozzlelaw02.CheckNobody", spec := "checkNobody", apart := false, narrowed := true }
def CheckNobodyUptoSaid : Prop := checkNobodyUptoRow.holds Try.pinned (OpenSpec.upto checkNobodySpec)

/-- 'nozzlelaw02.CheckPieces', WHERE WHAT IT READS IS OF BULK AT MOST 1048576: true; the input reads as it did. -/
def checkPiecesUptoRow : OpenClaim := { program := "ytnmdgkloehbkcaa", sum := "1dd94fa242a44bc412c373bc2d9ca90938bb838fc9972ecac14b9b5fc05d79e2", func := "nozzle/nozzlelaw02.CheckPieces", spec := "checkPieces", apart := false, narrowed := true }
def CheckPiecesUptoSaid : Prop := checkPiecesUptoRow.holds Try.pinned (OpenSpec.upto checkPiecesSpec)

end Rows
end Go.Proofs.Ytnmdgkloehbkcaa
