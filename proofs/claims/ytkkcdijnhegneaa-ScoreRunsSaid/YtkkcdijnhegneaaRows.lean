/-
  No cell of these rows narrows 'for every input' (looked for: loops, veiled, ifaces, maps, wideKeys, modest, calm, conditions, laid).
  DERIVED. THE GIVEN ROWS OF THIS SEAT. 2 by the template 'for every input the law returns true; each argument reads behind the call as it read before'; 0 by the template 'total and deterministic' (their statements: YtkkcdijnhegneaaTotals.lean).
  GIVEN WITH THE SEED: the statements are not yours to turn. If you find one false, say at which input.
  Laid BY PROGRAM, IN A SANDBOX (cutbox-rows.mjs): the forced cells as the released guide's own fill.sh prints them over the translation 5ba2df145ce1aede… (all of the seat's roots in one cut). By AI agents, Wed Nov 11 2026. No macro, syntax, notation, axiom, sorry.
-/
import Derived.Test.YtkkcdijnhegneaaChecked
import GoSem.Claim
import GoSem.ClaimJoined
import GoSem.ClaimMapViews
import Derived.JoinedTies
import Derived.KernelRfl
namespace Go.Proofs.Ytkkcdijnhegneaa
/- THE CELL 'sum', in the pinned program and in every row, IS THE sha256 OF THE DUMP (.gsa) THAT YtkkcdijnhegneaaProg.lean LOADS. Nothing in Lean hashes anything: it is a label: what it is worth is what the hold of that sum in a sandbox is worth. -/
noncomputable def Try.pinned : Pinned := { name := "ytkkcdijnhegneaa", sum := "5ba2df145ce1aededf0a45f54e031bd6ab48aa0052463b013fecbe188b762c04", checked := Try.checked }
namespace Rows
def none {H : Type} : Left H := { results := [], args := [] }

/-- 'nozzlelaw07.ScoreBack': WHATEVER THE INPUT: true; the input reads as it did. -/
def scoreBackSpec : ChangeSpec := { name := "scoreBack", fn := fun _ => fun
  | [d1, d2, d3] => { results := [.lit (.bool true)], args := [d1, d2, d3] }
  | _ => none }
def scoreBackRow : OpenClaim := { program := "ytkkcdijnhegneaa", sum := "5ba2df145ce1aededf0a45f54e031bd6ab48aa0052463b013fecbe188b762c04", func := "nozzle/nozzlelaw07.ScoreBack", spec := "scoreBack", unfollowed := true, recurses := true, apart := false }
def ScoreBackSaid : Prop := scoreBackRow.holds Try.pinned (OpenSpec.ofChange scoreBackSpec)

/-- ITS FALSE NEIGHBOUR: 'it returns false'. Refute it at one input. -/
def scoreBackWrong : ChangeSpec := { name := "scoreBack", fn := fun _ => fun
  | [d1, d2, d3] => { results := [.lit (.bool false)], args := [d1, d2, d3] }
  | _ => none }
def ScoreBackWrongFalsely : Prop := scoreBackRow.holds Try.pinned (OpenSpec.ofChange scoreBackWrong)

/-- 'nozzlelaw07.ScoreRuns': WHATEVER THE INPUT: true; the input reads as it did. -/
def scoreRunsSpec : ChangeSpec := { name := "scoreRuns", fn := fun _ => fun
  | [d1, d2, d3] => { results := [.lit (.bool true)], args := [d1, d2, d3] }
  | _ => none }
def scoreRunsRow : OpenClaim := { program := "ytkkcdijnhegneaa", sum := "5ba2df145ce1aededf0a45f54e031bd6ab48aa0052463b013fecbe188b762c04", func := "nozzle/nozzlelaw07.ScoreRuns", spec := "scoreRuns", unfollowed := true, recurses := true, apart := false }
def ScoreRunsSaid : Prop := scoreRunsRow.holds Try.pinned (OpenSpec.ofChange scoreRunsSpec)

/-- ITS FALSE NEIGHBOUR: 'it returns false'. Refute it at one input. -/
def scoreRunsWrong : ChangeSpec := { name := "scoreRuns", fn := fun _ => fun
  | [d1, d2, d3] => { results := [.lit (.bool false)], args := [d1, d2, d3] }
  | _ => none }
def ScoreRunsWrongFalsely : Prop := scoreRunsRow.holds Try.pinned (OpenSpec.ofChange scoreRunsWrong)

/- THE SECOND FORM. 'bulk': how many values and letters a reading holds, each counted each time it is reached (what is shared counts as often as it is met; a slice's spare places count too). A statement '..UptoSaid' is the law's where the arguments, and the package variables that the reading takes, are together of bulk at most 1048576: NARROWER than '..Said'. Prove '..Said' where nothing that the law and all that it calls make is longer than what came in: it says more and counts as full. Else prove '..UptoSaid'. A law counts once. -/
mutual
def uptoBulk {H : Type} : DataW H → Nat
  | .lit (.string bytes) => bytes.length + 1
  | .lit _ => 1
  | .nil => 1
  | .ptr d => uptoBulk d + 1
  | .slice elems spare => uptoBulkAll elems + uptoBulkAll spare + 1
  | .agg parts => uptoBulkAll parts + 1
  | .iface _ d => uptoBulk d + 1
  | .map entries => uptoBulkEntries entries + 1
  | .held _ => 1
def uptoBulkAll {H : Type} : List (DataW H) → Nat
  | [] => 0
  | d :: r => uptoBulk d + uptoBulkAll r
def uptoBulkEntries {H : Type} : List (Lit × DataW H) → Nat
  | [] => 0
  | x :: r => uptoBulkEntry x + uptoBulkEntries r
def uptoBulkEntry {H : Type} : Lit × DataW H → Nat
  | (.string bytes, d) => bytes.length + uptoBulk d + 1
  | (_, d) => uptoBulk d + 1
 end
def uptoSmall : (H : Type) → List (DataW H) → Bool := fun _ ds => decide (uptoBulkAll ds ≤ 1048576)
def OpenSpec.upto (s : _root_.Go.ChangeSpec) : _root_.Go.OpenSpec := { _root_.Go.OpenSpec.ofChange s with cond := some uptoSmall }

/-- 'nozzlelaw07.ScoreBack', WHERE WHAT IT READS IS OF BULK AT MOST 1048576: true; the input reads as it did. -/
def scoreBackUptoRow : OpenClaim := { program := "ytkkcdijnhegneaa", sum := "5ba2df145ce1aededf0a45f54e031bd6ab48aa0052463b013fecbe188b762c04", func := "nozzle/nozzlelaw07.ScoreBack", spec := "scoreBack", unfollowed := true, recurses := true, apart := false, narrowed := true }
def ScoreBackUptoSaid : Prop := scoreBackUptoRow.holds Try.pinned (OpenSpec.upto scoreBackSpec)

/-- 'nozzlelaw07.ScoreRuns', WHERE WHAT IT READS IS OF BULK AT MOST 1048576: true; the input reads as it did. -/
def scoreRunsUptoRow : OpenClaim := { program := "ytkkcdijnhegneaa", sum := "5ba2df145ce1aededf0a45f54e031bd6ab48aa0052463b013fecbe188b762c04", func := "nozzle/nozzlelaw07.ScoreRuns", spec := "scoreRuns", unfollowed := true, recurses := true, apart := false, narrowed := true }
def ScoreRunsUptoSaid : Prop := scoreRunsUptoRow.holds Try.pinned (OpenSpec.upto scoreRunsSpec)

end Rows
end Go.Proofs.Ytkkcdijnhegneaa
