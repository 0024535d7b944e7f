/-
  No cell of these rows narrows 'for every input' (looked for: loops, veiled, ifaces, maps, wideKeys, modest, calm, conditions, laid).
  DERIVED. THE GIVEN ROWS OF THIS SEAT. 3 by the template 'for every input the law returns true; each argument reads behind the call as it read before'; 0 by the template 'total and deterministic' (their statements: YtohflonpinjdaaaTotals.lean).
  GIVEN WITH THE SEED: the statements are not yours to turn. If you find one false, say at which input.
  Laid BY PROGRAM, IN A SANDBOX (cutbox-rows.mjs): the forced cells as the released guide's own fill.sh prints them over the translation d2dda1e9f77cb92c… (all of the seat's roots in one cut). By AI agents, Wed Nov 11 2026. No macro, syntax, notation, axiom, sorry.
-/
import Derived.Test.YtohflonpinjdaaaChecked
import GoSem.Claim
import GoSem.ClaimJoined
import GoSem.ClaimMapViews
import Derived.JoinedTies
import Derived.KernelRfl
namespace Go.Proofs.Ytohflonpinjdaaa
/- THE CELL 'sum', in the pinned program and in every row, IS THE sha256 OF THE DUMP (.gsa) THAT YtohflonpinjdaaaProg.lean LOADS. Nothing in Lean hashes anything: it is a label: what it is worth is what the hold of that sum in a sandbox is worth. -/
noncomputable def Try.pinned : Pinned := { name := "ytohflonpinjdaaa", sum := "d2dda1e9f77cb92cf3e6c3671fb779adf54539173cf8d36a60a51a1a920ce4bf", checked := Try.checked }
namespace Rows
def none {H : Type} : Left H := { results := [], args := [] }

/-- 'nozzlelaw14.CreditNever': WHATEVER THE INPUT: true; the input reads as it did. -/
def creditNeverSpec : ChangeSpec := { name := "creditNever", fn := fun _ => fun
  | [d1, d2, d3] => { results := [.lit (.bool true)], args := [d1, d2, d3] }
  | _ => none }
def creditNeverRow : OpenClaim := { program := "ytohflonpinjdaaa", sum := "d2dda1e9f77cb92cf3e6c3671fb779adf54539173cf8d36a60a51a1a920ce4bf", func := "nozzle/nozzlelaw14.CreditNever", spec := "creditNever", unfollowed := true, recurses := true, apart := false }
def CreditNeverSaid : Prop := creditNeverRow.holds Try.pinned (OpenSpec.ofChange creditNeverSpec)

/-- ITS FALSE NEIGHBOUR: 'it returns false'. Refute it at one input. -/
def creditNeverWrong : ChangeSpec := { name := "creditNever", fn := fun _ => fun
  | [d1, d2, d3] => { results := [.lit (.bool false)], args := [d1, d2, d3] }
  | _ => none }
def CreditNeverWrongFalsely : Prop := creditNeverRow.holds Try.pinned (OpenSpec.ofChange creditNeverWrong)

/-- 'nozzlelaw14.CreditRuns': WHATEVER THE INPUT: true; the input reads as it did. -/
def creditRunsSpec : ChangeSpec := { name := "creditRuns", fn := fun _ => fun
  | [d1, d2] => { results := [.lit (.bool true)], args := [d1, d2] }
  | _ => none }
def creditRunsRow : OpenClaim := { program := "ytohflonpinjdaaa", sum := "d2dda1e9f77cb92cf3e6c3671fb779adf54539173cf8d36a60a51a1a920ce4bf", func := "nozzle/nozzlelaw14.CreditRuns", spec := "creditRuns", unfollowed := true, recurses := true, apart := false }
def CreditRunsSaid : Prop := creditRunsRow.holds Try.pinned (OpenSpec.ofChange creditRunsSpec)

/-- ITS FALSE NEIGHBOUR: 'it returns false'. Refute it at one input. -/
def creditRunsWrong : ChangeSpec := { name := "creditRuns", fn := fun _ => fun
  | [d1, d2] => { results := [.lit (.bool false)], args := [d1, d2] }
  | _ => none }
def CreditRunsWrongFalsely : Prop := creditRunsRow.holds Try.pinned (OpenSpec.ofChange creditRunsWrong)

/-- 'nozzlelaw14.CreditNobody': WHATEVER THE INPUT: true; the input reads as it did. -/
def creditNobodySpec : ChangeSpec := { name := "creditNobody", fn := fun _ => fun
  | [d] => { results := [.lit (.bool true)], args := [d] }
  | _ => none }
def creditNobodyRow : OpenClaim := { program := "ytohflonpinjdaaa", sum := "d2dda1e9f77cb92cf3e6c3671fb779adf54539173cf8d36a60a51a1a920ce4bf", func := "nozzle/nozzlelaw14.CreditNobody", spec := "creditNobody", unfollowed := true, recurses := true, apart := false }
def CreditNobodySaid : Prop := creditNobodyRow.holds Try.pinned (OpenSpec.ofChange creditNobodySpec)

/-- ITS FALSE NEIGHBOUR: 'it returns false'. Refute it at one input. -/
def creditNobodyWrong : ChangeSpec := { name := "creditNobody", fn := fun _ => fun
  | [d] => { results := [.lit (.bool false)], args := [d] }
  | _ => none }
def CreditNobodyWrongFalsely : Prop := creditNobodyRow.holds Try.pinned (OpenSpec.ofChange creditNobodyWrong)

/- THE SECOND FORM. 'bulk': how many values and letters a reading holds, each counted each time it is reached (what is shared counts as often as it is met; a slice's spare places count too). A statement '..UptoSaid' is the law's where the arguments, and the package variables that the reading takes, are together of bulk at most 1048576: NARROWER than '..Said'. Prove '..Said' where nothing that the law and all that it calls make is longer than what came in: it says more and counts as full. Else prove '..UptoSaid'. A law counts once. -/
mutual
def uptoBulk {H : Type} : DataW H → Nat
  | .lit (.string bytes) => bytes.length + 1
  | .lit _ => 1
  | .nil => 1
  | .ptr d => uptoBulk d + 1
  | .slice elems spare => uptoBulkAll elems + uptoBulkAll spare + 1
  | .agg parts => uptoBulkAll parts + 1
  | .iface _ d => uptoBulk d + 1
  | .map entries => uptoBulkEntries entries + 1
  | .held _ => 1
def uptoBulkAll {H : Type} : List (DataW H) → Nat
  | [] => 0
  | d :: r => uptoBulk d + uptoBulkAll r
def uptoBulkEntries {H : Type} : List (Lit × DataW H) → Nat
  | [] => 0
  | x :: r => uptoBulkEntry x + uptoBulkEntries r
def uptoBulkEntry {H : Type} : Lit × DataW H → Nat
  | (.string bytes, d) => bytes.length + uptoBulk d + 1
  | (_, d) => uptoBulk d + 1
 end
def uptoSmall : (H : Type) → List (DataW H) → Bool := fun _ ds => decide (uptoBulkAll ds ≤ 1048576)
def OpenSpec.upto (s : _root_.Go.ChangeSpec) : _root_.Go.OpenSpec := { _root_.Go.OpenSpec.ofChange s with cond := some uptoSmall }

/-- 'nozzlelaw14.CreditNever', WHERE WHAT IT READS IS OF BULK AT MOST 1048576: true; the input reads as it did. -/
def creditNeverUptoRow : OpenClaim := { program := "ytohflonpinjdaaa", sum := "d2dda1e9f77cb92cf3e6c3671fb779adf54539173cf8d36a60a51a1a920ce4bf", func := "nozzle/nozzlelaw14.CreditNever", spec := "creditNever", unfollowed := true, recurses := true, apart := false, narrowed := true }
def CreditNeverUptoSaid : Prop := creditNeverUptoRow.holds Try.pinned (OpenSpec.upto creditNeverSpec)

/-- 'nozzlelaw14.CreditRuns', WHERE WHAT IT READS IS OF BULK AT MOST 1048576: true; the input reads as it did. -/
def creditRunsUptoRow : OpenClaim := { program := "ytohflonpinjdaaa", sum := "d2dda1e9f77cb92cf3e6c3671fb779adf54539173cf8d36a60a51a1a920ce4bf", func := "nozzle/nozzlelaw14.CreditRuns", spec := "creditRuns", unfollowed := true, recurses := true, apart := false, narrowed := true }
def CreditRunsUptoSaid : Prop := creditRunsUptoRow.holds Try.pinned (OpenSpec.upto creditRunsSpec)

/-- 'nozzlelaw14.CreditNobody', WHERE WHAT IT READS IS OF BULK AT MOST 1048576: true; the input reads as it did. -/
def creditNobodyUptoRow : OpenClaim := { program := "ytohflonpinjdaaa", sum := "d2dda1e9f77cb92cf3e6c3671fb779adf54539173cf8d36a60a51a1a920ce4bf", func := "nozzle/nozzlelaw14.CreditNobody", spec := "creditNobody", unfollowed := true, recurses := true, apart := false, narrowed := true }
def CreditNobodyUptoSaid : Prop := creditNobodyUptoRow.holds Try.pinned (OpenSpec.upto creditNobodySpec)

end Rows
end Go.Proofs.Ytohflonpinjdaaa
