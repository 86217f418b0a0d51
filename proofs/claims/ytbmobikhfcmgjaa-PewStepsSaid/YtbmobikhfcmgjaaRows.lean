/-
  No cell of these rows narrows 'for every input' (looked for: loops, veiled, ifaces, maps, wideKeys, modest, calm, conditions, laid).
  DERIVED. THE GIVEN ROWS OF THIS SEAT. 5 by the template 'for every input the law returns true; each argument reads behind the call as it read before'; 0 by the template 'total and deterministic' (their statements: YtbmobikhfcmgjaaTotals.lean).
  GIVEN WITH THE SEED: the statements are not yours to turn. If you find one false, say at which input.
  Laid BY PROGRAM, IN A SANDBOX (cutbox-rows.mjs): the forced cells as the released guide's own fill.sh prints them over the translation a97bd7158de7fe16… (all of the seat's roots in one cut). By AI agents, Wed Nov 11 2026. No macro, syntax, notation, axiom, sorry.
-/
import Derived.Test.YtbmobikhfcmgjaaChecked
import GoSem.Claim
import GoSem.ClaimJoined
import GoSem.ClaimMapViews
import Derived.JoinedTies
import Derived.KernelRfl
namespace Go.Proofs.Ytbmobikhfcmgjaa
/- THE CELL 'sum', in the pinned program and in every row, IS THE sha256 OF THE DUMP (.gsa) THAT YtbmobikhfcmgjaaProg.lean LOADS. Nothing in Lean hashes anything: it is a label: what it is worth is what the hold of that sum in a sandbox is worth. -/
noncomputable def Try.pinned : Pinned := { name := "ytbmobikhfcmgjaa", sum := "a97bd7158de7fe1683f86966d1b3200fd90b13fe1fd7f5f6fcf62e5d7b4fe40c", checked := Try.checked }
namespace Rows
def none {H : Type} : Left H := { results := [], args := [] }

/-- 'staithelaw08.PewOrder': WHATEVER THE INPUT: true; the input reads as it did. -/
def pewOrderSpec : ChangeSpec := { name := "pewOrder", fn := fun _ => fun
  | [d1, d2] => { results := [.lit (.bool true)], args := [d1, d2] }
  | _ => none }
def pewOrderRow : OpenClaim := { program := "ytbmobikhfcmgjaa", sum := "a97bd7158de7fe1683f86966d1b3200fd90b13fe1fd7f5f6fcf62e5d7b4fe40c", func := "staithe/staithelaw08.PewOrder", spec := "pewOrder", apart := false }
def PewOrderSaid : Prop := pewOrderRow.holds Try.pinned (OpenSpec.ofChange pewOrderSpec)

/-- ITS FALSE NEIGHBOUR: 'it returns false'. Refute it at one input. -/
def pewOrderWrong : ChangeSpec := { name := "pewOrder", fn := fun _ => fun
  | [d1, d2] => { results := [.lit (.bool false)], args := [d1, d2] }
  | _ => none }
def PewOrderWrongFalsely : Prop := pewOrderRow.holds Try.pinned (OpenSpec.ofChange pewOrderWrong)

/-- 'staithelaw08.PewFull': WHATEVER THE INPUT: true; the input reads as it did. -/
def pewFullSpec : ChangeSpec := { name := "pewFull", fn := fun _ => fun
  | [d] => { results := [.lit (.bool true)], args := [d] }
  | _ => none }
def pewFullRow : OpenClaim := { program := "ytbmobikhfcmgjaa", sum := "a97bd7158de7fe1683f86966d1b3200fd90b13fe1fd7f5f6fcf62e5d7b4fe40c", func := "staithe/staithelaw08.PewFull", spec := "pewFull", apart := false }
def PewFullSaid : Prop := pewFullRow.holds Try.pinned (OpenSpec.ofChange pewFullSpec)

/-- ITS FALSE NEIGHBOUR: 'it returns false'. Refute it at one input. -/
def pewFullWrong : ChangeSpec := { name := "pewFull", fn := fun _ => fun
  | [d] => { results := [.lit (.bool false)], args := [d] }
  | _ => none }
def PewFullWrongFalsely : Prop := pewFullRow.holds Try.pinned (OpenSpec.ofChange pewFullWrong)

/-- 'staithelaw08.PewSteps': WHATEVER THE INPUT: true; the input reads as it did. -/
def pewStepsSpec : ChangeSpec := { name := "pewSteps", fn := fun _ => fun
  | [d] => { results := [.lit (.bool true)], args := [d] }
  | _ => none }
def pewStepsRow : OpenClaim := { program := "ytbmobikhfcmgjaa", sum := "a97bd7158de7fe1683f86966d1b3200fd90b13fe1fd7f5f6fcf62e5d7b4fe40c", func := "staithe/staithelaw08.PewSteps", spec := "pewSteps", apart := false }
def PewStepsSaid : Prop := pewStepsRow.holds Try.pinned (OpenSpec.ofChange pewStepsSpec)

/-- ITS FALSE NEIGHBOUR: 'it returns false'. Refute it at one input. -/
def pewStepsWrong : ChangeSpec := { name := "pewSteps", fn := fun _ => fun
  | [d] => { results := [.lit (.bool false)], args := [d] }
  | _ => none }
def PewStepsWrongFalsely : Prop := pewStepsRow.holds Try.pinned (OpenSpec.ofChange pewStepsWrong)

/-- 'staithelaw08.PewNil': WHATEVER THE INPUT: true; the input reads as it did. -/
def pewNilSpec : ChangeSpec := { name := "pewNil", fn := fun _ => fun
  | [d] => { results := [.lit (.bool true)], args := [d] }
  | _ => none }
def pewNilRow : OpenClaim := { program := "ytbmobikhfcmgjaa", sum := "a97bd7158de7fe1683f86966d1b3200fd90b13fe1fd7f5f6fcf62e5d7b4fe40c", func := "staithe/staithelaw08.PewNil", spec := "pewNil", apart := false }
def PewNilSaid : Prop := pewNilRow.holds Try.pinned (OpenSpec.ofChange pewNilSpec)

/-- ITS FALSE NEIGHBOUR: 'it returns false'. Refute it at one input. -/
def pewNilWrong : ChangeSpec := { name := "pewNil", fn := fun _ => fun
  | [d] => { results := [.lit (.bool false)], args := [d] }
  | _ => none }
def PewNilWrongFalsely : Prop := pewNilRow.holds Try.pinned (OpenSpec.ofChange pewNilWrong)

/-- 'staithelaw08.PewCounts': WHATEVER THE INPUT: true; the input reads as it did. -/
def pewCountsSpec : ChangeSpec := { name := "pewCounts", fn := fun _ => fun
  | [d1, d2] => { results := [.lit (.bool true)], args := [d1, d2] }
  | _ => none }
def pewCountsRow : OpenClaim := { program := "ytbmobikhfcmgjaa", sum := "a97bd7158de7fe1683f86966d1b3200fd90b13fe1fd7f5f6fcf62e5d7b4fe40c", func := "staithe/staithelaw08.PewCounts", spec := "pewCounts", apart := false }
def PewCountsSaid : Prop := pewCountsRow.holds Try.pinned (OpenSpec.ofChange pewCountsSpec)

/-- ITS FALSE NEIGHBOUR: 'it returns false'. Refute it at one input. -/
def pewCountsWrong : ChangeSpec := { name := "pewCounts", fn := fun _ => fun
  | [d1, d2] => { results := [.lit (.bool false)], args := [d1, d2] }
  | _ => none }
def PewCountsWrongFalsely : Prop := pewCountsRow.holds Try.pinned (OpenSpec.ofChange pewCountsWrong)

/- THE SECOND FORM. 'bulk': how many values and letters a reading holds, each counted each time it is reached (what is shared counts as often as it is met; a slice's spare places count too). A statement '..UptoSaid' is the law's where the arguments, and the package variables that the reading takes, are together of bulk at most 1048576: NARROWER than '..Said'. Prove '..Said' where nothing that the law and all that it calls make is longer than what came in: it says more and counts as full. Else prove '..UptoSaid'. A law counts once. -/
mutual
def uptoBulk {H : Type} : DataW H → Nat
  | .lit (.string bytes) => bytes.length + 1
  | .lit _ => 1
  | .nil => 1
  | .ptr d => uptoBulk d + 1
  | .slice elems spare => uptoBulkAll elems + uptoBulkAll spare + 1
  | .agg parts => uptoBulkAll parts + 1
  | .iface _ d => uptoBulk d + 1
  | .map entries => uptoBulkEntries entries + 1
  | .held _ => 1
def uptoBulkAll {H : Type} : List (DataW H) → Nat
  | [] => 0
  | d :: r => uptoBulk d + uptoBulkAll r
def uptoBulkEntries {H : Type} : List (Lit × DataW H) → Nat
  | [] => 0
  | x :: r => uptoBulkEntry x + uptoBulkEntries r
def uptoBulkEntry {H : Type} : Lit × DataW H → Nat
  | (.string bytes, d) => bytes.length + uptoBulk d + 1
  | (_, d) => uptoBulk d + 1
 end
def uptoSmall : (H : Type) → List (DataW H) → Bool := fun _ ds => decide (uptoBulkAll ds ≤ 1048576)
def OpenSpec.upto (s : _root_.Go.ChangeSpec) : _root_.Go.OpenSpec := { _root_.Go.OpenSpec.ofChange s with cond := some uptoSmall }

/-- 'staithelaw08.PewOrder', WHERE WHAT IT READS IS OF BULK AT MOST 1048576: true; the input reads as it did. -/
def pewOrderUptoRow : OpenClaim := { program := "ytbmobikhfcmgjaa", sum := "a97bd7158de7fe1683f86966d1b3200fd90b13fe1fd7f5f6fcf62e5d7b4fe40c", func := "staithe/staithelaw08.PewOrder", spec := "pewOrder", apart := false, narrowed := true }
def PewOrderUptoSaid : Prop := pewOrderUptoRow.holds Try.pinned (OpenSpec.upto pewOrderSpec)

/-- 'staithelaw08.PewFull', WHERE WHAT IT READS IS OF BULK AT MOST 1048576: true; the input reads as it did. -/
def pewFullUptoRow : OpenClaim := { program := "ytbmobikhfcmgjaa", sum := "a97bd7158de7fe1683f86966d1b3200fd90b13fe1fd7f5f6fcf62e5d7b4fe40c", func := "staithe/staithelaw08.PewFull", spec := "pewFull", apart := false, narrowed := true }
def PewFullUptoSaid : Prop := pewFullUptoRow.holds Try.pinned (OpenSpec.upto pewFullSpec)

/-- 'staithelaw08.PewSteps', WHERE WHAT IT READS IS OF BULK AT MOST 1048576: true; the input reads as it did. -/
def pewStepsUptoRow : OpenClaim := { program := "ytbmobikhfcmgjaa", sum := "a97bd7158de7fe1683f86966d1b3200fd90b13fe1fd7f5f6fcf62e5d7b4fe40c", func := "staithe/staithelaw08.PewSteps", spec := "pewSteps", apart := false, narrowed := true }
def PewStepsUptoSaid : Prop := pewStepsUptoRow.holds Try.pinned (OpenSpec.upto pewStepsSpec)

/-- 'staithelaw08.PewNil', WHERE WHAT IT READS IS OF BULK AT MOST 1048576: true; the input reads as it did. -/
def pewNilUptoRow : OpenClaim := { program := "ytbmobikhfcmgjaa", sum := "a97bd7158de7fe1683f86966d1b3200fd90b13fe1fd7f5f6fcf62e5d7b4fe40c", func := "staithe/staithelaw08.PewNil", spec := "pewNil", apart := false, narrowed := true }
def PewNilUptoSaid : Prop := pewNilUptoRow.holds Try.pinned (OpenSpec.upto pewNilSpec)

/-- 'staithelaw08.PewCounts', WHERE WHAT IT READS IS OF BULK AT MOST 1048576: true; the input reads as it did. -/
def pewCountsUptoRow : OpenClaim := { program := "ytbmobikhfcmgjaa", sum := "a97bd7158de7fe1683f86966d1b3200fd90b13fe1fd7f5f6fcf62e5d7b4fe40c", func := "staithe/staithelaw08.PewCounts", spec := "pewCounts", apart := false, narrowed := true }
def PewCountsUptoSaid : Prop := pewCountsUptoRow.holds Try.pinned (OpenSpec.upto pewCountsSpec)

end Rows
end Go.Proofs.Ytbmobikhfcmgjaa
