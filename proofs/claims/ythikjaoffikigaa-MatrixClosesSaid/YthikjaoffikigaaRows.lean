/-
  No cell of these rows narrows 'for every input' (looked for: loops, veiled, ifaces, maps, wideKeys, modest, calm, conditions, laid).
  DERIVED. THE GIVEN ROWS OF THIS SEAT. 5 by the template 'for every input the law returns true; each argument reads behind the call as it read before'; 0 by the template 'total and deterministic' (their statements: YthikjaoffikigaaTotals.lean).
  GIVEN WITH THE SEED: the statements are not yours to turn. If you find one false, say at which input.
  Laid BY PROGRAM, IN A SANDBOX (cutbox-rows.mjs): the forced cells as the released guide's own fill.sh prints them over the translation c2d15b1ec4825e9c… (all of the seat's roots in one cut). By AI agents, Wed Nov 11 2026. No macro, syntax, notation, axiom, sorry.
-/
import Derived.Test.YthikjaoffikigaaChecked
import GoSem.Claim
import GoSem.ClaimJoined
import GoSem.ClaimMapViews
import Derived.JoinedTies
import Derived.KernelRfl
namespace Go.Proofs.Ythikjaoffikigaa
/- THE CELL 'sum', in the pinned program and in every row, IS THE sha256 OF THE DUMP (.gsa) THAT YthikjaoffikigaaProg.lean LOADS. Nothing in Lean hashes anything: it is a label: what it is worth is what the hold of that sum in a sandbox is worth. -/
noncomputable def Try.pinned : Pinned := { name := "ythikjaoffikigaa", sum := "c2d15b1ec4825e9cc09d6794e5a1e53755b7ac1fc62a013d7e66d5387eeb6fee", checked := Try.checked }
namespace Rows
def none {H : Type} : Left H := { results := [], args := [] }

/-- 'staithelaw25.MatrixLeast': WHATEVER THE INPUT: true; the input reads as it did. -/
def matrixLeastSpec : ChangeSpec := { name := "matrixLeast", fn := fun _ => fun
  | [d1, d2, d3] => { results := [.lit (.bool true)], args := [d1, d2, d3] }
  | _ => none }
def matrixLeastRow : OpenClaim := { program := "ythikjaoffikigaa", sum := "c2d15b1ec4825e9cc09d6794e5a1e53755b7ac1fc62a013d7e66d5387eeb6fee", func := "staithe/staithelaw25.MatrixLeast", spec := "matrixLeast", unfollowed := true, recurses := true, apart := false }
def MatrixLeastSaid : Prop := matrixLeastRow.holds Try.pinned (OpenSpec.ofChange matrixLeastSpec)

/-- ITS FALSE NEIGHBOUR: 'it returns false'. Refute it at one input. -/
def matrixLeastWrong : ChangeSpec := { name := "matrixLeast", fn := fun _ => fun
  | [d1, d2, d3] => { results := [.lit (.bool false)], args := [d1, d2, d3] }
  | _ => none }
def MatrixLeastWrongFalsely : Prop := matrixLeastRow.holds Try.pinned (OpenSpec.ofChange matrixLeastWrong)

/-- 'staithelaw25.MatrixTurned': WHATEVER THE INPUT: true; the input reads as it did. -/
def matrixTurnedSpec : ChangeSpec := { name := "matrixTurned", fn := fun _ => fun
  | [d1, d2] => { results := [.lit (.bool true)], args := [d1, d2] }
  | _ => none }
def matrixTurnedRow : OpenClaim := { program := "ythikjaoffikigaa", sum := "c2d15b1ec4825e9cc09d6794e5a1e53755b7ac1fc62a013d7e66d5387eeb6fee", func := "staithe/staithelaw25.MatrixTurned", spec := "matrixTurned", unfollowed := true, recurses := true, apart := false }
def MatrixTurnedSaid : Prop := matrixTurnedRow.holds Try.pinned (OpenSpec.ofChange matrixTurnedSpec)

/-- ITS FALSE NEIGHBOUR: 'it returns false'. Refute it at one input. -/
def matrixTurnedWrong : ChangeSpec := { name := "matrixTurned", fn := fun _ => fun
  | [d1, d2] => { results := [.lit (.bool false)], args := [d1, d2] }
  | _ => none }
def MatrixTurnedWrongFalsely : Prop := matrixTurnedRow.holds Try.pinned (OpenSpec.ofChange matrixTurnedWrong)

/-- 'staithelaw25.MatrixSets': WHATEVER THE INPUT: true; the input reads as it did. -/
def matrixSetsSpec : ChangeSpec := { name := "matrixSets", fn := fun _ => fun
  | [d1, d2, d3] => { results := [.lit (.bool true)], args := [d1, d2, d3] }
  | _ => none }
def matrixSetsRow : OpenClaim := { program := "ythikjaoffikigaa", sum := "c2d15b1ec4825e9cc09d6794e5a1e53755b7ac1fc62a013d7e66d5387eeb6fee", func := "staithe/staithelaw25.MatrixSets", spec := "matrixSets", unfollowed := true, recurses := true, apart := false }
def MatrixSetsSaid : Prop := matrixSetsRow.holds Try.pinned (OpenSpec.ofChange matrixSetsSpec)

/-- ITS FALSE NEIGHBOUR: 'it returns false'. Refute it at one input. -/
def matrixSetsWrong : ChangeSpec := { name := "matrixSets", fn := fun _ => fun
  | [d1, d2, d3] => { results := [.lit (.bool false)], args := [d1, d2, d3] }
  | _ => none }
def MatrixSetsWrongFalsely : Prop := matrixSetsRow.holds Try.pinned (OpenSpec.ofChange matrixSetsWrong)

/-- 'staithelaw25.MatrixCloses': WHATEVER THE INPUT: true; the input reads as it did. -/
def matrixClosesSpec : ChangeSpec := { name := "matrixCloses", fn := fun _ => fun
  | [d1, d2] => { results := [.lit (.bool true)], args := [d1, d2] }
  | _ => none }
def matrixClosesRow : OpenClaim := { program := "ythikjaoffikigaa", sum := "c2d15b1ec4825e9cc09d6794e5a1e53755b7ac1fc62a013d7e66d5387eeb6fee", func := "staithe/staithelaw25.MatrixCloses", spec := "matrixCloses", unfollowed := true, recurses := true, apart := false }
def MatrixClosesSaid : Prop := matrixClosesRow.holds Try.pinned (OpenSpec.ofChange matrixClosesSpec)

/-- ITS FALSE NEIGHBOUR: 'it returns false'. Refute it at one input. -/
def matrixClosesWrong : ChangeSpec := { name := "matrixCloses", fn := fun _ => fun
  | [d1, d2] => { results := [.lit (.bool false)], args := [d1, d2] }
  | _ => none }
def MatrixClosesWrongFalsely : Prop := matrixClosesRow.holds Try.pinned (OpenSpec.ofChange matrixClosesWrong)

/-- 'staithelaw25.MatrixNil': WHATEVER THE INPUT: true; the input reads as it did. -/
def matrixNilSpec : ChangeSpec := { name := "matrixNil", fn := fun _ => fun
  | [d1, d2] => { results := [.lit (.bool true)], args := [d1, d2] }
  | _ => none }
def matrixNilRow : OpenClaim := { program := "ythikjaoffikigaa", sum := "c2d15b1ec4825e9cc09d6794e5a1e53755b7ac1fc62a013d7e66d5387eeb6fee", func := "staithe/staithelaw25.MatrixNil", spec := "matrixNil", unfollowed := true, recurses := true, apart := false }
def MatrixNilSaid : Prop := matrixNilRow.holds Try.pinned (OpenSpec.ofChange matrixNilSpec)

/-- ITS FALSE NEIGHBOUR: 'it returns false'. Refute it at one input. -/
def matrixNilWrong : ChangeSpec := { name := "matrixNil", fn := fun _ => fun
  | [d1, d2] => { results := [.lit (.bool false)], args := [d1, d2] }
  | _ => none }
def MatrixNilWrongFalsely : Prop := matrixNilRow.holds Try.pinned (OpenSpec.ofChange matrixNilWrong)

/- THE SECOND FORM. 'bulk': how many values and letters a reading holds, each counted each time it is reached (what is shared counts as often as it is met; a slice's spare places count too). A statement '..UptoSaid' is the law's where the arguments, and the package variables that the reading takes, are together of bulk at most 1048576: NARROWER than '..Said'. Prove '..Said' where nothing that the law and all that it calls make is longer than what came in: it says more and counts as full. Else prove '..UptoSaid'. A law counts once. -/
mutual
def uptoBulk {H : Type} : DataW H → Nat
  | .lit (.string bytes) => bytes.length + 1
  | .lit _ => 1
  | .nil => 1
  | .ptr d => uptoBulk d + 1
  | .slice elems spare => uptoBulkAll elems + uptoBulkAll spare + 1
  | .agg parts => uptoBulkAll parts + 1
  | .iface _ d => uptoBulk d + 1
  | .map entries => uptoBulkEntries entries + 1
  | .held _ => 1
def uptoBulkAll {H : Type} : List (DataW H) → Nat
  | [] => 0
  | d :: r => uptoBulk d + uptoBulkAll r
def uptoBulkEntries {H : Type} : List (Lit × DataW H) → Nat
  | [] => 0
  | x :: r => uptoBulkEntry x + uptoBulkEntries r
def uptoBulkEntry {H : Type} : Lit × DataW H → Nat
  | (.string bytes, d) => bytes.length + uptoBulk d + 1
  | (_, d) => uptoBulk d + 1
 end
def uptoSmall : (H : Type) → List (DataW H) → Bool := fun _ ds => decide (uptoBulkAll ds ≤ 1048576)
def OpenSpec.upto (s : _root_.Go.ChangeSpec) : _root_.Go.OpenSpec := { _root_.Go.OpenSpec.ofChange s with cond := some uptoSmall }

/-- 'staithelaw25.MatrixLeast', WHERE WHAT IT READS IS OF BULK AT MOST 1048576: true; the input reads as it did. -/
def matrixLeastUptoRow : OpenClaim := { program := "ythikjaoffikigaa", sum := "c2d15b1ec4825e9cc09d6794e5a1e53755b7ac1fc62a013d7e66d5387eeb6fee", func := "staithe/staithelaw25.MatrixLeast", spec := "matrixLeast", unfollowed := true, recurses := true, apart := false, narrowed := true }
def MatrixLeastUptoSaid : Prop := matrixLeastUptoRow.holds Try.pinned (OpenSpec.upto matrixLeastSpec)

/-- 'staithelaw25.MatrixTurned', WHERE WHAT IT READS IS OF BULK AT MOST 1048576: true; the input reads as it did. -/
def matrixTurnedUptoRow : OpenClaim := { program := "ythikjaoffikigaa", sum := "c2d15b1ec4825e9cc09d6794e5a1e53755b7ac1fc62a013d7e66d5387eeb6fee", func := "staithe/staithelaw25.MatrixTurned", spec := "matrixTurned", unfollowed := true, recurses := true, apart := false, narrowed := true }
def MatrixTurnedUptoSaid : Prop := matrixTurnedUptoRow.holds Try.pinned (OpenSpec.upto matrixTurnedSpec)

/-- 'staithelaw25.MatrixSets', WHERE WHAT IT READS IS OF BULK AT MOST 1048576: true; the input reads as it did. -/
def matrixSetsUptoRow : OpenClaim := { program := "ythikjaoffikigaa", sum := "c2d15b1ec4825e9cc09d6794e5a1e53755b7ac1fc62a013d7e66d5387eeb6fee", func := "staithe/staithelaw25.MatrixSets", spec := "matrixSets", unfollowed := true, recurses := true, apart := false, narrowed := true }
def MatrixSetsUptoSaid : Prop := matrixSetsUptoRow.holds Try.pinned (OpenSpec.upto matrixSetsSpec)

/-- 'staithelaw25.MatrixCloses', WHERE WHAT IT READS IS OF BULK AT MOST 1048576: true; the input reads as it did. -/
def matrixClosesUptoRow : OpenClaim := { program := "ythikjaoffikigaa", sum := "c2d15b1ec4825e9cc09d6794e5a1e53755b7ac1fc62a013d7e66d5387eeb6fee", func := "staithe/staithelaw25.MatrixCloses", spec := "matrixCloses", unfollowed := true, recurses := true, apart := false, narrowed := true }
def MatrixClosesUptoSaid : Prop := matrixClosesUptoRow.holds Try.pinned (OpenSpec.upto matrixClosesSpec)

/-- 'staithelaw25.MatrixNil', WHERE WHAT IT READS IS OF BULK AT MOST 1048576: true; the input reads as it did. -/
def matrixNilUptoRow : OpenClaim := { program := "ythikjaoffikigaa", sum := "c2d15b1ec4825e9cc09d6794e5a1e53755b7ac1fc62a013d7e66d5387eeb6fee", func := "staithe/staithelaw25.MatrixNil", spec := "matrixNil", unfollowed := true, recurses := true, apart := false, narrowed := true }
def MatrixNilUptoSaid : Prop := matrixNilUptoRow.holds Try.pinned (OpenSpec.upto matrixNilSpec)

end Rows
end Go.Proofs.Ythikjaoffikigaa
