/-
  No cell of these rows narrows 'for every input' (looked for: loops, veiled, ifaces, maps, wideKeys, modest, calm, conditions, laid).
  DERIVED. THE GIVEN ROWS OF THIS SEAT. 5 by the template 'for every input the law returns true; each argument reads behind the call as it read before'; 0 by the template 'total and deterministic' (their statements: YtmamolfbboffhaaTotals.lean).
  GIVEN WITH THE SEED: the statements are not yours to turn. If you find one false, say at which input.
  Laid BY PROGRAM, IN A SANDBOX (cutbox-rows.mjs): the forced cells as the released guide's own fill.sh prints them over the translation 702aa3270b33c066… (all of the seat's roots in one cut). By AI agents, Wed Nov 11 2026. No macro, syntax, notation, axiom, sorry.
-/
import Derived.Test.YtmamolfbboffhaaChecked
import GoSem.Claim
import GoSem.ClaimJoined
import GoSem.ClaimMapViews
import Derived.JoinedTies
import Derived.KernelRfl
namespace Go.Proofs.Ytmamolfbboffhaa
/- THE CELL 'sum', in the pinned program and in every row, IS THE sha256 OF THE DUMP (.gsa) THAT YtmamolfbboffhaaProg.lean LOADS. Nothing in Lean hashes anything: it is a label: what it is worth is what the hold of that sum in a sandbox is worth. -/
noncomputable def Try.pinned : Pinned := { name := "ytmamolfbboffhaa", sum := "702aa3270b33c066d9b7aebedfb8900f5327424141a47323238f1a2b2bb13ad5", checked := Try.checked }
namespace Rows
def none {H : Type} : Left H := { results := [], args := [] }

/-- 'staithelaw27.WalkTurns': WHATEVER THE INPUT: true; the input reads as it did. -/
def walkTurnsSpec : ChangeSpec := { name := "walkTurns", fn := fun _ => fun
  | [d] => { results := [.lit (.bool true)], args := [d] }
  | _ => none }
def walkTurnsRow : OpenClaim := { program := "ytmamolfbboffhaa", sum := "702aa3270b33c066d9b7aebedfb8900f5327424141a47323238f1a2b2bb13ad5", func := "staithe/staithelaw27.WalkTurns", spec := "walkTurns", apart := false }
def WalkTurnsSaid : Prop := walkTurnsRow.holds Try.pinned (OpenSpec.ofChange walkTurnsSpec)

/-- ITS FALSE NEIGHBOUR: 'it returns false'. Refute it at one input. -/
def walkTurnsWrong : ChangeSpec := { name := "walkTurns", fn := fun _ => fun
  | [d] => { results := [.lit (.bool false)], args := [d] }
  | _ => none }
def WalkTurnsWrongFalsely : Prop := walkTurnsRow.holds Try.pinned (OpenSpec.ofChange walkTurnsWrong)

/-- 'staithelaw27.WalkAreas': WHATEVER THE INPUT: true; the input reads as it did. -/
def walkAreasSpec : ChangeSpec := { name := "walkAreas", fn := fun _ => fun
  | [d1, d2] => { results := [.lit (.bool true)], args := [d1, d2] }
  | _ => none }
def walkAreasRow : OpenClaim := { program := "ytmamolfbboffhaa", sum := "702aa3270b33c066d9b7aebedfb8900f5327424141a47323238f1a2b2bb13ad5", func := "staithe/staithelaw27.WalkAreas", spec := "walkAreas", apart := false }
def WalkAreasSaid : Prop := walkAreasRow.holds Try.pinned (OpenSpec.ofChange walkAreasSpec)

/-- ITS FALSE NEIGHBOUR: 'it returns false'. Refute it at one input. -/
def walkAreasWrong : ChangeSpec := { name := "walkAreas", fn := fun _ => fun
  | [d1, d2] => { results := [.lit (.bool false)], args := [d1, d2] }
  | _ => none }
def WalkAreasWrongFalsely : Prop := walkAreasRow.holds Try.pinned (OpenSpec.ofChange walkAreasWrong)

/-- 'staithelaw27.WalkPaths': WHATEVER THE INPUT: true; the input reads as it did. -/
def walkPathsSpec : ChangeSpec := { name := "walkPaths", fn := fun _ => fun
  | [d] => { results := [.lit (.bool true)], args := [d] }
  | _ => none }
def walkPathsRow : OpenClaim := { program := "ytmamolfbboffhaa", sum := "702aa3270b33c066d9b7aebedfb8900f5327424141a47323238f1a2b2bb13ad5", func := "staithe/staithelaw27.WalkPaths", spec := "walkPaths", apart := false }
def WalkPathsSaid : Prop := walkPathsRow.holds Try.pinned (OpenSpec.ofChange walkPathsSpec)

/-- ITS FALSE NEIGHBOUR: 'it returns false'. Refute it at one input. -/
def walkPathsWrong : ChangeSpec := { name := "walkPaths", fn := fun _ => fun
  | [d] => { results := [.lit (.bool false)], args := [d] }
  | _ => none }
def WalkPathsWrongFalsely : Prop := walkPathsRow.holds Try.pinned (OpenSpec.ofChange walkPathsWrong)

/-- 'staithelaw27.WalkJoins': WHATEVER THE INPUT: true; the input reads as it did. -/
def walkJoinsSpec : ChangeSpec := { name := "walkJoins", fn := fun _ => fun
  | [d1, d2] => { results := [.lit (.bool true)], args := [d1, d2] }
  | _ => none }
def walkJoinsRow : OpenClaim := { program := "ytmamolfbboffhaa", sum := "702aa3270b33c066d9b7aebedfb8900f5327424141a47323238f1a2b2bb13ad5", func := "staithe/staithelaw27.WalkJoins", spec := "walkJoins", apart := false }
def WalkJoinsSaid : Prop := walkJoinsRow.holds Try.pinned (OpenSpec.ofChange walkJoinsSpec)

/-- ITS FALSE NEIGHBOUR: 'it returns false'. Refute it at one input. -/
def walkJoinsWrong : ChangeSpec := { name := "walkJoins", fn := fun _ => fun
  | [d1, d2] => { results := [.lit (.bool false)], args := [d1, d2] }
  | _ => none }
def WalkJoinsWrongFalsely : Prop := walkJoinsRow.holds Try.pinned (OpenSpec.ofChange walkJoinsWrong)

/-- 'staithelaw27.WalkBoxes': WHATEVER THE INPUT: true; the input reads as it did. -/
def walkBoxesSpec : ChangeSpec := { name := "walkBoxes", fn := fun _ => fun
  | [d] => { results := [.lit (.bool true)], args := [d] }
  | _ => none }
def walkBoxesRow : OpenClaim := { program := "ytmamolfbboffhaa", sum := "702aa3270b33c066d9b7aebedfb8900f5327424141a47323238f1a2b2bb13ad5", func := "staithe/staithelaw27.WalkBoxes", spec := "walkBoxes", apart := false }
def WalkBoxesSaid : Prop := walkBoxesRow.holds Try.pinned (OpenSpec.ofChange walkBoxesSpec)

/-- ITS FALSE NEIGHBOUR: 'it returns false'. Refute it at one input. -/
def walkBoxesWrong : ChangeSpec := { name := "walkBoxes", fn := fun _ => fun
  | [d] => { results := [.lit (.bool false)], args := [d] }
  | _ => none }
def WalkBoxesWrongFalsely : Prop := walkBoxesRow.holds Try.pinned (OpenSpec.ofChange walkBoxesWrong)

/- THE SECOND FORM. 'bulk': how many values and letters a reading holds, each counted each time it is reached (what is shared counts as often as it is met; a slice's spare places count too). A statement '..UptoSaid' is the law's where the arguments, and the package variables that the reading takes, are together of bulk at most 1048576: NARROWER than '..Said'. Prove '..Said' where nothing that the law and all that it calls make is longer than what came in: it says more and counts as full. Else prove '..UptoSaid'. A law counts once. -/
mutual
def uptoBulk {H : Type} : DataW H → Nat
  | .lit (.string bytes) => bytes.length + 1
  | .lit _ => 1
  | .nil => 1
  | .ptr d => uptoBulk d + 1
  | .slice elems spare => uptoBulkAll elems + uptoBulkAll spare + 1
  | .agg parts => uptoBulkAll parts + 1
  | .iface _ d => uptoBulk d + 1
  | .map entries => uptoBulkEntries entries + 1
  | .held _ => 1
def uptoBulkAll {H : Type} : List (DataW H) → Nat
  | [] => 0
  | d :: r => uptoBulk d + uptoBulkAll r
def uptoBulkEntries {H : Type} : List (Lit × DataW H) → Nat
  | [] => 0
  | x :: r => uptoBulkEntry x + uptoBulkEntries r
def uptoBulkEntry {H : Type} : Lit × DataW H → Nat
  | (.string bytes, d) => bytes.length + uptoBulk d + 1
  | (_, d) => uptoBulk d + 1
 end
def uptoSmall : (H : Type) → List (DataW H) → Bool := fun _ ds => decide (uptoBulkAll ds ≤ 1048576)
def OpenSpec.upto (s : _root_.Go.ChangeSpec) : _root_.Go.OpenSpec := { _root_.Go.OpenSpec.ofChange s with cond := some uptoSmall }

/-- 'staithelaw27.WalkTurns', WHERE WHAT IT READS IS OF BULK AT MOST 1048576: true; the input reads as it did. -/
def walkTurnsUptoRow : OpenClaim := { program := "ytmamolfbboffhaa", sum := "702aa3270b33c066d9b7aebedfb8900f5327424141a47323238f1a2b2bb13ad5", func := "staithe/staithelaw27.WalkTurns", spec := "walkTurns", apart := false, narrowed := true }
def WalkTurnsUptoSaid : Prop := walkTurnsUptoRow.holds Try.pinned (OpenSpec.upto walkTurnsSpec)

/-- 'staithelaw27.WalkAreas', WHERE WHAT IT READS IS OF BULK AT MOST 1048576: true; the input reads as it did. -/
def walkAreasUptoRow : OpenClaim := { program := "ytmamolfbboffhaa", sum := "702aa3270b33c066d9b7aebedfb8900f5327424141a47323238f1a2b2bb13ad5", func := "staithe/staithelaw27.WalkAreas", spec := "walkAreas", apart := false, narrowed := true }
def WalkAreasUptoSaid : Prop := walkAreasUptoRow.holds Try.pinned (OpenSpec.upto walkAreasSpec)

/-- 'staithelaw27.WalkPaths', WHERE WHAT IT READS IS OF BULK AT MOST 1048576: true; the input reads as it did. -/
def walkPathsUptoRow : OpenClaim := { program := "ytmamolfbboffhaa", sum := "702aa3270b33c066d9b7aebedfb8900f5327424141a47323238f1a2b2bb13ad5", func := "staithe/staithelaw27.WalkPaths", spec := "walkPaths", apart := false, narrowed := true }
def WalkPathsUptoSaid : Prop := walkPathsUptoRow.holds Try.pinned (OpenSpec.upto walkPathsSpec)

/-- 'staithelaw27.WalkJoins', WHERE WHAT IT READS IS OF BULK AT MOST 1048576: true; the input reads as it did. -/
def walkJoinsUptoRow : OpenClaim := { program := "ytmamolfbboffhaa", sum := "702aa3270b33c066d9b7aebedfb8900f5327424141a47323238f1a2b2bb13ad5", func := "staithe/staithelaw27.WalkJoins", spec := "walkJoins", apart := false, narrowed := true }
def WalkJoinsUptoSaid : Prop := walkJoinsUptoRow.holds Try.pinned (OpenSpec.upto walkJoinsSpec)

/-- 'staithelaw27.WalkBoxes', WHERE WHAT IT READS IS OF BULK AT MOST 1048576: true; the input reads as it did. -/
def walkBoxesUptoRow : OpenClaim := { program := "ytmamolfbboffhaa", sum := "702aa3270b33c066d9b7aebedfb8900f5327424141a47323238f1a2b2bb13ad5", func := "staithe/staithelaw27.WalkBoxes", spec := "walkBoxes", apart := false, narrowed := true }
def WalkBoxesUptoSaid : Prop := walkBoxesUptoRow.holds Try.pinned (OpenSpec.upto walkBoxesSpec)

end Rows
end Go.Proofs.Ytmamolfbboffhaa
