/-
  No cell of these rows narrows 'for every input' (looked for: loops, veiled, ifaces, maps, wideKeys, modest, calm, conditions, laid).
  DERIVED. THE GIVEN ROWS OF THIS SEAT. 5 by the template 'for every input the law returns true; each argument reads behind the call as it read before'; 0 by the template 'total and deterministic' (their statements: YtlejcbcdjpjjmaaTotals.lean).
  GIVEN WITH THE SEED: the statements are not yours to turn. If you find one false, say at which input.
  Laid BY PROGRAM, IN A SANDBOX (cutbox-rows.mjs): the forced cells as the released guide's own fill.sh prints them over the translation 7bdbb34a271e5345… (all of the seat's roots in one cut). By AI agents, Wed Nov 11 2026. No macro, syntax, notation, axiom, sorry.
-/
import Derived.Test.YtlejcbcdjpjjmaaChecked
import GoSem.Claim
import GoSem.ClaimJoined
import GoSem.ClaimMapViews
import Derived.JoinedTies
import Derived.KernelRfl
namespace Go.Proofs.Ytlejcbcdjpjjmaa
/- THE CELL 'sum', in the pinned program and in every row, IS THE sha256 OF THE DUMP (.gsa) THAT YtlejcbcdjpjjmaaProg.lean LOADS. Nothing in Lean hashes anything: it is a label: what it is worth is what the hold of that sum in a sandbox is worth. -/
noncomputable def Try.pinned : Pinned := { name := "ytlejcbcdjpjjmaa", sum := "7bdbb34a271e5345e0f3531c17d145248b40a3a2ce69afc7f9fb51ef9dcccd74", checked := Try.checked }
namespace Rows
def none {H : Type} : Left H := { results := [], args := [] }

/-- 'staithelaw06.PickAll': WHATEVER THE INPUT: true; the input reads as it did. -/
def pickAllSpec : ChangeSpec := { name := "pickAll", fn := fun _ => fun
  | [d1, d2] => { results := [.lit (.bool true)], args := [d1, d2] }
  | _ => none }
def pickAllRow : OpenClaim := { program := "ytlejcbcdjpjjmaa", sum := "7bdbb34a271e5345e0f3531c17d145248b40a3a2ce69afc7f9fb51ef9dcccd74", func := "staithe/staithelaw06.PickAll", spec := "pickAll", unfollowed := true, recurses := true, apart := false }
def PickAllSaid : Prop := pickAllRow.holds Try.pinned (OpenSpec.ofChange pickAllSpec)

/-- ITS FALSE NEIGHBOUR: 'it returns false'. Refute it at one input. -/
def pickAllWrong : ChangeSpec := { name := "pickAll", fn := fun _ => fun
  | [d1, d2] => { results := [.lit (.bool false)], args := [d1, d2] }
  | _ => none }
def PickAllWrongFalsely : Prop := pickAllRow.holds Try.pinned (OpenSpec.ofChange pickAllWrong)

/-- 'staithelaw06.PickSteps': WHATEVER THE INPUT: true; the input reads as it did. -/
def pickStepsSpec : ChangeSpec := { name := "pickSteps", fn := fun _ => fun
  | [d1, d2, d3] => { results := [.lit (.bool true)], args := [d1, d2, d3] }
  | _ => none }
def pickStepsRow : OpenClaim := { program := "ytlejcbcdjpjjmaa", sum := "7bdbb34a271e5345e0f3531c17d145248b40a3a2ce69afc7f9fb51ef9dcccd74", func := "staithe/staithelaw06.PickSteps", spec := "pickSteps", unfollowed := true, recurses := true, apart := false }
def PickStepsSaid : Prop := pickStepsRow.holds Try.pinned (OpenSpec.ofChange pickStepsSpec)

/-- ITS FALSE NEIGHBOUR: 'it returns false'. Refute it at one input. -/
def pickStepsWrong : ChangeSpec := { name := "pickSteps", fn := fun _ => fun
  | [d1, d2, d3] => { results := [.lit (.bool false)], args := [d1, d2, d3] }
  | _ => none }
def PickStepsWrongFalsely : Prop := pickStepsRow.holds Try.pinned (OpenSpec.ofChange pickStepsWrong)

/-- 'staithelaw06.PickCopies': WHATEVER THE INPUT: true; the input reads as it did. -/
def pickCopiesSpec : ChangeSpec := { name := "pickCopies", fn := fun _ => fun
  | [d1, d2, d3] => { results := [.lit (.bool true)], args := [d1, d2, d3] }
  | _ => none }
def pickCopiesRow : OpenClaim := { program := "ytlejcbcdjpjjmaa", sum := "7bdbb34a271e5345e0f3531c17d145248b40a3a2ce69afc7f9fb51ef9dcccd74", func := "staithe/staithelaw06.PickCopies", spec := "pickCopies", unfollowed := true, recurses := true, apart := false }
def PickCopiesSaid : Prop := pickCopiesRow.holds Try.pinned (OpenSpec.ofChange pickCopiesSpec)

/-- ITS FALSE NEIGHBOUR: 'it returns false'. Refute it at one input. -/
def pickCopiesWrong : ChangeSpec := { name := "pickCopies", fn := fun _ => fun
  | [d1, d2, d3] => { results := [.lit (.bool false)], args := [d1, d2, d3] }
  | _ => none }
def PickCopiesWrongFalsely : Prop := pickCopiesRow.holds Try.pinned (OpenSpec.ofChange pickCopiesWrong)

/-- 'staithelaw06.PickNil': WHATEVER THE INPUT: true; the input reads as it did. -/
def pickNilSpec : ChangeSpec := { name := "pickNil", fn := fun _ => fun
  | [d] => { results := [.lit (.bool true)], args := [d] }
  | _ => none }
def pickNilRow : OpenClaim := { program := "ytlejcbcdjpjjmaa", sum := "7bdbb34a271e5345e0f3531c17d145248b40a3a2ce69afc7f9fb51ef9dcccd74", func := "staithe/staithelaw06.PickNil", spec := "pickNil", unfollowed := true, recurses := true, apart := false }
def PickNilSaid : Prop := pickNilRow.holds Try.pinned (OpenSpec.ofChange pickNilSpec)

/-- ITS FALSE NEIGHBOUR: 'it returns false'. Refute it at one input. -/
def pickNilWrong : ChangeSpec := { name := "pickNil", fn := fun _ => fun
  | [d] => { results := [.lit (.bool false)], args := [d] }
  | _ => none }
def PickNilWrongFalsely : Prop := pickNilRow.holds Try.pinned (OpenSpec.ofChange pickNilWrong)

/-- 'staithelaw06.PickOf': WHATEVER THE INPUT: true; the input reads as it did. -/
def pickOfSpec : ChangeSpec := { name := "pickOf", fn := fun _ => fun
  | [d1, d2, d3] => { results := [.lit (.bool true)], args := [d1, d2, d3] }
  | _ => none }
def pickOfRow : OpenClaim := { program := "ytlejcbcdjpjjmaa", sum := "7bdbb34a271e5345e0f3531c17d145248b40a3a2ce69afc7f9fb51ef9dcccd74", func := "staithe/staithelaw06.PickOf", spec := "pickOf", unfollowed := true, recurses := true, apart := false }
def PickOfSaid : Prop := pickOfRow.holds Try.pinned (OpenSpec.ofChange pickOfSpec)

/-- ITS FALSE NEIGHBOUR: 'it returns false'. Refute it at one input. -/
def pickOfWrong : ChangeSpec := { name := "pickOf", fn := fun _ => fun
  | [d1, d2, d3] => { results := [.lit (.bool false)], args := [d1, d2, d3] }
  | _ => none }
def PickOfWrongFalsely : Prop := pickOfRow.holds Try.pinned (OpenSpec.ofChange pickOfWrong)

/- THE SECOND FORM. 'bulk': how many values and letters a reading holds, each counted each time it is reached (what is shared counts as often as it is met; a slice's spare places count too). A statement '..UptoSaid' is the law's where the arguments, and the package variables that the reading takes, are together of bulk at most 1048576: NARROWER than '..Said'. Prove '..Said' where nothing that the law and all that it calls make is longer than what came in: it says more and counts as full. Else prove '..UptoSaid'. A law counts once. -/
mutual
def uptoBulk {H : Type} : DataW H → Nat
  | .lit (.string bytes) => bytes.length + 1
  | .lit _ => 1
  | .nil => 1
  | .ptr d => uptoBulk d + 1
  | .slice elems spare => uptoBulkAll elems + uptoBulkAll spare + 1
  | .agg parts => uptoBulkAll parts + 1
  | .iface _ d => uptoBulk d + 1
  | .map entries => uptoBulkEntries entries + 1
  | .held _ => 1
def uptoBulkAll {H : Type} : List (DataW H) → Nat
  | [] => 0
  | d :: r => uptoBulk d + uptoBulkAll r
def uptoBulkEntries {H : Type} : List (Lit × DataW H) → Nat
  | [] => 0
  | x :: r => uptoBulkEntry x + uptoBulkEntries r
def uptoBulkEntry {H : Type} : Lit × DataW H → Nat
  | (.string bytes, d) => bytes.length + uptoBulk d + 1
  | (_, d) => uptoBulk d + 1
 end
def uptoSmall : (H : Type) → List (DataW H) → Bool := fun _ ds => decide (uptoBulkAll ds ≤ 1048576)
def OpenSpec.upto (s : _root_.Go.ChangeSpec) : _root_.Go.OpenSpec := { _root_.Go.OpenSpec.ofChange s with cond := some uptoSmall }

/-- 'staithelaw06.PickAll', WHERE WHAT IT READS IS OF BULK AT MOST 1048576: true; the input reads as it did. -/
def pickAllUptoRow : OpenClaim := { program := "ytlejcbcdjpjjmaa", sum := "7bdbb34a271e5345e0f3531c17d145248b40a3a2ce69afc7f9fb51ef9dcccd74", func := "staithe/staithelaw06.PickAll", spec := "pickAll", unfollowed := true, recurses := true, apart := false, narrowed := true }
def PickAllUptoSaid : Prop := pickAllUptoRow.holds Try.pinned (OpenSpec.upto pickAllSpec)

/-- 'staithelaw06.PickSteps', WHERE WHAT IT READS IS OF BULK AT MOST 1048576: true; the input reads as it did. -/
def pickStepsUptoRow : OpenClaim := { program := "ytlejcbcdjpjjmaa", sum := "7bdbb34a271e5345e0f3531c17d145248b40a3a2ce69afc7f9fb51ef9dcccd74", func := "staithe/staithelaw06.PickSteps", spec := "pickSteps", unfollowed := true, recurses := true, apart := false, narrowed := true }
def PickStepsUptoSaid : Prop := pickStepsUptoRow.holds Try.pinned (OpenSpec.upto pickStepsSpec)

/-- 'staithelaw06.PickCopies', WHERE WHAT IT READS IS OF BULK AT MOST 1048576: true; the input reads as it did. -/
def pickCopiesUptoRow : OpenClaim := { program := "ytlejcbcdjpjjmaa", sum := "7bdbb34a271e5345e0f3531c17d145248b40a3a2ce69afc7f9fb51ef9dcccd74", func := "staithe/staithelaw06.PickCopies", spec := "pickCopies", unfollowed := true, recurses := true, apart := false, narrowed := true }
def PickCopiesUptoSaid : Prop := pickCopiesUptoRow.holds Try.pinned (OpenSpec.upto pickCopiesSpec)

/-- 'staithelaw06.PickNil', WHERE WHAT IT READS IS OF BULK AT MOST 1048576: true; the input reads as it did. -/
def pickNilUptoRow : OpenClaim := { program := "ytlejcbcdjpjjmaa", sum := "7bdbb34a271e5345e0f3531c17d145248b40a3a2ce69afc7f9fb51ef9dcccd74", func := "staithe/staithelaw06.PickNil", spec := "pickNil", unfollowed := true, recurses := true, apart := false, narrowed := true }
def PickNilUptoSaid : Prop := pickNilUptoRow.holds Try.pinned (OpenSpec.upto pickNilSpec)

/-- 'staithelaw06.PickOf', WHERE WHAT IT READS IS OF BULK AT MOST 1048576: true; the input reads as it did. -/
def pickOfUptoRow : OpenClaim := { program := "ytlejcbcdjpjjmaa", sum := "7bdbb34a271e5345e0f3531c17d145248b40a3a2ce69afc7f9fb51ef9dcccd74", func := "staithe/staithelaw06.PickOf", spec := "pickOf", unfollowed := true, recurses := true, apart := false, narrowed := true }
def PickOfUptoSaid : Prop := pickOfUptoRow.holds Try.pinned (OpenSpec.upto pickOfSpec)

end Rows
end Go.Proofs.Ytlejcbcdjpjjmaa
