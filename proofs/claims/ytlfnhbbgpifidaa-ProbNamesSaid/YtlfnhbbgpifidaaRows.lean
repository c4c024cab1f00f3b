/-
  No cell of these rows narrows 'for every input' (looked for: loops, veiled, ifaces, maps, wideKeys, modest, calm, conditions, laid).
  DERIVED. THE GIVEN ROWS OF THIS SEAT. 6 by the template 'for every input the law returns true; each argument reads behind the call as it read before'; 0 by the template 'total and deterministic' (their statements: YtlfnhbbgpifidaaTotals.lean).
  GIVEN WITH THE SEED: the statements are not yours to turn. If you find one false, say at which input.
  Laid BY PROGRAM, IN A SANDBOX (cutbox-rows.mjs): the forced cells as the released guide's own fill.sh prints them over the translation 7bb888d0d50fa09e… (all of the seat's roots in one cut). By AI agents, Wed Nov 11 2026. No macro, syntax, notation, axiom, sorry.
-/
import Derived.Test.YtlfnhbbgpifidaaChecked
import GoSem.Claim
import GoSem.ClaimJoined
import GoSem.ClaimMapViews
import Derived.JoinedTies
import Derived.KernelRfl
namespace Go.Proofs.Ytlfnhbbgpifidaa
/- THE CELL 'sum', in the pinned program and in every row, IS THE sha256 OF THE DUMP (.gsa) THAT YtlfnhbbgpifidaaProg.lean LOADS. Nothing in Lean hashes anything: it is a label: what it is worth is what the hold of that sum in a sandbox is worth. -/
noncomputable def Try.pinned : Pinned := { name := "ytlfnhbbgpifidaa", sum := "7bb888d0d50fa09e199ddfe3e2d98a319d881ec6edd385c4defc52409732f5b9", checked := Try.checked }
namespace Rows
def none {H : Type} : Left H := { results := [], args := [] }

/-- 'spindlelaw23.ProbNames': WHATEVER THE INPUT: true; the input reads as it did. -/
def probNamesSpec : ChangeSpec := { name := "probNames", fn := fun _ => fun
  | [] => { results := [.lit (.bool true)], args := [] }
  | _ => none }
def probNamesRow : OpenClaim := { program := "ytlfnhbbgpifidaa", sum := "7bb888d0d50fa09e199ddfe3e2d98a319d881ec6edd385c4defc52409732f5b9", func := "spindle/spindlelaw23.ProbNames", spec := "probNames", apart := false }
def ProbNamesSaid : Prop := probNamesRow.holds Try.pinned (OpenSpec.ofChange probNamesSpec)

/-- ITS FALSE NEIGHBOUR: 'it returns false'. Refute it at one input. -/
def probNamesWrong : ChangeSpec := { name := "probNames", fn := fun _ => fun
  | [] => { results := [.lit (.bool false)], args := [] }
  | _ => none }
def ProbNamesWrongFalsely : Prop := probNamesRow.holds Try.pinned (OpenSpec.ofChange probNamesWrong)

/-- 'spindlelaw23.ProbShares': WHATEVER THE INPUT: true; the input reads as it did. -/
def probSharesSpec : ChangeSpec := { name := "probShares", fn := fun _ => fun
  | [d1, d2] => { results := [.lit (.bool true)], args := [d1, d2] }
  | _ => none }
def probSharesRow : OpenClaim := { program := "ytlfnhbbgpifidaa", sum := "7bb888d0d50fa09e199ddfe3e2d98a319d881ec6edd385c4defc52409732f5b9", func := "spindle/spindlelaw23.ProbShares", spec := "probShares", apart := false }
def ProbSharesSaid : Prop := probSharesRow.holds Try.pinned (OpenSpec.ofChange probSharesSpec)

/-- ITS FALSE NEIGHBOUR: 'it returns false'. Refute it at one input. -/
def probSharesWrong : ChangeSpec := { name := "probShares", fn := fun _ => fun
  | [d1, d2] => { results := [.lit (.bool false)], args := [d1, d2] }
  | _ => none }
def ProbSharesWrongFalsely : Prop := probSharesRow.holds Try.pinned (OpenSpec.ofChange probSharesWrong)

/-- 'spindlelaw23.ProbNexts': WHATEVER THE INPUT: true; the input reads as it did. -/
def probNextsSpec : ChangeSpec := { name := "probNexts", fn := fun _ => fun
  | [d1, d2] => { results := [.lit (.bool true)], args := [d1, d2] }
  | _ => none }
def probNextsRow : OpenClaim := { program := "ytlfnhbbgpifidaa", sum := "7bb888d0d50fa09e199ddfe3e2d98a319d881ec6edd385c4defc52409732f5b9", func := "spindle/spindlelaw23.ProbNexts", spec := "probNexts", apart := false }
def ProbNextsSaid : Prop := probNextsRow.holds Try.pinned (OpenSpec.ofChange probNextsSpec)

/-- ITS FALSE NEIGHBOUR: 'it returns false'. Refute it at one input. -/
def probNextsWrong : ChangeSpec := { name := "probNexts", fn := fun _ => fun
  | [d1, d2] => { results := [.lit (.bool false)], args := [d1, d2] }
  | _ => none }
def ProbNextsWrongFalsely : Prop := probNextsRow.holds Try.pinned (OpenSpec.ofChange probNextsWrong)

/-- 'spindlelaw23.ProbBounds': WHATEVER THE INPUT: true; the input reads as it did. -/
def probBoundsSpec : ChangeSpec := { name := "probBounds", fn := fun _ => fun
  | [d1, d2] => { results := [.lit (.bool true)], args := [d1, d2] }
  | _ => none }
def probBoundsRow : OpenClaim := { program := "ytlfnhbbgpifidaa", sum := "7bb888d0d50fa09e199ddfe3e2d98a319d881ec6edd385c4defc52409732f5b9", func := "spindle/spindlelaw23.ProbBounds", spec := "probBounds", apart := false }
def ProbBoundsSaid : Prop := probBoundsRow.holds Try.pinned (OpenSpec.ofChange probBoundsSpec)

/-- ITS FALSE NEIGHBOUR: 'it returns false'. Refute it at one input. -/
def probBoundsWrong : ChangeSpec := { name := "probBounds", fn := fun _ => fun
  | [d1, d2] => { results := [.lit (.bool false)], args := [d1, d2] }
  | _ => none }
def ProbBoundsWrongFalsely : Prop := probBoundsRow.holds Try.pinned (OpenSpec.ofChange probBoundsWrong)

/-- 'spindlelaw23.ProbSteps': WHATEVER THE INPUT: true; the input reads as it did. -/
def probStepsSpec : ChangeSpec := { name := "probSteps", fn := fun _ => fun
  | [d1, d2] => { results := [.lit (.bool true)], args := [d1, d2] }
  | _ => none }
def probStepsRow : OpenClaim := { program := "ytlfnhbbgpifidaa", sum := "7bb888d0d50fa09e199ddfe3e2d98a319d881ec6edd385c4defc52409732f5b9", func := "spindle/spindlelaw23.ProbSteps", spec := "probSteps", apart := false }
def ProbStepsSaid : Prop := probStepsRow.holds Try.pinned (OpenSpec.ofChange probStepsSpec)

/-- ITS FALSE NEIGHBOUR: 'it returns false'. Refute it at one input. -/
def probStepsWrong : ChangeSpec := { name := "probSteps", fn := fun _ => fun
  | [d1, d2] => { results := [.lit (.bool false)], args := [d1, d2] }
  | _ => none }
def ProbStepsWrongFalsely : Prop := probStepsRow.holds Try.pinned (OpenSpec.ofChange probStepsWrong)

/-- 'spindlelaw23.ProbLearns': WHATEVER THE INPUT: true; the input reads as it did. -/
def probLearnsSpec : ChangeSpec := { name := "probLearns", fn := fun _ => fun
  | [d1, d2] => { results := [.lit (.bool true)], args := [d1, d2] }
  | _ => none }
def probLearnsRow : OpenClaim := { program := "ytlfnhbbgpifidaa", sum := "7bb888d0d50fa09e199ddfe3e2d98a319d881ec6edd385c4defc52409732f5b9", func := "spindle/spindlelaw23.ProbLearns", spec := "probLearns", apart := false }
def ProbLearnsSaid : Prop := probLearnsRow.holds Try.pinned (OpenSpec.ofChange probLearnsSpec)

/-- ITS FALSE NEIGHBOUR: 'it returns false'. Refute it at one input. -/
def probLearnsWrong : ChangeSpec := { name := "probLearns", fn := fun _ => fun
  | [d1, d2] => { results := [.lit (.bool false)], args := [d1, d2] }
  | _ => none }
def ProbLearnsWrongFalsely : Prop := probLearnsRow.holds Try.pinned (OpenSpec.ofChange probLearnsWrong)

/- THE SECOND FORM. 'bulk': how many values and letters a reading holds, each counted each time it is reached (what is shared counts as often as it is met; a slice's spare places count too). A statement '..UptoSaid' is the law's where the arguments, and the package variables that the reading takes, are together of bulk at most 1048576: NARROWER than '..Said'. Prove '..Said' where nothing that the law and all that it calls make is longer than what came in: it says more and counts as full. Else prove '..UptoSaid'. A law counts once. -/
mutual
def uptoBulk {H : Type} : DataW H → Nat
  | .lit (.string bytes) => bytes.length + 1
  | .lit _ => 1
  | .nil => 1
  | .ptr d => uptoBulk d + 1
  | .slice elems spare => uptoBulkAll elems + uptoBulkAll spare + 1
  | .agg parts => uptoBulkAll parts + 1
  | .iface _ d => uptoBulk d + 1
  | .map entries => uptoBulkEntries entries + 1
  | .held _ => 1
def uptoBulkAll {H : Type} : List (DataW H) → Nat
  | [] => 0
  | d :: r => uptoBulk d + uptoBulkAll r
def uptoBulkEntries {H : Type} : List (Lit × DataW H) → Nat
  | [] => 0
  | x :: r => uptoBulkEntry x + uptoBulkEntries r
def uptoBulkEntry {H : Type} : Lit × DataW H → Nat
  | (.string bytes, d) => bytes.length + uptoBulk d + 1
  | (_, d) => uptoBulk d + 1
 end
def uptoSmall : (H : Type) → List (DataW H) → Bool := fun _ ds => decide (uptoBulkAll ds ≤ 1048576)
def OpenSpec.upto (s : _root_.Go.ChangeSpec) : _root_.Go.OpenSpec := { _root_.Go.OpenSpec.ofChange s with cond := some uptoSmall }

/-- 'spindlelaw23.ProbNames', WHERE WHAT IT READS IS OF BULK AT MOST 1048576: true; the input reads as it did. -/
def probNamesUptoRow : OpenClaim := { program := "ytlfnhbbgpifidaa", sum := "7bb888d0d50fa09e199ddfe3e2d98a319d881ec6edd385c4defc52409732f5b9", func := "spindle/spindlelaw23.ProbNames", spec := "probNames", apart := false, narrowed := true }
def ProbNamesUptoSaid : Prop := probNamesUptoRow.holds Try.pinned (OpenSpec.upto probNamesSpec)

/-- 'spindlelaw23.ProbShares', WHERE WHAT IT READS IS OF BULK AT MOST 1048576: true; the input reads as it did. -/
def probSharesUptoRow : OpenClaim := { program := "ytlfnhbbgpifidaa", sum := "7bb888d0d50fa09e199ddfe3e2d98a319d881ec6edd385c4defc52409732f5b9", func := "spindle/spindlelaw23.ProbShares", spec := "probShares", apart := false, narrowed := true }
def ProbSharesUptoSaid : Prop := probSharesUptoRow.holds Try.pinned (OpenSpec.upto probSharesSpec)

/-- 'spindlelaw23.ProbNexts', WHERE WHAT IT READS IS OF BULK AT MOST 1048576: true; the input reads as it did. -/
def probNextsUptoRow : OpenClaim := { program := "ytlfnhbbgpifidaa", sum := "7bb888d0d50fa09e199ddfe3e2d98a319d881ec6edd385c4defc52409732f5b9", func := "spindle/spindlelaw23.ProbNexts", spec := "probNexts", apart := false, narrowed := true }
def ProbNextsUptoSaid : Prop := probNextsUptoRow.holds Try.pinned (OpenSpec.upto probNextsSpec)

/-- 'spindlelaw23.ProbBounds', WHERE WHAT IT READS IS OF BULK AT MOST 1048576: true; the input reads as it did. -/
def probBoundsUptoRow : OpenClaim := { program := "ytlfnhbbgpifidaa", sum := "7bb888d0d50fa09e199ddfe3e2d98a319d881ec6edd385c4defc52409732f5b9", func := "spindle/spindlelaw23.ProbBounds", spec := "probBounds", apart := false, narrowed := true }
def ProbBoundsUptoSaid : Prop := probBoundsUptoRow.holds Try.pinned (OpenSpec.upto probBoundsSpec)

/-- 'spindlelaw23.ProbSteps', WHERE WHAT IT READS IS OF BULK AT MOST 1048576: true; the input reads as it did. -/
def probStepsUptoRow : OpenClaim := { program := "ytlfnhbbgpifidaa", sum := "7bb888d0d50fa09e199ddfe3e2d98a319d881ec6edd385c4defc52409732f5b9", func := "spindle/spindlelaw23.ProbSteps", spec := "probSteps", apart := false, narrowed := true }
def ProbStepsUptoSaid : Prop := probStepsUptoRow.holds Try.pinned (OpenSpec.upto probStepsSpec)

/-- 'spindlelaw23.ProbLearns', WHERE WHAT IT READS IS OF BULK AT MOST 1048576: true; the input reads as it did. -/
def probLearnsUptoRow : OpenClaim := { program := "ytlfnhbbgpifidaa", sum := "7bb888d0d50fa09e199ddfe3e2d98a319d881ec6edd385c4defc52409732f5b9", func := "spindle/spindlelaw23.ProbLearns", spec := "probLearns", apart := false, narrowed := true }
def ProbLearnsUptoSaid : Prop := probLearnsUptoRow.holds Try.pinned (OpenSpec.upto probLearnsSpec)

end Rows
end Go.Proofs.Ytlfnhbbgpifidaa
