/-
  No cell of these rows narrows 'for every input' (looked for: loops, veiled, ifaces, maps, wideKeys, modest, calm, conditions, laid).
  DERIVED. THE GIVEN ROWS OF THIS SEAT. 4 by the template 'for every input the law returns true; each argument reads behind the call as it read before'; 0 by the template 'total and deterministic' (their statements: YtpdifebbbolheaaTotals.lean).
  GIVEN WITH THE SEED: the statements are not yours to turn. If you find one false, say at which input.
  Laid BY PROGRAM, IN A SANDBOX (cutbox-rows.mjs): the forced cells as the released guide's own fill.sh prints them over the translation 5117fffee4e47284… (all of the seat's roots in one cut). By AI agents, Wed Nov 11 2026. No macro, syntax, notation, axiom, sorry.
-/
import Derived.Test.YtpdifebbbolheaaChecked
import GoSem.Claim
import GoSem.ClaimJoined
import GoSem.ClaimMapViews
import Derived.JoinedTies
import Derived.KernelRfl
namespace Go.Proofs.Ytpdifebbbolheaa
/- THE CELL 'sum', in the pinned program and in every row, IS THE sha256 OF THE DUMP (.gsa) THAT YtpdifebbbolheaaProg.lean LOADS. Nothing in Lean hashes anything: it is a label: what it is worth is what the hold of that sum in a sandbox is worth. -/
noncomputable def Try.pinned : Pinned := { name := "ytpdifebbbolheaa", sum := "5117fffee4e47284e7e04558d5eb8be0e348e46caf4993b3dd2664a67242b9c7", checked := Try.checked }
namespace Rows
def none {H : Type} : Left H := { results := [], args := [] }

/-- 'tidemarklaw12.EpochLeaves': WHATEVER THE INPUT: true; the input reads as it did. -/
def epochLeavesSpec : ChangeSpec := { name := "epochLeaves", fn := fun _ => fun
  | [d1, d2, d3, d4] => { results := [.lit (.bool true)], args := [d1, d2, d3, d4] }
  | _ => none }
def epochLeavesRow : OpenClaim := { program := "ytpdifebbbolheaa", sum := "5117fffee4e47284e7e04558d5eb8be0e348e46caf4993b3dd2664a67242b9c7", func := "tidemark/tidemarklaw12.EpochLeaves", spec := "epochLeaves", apart := false }
def EpochLeavesSaid : Prop := epochLeavesRow.holds Try.pinned (OpenSpec.ofChange epochLeavesSpec)

/-- ITS FALSE NEIGHBOUR: 'it returns false'. Refute it at one input. -/
def epochLeavesWrong : ChangeSpec := { name := "epochLeaves", fn := fun _ => fun
  | [d1, d2, d3, d4] => { results := [.lit (.bool false)], args := [d1, d2, d3, d4] }
  | _ => none }
def EpochLeavesWrongFalsely : Prop := epochLeavesRow.holds Try.pinned (OpenSpec.ofChange epochLeavesWrong)

/-- 'tidemarklaw12.EpochTells': WHATEVER THE INPUT: true; the input reads as it did. -/
def epochTellsSpec : ChangeSpec := { name := "epochTells", fn := fun _ => fun
  | [d1, d2, d3] => { results := [.lit (.bool true)], args := [d1, d2, d3] }
  | _ => none }
def epochTellsRow : OpenClaim := { program := "ytpdifebbbolheaa", sum := "5117fffee4e47284e7e04558d5eb8be0e348e46caf4993b3dd2664a67242b9c7", func := "tidemark/tidemarklaw12.EpochTells", spec := "epochTells", apart := false }
def EpochTellsSaid : Prop := epochTellsRow.holds Try.pinned (OpenSpec.ofChange epochTellsSpec)

/-- ITS FALSE NEIGHBOUR: 'it returns false'. Refute it at one input. -/
def epochTellsWrong : ChangeSpec := { name := "epochTells", fn := fun _ => fun
  | [d1, d2, d3] => { results := [.lit (.bool false)], args := [d1, d2, d3] }
  | _ => none }
def EpochTellsWrongFalsely : Prop := epochTellsRow.holds Try.pinned (OpenSpec.ofChange epochTellsWrong)

/-- 'tidemarklaw12.EpochSafe': WHATEVER THE INPUT: true; the input reads as it did. -/
def epochSafeSpec : ChangeSpec := { name := "epochSafe", fn := fun _ => fun
  | [d1, d2, d3] => { results := [.lit (.bool true)], args := [d1, d2, d3] }
  | _ => none }
def epochSafeRow : OpenClaim := { program := "ytpdifebbbolheaa", sum := "5117fffee4e47284e7e04558d5eb8be0e348e46caf4993b3dd2664a67242b9c7", func := "tidemark/tidemarklaw12.EpochSafe", spec := "epochSafe", apart := false }
def EpochSafeSaid : Prop := epochSafeRow.holds Try.pinned (OpenSpec.ofChange epochSafeSpec)

/-- ITS FALSE NEIGHBOUR: 'it returns false'. Refute it at one input. -/
def epochSafeWrong : ChangeSpec := { name := "epochSafe", fn := fun _ => fun
  | [d1, d2, d3] => { results := [.lit (.bool false)], args := [d1, d2, d3] }
  | _ => none }
def EpochSafeWrongFalsely : Prop := epochSafeRow.holds Try.pinned (OpenSpec.ofChange epochSafeWrong)

/-- 'tidemarklaw12.EpochIn': WHATEVER THE INPUT: true; the input reads as it did. -/
def epochInSpec : ChangeSpec := { name := "epochIn", fn := fun _ => fun
  | [d1, d2] => { results := [.lit (.bool true)], args := [d1, d2] }
  | _ => none }
def epochInRow : OpenClaim := { program := "ytpdifebbbolheaa", sum := "5117fffee4e47284e7e04558d5eb8be0e348e46caf4993b3dd2664a67242b9c7", func := "tidemark/tidemarklaw12.EpochIn", spec := "epochIn", apart := false }
def EpochInSaid : Prop := epochInRow.holds Try.pinned (OpenSpec.ofChange epochInSpec)

/-- ITS FALSE NEIGHBOUR: 'it returns false'. Refute it at one input. -/
def epochInWrong : ChangeSpec := { name := "epochIn", fn := fun _ => fun
  | [d1, d2] => { results := [.lit (.bool false)], args := [d1, d2] }
  | _ => none }
def EpochInWrongFalsely : Prop := epochInRow.holds Try.pinned (OpenSpec.ofChange epochInWrong)

/- THE SECOND FORM. 'bulk': how many values and letters a reading holds, each counted each time it is reached (what is shared counts as often as it is met; a slice's spare places count too). A statement '..UptoSaid' is the law's where the arguments, and the package variables that the reading takes, are together of bulk at most 1048576: NARROWER than '..Said'. Prove '..Said' where nothing that the law and all that it calls make is longer than what came in: it says more and counts as full. Else prove '..UptoSaid'. A law counts once. -/
mutual
def uptoBulk {H : Type} : DataW H → Nat
  | .lit (.string bytes) => bytes.length + 1
  | .lit _ => 1
  | .nil => 1
  | .ptr d => uptoBulk d + 1
  | .slice elems spare => uptoBulkAll elems + uptoBulkAll spare + 1
  | .agg parts => uptoBulkAll parts + 1
  | .iface _ d => uptoBulk d + 1
  | .map entries => uptoBulkEntries entries + 1
  | .held _ => 1
def uptoBulkAll {H : Type} : List (DataW H) → Nat
  | [] => 0
  | d :: r => uptoBulk d + uptoBulkAll r
def uptoBulkEntries {H : Type} : List (Lit × DataW H) → Nat
  | [] => 0
  | x :: r => uptoBulkEntry x + uptoBulkEntries r
def uptoBulkEntry {H : Type} : Lit × DataW H → Nat
  | (.string bytes, d) => bytes.length + uptoBulk d + 1
  | (_, d) => uptoBulk d + 1
 end
def uptoSmall : (H : Type) → List (DataW H) → Bool := fun _ ds => decide (uptoBulkAll ds ≤ 1048576)
def OpenSpec.upto (s : _root_.Go.ChangeSpec) : _root_.Go.OpenSpec := { _root_.Go.OpenSpec.ofChange s with cond := some uptoSmall }

/-- 'tidemarklaw12.EpochLeaves', WHERE WHAT IT READS IS OF BULK AT MOST 1048576: true; the input reads as it did. -/
def epochLeavesUptoRow : OpenClaim := { program := "ytpdifebbbolheaa", sum := "5117fffee4e47284e7e04558d5eb8be0e348e46caf4993b3dd2664a67242b9c7", func := "tidemark/tidemarklaw12.EpochLeaves", spec := "epochLeaves", apart := false, narrowed := true }
def EpochLeavesUptoSaid : Prop := epochLeavesUptoRow.holds Try.pinned (OpenSpec.upto epochLeavesSpec)

/-- 'tidemarklaw12.EpochTells', WHERE WHAT IT READS IS OF BULK AT MOST 1048576: true; the input reads as it did. -/
def epochTellsUptoRow : OpenClaim := { program := "ytpdifebbbolheaa", sum := "5117fffee4e47284e7e04558d5eb8be0e348e46caf4993b3dd2664a67242b9c7", func := "tidemark/tidemarklaw12.EpochTells", spec := "epochTells", apart := false, narrowed := true }
def EpochTellsUptoSaid : Prop := epochTellsUptoRow.holds Try.pinned (OpenSpec.upto epochTellsSpec)

/-- 'tidemarklaw12.EpochSafe', WHERE WHAT IT READS IS OF BULK AT MOST 1048576: true; the input reads as it did. -/
def epochSafeUptoRow : OpenClaim := { program := "ytpdifebbbolheaa", sum := "5117fffee4e47284e7e04558d5eb8be0e348e46caf4993b3dd2664a67242b9c7", func := "tidemark/tidemarklaw12.EpochSafe", spec := "epochSafe", apart := false, narrowed := true }
def EpochSafeUptoSaid : Prop := epochSafeUptoRow.holds Try.pinned (OpenSpec.upto epochSafeSpec)

/-- 'tidemarklaw12.EpochIn', WHERE WHAT IT READS IS OF BULK AT MOST 1048576: true; the input reads as it did. -/
def epochInUptoRow : OpenClaim := { program := "ytpdifebbbolheaa", sum := "5117fffee4e47284e7e04558d5eb8be0e348e46caf4993b3dd2664a67242b9c7", func := "tidemark/tidemarklaw12.EpochIn", spec := "epochIn", apart := false, narrowed := true }
def EpochInUptoSaid : Prop := epochInUptoRow.holds Try.pinned (OpenSpec.upto epochInSpec)

end Rows
end Go.Proofs.Ytpdifebbbolheaa
