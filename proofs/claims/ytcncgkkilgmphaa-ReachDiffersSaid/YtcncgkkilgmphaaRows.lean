/-
  No cell of these rows narrows 'for every input' (looked for: loops, veiled, ifaces, maps, wideKeys, modest, calm, conditions, laid).
  DERIVED. THE GIVEN ROWS OF THIS SEAT. 3 by the template 'for every input the law returns true; each argument reads behind the call as it read before'; 0 by the template 'total and deterministic' (their statements: YtcncgkkilgmphaaTotals.lean).
  GIVEN WITH THE SEED: the statements are not yours to turn. If you find one false, say at which input.
  Laid BY PROGRAM, IN A SANDBOX (cutbox-rows.mjs): the forced cells as the released guide's own fill.sh prints them over the translation 9edad29f43880621… (all of the seat's roots in one cut). By AI agents, Wed Nov 11 2026. No macro, syntax, notation, axiom, sorry.
-/
import Derived.Test.YtcncgkkilgmphaaChecked
import GoSem.Claim
import GoSem.ClaimJoined
import GoSem.ClaimMapViews
import Derived.JoinedTies
import Derived.KernelRfl
namespace Go.Proofs.Ytcncgkkilgmphaa
/- THE CELL 'sum', in the pinned program and in every row, IS THE sha256 OF THE DUMP (.gsa) THAT YtcncgkkilgmphaaProg.lean LOADS. Nothing in Lean hashes anything: it is a label: what it is worth is what the hold of that sum in a sandbox is worth. -/
noncomputable def Try.pinned : Pinned := { name := "ytcncgkkilgmphaa", sum := "9edad29f43880621c80d67a99e50995760eef5933d80b0cdd67291843611b05f", checked := Try.checked }
namespace Rows
def none {H : Type} : Left H := { results := [], args := [] }

/-- 'marlaw12.ReachClosed': WHATEVER THE INPUT: true; the input reads as it did. -/
def reachClosedSpec : ChangeSpec := { name := "reachClosed", fn := fun _ => fun
  | [d1, d2] => { results := [.lit (.bool true)], args := [d1, d2] }
  | _ => none }
def reachClosedRow : OpenClaim := { program := "ytcncgkkilgmphaa", sum := "9edad29f43880621c80d67a99e50995760eef5933d80b0cdd67291843611b05f", func := "marline/marlaw12.ReachClosed", spec := "reachClosed", inPlace := ["internal/bytealg.IndexByteString"], unfollowed := true, recurses := true, apart := false }
def ReachClosedSaid : Prop := reachClosedRow.holds Try.pinned (OpenSpec.ofChange reachClosedSpec)

/-- ITS FALSE NEIGHBOUR: 'it returns false'. Refute it at one input. -/
def reachClosedWrong : ChangeSpec := { name := "reachClosed", fn := fun _ => fun
  | [d1, d2] => { results := [.lit (.bool false)], args := [d1, d2] }
  | _ => none }
def ReachClosedWrongFalsely : Prop := reachClosedRow.holds Try.pinned (OpenSpec.ofChange reachClosedWrong)

/-- 'marlaw11.DagAsks': WHATEVER THE INPUT: true; the input reads as it did. -/
def dagAsksSpec : ChangeSpec := { name := "dagAsks", fn := fun _ => fun
  | [d1, d2, d3] => { results := [.lit (.bool true)], args := [d1, d2, d3] }
  | _ => none }
def dagAsksRow : OpenClaim := { program := "ytcncgkkilgmphaa", sum := "9edad29f43880621c80d67a99e50995760eef5933d80b0cdd67291843611b05f", func := "marline/marlaw11.DagAsks", spec := "dagAsks", unfollowed := true, recurses := true, apart := false }
def DagAsksSaid : Prop := dagAsksRow.holds Try.pinned (OpenSpec.ofChange dagAsksSpec)

/-- ITS FALSE NEIGHBOUR: 'it returns false'. Refute it at one input. -/
def dagAsksWrong : ChangeSpec := { name := "dagAsks", fn := fun _ => fun
  | [d1, d2, d3] => { results := [.lit (.bool false)], args := [d1, d2, d3] }
  | _ => none }
def DagAsksWrongFalsely : Prop := dagAsksRow.holds Try.pinned (OpenSpec.ofChange dagAsksWrong)

/-- 'marlaw12.ReachDiffers': WHATEVER THE INPUT: true; the input reads as it did. -/
def reachDiffersSpec : ChangeSpec := { name := "reachDiffers", fn := fun _ => fun
  | [d1, d2, d3] => { results := [.lit (.bool true)], args := [d1, d2, d3] }
  | _ => none }
def reachDiffersRow : OpenClaim := { program := "ytcncgkkilgmphaa", sum := "9edad29f43880621c80d67a99e50995760eef5933d80b0cdd67291843611b05f", func := "marline/marlaw12.ReachDiffers", spec := "reachDiffers", inPlace := ["internal/bytealg.IndexByteString"], unfollowed := true, recurses := true, apart := false }
def ReachDiffersSaid : Prop := reachDiffersRow.holds Try.pinned (OpenSpec.ofChange reachDiffersSpec)

/-- ITS FALSE NEIGHBOUR: 'it returns false'. Refute it at one input. -/
def reachDiffersWrong : ChangeSpec := { name := "reachDiffers", fn := fun _ => fun
  | [d1, d2, d3] => { results := [.lit (.bool false)], args := [d1, d2, d3] }
  | _ => none }
def ReachDiffersWrongFalsely : Prop := reachDiffersRow.holds Try.pinned (OpenSpec.ofChange reachDiffersWrong)

/- THE SECOND FORM. 'bulk': how many values and letters a reading holds, each counted each time it is reached (what is shared counts as often as it is met; a slice's spare places count too). A statement '..UptoSaid' is the law's where the arguments, and the package variables that the reading takes, are together of bulk at most 1048576: NARROWER than '..Said'. Prove '..Said' where nothing that the law and all that it calls make is longer than what came in: it says more and counts as full. Else prove '..UptoSaid'. A law counts once. -/
mutual
def uptoBulk {H : Type} : DataW H → Nat
  | .lit (.string bytes) => bytes.length + 1
  | .lit _ => 1
  | .nil => 1
  | .ptr d => uptoBulk d + 1
  | .slice elems spare => uptoBulkAll elems + uptoBulkAll spare + 1
  | .agg parts => uptoBulkAll parts + 1
  | .iface _ d => uptoBulk d + 1
  | .map entries => uptoBulkEntries entries + 1
  | .held _ => 1
def uptoBulkAll {H : Type} : List (DataW H) → Nat
  | [] => 0
  | d :: r => uptoBulk d + uptoBulkAll r
def uptoBulkEntries {H : Type} : List (Lit × DataW H) → Nat
  | [] => 0
  | x :: r => uptoBulkEntry x + uptoBulkEntries r
def uptoBulkEntry {H : Type} : Lit × DataW H → Nat
  | (.string bytes, d) => bytes.length + uptoBulk d + 1
  | (_, d) => uptoBulk d + 1
 end
def uptoSmall : (H : Type) → List (DataW H) → Bool := fun _ ds => decide (uptoBulkAll ds ≤ 1048576)
def OpenSpec.upto (s : _root_.Go.ChangeSpec) : _root_.Go.OpenSpec := { _root_.Go.OpenSpec.ofChange s with cond := some uptoSmall }

/-- 'marlaw12.ReachClosed', WHERE WHAT IT READS IS OF BULK AT MOST 1048576: true; the input reads as it did. -/
def reachClosedUptoRow : OpenClaim := { program := "ytcncgkkilgmphaa", sum := "9edad29f43880621c80d67a99e50995760eef5933d80b0cdd67291843611b05f", func := "marline/marlaw12.ReachClosed", spec := "reachClosed", inPlace := ["internal/bytealg.IndexByteString"], unfollowed := true, recurses := true, apart := false, narrowed := true }
def ReachClosedUptoSaid : Prop := reachClosedUptoRow.holds Try.pinned (OpenSpec.upto reachClosedSpec)

/-- 'marlaw11.DagAsks', WHERE WHAT IT READS IS OF BULK AT MOST 1048576: true; the input reads as it did. -/
def dagAsksUptoRow : OpenClaim := { program := "ytcncgkkilgmphaa", sum := "9edad29f43880621c80d67a99e50995760eef5933d80b0cdd67291843611b05f", func := "marline/marlaw11.DagAsks", spec := "dagAsks", unfollowed := true, recurses := true, apart := false, narrowed := true }
def DagAsksUptoSaid : Prop := dagAsksUptoRow.holds Try.pinned (OpenSpec.upto dagAsksSpec)

/-- 'marlaw12.ReachDiffers', WHERE WHAT IT READS IS OF BULK AT MOST 1048576: true; the input reads as it did. -/
def reachDiffersUptoRow : OpenClaim := { program := "ytcncgkkilgmphaa", sum := "9edad29f43880621c80d67a99e50995760eef5933d80b0cdd67291843611b05f", func := "marline/marlaw12.ReachDiffers", spec := "reachDiffers", inPlace := ["internal/bytealg.IndexByteString"], unfollowed := true, recurses := true, apart := false, narrowed := true }
def ReachDiffersUptoSaid : Prop := reachDiffersUptoRow.holds Try.pinned (OpenSpec.upto reachDiffersSpec)

end Rows
end Go.Proofs.Ytcncgkkilgmphaa
