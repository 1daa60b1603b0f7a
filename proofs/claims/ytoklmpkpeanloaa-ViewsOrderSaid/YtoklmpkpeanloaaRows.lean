/-
  No cell of these rows narrows 'for every input' (looked for: loops, veiled, ifaces, maps, wideKeys, modest, calm, conditions, laid).
  DERIVED. THE GIVEN ROWS OF THIS SEAT. 3 by the template 'for every input the law returns true; each argument reads behind the call as it read before'; 0 by the template 'total and deterministic' (their statements: YtoklmpkpeanloaaTotals.lean).
  GIVEN WITH THE SEED: the statements are not yours to turn. If you find one false, say at which input.
  Laid BY PROGRAM, IN A SANDBOX (cutbox-rows.mjs): the forced cells as the released guide's own fill.sh prints them over the translation 698d78f03f3a92de… (all of the seat's roots in one cut). By AI agents, Wed Nov 11 2026. No macro, syntax, notation, axiom, sorry.
-/
import Derived.Test.YtoklmpkpeanloaaChecked
import GoSem.Claim
import GoSem.ClaimJoined
import GoSem.ClaimMapViews
import Derived.JoinedTies
import Derived.KernelRfl
namespace Go.Proofs.Ytoklmpkpeanloaa
/- THE CELL 'sum', in the pinned program and in every row, IS THE sha256 OF THE DUMP (.gsa) THAT YtoklmpkpeanloaaProg.lean LOADS. Nothing in Lean hashes anything: it is a label: what it is worth is what the hold of that sum in a sandbox is worth. -/
noncomputable def Try.pinned : Pinned := { name := "ytoklmpkpeanloaa", sum := "698d78f03f3a92de4babdee2811ced24d3084fd6a9948b13116e06751fca245b", checked := Try.checked }
namespace Rows
def none {H : Type} : Left H := { results := [], args := [] }

/-- 'minsterlaw19.ViewsBytes': WHATEVER THE INPUT: true; the input reads as it did. -/
def viewsBytesSpec : ChangeSpec := { name := "viewsBytes", fn := fun _ => fun
  | [d] => { results := [.lit (.bool true)], args := [d] }
  | _ => none }
def viewsBytesRow : OpenClaim := { program := "ytoklmpkpeanloaa", sum := "698d78f03f3a92de4babdee2811ced24d3084fd6a9948b13116e06751fca245b", func := "minster/minsterlaw19.ViewsBytes", spec := "viewsBytes", unfollowed := true, recurses := true, plainKeys := false, apart := false }
def ViewsBytesSaid : Prop := viewsBytesRow.holds Try.pinned (OpenSpec.ofChange viewsBytesSpec)

/-- ITS FALSE NEIGHBOUR: 'it returns false'. Refute it at one input. -/
def viewsBytesWrong : ChangeSpec := { name := "viewsBytes", fn := fun _ => fun
  | [d] => { results := [.lit (.bool false)], args := [d] }
  | _ => none }
def ViewsBytesWrongFalsely : Prop := viewsBytesRow.holds Try.pinned (OpenSpec.ofChange viewsBytesWrong)

/-- 'minsterlaw07.OrsetBoth': WHATEVER THE INPUT: true; the input reads as it did. -/
def orsetBothSpec : ChangeSpec := { name := "orsetBoth", fn := fun _ => fun
  | [d1, d2, d3, d4] => { results := [.lit (.bool true)], args := [d1, d2, d3, d4] }
  | _ => none }
def orsetBothRow : OpenClaim := { program := "ytoklmpkpeanloaa", sum := "698d78f03f3a92de4babdee2811ced24d3084fd6a9948b13116e06751fca245b", func := "minster/minsterlaw07.OrsetBoth", spec := "orsetBoth", inPlace := ["maps.clone", "slices.overlaps[minster/api.Dot]"], unfollowed := true, recurses := true, plainKeys := false, apart := false }
def OrsetBothSaid : Prop := orsetBothRow.holds Try.pinned (OpenSpec.ofChange orsetBothSpec)

/-- ITS FALSE NEIGHBOUR: 'it returns false'. Refute it at one input. -/
def orsetBothWrong : ChangeSpec := { name := "orsetBoth", fn := fun _ => fun
  | [d1, d2, d3, d4] => { results := [.lit (.bool false)], args := [d1, d2, d3, d4] }
  | _ => none }
def OrsetBothWrongFalsely : Prop := orsetBothRow.holds Try.pinned (OpenSpec.ofChange orsetBothWrong)

/-- 'minsterlaw19.ViewsOrder': WHATEVER THE INPUT: true; the input reads as it did. -/
def viewsOrderSpec : ChangeSpec := { name := "viewsOrder", fn := fun _ => fun
  | [d1, d2] => { results := [.lit (.bool true)], args := [d1, d2] }
  | _ => none }
def viewsOrderRow : OpenClaim := { program := "ytoklmpkpeanloaa", sum := "698d78f03f3a92de4babdee2811ced24d3084fd6a9948b13116e06751fca245b", func := "minster/minsterlaw19.ViewsOrder", spec := "viewsOrder", inPlace := ["maps.clone", "slices.overlaps[minster/api.Dot]"], unfollowed := true, recurses := true, plainKeys := false, apart := false }
def ViewsOrderSaid : Prop := viewsOrderRow.holds Try.pinned (OpenSpec.ofChange viewsOrderSpec)

/-- ITS FALSE NEIGHBOUR: 'it returns false'. Refute it at one input. -/
def viewsOrderWrong : ChangeSpec := { name := "viewsOrder", fn := fun _ => fun
  | [d1, d2] => { results := [.lit (.bool false)], args := [d1, d2] }
  | _ => none }
def ViewsOrderWrongFalsely : Prop := viewsOrderRow.holds Try.pinned (OpenSpec.ofChange viewsOrderWrong)

/- THE SECOND FORM. 'bulk': how many values and letters a reading holds, each counted each time it is reached (what is shared counts as often as it is met; a slice's spare places count too). A statement '..UptoSaid' is the law's where the arguments, and the package variables that the reading takes, are together of bulk at most 1048576: NARROWER than '..Said'. Prove '..Said' where nothing that the law and all that it calls make is longer than what came in: it says more and counts as full. Else prove '..UptoSaid'. A law counts once. -/
mutual
def uptoBulk {H : Type} : DataW H → Nat
  | .lit (.string bytes) => bytes.length + 1
  | .lit _ => 1
  | .nil => 1
  | .ptr d => uptoBulk d + 1
  | .slice elems spare => uptoBulkAll elems + uptoBulkAll spare + 1
  | .agg parts => uptoBulkAll parts + 1
  | .iface _ d => uptoBulk d + 1
  | .map entries => uptoBulkEntries entries + 1
  | .held _ => 1
def uptoBulkAll {H : Type} : List (DataW H) → Nat
  | [] => 0
  | d :: r => uptoBulk d + uptoBulkAll r
def uptoBulkEntries {H : Type} : List (Lit × DataW H) → Nat
  | [] => 0
  | x :: r => uptoBulkEntry x + uptoBulkEntries r
def uptoBulkEntry {H : Type} : Lit × DataW H → Nat
  | (.string bytes, d) => bytes.length + uptoBulk d + 1
  | (_, d) => uptoBulk d + 1
 end
def uptoSmall : (H : Type) → List (DataW H) → Bool := fun _ ds => decide (uptoBulkAll ds ≤ 1048576)
def OpenSpec.upto (s : _root_.Go.ChangeSpec) : _root_.Go.OpenSpec := { _root_.Go.OpenSpec.ofChange s with cond := some uptoSmall }

/-- 'minsterlaw19.ViewsBytes', WHERE WHAT IT READS IS OF BULK AT MOST 1048576: true; the input reads as it did. -/
def viewsBytesUptoRow : OpenClaim := { program := "ytoklmpkpeanloaa", sum := "698d78f03f3a92de4babdee2811ced24d3084fd6a9948b13116e06751fca245b", func := "minster/minsterlaw19.ViewsBytes", spec := "viewsBytes", unfollowed := true, recurses := true, plainKeys := false, apart := false, narrowed := true }
def ViewsBytesUptoSaid : Prop := viewsBytesUptoRow.holds Try.pinned (OpenSpec.upto viewsBytesSpec)

/-- 'minsterlaw07.OrsetBoth', WHERE WHAT IT READS IS OF BULK AT MOST 1048576: true; the input reads as it did. -/
def orsetBothUptoRow : OpenClaim := { program := "ytoklmpkpeanloaa", sum := "698d78f03f3a92de4babdee2811ced24d3084fd6a9948b13116e06751fca245b", func := "minster/minsterlaw07.OrsetBoth", spec := "orsetBoth", inPlace := ["maps.clone", "slices.overlaps[minster/api.Dot]"], unfollowed := true, recurses := true, plainKeys := false, apart := false, narrowed := true }
def OrsetBothUptoSaid : Prop := orsetBothUptoRow.holds Try.pinned (OpenSpec.upto orsetBothSpec)

/-- 'minsterlaw19.ViewsOrder', WHERE WHAT IT READS IS OF BULK AT MOST 1048576: true; the input reads as it did. -/
def viewsOrderUptoRow : OpenClaim := { program := "ytoklmpkpeanloaa", sum := "698d78f03f3a92de4babdee2811ced24d3084fd6a9948b13116e06751fca245b", func := "minster/minsterlaw19.ViewsOrder", spec := "viewsOrder", inPlace := ["maps.clone", "slices.overlaps[minster/api.Dot]"], unfollowed := true, recurses := true, plainKeys := false, apart := false, narrowed := true }
def ViewsOrderUptoSaid : Prop := viewsOrderUptoRow.holds Try.pinned (OpenSpec.upto viewsOrderSpec)

end Rows
end Go.Proofs.Ytoklmpkpeanloaa
