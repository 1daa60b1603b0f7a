/-
  No cell of these rows narrows 'for every input' (looked for: loops, veiled, ifaces, maps, wideKeys, modest, calm, conditions, laid).
  DERIVED. THE GIVEN ROWS OF THIS SEAT. 10 by the template 'for every input the law returns true; each argument reads behind the call as it read before'; 0 by the template 'total and deterministic' (their statements: YtoklmpkpeanloaaGreatTotals.lean).
  GIVEN WITH THE SEED: the statements are not yours to turn. If you find one false, say at which input.
  Laid BY PROGRAM, IN A SANDBOX (cutbox-rows.mjs): the forced cells as the released guide's own fill.sh prints them over the translation c0d4b18426ddb409… (all of the seat's roots in one cut). By AI agents, Wed Nov 11 2026. No macro, syntax, notation, axiom, sorry.
-/
import Derived.Test.YtoklmpkpeanloaaGreatChecked
import GoSem.Claim
import GoSem.ClaimJoined
import GoSem.ClaimMapViews
import Derived.JoinedTies
import Derived.KernelRfl
namespace Go.Proofs.YtoklmpkpeanloaaGreat
/- THE CELL 'sum', in the pinned program and in every row, IS THE sha256 OF THE DUMP (.gsa) THAT YtoklmpkpeanloaaGreatProg.lean LOADS. Nothing in Lean hashes anything: it is a label: what it is worth is what the hold of that sum in a sandbox is worth. -/
noncomputable def Tryz.pinned : Pinned := { name := "ytoklmpkpeanloaagreat", sum := "c0d4b18426ddb409d4855b70f8587fff37f563ff9179d59268fd035e1164e547", checked := Tryz.checked }
namespace Rows
def none {H : Type} : Left H := { results := [], args := [] }

/-- 'minsterlaw07.OrsetOrder': WHATEVER THE INPUT: true; the input reads as it did. -/
def orsetOrderSpec : ChangeSpec := { name := "orsetOrder", fn := fun _ => fun
  | [d1, d2, d3] => { results := [.lit (.bool true)], args := [d1, d2, d3] }
  | _ => none }
def orsetOrderRow : OpenClaim := { program := "ytoklmpkpeanloaagreat", sum := "c0d4b18426ddb409d4855b70f8587fff37f563ff9179d59268fd035e1164e547", func := "minster/minsterlaw07.OrsetOrder", spec := "orsetOrder", inPlace := ["maps.clone", "slices.overlaps[minster/api.Dot]"], unfollowed := true, recurses := true, plainKeys := false, apart := false }
def OrsetOrderSaid : Prop := orsetOrderRow.holds Tryz.pinned (OpenSpec.ofChange orsetOrderSpec)

/-- ITS FALSE NEIGHBOUR: 'it returns false'. Refute it at one input. -/
def orsetOrderWrong : ChangeSpec := { name := "orsetOrder", fn := fun _ => fun
  | [d1, d2, d3] => { results := [.lit (.bool false)], args := [d1, d2, d3] }
  | _ => none }
def OrsetOrderWrongFalsely : Prop := orsetOrderRow.holds Tryz.pinned (OpenSpec.ofChange orsetOrderWrong)

/-- 'minsterlaw07.OrsetLooks': WHATEVER THE INPUT: true; the input reads as it did. -/
def orsetLooksSpec : ChangeSpec := { name := "orsetLooks", fn := fun _ => fun
  | [d1, d2, d3, d4] => { results := [.lit (.bool true)], args := [d1, d2, d3, d4] }
  | _ => none }
def orsetLooksRow : OpenClaim := { program := "ytoklmpkpeanloaagreat", sum := "c0d4b18426ddb409d4855b70f8587fff37f563ff9179d59268fd035e1164e547", func := "minster/minsterlaw07.OrsetLooks", spec := "orsetLooks", inPlace := ["maps.clone", "slices.overlaps[minster/api.Dot]"], unfollowed := true, recurses := true, plainKeys := false, apart := false }
def OrsetLooksSaid : Prop := orsetLooksRow.holds Tryz.pinned (OpenSpec.ofChange orsetLooksSpec)

/-- ITS FALSE NEIGHBOUR: 'it returns false'. Refute it at one input. -/
def orsetLooksWrong : ChangeSpec := { name := "orsetLooks", fn := fun _ => fun
  | [d1, d2, d3, d4] => { results := [.lit (.bool false)], args := [d1, d2, d3, d4] }
  | _ => none }
def OrsetLooksWrongFalsely : Prop := orsetLooksRow.holds Tryz.pinned (OpenSpec.ofChange orsetLooksWrong)

/-- 'minsterlaw07.OrsetPlays': WHATEVER THE INPUT: true; the input reads as it did. -/
def orsetPlaysSpec : ChangeSpec := { name := "orsetPlays", fn := fun _ => fun
  | [d] => { results := [.lit (.bool true)], args := [d] }
  | _ => none }
def orsetPlaysRow : OpenClaim := { program := "ytoklmpkpeanloaagreat", sum := "c0d4b18426ddb409d4855b70f8587fff37f563ff9179d59268fd035e1164e547", func := "minster/minsterlaw07.OrsetPlays", spec := "orsetPlays", inPlace := ["maps.clone", "slices.overlaps[minster/api.Dot]"], unfollowed := true, recurses := true, plainKeys := false, apart := false }
def OrsetPlaysSaid : Prop := orsetPlaysRow.holds Tryz.pinned (OpenSpec.ofChange orsetPlaysSpec)

/-- ITS FALSE NEIGHBOUR: 'it returns false'. Refute it at one input. -/
def orsetPlaysWrong : ChangeSpec := { name := "orsetPlays", fn := fun _ => fun
  | [d] => { results := [.lit (.bool false)], args := [d] }
  | _ => none }
def OrsetPlaysWrongFalsely : Prop := orsetPlaysRow.holds Tryz.pinned (OpenSpec.ofChange orsetPlaysWrong)

/-- 'minsterlaw19.ViewsNil': WHATEVER THE INPUT: true; the input reads as it did. -/
def viewsNilSpec : ChangeSpec := { name := "viewsNil", fn := fun _ => fun
  | [] => { results := [.lit (.bool true)], args := [] }
  | _ => none }
def viewsNilRow : OpenClaim := { program := "ytoklmpkpeanloaagreat", sum := "c0d4b18426ddb409d4855b70f8587fff37f563ff9179d59268fd035e1164e547", func := "minster/minsterlaw19.ViewsNil", spec := "viewsNil", inPlace := ["maps.clone"], unfollowed := true, recurses := true, plainKeys := false, apart := false }
def ViewsNilSaid : Prop := viewsNilRow.holds Tryz.pinned (OpenSpec.ofChange viewsNilSpec)

/-- ITS FALSE NEIGHBOUR: 'it returns false'. Refute it at one input. -/
def viewsNilWrong : ChangeSpec := { name := "viewsNil", fn := fun _ => fun
  | [] => { results := [.lit (.bool false)], args := [] }
  | _ => none }
def ViewsNilWrongFalsely : Prop := viewsNilRow.holds Tryz.pinned (OpenSpec.ofChange viewsNilWrong)

/-- 'minsterlaw07.OrsetCollects': WHATEVER THE INPUT: true; the input reads as it did. -/
def orsetCollectsSpec : ChangeSpec := { name := "orsetCollects", fn := fun _ => fun
  | [d1, d2] => { results := [.lit (.bool true)], args := [d1, d2] }
  | _ => none }
def orsetCollectsRow : OpenClaim := { program := "ytoklmpkpeanloaagreat", sum := "c0d4b18426ddb409d4855b70f8587fff37f563ff9179d59268fd035e1164e547", func := "minster/minsterlaw07.OrsetCollects", spec := "orsetCollects", inPlace := ["maps.clone", "slices.overlaps[minster/api.Dot]"], unfollowed := true, recurses := true, plainKeys := false, apart := false }
def OrsetCollectsSaid : Prop := orsetCollectsRow.holds Tryz.pinned (OpenSpec.ofChange orsetCollectsSpec)

/-- ITS FALSE NEIGHBOUR: 'it returns false'. Refute it at one input. -/
def orsetCollectsWrong : ChangeSpec := { name := "orsetCollects", fn := fun _ => fun
  | [d1, d2] => { results := [.lit (.bool false)], args := [d1, d2] }
  | _ => none }
def OrsetCollectsWrongFalsely : Prop := orsetCollectsRow.holds Tryz.pinned (OpenSpec.ofChange orsetCollectsWrong)

/-- 'minsterlaw19.ViewsDiff': WHATEVER THE INPUT: true; the input reads as it did. -/
def viewsDiffSpec : ChangeSpec := { name := "viewsDiff", fn := fun _ => fun
  | [d1, d2] => { results := [.lit (.bool true)], args := [d1, d2] }
  | _ => none }
def viewsDiffRow : OpenClaim := { program := "ytoklmpkpeanloaagreat", sum := "c0d4b18426ddb409d4855b70f8587fff37f563ff9179d59268fd035e1164e547", func := "minster/minsterlaw19.ViewsDiff", spec := "viewsDiff", inPlace := ["maps.clone", "slices.overlaps[minster/api.Dot]"], unfollowed := true, recurses := true, plainKeys := false, apart := false }
def ViewsDiffSaid : Prop := viewsDiffRow.holds Tryz.pinned (OpenSpec.ofChange viewsDiffSpec)

/-- ITS FALSE NEIGHBOUR: 'it returns false'. Refute it at one input. -/
def viewsDiffWrong : ChangeSpec := { name := "viewsDiff", fn := fun _ => fun
  | [d1, d2] => { results := [.lit (.bool false)], args := [d1, d2] }
  | _ => none }
def ViewsDiffWrongFalsely : Prop := viewsDiffRow.holds Tryz.pinned (OpenSpec.ofChange viewsDiffWrong)

/-- 'minsterlaw07.OrsetOf': WHATEVER THE INPUT: true; the input reads as it did. -/
def orsetOfSpec : ChangeSpec := { name := "orsetOf", fn := fun _ => fun
  | [d1, d2, d3] => { results := [.lit (.bool true)], args := [d1, d2, d3] }
  | _ => none }
def orsetOfRow : OpenClaim := { program := "ytoklmpkpeanloaagreat", sum := "c0d4b18426ddb409d4855b70f8587fff37f563ff9179d59268fd035e1164e547", func := "minster/minsterlaw07.OrsetOf", spec := "orsetOf", inPlace := ["maps.clone", "slices.overlaps[minster/api.Dot]"], unfollowed := true, recurses := true, plainKeys := false, apart := false }
def OrsetOfSaid : Prop := orsetOfRow.holds Tryz.pinned (OpenSpec.ofChange orsetOfSpec)

/-- ITS FALSE NEIGHBOUR: 'it returns false'. Refute it at one input. -/
def orsetOfWrong : ChangeSpec := { name := "orsetOf", fn := fun _ => fun
  | [d1, d2, d3] => { results := [.lit (.bool false)], args := [d1, d2, d3] }
  | _ => none }
def OrsetOfWrongFalsely : Prop := orsetOfRow.holds Tryz.pinned (OpenSpec.ofChange orsetOfWrong)

/-- 'minsterlaw19.ViewsTell': WHATEVER THE INPUT: true; the input reads as it did. -/
def viewsTellSpec : ChangeSpec := { name := "viewsTell", fn := fun _ => fun
  | [d1, d2] => { results := [.lit (.bool true)], args := [d1, d2] }
  | _ => none }
def viewsTellRow : OpenClaim := { program := "ytoklmpkpeanloaagreat", sum := "c0d4b18426ddb409d4855b70f8587fff37f563ff9179d59268fd035e1164e547", func := "minster/minsterlaw19.ViewsTell", spec := "viewsTell", inPlace := ["maps.clone", "slices.overlaps[minster/api.Dot]"], unfollowed := true, recurses := true, plainKeys := false, apart := false }
def ViewsTellSaid : Prop := viewsTellRow.holds Tryz.pinned (OpenSpec.ofChange viewsTellSpec)

/-- ITS FALSE NEIGHBOUR: 'it returns false'. Refute it at one input. -/
def viewsTellWrong : ChangeSpec := { name := "viewsTell", fn := fun _ => fun
  | [d1, d2] => { results := [.lit (.bool false)], args := [d1, d2] }
  | _ => none }
def ViewsTellWrongFalsely : Prop := viewsTellRow.holds Tryz.pinned (OpenSpec.ofChange viewsTellWrong)

/-- 'minsterlaw07.OrsetNil': WHATEVER THE INPUT: true; the input reads as it did. -/
def orsetNilSpec : ChangeSpec := { name := "orsetNil", fn := fun _ => fun
  | [] => { results := [.lit (.bool true)], args := [] }
  | _ => none }
def orsetNilRow : OpenClaim := { program := "ytoklmpkpeanloaagreat", sum := "c0d4b18426ddb409d4855b70f8587fff37f563ff9179d59268fd035e1164e547", func := "minster/minsterlaw07.OrsetNil", spec := "orsetNil", inPlace := ["maps.clone", "slices.overlaps[minster/api.Dot]"], unfollowed := true, recurses := true, plainKeys := false, apart := false }
def OrsetNilSaid : Prop := orsetNilRow.holds Tryz.pinned (OpenSpec.ofChange orsetNilSpec)

/-- ITS FALSE NEIGHBOUR: 'it returns false'. Refute it at one input. -/
def orsetNilWrong : ChangeSpec := { name := "orsetNil", fn := fun _ => fun
  | [] => { results := [.lit (.bool false)], args := [] }
  | _ => none }
def OrsetNilWrongFalsely : Prop := orsetNilRow.holds Tryz.pinned (OpenSpec.ofChange orsetNilWrong)

/-- 'minsterlaw19.ViewsStates': WHATEVER THE INPUT: true; the input reads as it did. -/
def viewsStatesSpec : ChangeSpec := { name := "viewsStates", fn := fun _ => fun
  | [d1, d2] => { results := [.lit (.bool true)], args := [d1, d2] }
  | _ => none }
def viewsStatesRow : OpenClaim := { program := "ytoklmpkpeanloaagreat", sum := "c0d4b18426ddb409d4855b70f8587fff37f563ff9179d59268fd035e1164e547", func := "minster/minsterlaw19.ViewsStates", spec := "viewsStates", inPlace := ["maps.clone", "slices.overlaps[minster/api.Dot]"], unfollowed := true, recurses := true, plainKeys := false, apart := false }
def ViewsStatesSaid : Prop := viewsStatesRow.holds Tryz.pinned (OpenSpec.ofChange viewsStatesSpec)

/-- ITS FALSE NEIGHBOUR: 'it returns false'. Refute it at one input. -/
def viewsStatesWrong : ChangeSpec := { name := "viewsStates", fn := fun _ => fun
  | [d1, d2] => { results := [.lit (.bool false)], args := [d1, d2] }
  | _ => none }
def ViewsStatesWrongFalsely : Prop := viewsStatesRow.holds Tryz.pinned (OpenSpec.ofChange viewsStatesWrong)

/- THE SECOND FORM. 'bulk': how many values and letters a reading holds, each counted each time it is reached (what is shared counts as often as it is met; a slice's spare places count too). A statement '..UptoSaid' is the law's where the arguments, and the package variables that the reading takes, are together of bulk at most 1048576: NARROWER than '..Said'. Prove '..Said' where nothing that the law and all that it calls make is longer than what came in: it says more and counts as full. Else prove '..UptoSaid'. A law counts once. -/
mutual
def uptoBulk {H : Type} : DataW H → Nat
  | .lit (.string bytes) => bytes.length + 1
  | .lit _ => 1
  | .nil => 1
  | .ptr d => uptoBulk d + 1
  | .slice elems spare => uptoBulkAll elems + uptoBulkAll spare + 1
  | .agg parts => uptoBulkAll parts + 1
  | .iface _ d => uptoBulk d + 1
  | .map entries => uptoBulkEntries entries + 1
  | .held _ => 1
def uptoBulkAll {H : Type} : List (DataW H) → Nat
  | [] => 0
  | d :: r => uptoBulk d + uptoBulkAll r
def uptoBulkEntries {H : Type} : List (Lit × DataW H) → Nat
  | [] => 0
  | x :: r => uptoBulkEntry x + uptoBulkEntries r
def uptoBulkEntry {H : Type} : Lit × DataW H → Nat
  | (.string bytes, d) => bytes.length + uptoBulk d + 1
  | (_, d) => uptoBulk d + 1
 end
def uptoSmall : (H : Type) → List (DataW H) → Bool := fun _ ds => decide (uptoBulkAll ds ≤ 1048576)
def OpenSpec.upto (s : _root_.Go.ChangeSpec) : _root_.Go.OpenSpec := { _root_.Go.OpenSpec.ofChange s with cond := some uptoSmall }

/-- 'minsterlaw07.OrsetOrder', WHERE WHAT IT READS IS OF BULK AT MOST 1048576: true; the input reads as it did. -/
def orsetOrderUptoRow : OpenClaim := { program := "ytoklmpkpeanloaagreat", sum := "c0d4b18426ddb409d4855b70f8587fff37f563ff9179d59268fd035e1164e547", func := "minster/minsterlaw07.OrsetOrder", spec := "orsetOrder", inPlace := ["maps.clone", "slices.overlaps[minster/api.Dot]"], unfollowed := true, recurses := true, plainKeys := false, apart := false, narrowed := true }
def OrsetOrderUptoSaid : Prop := orsetOrderUptoRow.holds Tryz.pinned (OpenSpec.upto orsetOrderSpec)

/-- 'minsterlaw07.OrsetLooks', WHERE WHAT IT READS IS OF BULK AT MOST 1048576: true; the input reads as it did. -/
def orsetLooksUptoRow : OpenClaim := { program := "ytoklmpkpeanloaagreat", sum := "c0d4b18426ddb409d4855b70f8587fff37f563ff9179d59268fd035e1164e547", func := "minster/minsterlaw07.OrsetLooks", spec := "orsetLooks", inPlace := ["maps.clone", "slices.overlaps[minster/api.Dot]"], unfollowed := true, recurses := true, plainKeys := false, apart := false, narrowed := true }
def OrsetLooksUptoSaid : Prop := orsetLooksUptoRow.holds Tryz.pinned (OpenSpec.upto orsetLooksSpec)

/-- 'minsterlaw07.OrsetPlays', WHERE WHAT IT READS IS OF BULK AT MOST 1048576: true; the input reads as it did. -/
def orsetPlaysUptoRow : OpenClaim := { program := "ytoklmpkpeanloaagreat", sum := "c0d4b18426ddb409d4855b70f8587fff37f563ff9179d59268fd035e1164e547", func := "minster/minsterlaw07.OrsetPlays", spec := "orsetPlays", inPlace := ["maps.clone", "slices.overlaps[minster/api.Dot]"], unfollowed := true, recurses := true, plainKeys := false, apart := false, narrowed := true }
def OrsetPlaysUptoSaid : Prop := orsetPlaysUptoRow.holds Tryz.pinned (OpenSpec.upto orsetPlaysSpec)

/-- 'minsterlaw19.ViewsNil', WHERE WHAT IT READS IS OF BULK AT MOST 1048576: true; the input reads as it did. -/
def viewsNilUptoRow : OpenClaim := { program := "ytoklmpkpeanloaagreat", sum := "c0d4b18426ddb409d4855b70f8587fff37f563ff9179d59268fd035e1164e547", func := "minster/minsterlaw19.ViewsNil", spec := "viewsNil", inPlace := ["maps.clone"], unfollowed := true, recurses := true, plainKeys := false, apart := false, narrowed := true }
def ViewsNilUptoSaid : Prop := viewsNilUptoRow.holds Tryz.pinned (OpenSpec.upto viewsNilSpec)

/-- 'minsterlaw07.OrsetCollects', WHERE WHAT IT READS IS OF BULK AT MOST 1048576: true; the input reads as it did. -/
def orsetCollectsUptoRow : OpenClaim := { program := "ytoklmpkpeanloaagreat", sum := "c0d4b18426ddb409d4855b70f8587fff37f563ff9179d59268fd035e1164e547", func := "minster/minsterlaw07.OrsetCollects", spec := "orsetCollects", inPlace := ["maps.clone", "slices.overlaps[minster/api.Dot]"], unfollowed := true, recurses := true, plainKeys := false, apart := false, narrowed := true }
def OrsetCollectsUptoSaid : Prop := orsetCollectsUptoRow.holds Tryz.pinned (OpenSpec.upto orsetCollectsSpec)

/-- 'minsterlaw19.ViewsDiff', WHERE WHAT IT READS IS OF BULK AT MOST 1048576: true; the input reads as it did. -/
def viewsDiffUptoRow : OpenClaim := { program := "ytoklmpkpeanloaagreat", sum := "c0d4b18426ddb409d4855b70f8587fff37f563ff9179d59268fd035e1164e547", func := "minster/minsterlaw19.ViewsDiff", spec := "viewsDiff", inPlace := ["maps.clone", "slices.overlaps[minster/api.Dot]"], unfollowed := true, recurses := true, plainKeys := false, apart := false, narrowed := true }
def ViewsDiffUptoSaid : Prop := viewsDiffUptoRow.holds Tryz.pinned (OpenSpec.upto viewsDiffSpec)

/-- 'minsterlaw07.OrsetOf', WHERE WHAT IT READS IS OF BULK AT MOST 1048576: true; the input reads as it did. -/
def orsetOfUptoRow : OpenClaim := { program := "ytoklmpkpeanloaagreat", sum := "c0d4b18426ddb409d4855b70f8587fff37f563ff9179d59268fd035e1164e547", func := "minster/minsterlaw07.OrsetOf", spec := "orsetOf", inPlace := ["maps.clone", "slices.overlaps[minster/api.Dot]"], unfollowed := true, recurses := true, plainKeys := false, apart := false, narrowed := true }
def OrsetOfUptoSaid : Prop := orsetOfUptoRow.holds Tryz.pinned (OpenSpec.upto orsetOfSpec)

/-- 'minsterlaw19.ViewsTell', WHERE WHAT IT READS IS OF BULK AT MOST 1048576: true; the input reads as it did. -/
def viewsTellUptoRow : OpenClaim := { program := "ytoklmpkpeanloaagreat", sum := "c0d4b18426ddb409d4855b70f8587fff37f563ff9179d59268fd035e1164e547", func := "minster/minsterlaw19.ViewsTell", spec := "viewsTell", inPlace := ["maps.clone", "slices.overlaps[minster/api.Dot]"], unfollowed := true, recurses := true, plainKeys := false, apart := false, narrowed := true }
def ViewsTellUptoSaid : Prop := viewsTellUptoRow.holds Tryz.pinned (OpenSpec.upto viewsTellSpec)

/-- 'minsterlaw07.OrsetNil', WHERE WHAT IT READS IS OF BULK AT MOST 1048576: true; the input reads as it did. -/
def orsetNilUptoRow : OpenClaim := { program := "ytoklmpkpeanloaagreat", sum := "c0d4b18426ddb409d4855b70f8587fff37f563ff9179d59268fd035e1164e547", func := "minster/minsterlaw07.OrsetNil", spec := "orsetNil", inPlace := ["maps.clone", "slices.overlaps[minster/api.Dot]"], unfollowed := true, recurses := true, plainKeys := false, apart := false, narrowed := true }
def OrsetNilUptoSaid : Prop := orsetNilUptoRow.holds Tryz.pinned (OpenSpec.upto orsetNilSpec)

/-- 'minsterlaw19.ViewsStates', WHERE WHAT IT READS IS OF BULK AT MOST 1048576: true; the input reads as it did. -/
def viewsStatesUptoRow : OpenClaim := { program := "ytoklmpkpeanloaagreat", sum := "c0d4b18426ddb409d4855b70f8587fff37f563ff9179d59268fd035e1164e547", func := "minster/minsterlaw19.ViewsStates", spec := "viewsStates", inPlace := ["maps.clone", "slices.overlaps[minster/api.Dot]"], unfollowed := true, recurses := true, plainKeys := false, apart := false, narrowed := true }
def ViewsStatesUptoSaid : Prop := viewsStatesUptoRow.holds Tryz.pinned (OpenSpec.upto viewsStatesSpec)

end Rows
end Go.Proofs.YtoklmpkpeanloaaGreat
