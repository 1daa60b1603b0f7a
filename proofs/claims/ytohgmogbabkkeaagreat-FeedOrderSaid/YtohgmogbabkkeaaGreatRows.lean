/-
  No cell of these rows narrows 'for every input' (looked for: loops, veiled, ifaces, maps, wideKeys, modest, calm, conditions, laid).
  DERIVED. THE GIVEN ROWS OF THIS SEAT. 9 by the template 'for every input the law returns true; each argument reads behind the call as it read before'; 0 by the template 'total and deterministic' (their statements: YtohgmogbabkkeaaGreatTotals.lean).
  GIVEN WITH THE SEED: the statements are not yours to turn. If you find one false, say at which input.
  Laid BY PROGRAM, IN A SANDBOX (cutbox-rows.mjs): the forced cells as the released guide's own fill.sh prints them over the translation ca36f119845d70b6… (all of the seat's roots in one cut). By AI agents, Wed Nov 11 2026. No macro, syntax, notation, axiom, sorry.
-/
import Derived.Test.YtohgmogbabkkeaaGreatChecked
import GoSem.Claim
import GoSem.ClaimJoined
import GoSem.ClaimMapViews
import Derived.JoinedTies
import Derived.KernelRfl
namespace Go.Proofs.YtohgmogbabkkeaaGreat
/- THE CELL 'sum', in the pinned program and in every row, IS THE sha256 OF THE DUMP (.gsa) THAT YtohgmogbabkkeaaGreatProg.lean LOADS. Nothing in Lean hashes anything: it is a label: what it is worth is what the hold of that sum in a sandbox is worth. -/
noncomputable def Tryz.pinned : Pinned := { name := "ytohgmogbabkkeaagreat", sum := "ca36f119845d70b64d0a2f78c5a7289b4cad59926aafc2147939123d73554782", checked := Tryz.checked }
namespace Rows
def none {H : Type} : Left H := { results := [], args := [] }

/-- 'minsterlaw16.FeedRoams': WHATEVER THE INPUT: true; the input reads as it did. -/
def feedRoamsSpec : ChangeSpec := { name := "feedRoams", fn := fun _ => fun
  | [d] => { results := [.lit (.bool true)], args := [d] }
  | _ => none }
def feedRoamsRow : OpenClaim := { program := "ytohgmogbabkkeaagreat", sum := "ca36f119845d70b64d0a2f78c5a7289b4cad59926aafc2147939123d73554782", func := "minster/minsterlaw16.FeedRoams", spec := "feedRoams", inPlace := ["maps.clone", "slices.overlaps[minster/api.Dot]", "math/bits.Add64"], unfollowed := true, recurses := true, plainKeys := false, apart := false }
def FeedRoamsSaid : Prop := feedRoamsRow.holds Tryz.pinned (OpenSpec.ofChange feedRoamsSpec)

/-- ITS FALSE NEIGHBOUR: 'it returns false'. Refute it at one input. -/
def feedRoamsWrong : ChangeSpec := { name := "feedRoams", fn := fun _ => fun
  | [d] => { results := [.lit (.bool false)], args := [d] }
  | _ => none }
def FeedRoamsWrongFalsely : Prop := feedRoamsRow.holds Tryz.pinned (OpenSpec.ofChange feedRoamsWrong)

/-- 'minsterlaw16.FeedNever': WHATEVER THE INPUT: true; the input reads as it did. -/
def feedNeverSpec : ChangeSpec := { name := "feedNever", fn := fun _ => fun
  | [d] => { results := [.lit (.bool true)], args := [d] }
  | _ => none }
def feedNeverRow : OpenClaim := { program := "ytohgmogbabkkeaagreat", sum := "ca36f119845d70b64d0a2f78c5a7289b4cad59926aafc2147939123d73554782", func := "minster/minsterlaw16.FeedNever", spec := "feedNever", inPlace := ["maps.clone", "slices.overlaps[minster/api.Dot]", "math/bits.Add64"], unfollowed := true, recurses := true, plainKeys := false, apart := false }
def FeedNeverSaid : Prop := feedNeverRow.holds Tryz.pinned (OpenSpec.ofChange feedNeverSpec)

/-- ITS FALSE NEIGHBOUR: 'it returns false'. Refute it at one input. -/
def feedNeverWrong : ChangeSpec := { name := "feedNever", fn := fun _ => fun
  | [d] => { results := [.lit (.bool false)], args := [d] }
  | _ => none }
def FeedNeverWrongFalsely : Prop := feedNeverRow.holds Tryz.pinned (OpenSpec.ofChange feedNeverWrong)

/-- 'minsterlaw16.FeedAnew': WHATEVER THE INPUT: true; the input reads as it did. -/
def feedAnewSpec : ChangeSpec := { name := "feedAnew", fn := fun _ => fun
  | [d1, d2, d3] => { results := [.lit (.bool true)], args := [d1, d2, d3] }
  | _ => none }
def feedAnewRow : OpenClaim := { program := "ytohgmogbabkkeaagreat", sum := "ca36f119845d70b64d0a2f78c5a7289b4cad59926aafc2147939123d73554782", func := "minster/minsterlaw16.FeedAnew", spec := "feedAnew", inPlace := ["maps.clone", "slices.overlaps[minster/api.Dot]", "math/bits.Add64"], unfollowed := true, recurses := true, plainKeys := false, apart := false }
def FeedAnewSaid : Prop := feedAnewRow.holds Tryz.pinned (OpenSpec.ofChange feedAnewSpec)

/-- ITS FALSE NEIGHBOUR: 'it returns false'. Refute it at one input. -/
def feedAnewWrong : ChangeSpec := { name := "feedAnew", fn := fun _ => fun
  | [d1, d2, d3] => { results := [.lit (.bool false)], args := [d1, d2, d3] }
  | _ => none }
def FeedAnewWrongFalsely : Prop := feedAnewRow.holds Tryz.pinned (OpenSpec.ofChange feedAnewWrong)

/-- 'minsterlaw16.FeedOrder': WHATEVER THE INPUT: true; the input reads as it did. -/
def feedOrderSpec : ChangeSpec := { name := "feedOrder", fn := fun _ => fun
  | [d1, d2, d3] => { results := [.lit (.bool true)], args := [d1, d2, d3] }
  | _ => none }
def feedOrderRow : OpenClaim := { program := "ytohgmogbabkkeaagreat", sum := "ca36f119845d70b64d0a2f78c5a7289b4cad59926aafc2147939123d73554782", func := "minster/minsterlaw16.FeedOrder", spec := "feedOrder", inPlace := ["maps.clone", "slices.overlaps[minster/api.Dot]", "math/bits.Add64"], unfollowed := true, recurses := true, plainKeys := false, apart := false }
def FeedOrderSaid : Prop := feedOrderRow.holds Tryz.pinned (OpenSpec.ofChange feedOrderSpec)

/-- ITS FALSE NEIGHBOUR: 'it returns false'. Refute it at one input. -/
def feedOrderWrong : ChangeSpec := { name := "feedOrder", fn := fun _ => fun
  | [d1, d2, d3] => { results := [.lit (.bool false)], args := [d1, d2, d3] }
  | _ => none }
def FeedOrderWrongFalsely : Prop := feedOrderRow.holds Tryz.pinned (OpenSpec.ofChange feedOrderWrong)

/-- 'minsterlaw15.ReconCollected': WHATEVER THE INPUT: true; the input reads as it did. -/
def reconCollectedSpec : ChangeSpec := { name := "reconCollected", fn := fun _ => fun
  | [d1, d2, d3, d4] => { results := [.lit (.bool true)], args := [d1, d2, d3, d4] }
  | _ => none }
def reconCollectedRow : OpenClaim := { program := "ytohgmogbabkkeaagreat", sum := "ca36f119845d70b64d0a2f78c5a7289b4cad59926aafc2147939123d73554782", func := "minster/minsterlaw15.ReconCollected", spec := "reconCollected", inPlace := ["maps.clone", "slices.overlaps[minster/api.Dot]", "math/bits.Add64"], unfollowed := true, recurses := true, plainKeys := false, apart := false }
def ReconCollectedSaid : Prop := reconCollectedRow.holds Tryz.pinned (OpenSpec.ofChange reconCollectedSpec)

/-- ITS FALSE NEIGHBOUR: 'it returns false'. Refute it at one input. -/
def reconCollectedWrong : ChangeSpec := { name := "reconCollected", fn := fun _ => fun
  | [d1, d2, d3, d4] => { results := [.lit (.bool false)], args := [d1, d2, d3, d4] }
  | _ => none }
def ReconCollectedWrongFalsely : Prop := reconCollectedRow.holds Tryz.pinned (OpenSpec.ofChange reconCollectedWrong)

/-- 'minsterlaw15.ReconSync': WHATEVER THE INPUT: true; the input reads as it did. -/
def reconSyncSpec : ChangeSpec := { name := "reconSync", fn := fun _ => fun
  | [d1, d2] => { results := [.lit (.bool true)], args := [d1, d2] }
  | _ => none }
def reconSyncRow : OpenClaim := { program := "ytohgmogbabkkeaagreat", sum := "ca36f119845d70b64d0a2f78c5a7289b4cad59926aafc2147939123d73554782", func := "minster/minsterlaw15.ReconSync", spec := "reconSync", inPlace := ["maps.clone", "slices.overlaps[minster/api.Dot]", "math/bits.Add64"], unfollowed := true, recurses := true, plainKeys := false, apart := false }
def ReconSyncSaid : Prop := reconSyncRow.holds Tryz.pinned (OpenSpec.ofChange reconSyncSpec)

/-- ITS FALSE NEIGHBOUR: 'it returns false'. Refute it at one input. -/
def reconSyncWrong : ChangeSpec := { name := "reconSync", fn := fun _ => fun
  | [d1, d2] => { results := [.lit (.bool false)], args := [d1, d2] }
  | _ => none }
def ReconSyncWrongFalsely : Prop := reconSyncRow.holds Tryz.pinned (OpenSpec.ofChange reconSyncWrong)

/-- 'minsterlaw15.ReconFrames': WHATEVER THE INPUT: true; the input reads as it did. -/
def reconFramesSpec : ChangeSpec := { name := "reconFrames", fn := fun _ => fun
  | [d1, d2, d3, d4, d5] => { results := [.lit (.bool true)], args := [d1, d2, d3, d4, d5] }
  | _ => none }
def reconFramesRow : OpenClaim := { program := "ytohgmogbabkkeaagreat", sum := "ca36f119845d70b64d0a2f78c5a7289b4cad59926aafc2147939123d73554782", func := "minster/minsterlaw15.ReconFrames", spec := "reconFrames", inPlace := ["maps.clone", "slices.overlaps[minster/api.Dot]", "math/bits.Add64"], unfollowed := true, recurses := true, plainKeys := false, apart := false }
def ReconFramesSaid : Prop := reconFramesRow.holds Tryz.pinned (OpenSpec.ofChange reconFramesSpec)

/-- ITS FALSE NEIGHBOUR: 'it returns false'. Refute it at one input. -/
def reconFramesWrong : ChangeSpec := { name := "reconFrames", fn := fun _ => fun
  | [d1, d2, d3, d4, d5] => { results := [.lit (.bool false)], args := [d1, d2, d3, d4, d5] }
  | _ => none }
def ReconFramesWrongFalsely : Prop := reconFramesRow.holds Tryz.pinned (OpenSpec.ofChange reconFramesWrong)

/-- 'minsterlaw15.ReconNil': WHATEVER THE INPUT: true; the input reads as it did. -/
def reconNilSpec : ChangeSpec := { name := "reconNil", fn := fun _ => fun
  | [] => { results := [.lit (.bool true)], args := [] }
  | _ => none }
def reconNilRow : OpenClaim := { program := "ytohgmogbabkkeaagreat", sum := "ca36f119845d70b64d0a2f78c5a7289b4cad59926aafc2147939123d73554782", func := "minster/minsterlaw15.ReconNil", spec := "reconNil", inPlace := ["math/bits.Add64", "maps.clone", "slices.overlaps[minster/api.Dot]"], unfollowed := true, recurses := true, plainKeys := false, apart := false }
def ReconNilSaid : Prop := reconNilRow.holds Tryz.pinned (OpenSpec.ofChange reconNilSpec)

/-- ITS FALSE NEIGHBOUR: 'it returns false'. Refute it at one input. -/
def reconNilWrong : ChangeSpec := { name := "reconNil", fn := fun _ => fun
  | [] => { results := [.lit (.bool false)], args := [] }
  | _ => none }
def ReconNilWrongFalsely : Prop := reconNilRow.holds Tryz.pinned (OpenSpec.ofChange reconNilWrong)

/-- 'minsterlaw16.FeedNil': WHATEVER THE INPUT: true; the input reads as it did. -/
def feedNilSpec : ChangeSpec := { name := "feedNil", fn := fun _ => fun
  | [] => { results := [.lit (.bool true)], args := [] }
  | _ => none }
def feedNilRow : OpenClaim := { program := "ytohgmogbabkkeaagreat", sum := "ca36f119845d70b64d0a2f78c5a7289b4cad59926aafc2147939123d73554782", func := "minster/minsterlaw16.FeedNil", spec := "feedNil", inPlace := ["maps.clone", "math/bits.Add64", "slices.overlaps[minster/api.Dot]"], unfollowed := true, recurses := true, plainKeys := false, apart := false }
def FeedNilSaid : Prop := feedNilRow.holds Tryz.pinned (OpenSpec.ofChange feedNilSpec)

/-- ITS FALSE NEIGHBOUR: 'it returns false'. Refute it at one input. -/
def feedNilWrong : ChangeSpec := { name := "feedNil", fn := fun _ => fun
  | [] => { results := [.lit (.bool false)], args := [] }
  | _ => none }
def FeedNilWrongFalsely : Prop := feedNilRow.holds Tryz.pinned (OpenSpec.ofChange feedNilWrong)

/- THE SECOND FORM. 'bulk': how many values and letters a reading holds, each counted each time it is reached (what is shared counts as often as it is met; a slice's spare places count too). A statement '..UptoSaid' is the law's where the arguments, and the package variables that the reading takes, are together of bulk at most 1048576: NARROWER than '..Said'. Prove '..Said' where nothing that the law and all that it calls make is longer than what came in: it says more and counts as full. Else prove '..UptoSaid'. A law counts once. -/
mutual
def uptoBulk {H : Type} : DataW H → Nat
  | .lit (.string bytes) => bytes.length + 1
  | .lit _ => 1
  | .nil => 1
  | .ptr d => uptoBulk d + 1
  | .slice elems spare => uptoBulkAll elems + uptoBulkAll spare + 1
  | .agg parts => uptoBulkAll parts + 1
  | .iface _ d => uptoBulk d + 1
  | .map entries => uptoBulkEntries entries + 1
  | .held _ => 1
def uptoBulkAll {H : Type} : List (DataW H) → Nat
  | [] => 0
  | d :: r => uptoBulk d + uptoBulkAll r
def uptoBulkEntries {H : Type} : List (Lit × DataW H) → Nat
  | [] => 0
  | x :: r => uptoBulkEntry x + uptoBulkEntries r
def uptoBulkEntry {H : Type} : Lit × DataW H → Nat
  | (.string bytes, d) => bytes.length + uptoBulk d + 1
  | (_, d) => uptoBulk d + 1
 end
def uptoSmall : (H : Type) → List (DataW H) → Bool := fun _ ds => decide (uptoBulkAll ds ≤ 1048576)
def OpenSpec.upto (s : _root_.Go.ChangeSpec) : _root_.Go.OpenSpec := { _root_.Go.OpenSpec.ofChange s with cond := some uptoSmall }

/-- 'minsterlaw16.FeedRoams', WHERE WHAT IT READS IS OF BULK AT MOST 1048576: true; the input reads as it did. -/
def feedRoamsUptoRow : OpenClaim := { program := "ytohgmogbabkkeaagreat", sum := "ca36f119845d70b64d0a2f78c5a7289b4cad59926aafc2147939123d73554782", func := "minster/minsterlaw16.FeedRoams", spec := "feedRoams", inPlace := ["maps.clone", "slices.overlaps[minster/api.Dot]", "math/bits.Add64"], unfollowed := true, recurses := true, plainKeys := false, apart := false, narrowed := true }
def FeedRoamsUptoSaid : Prop := feedRoamsUptoRow.holds Tryz.pinned (OpenSpec.upto feedRoamsSpec)

/-- 'minsterlaw16.FeedNever', WHERE WHAT IT READS IS OF BULK AT MOST 1048576: true; the input reads as it did. -/
def feedNeverUptoRow : OpenClaim := { program := "ytohgmogbabkkeaagreat", sum := "ca36f119845d70b64d0a2f78c5a7289b4cad59926aafc2147939123d73554782", func := "minster/minsterlaw16.FeedNever", spec := "feedNever", inPlace := ["maps.clone", "slices.overlaps[minster/api.Dot]", "math/bits.Add64"], unfollowed := true, recurses := true, plainKeys := false, apart := false, narrowed := true }
def FeedNeverUptoSaid : Prop := feedNeverUptoRow.holds Tryz.pinned (OpenSpec.upto feedNeverSpec)

/-- 'minsterlaw16.FeedAnew', WHERE WHAT IT READS IS OF BULK AT MOST 1048576: true; the input reads as it did. -/
def feedAnewUptoRow : OpenClaim := { program := "ytohgmogbabkkeaagreat", sum := "ca36f119845d70b64d0a2f78c5a7289b4cad59926aafc2147939123d73554782", func := "minster/minsterlaw16.FeedAnew", spec := "feedAnew", inPlace := ["maps.clone", "slices.overlaps[minster/api.Dot]", "math/bits.Add64"], unfollowed := true, recurses := true, plainKeys := false, apart := false, narrowed := true }
def FeedAnewUptoSaid : Prop := feedAnewUptoRow.holds Tryz.pinned (OpenSpec.upto feedAnewSpec)

/-- 'minsterlaw16.FeedOrder', WHERE WHAT IT READS IS OF BULK AT MOST 1048576: true; the input reads as it did. -/
def feedOrderUptoRow : OpenClaim := { program := "ytohgmogbabkkeaagreat", sum := "ca36f119845d70b64d0a2f78c5a7289b4cad59926aafc2147939123d73554782", func := "minster/minsterlaw16.FeedOrder", spec := "feedOrder", inPlace := ["maps.clone", "slices.overlaps[minster/api.Dot]", "math/bits.Add64"], unfollowed := true, recurses := true, plainKeys := false, apart := false, narrowed := true }
def FeedOrderUptoSaid : Prop := feedOrderUptoRow.holds Tryz.pinned (OpenSpec.upto feedOrderSpec)

/-- 'minsterlaw15.ReconCollected', WHERE WHAT IT READS IS OF BULK AT MOST 1048576: true; the input reads as it did. -/
def reconCollectedUptoRow : OpenClaim := { program := "ytohgmogbabkkeaagreat", sum := "ca36f119845d70b64d0a2f78c5a7289b4cad59926aafc2147939123d73554782", func := "minster/minsterlaw15.ReconCollected", spec := "reconCollected", inPlace := ["maps.clone", "slices.overlaps[minster/api.Dot]", "math/bits.Add64"], unfollowed := true, recurses := true, plainKeys := false, apart := false, narrowed := true }
def ReconCollectedUptoSaid : Prop := reconCollectedUptoRow.holds Tryz.pinned (OpenSpec.upto reconCollectedSpec)

/-- 'minsterlaw15.ReconSync', WHERE WHAT IT READS IS OF BULK AT MOST 1048576: true; the input reads as it did. -/
def reconSyncUptoRow : OpenClaim := { program := "ytohgmogbabkkeaagreat", sum := "ca36f119845d70b64d0a2f78c5a7289b4cad59926aafc2147939123d73554782", func := "minster/minsterlaw15.ReconSync", spec := "reconSync", inPlace := ["maps.clone", "slices.overlaps[minster/api.Dot]", "math/bits.Add64"], unfollowed := true, recurses := true, plainKeys := false, apart := false, narrowed := true }
def ReconSyncUptoSaid : Prop := reconSyncUptoRow.holds Tryz.pinned (OpenSpec.upto reconSyncSpec)

/-- 'minsterlaw15.ReconFrames', WHERE WHAT IT READS IS OF BULK AT MOST 1048576: true; the input reads as it did. -/
def reconFramesUptoRow : OpenClaim := { program := "ytohgmogbabkkeaagreat", sum := "ca36f119845d70b64d0a2f78c5a7289b4cad59926aafc2147939123d73554782", func := "minster/minsterlaw15.ReconFrames", spec := "reconFrames", inPlace := ["maps.clone", "slices.overlaps[minster/api.Dot]", "math/bits.Add64"], unfollowed := true, recurses := true, plainKeys := false, apart := false, narrowed := true }
def ReconFramesUptoSaid : Prop := reconFramesUptoRow.holds Tryz.pinned (OpenSpec.upto reconFramesSpec)

/-- 'minsterlaw15.ReconNil', WHERE WHAT IT READS IS OF BULK AT MOST 1048576: true; the input reads as it did. -/
def reconNilUptoRow : OpenClaim := { program := "ytohgmogbabkkeaagreat", sum := "ca36f119845d70b64d0a2f78c5a7289b4cad59926aafc2147939123d73554782", func := "minster/minsterlaw15.ReconNil", spec := "reconNil", inPlace := ["math/bits.Add64", "maps.clone", "slices.overlaps[minster/api.Dot]"], unfollowed := true, recurses := true, plainKeys := false, apart := false, narrowed := true }
def ReconNilUptoSaid : Prop := reconNilUptoRow.holds Tryz.pinned (OpenSpec.upto reconNilSpec)

/-- 'minsterlaw16.FeedNil', WHERE WHAT IT READS IS OF BULK AT MOST 1048576: true; the input reads as it did. -/
def feedNilUptoRow : OpenClaim := { program := "ytohgmogbabkkeaagreat", sum := "ca36f119845d70b64d0a2f78c5a7289b4cad59926aafc2147939123d73554782", func := "minster/minsterlaw16.FeedNil", spec := "feedNil", inPlace := ["maps.clone", "math/bits.Add64", "slices.overlaps[minster/api.Dot]"], unfollowed := true, recurses := true, plainKeys := false, apart := false, narrowed := true }
def FeedNilUptoSaid : Prop := feedNilUptoRow.holds Tryz.pinned (OpenSpec.upto feedNilSpec)

end Rows
end Go.Proofs.YtohgmogbabkkeaaGreat
