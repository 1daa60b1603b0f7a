/-
  DERIVED. GIVEN WITH THE SEED: THE CARDS: each row of YtblpmffajlkmjaaDoorRows.lean that lists a variable, with what it lists TIED to the program's text (the seventh form; the later family's looks); each row that meets fmt, with fmt's text TOLD by the authors' own Lean function (tested against real Go, not proved from fmt's source: count such statements apart). THE CARD IS WHAT COUNTS. Prove the row's statement (the work); the ties are given (YtblpmffajlkmjaaDoorTie.lean); close each card by the builder's one call (the guide's Derived/Test/ToyasCard.lean, 'card_holds'). Laid BY PROGRAM, IN A SANDBOX (cutbox-door.mjs). By AI agents, Wed Nov 11 2026. No macro, syntax, notation, axiom, sorry.
-/
import Derived.Test.YtblpmffajlkmjaaDoorRows
import GoSem.ClaimSeven
namespace Go.Proofs.YtblpmffajlkmjaaDoor
namespace Rows

/-- THE TIED CARD OF 'minsterlaw24.TrailLines'. -/
def trailLinesCard : Claim7 := { stood := { row := trailLinesRow, standIns := [], harness := (true, "5dd65d9377f433c26aee95c9d1ef88199ce9efce6407f0a4c4aa4b8f54734024"), looks := false }, kinds := [], alts := [], laidByText := true, laidKinds := [.data, .data, .data], laidTests := true, laidLooks := .later }
def TrailLinesCardSaid : Prop := Claim7.holds Tryd.pinned (.plain (OpenSpec.ofChange trailLinesSpec)) trailLinesCard

/-- THE TIED CARD OF 'minsterlaw24.TrailFirst'. -/
def trailFirstCard : Claim7 := { stood := { row := trailFirstRow, standIns := [], harness := (true, "5dd65d9377f433c26aee95c9d1ef88199ce9efce6407f0a4c4aa4b8f54734024"), looks := false }, kinds := [], alts := [], laidByText := true, laidKinds := [.data, .data, .data], laidTests := true, laidLooks := .later }
def TrailFirstCardSaid : Prop := Claim7.holds Tryd.pinned (.plain (OpenSpec.ofChange trailFirstSpec)) trailFirstCard

/-- THE TIED CARD OF 'minsterlaw24.TrailTallies'. -/
def trailTalliesCard : Claim7 := { stood := { row := trailTalliesRow, standIns := [], harness := (true, "5dd65d9377f433c26aee95c9d1ef88199ce9efce6407f0a4c4aa4b8f54734024"), looks := false }, kinds := [], alts := [], laidByText := true, laidKinds := [.data, .data, .data], laidTests := true, laidLooks := .later }
def TrailTalliesCardSaid : Prop := Claim7.holds Tryd.pinned (.plain (OpenSpec.ofChange trailTalliesSpec)) trailTalliesCard

/-- THE SECOND FORM's CARD OF 'minsterlaw24.TrailLines'. -/
def trailLinesUptoCard : Claim7 := { stood := { row := trailLinesUptoRow, standIns := [], harness := (true, "5dd65d9377f433c26aee95c9d1ef88199ce9efce6407f0a4c4aa4b8f54734024"), looks := false }, kinds := [], alts := [], laidByText := true, laidKinds := [.data, .data, .data], laidTests := true, laidLooks := .later }
def TrailLinesUptoCardSaid : Prop := Claim7.holds Tryd.pinned (.plain (OpenSpec.upto trailLinesSpec)) trailLinesUptoCard

/-- THE SECOND FORM's CARD OF 'minsterlaw24.TrailFirst'. -/
def trailFirstUptoCard : Claim7 := { stood := { row := trailFirstUptoRow, standIns := [], harness := (true, "5dd65d9377f433c26aee95c9d1ef88199ce9efce6407f0a4c4aa4b8f54734024"), looks := false }, kinds := [], alts := [], laidByText := true, laidKinds := [.data, .data, .data], laidTests := true, laidLooks := .later }
def TrailFirstUptoCardSaid : Prop := Claim7.holds Tryd.pinned (.plain (OpenSpec.upto trailFirstSpec)) trailFirstUptoCard

/-- THE SECOND FORM's CARD OF 'minsterlaw24.TrailTallies'. -/
def trailTalliesUptoCard : Claim7 := { stood := { row := trailTalliesUptoRow, standIns := [], harness := (true, "5dd65d9377f433c26aee95c9d1ef88199ce9efce6407f0a4c4aa4b8f54734024"), looks := false }, kinds := [], alts := [], laidByText := true, laidKinds := [.data, .data, .data], laidTests := true, laidLooks := .later }
def TrailTalliesUptoCardSaid : Prop := Claim7.holds Tryd.pinned (.plain (OpenSpec.upto trailTalliesSpec)) trailTalliesUptoCard
end Rows
end Go.Proofs.YtblpmffajlkmjaaDoor
