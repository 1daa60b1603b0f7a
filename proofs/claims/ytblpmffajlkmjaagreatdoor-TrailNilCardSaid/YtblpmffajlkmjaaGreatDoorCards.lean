/-
  DERIVED. GIVEN WITH THE SEED: THE CARDS: each row of YtblpmffajlkmjaaGreatDoorRows.lean that lists a variable, with what it lists TIED to the program's text (the seventh form; the later family's looks); each row that meets fmt, with fmt's text TOLD by the authors' own Lean function (tested against real Go, not proved from fmt's source: count such statements apart). THE CARD IS WHAT COUNTS. Prove the row's statement (the work); the ties are given (YtblpmffajlkmjaaGreatDoorTie.lean); close each card by the builder's one call (the guide's Derived/Test/ToyasCard.lean, 'card_holds'). Laid BY PROGRAM, IN A SANDBOX (cutbox-door.mjs). By AI agents, Wed Nov 11 2026. No macro, syntax, notation, axiom, sorry.
-/
import Derived.Test.YtblpmffajlkmjaaGreatDoorRows
import GoSem.ClaimSeven
namespace Go.Proofs.YtblpmffajlkmjaaGreatDoor
namespace Rows

/-- THE TIED CARD OF 'minsterlaw24.TrailOf'. -/
def trailOfCard : Claim7 := { stood := { row := trailOfRow, standIns := [], harness := (true, "ebcce4357439ae2e08938ca1e8425b35930443299b4ceffb04f2c7bcf71e5e0b"), looks := false }, kinds := [], alts := [], laidByText := true, laidKinds := [.data, .data, .data], laidTests := true, laidLooks := .later }
def TrailOfCardSaid : Prop := Claim7.holds Tryz.pinned (.plain (OpenSpec.ofChange trailOfSpec)) trailOfCard

/-- THE TIED CARD OF 'minsterlaw24.TrailNil'. -/
def trailNilCard : Claim7 := { stood := { row := trailNilRow, standIns := [], harness := (true, "ebcce4357439ae2e08938ca1e8425b35930443299b4ceffb04f2c7bcf71e5e0b"), looks := false }, kinds := [], alts := [], laidByText := true, laidKinds := [.data, .data, .data], laidTests := true, laidLooks := .later }
def TrailNilCardSaid : Prop := Claim7.holds Tryz.pinned (.plain (OpenSpec.ofChange trailNilSpec)) trailNilCard

/-- THE SECOND FORM's CARD OF 'minsterlaw24.TrailOf'. -/
def trailOfUptoCard : Claim7 := { stood := { row := trailOfUptoRow, standIns := [], harness := (true, "ebcce4357439ae2e08938ca1e8425b35930443299b4ceffb04f2c7bcf71e5e0b"), looks := false }, kinds := [], alts := [], laidByText := true, laidKinds := [.data, .data, .data], laidTests := true, laidLooks := .later }
def TrailOfUptoCardSaid : Prop := Claim7.holds Tryz.pinned (.plain (OpenSpec.upto trailOfSpec)) trailOfUptoCard

/-- THE SECOND FORM's CARD OF 'minsterlaw24.TrailNil'. -/
def trailNilUptoCard : Claim7 := { stood := { row := trailNilUptoRow, standIns := [], harness := (true, "ebcce4357439ae2e08938ca1e8425b35930443299b4ceffb04f2c7bcf71e5e0b"), looks := false }, kinds := [], alts := [], laidByText := true, laidKinds := [.data, .data, .data], laidTests := true, laidLooks := .later }
def TrailNilUptoCardSaid : Prop := Claim7.holds Tryz.pinned (.plain (OpenSpec.upto trailNilSpec)) trailNilUptoCard
end Rows
end Go.Proofs.YtblpmffajlkmjaaGreatDoor
