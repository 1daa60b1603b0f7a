/-
  TrailNil: what is told of nothing (a closed sentence; the three tables of Go's library that the row lists are never read).
-/
import Derived.Test.YtblpmffajlkmjaaGreatDoorCards
import Derived.Test.YtblpmffajlkmjaaGreatDoorTie
import Derived.ProofKit
import Derived.Test.YtblpmffajlkmjaaGreatDoorP4
set_option linter.unusedVariables false
set_option linter.unusedSimpArgs false
set_option linter.unusedSectionVars false
namespace Go.Proofs.YtblpmffajlkmjaaGreatDoor
open Go.Am Go.Trail Go.ChangeShapes Go.WideShapes Go.ChangeAt Go.RowKit
def tabs3 : List (String × DataW Unit) := [("math/bits.deBruijn32tab", Rows.laid_math_bits_deBruijn32tab), ("math/bits.deBruijn64tab", Rows.laid_math_bits_deBruijn64tab), ("internal/strconv.uint64pow10", Rows.laid_internal_strconv_uint64pow10)]
theorem own : ownKnob Tryz.prog.godebug = none := by kernel_rfl
theorem laid : laidOutB Tryz.prog = true := by kernel_rfl
theorem tabs_met (os : Os) (args : Array Value) : laidMetH Tryz.prog tabs3 ((World.laidAll Tryz.prog os tabs3).forCall (fun _ _ => 0) ⟨#[], args, []⟩).memory := laidMet_laidAll args (by kernel_rfl) (by kernel_rfl)
theorem tabs_shaped (os : Os) (args : Array Value) : ((World.laidAll Tryz.prog os tabs3).forCall (fun _ _ => 0) ⟨#[], args, []⟩).Shaped Tryz.prog := World.shaped_of_ZipB (by kernel_rfl) (by kernel_rfl)
set_option maxRecDepth 100000 in
theorem trailNil_lifted (os : Os) (started : os.Started) (H : Type) (enc : TypeId × Value → H) :
  ReturnsInHanded {} Tryz.checked os F_law24iTrailNil .any (fun w args => (Rows.trailNilSpec.pre enc Tryz.prog Tryz.f4 [] false w args ∧ laidMetH Tryz.prog tabs3 w) ∧ sizedMet enc Tryz.prog Tryz.f4 (OpenSpec.ofChange Rows.trailNilSpec) false w args) (Rows.trailNilSpec.post enc Tryz.prog Tryz.f4 false true false false) := by
 refine law_openL (C := Tryz.checked) (rt := Y_bool) (X := fun w _ => laidMetH Tryz.prog tabs3 w) own started (by kernel_rfl) Tryz.func4
  (ChangeSpec.witness_shaped (enc := enc) (C := Tryz.checked) (os := os) (X := fun w _ => laidMetH Tryz.prog tabs3 w) false (World.laidAll Tryz.prog os tabs3) #[] 8 (World.laidAll_os _ _ _) (tabs_shaped os _) (by kernel_rfl) (by kernel_rfl) (by kernel_rfl) (tabs_met os _)) (by kernel_rfl) rfl (by kernel_rfl) (hT.und _ _ u_bool) laid (by kernel_rfl) ?_ ?_
 ·intro ds hds
  rw [Tryz.params4] at hds
  match ds, hds with
  | [], _ => rfl
 ·intro W base args hlen hargs
  rw [Tryz.params4] at hlen hargs
  match args, hlen with
  | [], _ => exact trailNil_ok _
theorem trailNil_row : Rows.TrailNilSaid :=
 OpenClaim.holds_of_wide 4 Tryz.f4 rfl rfl rfl rfl rfl rfl rfl ⟨rfl, rfl, rfl, rfl, rfl⟩ rfl rfl rfl rfl rfl (by kernel_rfl) Tryz.func4 (by kernel_rfl)
  (of_decide_eq_true (by kernel_rfl)) (by unfold Func.isWrapper; rw [if_neg (by decide +kernel)]; exact ⟨rfl, rfl⟩)
  (fun os started H enc _ => trailNil_lifted os started H enc)
theorem trailNil_holds : Rows.TrailNilCardSaid :=
 Claim7.holds_tied_plain_at .later [] [.data, .data, .data] true (true, "ebcce4357439ae2e08938ca1e8425b35930443299b4ceffb04f2c7bcf71e5e0b") false
  trailNil_row (fun _ h => by cases h) (by kernel_rfl) (fun _ h => by cases h) trailNil_row_tie rfl ⟨rfl, rfl⟩ (by kernel_rfl) rfl
  (fun f fn hf hfn => by
   obtain rfl : f = 4 := Option.some.inj ((show Tryz.prog.funcNamed "minster/minsterlaw24.TrailNil" = some 4 by kernel_rfl).symm.trans hf) |>.symm
   obtain rfl : fn = Tryz.f4 := (Option.some.inj (Tryz.func4.symm.trans hfn)).symm
   exact ⟨by kernel_rfl, fun j t ht => by
    rw [Tryz.params4] at ht
    simp at ht⟩)
  (by kernel_rfl)
end Go.Proofs.YtblpmffajlkmjaaGreatDoor
