/-
  TrailTallies: all topics' and all devices' tallies, of any history; and that as many were subscribed, and as many events told, by topics as by devices (the three tables of Go's library that the row lists are never read).
-/
import Derived.Test.YtblpmffajlkmjaaDoorCards
import Derived.Test.YtblpmffajlkmjaaDoorTie
import Derived.ProofKit
import Derived.Test.YtblpmffajlkmjaaDoorP5
set_option linter.unusedVariables false
set_option linter.unusedSimpArgs false
set_option linter.unusedSectionVars false
namespace Go.Proofs.YtblpmffajlkmjaaDoor
open Go.Am Go.Trail Go.ChangeShapes Go.WideShapes Go.ChangeAt Go.RowKit
def tabs3 : List (String × DataW Unit) := [("math/bits.deBruijn32tab", Rows.laid_math_bits_deBruijn32tab), ("math/bits.deBruijn64tab", Rows.laid_math_bits_deBruijn64tab), ("internal/strconv.uint64pow10", Rows.laid_internal_strconv_uint64pow10)]
theorem own : ownKnob Tryd.prog.godebug = none := by kernel_rfl
theorem laid : laidOutB Tryd.prog = true := by kernel_rfl
theorem tabs_met (os : Os) (args : Array Value) : laidMetH Tryd.prog tabs3 ((World.laidAll Tryd.prog os tabs3).forCall (fun _ _ => 0) ⟨#[], args, []⟩).memory := laidMet_laidAll args (by kernel_rfl) (by kernel_rfl)
theorem tabs_shaped (os : Os) (args : Array Value) : ((World.laidAll Tryd.prog os tabs3).forCall (fun _ _ => 0) ⟨#[], args, []⟩).Shaped Tryd.prog := World.shaped_of_ZipB (by kernel_rfl) (by kernel_rfl)
set_option maxRecDepth 100000 in
theorem trailTallies_lifted (os : Os) (started : os.Started) (H : Type) (enc : TypeId × Value → H) :
  ReturnsInHanded {} Tryd.checked os F_law24iTrailTallies .any (fun w args => (Rows.trailTalliesSpec.pre enc Tryd.prog Tryd.f5 [] false w args ∧ laidMetH Tryd.prog tabs3 w) ∧ sizedMet enc Tryd.prog Tryd.f5 (OpenSpec.ofChange Rows.trailTalliesSpec) false w args) (Rows.trailTalliesSpec.post enc Tryd.prog Tryd.f5 false true false false) := by
 refine law_openL (C := Tryd.checked) (rt := Y_bool) (X := fun w _ => laidMetH Tryd.prog tabs3 w) own started (by kernel_rfl) Tryd.func5
  (ChangeSpec.witness_shaped (enc := enc) (C := Tryd.checked) (os := os) (X := fun w _ => laidMetH Tryd.prog tabs3 w) false (World.laidAll Tryd.prog os tabs3) #[.slice none 0 0] 8 (World.laidAll_os _ _ _) (tabs_shaped os _) (by kernel_rfl) (by kernel_rfl) (by kernel_rfl) (tabs_met os _)) (by kernel_rfl) rfl (by kernel_rfl) (hT.und _ _ u_bool) laid (by kernel_rfl) ?_ ?_
 ·intro ds hds
  rw [Tryd.params5] at hds
  match ds, hds with
  | [d0], _ => rfl
 ·intro W base args hlen hargs
  rw [Tryd.params5] at hlen hargs
  match args, hlen with
  | [a], _ =>
   obtain ⟨l, h⟩ := hist_arg (hargs 0 _ a rfl rfl).1 (hargs 0 _ a rfl rfl).2
   exact trailTallies_ok h
theorem trailTallies_row : Rows.TrailTalliesSaid :=
 OpenClaim.holds_of_wide 5 Tryd.f5 rfl rfl rfl rfl rfl rfl rfl ⟨rfl, rfl, rfl, rfl, rfl⟩ rfl rfl rfl rfl rfl (by kernel_rfl) Tryd.func5 (by kernel_rfl)
  (of_decide_eq_true (by kernel_rfl)) (by unfold Func.isWrapper; rw [if_neg (by decide +kernel)]; exact ⟨rfl, rfl⟩)
  (fun os started H enc _ => trailTallies_lifted os started H enc)
theorem trailTallies_holds : Rows.TrailTalliesCardSaid :=
 Claim7.holds_tied_plain_at .later [] [.data, .data, .data] true (true, "5dd65d9377f433c26aee95c9d1ef88199ce9efce6407f0a4c4aa4b8f54734024") false
  trailTallies_row (fun _ h => by cases h) (by kernel_rfl) (fun _ h => by cases h) trailTallies_row_tie rfl ⟨rfl, rfl⟩ (by kernel_rfl) rfl
  (fun f fn hf hfn => by
   obtain rfl : f = 5 := Option.some.inj ((show Tryd.prog.funcNamed "minster/minsterlaw24.TrailTallies" = some 5 by kernel_rfl).symm.trans hf) |>.symm
   obtain rfl : fn = Tryd.f5 := (Option.some.inj (Tryd.func5.symm.trans hfn)).symm
   exact ⟨by kernel_rfl, fun j t ht => by
    rw [Tryd.params5] at ht
    have hm : t ∈ [Y_s_Done] := by simpa using Array.mem_of_getElem? ht
    have hall : ([Y_s_Done].all fun u => !Tryd.prog.wantsStandIn u) = true := by kernel_rfl
    exact (show Tryd.prog.wantsStandIn t = false by simpa using List.all_eq_true.1 hall t hm)⟩)
  (by kernel_rfl)
end Go.Proofs.YtblpmffajlkmjaaDoor
