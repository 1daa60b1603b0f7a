/-
  TrailFirst: the first hop of a kind at a region, and which regions were reached, of any hops (the three tables of Go's library that the row lists are never read).
-/
import Derived.Test.YtblpmffajlkmjaaDoorCards
import Derived.Test.YtblpmffajlkmjaaDoorTie
import Derived.ProofKit
import Derived.Test.YtblpmffajlkmjaaDoorP4
set_option linter.unusedVariables false
set_option linter.unusedSimpArgs false
set_option linter.unusedSectionVars false
namespace Go.Proofs.YtblpmffajlkmjaaDoor
open Go.Am Go.Trail Go.ChangeShapes Go.WideShapes Go.ChangeAt Go.RowKit
def tabs3 : List (String × DataW Unit) := [("math/bits.deBruijn32tab", Rows.laid_math_bits_deBruijn32tab), ("math/bits.deBruijn64tab", Rows.laid_math_bits_deBruijn64tab), ("internal/strconv.uint64pow10", Rows.laid_internal_strconv_uint64pow10)]
theorem own : ownKnob Tryd.prog.godebug = none := by kernel_rfl
theorem laid : laidOutB Tryd.prog = true := by kernel_rfl
theorem tabs_met (os : Os) (args : Array Value) : laidMetH Tryd.prog tabs3 ((World.laidAll Tryd.prog os tabs3).forCall (fun _ _ => 0) ⟨#[], args, []⟩).memory := laidMet_laidAll args (by kernel_rfl) (by kernel_rfl)
theorem tabs_shaped (os : Os) (args : Array Value) : ((World.laidAll Tryd.prog os tabs3).forCall (fun _ _ => 0) ⟨#[], args, []⟩).Shaped Tryd.prog := World.shaped_of_ZipB (by kernel_rfl) (by kernel_rfl)
set_option maxRecDepth 100000 in
theorem trailFirst_lifted (os : Os) (started : os.Started) (H : Type) (enc : TypeId × Value → H) :
  ReturnsInHanded {} Tryd.checked os F_law24iTrailFirst .any (fun w args => (Rows.trailFirstSpec.pre enc Tryd.prog Tryd.f4 [] false w args ∧ laidMetH Tryd.prog tabs3 w) ∧ sizedMet enc Tryd.prog Tryd.f4 (OpenSpec.ofChange Rows.trailFirstSpec) false w args) (Rows.trailFirstSpec.post enc Tryd.prog Tryd.f4 false true false false) := by
 refine law_openL (C := Tryd.checked) (rt := Y_bool) (X := fun w _ => laidMetH Tryd.prog tabs3 w) own started (by kernel_rfl) Tryd.func4
  (ChangeSpec.witness_shaped (enc := enc) (C := Tryd.checked) (os := os) (X := fun w _ => laidMetH Tryd.prog tabs3 w) false (World.laidAll Tryd.prog os tabs3) #[.slice none 0 0, .int .i64 0, .int .i64 0] 8 (World.laidAll_os _ _ _) (tabs_shaped os _) (by kernel_rfl) (by kernel_rfl) (by kernel_rfl) (tabs_met os _)) (by kernel_rfl) rfl (by kernel_rfl) (hT.und _ _ u_bool) laid (by kernel_rfl) ?_ ?_
 ·intro ds hds
  rw [Tryd.params4] at hds
  match ds, hds with
  | [d0, d1, d2], _ => rfl
 ·intro W base args hlen hargs
  rw [Tryd.params4] at hlen hargs
  match args, hlen with
  | [a, b, c], _ =>
   obtain ⟨la, ha, ha1⟩ := hops_arg (hargs 0 _ a rfl rfl).1 (by obtain ⟨d, p, g1, g2⟩ := (hargs 0 _ a rfl rfl).2; exact ⟨d, p, g1⟩)
   obtain ⟨k, hb, _⟩ := int_arg (hT.und _ _ u_int) (by kernel_rfl) (hargs 1 _ b rfl rfl).1 (by obtain ⟨d, p, g1, g2⟩ := (hargs 1 _ b rfl rfl).2; exact ⟨d, p, g1⟩)
   obtain ⟨r, hc, _⟩ := int_arg (hT.und _ _ u_int) (by kernel_rfl) (hargs 2 _ c rfl rfl).1 (by obtain ⟨d, p, g1, g2⟩ := (hargs 2 _ c rfl rfl).2; exact ⟨d, p, g1⟩)
   simp only [List.map_cons, List.map_nil, hb, hc]
   exact trailFirst_ok ha k r
theorem trailFirst_row : Rows.TrailFirstSaid :=
 OpenClaim.holds_of_wide 4 Tryd.f4 rfl rfl rfl rfl rfl rfl rfl ⟨rfl, rfl, rfl, rfl, rfl⟩ rfl rfl rfl rfl rfl (by kernel_rfl) Tryd.func4 (by kernel_rfl)
  (of_decide_eq_true (by kernel_rfl)) (by unfold Func.isWrapper; rw [if_neg (by decide +kernel)]; exact ⟨rfl, rfl⟩)
  (fun os started H enc _ => trailFirst_lifted os started H enc)
theorem trailFirst_holds : Rows.TrailFirstCardSaid :=
 Claim7.holds_tied_plain_at .later [] [.data, .data, .data] true (true, "5dd65d9377f433c26aee95c9d1ef88199ce9efce6407f0a4c4aa4b8f54734024") false
  trailFirst_row (fun _ h => by cases h) (by kernel_rfl) (fun _ h => by cases h) trailFirst_row_tie rfl ⟨rfl, rfl⟩ (by kernel_rfl) rfl
  (fun f fn hf hfn => by
   obtain rfl : f = 4 := Option.some.inj ((show Tryd.prog.funcNamed "minster/minsterlaw24.TrailFirst" = some 4 by kernel_rfl).symm.trans hf) |>.symm
   obtain rfl : fn = Tryd.f4 := (Option.some.inj (Tryd.func4.symm.trans hfn)).symm
   exact ⟨by kernel_rfl, fun j t ht => by
    rw [Tryd.params4] at ht
    have hm : t ∈ [Y_s_Hop, Y_int, Y_int] := by simpa using Array.mem_of_getElem? ht
    have hall : ([Y_s_Hop, Y_int, Y_int].all fun u => !Tryd.prog.wantsStandIn u) = true := by kernel_rfl
    exact (show Tryd.prog.wantsStandIn t = false by simpa using List.all_eq_true.1 hall t hm)⟩)
  (by kernel_rfl)
end Go.Proofs.YtblpmffajlkmjaaDoor
