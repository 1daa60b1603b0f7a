/-
  ViewsStates: the state's bytes of any items that were seen, and these bytes are that set's (for any items and dots).
-/
import Derived.Test.YtoklmpkpeanloaaGreatP6
set_option linter.unusedVariables false
set_option linter.unusedSimpArgs false
set_option linter.unusedSectionVars false
namespace Go.Proofs.YtoklmpkpeanloaaGreat
open Go.Am Go.Minster Go.Minster2 Go.ChangeShapes Go.WideShapes Go.ChangeAt Go.RowKit
set_option maxRecDepth 100000 in
theorem viewsStates_lifted (os : Os) (started : os.Started) (H : Type) (enc : TypeId × Value → H) :
  ReturnsInHanded {} Tryz.checked os F_law19iViewsStates .any (Rows.viewsStatesSpec.pre6 enc Tryz.prog Tryz.f12 Rows.viewsStatesRow.domain false) (Rows.viewsStatesSpec.post enc Tryz.prog Tryz.f12 false true false false) := by
 refine law_open3 (C := Tryz.checked) (rt := Y_bool) own started (by kernel_rfl) Tryz.func12
  (ChangeSpec.witness6 (enc := enc) (C := Tryz.checked) false ⟨#[], #[.slice none 0 0, .slice none 0 0], []⟩ 8 (by kernel_rfl) (by kernel_rfl) (by kernel_rfl) (by kernel_rfl)) (by kernel_rfl) rfl (by kernel_rfl) (hT.und _ _ u_bool) laid (by kernel_rfl) ?_ ?_
 ·intro ds hds
  rw [Tryz.params12] at hds
  match ds, hds with
  | [d0, d1], _ => rfl
 ·intro W base args hlen hargs
  rw [Tryz.params12] at hlen hargs
  match args, hlen with
  | [a, b], _ =>
   obtain ⟨la, ha, ha1⟩ := items_arg (hargs 0 _ a rfl rfl).1 (by obtain ⟨d, p, g1, g2⟩ := (hargs 0 _ a rfl rfl).2; exact ⟨d, p, g1⟩)
   obtain ⟨lb, hb, hb1⟩ := dots_arg (hargs 1 _ b rfl rfl).1 (by obtain ⟨d, p, g1, g2⟩ := (hargs 1 _ b rfl rfl).2; exact ⟨d, p, g1⟩)
   exact viewsStates_ok ha hb
theorem viewsStates_holds : Rows.ViewsStatesSaid :=
 OpenClaim.holds_of_wide 12 Tryz.f12 rfl rfl rfl rfl rfl rfl rfl ⟨rfl, rfl, rfl, rfl, rfl⟩ rfl rfl rfl rfl rfl (by kernel_rfl) Tryz.func12 (by kernel_rfl)
  (of_decide_eq_true (by kernel_rfl)) (by unfold Func.isWrapper; rw [if_neg (by decide +kernel)]; exact ⟨rfl, rfl⟩)
  (fun os started H enc _ => viewsStates_lifted os started H enc)
end Go.Proofs.YtoklmpkpeanloaaGreat
