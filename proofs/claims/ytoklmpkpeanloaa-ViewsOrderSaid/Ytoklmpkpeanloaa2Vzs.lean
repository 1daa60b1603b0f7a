/-
  ViewsOrder: the function of items does not hang on their order, nor on how often they come, where each dot has one key (for any items and numbers).
-/
import Derived.Test.YtoklmpkpeanloaaP5
set_option linter.unusedVariables false
set_option linter.unusedSimpArgs false
set_option linter.unusedSectionVars false
namespace Go.Proofs.Ytoklmpkpeanloaa
open Go.Am Go.Minster Go.Minster2 Go.ChangeShapes Go.WideShapes Go.ChangeAt Go.RowKit
set_option maxRecDepth 100000 in
theorem viewsOrder_lifted (os : Os) (started : os.Started) (H : Type) (enc : TypeId × Value → H) :
  ReturnsInHanded {} Try.checked os F_law19iViewsOrder .any (Rows.viewsOrderSpec.pre6 enc Try.prog Try.f5 Rows.viewsOrderRow.domain false) (Rows.viewsOrderSpec.post enc Try.prog Try.f5 false true false false) := by
 refine law_open3 (C := Try.checked) (rt := Y_bool) own started (by kernel_rfl) Try.func5
  (ChangeSpec.witness6 (enc := enc) (C := Try.checked) false ⟨#[], #[.slice none 0 0, .slice none 0 0], []⟩ 8 (by kernel_rfl) (by kernel_rfl) (by kernel_rfl) (by kernel_rfl)) (by kernel_rfl) rfl (by kernel_rfl) (hT.und _ _ u_bool) laid (by kernel_rfl) ?_ ?_
 ·intro ds hds
  rw [Try.params5] at hds
  match ds, hds with
  | [d0, d1], _ => rfl
 ·intro W base args hlen hargs
  rw [Try.params5] at hlen hargs
  match args, hlen with
  | [a, b], _ =>
   obtain ⟨la, ha, ha1⟩ := items_arg (hargs 0 _ a rfl rfl).1 (by obtain ⟨d, p, g1, g2⟩ := (hargs 0 _ a rfl rfl).2; exact ⟨d, p, g1⟩)
   obtain ⟨lb, hb, hb1⟩ := ints_arg (hargs 1 _ b rfl rfl).1 (by obtain ⟨d, p, g1, g2⟩ := (hargs 1 _ b rfl rfl).2; exact ⟨d, p, g1⟩)
   exact viewsOrder_ok ha hb
theorem viewsOrder_holds : Rows.ViewsOrderSaid :=
 OpenClaim.holds_of_wide 5 Try.f5 rfl rfl rfl rfl rfl rfl rfl ⟨rfl, rfl, rfl, rfl, rfl⟩ rfl rfl rfl rfl rfl (by kernel_rfl) Try.func5 (by kernel_rfl)
  (of_decide_eq_true (by kernel_rfl)) (by unfold Func.isWrapper; rw [if_neg (by decide +kernel)]; exact ⟨rfl, rfl⟩)
  (fun os started H enc _ => viewsOrder_lifted os started H enc)
end Go.Proofs.Ytoklmpkpeanloaa
