/-
  ViewsBytes: of any bytes those alone are a state's that are the state of what they are read as (for any bytes).
-/
import Derived.Test.YtoklmpkpeanloaaP5
set_option linter.unusedVariables false
set_option linter.unusedSimpArgs false
set_option linter.unusedSectionVars false
namespace Go.Proofs.Ytoklmpkpeanloaa
open Go.Am Go.Minster Go.Minster2 Go.ChangeShapes Go.WideShapes Go.ChangeAt Go.RowKit
set_option maxRecDepth 100000 in
theorem viewsBytes_lifted (os : Os) (started : os.Started) (H : Type) (enc : TypeId × Value → H) :
  ReturnsInHanded {} Try.checked os F_law19iViewsBytes .any (Rows.viewsBytesSpec.pre6 enc Try.prog Try.f3 Rows.viewsBytesRow.domain false) (Rows.viewsBytesSpec.post enc Try.prog Try.f3 false true false false) := by
 refine law_open3 (C := Try.checked) (rt := Y_bool) own started (by kernel_rfl) Try.func3
  (ChangeSpec.witness6 (enc := enc) (C := Try.checked) false ⟨#[], #[.slice none 0 0], []⟩ 8 (by kernel_rfl) (by kernel_rfl) (by kernel_rfl) (by kernel_rfl)) (by kernel_rfl) rfl (by kernel_rfl) (hT.und _ _ u_bool) laid (by kernel_rfl) ?_ ?_
 ·intro ds hds
  rw [Try.params3] at hds
  match ds, hds with
  | [d0], _ => rfl
 ·intro W base args hlen hargs
  rw [Try.params3] at hlen hargs
  match args, hlen with
  | [a], _ =>
   obtain ⟨la, ha, ha1⟩ := bytes_arg (hargs 0 _ a rfl rfl).1 (by obtain ⟨d, p, g1, g2⟩ := (hargs 0 _ a rfl rfl).2; exact ⟨d, p, g1⟩)
   exact viewsBytes_ok ha ha1
theorem viewsBytes_holds : Rows.ViewsBytesSaid :=
 OpenClaim.holds_of_wide 3 Try.f3 rfl rfl rfl rfl rfl rfl rfl ⟨rfl, rfl, rfl, rfl, rfl⟩ rfl rfl rfl rfl rfl (by kernel_rfl) Try.func3 (by kernel_rfl)
  (of_decide_eq_true (by kernel_rfl)) (by unfold Func.isWrapper; rw [if_neg (by decide +kernel)]; exact ⟨rfl, rfl⟩)
  (fun os started H enc _ => viewsBytes_lifted os started H enc)
end Go.Proofs.Ytoklmpkpeanloaa
