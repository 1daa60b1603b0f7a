/-
  ViewsNil: what is answered without a set, or a world (a closed sentence).
-/
import Derived.Test.YtoklmpkpeanloaaGreatP5
set_option linter.unusedVariables false
set_option linter.unusedSimpArgs false
set_option linter.unusedSectionVars false
namespace Go.Proofs.YtoklmpkpeanloaaGreat
open Go.Am Go.Minster Go.Minster2 Go.ChangeShapes Go.WideShapes Go.ChangeAt Go.RowKit
set_option maxRecDepth 100000 in
theorem viewsNil_lifted (os : Os) (started : os.Started) (H : Type) (enc : TypeId × Value → H) :
  ReturnsInHanded {} Tryz.checked os F_law19iViewsNil .any (Rows.viewsNilSpec.pre6 enc Tryz.prog Tryz.f6 Rows.viewsNilRow.domain false) (Rows.viewsNilSpec.post enc Tryz.prog Tryz.f6 false true false false) := by
 refine law_open (C := Tryz.checked) (rt := Y_bool) own started (by kernel_rfl) Tryz.func6
  (ChangeSpec.witness6 (enc := enc) (C := Tryz.checked) false ⟨#[], #[], []⟩ 8 (by kernel_rfl) (by kernel_rfl) (by kernel_rfl) (by kernel_rfl)) (by kernel_rfl) rfl (by kernel_rfl) (hT.und _ _ u_bool) laid (by kernel_rfl) ?_ ?_
 ·intro ds hds
  rw [Tryz.params6] at hds
  match ds, hds with
  | [], _ => rfl
 ·intro W base args hlen hargs
  rw [Tryz.params6] at hlen hargs
  match args, hlen with
  | [], _ => exact viewsNil_ok _
theorem viewsNil_holds : Rows.ViewsNilSaid :=
 OpenClaim.holds_of_wide 6 Tryz.f6 rfl rfl rfl rfl rfl rfl rfl ⟨rfl, rfl, rfl, rfl, rfl⟩ rfl rfl rfl rfl rfl (by kernel_rfl) Tryz.func6 (by kernel_rfl)
  (of_decide_eq_true (by kernel_rfl)) (by unfold Func.isWrapper; rw [if_neg (by decide +kernel)]; exact ⟨rfl, rfl⟩)
  (fun os started H enc _ => viewsNil_lifted os started H enc)
end Go.Proofs.YtoklmpkpeanloaaGreat
