/-
  ViewsTell: two sets have one state just when the same is seen and live in both (for any two lists of items).
-/
import Derived.Test.YtoklmpkpeanloaaGreatP5
set_option linter.unusedVariables false
set_option linter.unusedSimpArgs false
set_option linter.unusedSectionVars false
namespace Go.Proofs.YtoklmpkpeanloaaGreat
open Go.Am Go.Minster Go.Minster2 Go.ChangeShapes Go.WideShapes Go.ChangeAt Go.RowKit
set_option maxRecDepth 100000 in
theorem viewsTell_lifted (os : Os) (started : os.Started) (H : Type) (enc : TypeId × Value → H) :
  ReturnsInHanded {} Tryz.checked os F_law19iViewsTell .any (Rows.viewsTellSpec.pre6 enc Tryz.prog Tryz.f10 Rows.viewsTellRow.domain false) (Rows.viewsTellSpec.post enc Tryz.prog Tryz.f10 false true false false) := by
 refine law_open3 (C := Tryz.checked) (rt := Y_bool) own started (by kernel_rfl) Tryz.func10
  (ChangeSpec.witness6 (enc := enc) (C := Tryz.checked) false ⟨#[], #[.slice none 0 0, .slice none 0 0], []⟩ 8 (by kernel_rfl) (by kernel_rfl) (by kernel_rfl) (by kernel_rfl)) (by kernel_rfl) rfl (by kernel_rfl) (hT.und _ _ u_bool) laid (by kernel_rfl) ?_ ?_
 ·intro ds hds
  rw [Tryz.params10] at hds
  match ds, hds with
  | [d0, d1], _ => rfl
 ·intro W base args hlen hargs
  rw [Tryz.params10] at hlen hargs
  match args, hlen with
  | [a, b], _ =>
   obtain ⟨la, ha, ha1⟩ := items_arg (hargs 0 _ a rfl rfl).1 (by obtain ⟨d, p, g1, g2⟩ := (hargs 0 _ a rfl rfl).2; exact ⟨d, p, g1⟩)
   obtain ⟨lb, hb, hb1⟩ := items_arg (hargs 1 _ b rfl rfl).1 (by obtain ⟨d, p, g1, g2⟩ := (hargs 1 _ b rfl rfl).2; exact ⟨d, p, g1⟩)
   exact viewsTell_ok ha hb
theorem viewsTell_holds : Rows.ViewsTellSaid :=
 OpenClaim.holds_of_wide 10 Tryz.f10 rfl rfl rfl rfl rfl rfl rfl ⟨rfl, rfl, rfl, rfl, rfl⟩ rfl rfl rfl rfl rfl (by kernel_rfl) Tryz.func10 (by kernel_rfl)
  (of_decide_eq_true (by kernel_rfl)) (by unfold Func.isWrapper; rw [if_neg (by decide +kernel)]; exact ⟨rfl, rfl⟩)
  (fun os started H enc _ => viewsTell_lifted os started H enc)
end Go.Proofs.YtoklmpkpeanloaaGreat
