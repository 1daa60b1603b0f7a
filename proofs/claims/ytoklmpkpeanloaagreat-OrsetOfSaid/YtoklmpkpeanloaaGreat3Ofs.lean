/-
  OrsetOf: which contexts and items are a set, and each set is that of its own (for any dots, items and acts).
-/
import Derived.Test.YtoklmpkpeanloaaGreatP6
set_option linter.unusedVariables false
set_option linter.unusedSimpArgs false
set_option linter.unusedSectionVars false
namespace Go.Proofs.YtoklmpkpeanloaaGreat
open Go.Am Go.Minster Go.Minster2 Go.ChangeShapes Go.WideShapes Go.ChangeAt Go.RowKit
set_option maxRecDepth 100000 in
theorem orsetOf_lifted (os : Os) (started : os.Started) (H : Type) (enc : TypeId × Value → H) :
  ReturnsInHanded {} Tryz.checked os F_law07iOrsetOf .any (Rows.orsetOfSpec.pre6 enc Tryz.prog Tryz.f9 Rows.orsetOfRow.domain false) (Rows.orsetOfSpec.post enc Tryz.prog Tryz.f9 false true false false) := by
 refine law_open3 (C := Tryz.checked) (rt := Y_bool) own started (by kernel_rfl) Tryz.func9
  (ChangeSpec.witness6 (enc := enc) (C := Tryz.checked) false ⟨#[], #[.slice none 0 0, .slice none 0 0, .slice none 0 0], []⟩ 8 (by kernel_rfl) (by kernel_rfl) (by kernel_rfl) (by kernel_rfl)) (by kernel_rfl) rfl (by kernel_rfl) (hT.und _ _ u_bool) laid (by kernel_rfl) ?_ ?_
 ·intro ds hds
  rw [Tryz.params9] at hds
  match ds, hds with
  | [d0, d1, d2], _ => rfl
 ·intro W base args hlen hargs
  rw [Tryz.params9] at hlen hargs
  match args, hlen with
  | [a, b, c], _ =>
   obtain ⟨la, ha, ha1⟩ := dots_arg (hargs 0 _ a rfl rfl).1 (by obtain ⟨d, p, g1, g2⟩ := (hargs 0 _ a rfl rfl).2; exact ⟨d, p, g1⟩)
   obtain ⟨lb, hb, hb1⟩ := items_arg (hargs 1 _ b rfl rfl).1 (by obtain ⟨d, p, g1, g2⟩ := (hargs 1 _ b rfl rfl).2; exact ⟨d, p, g1⟩)
   obtain ⟨lc, hc, hc1, hc2⟩ := acts_arg (hargs 2 _ c rfl rfl).1 (by obtain ⟨d, p, g1, g2⟩ := (hargs 2 _ c rfl rfl).2; exact ⟨d, p, g1, g2⟩)
   exact orsetOf_ok ha hb hc hc1 hc2
theorem orsetOf_holds : Rows.OrsetOfSaid :=
 OpenClaim.holds_of_wide 9 Tryz.f9 rfl rfl rfl rfl rfl rfl rfl ⟨rfl, rfl, rfl, rfl, rfl⟩ rfl rfl rfl rfl rfl (by kernel_rfl) Tryz.func9 (by kernel_rfl)
  (of_decide_eq_true (by kernel_rfl)) (by unfold Func.isWrapper; rw [if_neg (by decide +kernel)]; exact ⟨rfl, rfl⟩)
  (fun os started H enc _ => orsetOf_lifted os started H enc)
end Go.Proofs.YtoklmpkpeanloaaGreat
