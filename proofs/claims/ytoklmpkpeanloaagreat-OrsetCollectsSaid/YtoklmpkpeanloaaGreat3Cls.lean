/-
  OrsetCollects: collecting changes nothing of what is seen, live, and gone, and what was collected does not come back (for any acts and key).
-/
import Derived.Test.YtoklmpkpeanloaaGreatP6
set_option linter.unusedSimpArgs false
set_option linter.unusedVariables false
namespace Go.Proofs.YtoklmpkpeanloaaGreat
open Go.Am Go.Minster Go.Minster2 Go.ChangeShapes Go.WideShapes Go.ChangeAt Go.RowKit
set_option maxRecDepth 100000 in
theorem orsetCollects_lifted (os : Os) (started : os.Started) (H : Type) (enc : TypeId × Value → H) :
    ReturnsInHanded {} Tryz.checked os F_law07iOrsetCollects .any (Rows.orsetCollectsSpec.pre6 enc Tryz.prog Tryz.f7 Rows.orsetCollectsRow.domain false) (Rows.orsetCollectsSpec.post enc Tryz.prog Tryz.f7 false true false false) := by
  refine law_open3 (C := Tryz.checked) (rt := Y_bool) own started (by kernel_rfl) Tryz.func7
    (ChangeSpec.witness6 (enc := enc) (C := Tryz.checked) false ⟨#[], #[.slice none 0 0, .agg #[.string ByteArray.empty, .string ByteArray.empty]], []⟩ 8 (by kernel_rfl) (by kernel_rfl) (by kernel_rfl) (by kernel_rfl)) (by kernel_rfl) rfl (by kernel_rfl) (hT.und _ _ u_bool) laid (by kernel_rfl) ?_ ?_
  · intro ds hds
    rw [Tryz.params7] at hds
    match ds, hds with
    | [d0, d1], _ => rfl
  · intro W base args hlen hargs
    rw [Tryz.params7] at hlen hargs
    match args, hlen with
    | [a, k], _ =>
      obtain ⟨la, ha, ha1, ha2⟩ := acts_arg (hargs 0 _ a rfl rfl).1 (by obtain ⟨d, p, g1, g2⟩ := (hargs 0 _ a rfl rfl).2; exact ⟨d, p, g1, g2⟩)
      obtain ⟨lk, hk⟩ := key_arg (by obtain ⟨d, p, g1, g2⟩ := (hargs 1 _ k rfl rfl).2; exact ⟨d, p, g1⟩)
      show ACalls Tryz.prog F_law07iOrsetCollects [_, _] _ _
      rw [hk]
      exact orsetCollects_ok ha ha1 ha2

theorem orsetCollects_holds : Rows.OrsetCollectsSaid :=
  OpenClaim.holds_of_wide 7 Tryz.f7 rfl rfl rfl rfl rfl rfl rfl ⟨rfl, rfl, rfl, rfl, rfl⟩ rfl rfl rfl rfl rfl (by kernel_rfl) Tryz.func7 (by kernel_rfl)
    (of_decide_eq_true (by kernel_rfl)) (by unfold Func.isWrapper; rw [if_neg (by decide +kernel)]; exact ⟨rfl, rfl⟩)
    (fun os started H enc _ => orsetCollects_lifted os started H enc)
end Go.Proofs.YtoklmpkpeanloaaGreat
