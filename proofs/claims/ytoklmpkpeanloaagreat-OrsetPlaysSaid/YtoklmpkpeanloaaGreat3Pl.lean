/-
  OrsetPlays: a set, act by act: items, keys, the context, what changed, and what is refused (for any acts).
-/
import Derived.Test.YtoklmpkpeanloaaGreatP6
set_option linter.unusedSimpArgs false
set_option linter.unusedVariables false
namespace Go.Proofs.YtoklmpkpeanloaaGreat
open Go.Am Go.Minster Go.Minster2 Go.ChangeShapes Go.WideShapes Go.ChangeAt Go.RowKit
set_option maxRecDepth 100000 in
theorem orsetPlays_lifted (os : Os) (started : os.Started) (H : Type) (enc : TypeId × Value → H) :
    ReturnsInHanded {} Tryz.checked os F_law07iOrsetPlays .any (Rows.orsetPlaysSpec.pre6 enc Tryz.prog Tryz.f5 Rows.orsetPlaysRow.domain false) (Rows.orsetPlaysSpec.post enc Tryz.prog Tryz.f5 false true false false) := by
  refine law_open3 (C := Tryz.checked) (rt := Y_bool) own started (by kernel_rfl) Tryz.func5
    (ChangeSpec.witness6 (enc := enc) (C := Tryz.checked) false ⟨#[], #[.slice none 0 0], []⟩ 8 (by kernel_rfl) (by kernel_rfl) (by kernel_rfl) (by kernel_rfl)) (by kernel_rfl) rfl (by kernel_rfl) (hT.und _ _ u_bool) laid (by kernel_rfl) ?_ ?_
  · intro ds hds
    rw [Tryz.params5] at hds
    match ds, hds with
    | [d0], _ => rfl
  · intro W base args hlen hargs
    rw [Tryz.params5] at hlen hargs
    match args, hlen with
    | [a], _ =>
      obtain ⟨la, ha, hb, hc⟩ := acts_arg (hargs 0 _ a rfl rfl).1 (by obtain ⟨d, p, h1, h2⟩ := (hargs 0 _ a rfl rfl).2; exact ⟨d, p, h1, h2⟩)
      exact orsetPlays_ok ha hb hc

theorem orsetPlays_holds : Rows.OrsetPlaysSaid :=
  OpenClaim.holds_of_wide 5 Tryz.f5 rfl rfl rfl rfl rfl rfl rfl ⟨rfl, rfl, rfl, rfl, rfl⟩ rfl rfl rfl rfl rfl (by kernel_rfl) Tryz.func5 (by kernel_rfl)
    (of_decide_eq_true (by kernel_rfl)) (by unfold Func.isWrapper; rw [if_neg (by decide +kernel)]; exact ⟨rfl, rfl⟩)
    (fun os started H enc _ => orsetPlays_lifted os started H enc)
end Go.Proofs.YtoklmpkpeanloaaGreat
