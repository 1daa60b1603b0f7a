/-
  OrsetOrder: whatever the order in which items are seen, how often, and what is collected in between, the same dots are seen, live, and gone, if each dot comes live with one key alone (for any items, order and dots).
-/
import Derived.Test.YtoklmpkpeanloaaGreatP6
set_option linter.unusedSimpArgs false
set_option linter.unusedVariables false
namespace Go.Proofs.YtoklmpkpeanloaaGreat
open Go.Am Go.Minster Go.Minster2 Go.ChangeShapes Go.WideShapes Go.ChangeAt Go.RowKit
set_option maxRecDepth 100000 in
theorem orsetOrder_lifted (os : Os) (started : os.Started) (H : Type) (enc : TypeId × Value → H) :
    ReturnsInHanded {} Tryz.checked os F_law07iOrsetOrder .any (Rows.orsetOrderSpec.pre6 enc Tryz.prog Tryz.f3 Rows.orsetOrderRow.domain false) (Rows.orsetOrderSpec.post enc Tryz.prog Tryz.f3 false true false false) := by
  refine law_open (C := Tryz.checked) (rt := Y_bool) own started (by kernel_rfl) Tryz.func3
    (ChangeSpec.witness6 (enc := enc) (C := Tryz.checked) false ⟨#[], #[.slice none 0 0, .slice none 0 0, .slice none 0 0], []⟩ 8 (by kernel_rfl) (by kernel_rfl) (by kernel_rfl) (by kernel_rfl)) (by kernel_rfl) rfl (by kernel_rfl) (hT.und _ _ u_bool) laid (by kernel_rfl) ?_ ?_
  · intro ds hds
    rw [Tryz.params3] at hds
    match ds, hds with
    | [d1, d2, d3], _ => rfl
  · intro W base args hlen hargs
    rw [Tryz.params3] at hlen hargs
    match args, hlen with
    | [a, b, c], _ =>
      obtain ⟨l, hl, _⟩ := items_arg (hargs 0 _ a rfl rfl).1 (hargs 0 _ a rfl rfl).2
      obtain ⟨o, ho, _⟩ := ints_arg (hargs 1 _ b rfl rfl).1 (hargs 1 _ b rfl rfl).2
      obtain ⟨d, hd, _⟩ := dots_arg (hargs 2 _ c rfl rfl).1 (hargs 2 _ c rfl rfl).2
      exact orsetOrder_ok hl ho hd

theorem orsetOrder_holds : Rows.OrsetOrderSaid :=
  OpenClaim.holds_of_wide 3 Tryz.f3 rfl rfl rfl rfl rfl rfl rfl ⟨rfl, rfl, rfl, rfl, rfl⟩ rfl rfl rfl rfl rfl (by kernel_rfl) Tryz.func3 (by kernel_rfl)
    (of_decide_eq_true (by kernel_rfl)) (by unfold Func.isWrapper; rw [if_neg (by decide +kernel)]; exact ⟨rfl, rfl⟩)
    (fun os started H enc _ => orsetOrder_lifted os started H enc)
end Go.Proofs.YtoklmpkpeanloaaGreat
