/-
  OrsetLooks: what is live, what is gone, to whom a topic goes, buckets and tombstones (for any acts, dots, texts and key).
-/
import Derived.Test.YtoklmpkpeanloaaGreatP6
set_option linter.unusedVariables false
set_option linter.unusedSimpArgs false
set_option linter.unusedSectionVars false
namespace Go.Proofs.YtoklmpkpeanloaaGreat
open Go.Am Go.Minster Go.Minster2 Go.ChangeShapes Go.WideShapes Go.ChangeAt Go.RowKit
set_option maxRecDepth 100000 in
theorem orsetLooks_lifted (os : Os) (started : os.Started) (H : Type) (enc : TypeId × Value → H) :
  ReturnsInHanded {} Tryz.checked os F_law07iOrsetLooks .any (Rows.orsetLooksSpec.pre6 enc Tryz.prog Tryz.f4 Rows.orsetLooksRow.domain false) (Rows.orsetLooksSpec.post enc Tryz.prog Tryz.f4 false true false false) := by
 refine law_open3 (C := Tryz.checked) (rt := Y_bool) own started (by kernel_rfl) Tryz.func4
  (ChangeSpec.witness6 (enc := enc) (C := Tryz.checked) false ⟨#[], #[.slice none 0 0, .slice none 0 0, .slice none 0 0, .agg #[.string ByteArray.empty, .string ByteArray.empty]], []⟩ 8 (by kernel_rfl) (by kernel_rfl) (by kernel_rfl) (by kernel_rfl)) (by kernel_rfl) rfl (by kernel_rfl) (hT.und _ _ u_bool) laid (by kernel_rfl) ?_ ?_
 ·intro ds hds
  rw [Tryz.params4] at hds
  match ds, hds with
  | [d0, d1, d2, d3], _ => rfl
 ·intro W base args hlen hargs
  rw [Tryz.params4] at hlen hargs
  match args, hlen with
  | [a, b, c, k], _ =>
   obtain ⟨la, ha, ha1, ha2⟩ := acts_arg (hargs 0 _ a rfl rfl).1 (by obtain ⟨d, p, g1, g2⟩ := (hargs 0 _ a rfl rfl).2; exact ⟨d, p, g1, g2⟩)
   obtain ⟨lb, hb, hb1⟩ := dots_arg (hargs 1 _ b rfl rfl).1 (by obtain ⟨d, p, g1, g2⟩ := (hargs 1 _ b rfl rfl).2; exact ⟨d, p, g1⟩)
   obtain ⟨lc, hc⟩ := strs_arg (hargs 2 _ c rfl rfl).1 (by obtain ⟨d, p, g1, g2⟩ := (hargs 2 _ c rfl rfl).2; exact ⟨d, p, g1⟩)
   obtain ⟨lk, hk⟩ := key_arg (by obtain ⟨d, p, g1, g2⟩ := (hargs 3 _ k rfl rfl).2; exact ⟨d, p, g1⟩)
   show ACalls Tryz.prog F_law07iOrsetLooks [_, _, _, _] _ _
   rw [hk]
   exact orsetLooks_ok ha ha1 ha2 hb hc
theorem orsetLooks_holds : Rows.OrsetLooksSaid :=
 OpenClaim.holds_of_wide 4 Tryz.f4 rfl rfl rfl rfl rfl rfl rfl ⟨rfl, rfl, rfl, rfl, rfl⟩ rfl rfl rfl rfl rfl (by kernel_rfl) Tryz.func4 (by kernel_rfl)
  (of_decide_eq_true (by kernel_rfl)) (by unfold Func.isWrapper; rw [if_neg (by decide +kernel)]; exact ⟨rfl, rfl⟩)
  (fun os started H enc _ => orsetLooks_lifted os started H enc)
end Go.Proofs.YtoklmpkpeanloaaGreat
