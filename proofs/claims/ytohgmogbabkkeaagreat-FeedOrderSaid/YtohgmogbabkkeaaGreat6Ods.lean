/-
  Zb law XR.
-/
import Derived.Test.YtohgmogbabkkeaaGreatP7
set_option linter.unusedVariables false
set_option linter.unusedSimpArgs false
set_option linter.unusedSectionVars false
namespace Go.Proofs.YtohgmogbabkkeaaGreat
open Go.Am Go.aq Go.aB Go.ChangeShapes Go.WideShapes Go.ChangeAt Go.RowKit
set_option maxRecDepth 100000 in
theorem CD (os:Os) (started:os.Started) (H:Type) (enc:TypeId×Value->H) :
  ReturnsInHanded {} Tryz.checked os mK .any (Rows.feedOrderSpec.pre6 enc Tryz.prog Tryz.f6 Rows.feedOrderRow.domain false) (Rows.feedOrderSpec.post enc Tryz.prog Tryz.f6 false true false false):=by
 refine QW (C:=Tryz.checked) (rt:=wO) own started (by kernel_rfl) Tryz.func6
  (ChangeSpec.witness6 (enc:=enc) (C:=Tryz.checked) false ⟨#[],#[.slice none 0 0,.slice none 0 0,.string ByteArray.empty],[]⟩ 8 (by kernel_rfl) (by kernel_rfl) (by kernel_rfl) (by kernel_rfl)) (by kernel_rfl) rfl (by kernel_rfl) (hT.cW _ _ Ws) laid (by kernel_rfl) ?_ ?_
 ·intro ds j;rw [Tryz.params6] at j
  match ds,j with
  | [d0,d1,d2],_=>rfl
 ·intro W base args hlen b;rw [Tryz.params6] at hlen b
  match args,hlen with
  | [l,events,device],_ =>
   obtain ⟨w,o⟩:=Wt (b 0 _ l rfl rfl).1 (by obtain ⟨d,p,n,r⟩:=(b 0 _ l rfl rfl).2;exact ⟨d,p,n⟩);obtain ⟨k,e,c⟩:=UR (b 1 _ events rfl rfl).1 (by obtain ⟨d,p,n,r⟩:=(b 1 _ events rfl rfl).2;exact ⟨d,p,n⟩);obtain ⟨m,i⟩:=Sr (b 2 _ device rfl rfl).1;simp only [List.map_cons,List.map_nil,i];exact HW o e c _
set_option maxRecDepth 100000 in
theorem JU:(Rows.feedOrderRow.inPlace==Tryz.pinned.checked.prog.inPlace 6)=true:=by kernel_rfl
set_option maxRecDepth 100000 in
theorem JV:(Rows.feedOrderRow.unfollowed==Tryz.pinned.checked.prog.unfollowed 6)=true:=by kernel_rfl
set_option maxRecDepth 100000 in
theorem JW:(Rows.feedOrderRow.recurses==Tryz.pinned.checked.prog.recurses 6)=true:=by kernel_rfl
set_option maxRecDepth 100000 in
theorem JX:(Rows.feedOrderRow.named==Tryz.pinned.checked.prog.varsNamed 6)=true:=by kernel_rfl
set_option maxRecDepth 100000 in
theorem JY:laidOutB Tryz.pinned.checked.prog=true:=by kernel_rfl
set_option maxRecDepth 100000 in
theorem CE:joinedFacts Tryz.pinned.checked.prog 6 Tryz.f6 Rows.feedOrderSpec Rows.feedOrderRow=true:=by
 unfold joinedFacts;rw [JU,JV,JW,JX,JY];kernel_rfl
set_option maxRecDepth 100000 in
theorem Ee:Tryz.pinned.checked.prog.funcNamed Rows.feedOrderRow.func=some 6:=by kernel_rfl
set_option maxRecDepth 100000 in
theorem FU:Func.isInstance Tryz.pinned.checked.prog Tryz.f6 Rows.feedOrderRow.origin Rows.feedOrderRow.targs:=of_decide_eq_true (by kernel_rfl)
theorem feedOrder_holds:Rows.FeedOrderSaid :=
 OpenClaim.holds_of_wide 6 Tryz.f6 rfl rfl rfl rfl rfl rfl rfl ⟨rfl,rfl,rfl,rfl,rfl⟩ rfl rfl rfl rfl rfl Ee Tryz.func6 CE
  FU (by unfold Func.isWrapper;rw [if_neg (by decide +kernel)];exact ⟨rfl,rfl⟩)
  (fun os started H enc _=>CD os started H enc)
end Go.Proofs.YtohgmogbabkkeaaGreat
