/-
  WG: what Ya under Pd Xy Yb a device was told last is never Xz to it again (for any Yc).
-/
import Derived.Test.YtohgmogbabkkeaaGreatP7
set_option linter.unusedVariables false
set_option linter.unusedSimpArgs false
set_option linter.unusedSectionVars false
namespace Go.Proofs.YtohgmogbabkkeaaGreat
open Go.Am Go.av Go.aB Go.ChangeShapes Go.WideShapes Go.ChangeAt Go.RowKit
set_option maxRecDepth 100000 in
theorem B5 (os:Os) (started:os.Started) (H:Type) (enc:TypeId×Value->H) :
  ReturnsInHanded {} Tryz.checked os mq .any (Rows.feedNeverSpec.pre6 enc Tryz.prog Tryz.f4 Rows.feedNeverRow.domain false) (Rows.feedNeverSpec.post enc Tryz.prog Tryz.f4 false true false false):=by
 refine Qb (C:=Tryz.checked) (rt:=vX) own started (by kernel_rfl) Tryz.func4
  (ChangeSpec.witness6 (enc:=enc) (C:=Tryz.checked) false ⟨#[],#[.slice none 0 0],[]⟩ 8 (by kernel_rfl) (by kernel_rfl) (by kernel_rfl) (by kernel_rfl)) (by kernel_rfl) rfl (by kernel_rfl) (hT.cR _ _ Vv) laid (by kernel_rfl) ?_ ?_
 ·intro ds c;rw [Tryz.params4] at c
  match ds,c with
  | [d0],_=>rfl
 ·intro W base args hlen b;rw [Tryz.params4] at hlen b
  match args,hlen with
  | [l],_ =>
   obtain ⟨j,e⟩:=Vx (b 0 _ l rfl rfl).1 (by obtain ⟨d,p,i,k⟩:=(b 0 _ l rfl rfl).2;exact ⟨d,p,i⟩);exact G_ e
set_option maxRecDepth 100000 in
theorem IZ:(Rows.feedNeverRow.inPlace==Tryz.pinned.checked.prog.inPlace 4)=true:=by kernel_rfl
set_option maxRecDepth 100000 in
theorem I_:(Rows.feedNeverRow.unfollowed==Tryz.pinned.checked.prog.unfollowed 4)=true:=by kernel_rfl
set_option maxRecDepth 100000 in
theorem Ja:(Rows.feedNeverRow.recurses==Tryz.pinned.checked.prog.recurses 4)=true:=by kernel_rfl
set_option maxRecDepth 100000 in
theorem Jf:(Rows.feedNeverRow.named==Tryz.pinned.checked.prog.varsNamed 4)=true:=by kernel_rfl
set_option maxRecDepth 100000 in
theorem Jg:laidOutB Tryz.pinned.checked.prog=true:=by kernel_rfl
set_option maxRecDepth 100000 in
theorem B6:joinedFacts Tryz.pinned.checked.prog 4 Tryz.f4 Rows.feedNeverSpec Rows.feedNeverRow=true:=by
 unfold joinedFacts;rw [IZ,I_,Ja,Jf,Jg];kernel_rfl
set_option maxRecDepth 100000 in
theorem DA:Tryz.pinned.checked.prog.funcNamed Rows.feedNeverRow.func=some 4:=by kernel_rfl
set_option maxRecDepth 100000 in
theorem EY:Func.isInstance Tryz.pinned.checked.prog Tryz.f4 Rows.feedNeverRow.origin Rows.feedNeverRow.targs:=of_decide_eq_true (by kernel_rfl)
theorem feedNever_holds:Rows.FeedNeverSaid :=
 OpenClaim.holds_of_wide 4 Tryz.f4 rfl rfl rfl rfl rfl rfl rfl ⟨rfl,rfl,rfl,rfl,rfl⟩ rfl rfl rfl rfl rfl DA Tryz.func4 B6
  EY (by unfold Func.isWrapper;rw [if_neg (by decide +kernel)];exact ⟨rfl,rfl⟩)
  (fun os started H enc _=>B5 os started H enc)
end Go.Proofs.YtohgmogbabkkeaaGreat
