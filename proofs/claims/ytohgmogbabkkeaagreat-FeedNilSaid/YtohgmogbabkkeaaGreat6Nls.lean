/-
  We: what a feed Xe is not there, and a zero one, answer (a closed sentence).
-/
import Derived.Test.YtohgmogbabkkeaaGreatP7
set_option linter.unusedVariables false
set_option linter.unusedSimpArgs false
set_option linter.unusedSectionVars false
namespace Go.Proofs.YtohgmogbabkkeaaGreat
open Go.Am Go.au Go.aC Go.ChangeShapes Go.WideShapes Go.ChangeAt Go.RowKit
set_option maxRecDepth 100000 in
theorem Ea (os:Os) (started:os.Started) (H:Type) (enc:TypeId×Value->H) :
  ReturnsInHanded {} Tryz.checked os oT .any (Rows.feedNilSpec.pre6 enc Tryz.prog Tryz.f11 Rows.feedNilRow.domain false) (Rows.feedNilSpec.post enc Tryz.prog Tryz.f11 false true false false):=by
 refine O3 (C:=Tryz.checked) (rt:=vM) own started (by kernel_rfl) Tryz.func11
  (ChangeSpec.witness6 (enc:=enc) (C:=Tryz.checked) false ⟨#[],#[],[]⟩ 8 (by kernel_rfl) (by kernel_rfl) (by kernel_rfl) (by kernel_rfl)) (by kernel_rfl) rfl (by kernel_rfl) (hT.cR _ _ Ux) laid (by kernel_rfl) ?_ ?_
 ·intro ds c;rw [Tryz.params11] at c
  match ds,c with
  | [],_=>rfl
 ·intro W base args hlen b;rw [Tryz.params11] at hlen b
  match args,hlen with
  | [],_ =>
   exact JP _
set_option maxRecDepth 100000 in
theorem Mi:(Rows.feedNilRow.inPlace==Tryz.pinned.checked.prog.inPlace 11)=true:=by kernel_rfl
set_option maxRecDepth 100000 in
theorem Mj:(Rows.feedNilRow.unfollowed==Tryz.pinned.checked.prog.unfollowed 11)=true:=by kernel_rfl
set_option maxRecDepth 100000 in
theorem Mk:(Rows.feedNilRow.recurses==Tryz.pinned.checked.prog.recurses 11)=true:=by kernel_rfl
set_option maxRecDepth 100000 in
theorem Ml:(Rows.feedNilRow.named==Tryz.pinned.checked.prog.varsNamed 11)=true:=by kernel_rfl
set_option maxRecDepth 100000 in
theorem Mm:laidOutB Tryz.pinned.checked.prog=true:=by kernel_rfl
set_option maxRecDepth 100000 in
theorem Eb:joinedFacts Tryz.pinned.checked.prog 11 Tryz.f11 Rows.feedNilSpec Rows.feedNilRow=true:=by
 unfold joinedFacts;rw [Mi,Mj,Mk,Ml,Mm];kernel_rfl
set_option maxRecDepth 100000 in
theorem Ga:Tryz.pinned.checked.prog.funcNamed Rows.feedNilRow.func=some 11:=by kernel_rfl
set_option maxRecDepth 100000 in
theorem HP:Func.isInstance Tryz.pinned.checked.prog Tryz.f11 Rows.feedNilRow.origin Rows.feedNilRow.targs:=of_decide_eq_true (by kernel_rfl)
theorem feedNil_holds:Rows.FeedNilSaid :=
 OpenClaim.holds_of_wide 11 Tryz.f11 rfl rfl rfl rfl rfl rfl rfl ⟨rfl,rfl,rfl,rfl,rfl⟩ rfl rfl rfl rfl rfl Ga Tryz.func11 Eb
  HP (by unfold Func.isWrapper;rw [if_neg (by decide +kernel)];exact ⟨rfl,rfl⟩)
  (fun os started H enc _=>Ea os started H enc)
end Go.Proofs.YtohgmogbabkkeaaGreat
