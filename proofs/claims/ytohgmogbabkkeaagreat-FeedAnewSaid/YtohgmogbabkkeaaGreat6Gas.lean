/-
  FeedAnew: who subscribes anew is handed all that was published since the first time (for any steps, topic, device).
-/
import Derived.Test.YtohgmogbabkkeaaGreatP7
set_option linter.unusedVariables false
set_option linter.unusedSimpArgs false
set_option linter.unusedSectionVars false
namespace Go.Proofs.YtohgmogbabkkeaaGreat
open Go.Am Go.au Go.aC Go.ChangeShapes Go.WideShapes Go.ChangeAt Go.RowKit
set_option maxRecDepth 100000 in
theorem Gu (os:Os) (started:os.Started) (H:Type) (enc:TypeId×Value→H) :
  ReturnsInHanded {} Tryz.checked os jP .any (Rows.feedAnewSpec.pre6 enc Tryz.prog Tryz.f5 Rows.feedAnewRow.domain false) (Rows.feedAnewSpec.post enc Tryz.prog Tryz.f5 false true false false):=by
 refine UZ (C:=Tryz.checked) (rt:=rm) own started (by kernel_rfl) Tryz.func5
  (ChangeSpec.witness6 (enc:=enc) (C:=Tryz.checked) false ⟨#[],#[.slice none 0 0,.string ByteArray.empty,.string ByteArray.empty],[]⟩ 8 (by kernel_rfl) (by kernel_rfl) (by kernel_rfl) (by kernel_rfl)) (by kernel_rfl) rfl (by kernel_rfl) (hT.cM _ _ acZ) laid (by kernel_rfl) ?_ ?_
 ·intro ds hds
  rw [Tryz.params5] at hds
  match ds,hds with
  | [d0,d1,d2],_=>rfl
 ·intro W base args hlen hargs
  rw [Tryz.params5] at hlen hargs
  match args,hlen with
  | [a,t,d],_ =>
   obtain ⟨la,ha⟩:=Ww (hargs 0 _ a rfl rfl).1 (by obtain ⟨d,p,g1,g2⟩:=(hargs 0 _ a rfl rfl).2;exact ⟨d,p,g1⟩)
   obtain ⟨lt,ht⟩:=Uq (hargs 1 _ t rfl rfl).1
   obtain ⟨ld,hd⟩:=Uq (hargs 2 _ d rfl rfl).1
   show aa Tryz.prog jP [_,_,_] _ _
   rw [ht,hd]
   exact NI ha _ _
set_option maxRecDepth 100000 in
theorem QC:(Rows.feedAnewRow.inPlace==Tryz.pinned.checked.prog.inPlace 5)=true:=by kernel_rfl
set_option maxRecDepth 100000 in
theorem QD:(Rows.feedAnewRow.unfollowed==Tryz.pinned.checked.prog.unfollowed 5)=true:=by kernel_rfl
set_option maxRecDepth 100000 in
theorem QE:(Rows.feedAnewRow.recurses==Tryz.pinned.checked.prog.recurses 5)=true:=by kernel_rfl
set_option maxRecDepth 100000 in
theorem QF:(Rows.feedAnewRow.named==Tryz.pinned.checked.prog.varsNamed 5)=true:=by kernel_rfl
set_option maxRecDepth 100000 in
theorem QG:laidOutB Tryz.pinned.checked.prog=true:=by kernel_rfl
set_option maxRecDepth 100000 in
theorem Gv:joinedFacts Tryz.pinned.checked.prog 5 Tryz.f5 Rows.feedAnewSpec Rows.feedAnewRow=true:=by
 unfold joinedFacts
 rw [QC,QD,QE,QF,QG]
 kernel_rfl
set_option maxRecDepth 100000 in
theorem Jg:Tryz.pinned.checked.prog.funcNamed Rows.feedAnewRow.func=some 5:=by kernel_rfl
set_option maxRecDepth 100000 in
theorem KF:Func.isInstance Tryz.pinned.checked.prog Tryz.f5 Rows.feedAnewRow.origin Rows.feedAnewRow.targs:=of_decide_eq_true (by kernel_rfl)
theorem feedAnew_holds:Rows.FeedAnewSaid :=
 OpenClaim.holds_of_wide 5 Tryz.f5 rfl rfl rfl rfl rfl rfl rfl ⟨rfl,rfl,rfl,rfl,rfl⟩ rfl rfl rfl rfl rfl Jg Tryz.func5 Gv
  KF (by unfold Func.isWrapper;rw [if_neg (by decide +kernel)];exact ⟨rfl,rfl⟩)
  (fun os started H enc _=>Gu os started H enc)
end Go.Proofs.YtohgmogbabkkeaaGreat
