/-
  VA: a device WW WX V6 two WL is Wh each event once, in order (for any steps).
-/
import Derived.Test.YtohgmogbabkkeaaGreatP7
set_option linter.unusedVariables false
set_option linter.unusedSimpArgs false
set_option linter.unusedSectionVars false
namespace Go.Proofs.YtohgmogbabkkeaaGreat
open Go.Am Go.au Go.aB Go.ChangeShapes Go.WideShapes Go.ChangeAt Go.RowKit
set_option maxRecDepth 100000 in
theorem Bc (os:Os) (started:os.Started) (H:Type) (enc:TypeId×Value->H) :
  ReturnsInHanded {} Tryz.checked os iQ .any (Rows.feedRoamsSpec.pre6 enc Tryz.prog Tryz.f3 Rows.feedRoamsRow.domain false) (Rows.feedRoamsSpec.post enc Tryz.prog Tryz.f3 false true false false):=by
 refine OP (C:=Tryz.checked) (rt:=vr) own started (by kernel_rfl) Tryz.func3
  (ChangeSpec.witness6 (enc:=enc) (C:=Tryz.checked) false ⟨#[],#[.slice none 0 0],[]⟩ 8 (by kernel_rfl) (by kernel_rfl) (by kernel_rfl) (by kernel_rfl)) (by kernel_rfl) rfl (by kernel_rfl) (hT.cQ _ _ Ur) laid (by kernel_rfl) ?_ ?_
 ·intro ds c;rw [Tryz.params3] at c
  match ds,c with
  | [d0],_=>rfl
 ·intro W base args hlen b;rw [Tryz.params3] at hlen b
  match args,hlen with
  | [l],_ =>
   obtain ⟨k,e,i⟩:=Qn (b 0 _ l rfl rfl).1 (by obtain ⟨d,p,j,m⟩:=(b 0 _ l rfl rfl).2;exact ⟨d,p,j⟩);show aa Tryz.prog iQ [_] _ _;exact FP e
set_option maxRecDepth 100000 in
theorem HH:(Rows.feedRoamsRow.inPlace==Tryz.pinned.checked.prog.inPlace 3)=true:=by kernel_rfl
set_option maxRecDepth 100000 in
theorem HI:(Rows.feedRoamsRow.unfollowed==Tryz.pinned.checked.prog.unfollowed 3)=true:=by kernel_rfl
set_option maxRecDepth 100000 in
theorem HJ:(Rows.feedRoamsRow.recurses==Tryz.pinned.checked.prog.recurses 3)=true:=by kernel_rfl
set_option maxRecDepth 100000 in
theorem HK:(Rows.feedRoamsRow.named==Tryz.pinned.checked.prog.varsNamed 3)=true:=by kernel_rfl
set_option maxRecDepth 100000 in
theorem HL:laidOutB Tryz.pinned.checked.prog=true:=by kernel_rfl
set_option maxRecDepth 100000 in
theorem Bd:joinedFacts Tryz.pinned.checked.prog 3 Tryz.f3 Rows.feedRoamsSpec Rows.feedRoamsRow=true:=by
 unfold joinedFacts;rw [HH,HI,HJ,HK,HL];kernel_rfl
set_option maxRecDepth 100000 in
theorem CF:Tryz.pinned.checked.prog.funcNamed Rows.feedRoamsRow.func=some 3:=by kernel_rfl
set_option maxRecDepth 100000 in
theorem DZ:Func.isInstance Tryz.pinned.checked.prog Tryz.f3 Rows.feedRoamsRow.origin Rows.feedRoamsRow.targs:=of_decide_eq_true (by kernel_rfl)
theorem feedRoams_holds:Rows.FeedRoamsSaid :=
 OpenClaim.holds_of_wide 3 Tryz.f3 rfl rfl rfl rfl rfl rfl rfl ⟨rfl,rfl,rfl,rfl,rfl⟩ rfl rfl rfl rfl rfl CF Tryz.func3 Bd
  DZ (by unfold Func.isWrapper;rw [if_neg (by decide +kernel)];exact ⟨rfl,rfl⟩)
  (fun os started H enc _=>Bc os started H enc)
end Go.Proofs.YtohgmogbabkkeaaGreat
