/-
  A part of Pd proof: an abstract machine B7 Pd model, and qA of qB of this program B7 it.
-/
import Derived.KernelRfl
import Derived.Test.YtohgmogbabkkeaaGreatP4
set_option linter.unusedVariables false
set_option linter.unusedSimpArgs false
set_option linter.unusedSectionVars false
section
set_option maxRecDepth 100000
set_option maxHeartbeats 4000000
namespace Go.Proofs.YtohgmogbabkkeaaGreat
open Go.Am
def Kf  (s:AS) (R:AV->AS->Prop):Prop :=
 aj (.cells [.int .u64 0] 0 false) s fun l1 s2=>bu (cU s2 l1 0 [.int .u64 2]) fun s3=>bA fun l G=>l G [.slc none 0 0 true,(.ptr (some (l1,0)))] s3 /\
 ∀ F:Nat,∀ d:AV,∀ j:Option (Nat×Nat),∀ k:AS,l F [d,.ptr j] k ->
 aU .i64 (aQ T fB d k) fun m=>af (decide ((m:Int)<64))
 (bG fun c =>
 (∀ e:AV,∀ bW:AS,c [e] bW ->
 ai j fun ku n=>aU .u64 (au bW ku n) fun o=>aj (.cells [.int .u64 0] 0 false) bW fun b eT=>bu (cU eT b 0 [.int .u64 o]) fun jl=>aU .u64 (au jl b 0) fun p=>bu (cU jl b 0 [(.int .u64 (IntKind.wrap .u64 (p+1)))]) fun gG=>∃ m',m'<F/\l m' [e,(.ptr (some (b,0)))] gG) /\
 (aa Tryz.prog b_ [d,(.func qY [.ptr j])] k fun r uj=>∃ i:Bool,r=.bool i/\(af (!i)
 (ai j fun w x=>aU .u64 (au uj w x) fun y=>aR (dw T fB 1 [(0,.int .u64 y)]) fun z=>aj (.cells z 0 false) uj fun A B=>iT (aL T fB fB d (.slc (some (A,0)) 1 1 true) B) fun C D=>c [C] D)
 (c [d] uj))))
 (R d k)
def Kg:QA:=(.seq .leaf (.seq .leaf (.seq (.seq .leaf (.wrap (.loop [(1,.any),(2,.ptr)] [(1,16)] (.seq (.seq .leaf (.cond .leaf .leaf)) (.join [(1,.any)] [(1,1),(8,15)] (.wrap (.seq .leaf (.cond .leaf .leaf))) (.seq (.seq .leaf .leaf) .leaf)))))) (.seq .leaf .leaf))))
theorem Kh  (s:AS) (R:AV->AS->Prop) (h:Kf  s R):aa Tryz.prog uP [] s R :=
 aa.q (n:=18) (rs:=[.tmp 0]) (A:=Kg) hT bY Tryz.func258 (by kernel_rfl) rfl rfl rfl (by kernel_rfl) (by kernel_rfl) h
def Gk (a0:Int) (c0:Option (Nat×Nat)) (s:AS) (R:AV->AS->Prop):Prop :=
 ai c0 fun l1 o2=>aU .u64 (au s l1 o2) fun b=>NZ a0 (R (.bool ((Int.tmod b a0:Int)==0)) s)
def Gl:QA:=(.seq .leaf (.seq .leaf .leaf))
theorem Gm (a0:Int) (c0:Option (Nat×Nat)) (s:AS) (R:AV->AS->Prop) (h:Gk a0 c0 s R):aa Tryz.prog qY [.int .u64 a0,.ptr c0] s R :=
 aa.q (n:=8) (rs:=[.tmp 3]) (A:=Gl) hT bY Tryz.func291 (by kernel_rfl) rfl rfl rfl (by kernel_rfl) (by kernel_rfl) h
def Ki (a0:Int) (s:AS) (R:AV->AS->Prop):Prop :=
 aj (.cells [.int .u64 0,.int .u64 0] 0 false) s fun l1 s2=>aa Tryz.prog gr [.int .u64 a0,.int .u64 a0] s2 fun e s4=>∃ b:Int,∃ c:Int,e=.aN [.int .u64 b,.int .u64 c]/\(nQ (aS T fM [(0,.int .u64 b),(1,.int .u64 c)]) fun d=>fC (some 2) d (bu (cU s4 l1 0 d) fun s8=>aR (aC s8 l1 0 2) fun i=>R (.agg i) s8))
def Kj:QA:=(.seq .leaf (.seq .leaf (.seq .leaf .leaf)))
theorem Kk (a0:Int) (s:AS) (R:AV->AS->Prop) (h:Ki a0 s R):aa Tryz.prog fH [.int .u64 a0] s R :=
 aa.q (n:=14) (rs:=[.cell 2 341]) (A:=Kj) hT bY Tryz.func297 (by kernel_rfl) rfl rfl rfl (by kernel_rfl) (by kernel_rfl) h
def Ou (a0:Int) (s:AS) (R:AV->AS->Prop):Prop :=
 aj (.cells [.int .u64 0,.int .u64 0] 0 false) s fun l1 s2=>aa Tryz.prog fH [.int .u64 a0] s2 fun F s4=>∃ m:List AV,F=.agg m/\(aj (.cells [.int .u64 0,.int .u64 0] 0 false) s4 fun n s7=>fC (some 2) m (bu (cU s7 n 0 m) fun s8=>bJ (ag T fM (.ptr (some (n,0))) (.int .i64 1)) fun G o=>aU .u64 (au s8 G o) fun p=>aa Tryz.prog gr [.int .u64 p,.int .u64 a0] s8 fun r bW=>∃ d:Int,∃ b:Int,r=.aN [.int .u64 d,.int .u64 b]/\(bJ (ag T fM (.ptr (some (n,0))) (.int .i64 0)) fun pT w=>aU .u64 (au bW pT w) fun x=>aa Tryz.prog gr [.int .u64 x,.int .u64 a0] bW fun y gy=>∃ e:Int,∃ i:Int,y=.aN [.int .u64 e,.int .u64 i]/\(aa Tryz.prog rZ [.int .u64 i,.int .u64 d,.int .u64 0] gy fun z A=>∃ c:Int,∃ j:Int,z=.aN [.int .u64 c,.int .u64 j]/\(NN 32 (NN 32 (aU .u64 (bD .or .u64 (IntKind.wrap .u64 ((IntKind.wrap .u64 (e+j))*2 ^ min (Int.toNat 32) (IntKind.bits .u64))) (Int.fdiv c (2 ^ min (Int.toNat 32) (IntKind.bits .u64)))) fun B=>NN 32 (NN 32 (aU .u64 (bD .or .u64 (IntKind.wrap .u64 (c*2 ^ min (Int.toNat 32) (IntKind.bits .u64))) (Int.fdiv b (2 ^ min (Int.toNat 32) (IntKind.bits .u64)))) fun C=>nQ (aS T fM [(0,.int .u64 B),(1,.int .u64 C)]) fun k=>NN 32 (fC (some 2) k (bu (cU A l1 0 k) fun l=>aR (aC l l1 0 2) fun D=>R (.aN [.agg D,(.bool ((IntKind.wrap .u64 (b*2 ^ min (Int.toNat 32) (IntKind.bits .u64)):Int) != 0))]) l)))))))))))
def Ov:QA:=(.seq .leaf (.seq .leaf (.seq .leaf (.seq .leaf (.seq .leaf (.seq .leaf (.seq .leaf .leaf)))))))
theorem Ow (a0:Int) (s:AS) (R:AV->AS->Prop) (h:Ou a0 s R):aa Tryz.prog y_ [.int .u64 a0] s R :=
 aa.q (n:=50) (rs:=[.cell 2 341,.tmp 3]) (A:=Ov) hT bY Tryz.func294 (by kernel_rfl) rfl rfl rfl (by kernel_rfl) (by kernel_rfl) h
def Mh (a0:List AV) (a1:Bool) (a2:Int) (s:AS) (R:AV->AS->Prop):Prop :=
 cH a0 (aj (.cells a0 0 false) s fun l1 s2=>bJ (ag T fM (.ptr (some (l1,0))) (.int .i64 0)) fun l3 d=>aU .u64 (au s2 l3 d) fun e=>af (decide ((e:Int)>a2)) (R (.bool true) s2) (bJ (ag T fM (.ptr (some (l1,0))) (.int .i64 0)) fun i j=>aU .u64 (au s2 i j) fun k=>af ((k:Int)==a2) (bJ (ag T fM (.ptr (some (l1,0))) (.int .i64 1)) fun l b=>aU .u64 (au s2 l b) fun c=>af (decide ((c:Int)>0)) (R (.bool true) s2) (R (.bool a1) s2)) (R (.bool false) s2)))
def Mi:QA:=(.seq .leaf (.seq .leaf .leaf))
theorem Mj (a0:List AV) (a1:Bool) (a2:Int) (s:AS) (R:AV->AS->Prop) (h:Mh a0 a1 a2 s R):aa Tryz.prog rY [.agg a0,.bool a1,.int .u64 a2] s R :=
 aa.q (n:=25) (rs:=[.tmp 6]) (A:=Mi) hT bY Tryz.func295 (by kernel_rfl) rfl rfl rfl (by kernel_rfl) (by kernel_rfl) h
def Ox (a0:AV) (s:AS) (R:AV->AS->Prop):Prop :=
 bG fun l =>
 (∀ n2:Int,∀ s3:AS,l [.int .u64 n2] s3 ->
 R (.int .u32 (IntKind.wrap .u32 n2)) s3) /\
 (bA fun e m=>e m [.int .u64 0,.int .i64 0] s /\
 ∀ j:Nat,∀ i:Int,∀ b:Int,∀ k:AS,e j [.int .u64 i,.int .i64 b] k ->
 af (decide ((b:Int)<38))
 (NN (IntKind.wrap .i64 (37 - b)) (aU .u64 (bD .or .u64 i (IntKind.wrap .u64 (1*2 ^ min (Int.toNat (IntKind.wrap .i64 (37 - b))) (IntKind.bits .u64)))) fun c=>ez Tryz.prog a0 [.int .u64 c] k fun v11 dH=>∃ d:Bool,v11=.bool d/\(af (!d)
 (∃ m',m'<j/\e m' [.int .u64 c,(.int .i64 (IntKind.wrap .i64 (b+1)))] dH)
 (∃ m',m'<j/\e m' [.int .u64 i,(.int .i64 (IntKind.wrap .i64 (b+1)))] dH))))
 (l [.int .u64 i] k))
def Oy:QA:=(.seq .leaf (.seq .leaf (.join [(3,.int .u64)] [(3,19)] (.seq .leaf (.wrap (.loop [(3,.int .u64),(6,.int .i64)] [(3,19)] (.seq .leaf (.seq (.cond .leaf .leaf) (.seq (.wrap (.seq .leaf (.seq .leaf (.seq .leaf (.cond .leaf .leaf))))) .leaf)))))) (.seq .leaf .leaf))))
theorem Oz (a0:AV) (s:AS) (R:AV->AS->Prop) (h:Ox a0 s R):aa Tryz.prog uQ [a0] s R :=
 aa.q (n:=22) (rs:=[.tmp 2]) (A:=Oy) hT bY Tryz.func292 (by kernel_rfl) rfl rfl rfl (by kernel_rfl) (by kernel_rfl) h
def Gn (a0:Int) (s:AS) (R:AV->AS->Prop):Prop :=
 aj (.cells [.int .u64 a0] 0 false) s fun l1 s2=>aa Tryz.prog uQ [(.func oq [(.ptr (some (l1,0)))])] s2 fun c s4=>∃ b:Int,c=.int .u32 b/\(R (.int .u32 b) s4)
def Gp:QA:=(.seq .leaf (.seq .leaf .leaf))
theorem Gq (a0:Int) (s:AS) (R:AV->AS->Prop) (h:Gn a0 s R):aa Tryz.prog qX [.int .u64 a0] s R :=
 aa.q (n:=5) (rs:=[.tmp 2]) (A:=Gp) hT bY Tryz.func259 (by kernel_rfl) rfl rfl rfl (by kernel_rfl) (by kernel_rfl) h
def CG (a0:Int) (c0:Option (Nat×Nat)) (s:AS) (R:AV->AS->Prop):Prop :=
 aa Tryz.prog y_ [.int .u64 a0] s fun l s2=>∃ c:List AV,∃ j:Bool,l=.aN [.agg c,.bool j]/\(aj (.cells [.int .u64 0,.int .u64 0] 0 false) s2 fun k s6=>fC (some 2) c (bu (cU s6 k 0 c) fun s7=>aR (aC s7 k 0 2) fun m=>ai c0 fun n d=>aU .u64 (au s7 n d) fun e=>aa Tryz.prog rY [.agg m,.bool j,.int .u64 e] s7 fun i bW=>∃ b:Bool,i=.bool b/\(R (.bool b) bW)))
def CH:QA:=(.seq .leaf (.seq .leaf (.seq .leaf .leaf)))
theorem CJ (a0:Int) (c0:Option (Nat×Nat)) (s:AS) (R:AV->AS->Prop) (h:CG a0 c0 s R):aa Tryz.prog oq [.int .u64 a0,.ptr c0] s R :=
 aa.q (n:=15) (rs:=[.tmp 3]) (A:=CH) hT bY Tryz.func293 (by kernel_rfl) rfl rfl rfl (by kernel_rfl) (by kernel_rfl) h
def Mk (a0:Int) (s:AS) (R:AV->AS->Prop):Prop :=
 aj (.cells [.int .u64 a0] 0 false) s fun l1 s2=>aa Tryz.prog uQ [(.func sF [(.ptr (some (l1,0)))])] s2 fun c s4=>∃ b:Int,c=.int .u32 b/\(R (.int .u32 b) s4)
def Ml:QA:=(.seq .leaf (.seq .leaf .leaf))
theorem Mm (a0:Int) (s:AS) (R:AV->AS->Prop) (h:Mk a0 s R):aa Tryz.prog wR [.int .u64 a0] s R :=
 aa.q (n:=5) (rs:=[.tmp 2]) (A:=Ml) hT bY Tryz.func260 (by kernel_rfl) rfl rfl rfl (by kernel_rfl) (by kernel_rfl) h
def HD (a0:Int) (c0:Option (Nat×Nat)) (s:AS) (R:AV->AS->Prop):Prop :=
 gL fun S V=>(∀ s1:AS,Ext s s1->aG s1->(True)->aa Tryz.prog fH [.int .u64 a0] s1 fun k s3=>∃ d:List AV,k=.agg d/\((Ext s1 s3/\S 1 [(.func fH []),.int .u64 a0] (.agg d) s3/\V 1 [(.func fH []),.int .u64 a0] (.agg d))))/\(∃ v,V 1 [(.func fH []),.int .u64 a0] v)/\∀ j:AV,V 1 [(.func fH []),.int .u64 a0] j->∃ e:List AV,j=.agg e/\(ai c0 fun l m=>aU .u64 (au s l m) fun n=>∀ b:AS,Ext s b->aG b->(S 1 [(.func fH []),.int .u64 a0] (.agg e) b/\True)->aa Tryz.prog rY [.agg e,.bool false,.int .u64 n] b fun i bW=>∃ c:Bool,i=.bool c/\(R (.bool c) bW))
def HE:QA:=(.seq .leaf (.seq (.g_ 3 [[],[],[]] [1]) .leaf))
theorem HF (a0:Int) (c0:Option (Nat×Nat)) (s:AS) (R:AV->AS->Prop) (h:HD a0 c0 s R):aa Tryz.prog sF [.int .u64 a0,.ptr c0] s R :=
 aa.q (n:=8) (rs:=[.tmp 3]) (A:=HE) hT bY Tryz.func296 (by kernel_rfl) rfl rfl rfl (by kernel_rfl) (by kernel_rfl) h
def Mn  (s:AS) (R:AV->AS->Prop):Prop :=
 aj (.cells (List.replicate 72 (.int .u32 0)) 0 false) s fun l1 s2=>aj (.cells (List.replicate 72 (.int .u32 0)) 0 false) s2 fun l3 s4=>aa Tryz.prog uP [] s4 fun z s6=>aU .i64 (aQ T fB z s6) fun A=>bA fun l B=>l B [.int .i64 0] s6 /\
 ∀ c:Nat,∀ b:Int,∀ dH:AS,l c [.int .i64 b] dH ->
 af (decide ((b:Int)<A))
 (bJ (ag T fB z (.int .i64 b)) fun m n=>aU .u64 (au dH m n) fun d=>aa Tryz.prog qX [.int .u64 d] dH fun oC kT=>∃ e:Int,oC=.int .u32 e/\(bJ (ag T dL (.ptr (some (l3,8))) (.int .i64 b)) fun Ac o=>bu (cU kT Ac o [.int .u32 e]) fun gG=>af (decide ((b:Int)<8))
 (aa Tryz.prog wR [.int .u64 d] gG fun p uj=>∃ i:Int,p=.int .u32 i/\(bJ (ag T cG (.ptr (some (l3,0))) (.int .i64 b)) fun r w=>bu (cU uj r w [.int .u32 i]) fun x=>∃ m',m'<c/\l m' [(.int .i64 (IntKind.wrap .i64 (b+1)))] x))
 (∃ m',m'<c/\l m' [(.int .i64 (IntKind.wrap .i64 (b+1)))] gG)))
 (aR (aC dH l3 0 72) fun j=>fC (some 72) j (bu (cU dH l1 0 j) fun k=>aR (aC k l1 0 72) fun y=>R (.agg y) k))
def Mo:QA:=(.seq .leaf (.seq .leaf (.seq (.seq .leaf (.wrap (.loop [(6,.int .i64)] [(2,3),(6,23)] (.seq .leaf (.seq (.cond .leaf .leaf) (.seq (.wrap (.seq .leaf (.seq .leaf (.seq .leaf (.cond .leaf .leaf))))) .leaf)))))) (.seq .leaf .leaf))))
theorem Mp  (s:AS) (R:AV->AS->Prop) (h:Mn  s R):aa Tryz.prog wQ [] s R :=
 aa.q (n:=25) (rs:=[.cell 0 288]) (A:=Mo) hT bY Tryz.func219 (by kernel_rfl) rfl rfl rfl (by kernel_rfl) (by kernel_rfl) h
def A_ (a0:Option (Nat×Nat)) (a1:AV) (s:AS) (R:AV->AS->Prop):Prop :=
 aj (.cells (List.replicate 64 (.int .u32 0)) 0 false) s fun l1 s2=>bG fun J3 =>
 (∀ s4:AS,J3 [] s4 ->
 bG fun J5 =>
 (∀ s6:AS,J5 [] s6 ->
 ai a0 fun l7 o8=>bJ (ag T cG (.ptr (some (l7,o8))) (.int .i64 0)) fun l9 ds=>aU .u32 (au s6 l9 ds) fun dt=>ai a0 fun qL du=>bJ (ag T cG (.ptr (some (qL,du))) (.int .i64 1)) fun ku dv=>aU .u32 (au s6 ku dv) fun dy=>ai a0 fun dC dE=>bJ (ag T cG (.ptr (some (dC,dE))) (.int .i64 2)) fun Ac dT=>aU .u32 (au s6 Ac dT) fun d'=>ai a0 fun ea eb=>bJ (ag T cG (.ptr (some (ea,eb))) (.int .i64 3)) fun ed eg=>aU .u32 (au s6 ed eg) fun eh=>ai a0 fun ei ej=>bJ (ag T cG (.ptr (some (ei,ej))) (.int .i64 4)) fun em et=>aU .u32 (au s6 em et) fun eA=>ai a0 fun eB eI=>bJ (ag T cG (.ptr (some (eB,eI))) (.int .i64 5)) fun eQ e0=>aU .u32 (au s6 eQ e0) fun e1=>ai a0 fun e2 e3=>bJ (ag T cG (.ptr (some (e2,e3))) (.int .i64 6)) fun e4 e5=>aU .u32 (au s6 e4 e5) fun e6=>ai a0 fun e7 e8=>bJ (ag T cG (.ptr (some (e7,e8))) (.int .i64 7)) fun e9 e'=>aU .u32 (au s6 e9 e') fun fa=>bG fun be =>
 (∀ bh:Int,∀ bi:Int,∀ bj:Int,∀ bk:Int,∀ bl:Int,∀ bm:Int,∀ bo:Int,∀ bs:Int,∀ bx:AS,be [.int .u32 bh,.int .u32 bi,.int .u32 bj,.int .u32 bk,.int .u32 bl,.int .u32 bm,.int .u32 bo,.int .u32 bs] bx ->
 nQ (aS T cG [(0,.int .u32 bh),(1,.int .u32 bi),(2,.int .u32 bj),(3,.int .u32 bk),(4,.int .u32 bl),(5,.int .u32 bm),(6,.int .u32 bo),(7,.int .u32 bs)]) fun fb=>bA fun ba fc=>ba fc [.int .i64 0] bx /\
 ∀ b0:Nat,∀ D:Int,∀ W:AS,ba b0 [.int .i64 D] W ->
 af (decide ((D:Int)<8))
 (aU .u32 (ju T cG (.agg fb) (.int .i64 D)) fun fe=>ai a0 fun fg fi=>bJ (ag T cG (.ptr (some (fg,fi))) (.int .i64 D)) fun fp fr=>aU .u32 (au W fp fr) fun fs=>ai a0 fun ft fv=>bJ (ag T cG (.ptr (some (ft,fv))) (.int .i64 D)) fun fw fx=>bu (cU W fw fx [(.int .u32 (IntKind.wrap .u32 (fs+fe)))]) fun fz=>∃ m',m'<b0/\ba m' [(.int .i64 (IntKind.wrap .i64 (D+1)))] fz)
 (R (.aN []) W)) /\
 (bA fun bb f'=>bb f' [.int .u32 dt,.int .u32 dy,.int .u32 d',.int .u32 eh,.int .u32 eA,.int .u32 e1,.int .u32 e6,.int .u32 fa,.int .i64 0] s6 /\
 ∀ b1:Nat,∀ F:Int,∀ G:Int,∀ H:Int,∀ bc:Int,∀ j:Int,∀ X:Int,∀ Y:Int,∀ Z:Int,∀ I:Int,∀ x:AS,bb b1 [.int .u32 F,.int .u32 G,.int .u32 H,.int .u32 bc,.int .u32 j,.int .u32 X,.int .u32 Y,.int .u32 Z,.int .i64 I] x ->
 af (decide ((I:Int)<64))
 (gL fun S V=>(∀ ab:AS,Ext x ab->aG ab->(True)->aR (dw T gS 3 [(0,.int .i64 6),(1,.int .i64 11),(2,.int .i64 25)]) fun ga=>aj (.cells ga 0 false) ab fun b2 b3=>(Ext ab b3/\S 3 [.int .i64 6,.int .i64 11,.int .i64 25] (.slc (some (b2,0)) 3 3 true) b3/\V 3 [.int .i64 6,.int .i64 11,.int .i64 25] (.slc (some (b2,0)) 3 3 true)))/\(∃ v,V 3 [.int .i64 6,.int .i64 11,.int .i64 25] v)/\∀ o:AV,V 3 [.int .i64 6,.int .i64 11,.int .i64 25] o->(∀ J:AS,Ext x J->aG J->(S 3 [.int .i64 6,.int .i64 11,.int .i64 25] o J/\True)->aa Tryz.prog aD [.int .u32 j,o] J fun gb b4=>∃ bd:Int,gb=.int .u32 bd/\((Ext J b4/\S 4 [(.func aD []),.int .u32 j,o] (.int .u32 bd) b4/\V 4 [(.func aD []),.int .u32 j,o] (.int .u32 bd))))/\(∃ v,V 4 [(.func aD []),.int .u32 j,o] v)/\∀ b5:AV,V 4 [(.func aD []),.int .u32 j,o] b5->∃ ad:Int,b5=.int .u32 ad/\(aU .u32 (bD .and .u32 j X) fun gf=>aU .u32 (Vg .xor (.int .u32 j)) fun gg=>aU .u32 (bD .and .u32 gg Y) fun b6=>aU .u32 (bD .xor .u32 gf b6) fun ae=>ai a0 fun b7 b8=>bJ (ag T dL (.ptr (some (b7,(b8+8)))) (.int .i64 I)) fun b9 b'=>aU .u32 (au x b9 b') fun al=>bJ (ag T dL (.ptr (some (l1,0))) (.int .i64 I)) fun ca cb=>aU .u32 (au x ca cb) fun am=>∀ p:AS,Ext x p->aG p->(S 3 [.int .i64 6,.int .i64 11,.int .i64 25] o p/\(S 4 [(.func aD []),.int .u32 j,o] (.int .u32 ad) p/\True))->aR (dw T gS 3 [(0,.int .i64 2),(1,.int .i64 13),(2,.int .i64 22)]) fun cc=>aj (.cells cc 0 false) p fun cd ce=>aa Tryz.prog aD [.int .u32 F,(.slc (some (cd,0)) 3 3 true)] ce fun cf ch=>∃ an:Int,cf=.int .u32 an/\(aU .u32 (bD .and .u32 F G) fun ci=>aU .u32 (bD .and .u32 F H) fun ck=>aU .u32 (bD .xor .u32 ci ck) fun cl=>aU .u32 (bD .and .u32 G H) fun cm=>aU .u32 (bD .xor .u32 cl cm) fun cn=>∃ m',m'<b1/\bb m' [(.int .u32 (IntKind.wrap .u32 ((IntKind.wrap .u32 ((IntKind.wrap .u32 ((IntKind.wrap .u32 ((IntKind.wrap .u32 (Z+ad))+ae))+al))+am))+(IntKind.wrap .u32 (an+cn))))),.int .u32 F,.int .u32 G,.int .u32 H,(.int .u32 (IntKind.wrap .u32 (bc+(IntKind.wrap .u32 ((IntKind.wrap .u32 ((IntKind.wrap .u32 ((IntKind.wrap .u32 (Z+ad))+ae))+al))+am))))),.int .u32 j,.int .u32 X,.int .u32 Y,(.int .i64 (IntKind.wrap .i64 (I+1)))] ch)))
 (be [.int .u32 F,.int .u32 G,.int .u32 H,.int .u32 bc,.int .u32 j,.int .u32 X,.int .u32 Y,.int .u32 Z] x))) /\
 (bA fun K cp=>K cp [.int .i64 16] s4 /\
 ∀ ao:Nat,∀ e:Int,∀ b:AS,K ao [.int .i64 e] b ->
 af (decide ((e:Int)<64))
 (bJ (ag T dL (.ptr (some (l1,0))) (.int .i64 (IntKind.wrap .i64 (e - 15)))) fun cr cs=>aU .u32 (au b cr cs) fun i=>bJ (ag T dL (.ptr (some (l1,0))) (.int .i64 (IntKind.wrap .i64 (e - 2)))) fun cu cv=>aU .u32 (au b cu cv) fun k=>gL fun S V=>bJ (ag T dL (.ptr (some (l1,0))) (.int .i64 (IntKind.wrap .i64 (e - 16)))) fun cw cx=>aU .u32 (au b cw cx) fun cy=>(∀ y:AS,Ext b y->aG y->(True)->aR (dw T gS 2 [(0,.int .i64 7),(1,.int .i64 18)]) fun cz=>aj (.cells cz 0 false) y fun ar aw=>(Ext y aw/\S 7 [.int .i64 7,.int .i64 18] (.slc (some (ar,0)) 2 2 true) aw/\V 7 [.int .i64 7,.int .i64 18] (.slc (some (ar,0)) 2 2 true)))/\(∃ v,V 7 [.int .i64 7,.int .i64 18] v)/\∀ c:AV,V 7 [.int .i64 7,.int .i64 18] c->(∀ r:AS,Ext b r->aG r->(S 7 [.int .i64 7,.int .i64 18] c r/\True)->aa Tryz.prog aD [.int .u32 i,c] r fun cA a2=>∃ L:Int,cA=.int .u32 L/\((Ext r a2/\S 8 [(.func aD []),.int .u32 i,c] (.int .u32 L) a2/\V 8 [(.func aD []),.int .u32 i,c] (.int .u32 L))))/\(∃ v,V 8 [(.func aD []),.int .u32 i,c] v)/\∀ a3:AV,V 8 [(.func aD []),.int .u32 i,c] a3->∃ z:Int,a3=.int .u32 z/\(NN 3 (aU .u32 (bD .xor .u32 z (Int.fdiv i (2 ^ min (Int.toNat 3) (IntKind.bits .u32)))) fun cB=>bJ (ag T dL (.ptr (some (l1,0))) (.int .i64 (IntKind.wrap .i64 (e - 7)))) fun cC c0=>aU .u32 (au b cC c0) fun c1=>(∀ A:AS,Ext b A->aG A->(True)->aR (dw T gS 2 [(0,.int .i64 17),(1,.int .i64 19)]) fun c2=>aj (.cells c2 0 false) A fun a4 a5=>(Ext A a5/\S 20 [.int .i64 17,.int .i64 19] (.slc (some (a4,0)) 2 2 true) a5/\V 20 [.int .i64 17,.int .i64 19] (.slc (some (a4,0)) 2 2 true)))/\(∃ v,V 20 [.int .i64 17,.int .i64 19] v)/\∀ d:AV,V 20 [.int .i64 17,.int .i64 19] d->(∀ l:AS,Ext b l->aG l->(S 7 [.int .i64 7,.int .i64 18] c l/\(S 8 [(.func aD []),.int .u32 i,c] (.int .u32 z) l/\(S 20 [.int .i64 17,.int .i64 19] d l/\True)))->aa Tryz.prog aD [.int .u32 k,d] l fun c3 a6=>∃ M:Int,c3=.int .u32 M/\((Ext l a6/\S 21 [(.func aD []),.int .u32 k,d] (.int .u32 M) a6/\V 21 [(.func aD []),.int .u32 k,d] (.int .u32 M))))/\(∃ v,V 21 [(.func aD []),.int .u32 k,d] v)/\∀ a7:AV,V 21 [(.func aD []),.int .u32 k,d] a7->∃ O:Int,a7=.int .u32 O/\(NN 10 (aU .u32 (bD .xor .u32 O (Int.fdiv k (2 ^ min (Int.toNat 10) (IntKind.bits .u32)))) fun c4=>∀ m:AS,Ext b m->aG m->(S 7 [.int .i64 7,.int .i64 18] c m/\(S 8 [(.func aD []),.int .u32 i,c] (.int .u32 z) m/\(S 20 [.int .i64 17,.int .i64 19] d m/\(S 21 [(.func aD []),.int .u32 k,d] (.int .u32 O) m/\True))))->bJ (ag T dL (.ptr (some (l1,0))) (.int .i64 e)) fun c5 c6=>bu (cU m c5 c6 [(.int .u32 (IntKind.wrap .u32 ((IntKind.wrap .u32 ((IntKind.wrap .u32 (cy+cB))+c1))+c4)))]) fun c7=>∃ m',m'<ao/\K m' [(.int .i64 (IntKind.wrap .i64 (e+1)))] c7)))))
 (J5 [] b))) /\
 (bA fun Q c8=>Q c8 [.int .i64 0] s2 /\
 ∀ a8:Nat,∀ n:Int,∀ B:AS,Q a8 [.int .i64 n] B ->
 af (decide ((n:Int)<16))
 (dI (bg T aq a1 (some (.int .i64 (IntKind.wrap .i64 (4*n)))) (some (.int .i64 (IntKind.wrap .i64 ((IntKind.wrap .i64 (4*n))+4)))) none) fun a9=>aU .i64 (aQ T aq a9 B) fun c9=>bA fun U c'=>U c' [.int .i64 0] B /\
 ∀ a':Nat,∀ C:Int,∀ w:AS,U a' [.int .i64 C] w ->
 af (decide ((C:Int)<c9))
 (bJ (ag T aq a9 (.int .i64 C)) fun da db=>aU .u8 (au w da db) fun dc=>bJ (ag T dL (.ptr (some (l1,0))) (.int .i64 n)) fun dd df=>aU .u32 (au w dd df) fun dk=>NN 8 (aU .u32 (bD .or .u32 (IntKind.wrap .u32 (dk*2 ^ min (Int.toNat 8) (IntKind.bits .u32))) (IntKind.wrap .u32 dc)) fun dl=>bJ (ag T dL (.ptr (some (l1,0))) (.int .i64 n)) fun dm dp=>bu (cU w dm dp [.int .u32 dl]) fun dr=>∃ m',m'<a'/\U m' [(.int .i64 (IntKind.wrap .i64 (C+1)))] dr))
 (∃ m',m'<a8/\Q m' [(.int .i64 (IntKind.wrap .i64 (n+1)))] w))
 (J3 [] B))
def Bc:QA:=(.seq .leaf (.seq .leaf (.join [] [(6,6),(8,8),(25,50)] (.seq .leaf (.wrap (.loop [(25,.int .i64)] [(6,6),(8,8),(25,50)] (.seq .leaf (.seq (.cond .leaf .leaf) (.seq (.wrap (.seq .leaf (.seq .leaf (.wrap (.loop [(36,.int .i64)] [(8,8),(36,49)] (.seq .leaf (.seq (.cond .leaf .leaf) (.seq (.wrap (.seq .leaf .leaf)) .leaf)))))))) .leaf)))))) (.join [] [(9,11),(51,89)] (.seq .leaf (.wrap (.loop [(9,.int .i64)] [(9,11),(51,89)] (.seq (.seq .leaf (.cond .leaf .leaf)) (.seq (.wrap (.seq (.draw 9) (.g_ 26 [[],[],[],[],[],[],[],[],[7],[],[],[],[],[],[],[],[],[],[],[],[],[7,8,20],[],[],[],[]] [7,8,20,21]))) .leaf))))) (.seq (.draw 47) (.join [(12,.int .u32),(13,.int .u32),(14,.int .u32),(15,.int .u32),(16,.int .u32),(17,.int .u32),(18,.int .u32),(19,.int .u32)] [(12,22),(130,187)] (.seq .leaf (.wrap (.loop [(12,.int .u32),(13,.int .u32),(14,.int .u32),(15,.int .u32),(16,.int .u32),(17,.int .u32),(18,.int .u32),(19,.int .u32),(130,.int .i64)] [(12,22),(130,187)] (.seq .leaf (.seq (.cond .leaf .leaf) (.seq (.wrap (.seq .leaf (.seq (.g_ 25 [[],[],[],[],[3],[],[],[],[],[],[],[],[],[],[],[],[],[],[],[],[],[],[],[],[]] [3,4]) (.seq .leaf .leaf)))) .leaf)))))) (.seq .leaf (.wrap (.loop [(197,.int .i64)] [(23,24),(197,212)] (.seq .leaf (.seq (.cond .leaf .leaf) (.seq (.wrap (.seq .leaf (.draw 10))) .leaf))))))))))))
theorem Bd (a0:Option (Nat×Nat)) (a1:AV) (s:AS) (R:AV->AS->Prop) (h:A_ a0 a1 s R):aa Tryz.prog mO [.ptr a0,a1] s R :=
 aa.q (n:=213) (rs:=[]) (A:=Bc) hT bY Tryz.func261 (by kernel_rfl) rfl rfl rfl (by kernel_rfl) (by kernel_rfl) h
def yl (a0:Int) (a1:AV) (s:AS) (R:AV->AS->Prop):Prop :=
 aU .i64 (aQ T gS a1 s) fun l=>bA fun d m=>d m [.int .u32 0,.int .i64 0] s /\
 ∀ k:Nat,∀ e:Int,∀ c:Int,∀ s7:AS,d k [.int .u32 e,.int .i64 c] s7 ->
 af (decide ((c:Int)<l))
 (bJ (ag T gS a1 (.int .i64 c)) fun n o=>aU .i64 (au s7 n o) fun i=>aa Tryz.prog gD [.int .u32 a0,(.int .i64 (IntKind.wrap .i64 (0 - i)))] s7 fun v11 dH=>∃ b:Int,v11=.int .u32 b/\(aU .u32 (bD .xor .u32 e b) fun j=>∃ m',m'<k/\d m' [.int .u32 j,(.int .i64 (IntKind.wrap .i64 (c+1)))] dH))
 (R (.int .u32 e) s7)
def ym:QA:=(.seq .leaf (.seq .leaf (.seq (.seq .leaf (.wrap (.loop [(5,.int .u32),(10,.int .i64)] [(5,5),(7,7),(10,20)] (.seq .leaf (.seq (.cond .leaf .leaf) (.seq (.wrap (.seq .leaf .leaf)) .leaf)))))) (.seq .leaf .leaf))))
theorem yo (a0:Int) (a1:AV) (s:AS) (R:AV->AS->Prop) (h:yl a0 a1 s R):aa Tryz.prog aD [.int .u32 a0,a1] s R :=
 aa.q (n:=22) (rs:=[.tmp 4]) (A:=ym) hT bY Tryz.func298 (by kernel_rfl) rfl rfl rfl (by kernel_rfl) (by kernel_rfl) h
def sM (a0:Int) (a1:Int) (s:AS) (R:AV->AS->Prop):Prop :=
 aU .u64 (bD .and .u64 (IntKind.wrap .u64 a1) 31) fun b=>NN b (NN (IntKind.wrap .u64 (32 - b)) (aU .u32 (bD .or .u32 (IntKind.wrap .u32 (a0*2 ^ min (Int.toNat b) (IntKind.bits .u32))) (Int.fdiv a0 (2 ^ min (Int.toNat (IntKind.wrap .u64 (32 - b))) (IntKind.bits .u32)))) fun n2=>R (.int .u32 n2) s))
def sN:QA:=(.seq .leaf (.seq .leaf (.seq .leaf .leaf)))
theorem sO (a0:Int) (a1:Int) (s:AS) (R:AV->AS->Prop) (h:sM a0 a1 s R):aa Tryz.prog gD [.int .u32 a0,.int .i64 a1] s R :=
 aa.q (n:=17) (rs:=[.tmp 4]) (A:=sN) hT bY Tryz.func299 (by kernel_rfl) rfl rfl rfl (by kernel_rfl) (by kernel_rfl) h
def Be (a0:Int) (a1:Int) (s:AS) (R:AV->AS->Prop):Prop :=
 aU .u64 (bD .and .u64 a0 4294967295) fun b=>NN 32 (aU .u64 (bD .and .u64 a1 4294967295) fun n2=>NN 32 (NN 32 (aU .u64 (bD .and .u64 (IntKind.wrap .u64 ((IntKind.wrap .u64 ((Int.fdiv a0 (2 ^ min (Int.toNat 32) (IntKind.bits .u64)))*n2))+(Int.fdiv (IntKind.wrap .u64 (b*n2)) (2 ^ min (Int.toNat 32) (IntKind.bits .u64))))) 4294967295) fun c=>NN 32 (NN 32 (R (.aN [(.int .u64 (IntKind.wrap .u64 ((IntKind.wrap .u64 ((IntKind.wrap .u64 ((Int.fdiv a0 (2 ^ min (Int.toNat 32) (IntKind.bits .u64)))*(Int.fdiv a1 (2 ^ min (Int.toNat 32) (IntKind.bits .u64)))))+(Int.fdiv (IntKind.wrap .u64 ((IntKind.wrap .u64 ((Int.fdiv a0 (2 ^ min (Int.toNat 32) (IntKind.bits .u64)))*n2))+(Int.fdiv (IntKind.wrap .u64 (b*n2)) (2 ^ min (Int.toNat 32) (IntKind.bits .u64))))) (2 ^ min (Int.toNat 32) (IntKind.bits .u64)))))+(Int.fdiv (IntKind.wrap .u64 (c+(IntKind.wrap .u64 (b*(Int.fdiv a1 (2 ^ min (Int.toNat 32) (IntKind.bits .u64))))))) (2 ^ min (Int.toNat 32) (IntKind.bits .u64)))))),(.int .u64 (IntKind.wrap .u64 (a0*a1)))]) s)))))
def Bf:QA:=(.seq .leaf (.seq .leaf (.seq .leaf (.seq .leaf (.seq .leaf (.seq .leaf (.seq .leaf (.seq .leaf (.seq .leaf (.seq .leaf (.seq .leaf (.seq .leaf .leaf))))))))))))
theorem Bg (a0:Int) (a1:Int) (s:AS) (R:AV->AS->Prop) (h:Be a0 a1 s R):aa Tryz.prog gr [.int .u64 a0,.int .u64 a1] s R :=
 aa.q (n:=51) (rs:=[.tmp 4,.tmp 5]) (A:=Bf) hT bY Tryz.func306 (by kernel_rfl) rfl rfl rfl (by kernel_rfl) (by kernel_rfl) h
def Bh (a0:List AV) (a1:AV) (s:AS) (R:AV->AS->Prop):Prop :=
 cH a0 (aj (.cells a0 0 false) s fun l1 s2=>aj (.cells (List.replicate 32 (.int .u8 0)) 0 false) s2 fun l3 s4=>aa Tryz.prog fA [a1] s4 fun v5 s6=>aU .i64 (aQ T aq v5 s6) fun n7=>aR (dw T aq 1 [(0,.int .u8 128)]) fun g8=>aj (.cells g8 0 false) s6 fun l9 A=>iT (aL T aq aq v5 (.slc (some (l9,0)) 1 1 true) A) fun v11 dH=>aU .i64 (aQ T aq v11 dH) fun B=>NZ 64 (NZ 64 (iT (aL T aq qZ v11 (.int .i64 (Int.tmod (IntKind.wrap .i64 (120 - (Int.tmod B 64))) 64)) dH) fun C gh=>bG fun n =>
 (∀ o:AV,∀ eT:AS,n [o] eT ->
 bG fun p =>
 (∀ gy:AS,p [] gy ->
 bA fun i D=>i D [.int .i64 0] gy /\
 ∀ r:Nat,∀ b:Int,∀ dZ:AS,i r [.int .i64 b] dZ ->
 af (decide ((b:Int)<32))
 (NZ 4 (bJ (ag T cG (.ptr (some (l1,0))) (.int .i64 (IntKind.wrap .i64 (Int.tdiv b 4)))) fun F G=>aU .u32 (au dZ F G) fun H=>NZ 4 (NN (IntKind.wrap .i64 (24 - (IntKind.wrap .i64 (8*(Int.tmod b 4))))) (bJ (ag T sH (.ptr (some (l3,0))) (.int .i64 b)) fun I J=>bu (cU dZ I J [(.int .u8 (IntKind.wrap .u8 (Int.fdiv H (2 ^ min (Int.toNat (IntKind.wrap .i64 (24 - (IntKind.wrap .i64 (8*(Int.tmod b 4)))))) (IntKind.bits .u32)))))]) fun nK=>∃ m',m'<r/\i m' [(.int .i64 (IntKind.wrap .i64 (b+1)))] nK))))
 (aR (aC dZ l3 0 32) fun w=>fC (some 32) w (bu (cU dZ l3 0 w) fun x=>aR (aC x l3 0 32) fun K=>R (.agg K) x))) /\
 (bA fun j L=>j L [o] eT /\
 ∀ y:Nat,∀ d:AV,∀ e:AS,j y [d] e ->
 aU .i64 (aQ T aq d e) fun M=>af (decide ((M:Int)>0))
 (dI (bg T aq d none (some (.int .i64 64)) none) fun O=>aa Tryz.prog mO [(.ptr (some (l1,0))),O] e fun Q S=>Q=.aN []/\(dI (bg T aq d (some (.int .i64 64)) none none) fun U=>∃ m',m'<y/\j m' [U] S))
 (p [] e))) /\
 (bA fun k W=>k W [C,.int .i64 0] gh /\
 ∀ z:Nat,∀ l:AV,∀ c:Int,∀ m:AS,k z [l,.int .i64 c] m ->
 af (decide ((c:Int)<8))
 (NN (IntKind.wrap .i64 (56 - (IntKind.wrap .i64 (8*c)))) (aR (dw T aq 1 [(0,(.int .u8 (IntKind.wrap .u8 (Int.fdiv (IntKind.wrap .u64 ((IntKind.wrap .u64 n7)*8)) (2 ^ min (Int.toNat (IntKind.wrap .i64 (56 - (IntKind.wrap .i64 (8*c))))) (IntKind.bits .u64))))))]) fun X=>aj (.cells X 0 false) m fun Y G8=>iT (aL T aq aq l (.slc (some (Y,0)) 1 1 true) G8) fun Z ab=>∃ m',m'<z/\k m' [Z,(.int .i64 (IntKind.wrap .i64 (c+1)))] ab))
 (n [l] m)))))
def Bi:QA:=(.seq .leaf (.seq .leaf (.seq .leaf (.seq .leaf (.seq .leaf (.join [(5,.any)] [(5,5),(7,7),(25,37)] (.seq .leaf (.wrap (.loop [(5,.any),(25,.int .i64)] [(5,5),(7,7),(25,37)] (.seq .leaf (.seq (.cond .leaf .leaf) (.seq (.wrap (.seq .leaf .leaf)) .leaf)))))) (.join [] [(5,5),(38,45)] (.wrap (.loop [(5,.any)] [(5,5),(38,45)] (.seq (.seq .leaf (.cond .leaf .leaf)) (.seq (.wrap .leaf) .leaf)))) (.seq (.seq .leaf (.wrap (.loop [(46,.int .i64)] [(8,8),(46,62)] (.seq .leaf (.seq (.cond .leaf .leaf) (.seq (.wrap (.seq .leaf .leaf)) .leaf)))))) (.seq .leaf .leaf)))))))))
theorem Bj (a0:List AV) (a1:AV) (s:AS) (R:AV->AS->Prop) (h:Bh a0 a1 s R):aa Tryz.prog cK [.agg a0,a1] s R :=
 aa.q (n:=64) (rs:=[.cell 4 93]) (A:=Bi) hT bY Tryz.func220 (by kernel_rfl) rfl rfl rfl (by kernel_rfl) (by kernel_rfl) h
def OA (a0:AV) (a1:AV) (s:AS) (R:AV->AS->Prop):Prop :=
 aj (.cells (List.replicate 32 (.int .u8 0)) 0 false) s fun l1 s2=>aa Tryz.prog wQ [] s2 fun v3 s4=>∃ g5:List AV,v3=.agg g5/\(aj (.cells (List.replicate 72 (.int .u32 0)) 0 false) s4 fun l6 s7=>fC (some 72) g5 (bu (cU s7 l6 0 g5) fun s8=>bG fun J9 =>
 (∀ v10:AV,∀ C:AS,J9 [v10] C ->
 aj (.cells (List.replicate 64 (.int .u8 0)) 0 false) C fun qL bW=>aj (.cells (List.replicate 64 (.int .u8 0)) 0 false) bW fun ku gh=>dI (bg T gu (.ptr (some (qL,0))) none none none) fun oC=>iT (qO T aq oC v10 gh) fun b1 eT=>aR (aC eT qL 0 64) fun D=>fC (some 64) D (bu (cU eT ku 0 D) fun gy=>bG fun F =>
 (∀ fT:AS,F [] fT ->
 gL fun S V=>aR (aC fT l6 0 72) fun j=>dI (bg T gu (.ptr (some (qL,0))) none none none) fun d=>(∀ dZ:AS,Ext fT dZ->aG dZ->(True)->aR (dw T eO 1 [(0,d)]) fun ab=>aj (.cells ab 0 false) dZ fun G H=>(Ext dZ H/\S 2 [d] (.slc (some (G,0)) 1 1 true) H/\V 2 [d] (.slc (some (G,0)) 1 1 true)))/\(∃ v,V 2 [d] v)/\∀ b:AV,V 2 [d] b->(∀ m:AS,Ext fT m->aG m->(S 2 [d] b m/\True)->iT (aL T eO eO b a1 m) fun I J=>(Ext m J/\S 4 [b,a1] I J/\V 4 [b,a1] I))/\(∃ v,V 4 [b,a1] v)/\∀ c:AV,V 4 [b,a1] c->(∀ kH:AS,Ext fT kH->aG kH->(S 2 [d] b kH/\(S 4 [b,a1] c kH/\True))->aa Tryz.prog cK [.agg j,c] kH fun ad oR=>∃ x:List AV,ad=.agg x/\((Ext kH oR/\S 5 [(.func cK []),.agg j,c] (.agg x) oR/\V 5 [(.func cK []),.agg j,c] (.agg x))))/\(∃ v,V 5 [(.func cK []),.agg j,c] v)/\∀ K:AV,V 5 [(.func cK []),.agg j,c] K->∃ n:List AV,K=.agg n/\((∀ o:AS,Ext fT o->aG o->(True)->aj (.cells (List.replicate 32 (.int .u8 0)) 0 false) o fun L M=>(Ext o M/\S 6 [] (.ptr (some (L,0))) M/\V 6 [] (.ptr (some (L,0)))))/\(∃ v,V 6 [] v)/\∀ O:AV,V 6 [] O->∃ p:Option (Nat×Nat),O=.ptr p/\(∀ e:AS,Ext fT e->aG e->(S 2 [d] b e/\(S 4 [b,a1] c e/\(S 5 [(.func cK []),.agg j,c] (.agg n) e/\(S 6 [] (.ptr p) e/\True))))->ai p fun ae al=>fC (some 32) n (bu (cU e ae al n) fun zf=>gL fun S V=>aR (aC zf l6 0 72) fun am=>dI (bg T gu (.ptr (some (ku,0))) none none none) fun k=>dI (bg T sH (.ptr p) none none none) fun l=>(∀ G8:AS,Ext zf G8->aG G8->(True)->aR (dw T eO 2 [(0,k),(1,l)]) fun an=>aj (.cells an 0 false) G8 fun Q U=>(Ext G8 U/\S 3 [k,l] (.slc (some (Q,0)) 2 2 true) U/\V 3 [k,l] (.slc (some (Q,0)) 2 2 true)))/\(∃ v,V 3 [k,l] v)/\∀ y:AV,V 3 [k,l] y->∀ r:AS,Ext zf r->aG r->(S 3 [k,l] y r/\True)->aa Tryz.prog cK [.agg am,y] r fun ao ar=>∃ z:List AV,ao=.agg z/\(fC (some 32) z (bu (cU ar l1 0 z) fun W=>aR (aC W l1 0 32) fun aw=>R (.agg aw) W)))))) /\
 (bA fun A a2=>A a2 [.int .i64 0] gy /\
 ∀ X:Nat,∀ i:Int,∀ w:AS,A X [.int .i64 i] w ->
 af (decide ((i:Int)<64))
 (bJ (ag T gu (.ptr (some (qL,0))) (.int .i64 i)) fun a3 a4=>aU .u8 (au w a3 a4) fun a5=>aU .u8 (bD .xor .u8 a5 54) fun a6=>bJ (ag T gu (.ptr (some (qL,0))) (.int .i64 i)) fun a7 a8=>bu (cU w a7 a8 [.int .u8 a6]) fun Y=>bJ (ag T gu (.ptr (some (ku,0))) (.int .i64 i)) fun a9 a'=>aU .u8 (au Y a9 a') fun ba=>aU .u8 (bD .xor .u8 ba 92) fun bb=>bJ (ag T gu (.ptr (some (ku,0))) (.int .i64 i)) fun bc bd=>bu (cU Y bc bd [.int .u8 bb]) fun be=>∃ m',m'<X/\A m' [(.int .i64 (IntKind.wrap .i64 (i+1)))] be)
 (F [] w)))) /\
 (aU .i64 (aQ T aq a0 s8) fun bh=>af (decide ((bh:Int)>64))
 (aR (aC s8 l6 0 72) fun bi=>aR (dw T eO 1 [(0,a0)]) fun bj=>aj (.cells bj 0 false) s8 fun bk bl=>aa Tryz.prog cK [.agg bi,(.slc (some (bk,0)) 1 1 true)] bl fun bm bo=>∃ B:List AV,bm=.agg B/\(aj (.cells (List.replicate 32 (.int .u8 0)) 0 false) bo fun Z bs=>fC (some 32) B (bu (cU bs Z 0 B) fun bx=>dI (bg T sH (.ptr (some (Z,0))) none none none) fun b0=>J9 [b0] bx)))
 (J9 [a0] s8))))
def OB:QA:=(.seq .leaf (.seq .leaf (.join [(0,.any)] [(0,0),(6,6),(12,19)] (.seq .leaf (.cond (.seq .leaf .leaf) .leaf)) (.seq .leaf (.seq .leaf (.seq .leaf (.join [] [(9,9),(24,37)] (.seq .leaf (.wrap (.loop [(24,.int .i64)] [(9,9),(24,37)] (.seq .leaf (.seq (.cond .leaf .leaf) (.seq (.wrap (.seq .leaf (.seq .leaf .leaf))) .leaf)))))) (.seq (.g_ 7 [[],[],[],[],[2],[2,4],[]] [2,4,5,6]) (.seq (.g_ 4 [[],[],[],[]] [3]) .leaf)))))))))
theorem OC (a0:AV) (a1:AV) (s:AS) (R:AV->AS->Prop) (h:OA a0 a1 s R):aa Tryz.prog y7 [a0,a1] s R :=
 aa.q (n:=49) (rs:=[.cell 4 93]) (A:=OB) hT bY Tryz.func167 (by kernel_rfl) rfl rfl rfl (by kernel_rfl) (by kernel_rfl) h
def Mq (a0:List AV) (a1:List AV) (s:AS) (R:AV->AS->Prop):Prop :=
 cH a0 (aj (.cells a0 0 false) s fun l1 s2=>cH a1 (aj (.cells a1 0 false) s2 fun l3 s4=>bG fun p =>
 (∀ r:Int,∀ s7:AS,p [.int .u8 r] s7 ->
 R (.bool ((r:Int)==0)) s7) /\
 (bA fun e w=>e w [.int .u8 0,.int .i64 0] s4 /\
 ∀ d:Nat,∀ c:Int,∀ b:Int,∀ bW:AS,e d [.int .u8 c,.int .i64 b] bW ->
 af (decide ((b:Int)<32))
 (bJ (ag T sH (.ptr (some (l1,0))) (.int .i64 b)) fun ku i=>aU .u8 (au bW ku i) fun j=>bJ (ag T sH (.ptr (some (l3,0))) (.int .i64 b)) fun k l=>aU .u8 (au bW k l) fun m=>aU .u8 (bD .xor .u8 j m) fun n=>aU .u8 (bD .or .u8 c n) fun o=>∃ m',m'<d/\e m' [.int .u8 o,(.int .i64 (IntKind.wrap .i64 (b+1)))] bW)
 (p [.int .u8 c] bW))))
def Mr:QA:=(.seq .leaf (.seq .leaf (.join [(5,.int .u8)] [(5,19)] (.seq .leaf (.wrap (.loop [(5,.int .u8),(7,.int .i64)] [(5,19)] (.seq .leaf (.seq (.cond .leaf .leaf) (.seq (.wrap (.seq .leaf (.draw 8))) .leaf)))))) (.seq .leaf .leaf))))
theorem Ms (a0:List AV) (a1:List AV) (s:AS) (R:AV->AS->Prop) (h:Mq a0 a1 s R):aa Tryz.prog wL [.agg a0,.agg a1] s R :=
 aa.q (n:=22) (rs:=[.tmp 4]) (A:=Mr) hT bY Tryz.func91 (by kernel_rfl) rfl rfl rfl (by kernel_rfl) (by kernel_rfl) h
end Go.Proofs.YtohgmogbabkkeaaGreat
end

section
set_option maxRecDepth 100000
set_option maxHeartbeats 4000000
namespace Go.Proofs.YtohgmogbabkkeaaGreat
open Go.Am
def DZ (a0:List UInt8) (s:AS) (R:AV->AS->Prop):Prop :=
 aU .i64 (aQ T bX (.str a0) s) fun b=>af (decide ((b:Int)>=1)) (aU .i64 (aQ T bX (.str a0) s) fun n2=>R (.bool (decide ((n2:Int)<=32))) s) (R (.bool false) s)
def D0:QA:=(.seq .leaf (.seq .leaf .leaf))
theorem D1 (a0:List UInt8) (s:AS) (R:AV->AS->Prop) (h:DZ a0 s R):aa Tryz.prog fZ [.str a0] s R :=
 aa.q (n:=11) (rs:=[.tmp 2]) (A:=D0) hT bY Tryz.func76 (by kernel_rfl) rfl rfl rfl (by kernel_rfl) (by kernel_rfl) h
def Gr (a0:List AV) (s:AS) (R:AV->AS->Prop):Prop :=
 cH a0 (aj (.cells a0 0 false) s fun l1 s2=>aU .i64 (au s2 l1 0) fun b=>af (decide ((b:Int)>=1)) (aU .i64 (au s2 l1 0) fun c=>af (decide ((c:Int)<=16)) (aU .u64 (au s2 l1 1) fun d=>af (decide ((d:Int)>=1)) (aU .u64 (au s2 l1 1) fun e=>R (.bool (decide ((e:Int)<=4611686018427387904))) s2) (R (.bool false) s2)) (R (.bool false) s2)) (R (.bool false) s2))
def Gt:QA:=(.seq .leaf (.seq .leaf .leaf))
theorem Gu (a0:List AV) (s:AS) (R:AV->AS->Prop) (h:Gr a0 s R):aa Tryz.prog jK [.agg a0] s R :=
 aa.q (n:=21) (rs:=[.tmp 2]) (A:=Gt) hT bY Tryz.func222 (by kernel_rfl) rfl rfl rfl (by kernel_rfl) (by kernel_rfl) h
def Kl (a0:List AV) (a1:List AV) (s:AS) (R:AV->AS->Prop):Prop :=
 cH a0 (aj (.cells a0 0 false) s fun l1 s2=>cH a1 (aj (.cells a1 0 false) s2 fun l3 s4=>gL fun S V=>aU .i64 (au s4 l1 0) fun d=>aU .i64 (au s4 l3 0) fun e=>(∀ s7:AS,Ext s4 s7->aG s7->(True)->aa Tryz.prog aP [.int .i64 d,.int .i64 e] s7 fun x w=>∃ b:Int,x=.int .i64 b/\((Ext s7 w/\S 4 [(.func aP []),.int .i64 d,.int .i64 e] (.int .i64 b) w/\V 4 [(.func aP []),.int .i64 d,.int .i64 e] (.int .i64 b))))/\(∃ v,V 4 [(.func aP []),.int .i64 d,.int .i64 e] v)/\∀ v11:AV,V 4 [(.func aP []),.int .i64 d,.int .i64 e] v11->∃ c:Int,v11=.int .i64 c/\(aU .u64 (au s4 l1 1) fun k=>aU .u64 (au s4 l3 1) fun l=>∀ gh:AS,Ext s4 gh->aG gh->(S 4 [(.func aP []),.int .i64 d,.int .i64 e] (.int .i64 c) gh/\True)->aa Tryz.prog eK [.int .u64 k,.int .u64 l] gh fun m eT=>∃ i:Int,m=.int .i64 i/\(aR (dw T gS 2 [(0,.int .i64 c),(1,.int .i64 i)]) fun n=>aj (.cells n 0 false) eT fun o fT=>aa Tryz.prog kP [(.slc (some (o,0)) 2 2 true)] fT fun p r=>∃ j:Int,p=.int .i64 j/\(R (.bool (decide ((j:Int)<0))) r)))))
def Km:QA:=(.seq .leaf (.seq (.g_ 9 [[],[],[],[],[],[],[],[],[]] [4]) .leaf))
theorem Kn (a0:List AV) (a1:List AV) (s:AS) (R:AV->AS->Prop) (h:Kl a0 a1 s R):aa Tryz.prog uO [.agg a0,.agg a1] s R :=
 aa.q (n:=18) (rs:=[.tmp 4]) (A:=Km) hT bY Tryz.func224 (by kernel_rfl) rfl rfl rfl (by kernel_rfl) (by kernel_rfl) h
def Bk (a0:List AV) (s:AS) (R:AV->AS->Prop):Prop :=
 cH a0 (aj (.cells a0 0 false) s fun l1 s2=>dI (bg T aZ (.ptr (some (l1,0))) none none none) fun c=>aa Tryz.prog b_ [c,(.func qe [])] s2 fun d e=>∃ b:Bool,d=.bool b/\(R (.bool (!b)) e))
def Bl:QA:=(.seq .leaf (.seq .leaf .leaf))
theorem Bm (a0:List AV) (s:AS) (R:AV->AS->Prop) (h:Bk a0 s R):aa Tryz.prog mM [.agg a0] s R :=
 aa.q (n:=6) (rs:=[.tmp 2]) (A:=Bl) hT bY Tryz.func223 (by kernel_rfl) rfl rfl rfl (by kernel_rfl) (by kernel_rfl) h
def yp (a0:Int) (s:AS) (R:AV->AS->Prop):Prop :=
 R (.bool (decide ((a0:Int)>4611686018427387904))) s
def yq:QA:=(.seq .leaf (.seq .leaf .leaf))
theorem yu (a0:Int) (s:AS) (R:AV->AS->Prop) (h:yp a0 s R):aa Tryz.prog qe [.int .u64 a0] s R :=
 aa.q (n:=5) (rs:=[.tmp 2]) (A:=yq) hT bY Tryz.func262 (by kernel_rfl) rfl rfl rfl (by kernel_rfl) (by kernel_rfl) h
def Mt (a0:List AV) (s:AS) (R:AV->AS->Prop):Prop :=
 cH a0 (aj (.cells a0 0 false) s fun l1 s2=>aR (aC s2 l1 0 2) fun g3=>aa Tryz.prog jK [.agg g3] s2 fun v4 B=>∃ b6:Bool,v4=.bool b6/\(af (!b6) (R (.bool false) B) (aR (aC B l1 4 16) fun g7=>aa Tryz.prog mM [.agg g7] B fun v8 j=>∃ n:Bool,v8=.bool n/\(af (!n) (R (.bool false) j) (aU .i64 (au j l1 0) fun C=>bJ (ag T aZ (.ptr (some (l1,4))) (.int .i64 (IntKind.wrap .i64 (C - 1)))) fun qL D=>aU .u64 (au j qL D) fun F=>aU .u64 (au j l1 1) fun G=>af ((F:Int) != (IntKind.wrap .u64 (G - 1)))
 (R (.bool false) j)
 (rG (au j l1 2) fun H=>aa Tryz.prog fZ [.str H] j fun I eT=>∃ o:Bool,I=.bool o/\(af (!o) (R (.bool false) eT) (dI (au eT l1 3) fun v20=>aU .i64 (aQ T aq v20 eT) fun J=>af (decide ((J:Int)>512)) (R (.bool false) eT) (dI (au eT l1 20) fun K=>aU .i64 (aQ T bL K eT) fun L=>af (decide ((L:Int)>1024))
 (R (.bool false) eT)
 (dI (au eT l1 20) fun p=>aU .i64 (aQ T bL p eT) fun M=>bA fun k O=>k O [.bool true,.int .i64 0] eT /\
 ∀ r:Nat,∀ w:Bool,∀ b:Int,∀ nK:AS,k r [.bool w,.int .i64 b] nK ->
 af (decide ((b:Int)<M))
 (bJ (ag T bL p (.int .i64 b)) fun Q S=>aR (aC nK Q S 3) fun x=>aj (.cells [.int .i64 0,.int .u64 0,.str []] 0 false) nK fun e oR=>fC (some 3) x (bu (cU oR e 0 x) fun oB=>bG fun d =>
 (∀ i:Bool,∀ l:AS,d [.bool i] l ->
 af (!i)
 (R (.bool i) l)
 (∃ m',m'<r/\k m' [.bool i,(.int .i64 (IntKind.wrap .i64 (b+1)))] l)) /\
 (aR (aC oB e 0 2) fun U=>aa Tryz.prog jK [.agg U] oB fun W m=>∃ y:Bool,W=.bool y/\(af y (rG (au m e 2) fun X=>aa Tryz.prog fZ [.str X] m fun Y c=>∃ z:Bool,Y=.bool z/\(af z (af ((b:Int)==0) (d [.bool true] c) (dI (au c l1 20) fun Z=>bJ (ag T bL Z (.int .i64 (IntKind.wrap .i64 (b - 1)))) fun ab ad=>aR (aC c ab ad 2) fun ae=>aR (aC c e 0 2) fun al=>aa Tryz.prog uO [.agg ae,.agg al] c fun am an=>∃ A:Bool,am=.bool A/\(d [.bool A] an))) (d [.bool false] c))) (d [.bool false] m)))))
 (R (.bool w) nK)))))))))))
def Mu:QA:=(.seq .leaf (.wrap (.seq (.seq .calm (.cond (.seq .leaf .leaf) .leaf)) (.seq (.seq .leaf (.cond (.seq .leaf .leaf) .leaf)) (.seq .leaf (.seq .leaf (.seq (.seq .leaf (.wrap (.loop [(3,.bool),(49,.int .i64)] [(3,5),(49,80)] (.seq .leaf (.seq (.cond .leaf .leaf) (.seq (.wrap (.seq .leaf (.join [(3,.bool)] [(3,3),(54,77)] .calm (.seq .leaf (.cond .leaf .leaf))))) .leaf)))))) (.seq .leaf .leaf))))))))
theorem Mv (a0:List AV) (s:AS) (R:AV->AS->Prop) (h:Mt a0 s R):aa Tryz.prog wO [.agg a0] s R :=
 aa.q (n:=82) (rs:=[.tmp 2]) (A:=Mu) hT bY Tryz.func169 (by kernel_rfl) rfl rfl rfl (by kernel_rfl) (by kernel_rfl) h
def OD (a0:List AV) (a1:List UInt8) (s:AS) (R:AV->AS->Prop):Prop :=
 cH a0 (aj (.cells a0 0 false) s fun l1 s2=>dI (au s2 l1 20) fun x=>aU .i64 (aQ T bL x s2) fun y=>bA fun i z=>i z [.slc none 0 0 true,.int .i64 0] s2 /\
 ∀ k:Nat,∀ j:AV,∀ d:Int,∀ b:AS,i k [j,.int .i64 d] b ->
 af (decide ((d:Int)<y))
 (bJ (ag T bL x (.int .i64 d)) fun l m=>aR (aC b l m 3) fun e=>aj (.cells [.int .i64 0,.int .u64 0,.str []] 0 false) b fun ku gh=>fC (some 3) e (bu (cU gh ku 0 e) fun c=>rG (au c ku 2) fun n=>af ((n:List UInt8)==a1)
 (aR (aC c ku 0 2) fun o=>aR (dw T az 1 [(0,.agg o)]) fun p=>aj (.cells p 0 false) c fun r gG=>iT (aL T az az j (.slc (some (r,0)) 1 1 true) gG) fun w uj=>∃ m',m'<k/\i m' [w,(.int .i64 (IntKind.wrap .i64 (d+1)))] uj)
 (∃ m',m'<k/\i m' [j,(.int .i64 (IntKind.wrap .i64 (d+1)))] c)))
 (R j b))
def OF:QA:=(.seq .leaf (.seq .leaf (.seq (.seq .leaf (.wrap (.loop [(5,.any),(11,.int .i64)] [(5,5),(7,7),(11,24)] (.seq .leaf (.seq (.cond .leaf .leaf) (.seq (.wrap (.seq .leaf (.seq .leaf (.cond .leaf .leaf)))) .leaf)))))) (.seq .leaf .leaf))))
theorem OG (a0:List AV) (a1:List UInt8) (s:AS) (R:AV->AS->Prop) (h:OD a0 a1 s R):aa Tryz.prog y8 [.agg a0,.str a1] s R :=
 aa.q (n:=26) (rs:=[.tmp 4]) (A:=OF) hT bY Tryz.func211 (by kernel_rfl) rfl rfl rfl (by kernel_rfl) (by kernel_rfl) h
def HG (a0:List AV) (a1:List AV) (s:AS) (R:AV->AS->Prop):Prop :=
 cH a0 (aj (.cells a0 0 false) s fun l1 s2=>cH a1 (aj (.cells a1 0 false) s2 fun l3 s4=>aR (aC s4 l3 0 2) fun i=>aa Tryz.prog jK [.agg i] s4 fun j s7=>∃ e:Bool,j=.bool e/\(af e (aU .i64 (au s7 l3 0) fun k=>bJ (ag T aZ (.ptr (some (l1,0))) (.int .i64 (IntKind.wrap .i64 (k - 1)))) fun oQ b=>aU .u64 (au s7 oQ b) fun c=>aU .u64 (au s7 l3 1) fun d=>R (.bool (decide ((c:Int)>=d))) s7) (R (.bool false) s7))))
def HH:QA:=(.seq .leaf (.seq .calm .leaf))
theorem HI (a0:List AV) (a1:List AV) (s:AS) (R:AV->AS->Prop) (h:HG a0 a1 s R):aa Tryz.prog sB [.agg a0,.agg a1] s R :=
 aa.q (n:=17) (rs:=[.tmp 4]) (A:=HH) hT bY Tryz.func212 (by kernel_rfl) rfl rfl rfl (by kernel_rfl) (by kernel_rfl) h
def jQ (a0:AV) (a1:AV) (s:AS) (R:AV->AS->Prop):Prop :=
 aa Tryz.prog dG [a0,a1] s fun c s2=>∃ b:Int,c=.int .i64 b/\(R (.bool (decide ((b:Int)>=0))) s2)
def jR:QA:=(.seq .leaf (.seq .leaf .leaf))
theorem jS (a0:AV) (a1:AV) (s:AS) (R:AV->AS->Prop) (h:jQ a0 a1 s R):aa Tryz.prog b_ [a0,a1] s R :=
 aa.q (n:=9) (rs:=[.tmp 4]) (A:=jR) hT bY Tryz.func185 (by kernel_rfl) rfl rfl rfl (by kernel_rfl) (by kernel_rfl) h
def kW (a0:AV) (a1:AV) (s:AS) (R:AV->AS->Prop):Prop :=
 aU .i64 (aQ T fB a0 s) fun j=>bA fun e k=>e k [.int .i64 0] s /\
 ∀ i:Nat,∀ b:Int,∀ s6:AS,e i [.int .i64 b] s6 ->
 af (decide ((b:Int)<j))
 (bJ (ag T fB a0 (.int .i64 b)) fun l m=>aU .u64 (au s6 l m) fun n=>ez Tryz.prog a1 [.int .u64 n] s6 fun v10 c=>∃ d:Bool,v10=.bool d/\(af d
 (R (.int .i64 b) c)
 (∃ m',m'<i/\e m' [(.int .i64 (IntKind.wrap .i64 (b+1)))] c)))
 (R (.int .i64 (-1)) s6)
def kX:QA:=(.seq .leaf (.seq (.seq .leaf (.wrap (.loop [(8,.int .i64)] [(4,5),(8,18)] (.seq .leaf (.seq (.cond .leaf .leaf) (.seq (.wrap (.seq .leaf (.seq .leaf (.cond (.seq .leaf .leaf) .leaf)))) .leaf)))))) (.seq .leaf .leaf)))
theorem kY (a0:AV) (a1:AV) (s:AS) (R:AV->AS->Prop) (h:kW a0 a1 s R):aa Tryz.prog dG [a0,a1] s R :=
 aa.q (n:=19) (rs:=[.tmp 4]) (A:=kX) hT bY Tryz.func245 (by kernel_rfl) rfl rfl rfl (by kernel_rfl) (by kernel_rfl) h
def mX (a0:AV) (a1:AV) (s:AS) (R:AV->AS->Prop):Prop :=
 aa Tryz.prog eV [a0,a1] s fun c s2=>∃ b:Int,c=.int .i64 b/\(R (.bool (decide ((b:Int)>=0))) s2)
def mY:QA:=(.seq .leaf (.seq .leaf .leaf))
theorem mZ (a0:AV) (a1:AV) (s:AS) (R:AV->AS->Prop) (h:mX a0 a1 s R):aa Tryz.prog eo [a0,a1] s R :=
 aa.q (n:=9) (rs:=[.tmp 4]) (A:=mY) hT bY Tryz.func213 (by kernel_rfl) rfl rfl rfl (by kernel_rfl) (by kernel_rfl) h
def pG (a0:AV) (a1:AV) (s:AS) (R:AV->AS->Prop):Prop :=
 aU .i64 (aQ T az a0 s) fun j=>bA fun e k=>e k [.int .i64 0] s /\
 ∀ i:Nat,∀ b:Int,∀ s6:AS,e i [.int .i64 b] s6 ->
 af (decide ((b:Int)<j))
 (bJ (ag T az a0 (.int .i64 b)) fun l m=>aR (aC s6 l m 2) fun n=>ez Tryz.prog a1 [.agg n] s6 fun v10 c=>∃ d:Bool,v10=.bool d/\(af d
 (R (.int .i64 b) c)
 (∃ m',m'<i/\e m' [(.int .i64 (IntKind.wrap .i64 (b+1)))] c)))
 (R (.int .i64 (-1)) s6)
def pH:QA:=(.seq .leaf (.seq (.seq .leaf (.wrap (.loop [(8,.int .i64)] [(4,5),(8,18)] (.seq .leaf (.seq (.cond .leaf .leaf) (.seq (.wrap (.seq .leaf (.seq .leaf (.cond (.seq .leaf .leaf) .leaf)))) .leaf)))))) (.seq .leaf .leaf)))
theorem pI (a0:AV) (a1:AV) (s:AS) (R:AV->AS->Prop) (h:pG a0 a1 s R):aa Tryz.prog eV [a0,a1] s R :=
 aa.q (n:=19) (rs:=[.tmp 4]) (A:=pH) hT bY Tryz.func256 (by kernel_rfl) rfl rfl rfl (by kernel_rfl) (by kernel_rfl) h
end Go.Proofs.YtohgmogbabkkeaaGreat
end

section
set_option maxRecDepth 100000
set_option maxHeartbeats 4000000
namespace Go.Proofs.YtohgmogbabkkeaaGreat
open Go.Am
def pY (a0:AV) (s:AS) (R:AV->AS->Prop):Prop :=
 bG fun z =>
 (∀ n2:Int,∀ s3:AS,z [.int .i64 n2] s3 ->
 aa Tryz.prog fS [.slc none 0 0 true,.int .i64 n2] s3 fun C A=>aU .i64 (aQ T eO a0 A) fun D=>bA fun l F=>l F [C,.int .i64 0] A /\
 ∀ B:Nat,∀ v10:AV,∀ c:Int,∀ dH:AS,l B [v10,.int .i64 c] dH ->
 af (decide ((c:Int)<D))
 (bJ (ag T eO a0 (.int .i64 c)) fun m n=>dI (au dH m n) fun o=>iT (aL T aq aq v10 o dH) fun oC kT=>∃ m',m'<B/\l m' [oC,(.int .i64 (IntKind.wrap .i64 (c+1)))] kT)
 (R v10 dH)) /\
 (aU .i64 (aQ T eO a0 s) fun p=>bA fun i r=>i r [.int .i64 0,.int .i64 0] s /\
 ∀ j:Nat,∀ d:Int,∀ e:Int,∀ b:AS,i j [.int .i64 d,.int .i64 e] b ->
 af (decide ((e:Int)<p))
 (bJ (ag T eO a0 (.int .i64 e)) fun w x=>dI (au b w x) fun y=>aU .i64 (aQ T aq y b) fun k=>af (decide ((IntKind.wrap .i64 (d+k):Int)<0))
 (False)
 (∃ m',m'<j/\i m' [(.int .i64 (IntKind.wrap .i64 (d+k))),(.int .i64 (IntKind.wrap .i64 (e+1)))] b))
 (z [.int .i64 d] b))
def pZ:QA:=(.seq .leaf (.seq .leaf (.join [(3,.int .i64)] [(3,3),(5,5),(9,22)] (.seq .leaf (.wrap (.loop [(3,.int .i64),(11,.int .i64)] [(3,3),(5,5),(11,22)] (.seq .leaf (.seq (.cond .leaf .leaf) (.seq (.wrap (.seq .leaf (.seq .leaf (.seq .leaf (.cond .leaf .leaf))))) .leaf)))))) (.seq .leaf (.seq (.seq .leaf (.wrap (.loop [(6,.any),(27,.int .i64)] [(6,6),(8,8),(27,34)] (.seq .leaf (.seq (.cond .leaf .leaf) (.seq (.wrap (.seq .leaf .leaf)) .leaf)))))) (.seq .leaf .leaf))))))
theorem p0 (a0:AV) (s:AS) (R:AV->AS->Prop) (h:pY a0 s R):aa Tryz.prog fA [a0] s R :=
 aa.q (n:=36) (rs:=[.tmp 2]) (A:=pZ) hT bY Tryz.func248 (by kernel_rfl) rfl rfl rfl (by kernel_rfl) (by kernel_rfl) h
def rA (a0:AV) (a1:Int) (s:AS) (R:AV->AS->Prop):Prop :=
 af (decide ((a1:Int)<0))
 (False)
 (aU .i64 (vZ T aq a0) fun b=>aU .i64 (aQ T aq a0 s) fun n2=>af (decide ((IntKind.wrap .i64 (a1 - (IntKind.wrap .i64 (b - n2))):Int)>0))
 (aU .i64 (vZ T aq a0) fun c=>dI (bg T aq a0 none (some (.int .i64 c)) none) fun d=>iT (aL T aq qZ d (.int .i64 (IntKind.wrap .i64 (a1 - (IntKind.wrap .i64 (b - n2))))) s) fun e s6=>aU .i64 (aQ T aq a0 s6) fun i=>dI (bg T aq e none (some (.int .i64 i)) none) fun j=>R j s6)
 (R a0 s))
def rB:QA:=(.seq .leaf (.seq (.seq .leaf (.cond .leaf .leaf)) (.seq (.seq .leaf (.seq .leaf (.cond .leaf .leaf))) (.seq .leaf .leaf))))
theorem rC (a0:AV) (a1:Int) (s:AS) (R:AV->AS->Prop) (h:rA a0 a1 s R):aa Tryz.prog fS [a0,.int .i64 a1] s R :=
 aa.q (n:=27) (rs:=[.tmp 4]) (A:=rB) hT bY Tryz.func280 (by kernel_rfl) rfl rfl rfl (by kernel_rfl) (by kernel_rfl) h
def qv (a0:AV) (s:AS) (R:AV->AS->Prop):Prop :=
 uC (Rw T aq true a0 (.slc none 0 0 true)) fun b=>af b
 (R (.slc none 0 0 true) s)
 (aR (dw T aq 0 []) fun c=>aj (.cells c 0 false) s fun l3 s4=>iT (aL T aq aq (.slc (some (l3,0)) 0 0 true) a0 s4) fun d s6=>R d s6)
def qw:QA:=(.seq .leaf (.seq (.seq .leaf (.cond (.seq .leaf .leaf) .leaf)) (.seq .leaf .leaf)))
theorem qx (a0:AV) (s:AS) (R:AV->AS->Prop) (h:qv a0 s R):aa Tryz.prog aT [a0] s R :=
 aa.q (n:=8) (rs:=[.tmp 2]) (A:=qw) hT bY Tryz.func70 (by kernel_rfl) rfl rfl rfl (by kernel_rfl) (by kernel_rfl) h
def OH (a0:Int) (a1:Int) (s:AS) (R:AV->AS->Prop):Prop :=
 bG fun c =>
 (∀ i:Bool,∀ s3:AS,c [.bool i] s3 ->
 af i
 (R (.aN [.slc none 0 0 true,.int .i64 2]) s3)
 (bG fun j =>
 (∀ k:AV,∀ s6:AS,j [k] s6 ->
 R (.aN [k,.int .i64 0]) s6) /\
 (bA fun d m=>d m [.slc none 0 0 true,.int .i64 0] s3 /\
 ∀ l:Nat,∀ v10:AV,∀ b:Int,∀ dH:AS,d l [v10,.int .i64 b] dH ->
 af (decide ((b:Int)<a1))
 (NN (IntKind.wrap .i64 (8*(IntKind.wrap .i64 ((IntKind.wrap .i64 (a1 - 1)) - b)))) (aR (dw T aq 1 [(0,(.int .u8 (IntKind.wrap .u8 (Int.fdiv a0 (2 ^ min (Int.toNat (IntKind.wrap .i64 (8*(IntKind.wrap .i64 ((IntKind.wrap .i64 (a1 - 1)) - b))))) (IntKind.bits .u64))))))]) fun e=>aj (.cells e 0 false) dH fun ku gh=>iT (aL T aq aq v10 (.slc (some (ku,0)) 1 1 true) gh) fun oC kT=>∃ m',m'<l/\d m' [oC,(.int .i64 (IntKind.wrap .i64 (b+1)))] kT))
 (j [v10] dH)))) /\
 (af (decide ((a1:Int)<1)) (c [.bool true] s) (af (decide ((a1:Int)>8)) (c [.bool true] s) (af (decide ((a1:Int)<8)) (NN (IntKind.wrap .i64 (8*a1)) (c [(.bool ((Int.fdiv a0 (2 ^ min (Int.toNat (IntKind.wrap .i64 (8*a1))) (IntKind.bits .u64)):Int) != 0))] s)) (c [.bool false] s))))
def OI:QA:=(.seq .leaf (.seq (.join [(24,.bool)] [(8,24)] .leaf (.cond (.seq .leaf .leaf) .leaf)) (.seq .leaf (.join [(6,.any)] [(6,7),(25,40)] (.seq .leaf (.wrap (.loop [(6,.any),(26,.int .i64)] [(6,7),(26,40)] (.seq .leaf (.seq (.cond .leaf .leaf) (.seq (.wrap (.seq .leaf .leaf)) .leaf)))))) (.seq .leaf .leaf)))))
theorem OJ (a0:Int) (a1:Int) (s:AS) (R:AV->AS->Prop) (h:OH a0 a1 s R):aa Tryz.prog uN [.int .u64 a0,.int .i64 a1] s R :=
 aa.q (n:=42) (rs:=[.tmp 4,.tmp 5]) (A:=OI) hT bY Tryz.func216 (by kernel_rfl) rfl rfl rfl (by kernel_rfl) (by kernel_rfl) h
def HJ (a0:List AV) (s:AS) (R:AV->AS->Prop):Prop :=
 cH a0 (aj (.cells a0 0 false) s fun l1 s2=>aR (aC s2 l1 0 16) fun o=>bA fun d p=>d p [.slc none 0 0 true,.int .i64 0] s2 /\
 ∀ n:Nat,∀ e:AV,∀ c:Int,∀ i:AS,d n [e,.int .i64 c] i ->
 af (decide ((c:Int)<16))
 (aU .u64 (ju T aZ (.agg o) (.int .i64 c)) fun j=>aa Tryz.prog uN [.int .u64 j,.int .i64 8] i fun v11 dH=>∃ b:AV,∃ k:Int,v11=.aN [b,.int .i64 k]/\(iT (aL T aq aq e b dH) fun l m=>∃ m',m'<n/\d m' [l,(.int .i64 (IntKind.wrap .i64 (c+1)))] m))
 (R e i))
def HK:QA:=(.seq .leaf (.seq .leaf (.seq (.seq .leaf (.wrap (.loop [(3,.any),(9,.int .i64)] [(3,3),(5,7),(9,20)] (.seq .leaf (.seq (.cond .leaf .leaf) (.seq (.wrap (.seq .leaf (.seq .leaf .leaf))) .leaf)))))) (.seq .leaf .leaf))))
theorem HL (a0:List AV) (s:AS) (R:AV->AS->Prop) (h:HJ a0 s R):aa Tryz.prog sA [.agg a0] s R :=
 aa.q (n:=22) (rs:=[.tmp 2]) (A:=HK) hT bY Tryz.func161 (by kernel_rfl) rfl rfl rfl (by kernel_rfl) (by kernel_rfl) h
def Mw (a0:AV) (s:AS) (R:AV->AS->Prop):Prop :=
 aU .i64 (aQ T aq a0 s) fun c=>af (decide ((c:Int)>65535))
 (R (.aN [.slc none 0 0 true,.int .i64 3]) s)
 (aU .i64 (aQ T aq a0 s) fun n2=>aa Tryz.prog uN [(.int .u64 (IntKind.wrap .u64 n2)),.int .i64 2] s fun d s4=>∃ b:AV,∃ e:Int,d=.aN [b,.int .i64 e]/\(iT (aL T aq aq b a0 s4) fun i s8=>R (.aN [i,.int .i64 0]) s8))
def Mx:QA:=(.seq .leaf (.seq (.seq .leaf (.cond (.seq .leaf .leaf) .leaf)) (.seq .leaf (.seq .leaf .leaf))))
theorem My (a0:AV) (s:AS) (R:AV->AS->Prop) (h:Mw a0 s R):aa Tryz.prog wN [a0] s R :=
 aa.q (n:=19) (rs:=[.tmp 2,.tmp 3]) (A:=Mx) hT bY Tryz.func166 (by kernel_rfl) rfl rfl rfl (by kernel_rfl) (by kernel_rfl) h
end Go.Proofs.YtohgmogbabkkeaaGreat
end

section
set_option maxRecDepth 100000
set_option maxHeartbeats 4000000
namespace Go.Proofs.YtohgmogbabkkeaaGreat
open Go.Am
def D2 (a0:Option (Nat×Nat)) (a1:List AV) (s:AS) (R:AV->AS->Prop):Prop :=
 cH a1 (aj (.cells a1 0 false) s fun l1 s2=>aR (aC s2 l1 0 2) fun J=>aa Tryz.prog wJ [.agg J] s2 fun K G=>∃ H:Bool,K=.bool H/\(af (!H)
 (R (.bool false) G)
 (bG fun I =>
 (∀ s8:AS,I [] s8 ->
 aU .u64 (au s8 l1 1) fun L=>aU .i64 (au s8 l1 0) fun e=>ai a0 fun i j=>bJ (ag T dz (.ptr (some (i,j))) (.int .i64 (IntKind.wrap .i64 (e - 1)))) fun k l=>aU .u64 (au s8 k l) fun m=>R (.bool (decide ((L:Int)<=m))) s8) /\
 (bA fun c n=>c n [.int .i64 0] G /\
 ∀ d:Nat,∀ b:Int,∀ gy:AS,c d [.int .i64 b] gy ->
 ai a0 fun o p=>dI (au gy o (p+16)) fun r=>aU .i64 (aQ T az r gy) fun w=>af (decide ((b:Int)<w))
 (ai a0 fun x y=>dI (au gy x (y+16)) fun z=>bJ (ag T az z (.int .i64 b)) fun A B=>aR (aC gy A B 2) fun C=>aR (aC gy l1 0 2) fun D=>uC (je T 100 gV (.agg C) (.agg D)) fun F=>af F
 (R (.bool true) gy)
 (∃ m',m'<d/\c m' [(.int .i64 (IntKind.wrap .i64 (b+1)))] gy))
 (I [] gy)))))
def D3:QA:=(.seq .leaf (.seq (.seq .leaf (.cond (.seq .leaf .leaf) .leaf)) (.join [] [(4,5),(9,26)] (.seq .leaf (.wrap (.loop [(5,.int .i64)] [(4,5),(9,26)] (.seq (.seq .leaf (.cond .leaf .leaf)) (.seq (.wrap (.seq (.draw 8) (.cond (.seq .leaf .leaf) .leaf))) .leaf))))) (.seq (.draw 10) .leaf))))
theorem D4 (a0:Option (Nat×Nat)) (a1:List AV) (s:AS) (R:AV->AS->Prop) (h:D2 a0 a1 s R):aa Tryz.prog lz [.ptr a0,.agg a1] s R :=
 aa.q (n:=38) (rs:=[.tmp 4]) (A:=D3) hT bY Tryz.func97 (by kernel_rfl) rfl rfl rfl (by kernel_rfl) (by kernel_rfl) h
def D5 (a0:Option (Nat×Nat)) (a1:List AV) (s:AS) (R:AV->AS->Prop):Prop :=
 cH a1 (aj (.cells a1 0 false) s fun l1 s2=>aR (aC s2 l1 0 2) fun g3=>aa Tryz.prog lz [.ptr a0,.agg g3] s2 fun v4 s5=>∃ b6:Bool,v4=.bool b6/\(af b6
 (R (.bool false) s5)
 (bG fun m =>
 (∀ v8:AV,∀ n9:Int,∀ e:AS,m [v8,.int .i64 n9] e ->
 aR (aC e l1 0 2) fun n=>aR (dw T az 1 [(0,.agg n)]) fun o=>aj (.cells o 0 false) e fun p r=>iT (aL T az az v8 (.slc (some (p,0)) 1 1 true) r) fun w j=>ai a0 fun x y=>dI (au j x (y+16)) fun z=>dI (bg T az z (some (.int .i64 n9)) none none) fun v20=>iT (aL T az az w v20 j) fun A fT=>ai a0 fun B C=>fQ T az fT B (C+16) A fun dZ=>aa Tryz.prog kG [.ptr a0] dZ fun D F=>D=.aN []/\(R (.bool true) F)) /\
 (bA fun i G=>i G [.slc none 0 0 true,.int .i64 0] s5 /\
 ∀ k:Nat,∀ d:AV,∀ c:Int,∀ b:AS,i k [d,.int .i64 c] b ->
 ai a0 fun H I=>dI (au b H (I+16)) fun J=>aU .i64 (aQ T az J b) fun K=>af (decide ((c:Int)<K)) (ai a0 fun L M=>dI (au b L (M+16)) fun x_=>bJ (ag T az x_ (.int .i64 c)) fun O Q=>aR (aC b O Q 2) fun S=>aR (aC b l1 0 2) fun U=>aa Tryz.prog qn [.agg S,.agg U] b fun W tN=>∃ l:Bool,W=.bool l/\(af l
 (ai a0 fun X Y=>dI (au tN X (Y+16)) fun Z=>bJ (ag T az Z (.int .i64 c)) fun ab ad=>aR (aC tN ab ad 2) fun ae=>aR (dw T az 1 [(0,.agg ae)]) fun al=>aj (.cells al 0 false) tN fun am an=>iT (aL T az az d (.slc (some (am,0)) 1 1 true) an) fun ao ar=>∃ m',m'<k/\i m' [ao,(.int .i64 (IntKind.wrap .i64 (c+1)))] ar)
 (m [d,.int .i64 c] tN))) (m [d,.int .i64 c] b)))))
def D6:QA:=(.seq .leaf (.seq (.seq .leaf (.cond (.seq .leaf .leaf) .leaf)) (.seq .leaf (.seq .leaf (.join [(5,.any),(6,.int .i64)] [(5,6),(10,39)] (.wrap (.loop [(5,.any),(6,.int .i64)] [(5,6),(10,39)] (.seq (.seq (.draw 16) (.cond .leaf .leaf)) (.seq (.wrap .leaf) .leaf)))) (.seq .leaf (.seq .leaf (.seq .leaf (.seq .leaf .leaf)))))))))
theorem D7 (a0:Option (Nat×Nat)) (a1:List AV) (s:AS) (R:AV->AS->Prop) (h:D5 a0 a1 s R):aa Tryz.prog pR [.ptr a0,.agg a1] s R :=
 aa.q (n:=57) (rs:=[.tmp 4]) (A:=D6) hT bY Tryz.func208 (by kernel_rfl) rfl rfl rfl (by kernel_rfl) (by kernel_rfl) h
def yw (a0:Option (Nat×Nat)) (s:AS) (R:AV->AS->Prop):Prop :=
 bG fun J1 =>
 (∀ v2:AV,∀ s3:AS,J1 [v2] s3 ->
 ai a0 fun l4 o5=>fQ T az s3 l4 (o5+16) v2 fun s6=>R (.aN []) s6) /\
 (bA fun d m8=>d m8 [.slc none 0 0 true,.int .i64 0] s /\
 ∀ i:Nat,∀ v10:AV,∀ c:Int,∀ dH:AS,d i [v10,.int .i64 c] dH ->
 ai a0 fun j k=>dI (au dH j (k+16)) fun l=>aU .i64 (aQ T az l dH) fun m=>af (decide ((c:Int)<m))
 (ai a0 fun n o=>dI (au dH n (o+16)) fun p=>bJ (ag T az p (.int .i64 c)) fun r w=>aR (aC dH r w 2) fun e=>aj (.cells [.int .i64 0,.int .u64 0] 0 false) dH fun b x=>fC (some 2) e (bu (cU x b 0 e) fun dZ=>aU .u64 (au dZ b 1) fun y=>aU .i64 (au dZ b 0) fun z=>ai a0 fun A B=>bJ (ag T dz (.ptr (some (A,B))) (.int .i64 (IntKind.wrap .i64 (z - 1)))) fun C D=>aU .u64 (au dZ C D) fun F=>af ((y:Int)==(IntKind.wrap .u64 (F+1)))
 (aU .i64 (au dZ b 0) fun G=>aU .u64 (au dZ b 1) fun H=>ai a0 fun I J=>bJ (ag T dz (.ptr (some (I,J))) (.int .i64 (IntKind.wrap .i64 (G - 1)))) fun K L=>bu (cU dZ K L [.int .u64 H]) fun M=>∃ m',m'<i/\d m' [v10,(.int .i64 (IntKind.wrap .i64 (c+1)))] M)
 (aU .u64 (au dZ b 1) fun O=>aU .i64 (au dZ b 0) fun Q=>ai a0 fun S U=>bJ (ag T dz (.ptr (some (S,U))) (.int .i64 (IntKind.wrap .i64 (Q - 1)))) fun W X=>aU .u64 (au dZ W X) fun Y=>af (decide ((O:Int)>Y))
 (aR (aC dZ b 0 2) fun Z=>aR (dw T az 1 [(0,.agg Z)]) fun ab=>aj (.cells ab 0 false) dZ fun ad ae=>iT (aL T az az v10 (.slc (some (ad,0)) 1 1 true) ae) fun al am=>∃ m',m'<i/\d m' [al,(.int .i64 (IntKind.wrap .i64 (c+1)))] am)
 (∃ m',m'<i/\d m' [v10,(.int .i64 (IntKind.wrap .i64 (c+1)))] dZ))))
 (J1 [v10] dH))
def yx:QA:=(.seq .leaf (.join [(2,.any)] [(2,56)] (.seq .leaf (.wrap (.loop [(2,.any),(3,.int .i64)] [(2,56)] (.seq (.seq .leaf (.cond .leaf .leaf)) (.seq (.wrap (.seq .leaf (.seq (.draw 11) (.cond (.draw 8) (.seq (.draw 10) (.cond .leaf .leaf)))))) .leaf))))) .leaf))
theorem yy (a0:Option (Nat×Nat)) (s:AS) (R:AV->AS->Prop) (h:yw a0 s R):aa Tryz.prog kG [.ptr a0] s R :=
 aa.q (n:=61) (rs:=[]) (A:=yx) hT bY Tryz.func255 (by kernel_rfl) rfl rfl rfl (by kernel_rfl) (by kernel_rfl) h
def Ko (a0:List AV) (a1:List AV) (s:AS) (R:AV->AS->Prop):Prop :=
 cH a0 (aj (.cells a0 0 false) s fun l1 s2=>cH a1 (aj (.cells a1 0 false) s2 fun l3 s4=>aU .i64 (au s4 l1 0) fun c=>aU .i64 (au s4 l3 0) fun d=>af (decide ((c:Int)<d)) (R (.bool true) s4) (aU .i64 (au s4 l1 0) fun e=>aU .i64 (au s4 l3 0) fun i=>af ((e:Int)==i) (aU .u64 (au s4 l1 1) fun j=>aU .u64 (au s4 l3 1) fun b=>R (.bool (decide ((j:Int)<b))) s4) (R (.bool false) s4))))
def Kq:QA:=(.seq .leaf (.seq .leaf .leaf))
theorem Kr (a0:List AV) (a1:List AV) (s:AS) (R:AV->AS->Prop) (h:Ko a0 a1 s R):aa Tryz.prog qn [.agg a0,.agg a1] s R :=
 aa.q (n:=24) (rs:=[.tmp 4]) (A:=Kq) hT bY Tryz.func209 (by kernel_rfl) rfl rfl rfl (by kernel_rfl) (by kernel_rfl) h
end Go.Proofs.YtohgmogbabkkeaaGreat
end

section
namespace Go.Proofs.YtohgmogbabkkeaaGreat
open Go.Am Go.av
structure Ks (s:AS) (p:Nat) (t:List AV) (v:List Int) (ex:List aJ):Prop where
 len:v.length=16
 nt:∀ y∈t,∀ n,y≠.int .i64 n
 mem:∃ w,Am.Own s p (v.map (.int .u64)++w::t)/\w.one=true/\w≠.emp/\Hw s w ex
structure SV (s0 s:AS) (p:Nat) (t:List AV) (v:List Int) (ex:List aJ):Prop where
 len:v.length=16
 nt:∀ y∈t,∀ n,y≠.int .i64 n
 mem:∃ w,Am.Own s p (v.map (.int .u64)++w::t)/\w.one=true/\w≠.emp/\bq aI 2 s w ex/\∀ la∈ax w,s0.h la=none
section
variable {s s':AS} {p:Nat} {t:List AV} {v:List Int} {ex:List aJ}
theorem Ks.ext (h:Ks s p t v ex) (e:Ext s s'):Ks s' p t v ex:=by
 obtain ⟨b,c,w,h2,h3,d,h4⟩:=h;exact ⟨b,c,w,h2.ext e,h3,d,h4.ext e⟩
theorem SV.back {s0 s1:AS} (h:SV s1 s p t v ex) (e:∀ x,s0.h x≠none->s1.h x≠none):SV s0 s p t v ex:=by
 obtain ⟨c,d,w,h2,h3,i,h4,j⟩:=h;refine ⟨c,d,w,h2,h3,i,h4,fun la b=>?_⟩;cases k:s0.h la with
 | none=>rfl
 | some o=>exact absurd (j la b) (e la (by rw [k];simp))
end
theorem PG {v:List Int} (h:v.length=16) (w:AV) (t:List AV) {i:Nat} (hi:i<16):(v.map (AV.int .u64)++w::t)[i]? = some (.int .u64 (v.getD i 0)):=by
 rw [List.getElem?_append_left (by simp [h];omega),List.getElem?_map,List.getElem?_eq_getElem (by omega),List.getD_eq_getElem?_getD,List.getElem?_eq_getElem (by omega)];rfl
theorem Kt {v:List Int} (h:v.length=16) (w:AV) (t:List AV):(v.map (AV.int .u64)++w::t)[16]? = some w:=by
 rw [List.getElem?_append_right (by simp [h])];simp [h]
theorem u_ {v:List Int} (h:v.length=16) (w:AV) (t:List AV):(v.map (AV.int .u64)++w::t).length=17+t.length:=by simp [h];omega
theorem yK (a b:aJ) (s:AS):aa Tryz.prog qn [.agg (aI a),.agg (aI b)] s fun v s'=>v=.bool (a.lt b)/\Ext s s':=by
 refine aa.pre fun d=>Kr _ _ _ _ ⟨rfl,aj.intro d rfl fun l s1 F=>⟨rfl,aj.intro F.wf rfl fun i s2 c=>?_⟩⟩;have e:=F.ext.trans c.ext;simp only [(F.own.ext c.ext).at.au,c.own.at.au,aI,List.getElem?_cons_zero,List.getElem?_cons_succ,go_sem,gB,e,and_true,aJ.lt]
 grind
theorem Iy {s:AS} {p:Nat} {t:List AV} {v:List Int} {ex:List aJ} (h:Ks s p t v ex) (W:ex.length<=2 ^ 30) (d:aJ):aa Tryz.prog lz [.ptr (some (p,0)),.agg (aI d)] s fun r s'=>r=.bool (ff v ex d)/\Ext s s':=by
 refine aa.pre fun L=>D4 _ _ _ _ ⟨rfl,aj.intro L rfl fun l s1 F=>?_⟩;refine ⟨_,F.own.at.aC (by simp [aI]),?_⟩;refine (JV d _).mono ?_;rintro r s3 ⟨rfl,A⟩;have e:=F.ext.trans A;refine ⟨_,rfl,af.mk (fun hm=>?_) (fun hm=>?_)⟩
 ·simp only [Bool.not_eq_true'] at hm;exact ⟨by simp [ff,hm],e⟩
 ·simp only [Bool.not_eq_false'] at hm;obtain ⟨J,M,w,h2,h3,X,h4⟩:=h;refine ⟨fun vs s'=>Ext s3 s'/\d ∉ ex,?_,fun m vs s'=>∃ i:Nat,vs=[.int .i64 (i:Nat)]/\i<=ex.length/\m=ex.length - i/\Ext s3 s'/\∀ (k:Nat),k<i->ex[k]? ≠ some d,ex.length,⟨0,rfl,by omega,rfl,Ext.refl _,by omega⟩,?_⟩
  ·rintro s8 ⟨B,hd⟩;have O:=aJ.gQ.1 hm;have y:=(F.own.ext (A.trans B)).at;have C:=(h2.ext (e.trans B)).at;refine ⟨_,by rw [y.au];rfl,_,by rw [y.au];rfl,?_⟩;dsimp only;rw [sk (by omega)];refine ⟨_,_,Oh (by omega),_,by rw [C.au,Nat.zero_add,Nat.mul_one];exact PG J w t (by omega),?_,e.trans B⟩;simp [ff,hm,hd]
  ·rintro m n gy ⟨i,hi,Y,rfl,b,K⟩;simp only [List.cons.injEq,AV.int.injEq,true_and,and_true] at hi;subst hi;have C:=(h2.ext (e.trans b)).at;have c:au gy p (0+16)=some w:=by rw [C.au];exact Kt J w t
   refine ⟨w,c,_,h4.cJ bI _,af.dec (fun Q=>?_) (fun R=>?_)⟩
   ·obtain ⟨x,D⟩:=cT (l:=ex) (i:=i) (by omega);obtain ⟨G,o,S,U⟩:=(h4.ext (e.trans b)).ix (by decide) bn bI kq D;refine ⟨w,c,G,o,S _,_,(U _ (Ext.refl _)).2,_,(F.own.ext (A.trans b)).at.aC (by simp [aI]),_,Gb x d,af.dec (fun H=>?_) (fun H=>?_)⟩
    ·refine ⟨?_,e.trans b⟩;subst H;simp [ff,hm,List.mem_of_getElem? D]
    ·refine ⟨ex.length - (i+1),by omega,i+1,by rw [aX (by omega)];rfl,by omega,rfl,b,fun k z j=>?_⟩;rcases Nat.lt_or_ge k i with h | h
     ·exact K k h j
     ·obtain rfl:k=i:=by omega
      rw [D] at j;exact H (Option.some.inj j)
   ·refine ⟨b,fun hd=>?_⟩;obtain ⟨k,z⟩:=List.mem_iff_getElem?.1 hd;have:k<ex.length:=by
     rcases Nat.lt_or_ge k ex.length with I | I
     ·exact I
     ·rw [List.getElem?_eq_none I] at z;cases z
    exact K k (by omega) z
theorem HM {s:AS} {p:Nat} {t:List AV} {v:List Int} {ex:List aJ} (h:Ks s p t v ex) (hv:FE v) (hm:∀ d∈ex,d.may=true) (hn:ex.length<2 ^ 30) :
  aa Tryz.prog kG [.ptr (some (p,0))] s fun r s'=>r=.aN []/\SV s s' p t (compact v ex).1 (compact v ex).2/\bz [p] s s':=by
 refine aa.pre fun hw=>yy _ _ _ ?_;obtain ⟨h1,L,w,h2,h3,h5,h4⟩:=h;have H:∀ x∈[p],s.h x≠none:=by
  intro x M;obtain rfl:x=p:=by simpa using M
  rw [h2];simp
 have O:∀ {r:AV} {s':AS} {l:List aJ},aV aI 2 [p] s s' r l->p ∉ ax r:=fun g hm=>H p (by simp) (g.new p hm);have S:∀ y∈w::t,∀ n,y≠.int .i64 n:=by
  intro y Q n;rcases List.mem_cons.1 Q with rfl | Q
  ·exact qq h4 _ _
  ·exact L y Q n
 let e:Nat->List Int×List aJ:=fun i=>(ex.take i).foldl gl (v,[])
 have C:∀ i,FE (e i).1:=fun i=>EI _ _ hv fun d hd=>hm d (List.mem_of_mem_take hd);have I:∀ i,(e i).2.length<=i:=fun i=>by have:=Aw (ex.take i) (v,[]);simp only [List.length_nil,Nat.zero_add] at this;have h2:=List.length_take_le i ex;exact Nat.le_trans this h2
 refine ⟨fun vs s'=>∃ left,vs=[left]/\aG s'/\aV aI 2 [p] s s' left (compact v ex).2/\Am.Own s' p ((compact v ex).1.map (.int .u64)++w::t),?_,?_⟩
 ·rintro r s3 ⟨left,hl,U,g,K⟩;simp only [List.cons.injEq,and_true] at hl;subst hl;have B:FE (compact v ex).1:=by have:=C ex.length;simp only [e,List.take_length] at this;exact this
  refine cS g.jh.2 AJ (bu.own U K (by rw [u_ B.len];simp) fun s6 P=>⟨rfl,⟨B.len,L,r,?_,g.jh.2,g.jh.1,(g.wr H P.mut).tI,g.new⟩,g.eC.trans P.mut⟩)
  ·have:qC ((compact v ex).1.map (AV.int .u64)++w::t) (0+16) [r]=(compact v ex).1.map (AV.int .u64)++r::t:=by
    rw [fF,List.set_append_right _ _ (by simp [B.len])];simp [B.len]
   rw [this] at P;exact P.at
 ·have hc:=h2.at;refine ⟨fun m vs s'=>∃ (i:Nat) (left:AV),vs=[left,.int .i64 (i:Nat)]/\i<=ex.length/\m=ex.length - i/\aG s'/\aV aI 2 [p] s s' left (e i).2/\Am.Own s' p ((e i).1.map (.int .u64)++w::t),ex.length,⟨0,_,rfl,by omega,rfl,hw,aV.nil,h2⟩,?_⟩;rintro m left n W ⟨i,X,hi,h6,rfl,D,g,K⟩;simp only [List.cons.injEq,AV.int.injEq,true_and,and_true] at hi;obtain ⟨rfl,rfl⟩:=hi;have z:=C i;have A:au W p (0+16)=some w:=by rw [K.at.au];exact Kt z.len w t
  refine ⟨w,A,_,h4.cJ bI _,af.dec (fun ab=>?_) (fun ad=>?_)⟩
  ·obtain ⟨x,M⟩:=cT (l:=ex) (i:=i) (by omega);have hd:=Cz h4 hc S g.eC;obtain ⟨la,o,h8,h9⟩:=hd.ix (by decide) bn bI kq M;have bY:=aJ.gQ.1 (hm x (List.mem_of_getElem? M));have ht:e (i+1)=gl (e i) x:=by simp only [e];rw [List.take_add_one,M,Option.toList_some,List.foldl_append];rfl
   refine ⟨w,A,la,o,h8 _,_,(h9 _ (Ext.refl _)).2,kj D rfl rfl rfl fun R fT F=>?_⟩;have k:=K.ext F.ext;have gg:=g.step F.ext;have G:(x.r - 1).toNat<16:=by omega
   have ae:=z.get (x.r - 1).toNat;have f0:au fT R 0=some (.int .i64 x.r):=by rw [F.own.at.au];rfl
   have f1:au fT R 1=some (.int .u64 x.c):=by rw [F.own.at.au];rfl
   have fv:au fT p (0+(x.r - 1).toNat*1)=some (.int .u64 ((e i).1.getD (x.r - 1).toNat 0)):=by rw [k.at.au,Nat.zero_add,Nat.mul_one];exact PG z.len w t G
   refine ⟨_,f1,_,f0,?_⟩;dsimp only;rw [sk (by omega)];refine ⟨_,_,Oh (by omega),_,fv,?_⟩;dsimp only;rw [gJ (by omega)];have cont:∀ (r:AV) (s':AS),aG s'->aV aI 2 [p] s s' r (e (i+1)).2->Am.Own s' p ((e (i+1)).1.map (.int .u64)++w::t) ->
     ∃ m',m'<ex.length - i/\∃ (j:Nat) (left:AV),[r,AV.int .i64 (IntKind.wrap .i64 ((i:Int)+1))]=[left,.int .i64 (j:Nat)]/\j<=ex.length/\m'=ex.length - j/\aG s'/\aV aI 2 [p] s s' left (e j).2/\Am.Own s' p ((e j).1.map (.int .u64)++w::t) :=
    fun r s' a b c=>⟨ex.length - (i+1),by omega,i+1,r,by rw [aX (by omega)];rfl,by omega,rfl,a,b,c⟩
   refine af.mk (fun Y=>?_) (fun Y=>?_)
   ·have J:x.c=(e i).1.getD (x.r - 1).toNat 0+1:=by simpa using Y
    have hs:e (i+1)=((e i).1.set (x.r - 1).toNat x.c,(e i).2):=by rw [ht];unfold gl;rw [if_neg (by omega),if_pos J]
    refine ⟨_,f0,_,f1,?_⟩;dsimp only;rw [sk (by omega)];refine ⟨_,_,Oh (by omega),bu.own F.wf k (by rw [u_ z.len];simp;omega) fun al P=>?_⟩;refine cont _ _ P.wf (by rw [hs];exact g.wr H (F.ext.mut.trans P.mut)) ?_;rw [hs];have:=P.at;rw [fF,Nat.zero_add,Nat.mul_one,PD _ _ _ _ (by rw [z.len];exact G)] at this;exact this
   ·have J:¬ x.c=(e i).1.getD (x.r - 1).toNat 0+1:=by simpa using Y
    refine ⟨_,f1,_,f0,?_⟩;dsimp only;rw [sk (by omega)];refine ⟨_,_,Oh (by omega),_,fv,af.dec (fun am=>?_) (fun hle=>?_)⟩
    ·have hs:e (i+1)=((e i).1,(e i).2++[x]):=by rw [ht];unfold gl;rw [if_neg (by omega),if_neg J]
     have hM:∀ y∈[p],fT.h y≠none:=by
      intro y Q;obtain rfl:y=p:=by simpa using Q
      rw [k];simp
     refine ⟨_,F.own.at.aC (by simp [aI]),aV.ji iR bn mW F.wf gg hM x (by have:=I i;omega) fun r s' g' Z mm=>?_⟩;exact cont _ _ Z (by rw [hs];exact g') (by rw [hs];exact k.mut mm (O g))
    ·have hs:e (i+1)=e i:=by rw [ht];unfold gl;rw [if_pos (by omega)]
     exact cont _ _ F.wf (by rw [hs];exact gg) (by rw [hs];exact k)
  ·obtain rfl:i=ex.length:=by omega
   have hs:e ex.length=compact v ex:=by simp only [e,List.take_length];rfl
   rw [hs] at g K;exact ⟨left,rfl,D,g,K⟩
theorem QY {s:AS} {q:Nat} {t:List AV} {v:List Int} {ex:List aJ} (h:Ks s q t v ex) (hv:FE v) (hr:ef ex) (hm:∀ d∈ex,d.may=true) (X:ex.length+1<2 ^ 30) {d:aJ} (hd:d.may=true) :
  aa Tryz.prog pR [.ptr (some (q,0)),.agg (aI d)] s fun r s'=>r=.bool (!ff v ex d)/\bz [q] s s'/\(ff v ex d=true->Ext s s')/\(ff v ex d=false->SV s s' q t (compact v (ins ex d)).1 (compact v (ins ex d)).2):=by
 refine aa.pre fun hw=>D7 _ _ _ _ ⟨rfl,aj.intro hw rfl fun l1 s2 H=>⟨_,H.own.at.aC (by simp [aI]),?_⟩⟩;refine aa.use (Iy (h.ext H.ext) (by omega) d) ?_;rintro r Y ⟨rfl,Z⟩ ab;have F:=H.ext.trans Z;refine ⟨_,rfl,af.mk (fun G=>?_) (fun G=>?_)⟩
 ·exact ⟨by simp [G],F.mut,(fun _=>F),fun h=>absurd G (by simp [h])⟩
 have a3:d ∉ ex:=by
  intro ad;simp [ff,hd,ad] at G
 obtain ⟨I,ae,w,h2,h3,h5,h4⟩:=h;have c:∀ s',Ext s s'->au s' q (0+16)=some w:=fun s' e=>by rw [(h2.ext e).at.au];exact Kt I w t
 refine ⟨fun vs s'=>∃ left,vs=[left,.int .i64 (pos ex d:Nat)]/\aG s'/\aV aI 2 [] Y s' left (ex.take (pos ex d)),?_,fun m vs s'=>∃ (i:Nat) (left:AV),vs=[left,.int .i64 (i:Nat)]/\i<=ex.length/\m=ex.length - i/\aG s'/\aV aI 2 [] Y s' left (ex.take i)/\∀ (k:Nat) x,k<i->ex[k]? = some x->x.lt d=true,ex.length,⟨0,_,rfl,by omega,rfl,ab,by simpa using aV.nil,fun k x hk=>by omega⟩,?_⟩
 ·rintro v8 n9 a4 ⟨left,hl,J,g⟩;simp only [List.cons.injEq,AV.int.injEq,true_and,and_true] at hl;obtain ⟨rfl,rfl⟩:=hl;have al:=JA ex d;refine ⟨_,(H.own.ext (Z.trans g.eC.ext)).at.aC (by simp [aI]),aV.ji iR bn mW J g (by simp) d (by rw [List.length_take];omega) fun a5 a6 K L _=>?_⟩;have M:=F.trans K.eC.ext;obtain ⟨v20,k1,k2⟩:=(h4.ext M).from bn bI kq h5 al .i64
  refine ⟨w,c _ M,v20,k1,aV.k_ iR bn mW L K (by simp) k2 (by simp;omega) bI fun O fT b Q _=>?_⟩;have C:=F.trans b.eC.ext;have R:ex.take (pos ex d)++[d]++ex.drop (pos ex d)=ins ex d:=by simp [ins]
  rw [R] at b;refine cS b.jh.2 AJ (bu.own Q (h2.ext C) (by rw [u_ I];simp) fun dZ P=>?_);have hP:=P.at;rw [fF,List.set_append_right _ _ (by simp [I])] at hP;simp only [List.length_map,I,Nat.zero_add,Nat.sub_self,List.set_cons_zero] at hP;have am:∀ x∈[q],Y.h x≠none:=by
   intro x j;obtain rfl:x=q:=by simpa using j
   rw [h2.ext F];simp
  have an:∀ x∈ax O,x ∉ [q]:=fun x j hm=>am x hm (b.new x j);have ao:Ks dZ q t v (ins ex d):=⟨I,ae,O,hP,b.jh.2,b.jh.1,(b.tI.mut P.mut an).sl bn⟩;have ar:∀ x∈ins ex d,x.may=true:=by
   intro x j;rcases uH.1 j with rfl | j
   ·exact hd
   ·exact hm x j
  refine (HM ao hv ar (by rw [xU];omega)).mono ?_;rintro r a7 ⟨rfl,aw,a0⟩;refine ⟨rfl,by simp [G],C.mut.trans (P.mut.trans a0),(fun h=>absurd h (by simp [G])),fun _=>aw.back fun x j=>?_⟩;by_cases S:x=q
  ·subst S;rw [P.at];simp
  ·rw [P.eq x S];intro X;cases hq:s.h x with
   | none=>exact j hq
   | some o=>rw [C.1 _ _ hq] at X;cases X
 ·rintro m left n a8 ⟨i,a1,hi,h6,rfl,U,g,D⟩;simp only [List.cons.injEq,AV.int.injEq,true_and,and_true] at hi;obtain ⟨rfl,rfl⟩:=hi;have p:=F.trans g.eC.ext;refine ⟨w,c _ p,_,h4.cJ bI _,af.dec (fun hl=>?_) (fun a9=>?_)⟩
  ·obtain ⟨x,j⟩:=cT (l:=ex) (i:=i) (by omega);obtain ⟨la,o,h8,h9⟩:=(h4.ext p).ix (by decide) bn bI kq j;refine ⟨w,c _ p,la,o,h8 _,_,(h9 _ (Ext.refl _)).2,_,(H.own.ext (Z.trans g.eC.ext)).at.aC (by simp [aI]),?_⟩;refine aa.use (yK x d _) ?_;rintro r tN ⟨rfl,z⟩ B;refine ⟨_,rfl,af.mk (fun hb=>?_) (fun hb=>?_)⟩
   ·have ht:ex.take (i+1)=ex.take i++[x]:=by rw [List.take_add_one,j];rfl
    refine ⟨w,c _ (p.trans z),la,o,h8 _,_,(h9 _ z).2,aV.ji iR bn mW B (g.step z) (by simp) x (by rw [List.length_take];omega) fun v' s' g' a2 _=>?_⟩;refine ⟨ex.length - (i+1),by omega,i+1,v',by rw [aX (by omega)];rfl,by omega,rfl,a2,by rw [ht];exact g',fun k y hk A=>?_⟩;rcases Nat.lt_or_ge k i with h | h
    ·exact D k y h A
    ·obtain rfl:k=i:=by omega
     rw [j] at A;obtain rfl:=Option.some.inj A;exact hb
   ·have W:pos ex d=i:=pos_eq h6 D fun y A=>by rw [j] at A;obtain rfl:=Option.some.inj A;exact hb
    exact ⟨left,by rw [W],B,by rw [W];exact g.step z⟩
  ·have W:pos ex d=i:=pos_eq h6 D fun y A=>by rw [List.getElem?_eq_none (by omega)] at A;cases A
   exact ⟨left,by rw [W],U,by rw [W];exact g⟩
end Go.Proofs.YtohgmogbabkkeaaGreat
end

section
set_option maxRecDepth 100000
set_option maxHeartbeats 4000000
namespace Go.Proofs.YtohgmogbabkkeaaGreat
open Go.Am
def Mz  (s:AS) (R:AV->AS->Prop):Prop :=
 aa Tryz.prog Cm [] s fun e s2=>∃ c:Option (Nat×Nat),e=.ptr c/\(aj (.map [] 0 false) s2 fun i j=>aj (.map [] 0 false) j fun k s7=>nQ (aS T pB [(0,.ptr c),(1,(.map (some i))),(2,(.map (some k)))]) fun d=>cH d (aj (.cells d 0 false) s7 fun l b=>R (.ptr (some (l,0))) b))
def MB:QA:=(.seq .leaf (.seq .leaf .leaf))
theorem MC  (s:AS) (R:AV->AS->Prop) (h:Mz  s R):aa Tryz.prog wK [] s R :=
 aa.q (n:=6) (rs:=[.tmp 0]) (A:=MB) hT bY Tryz.func61 (by kernel_rfl) rfl rfl rfl (by kernel_rfl) (by kernel_rfl) h
def D8 (a0:Option (Nat×Nat)) (a1:List AV) (a2:List AV) (s:AS) (R:AV->AS->Prop):Prop :=
 cH a1 (aj (.cells a1 0 false) s fun l1 s2=>cH a2 (aj (.cells a2 0 false) s2 fun l3 s4=>aa Tryz.prog bZ [.ptr a0] s4 fun W s6=>∃ Q:Bool,W=.bool Q/\(af (!Q)
 (R (.aN [.slc none 0 0 true,.int .i64 1]) s6)
 (bG fun x =>
 (∀ U:Bool,∀ e:AS,x [.bool U] e ->
 af U
 (R (.aN [.slc none 0 0 true,.int .i64 2]) e)
 (aa Tryz.prog fN [.ptr a0,(.func mJ [(.ptr (some (l1,0)))])] e fun v11 dH=>gL fun S V=>aR (aC dH l3 0 2) fun y=>aR (aC dH l1 0 2) fun z=>nQ (aS T q7 [(0,.agg y),(1,.agg z)]) fun b=>(∀ c:AS,Ext dH c->aG c->(True)->aR (dw T aE 1 [(0,.agg b)]) fun A=>aj (.cells A 0 false) c fun l jl=>(Ext c jl/\S 3 [.agg b] (.slc (some (l,0)) 1 1 true) jl/\V 3 [.agg b] (.slc (some (l,0)) 1 1 true)))/\(∃ v,V 3 [.agg b] v)/\∀ v20:AV,V 3 [.agg b] v20->(∀ gG:AS,Ext dH gG->aG gG->(True)->aa Tryz.prog fG [v11] gG fun m uj=>(Ext gG uj/\S 5 [(.func fG []),v11] m uj/\V 5 [(.func fG []),v11] m))/\(∃ v,V 5 [(.func fG []),v11] v)/\∀ i:AV,V 5 [(.func fG []),v11] i->∀ dZ:AS,Ext dH dZ->aG dZ->(S 3 [.agg b] v20 dZ/\(S 5 [(.func fG []),v11] i dZ/\True))->iT (aL T aE aE v20 i dZ) fun n B=>aa Tryz.prog lA [.ptr a0,n] B fun C o=>∃ D:Bool,∃ j:Int,C=.aN [.bool D,.int .i64 j]/\(af ((j:Int) != 0)
 (R (.aN [.slc none 0 0 true,.int .i64 j]) o)
 (R (.aN [n,.int .i64 0]) o)))) /\
 (aR (aC s6 l1 0 2) fun F=>aa Tryz.prog jF [.agg F] s6 fun G k=>∃ p:Bool,G=.bool p/\(af (!p) (x [.bool true] k) (aR (aC k l3 0 2) fun H=>aa Tryz.prog nW [.agg H] k fun I d=>∃ r:Bool,I=.bool r/\(af (!r) (x [.bool true] d) (ai a0 fun J K=>pL (au d J K) fun L=>aR (aC d l3 0 2) fun M=>aa Tryz.prog kO [.ptr L,.agg M] d fun O tN=>∃ w:Bool,O=.bool w/\(x [.bool w] tN))))))))))
def D9:QA:=(.seq .leaf (.seq (.wrap (.seq .leaf (.cond (.seq .leaf .leaf) (.join [(16,.bool)] [(16,32)] .calm (.cond (.seq .leaf .leaf) .leaf))))) (.seq .leaf (.seq (.g_ 6 [[],[],[],[],[],[]] [3,5]) (.seq (.seq .leaf (.seq .leaf (.cond (.seq .leaf .leaf) .leaf))) (.seq .leaf .leaf))))))
theorem D_ (a0:Option (Nat×Nat)) (a1:List AV) (a2:List AV) (s:AS) (R:AV->AS->Prop) (h:D8 a0 a1 a2 s R):aa Tryz.prog di [.ptr a0,.agg a1,.agg a2] s R :=
 aa.q (n:=53) (rs:=[.tmp 6,.tmp 7]) (A:=D9) hT bY Tryz.func68 (by kernel_rfl) rfl rfl rfl (by kernel_rfl) (by kernel_rfl) h
def Ea (a0:Option (Nat×Nat)) (a1:AV) (s:AS) (R:AV->AS->Prop):Prop :=
 aa Tryz.prog bZ [.ptr a0] s fun v1 s2=>∃ Z:Bool,v1=.bool Z/\(af (!Z)
 (R (.aN [.bool false,.int .i64 1]) s2)
 (aa Tryz.prog dO [a1,(.func mL [])] s2 fun v4 s5=>∃ b6:Bool,v4=.bool b6/\(af b6
 (R (.aN [.bool false,.int .i64 2]) s5)
 (aa Tryz.prog nZ [.ptr a0] s5 fun v7 s8=>∃ l:Option (Nat×Nat),v7=.ptr l/\(bG fun m =>
 (∀ n:Bool,∀ dH:AS,m [.bool n] dH ->
 bG fun e =>
 (∀ o:Bool,∀ gh:AS,e [.bool o] gh ->
 af o
 (R (.aN [.bool false,.int .i64 5]) gh)
 (ai l fun pT y=>aR (aC gh pT y 3) fun p=>ai a0 fun Ac z=>fC (some 3) p (bu (cU gh Ac z p) fun gG=>R (.aN [.bool n,.int .i64 0]) gG))) /\
 (ai l fun A B=>yD (au dH A (B+1)) fun C=>aU .i64 (aQ T cj (.map C) dH) fun D=>af (decide ((D:Int)>1024)) (e [.bool true] dH) (ai l fun F G=>yD (au dH F (G+1)) fun H=>aU .i64 (aQ T cj (.map H) dH) fun I=>ai l fun J K=>yD (au dH J (K+2)) fun L=>aU .i64 (aQ T bQ (.map L) dH) fun M=>e [(.bool (decide ((IntKind.wrap .i64 (I+M):Int)>4096)))] dH))) /\
 (aU .i64 (aQ T aE a1 s8) fun O=>bA fun c Q=>c Q [.bool false,.int .i64 0] s8 /\
 ∀ i:Nat,∀ j:Bool,∀ b:Int,∀ d:AS,c i [.bool j,.int .i64 b] d ->
 af (decide ((b:Int)<O))
 (bJ (ag T aE a1 (.int .i64 b)) fun S U=>aR (aC d S U 5) fun r=>aj (.cells [.int .i64 0,.int .u64 0,.str [],.str [],.bool false] 0 false) d fun w W=>fC (some 5) r (bu (cU W w 0 r) fun tN=>aR (aC tN w 0 5) fun X=>aa Tryz.prog pQ [.ptr l,.agg X] tN fun Y zf=>∃ x:Bool,∃ k:Int,Y=.aN [.bool x,.int .i64 k]/\(af ((k:Int) != 0)
 (R (.aN [.bool false,.int .i64 k]) zf)
 (af j (∃ m',m'<i/\c m' [.bool true,(.int .i64 (IntKind.wrap .i64 (b+1)))] zf) (∃ m',m'<i/\c m' [.bool x,(.int .i64 (IntKind.wrap .i64 (b+1)))] zf)))))
 (m [.bool j] d)))))))
def Eb:QA:=(.seq .leaf (.seq (.seq .leaf (.cond (.seq .leaf .leaf) .leaf)) (.seq (.seq .leaf (.cond (.seq .leaf .leaf) .leaf)) (.seq .leaf (.seq .leaf (.join [(7,.bool)] [(4,5),(7,7),(9,11),(19,38)] (.seq .leaf (.wrap (.loop [(7,.bool),(21,.int .i64)] [(4,5),(7,7),(9,11),(21,38)] (.seq .leaf (.seq (.cond .leaf .leaf) (.seq (.wrap (.seq .leaf (.seq .leaf (.seq (.seq .leaf (.cond (.seq .leaf .leaf) .leaf)) .leaf)))) .leaf)))))) (.seq (.join [(58,.bool)] [(39,58)] (.draw 16) (.cond (.seq .leaf .leaf) .leaf)) (.seq .leaf (.seq .leaf .leaf)))))))))
theorem Ec (a0:Option (Nat×Nat)) (a1:AV) (s:AS) (R:AV->AS->Prop) (h:Ea a0 a1 s R):aa Tryz.prog lA [.ptr a0,a1] s R :=
 aa.q (n:=65) (rs:=[.tmp 4,.tmp 5]) (A:=Eb) hT bY Tryz.func109 (by kernel_rfl) rfl rfl rfl (by kernel_rfl) (by kernel_rfl) h
def zz (a0:Option (Nat×Nat)) (a1:List AV) (s:AS) (R:AV->AS->Prop):Prop :=
 cH a1 (aj (.cells a1 0 false) s fun l1 s2=>aa Tryz.prog bZ [.ptr a0] s2 fun l s4=>∃ j:Bool,l=.bool j/\(af (!j)
 (R (.aN [.slc none 0 0 true,.int .i64 1]) s4)
 (aR (aC s4 l1 0 2) fun m=>aa Tryz.prog jF [.agg m] s4 fun n s8=>∃ k:Bool,n=.bool k/\(af (!k)
 (R (.aN [.slc none 0 0 true,.int .i64 2]) s8)
 (aa Tryz.prog fN [.ptr a0,(.func jG [(.ptr (some (l1,0)))])] s8 fun v10 d=>aa Tryz.prog fG [v10] d fun b bW=>aa Tryz.prog lA [.ptr a0,b] bW fun e gh=>∃ i:Bool,∃ c:Int,e=.aN [.bool i,.int .i64 c]/\(R (.aN [b,.int .i64 c]) gh))))))
def zA:QA:=(.seq .leaf (.seq (.wrap (.seq .leaf (.cond (.seq .leaf .leaf) (.seq .leaf (.cond (.seq .leaf .leaf) .leaf))))) (.seq .leaf (.seq .leaf (.seq .leaf .leaf)))))
theorem zB (a0:Option (Nat×Nat)) (a1:List AV) (s:AS) (R:AV->AS->Prop) (h:zz a0 a1 s R):aa Tryz.prog lJ [.ptr a0,.agg a1] s R :=
 aa.q (n:=29) (rs:=[.tmp 4,.tmp 5]) (A:=zA) hT bY Tryz.func85 (by kernel_rfl) rfl rfl rfl (by kernel_rfl) (by kernel_rfl) h
def Ed (a0:Option (Nat×Nat)) (a1:List AV) (s:AS) (R:AV->AS->Prop):Prop :=
 cH a1 (aj (.cells a1 0 false) s fun l1 s2=>aa Tryz.prog bZ [.ptr a0] s2 fun c s4=>∃ b:Bool,c=.bool b/\(af b (aa Tryz.prog fN [.ptr a0,(.func mF [(.ptr (some (l1,0)))])] s4 fun d s7=>aU .i64 (aQ T az d s7) fun e=>R (.bool (decide ((e:Int)>0))) s7) (R (.bool false) s4)))
def Ee:QA:=(.seq .leaf (.seq .leaf .leaf))
theorem Ef (a0:Option (Nat×Nat)) (a1:List AV) (s:AS) (R:AV->AS->Prop) (h:Ed a0 a1 s R):aa Tryz.prog iM [.ptr a0,.agg a1] s R :=
 aa.q (n:=14) (rs:=[.tmp 4]) (A:=Ee) hT bY Tryz.func25 (by kernel_rfl) rfl rfl rfl (by kernel_rfl) (by kernel_rfl) h
def Eg (a0:Option (Nat×Nat)) (s:AS) (R:AV->AS->Prop):Prop :=
 aa Tryz.prog bZ [.ptr a0] s fun d s2=>∃ b:Bool,d=.bool b/\(af (!b)
 (R (.ptr none) s2)
 (ai a0 fun e i=>pL (au s2 e i) fun j=>aa Tryz.prog dF [.ptr j] s2 fun k s8=>∃ c:Option (Nat×Nat),k=.ptr c/\(R (.ptr c) s8)))
def Eh:QA:=(.seq .leaf (.seq (.seq .leaf (.cond (.seq .leaf .leaf) .leaf)) (.seq .leaf .leaf)))
theorem Ei (a0:Option (Nat×Nat)) (s:AS) (R:AV->AS->Prop) (h:Eg a0 s R):aa Tryz.prog lq [.ptr a0] s R :=
 aa.q (n:=11) (rs:=[.tmp 2]) (A:=Eh) hT bY Tryz.func36 (by kernel_rfl) rfl rfl rfl (by kernel_rfl) (by kernel_rfl) h
def Bn (a0:Option (Nat×Nat)) (s:AS) (R:AV->AS->Prop):Prop :=
 uC (je T 100 yI (.ptr a0) (.ptr none)) fun b=>af (!b) (ai a0 fun c d=>pL (au s c d) fun e=>uC (je T 100 pA (.ptr e) (.ptr none)) fun i=>R (.bool (!i)) s) (R (.bool false) s)
def Bo:QA:=(.seq .leaf (.seq .leaf .leaf))
theorem Bp (a0:Option (Nat×Nat)) (s:AS) (R:AV->AS->Prop) (h:Bn a0 s R):aa Tryz.prog bZ [.ptr a0] s R :=
 aa.q (n:=12) (rs:=[.tmp 2]) (A:=Bo) hT bY Tryz.func93 (by kernel_rfl) rfl rfl rfl (by kernel_rfl) (by kernel_rfl) h
def sQ (a0:AV) (a1:AV) (s:AS) (R:AV->AS->Prop):Prop :=
 aa Tryz.prog iX [a0] s fun b s2=>aa Tryz.prog fy [b,a1] s2 fun c s4=>c=.aN []/\(R b s4)
def sR:QA:=(.seq .leaf (.seq .leaf (.seq .leaf (.seq .leaf .leaf))))
theorem sS (a0:AV) (a1:AV) (s:AS) (R:AV->AS->Prop) (h:sQ a0 a1 s R):aa Tryz.prog eS [a0,a1] s R :=
 aa.q (n:=12) (rs:=[.tmp 4]) (A:=sR) hT bY Tryz.func124 (by kernel_rfl) rfl rfl rfl (by kernel_rfl) (by kernel_rfl) h
def CK (a0:Option (Nat×Nat)) (a1:List AV) (s:AS) (R:AV->AS->Prop):Prop :=
 cH a1 (aj (.cells a1 0 false) s fun l1 s2=>aj (.cells [.str [],.str []] 0 false) s2 fun l3 s4=>aa Tryz.prog bZ [.ptr a0] s4 fun w s6=>∃ o:Bool,w=.bool o/\(af (!o)
 (nQ (aS T ko []) fun p=>fC (some 2) p (bu (cU s6 l3 0 p) fun r=>aR (aC r l3 0 2) fun i=>R (.aN [.agg i,.bool false]) r))
 (ai a0 fun j k=>yD (au s6 j (k+1)) fun l=>aR (aC s6 l1 0 2) fun m=>∃ b:List AV,∃ c:Bool,bR T cj (.map l) (.agg m) true s6=some (.aN [.agg b,.bool c])/\(aj (.cells [.str [],.str []] 0 false) s6 fun d eT=>fC (some 2) b (bu (cU eT d 0 b) fun jl=>aR (aC jl d 0 2) fun e=>fC (some 2) e (bu (cU jl l3 0 e) fun gG=>aR (aC gG l3 0 2) fun n=>R (.aN [.agg n,.bool c]) gG))))))
def CL:QA:=(.seq .leaf (.seq (.seq .leaf (.cond (.seq .leaf .leaf) .leaf)) (.seq .calm (.seq .leaf .leaf))))
theorem CM (a0:Option (Nat×Nat)) (a1:List AV) (s:AS) (R:AV->AS->Prop) (h:CK a0 a1 s R):aa Tryz.prog og [.ptr a0,.agg a1] s R :=
 aa.q (n:=23) (rs:=[.cell 4 69,.tmp 5]) (A:=CL) hT bY Tryz.func257 (by kernel_rfl) rfl rfl rfl (by kernel_rfl) (by kernel_rfl) h
def CN (a0:Option (Nat×Nat)) (a1:List AV) (s:AS) (R:AV->AS->Prop):Prop :=
 cH a1 (aj (.cells a1 0 false) s fun l1 s2=>aR (aC s2 l1 0 2) fun n=>aa Tryz.prog og [.ptr a0,.agg n] s2 fun o p=>∃ d:List AV,∃ m:Bool,o=.aN [.agg d,.bool m]/\(aj (.cells [.str [],.str []] 0 false) p fun r w=>fC (some 2) d (bu (cU w r 0 d) fun e=>aa Tryz.prog bZ [.ptr a0] e fun v11 dH=>∃ b:Bool,v11=.bool b/\(af b (af (!m) (ai a0 fun ku i=>pL (au dH ku i) fun j=>aR (aC dH l1 0 2) fun k=>aa Tryz.prog kO [.ptr j,.agg k] dH fun l jl=>∃ c:Bool,l=.bool c/\(R (.bool c) jl)) (R (.bool false) dH)) (R (.bool false) dH)))))
def CO:QA:=(.seq .leaf (.seq .leaf (.seq .calm .leaf)))
theorem CP (a0:Option (Nat×Nat)) (a1:List AV) (s:AS) (R:AV->AS->Prop) (h:CN a0 a1 s R):aa Tryz.prog n_ [.ptr a0,.agg a1] s R :=
 aa.q (n:=27) (rs:=[.tmp 4]) (A:=CO) hT bY Tryz.func215 (by kernel_rfl) rfl rfl rfl (by kernel_rfl) (by kernel_rfl) h
def Gv (a0:List AV) (s:AS) (R:AV->AS->Prop):Prop :=
 cH a0 (aj (.cells a0 0 false) s fun l1 s2=>rG (au s2 l1 0) fun e=>aa Tryz.prog qm [.str e] s2 fun i c=>∃ d:Bool,i=.bool d/\(af d (rG (au c l1 1) fun j=>aa Tryz.prog qm [.str j] c fun k l=>∃ b:Bool,k=.bool b/\(R (.bool b) l)) (R (.bool false) c)))
def Gw:QA:=(.seq .leaf (.seq .leaf .leaf))
theorem Gx (a0:List AV) (s:AS) (R:AV->AS->Prop) (h:Gv a0 s R):aa Tryz.prog jF [.agg a0] s R :=
 aa.q (n:=11) (rs:=[.tmp 2]) (A:=Gw) hT bY Tryz.func150 (by kernel_rfl) rfl rfl rfl (by kernel_rfl) (by kernel_rfl) h
def CQ (a0:Option (Nat×Nat)) (a1:AV) (s:AS) (R:AV->AS->Prop):Prop :=
 ai a0 fun l1 o2=>yD (au s l1 (o2+1)) fun K=>aa Tryz.prog eN [.map K] s fun L M=>aa Tryz.prog eS [L,(.func iV [])] M fun J s7=>aU .i64 (aQ T az J s7) fun O=>bA fun m n=>m n [.slc none 0 0 true,.int .i64 0] s7 /\
 ∀ i:Nat,∀ c:AV,∀ b:Int,∀ d:AS,m i [c,.int .i64 b] d ->
 af (decide ((b:Int)<O))
 (bJ (ag T az J (.int .i64 b)) fun o p=>aR (aC d o p 2) fun k=>aj (.cells [.int .i64 0,.int .u64 0] 0 false) d fun e jl=>fC (some 2) k (bu (cU jl e 0 k) fun gy=>aR (aC gy e 0 2) fun r=>ai a0 fun w x=>yD (au gy w (x+1)) fun y=>aR (aC gy e 0 2) fun z=>nQ (bR T cj (.map y) (.agg z) false gy) fun A=>ez Tryz.prog a1 [.agg r,.agg A] gy fun B j=>∃ l:Bool,B=.bool l/\(af l
 (aR (aC j e 0 2) fun C=>aR (dw T az 1 [(0,.agg C)]) fun D=>aj (.cells D 0 false) j fun F G=>iT (aL T az az c (.slc (some (F,0)) 1 1 true) G) fun H I=>∃ m',m'<i/\m m' [H,(.int .i64 (IntKind.wrap .i64 (b+1)))] I)
 (∃ m',m'<i/\m m' [c,(.int .i64 (IntKind.wrap .i64 (b+1)))] j))))
 (R c d)
def CR:QA:=(.seq .leaf (.seq .leaf (.seq (.seq .leaf (.wrap (.loop [(5,.any),(15,.int .i64)] [(5,5),(7,7),(15,32)] (.seq .leaf (.seq (.cond .leaf .leaf) (.seq (.wrap (.seq .leaf (.seq (.draw 8) (.cond .leaf .leaf)))) .leaf)))))) (.seq .leaf .leaf))))
theorem CS (a0:Option (Nat×Nat)) (a1:AV) (s:AS) (R:AV->AS->Prop) (h:CQ a0 a1 s R):aa Tryz.prog fN [.ptr a0,a1] s R :=
 aa.q (n:=34) (rs:=[.tmp 4]) (A:=CR) hT bY Tryz.func94 (by kernel_rfl) rfl rfl rfl (by kernel_rfl) (by kernel_rfl) h
def Bq (a0:List AV) (a1:List AV) (c0:Option (Nat×Nat)) (s:AS) (R:AV->AS->Prop):Prop :=
 cH a0 (aj (.cells a0 0 false) s fun l1 s2=>cH a1 (aj (.cells a1 0 false) s2 fun l3 s4=>aR (aC s4 l3 0 2) fun b=>ai c0 fun c d=>aR (aC s4 c d 2) fun e=>uC (je T 100 ko (.agg b) (.agg e)) fun i=>R (.bool i) s4))
def Br:QA:=(.seq .leaf (.seq .leaf .leaf))
theorem Bs (a0:List AV) (a1:List AV) (c0:Option (Nat×Nat)) (s:AS) (R:AV->AS->Prop) (h:Bq a0 a1 c0 s R):aa Tryz.prog mJ [.agg a0,.agg a1,.ptr c0] s R :=
 aa.q (n:=9) (rs:=[.tmp 5]) (A:=Br) hT bY Tryz.func151 (by kernel_rfl) rfl rfl rfl (by kernel_rfl) (by kernel_rfl) h
def Ku (a0:AV) (s:AS) (R:AV->AS->Prop):Prop :=
 aU .i64 (aQ T az a0 s) fun p=>bA fun e r=>e r [.slc none 0 0 true,.int .i64 0] s /\
 ∀ o:Nat,∀ i:AV,∀ d:Int,∀ s7:AS,e o [i,.int .i64 d] s7 ->
 af (decide ((d:Int)<p))
 (bJ (ag T az a0 (.int .i64 d)) fun w x=>aR (aC s7 w x 2) fun b=>aj (.cells [.int .i64 0,.int .u64 0] 0 false) s7 fun c dH=>fC (some 2) b (bu (cU dH c 0 b) fun bW=>aR (aC bW c 0 2) fun j=>nQ (aS T q7 [(0,.agg j),(2,.bool true)]) fun k=>aR (dw T aE 1 [(0,.agg k)]) fun l=>aj (.cells l 0 false) bW fun m eT=>iT (aL T aE aE i (.slc (some (m,0)) 1 1 true) eT) fun n gy=>∃ m',m'<o/\e m' [n,(.int .i64 (IntKind.wrap .i64 (d+1)))] gy))
 (R i s7)
def Kv:QA:=(.seq .leaf (.seq .leaf (.seq (.seq .leaf (.wrap (.loop [(3,.any),(8,.int .i64)] [(3,3),(5,5),(8,17)] (.seq .leaf (.seq (.cond .leaf .leaf) (.seq (.wrap (.seq .leaf .leaf)) .leaf)))))) (.seq .leaf .leaf))))
theorem Kw (a0:AV) (s:AS) (R:AV->AS->Prop) (h:Ku a0 s R):aa Tryz.prog fG [a0] s R :=
 aa.q (n:=19) (rs:=[.tmp 2]) (A:=Kv) hT bY Tryz.func114 (by kernel_rfl) rfl rfl rfl (by kernel_rfl) (by kernel_rfl) h
def lQ (a0:AV) (a1:AV) (s:AS) (R:AV->AS->Prop):Prop :=
 aa Tryz.prog eE [a0,a1] s fun c s2=>∃ b:Int,c=.int .i64 b/\(R (.bool (decide ((b:Int)>=0))) s2)
def lR:QA:=(.seq .leaf (.seq .leaf .leaf))
theorem lS (a0:AV) (a1:AV) (s:AS) (R:AV->AS->Prop) (h:lQ a0 a1 s R):aa Tryz.prog dO [a0,a1] s R :=
 aa.q (n:=9) (rs:=[.tmp 4]) (A:=lR) hT bY Tryz.func121 (by kernel_rfl) rfl rfl rfl (by kernel_rfl) (by kernel_rfl) h
def Bt (a0:List AV) (s:AS) (R:AV->AS->Prop):Prop :=
 cH a0 (aj (.cells a0 0 false) s fun l1 s2=>aR (aC s2 l1 0 5) fun c=>aa Tryz.prog wP [.agg c] s2 fun d e=>∃ b:Bool,d=.bool b/\(R (.bool (!b)) e))
def Bu:QA:=(.seq .leaf (.seq .leaf .leaf))
theorem Bv (a0:List AV) (s:AS) (R:AV->AS->Prop) (h:Bt a0 s R):aa Tryz.prog mL [.agg a0] s R :=
 aa.q (n:=6) (rs:=[.tmp 2]) (A:=Bu) hT bY Tryz.func172 (by kernel_rfl) rfl rfl rfl (by kernel_rfl) (by kernel_rfl) h
def MD (a0:List AV) (s:AS) (R:AV->AS->Prop):Prop :=
 cH a0 (aj (.cells a0 0 false) s fun l1 s2=>NM (au s2 l1 4) fun l=>af l
 (aR (aC s2 l1 0 2) fun m=>aa Tryz.prog nW [.agg m] s2 fun n s6=>∃ k:Bool,n=.bool k/\(af k (aR (aC s6 l1 2 2) fun o=>nQ (aS T ko []) fun p=>uC (je T 100 ko (.agg o) (.agg p)) fun d=>R (.bool d) s6) (R (.bool false) s6)))
 (aR (aC s2 l1 0 2) fun e=>aa Tryz.prog nW [.agg e] s2 fun i bW=>∃ b:Bool,i=.bool b/\(af b (aR (aC bW l1 2 2) fun j=>aa Tryz.prog jF [.agg j] bW fun oC kT=>∃ c:Bool,oC=.bool c/\(R (.bool c) kT)) (R (.bool false) bW))))
def ME:QA:=(.seq .leaf (.seq (.seq .leaf (.cond (.seq .leaf .leaf) .leaf)) (.seq .leaf .leaf)))
theorem MF (a0:List AV) (s:AS) (R:AV->AS->Prop) (h:MD a0 s R):aa Tryz.prog wP [.agg a0] s R :=
 aa.q (n:=22) (rs:=[.tmp 2]) (A:=ME) hT bY Tryz.func173 (by kernel_rfl) rfl rfl rfl (by kernel_rfl) (by kernel_rfl) h
def CT (a0:Option (Nat×Nat)) (s:AS) (R:AV->AS->Prop):Prop :=
 aa Tryz.prog bZ [.ptr a0] s fun F s2=>∃ C:Bool,F=.bool C/\(af (!C)
 (R (.ptr none) s2)
 (gL fun S V=>ai a0 fun G H=>pL (au s2 G H) fun e=>(∀ s7:AS,Ext s2 s7->aG s7->(True)->aa Tryz.prog dF [.ptr e] s7 fun I D=>∃ i:Option (Nat×Nat),I=.ptr i/\((Ext s7 D/\S 4 [(.func dF []),.ptr e] (.ptr i) D/\V 4 [(.func dF []),.ptr e] (.ptr i))))/\(∃ v,V 4 [(.func dF []),.ptr e] v)/\∀ v11:AV,V 4 [(.func dF []),.ptr e] v11->∃ d:Option (Nat×Nat),v11=.ptr d/\(ai a0 fun n o=>yD (au s2 n (o+1)) fun b=>(∀ c:AS,Ext s2 c->aG c->(S 4 [(.func dF []),.ptr e] (.ptr d) c/\True)->aa Tryz.prog bB [.map b] c fun p eT=>∃ j:Option Nat,p=.map j/\((Ext c eT/\S 9 [(.func bB []),.map b] (.map j) eT/\V 9 [(.func bB []),.map b] (.map j))))/\(∃ v,V 9 [(.func bB []),.map b] v)/\∀ v20:AV,V 9 [(.func bB []),.map b] v20->∃ k:Option Nat,v20=.map k/\(ai a0 fun r w=>yD (au s2 r (w+2)) fun x=>∀ dZ:AS,Ext s2 dZ->aG dZ->(S 4 [(.func dF []),.ptr e] (.ptr d) dZ/\(S 9 [(.func bB []),.map b] (.map k) dZ/\True))->aa Tryz.prog cO [.map x] dZ fun y z=>∃ l:Option Nat,y=.map l/\(nQ (aS T pB [(0,.ptr d),(1,.map k),(2,.map l)]) fun m=>cH m (aj (.cells m 0 false) z fun A B=>R (.ptr (some (A,0))) B))))))
def CU:QA:=(.seq .leaf (.seq (.seq .leaf (.cond (.seq .leaf .leaf) .leaf)) (.seq (.g_ 14 [[],[],[],[],[],[],[],[],[],[4],[],[],[],[]] [4,9]) .leaf)))
theorem CV (a0:Option (Nat×Nat)) (s:AS) (R:AV->AS->Prop) (h:CT a0 s R):aa Tryz.prog nZ [.ptr a0] s R :=
 aa.q (n:=23) (rs:=[.tmp 2]) (A:=CU) hT bY Tryz.func174 (by kernel_rfl) rfl rfl rfl (by kernel_rfl) (by kernel_rfl) h
def Ej (a0:Option (Nat×Nat)) (a1:List AV) (s:AS) (R:AV->AS->Prop):Prop :=
 cH a1 (aj (.cells a1 0 false) s fun l1 s2=>ai a0 fun l3 o4=>yD (au s2 l3 (o4+1)) fun r5=>aR (aC s2 l1 0 2) fun g6=>∃ m:List AV,∃ Z:Bool,bR T cj (.map r5) (.agg g6) true s2=some (.aN [.agg m,.bool Z])/\(aj (.cells [.str [],.str []] 0 false) s2 fun l9 n=>fC (some 2) m (bu (cU n l9 0 m) fun c=>bG fun d =>
 (∀ j:Bool,∀ b:AS,d [.bool j] b ->
 af j
 (ai a0 fun o p=>yD (au b o (p+1)) fun r=>aR (aC b l1 0 2) fun w=>bu (qi T cj (.map r) (.agg w) b) fun jl=>ai a0 fun x y=>yD (au jl x (y+2)) fun z=>aR (aC jl l1 0 2) fun A=>nQ (aS T eu [(0,.bool true)]) fun B=>bu (bK T bQ (.map z) (.agg A) (.agg B) jl) fun dZ=>R (.aN [.bool true,.int .i64 0]) dZ)
 (ai a0 fun C D=>pL (au b C D) fun F=>aR (aC b l1 0 2) fun G=>aa Tryz.prog sE [.ptr F,.agg G] b fun v30 nK=>∃ k:Bool,∃ e:Int,v30=.aN [.bool k,.int .i64 e]/\(bG fun i =>
 (∀ l:Bool,∀ oR:AS,i [.bool l] oR ->
 af l
 (R (.aN [.bool false,.int .i64 e]) oR)
 (NM (au oR l1 4) fun H=>af H
 (ai a0 fun I J=>yD (au oR I (J+2)) fun K=>aR (aC oR l1 0 2) fun L=>nQ (aS T eu [(0,.bool true)]) fun M=>bu (bK T bQ (.map K) (.agg L) (.agg M) oR) fun O=>R (.aN [.bool true,.int .i64 0]) O)
 (ai a0 fun Q S=>yD (au oR Q (S+1)) fun U=>aR (aC oR l1 0 2) fun W=>aR (aC oR l1 2 2) fun X=>bu (bK T cj (.map U) (.agg W) (.agg X) oR) fun zf=>R (.aN [.bool true,.int .i64 0]) zf))) /\
 (af ((e:Int) != 0) (i [.bool true] nK) (i [(.bool (!k))] nK))))) /\
 (af Z (NM (au c l1 4) fun Y=>d [.bool Y] c) (d [.bool false] c)))))
def Ek:QA:=(.seq .leaf (.seq .calm (.seq (.join [(24,.bool)] [(20,24)] .leaf (.cond (.seq (.draw 6) (.seq (.draw 7) (.seq .leaf .leaf))) .leaf)) (.seq .calm (.seq (.wrap (.join [(56,.bool)] [(56,62)] .leaf (.cond (.seq .leaf .leaf) (.seq .leaf (.cond (.draw 7) (.draw 8)))))) (.seq .leaf .leaf))))))
theorem Em (a0:Option (Nat×Nat)) (a1:List AV) (s:AS) (R:AV->AS->Prop) (h:Ej a0 a1 s R):aa Tryz.prog pQ [.ptr a0,.agg a1] s R :=
 aa.q (n:=74) (rs:=[.tmp 4,.tmp 5]) (A:=Ek) hT bY Tryz.func175 (by kernel_rfl) rfl rfl rfl (by kernel_rfl) (by kernel_rfl) h
def xq (a0:List AV) (a1:List AV) (c0:Option (Nat×Nat)) (s:AS) (R:AV->AS->Prop):Prop :=
 cH a0 (aj (.cells a0 0 false) s fun l1 s2=>cH a1 (aj (.cells a1 0 false) s2 fun l3 s4=>aR (aC s4 l3 0 2) fun b=>ai c0 fun c d=>aR (aC s4 c d 2) fun e=>uC (je T 100 ko (.agg b) (.agg e)) fun i=>R (.bool i) s4))
def xu:QA:=(.seq .leaf (.seq .leaf .leaf))
theorem xw (a0:List AV) (a1:List AV) (c0:Option (Nat×Nat)) (s:AS) (R:AV->AS->Prop) (h:xq a0 a1 c0 s R):aa Tryz.prog jG [.agg a0,.agg a1,.ptr c0] s R :=
 aa.q (n:=9) (rs:=[.tmp 5]) (A:=xu) hT bY Tryz.func162 (by kernel_rfl) rfl rfl rfl (by kernel_rfl) (by kernel_rfl) h
def Bw (a0:List AV) (a1:List AV) (c0:Option (Nat×Nat)) (s:AS) (R:AV->AS->Prop):Prop :=
 cH a0 (aj (.cells a0 0 false) s fun l1 s2=>cH a1 (aj (.cells a1 0 false) s2 fun l3 s4=>aR (aC s4 l3 0 2) fun b=>ai c0 fun c d=>aR (aC s4 c d 2) fun e=>uC (je T 100 ko (.agg b) (.agg e)) fun i=>R (.bool i) s4))
def Bx:QA:=(.seq .leaf (.seq .leaf .leaf))
theorem By (a0:List AV) (a1:List AV) (c0:Option (Nat×Nat)) (s:AS) (R:AV->AS->Prop) (h:Bw a0 a1 c0 s R):aa Tryz.prog mF [.agg a0,.agg a1,.ptr c0] s R :=
 aa.q (n:=9) (rs:=[.tmp 5]) (A:=Bx) hT bY Tryz.func95 (by kernel_rfl) rfl rfl rfl (by kernel_rfl) (by kernel_rfl) h
def nu (a0:AV) (a1:AV) (s:AS) (R:AV->AS->Prop):Prop :=
 aU .i64 (aQ T aE a0 s) fun j=>bA fun e k=>e k [.int .i64 0] s /\
 ∀ i:Nat,∀ b:Int,∀ s6:AS,e i [.int .i64 b] s6 ->
 af (decide ((b:Int)<j))
 (bJ (ag T aE a0 (.int .i64 b)) fun l m=>aR (aC s6 l m 5) fun n=>ez Tryz.prog a1 [.agg n] s6 fun v10 c=>∃ d:Bool,v10=.bool d/\(af d
 (R (.int .i64 b) c)
 (∃ m',m'<i/\e m' [(.int .i64 (IntKind.wrap .i64 (b+1)))] c)))
 (R (.int .i64 (-1)) s6)
def nv:QA:=(.seq .leaf (.seq (.seq .leaf (.wrap (.loop [(8,.int .i64)] [(4,5),(8,18)] (.seq .leaf (.seq (.cond .leaf .leaf) (.seq (.wrap (.seq .leaf (.seq .leaf (.cond (.seq .leaf .leaf) .leaf)))) .leaf)))))) (.seq .leaf .leaf)))
theorem ny (a0:AV) (a1:AV) (s:AS) (R:AV->AS->Prop) (h:nu a0 a1 s R):aa Tryz.prog eE [a0,a1] s R :=
 aa.q (n:=19) (rs:=[.tmp 4]) (A:=nv) hT bY Tryz.func189 (by kernel_rfl) rfl rfl rfl (by kernel_rfl) (by kernel_rfl) h
def vT (a0:AV) (s:AS) (R:AV->AS->Prop):Prop :=
 aa Tryz.prog pg [.slc none 0 0 true,a0] s fun b s2=>R b s2
def vU:QA:=(.seq .leaf (.seq .leaf .leaf))
theorem vV (a0:AV) (s:AS) (R:AV->AS->Prop) (h:vT a0 s R):aa Tryz.prog iX [a0] s R :=
 aa.q (n:=5) (rs:=[.tmp 2]) (A:=vU) hT bY Tryz.func191 (by kernel_rfl) rfl rfl rfl (by kernel_rfl) (by kernel_rfl) h
def Kx (a0:List UInt8) (s:AS) (R:AV->AS->Prop):Prop :=
 aU .i64 (aQ T bX (.str a0) s) fun b=>af (decide ((b:Int)>=1)) (aU .i64 (aQ T bX (.str a0) s) fun n2=>R (.bool (decide ((n2:Int)<=32))) s) (R (.bool false) s)
def Ky:QA:=(.seq .leaf (.seq .leaf .leaf))
theorem Kz (a0:List UInt8) (s:AS) (R:AV->AS->Prop) (h:Kx a0 s R):aa Tryz.prog qm [.str a0] s R :=
 aa.q (n:=11) (rs:=[.tmp 2]) (A:=Ky) hT bY Tryz.func207 (by kernel_rfl) rfl rfl rfl (by kernel_rfl) (by kernel_rfl) h
def oG (a0:Option Nat) (s:AS) (R:AV->AS->Prop):Prop :=
 aj (.cells [.map a0] 0 false) s fun l1 s2=>R (.func gq [(.ptr (some (l1,0)))]) s2
def oH:QA:=(.seq .leaf (.seq .leaf .leaf))
theorem oI (a0:Option Nat) (s:AS) (R:AV->AS->Prop) (h:oG a0 s R):aa Tryz.prog eN [.map a0] s R :=
 aa.q (n:=4) (rs:=[.tmp 2]) (A:=oH) hT bY Tryz.func168 (by kernel_rfl) rfl rfl rfl (by kernel_rfl) (by kernel_rfl) h
def HN (a0:List AV) (a1:List AV) (s:AS) (R:AV->AS->Prop):Prop :=
 cH a0 (aj (.cells a0 0 false) s fun l1 s2=>cH a1 (aj (.cells a1 0 false) s2 fun l3 s4=>gL fun S V=>aU .i64 (au s4 l1 0) fun d=>aU .i64 (au s4 l3 0) fun e=>(∀ s7:AS,Ext s4 s7->aG s7->(True)->aa Tryz.prog aP [.int .i64 d,.int .i64 e] s7 fun x w=>∃ b:Int,x=.int .i64 b/\((Ext s7 w/\S 4 [(.func aP []),.int .i64 d,.int .i64 e] (.int .i64 b) w/\V 4 [(.func aP []),.int .i64 d,.int .i64 e] (.int .i64 b))))/\(∃ v,V 4 [(.func aP []),.int .i64 d,.int .i64 e] v)/\∀ v11:AV,V 4 [(.func aP []),.int .i64 d,.int .i64 e] v11->∃ c:Int,v11=.int .i64 c/\(aU .u64 (au s4 l1 1) fun k=>aU .u64 (au s4 l3 1) fun l=>∀ gh:AS,Ext s4 gh->aG gh->(S 4 [(.func aP []),.int .i64 d,.int .i64 e] (.int .i64 c) gh/\True)->aa Tryz.prog eK [.int .u64 k,.int .u64 l] gh fun m eT=>∃ i:Int,m=.int .i64 i/\(aR (dw T gS 2 [(0,.int .i64 c),(1,.int .i64 i)]) fun n=>aj (.cells n 0 false) eT fun o fT=>aa Tryz.prog kP [(.slc (some (o,0)) 2 2 true)] fT fun p r=>∃ j:Int,p=.int .i64 j/\(R (.int .i64 j) r)))))
def HO:QA:=(.seq .leaf (.seq (.g_ 9 [[],[],[],[],[],[],[],[],[]] [4]) .leaf))
theorem HP (a0:List AV) (a1:List AV) (s:AS) (R:AV->AS->Prop) (h:HN a0 a1 s R):aa Tryz.prog iV [.agg a0,.agg a1] s R :=
 aa.q (n:=17) (rs:=[.tmp 4]) (A:=HO) hT bY Tryz.func117 (by kernel_rfl) rfl rfl rfl (by kernel_rfl) (by kernel_rfl) h
def KA (a0:List UInt8) (s:AS) (R:AV->AS->Prop):Prop :=
 aU .i64 (aQ T bX (.str a0) s) fun b=>af (decide ((b:Int)>=1)) (aU .i64 (aQ T bX (.str a0) s) fun n2=>R (.bool (decide ((n2:Int)<=32))) s) (R (.bool false) s)
def KB:QA:=(.seq .leaf (.seq .leaf .leaf))
theorem KC (a0:List UInt8) (s:AS) (R:AV->AS->Prop) (h:KA a0 s R):aa Tryz.prog qk [.str a0] s R :=
 aa.q (n:=11) (rs:=[.tmp 2]) (A:=KB) hT bY Tryz.func27 (by kernel_rfl) rfl rfl rfl (by kernel_rfl) (by kernel_rfl) h
end Go.Proofs.YtohgmogbabkkeaaGreat
end

section
namespace Go.Proofs.YtohgmogbabkkeaaGreat
open Go.Am Go.aB
def eZ (k:Key):List AV:=[.str k.t,.str k.d]
def bw (i:eJ):List AV:=[.int .i64 i.dot.r,.int .u64 i.dot.c,.str i.key.t,.str i.key.d,.bool i.gone]
theorem aW (i:eJ):(bw i).length=5:=rfl
theorem j8 (i:eJ):(bw i).all AV.one=true:=rfl
end Go.Proofs.YtohgmogbabkkeaaGreat
end

section
namespace Go.Proofs.YtohgmogbabkkeaaGreat.SI
end Go.Proofs.YtohgmogbabkkeaaGreat.SI
end

section
namespace Go.Proofs.YtohgmogbabkkeaaGreat
open Go.Am Go.av Go.aB
theorem Gy (a b:aJ) (s:AS):aa Tryz.prog iV [.agg (aI a),.agg (aI b)] s fun v s'=>v=.int .i64 (a.cmp b)/\Ext s s':=by
 refine aa.pre fun n=>HP _ _ _ _ ⟨rfl,aj.intro n rfl fun l s1 F=>⟨rfl,aj.intro F.wf rfl fun o s2 i=>?_⟩⟩;have e:=F.ext.trans i.ext;refine ⟨fun _ _ _ _=>True,fun _ _ v=>v=.int .i64 (tF a.r b.r),fun _ _ _ _ _ _ _=>trivial,?_⟩;simp only [(F.own.ext i.ext).at.au,i.own.at.au,aI,List.getElem?_cons_zero,List.getElem?_cons_succ,go_sem];refine ⟨fun s7 _ _ _=>?_,⟨_,rfl⟩,?_⟩
 ·refine (kI _ _ _).mono ?_;rintro v s' ⟨rfl,rfl⟩;exact ⟨_,rfl,Ext.refl _,trivial,rfl⟩
 ·rintro v rfl;refine ⟨_,rfl,fun gh j _ _=>?_⟩;refine aa.use (iJ _ _ _) ?_;rintro v s' ⟨rfl,rfl⟩ k;refine ⟨_,rfl,?_⟩;have d:dw T gS 2 [(0,.int .i64 (tF a.r b.r)),(1,.int .i64 (tF a.c b.c))]=some [.int .i64 (tF a.r b.r),.int .i64 (tF a.c b.c)]:=by
   simp only [dw,r8,It,FR,Option.bind_some,uA];rfl
  rw [d];simp only [go_sem];refine aj.intro k rfl fun l3 s3 m=>?_;refine (pU _ _ m.own.at).mono ?_;rintro v s' ⟨rfl,rfl⟩;refine ⟨_,rfl,?_,e.trans (j.trans m.ext)⟩;simp only [aJ.cmp]
instance:ry iV:=⟨Gy⟩
def aK (t:List UInt8):Bool:=decide (1<=t.length/\t.length<=32)
theorem kZ (t:List UInt8) (s:AS):aQ T bX (.str t) s=some (.int .i64 (t.length:Nat)):=by simp [aQ,mS]
theorem PI (t:List UInt8) (s:AS):aa Tryz.prog qm [.str t] s fun v s'=>v=.bool (aK t)/\s'=s:=by
 refine Kz _ _ _ ⟨_,kZ t s,af.dec (fun h=>⟨_,kZ t s,?_,rfl⟩) (fun h=>⟨?_,rfl⟩)⟩
 ·congr 1;rw [aK,decide_eq_decide];omega
 ·congr 1;symm;rw [aK,decide_eq_false_iff_not];omega
def _root_.Go.aB.Key.may (k:Key):Bool:=aK k.t&&aK k.d
def _root_.Go.aB.eJ.may (i:eJ):Bool:=i.dot.may&&(if i.gone then decide (i.key=⟨[],[]⟩) else i.key.may)
theorem CW (k:Key) (s:AS):aa Tryz.prog jF [.agg (eZ k)] s fun v s'=>v=.bool k.may/\Ext s s':=by
 refine aa.pre fun b=>Gx _ _ _ ⟨rfl,aj.intro b rfl fun l s1 F=>⟨k.t,by rw [F.own.at.au];rfl,?_⟩⟩;refine aa.use (PI _ _) ?_;rintro v s2 ⟨rfl,rfl⟩ _;refine ⟨_,rfl,af.mk (fun h=>⟨k.d,by rw [F.own.at.au];rfl,?_⟩) (fun h=>⟨by rw [Key.may,h];rfl,F.ext⟩)⟩;refine aa.use (PI _ _) ?_;rintro v s3 ⟨rfl,rfl⟩ _;exact ⟨_,rfl,by rw [Key.may,h];rfl,F.ext⟩
theorem Uz:triples (T.cR ko)=some [(false,bX,0),(false,bX,1)]:=by kernel_rfl
theorem Wa:T.T6 ko=true:=by kernel_rfl
theorem Gz (a b:Key):je T 100 ko (.agg (eZ a)) (.agg (eZ b))=some (decide (a=b)):=by
 rw [Pw Uz Wa];simp only [FH,cond_false,Cg QD,eZ,List.getElem?_cons_zero,List.getElem?_cons_succ,Option.bind_some,JE mS];cases a;cases b;simp only [Key.mk.injEq];rename_i r c d c';by_cases e:r=d <;> by_cases h2:c=c' <;> simp [e,h2]
theorem OK:aS T ko []=some (.agg (eZ ⟨[],[]⟩)):=by kernel_rfl
theorem Wb (i:eJ) (s:AS):aa Tryz.prog wP [.agg (bw i)] s fun v s'=>v=.bool i.may/\Ext s s':=by
 refine aa.pre fun c=>MF _ _ _ ⟨rfl,aj.intro c rfl fun l s1 F=>⟨i.gone,by rw [F.own.at.au];rfl,?_⟩⟩;have gd:∀ s',Ext s1 s'->aC s' l 0 2=some (aI i.dot):=fun s' e=>(F.own.ext e).at.aC (by simp [bw]);have b:∀ s',Ext s1 s'->aC s' l 2 2=some (eZ i.key):=fun s' e=>(F.own.ext e).at.aC (by simp [bw]);refine af.mk (fun h=>?_) (fun h=>?_)
 ·refine ⟨_,gd _ (Ext.refl _),?_⟩;refine aa.use (ru _ _) ?_;rintro v s2 ⟨rfl,e2⟩ _;refine ⟨_,rfl,af.mk (fun h2=>⟨_,b _ e2,_,OK,_,Gz _ _,?_,F.ext.trans e2⟩) (fun h2=>⟨by simp [eJ.may,h2],F.ext.trans e2⟩)⟩;simp [eJ.may,h,h2]
 ·refine ⟨_,gd _ (Ext.refl _),?_⟩;refine aa.use (ru _ _) ?_;rintro v s2 ⟨rfl,e2⟩ _;refine ⟨_,rfl,af.mk (fun h2=>⟨_,b _ e2,?_⟩) (fun h2=>⟨by simp [eJ.may,h2],F.ext.trans e2⟩)⟩;refine aa.use (CW _ _) ?_;rintro v s3 ⟨rfl,d⟩ _;exact ⟨_,rfl,by simp [eJ.may,h,h2],F.ext.trans (e2.trans d)⟩
end Go.Proofs.YtohgmogbabkkeaaGreat
end

section
namespace Go.Proofs.YtohgmogbabkkeaaGreat
open Go.Am Go.av
/-! ### maps of dots -/
abbrev dK (d:aJ):AV:=.agg (aI d)
abbrev bV (b:Bool):AV:=.agg [.bool b]
theorem zC:∀ r c:Int,nN T 100 gV (.agg [.int .i64 r,.int .u64 c])=true:=by
 intro r c;kernel_rfl
theorem MG:aS T eu [(0,.bool true)]=some (.agg [.bool true]):=by kernel_rfl
/-! ### views -/
structure Vw where
 v:List Int
 ex:List aJ
 live:aJ->Bool
structure En (F:List Nat) (s:AS) (p:Nat) (v:List Int) (ex:List aJ):Prop where
 len:v.length=16
 Yf:p∈F
 mem:∃ w,Am.Own s p (v.map (.int .u64)++[w,.bool true])/\w.one=true/\bq aI 2 s w ex/\∀ la∈ax w,la∈F
theorem En.at {F:List Nat} {s:AS} {p:Nat} {v:List Int} {ex:List aJ} (h:En F s p v ex):w_ s p v ex:=by
 obtain ⟨b,_,w,h2,h3,h4,c⟩:=h;exact ⟨b,w,h2,h3,h4.sl bn⟩
theorem En.mut {F:List Nat} {s s':AS} {L:List Nat} {p:Nat} {v:List Int} {ex:List aJ} (h:En F s p v ex) (m:bz L s s') (c:∀ x∈L,x ∉ F):En F s' p v ex:=by
 obtain ⟨i,d,w,h2,h3,h4,e⟩:=h;exact ⟨i,d,w,h2.mut m (fun b=>c p b d),h3,h4.mut m fun x b hm=>c x hm (e x b),e⟩
theorem En.sub {F F':List Nat} {s:AS} {p:Nat} {v:List Int} {ex:List aJ} (h:En F s p v ex) (b:∀ x∈F,x∈F'):En F' s p v ex:=by
 obtain ⟨c,d,w,h2,h3,h4,e⟩:=h;exact ⟨c,b _ d,w,h2,h3,h4,fun x i=>b x (e x i)⟩
theorem u5.X6 {s0 s:AS} {p:Nat} {v:List Int} {ex:List aJ} (h:u5 s0 s p v ex) (c:s0.h p=none):∃ F,En F s p v ex/\(∀ x∈F,s0.h x=none)/\∀ x∈F,s.h x≠none:=by
 obtain ⟨d,w,h2,h3,h4,e⟩:=h;refine ⟨p::ax w,⟨d,by simp,w,h2,h3,h4,fun x b=>by simp [b]⟩,fun x b=>?_,fun x b=>?_⟩
 ·rcases List.mem_cons.1 b with rfl | b
  ·exact c
  ·exact e x b
 ·rcases List.mem_cons.1 b with rfl | b
  ·rw [h2];simp
  ·rcases h4 with ⟨_,a,rfl⟩ | ⟨la,rfl,i⟩
   ·simp [ax] at b
   ·obtain rfl:x=la:=by simpa [ax] using b
    rw [i];simp
theorem u5.XM {s0 s:AS} {p:Nat} {v:List Int} {ex:List aJ} (h:u5 s0 s p v ex):∃ F,En F s p v ex/\(∀ x∈F,x=p\/s0.h x=none)/\∀ x∈F,s.h x≠none:=by
 obtain ⟨c,w,h2,h3,h4,d⟩:=h;refine ⟨p::ax w,⟨c,by simp,w,h2,h3,h4,fun x b=>by simp [b]⟩,fun x b=>?_,fun x b=>?_⟩
 ·rcases List.mem_cons.1 b with rfl | b
  ·exact .inl rfl
  ·exact .inr (d x b)
 ·rcases List.mem_cons.1 b with rfl | b
  ·rw [h2];simp
  ·rcases h4 with ⟨_,a,rfl⟩ | ⟨la,rfl,e⟩
   ·simp [ax] at b
   ·obtain rfl:x=la:=by simpa [ax] using b
    rw [e];simp
/-! ### matrices -/
section
variable {F:List Nat} {s s':AS} {p m:Nat} {n o:Int} {told:Int->Option Vw} {has:List Int}
def WJ (x:Option Vw):Nat:=match x with | some x=>x.ex.length | none=>0
end
end Go.Proofs.YtohgmogbabkkeaaGreat
end

section
namespace Go.Proofs.YtohgmogbabkkeaaGreat
open Go.Am Go.av Go.aB
/-! ### maps of dots -/
abbrev kV (k:Key):AV:=.agg (eZ k)
theorem MH:LG (K:=aJ) T bQ gV eu dK (bV false) :=
 ⟨kr,fun a b=>Gb a b,fun a=>zC a.r a.c,fun a=>by simp [tj,Ae,aI],wX⟩
theorem va:LG (K:=aJ) T cj gV ko dK (kV ⟨[],[]⟩) :=
 ⟨wW,fun a b=>Gb a b,fun a=>zC a.r a.c,fun a=>by simp [tj,Ae,aI],VY⟩
theorem SW:Qy T gV 2:=⟨VX,kq,_,_,N6,rfl,rfl⟩
theorem QZ:X5 T az:=⟨Sx,AJ⟩
theorem _root_.Go.Am.aV.map {α b:Type} {f:α->List AV} {g:b->List AV} {h:α->b} (c:∀ x,g (h x)=f x) {sz:Nat} {M:List Nat} {s0 s:AS} {v:AV} {l:List α} (G:aV f sz M s0 s v l):aV g sz M s0 s v (l.map h):=by
 refine ⟨?_,G.eC,G.new⟩;have e:(l.map h).flatMap g=l.flatMap f:=by
  rw [List.flatMap_map];congr 1;funext x;exact c x
 rcases G.tI with ⟨rfl,a,rfl⟩ | ⟨la,rfl,d⟩
 ·exact .inl ⟨rfl,a,rfl⟩
 ·exact .inr ⟨la,by rw [List.length_map],by rw [e];exact d⟩
section
variable {V:Type} {vf:V->AV} {m:Nat} {es:List (aJ×V×Nat)} {c:Nat} {ro:Bool} {s:AS}
theorem KE {d:FuncId} {lb:Nat} (i:gj Tryz.prog d=true) (j:es.length<=2 ^ 30) (hm:dM dK vf s m es c ro)
  (b:∀ s1,Ext s s1->aG s1->LO Tryz.prog dK vf m es c ro (fun e=>aI e.1) d [.ptr (some (lb,0))] s1) :
  aa Tryz.prog iX [.func d [.ptr (some (lb,0))]] s fun v s'=>∃ done:List (aJ×V×Nat),(∀ e∈es,e∈done)/\(∀ e∈done,e∈es)/\done.Nodup/\aV aI 2 [] s s' v (done.map fun e=>e.1):=by
 refine vV _ _ _ ?_;refine (DJ hT Tryz.func246 (by kernel_rfl) (ts:=az) (te:=gV) (tq:=DM) (by kernel_rfl) (by kernel_rfl) (by kernel_rfl) QZ iR SW (el:=fun e=>aI e.1) (fun e=>rfl) (fun e=>rfl) i j hm b).mono ?_;rintro v s' ⟨done,k,h2,h3,g⟩;exact ⟨done,k,h2,h3,aV.map (h:=fun e:aJ×V×Nat=>e.1) (fun x=>rfl) g⟩
theorem MI {A:FuncId} {lb:Nat} (B:gj Tryz.prog A=true) (O:es.length<65536) (hm:dM dK vf s m es c ro)
  (p:∀ s1,Ext s s1->aG s1->LO Tryz.prog dK vf m es c ro (fun e=>aI e.1) A [.ptr (some (lb,0))] s1) :
  aa Tryz.prog eS [.func A [.ptr (some (lb,0))],.func iV []] s fun v s'=>∃ l:List aJ,ef l/\(∀ d,d∈l↔∃ e∈es,e.1=d)/\l.length=es.length/\Og s s' v l:=by
 refine sS _ _ _ _ ?_;refine aa.use (KE B (by omega) hm p) ?_;rintro v s2 ⟨done,J,h2,h3,g⟩ w2;have C:(done.map fun e=>e.1).Nodup:=by
  refine List.pairwise_map.2 (List.Pairwise.imp_of_mem ?_ h3);intro a b D hb F o;have G:=h2 a D;have H:=h2 b hb;refine F ?_;have n:=hm.nd;have key:∀ (l:List (aJ×V×Nat)),l.Pairwise (fun a b=>a.1≠b.1)->a∈l->b∈l->a=b:=by
   intro l
   induction l with
   | nil=>intro _ h;cases h
   | cons x l Q =>
    intro n h4 k;obtain ⟨p1,R⟩:=List.pairwise_cons.1 n;rcases List.mem_cons.1 h4 with K | h4 <;> rcases List.mem_cons.1 k with L | k
    ·rw [K,L]
    ·exact absurd (by rw [<- K];exact o) (p1 b k)
    ·exact absurd (by rw [<- L];exact o.symm) (p1 a h4)
    ·exact Q R h4 k
  exact key es n G H
 have hlen:(done.map fun e=>e.1).length=es.length:=by
  rw [List.length_map];have w:es.Nodup:=hm.nd.imp fun {a b} h e=>h (by rw [e]);exact ((List.perm_ext_iff_of_nodup h3 w).2 fun a=>⟨h2 a,J a⟩).length_eq
 refine aa.use (zm g (by omega)) ?_;rintro r s4 ⟨rfl,l,n,hs,D⟩ Z;refine ⟨rfl,l,?_,fun d=>?_,by rw [n.length_eq,hlen],D⟩
 ·have S:l.Nodup:=n.nodup_iff.2 C;refine List.pairwise_iff_getElem.2 fun i j hi hj y=>?_;have hle:(el l i).le (el l j):=hs i j (by omega) y hj;have U:el l i=l[i]:=by have:=yY hi;rw [List.getElem?_eq_getElem hi] at this;exact (Option.some.inj this).symm
  have W:el l j=l[j]:=by have:=yY hj;rw [List.getElem?_eq_getElem hj] at this;exact (Option.some.inj this).symm
  rw [U,W] at hle;cases z:l[i].lt l[j] with
  | true=>rfl
  | false =>
   exfalso;rcases aJ.le_iff.1 hle with h | ⟨k,I⟩
   ·have:=(aJ.lt_iff (a:=l[i]) (b:=l[j])).2 (.inl h);rw [z] at this;cases this
   ·have M:¬ l[i].c<l[j].c:=fun h=>by
     have:=(aJ.lt_iff (a:=l[i]) (b:=l[j])).2 (.inr ⟨k,h⟩);rw [z] at this;cases this
    have:l[i]=l[j]:=by
     cases X:l[i];cases Y:l[j];rw [X,Y] at k I M;simp only at k I M;rw [k,show _=_ from Int.le_antisymm I (by omega)]
    exact absurd this ((List.pairwise_iff_getElem.1 S) i j hi hj y)
 ·rw [n.mem_iff,List.mem_map];constructor
  ·rintro ⟨e,o,rfl⟩;exact ⟨e,h2 e o,rfl⟩
  ·rintro ⟨e,o,rfl⟩;exact ⟨e,J e o,rfl⟩
end
end Go.Proofs.YtohgmogbabkkeaaGreat
end

section
namespace Go.Proofs.YtohgmogbabkkeaaGreat
open Go.Am Go.av Go.aB
section
variable {m:Nat} {c:Nat} {ro:Bool} {s:AS}
theorem SX {es:List (aJ×Key×Nat)} {lb:Nat} (hb:At s lb [.map (some m)]) (hm:dM dK kV s m es c ro):∀ s1,Ext s s1->aG s1->LO Tryz.prog dK kV m es c ro (fun e=>aI e.1) gq [.ptr (some (lb,0))] s1 :=
 fun s1 e _=>Sk hT Tryz.func221 (tm:=cj) (tk:=gV) (tf:=Cn) (tb:=vX) (by kernel_rfl) (by kernel_rfl) (by kernel_rfl) JS wW SW (kc:=aI) (fun k=>⟨rfl,rfl⟩) (hb.ext e) (hm.ext e)
theorem MJ {es:List (aJ×Key×Nat)} (j:es.length<65536) (hm:dM dK kV s m es c ro) {R:AV->AS->Prop} (k:∀ v s' (l:List aJ),ef l->(∀ d,d∈l↔∃ e∈es,e.1=d)->l.length=es.length->Og s s' v l->aG s'->R v s') :
  aa Tryz.prog eN [.map (some m)] s fun n o=>aa Tryz.prog eS [n,.func iV []] o R:=by
 refine aa.pre fun p=>oI _ _ _ (aj.intro p rfl fun lb s1 F=>?_);have i:=hm.ext F.ext;refine aa.use (MI (by kernel_rfl) j i (SX F.own.at i)) ?_;rintro v s2 ⟨l,a,b,d,e⟩ w2;refine k v s2 l a b d ⟨F.ext.trans e.1,e.2.imp id fun ⟨la,i,h2,h3⟩=>⟨la,i,h2,F.ext.none h3⟩⟩ w2
/-! ### maps.Clone -/
theorem KF:Extern.find Tryz.f210=some Extern.MapsClone.clone:=by kernel_rfl
theorem KG:Extern.findNext Tryz.f210=none:=by kernel_rfl
theorem KH : (Tryz.f210.name == "runtime.NumGoroutine") = false := by kernel_rfl
theorem KI:Tryz.f210.body.isNone=true:=by kernel_rfl
theorem dM.copy {K V:Type} [DecidableEq K] {kf:K->AV} {vf:V->AV} {es:List (K×V×Nat)} {s s':AS} {m':Nat} (h:dM kf vf s m es c ro) (F:qd s s' m' (.map (mb kf vf es) c false)):dM kf vf s' m' es c false:=⟨F.at,h.st,h.lt,h.nd⟩
theorem OL {es:List (aJ×Key×Nat)} (hm:dM dK kV s m es c ro):aa Tryz.prog bB [.map (some m)] s fun v s'=>∃ m',v=.map (some m')/\Ext s s'/\s.h m'=none/\dM dK kV s' m' es c false:=by
 refine (wD hT Tryz.func225 (tm:=cj) (ti:=sG) (tb:=vX) (cl:=uM) (by kernel_rfl) (by kernel_rfl) (by kernel_rfl) (by kernel_rfl) wW Tryz.func210 KH KI KG KF hm.obj).mono ?_;rintro v s' ⟨m',rfl,F⟩;exact ⟨m',rfl,F.ext,F.no,dM.copy hm F⟩
theorem MK {es:List (aJ×Bool×Nat)} (hm:dM dK bV s m es c ro):aa Tryz.prog cO [.map (some m)] s fun v s'=>∃ m',v=.map (some m')/\Ext s s'/\s.h m'=none/\dM dK bV s' m' es c false:=by
 refine (wD hT Tryz.func226 (tm:=bQ) (ti:=sG) (tb:=vX) (cl:=uM) (by kernel_rfl) (by kernel_rfl) (by kernel_rfl) (by kernel_rfl) kr Tryz.func210 KH KI KG KF hm.obj).mono ?_;rintro v s' ⟨m',rfl,F⟩;exact ⟨m',rfl,F.ext,F.no,dM.copy hm F⟩
end
end Go.Proofs.YtohgmogbabkkeaaGreat
end

section
namespace Go.Proofs.YtohgmogbabkkeaaGreat
open Go.Am Go.av Go.aB
def jd (s:AS) (l:Nat) (f:aJ->Option Key) (n:Nat):Prop:=∃ es c,dM dK kV s l es c false/\(∀ d,dh es d=f d)/\es.length=n
theorem jd.mut {s s':AS} {l n:Nat} {f:aJ->Option Key} {L:List Nat} (h:jd s l f n) (e:bz L s s') (b:l ∉ L):jd s' l f n:=by
 obtain ⟨es,c,d,h2,h3⟩:=h;exact ⟨es,c,d.mut e b,h2,h3⟩
theorem jd.ext {s s':AS} {l n:Nat} {f:aJ->Option Key} (h:jd s l f n) (e:Ext s s'):jd s' l f n:=h.mut (L:=[]) e.mut (by simp)
def m_ (s:AS) (l:Nat) (f:aJ->Bool) (n:Nat):Prop:=∃ es c,dM dK bV s l es c false/\(∀ d,dh es d=if f d then some true else none)/\es.length=n
theorem m_.mut {s s':AS} {l n:Nat} {f:aJ->Bool} {L:List Nat} (h:m_ s l f n) (e:bz L s s') (b:l ∉ L):m_ s' l f n:=by
 obtain ⟨es,c,d,h2,h3⟩:=h;exact ⟨es,c,d.mut e b,h2,h3⟩
theorem m_.ext {s s':AS} {l n:Nat} {f:aJ->Bool} (h:m_ s l f n) (e:Ext s s'):m_ s' l f n:=h.mut (L:=[]) e.mut (by simp)
structure aF where
 v:List Int
 ex:List aJ
 live:aJ->Option Key
 rD:aJ->Bool
 nl:Nat
 nt:Nat
structure gM (F:List Nat) (s:AS) (p:Nat) (x:aF):Prop where
 ok:L_ x.v x.ex
 Gg:SR x.v x.ex
 len:x.ex.length<=4096
 mem:∃ pc lm tm,Am.Own s p [.ptr (some (pc,0)),.map (some lm),.map (some tm)]/\p∈F/\En F s pc x.v x.ex/\lm∈F/\tm∈F/\lm≠tm/\jd s lm x.live x.nl/\m_ s tm x.rD x.nt
theorem gM.mut {F:List Nat} {s s':AS} {L:List Nat} {p:Nat} {x:aF} (h:gM F s p x) (m:bz L s s') (k:∀ y∈L,y ∉ F):gM F s' p x:=by
 obtain ⟨l,h2,h3,pc,lm,tm,a,b,c,d,e,f,g,i⟩:=h;exact ⟨l,h2,h3,pc,lm,tm,a.mut m (fun j=>k p j b),b,c.mut m k,d,e,f,g.mut m (fun j=>k lm j d),i.mut m (fun j=>k tm j e)⟩
theorem gM.ext {F:List Nat} {s s':AS} {p:Nat} {x:aF} (h:gM F s p x) (e:Ext s s'):gM F s' p x:=h.mut (L:=[]) e.mut (by simp)
section
variable {F:List Nat} {s:AS} {p:Nat} {x:aF}
theorem ng (h:gM F s p x):aa Tryz.prog bZ [.ptr (some (p,0))] s fun r s'=>r=.bool true/\s'=s:=by
 obtain ⟨_,_,_,pc,lm,tm,a,_⟩:=h;exact Bp _ _ _ ⟨_,iU Hj _,af.yes rfl ⟨_,by rw [a.at.au];rfl,_,iU wV _,rfl,rfl⟩⟩
theorem UA (h:gM F s p x) (d:aJ):aa Tryz.prog og [.ptr (some (p,0)),.agg (aI d)] s fun r s'=>r=.aN [.agg (eZ ((x.live d).getD ⟨[],[]⟩)),.bool (x.live d).isSome]/\Ext s s':=by
 refine aa.pre fun o=>CM _ _ _ _ ⟨rfl,aj.intro o rfl fun l1 s2 i=>aj.intro i.wf rfl fun l3 s4 j=>?_⟩;have k:=i.ext.trans j.ext;have w:=i.own.ext j.ext;refine aa.use (ng (h.ext k)) ?_;rintro v s6 ⟨rfl,rfl⟩ y;obtain ⟨_,_,_,pc,lm,tm,a,_,_,_,_,_,⟨es,c,hm,z,A⟩,_⟩:=h.ext k;have hf:=hm.find va d true;rw [z] at hf;refine ⟨_,rfl,af.no rfl ⟨_,by rw [a.at.au];rfl,_,w.at.aC (by simp [aI]),eZ ((x.live d).getD ⟨[],[]⟩),(x.live d).isSome,?_,?_⟩⟩
 ·refine Eq.trans (show _=_ from hf) ?_;cases x.live d <;> rfl
 ·refine kj y rfl rfl rfl fun l jl b=>?_;refine ⟨eZ ((x.live d).getD ⟨[],[]⟩),?_,⟨rfl,rfl⟩,bu.own b.wf (j.own.ext b.ext) (by simp [eZ]) fun gG e=>?_⟩
  ·have m:At jl l (eZ ((x.live d).getD ⟨[],[]⟩)):=⟨_,_,b.at⟩;exact m.aC (by simp [eZ])
  ·have n:At gG l3 (eZ ((x.live d).getD ⟨[],[]⟩)):=⟨_,_,by rw [e.at,dD (by simp [eZ])]⟩;exact ⟨_,n.aC (by simp [eZ]),rfl,Ext.wr (k.trans b.ext) (i.ext.none j.no) e.mut⟩
theorem UB (h:gM F s p x) (d:aJ):aa Tryz.prog n_ [.ptr (some (p,0)),.agg (aI d)] s fun r s'=>r=.bool (!(x.live d).isSome&&ff x.v x.ex d)/\Ext s s':=by
 refine aa.pre fun l=>CP _ _ _ _ ⟨rfl,aj.intro l rfl fun l1 s2 e=>⟨_,e.own.at.aC (by simp [aI]),?_⟩⟩;refine aa.use (UA (h.ext e.ext) d) ?_;rintro v y ⟨rfl,k⟩ m;refine ⟨_,_,rfl,kj m rfl rfl rfl fun z n c=>?_⟩;have b:=e.ext.trans (k.trans c.ext);refine aa.use (ng (h.ext b)) ?_;rintro v dH ⟨rfl,rfl⟩ o;refine ⟨_,rfl,af.yes rfl (af.mk (fun i=>?_) (fun i=>⟨?_,b⟩))⟩
 ·obtain ⟨ok,_,hlen,pc,lm,tm,a,_,w,_⟩:=h.ext b;refine ⟨_,by rw [a.at.au];rfl,_,(e.own.ext (k.trans c.ext)).at.aC (by simp [aI]),?_⟩;refine aa.use (zn w.at ok.r (by omega) d) ?_;rintro v jl ⟨rfl,j⟩ _;exact ⟨_,rfl,by rw [i];simp,b.trans j⟩
 ·rw [i];simp
theorem Iz (pc:Nat) (lm tm:Nat):aS T pB [(0,.ptr (some (pc,0))),(1,.map (some lm)),(2,.map (some tm))]=some (.agg [.ptr (some (pc,0)),.map (some lm),.map (some tm)]):=by
 rw [qI (pl:=[(0,1),(1,1),(2,1)]) (by kernel_rfl) JT rfl];rfl
theorem UC (h:gM F s p x):aa Tryz.prog nZ [.ptr (some (p,0))] s fun r s'=>∃ p' F',r=.ptr (some (p',0))/\gM F' s' p' x/\(∀ y∈F',s.h y=none)/\(∀ y∈F',s'.h y≠none)/\Ext s s':=by
 refine CV _ _ _ ?_;refine aa.use (ng h) ?_;rintro v s2 ⟨rfl,rfl⟩ w2;have ad:=h.len;obtain ⟨ok,Gg,len,pc,lm,tm,a,ae,hc,al,am,an,hl,ht⟩:=id h;have g:∀ (i:Nat) s',Ext s2 s'->au s' p i=[AV.ptr (some (pc,0)),.map (some lm),.map (some tm)][i]? := fun i s' e=>(a.ext e).at.au i;refine ⟨_,rfl,af.no rfl ⟨fun q _ v s'=>(q=4->∃ pc,v=.ptr (some (pc,0))/\s2.h pc=none/\u5 s2 s' pc x.v x.ex)/\(q=9->∃ lm,v=.map (some lm)/\s2.h lm=none/\jd s' lm x.live x.nl),fun q _ v=>(q=4->∃ pc,v=.ptr (some (pc,0)))/\(q=9->∃ lm,v=.map (some lm)),?_,_,g 0 _ (Ext.refl _),fun s7 O w7 _=>?_,⟨.ptr (some (0,0)),(fun _=>⟨0,rfl⟩),(fun h=>by cases h)⟩,fun v11 z=>?_⟩⟩
 ·rintro q ks v s' s'' e ⟨A,h2⟩;refine ⟨fun n=>?_,fun n=>?_⟩
  ·obtain ⟨a,b,c,d⟩:=A n;exact ⟨a,b,c,d.ext e⟩
  ·obtain ⟨a,b,c,d⟩:=h2 n;exact ⟨a,b,c,d.ext e⟩
 ·refine (Gf (hc.at.ext O) (by omega)).mono ?_;rintro v s9 ⟨q,rfl,n,g9,e9⟩;exact ⟨_,rfl,e9,⟨(fun _=>⟨q,rfl,O.none n,g9.back O⟩),(fun h=>by cases h)⟩,(fun _=>⟨q,rfl⟩),(fun h=>by cases h)⟩
 obtain ⟨Q,rfl⟩:=z.1 rfl;refine ⟨_,rfl,_,g 1 _ (Ext.refl _),fun ao B ar _=>?_,⟨.map (some 0),(fun h=>by cases h),(fun _=>⟨0,rfl⟩)⟩,fun v20 C=>?_⟩
 ·obtain ⟨es,c,A,h2,h3⟩:=hl.ext B;refine (OL A).mono ?_;rintro v eT ⟨m',rfl,R,S,M⟩;exact ⟨_,rfl,R,⟨(fun h=>by cases h),(fun _=>⟨m',rfl,B.none S,es,c,M,h2,h3⟩)⟩,(fun h=>by cases h),(fun _=>⟨m',rfl⟩)⟩
 obtain ⟨o,rfl⟩:=C.2 rfl;refine ⟨_,rfl,_,g 2 _ (Ext.refl _),fun dZ m aw hS=>?_⟩;obtain ⟨a0,D,G,hG⟩:=hS.1.1 rfl;obtain ⟨a1,H,I,U⟩:=hS.2.1.2 rfl;simp only [AV.ptr.injEq,AV.map.injEq,Option.some.injEq,Prod.mk.injEq,and_true] at D H;subst D;subst H;obtain ⟨es,c,A,h2,h3⟩:=ht.ext m;refine aa.use (MK A) ?_;rintro v a2 ⟨XN,rfl,J,w,M⟩ W;refine ⟨_,rfl,_,Iz _ _ _,rfl,aj.intro W rfl fun p' a3 j=>?_⟩;obtain ⟨Fc,X,Y,Z⟩:=hG.X6 G;have k:=J.trans j.ext;have ab:=m.trans k;have K:o≠XN:=by
  rintro rfl;obtain ⟨es',c',h4,_⟩:=U;rw [h4.obj] at w;cases w
 refine ⟨p',p'::o::XN::Fc,rfl,⟨ok,Gg,len,Q,o,XN,j.own,by simp,(X.mut (L:=[]) k.mut (by simp)).sub (fun y l=>by simp [l]),by simp,by simp,K,U.ext k,es,c,M.ext j.ext,h2,h3⟩,?_,?_,ab⟩
 ·intro y l;simp only [List.mem_cons] at l;rcases l with rfl | rfl | rfl | l
  ·exact (m.trans J).none j.no
  ·exact I
  ·exact m.none w
  ·exact Y y l
 ·intro y l;simp only [List.mem_cons] at l;rcases l with rfl | rfl | rfl | l
  ·rw [j.at];simp
  ·obtain ⟨es',c',h4,_⟩:=U.ext k;rw [h4.obj];simp
  ·rw [(M.ext j.ext).obj];simp
  ·cases n:dZ.h y with
   | none=>exact absurd n (Z y l)
   | some ob=>rw [k.1 y ob n];simp
end
end Go.Proofs.YtohgmogbabkkeaaGreat
end

section
namespace Go.Proofs.YtohgmogbabkkeaaGreat
open Go.Am Go.av Go.aB
theorem Ext.Xv {s s1 s2:AS} {L:List Nat} (e:Ext s s1) (c:∀ x∈L,s.h x=none) (m:bz L s1 s2):Ext s s2 :=
 ⟨fun x o b=>m.1 x o (fun hm=>by rw [c x hm] at b;cases b) (e.1 x o b),Nat.le_trans e.2 m.2⟩
section
variable {s:AS} {l n:Nat}
theorem jd.obj {f:aJ->Option Key} (h:jd s l f n):∃ es c,s.h l=some (.map es c false):=by
 obtain ⟨es,c,b,_⟩:=h;exact ⟨_,_,b.obj⟩
theorem m_.obj {f:aJ->Bool} (h:m_ s l f n):∃ es c,s.h l=some (.map es c false):=by
 obtain ⟨es,c,b,_⟩:=h;exact ⟨_,_,b.obj⟩
theorem jd.del (i:aG s) {f:aJ->Option Key} (h:jd s l f n) {d:aJ} {k:Key} (hd:f d=some k) {Q:AS->Prop}
  (j:∀ s',jd s' l (fun x=>if x=d then none else f x) (n - 1)->aG s'->bz [l] s s'->Q s'):bu (qi T cj (.map (some l)) (.agg (aI d)) s) Q:=by
 obtain ⟨es,c,o,h2,h3⟩:=h;refine dM.del va i o d (by rw [h2];exact hd) fun s' es' b e p w m=>j s' ⟨es',c,b,fun x=>?_,by omega⟩ w m;rw [e,h2]
theorem jd.nH (j:aG s) {f:aJ->Option Key} (h:jd s l f n) (d:aJ) (k:Key) {Q:AS->Prop}
  (o:∀ s',jd s' l (fun x=>if x=d then some k else f x) (if (f d).isSome then n else n+1)->aG s'->bz [l] s s'->Q s'):bu (bK T cj (.map (some l)) (.agg (aI d)) (.agg (eZ k)) s) Q:=by
 obtain ⟨es,c,i,h2,h3⟩:=h;refine dM.nH va j i d k fun s' es' c' b e w m=>o s' ⟨es',c',b,fun x=>?_,?_⟩ w m
 ·rw [e,h2]
 ·rw [JJ i.nd b.nd e,h2,h3]
theorem m_.nH (k:aG s) {f:aJ->Bool} (h:m_ s l f n) (d:aJ) {Q:AS->Prop}
  (o:∀ s',m_ s' l (fun x=>f x||decide (x=d)) (if f d then n else n+1)->aG s'->bz [l] s s'->Q s'):bu (bK T bQ (.map (some l)) (.agg (aI d)) (.agg [.bool true]) s) Q:=by
 obtain ⟨es,c,j,h2,h3⟩:=h;refine dM.nH MH k j d true fun s' es' c' b i w m=>o s' ⟨es',c',b,fun x=>?_,?_⟩ w m
 ·rw [i,h2];by_cases e:x=d
  ·simp [e]
  ·simp [e]
 ·rw [JJ j.nd b.nd i,h2,h3];cases f d <;> simp
end
theorem Dw (v:List Int) (ex:List aJ):(compact v ex).2.length<=ex.length:=by
 have:=Aw ex (v,[]);simpa [compact] using this
def aF.mo (x:aF) (i:eJ):Bool×aF :=
 if (x.live i.dot).isSome&&i.gone then (true,{ x with live:=fun d=>if d=i.dot then none else x.live d,rD:=fun d=>x.rD d||decide (d=i.dot),nl:=x.nl - 1,nt:=if x.rD i.dot then x.nt else x.nt+1 })
 else if ff x.v x.ex i.dot then (false,x)
 else if i.gone then (true,{ x with v:=(compact x.v (ins x.ex i.dot)).1,ex:=(compact x.v (ins x.ex i.dot)).2,rD:=fun d=>x.rD d||decide (d=i.dot),nt:=if x.rD i.dot then x.nt else x.nt+1 })
 else (true,{ x with v:=(compact x.v (ins x.ex i.dot)).1,ex:=(compact x.v (ins x.ex i.dot)).2,live:=fun d=>if d=i.dot then some i.key else x.live d,nl:=if (x.live i.dot).isSome then x.nl else x.nl+1 })
theorem UD (x:aF) (i:eJ) (ok:L_ x.v x.ex) (hi:i.dot.may=true) (b:x.ex.length<4096):(x.mo i).2.ex.length<=x.ex.length+1/\(x.mo i).2.nl<=x.nl+1/\(x.mo i).2.nl+(x.mo i).2.nt<=x.nl+x.nt+1:=by
 have c:(compact x.v (ins x.ex i.dot)).2.length<=x.ex.length+1:=by
  have:=Dw x.v (ins x.ex i.dot);rw [xU] at this;exact this
 unfold aF.mo;split
 ·refine ⟨by simp,by simp;omega,?_⟩;simp only;split <;> omega
 ·split
  ·refine ⟨by simp,by simp,by simp⟩
  ·split
   ·refine ⟨c,by simp,?_⟩;simp only;split <;> omega
   ·refine ⟨c,?_,?_⟩ <;> simp only <;> split <;> omega
section
variable {F:List Nat} {s:AS} {p:Nat} {x:aF}
theorem UE {v:List Int} {ex:List aJ} {d:aJ} (b:ff v ex d=true) (hd:d.may=true):lP v ex d=(false,0,v,ex):=by simp [lP,hd,b]
theorem SY {v:List Int} {ex:List aJ} {d:aJ} (b:ff v ex d=false) (hd:d.may=true) (e:ex.length<4096):lP v ex d=(true,0,compact v (ins ex d)):=by
 have c:=Dw v (ins ex d);rw [xU] at c;simp only [lP,hd,b,Bool.true_eq_false,Bool.false_eq_true,if_false];rw [if_neg (by omega)]
theorem Wc (h:gM F s p x) (a7:∀ y∈F,s.h y≠none) (i:eJ) (hi:i.dot.may=true) (K:x.ex.length<4096) :
  aa Tryz.prog pQ [.ptr (some (p,0)),.agg (bw i)] s fun r s'=>r=.aN [.bool (x.mo i).1,.int .i64 0]/\∃ F',gM F' s' p (x.mo i).2/\(∀ y∈F',y∈F\/s.h y=none)/\(∀ y∈F',s'.h y≠none)/\bz F s s':=by
 refine aa.pre fun hw=>Em _ _ _ _ ⟨rfl,aj.intro hw rfl fun l1 s2 F2=>?_⟩;have h2:=h.ext F2.ext;obtain ⟨ok,Gg,hlen,pc,lm,tm,a,a1,Y,A,G,B,Z,ht⟩:=id h2;have hf:bR T cj (.map (some lm)) (.agg (aI i.dot)) true s2=some (.aN [.agg (eZ ((x.live i.dot).getD ⟨[],[]⟩)),.bool (x.live i.dot).isSome]):=by
  obtain ⟨es,c,hm,hg,_⟩:=Z;have hf:=hm.find va i.dot true;rw [hg] at hf;refine Eq.trans (show _=_ from hf) ?_;cases x.live i.dot <;> rfl
 refine ⟨_,by rw [a.at.au];rfl,_,F2.own.at.aC (by simp [bw]),eZ ((x.live i.dot).getD ⟨[],[]⟩),(x.live i.dot).isSome,hf,?_⟩;refine kj F2.wf rfl rfl rfl fun l9 a8 z=>?_;have H:=F2.ext.trans z.ext;have o1:Am.Own a8 l1 (bw i):=F2.own.ext z.ext;have a9:p≠lm:=by rintro rfl;obtain ⟨es,c,h⟩:=Z.obj;rw [a] at h;cases h
 have a':p≠tm:=by rintro rfl;obtain ⟨es,c,h⟩:=ht.obj;rw [a] at h;cases h
 have ba:l1 ∉ F:=fun hm=>a7 l1 hm F2.no;refine ⟨fun vs s'=>vs=[.bool ((x.live i.dot).isSome&&i.gone)]/\s'=a8,?_,af.mk (fun hs=>⟨i.gone,by rw [o1.at.au];rfl,by rw [hs];rfl,rfl⟩) (fun hs=>⟨by rw [hs];rfl,rfl⟩)⟩;rintro b O ⟨hb,rfl⟩;simp only [List.cons.injEq,AV.bool.injEq,and_true] at hb;subst hb;have b2:=h2.ext z.ext
 replace a:=a.ext z.ext
 replace Y:=Y.mut (L:=[]) z.ext.mut (by simp)
 replace Z:=Z.ext z.ext
 replace ht:=ht.ext z.ext
 have C:∀ y∈F,O.h y≠none:=fun y j hn=>a7 y j (H.none hn);refine af.mk (fun hb=>?_) (fun hb=>?_)
 ·simp only [Bool.and_eq_true] at hb;obtain ⟨k,hk⟩:=Option.isSome_iff_exists.1 hb.1;have l:x.mo i=(true,{ x with live:=fun d=>if d=i.dot then none else x.live d,rD:=fun d=>x.rD d||decide (d=i.dot),nl:=x.nl - 1,nt:=if x.rD i.dot then x.nt else x.nt+1 }):=by
   unfold aF.mo;rw [if_pos (by simp [hb])]
  refine ⟨_,by rw [a.at.au];rfl,_,o1.at.aC (by simp [bw]),Z.del z.wf hk fun jl ae b3 D=>?_⟩;have bb:=ht.mut D (by simpa using B.symm);have bc:=a.mut D (by simpa using a9);have b4:=o1.mut D (by simp only [List.mem_singleton];rintro rfl;exact ba A);refine ⟨_,by rw [bc.at.au];rfl,_,b4.at.aC (by simp [bw]),_,MG,bb.nH b3 i.dot fun dZ al ci I=>?_⟩;have b5:∀ y∈[lm],y∈F:=by simpa using A
  have b6:∀ y∈[tm],y∈F:=by simpa using G
  have M:bz F s dZ:=H.mut.trans ((D.mono b5).trans (I.mono b6));have b7:pc ∉ [lm]:=by
   simp only [List.mem_singleton];rintro rfl;obtain ⟨_,_,w,n,_⟩:=Y;obtain ⟨es,c,h⟩:=Z.obj;rw [n] at h;cases h
  have b8:pc ∉ [tm]:=by
   simp only [List.mem_singleton];rintro rfl;obtain ⟨_,_,w,n,_⟩:=Y;obtain ⟨es,c,h⟩:=ht.obj;rw [n] at h;cases h
  have bd:En F dZ pc x.v x.ex:=by
   obtain ⟨q1,q2,w,q3,q4,q5,q6⟩:=Y;have keep:∀ (m:Nat) (es:List (AV×AV×Nat)) (c:Nat),O.h m=some (.map es c false)->∀ y∈ax w,y≠m:=by
    rintro m es c hm y j rfl;rcases q5 with ⟨_,b,rfl⟩ | ⟨la,rfl,ho⟩
    ·simp [ax] at j
    ·obtain rfl:y=la:=by simpa [ax] using j
     rw [ho] at hm;cases hm
   obtain ⟨ck,c1,e1⟩:=Z.obj;obtain ⟨cl,c2,e2⟩:=ht.obj;have b9:=q5.mut D fun y j hm=>keep _ _ _ e1 y j (by simpa using hm);exact ⟨q1,q2,w,(q3.mut D b7).mut I b8,q4,b9.mut I fun y j hm=>keep _ _ _ e2 y j (by simpa using hm),q6⟩
  rw [l];refine ⟨rfl,F,⟨ok,Gg,hlen,pc,lm,tm,bc.mut I (by simpa using a'),a1,bd,A,G,B,ae.mut I (by simpa using B),al⟩,fun y j=>.inl j,fun y j=>?_,M⟩;have Q:∀ {m:Nat} {u u':AS},bz [m] u u'->u'.h m≠none->u.h y≠none->u'.h y≠none:=by
   intro m u u' mm hm hn;by_cases e:y=m
   ·rw [e];exact hm
   ·cases hq:u.h y with
    | none=>exact absurd hq hn
    | some o=>rw [mm.1 y o (by simpa using e) hq];simp
  refine Q I ?_ (Q D ?_ (C y j))
  ·obtain ⟨es,c,h⟩:=al.obj;rw [h];simp
  ·obtain ⟨es,c,h⟩:=ae.obj;rw [h];simp
 refine ⟨_,by rw [a.at.au];rfl,_,o1.at.aC (by simp [bw]),?_⟩;refine aa.use (L9 Y.at ok.v ok.r ok.m (by omega) i.dot) ?_;rintro r nK ⟨rfl,a2,J,a3,R⟩ be;have a4:¬ ((x.live i.dot).isSome&&i.gone)=true:=by rw [hb];simp
 cases hh:ff x.v x.ex i.dot with
 | true =>
  rw [UE hh hi] at a2 a3 R ⊢;have a5:=a3 rfl;have l:x.mo i=(false,x):=by
   unfold aF.mo;rw [if_neg a4,if_pos hh]
  rw [l];refine ⟨_,_,rfl,fun vs s'=>vs=[.bool true]/\s'=nK,?_,af.no rfl ⟨rfl,rfl⟩⟩;rintro b oR ⟨hb,rfl⟩;simp only [List.cons.injEq,AV.bool.injEq,and_true] at hb;subst hb;exact af.yes rfl ⟨rfl,F,b2.ext a5,fun y j=>.inl j,fun y j hn=>C y j (a5.none hn),(H.trans a5).mut⟩
 | false =>
  have bh:=SY hh hi K;have bi:=SU ok Gg K i.dot;rw [bh] at a2 a3 R bi ⊢;obtain ⟨bj,am,a6,_⟩:=bi;have b':(compact x.v (ins x.ex i.dot)).2.length<=x.ex.length+1:=a6;have hG:=R rfl;obtain ⟨Fc,bk,bl,ca⟩:=hG.XM;have S:pc∈F:=Y.Yf;have an:bz F O nK:=J.mono (by simpa using S);have cb:p≠pc:=by
   rintro rfl;have cc:=ok.v.len;obtain ⟨_,_,w,n,_⟩:=Y;have h1:=congrArg List.length (a.at.inj n.at);simp [cc] at h1
  have bm:lm≠pc:=by
   rintro rfl;obtain ⟨_,_,w,n,_⟩:=Y;obtain ⟨es,c,h⟩:=Z.obj;rw [n] at h;cases h
  have bo:tm≠pc:=by
   rintro rfl;obtain ⟨_,_,w,n,_⟩:=Y;obtain ⟨es,c,h⟩:=ht.obj;rw [n] at h;cases h
  have ab:=a.mut J (by simpa using cb);have ao:=Z.mut J (by simpa using bm);have ar:=ht.mut J (by simpa using bo);have ad:=o1.mut J (by simp only [List.mem_singleton];rintro rfl;exact ba S);have cd:∀ y∈Fc,y∈F\/s.h y=none:=by
   intro y j;rcases bl y j with rfl | h
   ·exact .inl S
   ·exact .inr (H.none h)
  have bs:∀ {m:Nat},m≠pc->O.h m≠none->∀ y∈[m],y ∉ Fc:=by
   intro m hm hn y j hf;obtain rfl:=List.mem_singleton.1 j;rcases bl y hf with h | h
   ·exact hm h
   ·exact hn h
  have fin:∀ {m:Nat} {s':AS},m∈F->bz [m] nK s'->s'.h m≠none->∀ y∈Fc++F,s'.h y≠none:=by
   intro m s' hm mm hn y j;by_cases e:y=m
   ·rw [e];exact hn
   ·have ce:nK.h y≠none:=by
     rcases List.mem_append.1 j with j | j
     ·exact ca y j
     ·by_cases e2:y=pc
      ·rw [e2];obtain ⟨_,w,h,_⟩:=a2;rw [h];simp
      ·cases hq:O.h y with
       | none=>exact absurd hq (C y j)
       | some o=>rw [J.1 y o (by simpa using e2) hq];simp
    cases hq:nK.h y with
    | none=>exact absurd hq ce
    | some o=>rw [mm.1 y o (by simpa using e) hq];simp
  have U:∀ y∈Fc++F,y∈F\/s.h y=none:=by
   intro y j;rcases List.mem_append.1 j with j | j
   ·exact cd y j
   ·exact .inl j
  refine ⟨_,_,rfl,fun vs s'=>vs=[.bool false]/\s'=nK,?_,af.no rfl ⟨rfl,rfl⟩⟩;rintro b oR ⟨bx,rfl⟩;simp only [List.cons.injEq,AV.bool.injEq,and_true] at bx;subst bx;refine af.no rfl ⟨i.gone,by rw [ad.at.au];rfl,af.mk (fun hg=>?_) (fun hg=>?_)⟩
  ·have l:x.mo i=(true,{ x with v:=(compact x.v (ins x.ex i.dot)).1,ex:=(compact x.v (ins x.ex i.dot)).2,rD:=fun d=>x.rD d||decide (d=i.dot),nt:=if x.rD i.dot then x.nt else x.nt+1 }):=by
    unfold aF.mo;rw [if_neg a4,if_neg (by rw [hh];simp),if_pos hg]
   rw [l];refine ⟨_,by rw [ab.at.au];rfl,_,ad.at.aC (by simp [bw]),_,MG,ar.nH be i.dot fun cm aw cn W=>?_⟩;obtain ⟨es,c,cf⟩:=ht.obj;have b0:=bk.mut W (bs bo (by rw [cf];simp));refine ⟨rfl,Fc++F,⟨bj,am,by simp only;omega,pc,lm,tm,ab.mut W (by simpa using a'),by simp [a1],b0.sub (fun y j=>by simp [j]),by simp [A],by simp [G],B,ao.mut W (by simpa using B),aw⟩,U,fin G W ?_,H.mut.trans (an.trans (W.mono (by simpa using G)))⟩;obtain ⟨es,c,h⟩:=aw.obj;rw [h];simp
  ·have l:x.mo i=(true,{ x with v:=(compact x.v (ins x.ex i.dot)).1,ex:=(compact x.v (ins x.ex i.dot)).2,live:=fun d=>if d=i.dot then some i.key else x.live d,nl:=if (x.live i.dot).isSome then x.nl else x.nl+1 }):=by
    unfold aF.mo;rw [if_neg a4,if_neg (by rw [hh];simp),if_neg (by rw [hg];simp)]
   rw [l];refine ⟨_,by rw [ab.at.au];rfl,_,ad.at.aC (by simp [bw]),_,ad.at.aC (by simp [bw]),ao.nH be i.dot i.key fun zf a0 cp X=>?_⟩;obtain ⟨es,c,ch⟩:=Z.obj;have b1:=bk.mut X (bs bm (by rw [ch];simp));refine ⟨rfl,Fc++F,⟨bj,am,by simp only;omega,pc,lm,tm,ab.mut X (by simpa using a9),by simp [a1],b1.sub (fun y j=>by simp [j]),by simp [A],by simp [G],B,a0,ar.mut X (by simpa using B.symm)⟩,U,fin A X ?_,H.mut.trans (an.trans (X.mono (by simpa using A)))⟩;obtain ⟨es,c,h⟩:=a0.obj;rw [h];simp
end
end Go.Proofs.YtohgmogbabkkeaaGreat
end

section
namespace Go.Proofs.YtohgmogbabkkeaaGreat
open Go.Am Go.av Go.aB
theorem gi:Cf T aE q7 5 56:=⟨cZ,ox,V0,⟨_,_,Ut,rfl,rfl⟩,by decide,by decide⟩
section
variable {s:AS} {a:AV} {l:List eJ} {g:FuncId} {cap:List AV} {P:eJ->Bool}
theorem KJ (w:Sl bw 5 s a l) (H:l.length<=2 ^ 40) (hf:∀ i s',Ext s s'->aG s'->aa Tryz.prog g ([.agg (bw i)]++cap) s' fun v s''=>v=.bool (P i)/\Ext s' s'') :
  aa Tryz.prog eE [a,.func g cap] s fun v s'=>Ext s s'/\∃ n:Int,v=.int .i64 n/\((n = -1/\l.any P=false)\/∃ k:Nat,n=k/\k<l.length/\(∃ x,l[k]? = some x/\P x=true)/\∀ j x,j<k->l[j]? = some x->P x=false):=by
 refine aa.pre fun z=>ny _ _ _ _ ⟨_,w.cJ cZ _,fun m vs s'=>∃ i:Nat,vs=[.int .i64 (i:Nat)]/\i<=l.length/\m=l.length - i/\Ext s s'/\aG s'/\(∀ j x,j<i->l[j]? = some x->P x=false),l.length,⟨0,rfl,by omega,rfl,Ext.refl _,z,by omega⟩,?_⟩;rintro m n s6 ⟨i,hi,I,rfl,c,A,b⟩;simp only [List.cons.injEq,AV.int.injEq,true_and,and_true] at hi;subst hi;refine af.dec (fun B=>?_) (fun C=>⟨c,-1,rfl,.inl ⟨rfl,?_⟩⟩)
 ·obtain ⟨x,d⟩:=cT (l:=l) (i:=i) (by omega);obtain ⟨la,o,D,F⟩:=w.ix (by decide) aW cZ ox d;refine ⟨la,o,D _,_,(F _ c).2,?_⟩;refine aa.use (hf x s6 c A) ?_;rintro v G ⟨rfl,e⟩ p;refine ⟨_,rfl,af.mk (fun hb=>⟨c.trans e,_,rfl,.inr ⟨i,rfl,by omega,⟨x,d,hb⟩,b⟩⟩) (fun hb=>⟨l.length - (i+1),by omega,i+1,by rw [aX (by omega)];rfl,by omega,rfl,c.trans e,p,fun j y hj r=>?_⟩)⟩;rcases Nat.lt_or_ge j i with h | h
  ·exact b j y h r
  ·obtain rfl:j=i:=by omega
   rw [d] at r;obtain rfl:=Option.some.inj r;exact hb
 ·rw [List.any_eq_false];intro x d;obtain ⟨j,hj⟩:=List.mem_iff_getElem?.1 d;have:j<l.length:=by
   rcases Nat.lt_or_ge j l.length with h | h
   ·exact h
   ·rw [List.getElem?_eq_none h] at hj;cases hj
  rw [b j x (by omega) hj];simp
theorem Eo (b:Sl bw 5 s a l) (c:l.length<=2 ^ 40) (hf:∀ i s',Ext s s'->aG s'->aa Tryz.prog g ([.agg (bw i)]++cap) s' fun v s''=>v=.bool (P i)/\Ext s' s'') :
  aa Tryz.prog dO [a,.func g cap] s fun v s'=>v=.bool (l.any P)/\Ext s s':=by
 refine lS _ _ _ _ ?_;refine aa.use (KJ b c hf) ?_;rintro v s2 ⟨e,n,rfl,h⟩ _;refine ⟨_,rfl,?_,e⟩;congr 1;rcases h with ⟨rfl,h⟩ | ⟨k,rfl,m,⟨x,d,j⟩,_⟩
 ·rw [h];decide
 ·rw [List.any_eq_true.2 ⟨x,List.mem_of_getElem? d,j⟩,decide_eq_true_eq];omega
theorem UF (i:eJ) (s:AS):aa Tryz.prog mL [.agg (bw i)] s fun v s'=>v=.bool (!i.may)/\Ext s s':=by
 refine aa.pre fun b=>Bv _ _ _ ⟨rfl,aj.intro b rfl fun l s1 F=>⟨_,F.own.at.aC (by simp [bw]),?_⟩⟩;refine aa.use (Wb i _) ?_;rintro v s2 ⟨rfl,e⟩ _;exact ⟨_,rfl,rfl,F.ext.trans e⟩
end
def aF.dX (x:aF) (l:List eJ):Bool×aF:=l.foldl (fun a i=>(a.1||(a.2.mo i).1,(a.2.mo i).2)) (false,x)
section
variable {F:List Nat} {s:AS} {p:Nat} {x:aF}
theorem jd.cJ {l n:Nat} {f:aJ->Option Key} (h:jd s l f n):aQ T cj (.map (some l)) s=some (.int .i64 (n:Nat)):=by
 obtain ⟨es,c,b,_,h3⟩:=h;rw [b.cJ va,h3]
theorem m_.cJ {l n:Nat} {f:aJ->Bool} (h:m_ s l f n):aQ T bQ (.map (some l)) s=some (.int .i64 (n:Nat)):=by
 obtain ⟨es,c,b,_,h3⟩:=h;rw [b.cJ MH,h3]
theorem SZ (h:gM F s p x) {a:AV} {l:List eJ} (hl:Sl bw 5 s a l) (B:∀ i∈l,i.may=true) (an:x.ex.length+l.length<=4096) (ao:x.nl+l.length<=1024) (ar:x.nl+x.nt+l.length<=4096) :
  aa Tryz.prog lA [.ptr (some (p,0)),a] s fun r s'=>r=.aN [.bool (x.dX l).1,.int .i64 0]/\∃ F',gM F' s' p (x.dX l).2/\(∀ y∈F',y=p\/s.h y=none)/\(∀ y∈F',s'.h y≠none)/\bz [p] s s':=by
 refine Ec _ _ _ _ ?_;refine aa.use (ng h) ?_;rintro v s2 ⟨rfl,rfl⟩ w2;refine ⟨_,rfl,af.no rfl ?_⟩;refine aa.use (Eo (P:=fun i=>!i.may) hl (by omega) fun i s' _ _=>UF i s') ?_;rintro v s5 ⟨rfl,e5⟩ w5;have:l.any (fun i=>!i.may)=false:=by
  rw [List.any_eq_false];intro i hi;simp [B i hi]
 rw [this];refine ⟨_,rfl,af.no rfl ?_⟩;refine aa.use (UC (h.ext e5)) ?_;rintro v s8 ⟨po,F0,rfl,hS,ab,ad,e8⟩ w8;have E8:=e5.trans e8;have J:∃ cs,Am.Own s2 p cs/\cs.length=3:=by
  obtain ⟨_,_,_,pc,lm,tm,a,_⟩:=h;exact ⟨_,a,rfl⟩
 obtain ⟨cs,J,K⟩:=J;have G:∀ (i:Nat) y,l[i]? = some y->x.dX (l.take (i+1))=((x.dX (l.take i)).1||((x.dX (l.take i)).2.mo y).1,((x.dX (l.take i)).2.mo y).2):=by
  intro i y c;unfold aF.dX;rw [List.take_add_one,c,Option.toList_some,List.foldl_append];rfl
 refine ⟨_,rfl,fun vs s'=>vs=[.bool (x.dX l).1]/\aG s'/\Ext s2 s'/\∃ F',gM F' s' po (x.dX l).2/\(∀ y∈F',s2.h y=none)/\(∀ y∈F',s'.h y≠none)/\(x.dX l).2.nl<=1024/\(x.dX l).2.nl+(x.dX l).2.nt<=4096,?_,?_⟩
 ·rintro b dH ⟨hb,ae,L,F',j,d,w,aw,a0⟩;simp only [List.cons.injEq,AV.bool.injEq,and_true] at hb;subst hb;obtain ⟨ok,Gg,hlen,pc,lm,tm,a',a1,hc,M,O,Q,H,R⟩:=j;refine ⟨fun vs s'=>vs=[.bool false]/\s'=dH,?_,_,by rw [a'.at.au];rfl,_,H.cJ,af.no (by rw [decide_eq_false_iff_not];omega) ⟨_,by rw [a'.at.au];rfl,_,H.cJ,_,by rw [a'.at.au];rfl,_,R.cJ,?_,rfl⟩⟩
  ·rintro b gh ⟨hb,rfl⟩;simp only [List.cons.injEq,AV.bool.injEq,and_true] at hb;subst hb;have ho:=J.ext L;refine af.no rfl ⟨_,a'.at.aC (by simp),⟨by simp,rfl⟩,bu.own ae ho (by simp [K]) fun gG P=>⟨rfl,p::F',⟨ok,Gg,hlen,pc,lm,tm,?_,by simp,?_,by simp [M],by simp [O],Q,H.mut P.mut ?_,R.mut P.mut ?_⟩,fun y c=>?_,fun y c=>?_,L.mut.trans P.mut⟩⟩
   ·have:=P.at;rw [dD (by simp [K])] at this;exact this
   ·refine (hc.mut P.mut fun y c hm=>?_).sub fun y c=>by simp [c]
    obtain rfl:=List.mem_singleton.1 c;have:=d _ hm;rw [J] at this;cases this
   ·intro hm;obtain rfl:=List.mem_singleton.1 hm;have:=d _ M;rw [J] at this;cases this
   ·intro hm;obtain rfl:=List.mem_singleton.1 hm;have:=d _ O;rw [J] at this;cases this
   ·rcases List.mem_cons.1 c with rfl | c
    ·exact .inl rfl
    ·exact .inr (d y c)
   ·by_cases e:y=p
    ·rw [e,P.at];simp
    ·rw [P.eq y e];rcases List.mem_cons.1 c with rfl | c
     ·exact absurd rfl e
     ·exact w y c
  ·rw [aX (by omega),show decide (((x.dX l).2.nl:Int)+((x.dX l).2.nt:Int)>4096)=false from by rw [decide_eq_false_iff_not];omega]
 ·refine ⟨_,hl.cJ cZ _,fun m vs s'=>∃ i:Nat,vs=[.bool (x.dX (l.take i)).1,.int .i64 (i:Nat)]/\i<=l.length/\m=l.length - i/\aG s'/\Ext s2 s'/\(∃ F',gM F' s' po (x.dX (l.take i)).2/\(∀ y∈F',s2.h y=none)/\(∀ y∈F',s'.h y≠none))/\(x.dX (l.take i)).2.ex.length<=x.ex.length+i/\(x.dX (l.take i)).2.nl<=x.nl+i/\(x.dX (l.take i)).2.nl+(x.dX (l.take i)).2.nt<=x.nl+x.nt+i,l.length,⟨0,rfl,by omega,rfl,w8,E8,⟨F0,hS,fun y c=>e5.none (ab y c),ad⟩,by simp [aF.dX],by simp [aF.dX],by simp [aF.dX]⟩,?_⟩;rintro m b n a2 ⟨i,hi,h6,rfl,S,A,⟨F',j,d,w⟩,r1,r2,r3⟩;simp only [List.cons.injEq,AV.int.injEq,AV.bool.injEq,true_and,and_true] at hi;obtain ⟨rfl,rfl⟩:=hi;refine af.dec (fun Q=>?_) (fun a3=>?_)
  ·obtain ⟨y,c⟩:=cT (l:=l) (i:=i) (by omega);obtain ⟨la,o,h8,h9⟩:=hl.ix (by decide) aW cZ ox c;have C:y.dot.may=true:=by
    have:=B y (List.mem_of_getElem? c);simp only [eJ.may,Bool.and_eq_true] at this;exact this.1
   refine ⟨la,o,h8 _,_,(h9 _ A).2,kj S rfl rfl rfl fun a4 tN k=>?_⟩;refine ⟨_,k.own.at.aC (by simp [bw]),?_⟩;have U:∀ z∈F',tN.h z≠none:=fun z hz hq=>w z hz (k.ext.none hq);have a5:=UD (x.dX (l.take i)).2 y j.ok C (by omega);refine aa.use (Wc (j.ext k.ext) U y C (by omega)) ?_;rintro v zf ⟨rfl,Z,al,am,W,m2⟩ X;have I:=G i y c;have Y:Ext s2 zf:=Ext.Xv (A.trans k.ext) d m2;refine ⟨_,_,rfl,af.no (by decide) ?_⟩;have D:∀ z∈Z,s2.h z=none:=fun z hz=>by
    rcases am z hz with h | h
    ·exact d z h
    ·exact (A.trans k.ext).none h
   have rest:gM Z zf po (x.dX (l.take (i+1))).2/\(x.dX (l.take (i+1))).2.ex.length<=x.ex.length+(i+1)/\(x.dX (l.take (i+1))).2.nl<=x.nl+(i+1)/\(x.dX (l.take (i+1))).2.nl+(x.dX (l.take (i+1))).2.nt<=x.nl+x.nt+(i+1):=by
    rw [I];exact ⟨al,by simp only;omega,by simp only;omega,by simp only;omega⟩
   refine af.mk (fun hb=>?_) (fun hb=>?_)
   ·exact ⟨l.length - (i+1),by omega,i+1,by rw [aX (by omega),I,hb];rfl,by omega,rfl,X,Y,⟨Z,rest.1,D,W⟩,rest.2⟩
   ·exact ⟨l.length - (i+1),by omega,i+1,by rw [aX (by omega),I,hb];rfl,by omega,rfl,X,Y,⟨Z,rest.1,D,W⟩,rest.2⟩
  ·obtain rfl:i=l.length:=by omega
   rw [List.take_length] at *;exact ⟨rfl,S,A,F',j,d,w,by omega,by omega⟩
end
/-! ### the live dots that something holds of -/
def aF.held (x:aF) (P:aJ->Key->Bool) (d:aJ):Bool:=match x.live d with
 | some k=>P d k
 | none=>false
section
variable {F:List Nat} {s:AS} {p:Nat} {x:aF} {g:FuncId} {cap:List AV} {P:aJ->Key->Bool}
theorem ES (h:gM F s p x) (hn:x.nl<65536) (hf:∀ d k s',Ext s s'->aG s'->aa Tryz.prog g ([.agg (aI d),.agg (eZ k)]++cap) s' fun v s''=>v=.bool (P d k)/\Ext s' s'') :
  aa Tryz.prog fN [.ptr (some (p,0)),.func g cap] s fun v s'=>∃ l,aV aI 2 [] s s' v l/\ef l/\(∀ d,d∈l↔x.held P d=true)/\l.length<=x.nl:=by
 refine aa.pre fun hw=>CS _ _ _ _ ?_;obtain ⟨_,_,_,pc,lm,tm,a,_,_,_,_,_,H,_⟩:=id h;obtain ⟨es,c,hm,I,hl⟩:=id H;refine ⟨_,by rw [a.at.au];rfl,MJ (by omega) hm fun v6 s7 l S h2 h3 h4 U=>?_⟩;have J:Ext s s7:=h4.1;have hd:=h4.XJ;refine ⟨_,hd.cJ bI _,fun m vs s'=>∃ (i:Nat) (v:AV),vs=[v,.int .i64 (i:Nat)]/\i<=l.length/\m=l.length - i/\aG s'/\aV aI 2 [] s7 s' v ((l.take i).filter (x.held P)),l.length,⟨0,_,rfl,by omega,rfl,U,by simpa using aV.nil⟩,?_⟩;rintro m K n W ⟨i,v',hi,h6,rfl,L,b⟩;simp only [List.cons.injEq,AV.int.injEq,true_and,and_true] at hi;obtain ⟨rfl,rfl⟩:=hi;refine af.dec (fun X=>?_) (fun Y=>?_)
 ·obtain ⟨d,M⟩:=cT (l:=l) (i:=i) (by omega);obtain ⟨la,o,Z,h9⟩:=hd.ix (by decide) bn bI kq M;have ht:(l.take (i+1)).filter (x.held P)=(l.take i).filter (x.held P)++if x.held P d=true then [d] else []:=by
   rw [List.take_add_one,M,List.filter_append,Option.toList_some];congr 1;cases A:x.held P d <;> simp [List.filter_cons,A]
  refine ⟨la,o,Z _,_,(h9 _ b.eC.ext).2,kj L rfl rfl rfl fun ab gy r=>?_⟩;have y:=J.trans (b.eC.ext.trans r.ext);have O:=a.ext y;obtain ⟨e,he,Q⟩:=(h2 d).1 (List.mem_of_getElem? M);have B:x.live d=some e.2.1:=by rw [<- I,<- Q];exact FL hm.nd he
  have z:bR T cj (.map (some lm)) (.agg (aI d)) false gy=some (.agg (eZ e.2.1)):=by
   have:=(hm.ext y).find va d false;rw [I,B] at this;exact this
  refine ⟨_,r.own.at.aC (by simp [aI]),_,by rw [O.at.au];rfl,_,r.own.at.aC (by simp [aI]),_,z,?_⟩;refine aa.use (hf d e.2.1 gy y r.wf) ?_;rintro v ad ⟨rfl,C⟩ D;have w:x.held P d=P d e.2.1:=by simp [aF.held,B]
  have G:=b.step (r.ext.trans C);have ae:=List.length_filter_le (x.held P) (l.take i);have al:=List.length_take_le i l;refine ⟨_,rfl,af.mk (fun hb=>?_) (fun hb=>?_)⟩
  ·refine ⟨_,(r.own.ext C).at.aC (by simp [aI]),aV.ji iR bn mW D G (by simp) d (by omega) fun v' s' g' w' _=>?_⟩;exact ⟨l.length - (i+1),by omega,i+1,v',by rw [aX (by omega)];rfl,by omega,rfl,w',by rw [ht,w,if_pos hb];exact g'⟩
  ·exact ⟨l.length - (i+1),by omega,i+1,K,by rw [aX (by omega)];rfl,by omega,rfl,D,by rw [ht,w,if_neg (by rw [hb];simp),List.append_nil];exact G⟩
 ·rw [List.take_of_length_le (by omega)] at b;refine ⟨l.filter (x.held P),⟨b.tI,J.mut.trans b.eC,fun la R=>J.none (b.new la R)⟩,S.filter _,fun d=>?_,?_⟩
  ·rw [List.mem_filter,h2];constructor
   ·exact fun h=>h.2
   ·intro hd;refine ⟨?_,hd⟩;unfold aF.held at hd;cases A:x.live d with
    | none=>rw [A] at hd;cases hd
    | some k =>
     rw [<- I] at A;obtain ⟨j,n,hj⟩:=Cj A;exact ⟨_,List.mem_of_getElem? hj,rfl⟩
  ·have:=List.length_filter_le (x.held P) l;omega
end
/-! ### items that are gone -/
def dY (d:aJ):eJ:=⟨d,⟨[],[]⟩,true⟩
theorem GA (d:aJ):aS T q7 [(0,.agg (aI d)),(2,.bool true)]=some (.agg (bw (dY d))):=by kernel_rfl
theorem PJ {s:AS} {a:AV} {l:List aJ} (e:Hw s a l) (B:l.length<=2 ^ 29) :
  aa Tryz.prog fG [a] s fun v s'=>aV bw 5 [] s s' v (l.map dY):=by
 refine aa.pre fun k=>Kw _ _ _ ⟨_,e.cJ bI _,fun m vs s'=>∃ (i:Nat) (v:AV),vs=[v,.int .i64 (i:Nat)]/\i<=l.length/\m=l.length - i/\aG s'/\aV bw 5 [] s s' v ((l.take i).map dY),l.length,⟨0,_,rfl,by omega,rfl,k,by simpa using aV.nil⟩,?_⟩;rintro m C n s7 ⟨i,v',hi,D,rfl,p,c⟩;simp only [List.cons.injEq,AV.int.injEq,true_and,and_true] at hi;obtain ⟨rfl,rfl⟩:=hi;refine af.dec (fun r=>?_) (fun w=>?_)
 ·obtain ⟨d,j⟩:=cT (l:=l) (i:=i) (by omega);obtain ⟨la,o,x,y⟩:=e.ix (by decide) bn bI kq j;have ht:(l.take (i+1)).map dY=(l.take i).map dY++[dY d]:=by
   rw [List.take_add_one,j,List.map_append];rfl
  refine ⟨la,o,x _,_,(y _ c.eC.ext).2,kj p rfl rfl rfl fun z bW b=>?_⟩;refine ⟨_,b.own.at.aC (by simp [aI]),_,GA d,aV.ji gi aW j8 b.wf (c.step b.ext) (by simp) (dY d) (by simp;omega) fun v' s' A w' _=>?_⟩;exact ⟨l.length - (i+1),by omega,i+1,v',by rw [aX (by omega)];rfl,by omega,rfl,w',by rw [ht];exact A⟩
 ·rw [List.take_of_length_le (by omega)] at c;exact c
end Go.Proofs.YtohgmogbabkkeaaGreat
end

section
namespace Go.Proofs.YtohgmogbabkkeaaGreat
open Go.Am Go.av Go.aB
def aF.zero:aF:=⟨fo,[],fun _=>none,fun _=>false,0,0⟩
theorem Q0 (s:AS):aa Tryz.prog Cm [] s fun r s'=>∃ p,r=.ptr (some (p,0))/\s.h p=none/\u5 s s' p fo []/\Ext s s':=by
 refine aa.pre fun b=>QK _ _ ?_;have hb:aS T ov [(2,.bool true)]=some (.agg (fo.map (.int .u64)++[.slc none 0 0 true,.bool true])):=by kernel_rfl
 exact ⟨_,hb,rfl,aj.intro b rfl fun p s1 F=>⟨p,rfl,F.no,⟨rfl,_,F.own,rfl,bq.nil,by simp [ax]⟩,F.ext⟩⟩
theorem Wd (s:AS):aa Tryz.prog wK [] s fun r s'=>∃ p F,r=.ptr (some (p,0))/\gM F s' p aF.zero/\(∀ y∈F,s.h y=none)/\(∀ y∈F,s'.h y≠none)/\Ext s s':=by
 refine aa.pre fun D=>MC _ _ ?_;refine aa.use (Q0 s) ?_;rintro v s2 ⟨pc,rfl,n,C,e2⟩ w2;refine ⟨_,rfl,aj.intro w2 rfl fun lm G e=>aj.intro e.wf rfl fun tm s7 i=>⟨_,Iz _ _ _,rfl,aj.intro i.wf rfl fun p k b=>?_⟩⟩;obtain ⟨Fc,o,w,x⟩:=C.X6 n;have j:=e.ext.trans (i.ext.trans b.ext);have z:=i.ext.trans b.ext;have l:k.h lm=some (.map [] 0 false):=z.1 _ _ e.at;have m:k.h tm=some (.map [] 0 false):=b.ext.1 _ _ i.at;have A:lm≠tm:=by
  rintro rfl;have:=i.no;rw [e.at] at this;cases this
 refine ⟨p,p::lm::tm::Fc,rfl,⟨L_.zero,(fun y c=>by cases c),by simp [aF.zero],pc,lm,tm,b.own,by simp,(o.mut (L:=[]) j.mut (by simp)).sub (fun y c=>by simp [c]),by simp,by simp,A,⟨[],0,dM.new l,fun d=>rfl,rfl⟩,⟨[],0,dM.new m,fun d=>rfl,rfl⟩⟩,?_,?_,e2.trans j⟩
 ·intro y c;simp only [List.mem_cons] at c;rcases c with rfl | rfl | rfl | c
  ·exact e2.none (e.ext.none (i.ext.none b.no))
  ·exact e2.none e.no
  ·exact e2.none (e.ext.none i.no)
  ·exact w y c
 ·intro y c;simp only [List.mem_cons] at c;rcases c with rfl | rfl | rfl | c
  ·rw [b.at];simp
  ·rw [l];simp
  ·rw [m];simp
  ·cases B:s2.h y with
   | none=>exact absurd B (x y c)
   | some ob=>rw [j.1 y ob B];simp
theorem GB {s s':AS} {p:Nat} {cs:List AV} {v:AV} {l:List eJ} (j:s.h p=some (.cells cs 0 false)) (d:∀ c∈cs,∀ n,c≠.int .i64 n) (hs:Sl bw 5 s v l) (m:bz [p] s s'):Sl bw 5 s' v l:=by
 refine Sl.mut hs m aW (by decide) fun q k C b x r i c e o=>?_;obtain rfl:=List.mem_singleton.1 k;obtain ⟨g,ro,b⟩:=b;rw [j] at b;simp only [Option.some.injEq,AO.cells.injEq] at b;obtain ⟨rfl,_⟩:=b;simp only [bw,List.getElem?_cons_zero,Option.some.injEq] at e;exact d c (List.mem_of_getElem? o) _ e.symm
section
variable {F:List Nat} {s s':AS} {p:Nat} {x:aF} {k:Key}
theorem gM.PK {v:AV} {l:List eJ} (h:gM F s p x) (hs:Sl bw 5 s v l) (m:bz [p] s s'):Sl bw 5 s' v l:=by
 obtain ⟨_,_,_,pc,lm,tm,a,_⟩:=h;refine GB a (fun c b n=>?_) hs m;simp only [List.mem_cons,List.not_mem_nil,or_false] at b;rcases b with rfl | rfl | rfl <;> simp
theorem Bz (d:aJ):x.held (fun _ y=>decide (y=k)) d=true↔x.live d=some k:=by
 unfold aF.held;cases x.live d with
 | none=>simp
 | some y=>simp
theorem UG {b:Nat} (d:aJ) (y:Key) (j:At s b (eZ k)):aa Tryz.prog mJ ([.agg (aI d),.agg (eZ y)]++[.ptr (some (b,0))]) s fun v s'=>v=.bool (decide (y=k))/\Ext s s':=by
 refine aa.pre fun l=>Bs _ _ _ _ _ ⟨rfl,aj.intro l rfl fun l1 s2 c=>⟨rfl,aj.intro c.wf rfl fun l3 s4 e=>?_⟩⟩;have i:=c.ext.trans e.ext;exact ⟨_,e.own.at.aC (by simp [eZ]),_,(j.ext i).aC (by simp [eZ]),_,Gz _ _,rfl,i⟩
theorem OM {b:Nat} (d:aJ) (y:Key) (j:At s b (eZ k)):aa Tryz.prog jG ([.agg (aI d),.agg (eZ y)]++[.ptr (some (b,0))]) s fun v s'=>v=.bool (decide (y=k))/\Ext s s':=by
 refine aa.pre fun l=>xw _ _ _ _ _ ⟨rfl,aj.intro l rfl fun l1 s2 c=>⟨rfl,aj.intro c.wf rfl fun l3 s4 e=>?_⟩⟩;have i:=c.ext.trans e.ext;exact ⟨_,e.own.at.aC (by simp [eZ]),_,(j.ext i).aC (by simp [eZ]),_,Gz _ _,rfl,i⟩
theorem UH {b:Nat} (d:aJ) (y:Key) (j:At s b (eZ k)):aa Tryz.prog mF ([.agg (aI d),.agg (eZ y)]++[.ptr (some (b,0))]) s fun v s'=>v=.bool (decide (y=k))/\Ext s s':=by
 refine aa.pre fun l=>By _ _ _ _ _ ⟨rfl,aj.intro l rfl fun l1 s2 c=>⟨rfl,aj.intro c.wf rfl fun l3 s4 e=>?_⟩⟩;have i:=c.ext.trans e.ext;exact ⟨_,e.own.at.aC (by simp [eZ]),_,(j.ext i).aC (by simp [eZ]),_,Gz _ _,rfl,i⟩
theorem S1 (h:gM F s p x) (i:x.nl<65536) (k:Key):aa Tryz.prog iM [.ptr (some (p,0)),.agg (eZ k)] s fun r s'=>(∃ b,r=.bool b/\(b=true↔∃ d,x.live d=some k))/\Ext s s':=by
 refine aa.pre fun j=>Ef _ _ _ _ ⟨rfl,aj.intro j rfl fun l1 s2 c=>?_⟩;refine aa.use (ng (h.ext c.ext)) ?_;rintro v s4 ⟨rfl,rfl⟩ m;refine ⟨_,rfl,af.yes rfl ?_⟩;refine aa.use (ES (P:=fun _ y=>decide (y=k)) (h.ext c.ext) i fun d y s' e _=>UH d y (c.own.at.ext e)) ?_;rintro v s7 ⟨l,g,_,hm,_⟩ n;refine ⟨_,(g.sl bn).cJ bI _,⟨_,rfl,?_⟩,c.ext.trans g.eC.ext⟩;rw [decide_eq_true_eq];constructor
 ·intro o;obtain ⟨d,hd⟩:=List.exists_mem_of_length_pos (l:=l) (by omega);exact ⟨d,(Bz d).1 ((hm d).1 hd)⟩
 ·rintro ⟨d,hd⟩;have:=List.length_pos_of_mem ((hm d).2 ((Bz d).2 hd));omega
theorem We (h:gM F s p x):aa Tryz.prog lq [.ptr (some (p,0))] s fun r s'=>∃ q,r=.ptr (some (q,0))/\s.h q=none/\u5 s s' q x.v x.ex/\Ext s s':=by
 refine Ei _ _ _ ?_;refine aa.use (ng h) ?_;rintro v s2 ⟨rfl,rfl⟩ w2;have b:=h.len;obtain ⟨ok,Gg,hlen,pc,lm,tm,a,c,d,_⟩:=h;refine ⟨_,rfl,af.no rfl ⟨_,by rw [a.at.au];rfl,?_⟩⟩;refine aa.use (Gf d.at (by omega)) ?_;rintro v s8 ⟨q,rfl,i,g,e⟩ _;exact ⟨_,rfl,q,rfl,i,g,e⟩
structure ni (x:aF) (k:Key) (l:List aJ):Prop where
 Rz:ef l
 mem:∀ d,d∈l↔x.live d=some k
 len:l.length<=x.nl
theorem tZ {d:aJ} (h:d.may=true):(dY d).may=true:=by simp [eJ.may,dY,h]
theorem Q1 (h:gM F s p x) (k:Key) (j:∀ d,(x.live d).isSome=true->d.may=true) (I:x.ex.length+x.nl<=4096) (J:x.nl+x.nl<=1024) (K:x.nl+x.nt+x.nl<=4096) :
  aa Tryz.prog lJ [.ptr (some (p,0)),.agg (eZ k)] s fun r s'=>(k.may=false/\r=.aN [.slc none 0 0 true,.int .i64 2]/\Ext s s') \/
   (k.may=true/\∃ v l,ni x k l/\r=.aN [v,.int .i64 0]/\Sl bw 5 s' v (l.map dY)/\∃ F',gM F' s' p (x.dX (l.map dY)).2/\(∀ y∈F',y=p\/s.h y=none)/\(∀ y∈F',s'.h y≠none)/\bz [p] s s'):=by
 refine aa.pre fun L=>zB _ _ _ _ ⟨rfl,aj.intro L rfl fun l1 s2 z=>?_⟩;have h2:=h.ext z.ext;refine aa.use (ng h2) ?_;rintro v s4 ⟨rfl,rfl⟩ Y;refine ⟨_,rfl,af.no rfl ⟨_,z.own.at.aC (by simp [eZ]),?_⟩⟩;refine aa.use (CW k _) ?_;rintro v s8 ⟨rfl,H⟩ Z;have A:=z.ext.trans H;refine ⟨_,rfl,af.mk (fun hb=>.inl ⟨by simpa using hb,rfl,A⟩) (fun hb=>?_)⟩;have M:=z.own.at.ext H;have O:=h.ext A;refine aa.use (ES (P:=fun _ y=>decide (y=k)) O (by omega) fun d y s' e _=>OM d y (M.ext e)) ?_;rintro v Q ⟨l,g,m,hm,B⟩ R;have kd:ni x k l:=⟨m,fun d=>by rw [hm,Bz],B⟩;refine aa.use (PJ (g.sl bn) (by omega)) ?_;rintro C bW n S;have c:=A.trans (g.eC.ext.trans n.eC.ext);have o:=h.ext c;have b:=n.sl aW;refine aa.use (SZ o b (fun i hi=>?_) (by simp;omega) (by simp;omega) (by simp;omega)) ?_
 ·obtain ⟨d,hd,rfl⟩:=List.mem_map.1 hi;exact tZ (j d (by rw [(kd.mem d).1 hd];rfl))
 rintro v gh ⟨rfl,F',U,D,G,w⟩ W;refine ⟨_,_,rfl,.inr ⟨by simpa using hb,C,l,kd,rfl,o.PK b w,F',U,fun y X=>?_,G,c.mut.trans w⟩⟩;rcases D y X with h | h
 ·exact .inl h
 ·exact .inr (c.none h)
theorem GC {s:AS} (d:aG s) {l0:Nat} {i:eJ} (p:At s l0 (bw i)) {v:AV} {l:List eJ} (r:Sl bw 5 s v l) (hb:l.length<=2 ^ 29) {K:AV->AS->Prop} (j:∀ v' s',Sl bw 5 s' v' (i::l)->aG s'->Ext s s'->K v' s'):iT (aL T aE aE (.slc (some (l0,0)) 1 1 true) v s) K:=by
 obtain ⟨b,hlen⟩:=ct.src gi r;have e:=jX gi (base:=some (l0,0)) (len:=1) (cap:=1) (ex:=true) cZ hlen b (by rw [ek aW]) (by omega);have k:Sl bw 5 s (.slc (some (l0,0)) 1 1 true) [i]:=ct.mk p (by simp [bw]) (by simp [bw]);by_cases m:l=[]
 ·subst m;rw [if_pos (by simp)] at e;simp only [List.flatMap_nil,if_true,List.length_nil,Nat.add_zero] at e;exact ⟨_,_,e,j _ _ k d (Ext.refl _)⟩
 ·have n:0<l.length:=List.length_pos_iff.2 m;rw [if_neg (by omega)] at e;have c:=(ct.src gi k).1;simp only [List.length_cons,List.length_nil,Nat.zero_add] at c;rw [c] at e;simp only [Option.bind_some,if_true] at e;rw [show 1+l.length=(i::l).length by simp;omega] at e;have Fr:=d.new (o:=.cells ([i].flatMap bw++l.flatMap bw) 5 false) rfl;refine ⟨_,_,e,j _ _ ?_ Fr.wf Fr.ext⟩;refine ct.mk ⟨_,_,Fr.at⟩ ?_ ?_ ?_
  ·exact ek aW _
  ·rw [List.drop_zero,List.take_of_length_le]
   ·simp
   ·simp [ek aW,bw];omega
  ·exact Nat.le_refl _
theorem GD (d:aJ) (k:Key):aS T q7 [(0,.agg (aI d)),(1,.agg (eZ k))]=some (.agg (bw ⟨d,k,false⟩)):=by kernel_rfl
theorem Wg (h:gM F s p x) (k:Key) (d:aJ) (C:∀ d,(x.live d).isSome=true->d.may=true) (a2:x.ex.length+x.nl<4096) (a3:x.nl+x.nl<1024) (a4:x.nl+x.nt+x.nl<4096) :
  aa Tryz.prog di [.ptr (some (p,0)),.agg (eZ k),.agg (aI d)] s fun r s'=>(¬ (k.may=true/\d.may=true/\ff x.v x.ex d=false)/\r=.aN [.slc none 0 0 true,.int .i64 2]/\Ext s s') \/
   ((k.may=true/\d.may=true/\ff x.v x.ex d=false)/\∃ v l,ni x k l/\r=.aN [v,.int .i64 0]/\Sl bw 5 s' v (⟨d,k,false⟩::l.map dY)/\∃ F',gM F' s' p (x.dX (⟨d,k,false⟩::l.map dY)).2/\(∀ y∈F',y=p\/s.h y=none)/\(∀ y∈F',s'.h y≠none)/\bz [p] s s'):=by
 refine aa.pre fun hw=>D_ _ _ _ _ _ ⟨rfl,aj.intro hw rfl fun l1 s2 O=>⟨rfl,aj.intro O.wf rfl fun l3 s4 Q=>?_⟩⟩;have E4:=O.ext.trans Q.ext;have h4:=h.ext E4;have R:At s4 l1 (eZ k):=(O.own.ext Q.ext).at;have d4:At s4 l3 (aI d):=Q.own.at;refine aa.use (ng h4) ?_;rintro v s6 ⟨rfl,rfl⟩ w6;refine ⟨_,rfl,af.no rfl ⟨fun vs s'=>vs=[.bool !(k.may&&d.may&&!ff x.v x.ex d)]/\Ext s6 s'/\aG s',?_,?_⟩⟩
 ·rintro b a5 ⟨hb,o,a6⟩;simp only [List.cons.injEq,AV.bool.injEq,and_true] at hb;subst hb;have w:=E4.trans o;refine af.mk (fun hb=>.inl ⟨?_,rfl,w⟩) (fun hb=>?_)
  ·rintro ⟨a,b,c⟩;rw [a,b,c] at hb;cases hb
  have D:k.may=true/\d.may=true/\ff x.v x.ex d=false:=by
   simpa [Bool.and_eq_true,and_assoc] using hb
  have S:=h.ext w;refine aa.use (ES (P:=fun _ y=>decide (y=k)) S (by omega) fun d y s' e _=>UG d y ((R.ext o).ext e)) ?_;rintro v11 dH ⟨l,g,G,hm,U⟩ a7;have kd:ni x k l:=⟨G,fun d=>by rw [hm,Bz],U⟩;have H:=o.trans g.eC.ext;have I:=g.sl bn;refine ⟨fun q _ v s'=>(q=3->∃ l,v=.slc (some (l,0)) 1 1 true/\At s' l (bw ⟨d,k,false⟩))/\(q=5->Sl bw 5 s' v (l.map dY)),fun q _ v=>q=3->∃ l,v=.slc (some (l,0)) 1 1 true,?_,_,(d4.ext H).aC (by simp [aI]),_,(R.ext H).aC (by simp [eZ]),_,GD d k,fun a8 a9 W _=>?_,⟨.slc (some (0,0)) 1 1 true,fun _=>⟨0,rfl⟩⟩,fun v20 a1=>⟨fun gG X a' _=>?_,⟨.undef,(fun h=>by cases h)⟩,fun ba _ dZ Y Z hS=>?_⟩⟩
  ·rintro q ks v s s' e ⟨h1,h2⟩;refine ⟨fun hq=>?_,fun hq=>(h2 hq).ext e⟩;obtain ⟨l,a,b⟩:=h1 hq;exact ⟨l,a,b.ext e⟩
  ·exact ⟨_,kL gi (aW _) (j8 _),aj.intro W rfl fun z jl J=>⟨J.ext,⟨(fun _=>⟨z,rfl,J.own.at⟩),(fun h=>by cases h)⟩,fun _=>⟨z,rfl⟩⟩⟩
  ·refine (PJ (I.ext X) (by omega)).mono ?_;rintro bb uj K;exact ⟨K.eC.ext,⟨(fun h=>by cases h),fun _=>K.sl aW⟩,(fun h=>by cases h)⟩
  ·obtain ⟨z,rfl,hi⟩:=hS.1.1 rfl;have hg:=hS.2.1.2 rfl;refine GC Z hi hg (by simp;omega) fun ab bc n bd ad=>?_;have A:=w.trans (g.eC.ext.trans (Y.trans ad));have L:=h.ext A;refine aa.use (SZ L n (fun i hi=>?_) (by simp;omega) (by simp;omega) (by simp;omega)) ?_
   ·rcases List.mem_cons.1 hi with rfl | hi
    ·simp [eJ.may,D]
    ·obtain ⟨d,hd,rfl⟩:=List.mem_map.1 hi;exact tZ (C d (by rw [(kd.mem d).1 hd];rfl))
   rintro v be ⟨rfl,F',ae,al,am,M⟩ bh;refine ⟨_,_,rfl,af.no (by decide) (.inr ⟨D,ab,l,kd,rfl,L.PK n M,F',ae,fun y hy=>?_,am,A.mut.trans M⟩)⟩;rcases al y hy with h | h
   ·exact .inl h
   ·exact .inr (A.none h)
 ·refine ⟨_,R.aC (by simp [eZ]),?_⟩;refine aa.use (CW k _) ?_;rintro v bi ⟨rfl,B⟩ an;refine ⟨_,rfl,af.mk (fun hb=>⟨by simp only [Bool.not_eq_true'] at hb;rw [hb];rfl,B,an⟩) (fun hb=>⟨_,(d4.ext B).aC (by simp [aI]),?_⟩)⟩;simp only [Bool.not_eq_false'] at hb;refine aa.use (ru d _) ?_;rintro v bj ⟨rfl,ao⟩ ar;have j:=B.trans ao;refine ⟨_,rfl,af.mk (fun m=>⟨by simp only [Bool.not_eq_true'] at m;rw [hb,m];rfl,j,ar⟩) (fun m=>?_)⟩;simp only [Bool.not_eq_false'] at m;obtain ⟨ok,Gg,hlen,pc,lm,tm,a,_,hc,_⟩:=h4.ext j;refine ⟨_,by rw [a.at.au];rfl,_,(d4.ext j).aC (by simp [aI]),?_⟩;refine aa.use (zn hc.at ok.r (by omega) d) ?_;rintro v tN ⟨rfl,aw⟩ a0;exact ⟨_,rfl,by rw [hb,m];simp,j.trans aw,a0⟩
end
end Go.Proofs.YtohgmogbabkkeaaGreat
end

section
namespace Go.Proofs.YtohgmogbabkkeaaGreat
open Go.Am Go.av Go.aB
section
variable {m:Nat} {es:List (aJ×Key×Nat)} {c:Nat} {ro:Bool} {s:AS}
end
section
variable {F:List Nat} {s s':AS} {p:Nat} {x:aF}
end
end Go.Proofs.YtohgmogbabkkeaaGreat
end

section
namespace Go.Proofs.YtohgmogbabkkeaaGreat
open Go.Am Go.av Go.aB
def aF.has (x:aF) (d:aJ):Bool:=ff x.v x.ex d
theorem aF.qy {x:aF} {d:aJ} (h:x.has d=true):d.may=true:=by
 simp only [aF.has,ff,Bool.and_eq_true] at h;exact h.1
def aF.keeps (x:aF) (d:aJ):Prop:=d∈x.ex\/(x.live d).isSome=true\/x.rD d=true
structure nr (x:aF) (B:Nat):Prop where
 ok:L_ x.v x.ex
 Gg:SR x.v x.ex
 lv:∀ d k,x.live d=some k->x.has d=true/\k.may=true
 tb:∀ d,x.rD d=true->x.has d=true/\x.live d=none
 sz:∃ U:List aJ,U.length<=B/\∀ d,x.keeps d->d∈U
theorem nr.zero:nr aF.zero 0:=⟨L_.zero,(fun y b=>by cases b),(fun d k h=>by cases h),(fun d h=>by cases h),[],by simp,fun d h=>by
  rcases h with h | h | h
  ·cases h
  ·cases h
  ·cases h⟩
theorem nr.mono {x:aF} {B B':Nat} (h:nr x B) (hb:B<=B'):nr x B':=by
 obtain ⟨a,b,c,d,U,e,f⟩:=h;exact ⟨a,b,c,d,U,by omega,f⟩
section
variable {x:aF} {B:Nat} {i:eJ}
theorem PL {v:List Int} {ex:List aJ} {d:aJ} (h:ff v ex d=false):zo v ex d=compact v (ins ex d):=by simp [zo,h]
theorem BA (h:nr x B) (hi:i.dot.may=true) (d:aJ):(x.mo i).2.has d=(x.has d||decide (d=i.dot)):=by
 unfold aF.mo;split
 ·rename_i m;simp only [Bool.and_eq_true] at m;obtain ⟨k,n⟩:=Option.isSome_iff_exists.1 m.1;have:=(h.lv _ _ n).1;by_cases e:d=i.dot
  ·subst e;simp only [aF.has] at this ⊢;simp [this]
  ·simp [aF.has,e]
 ·split
  ·rename_i c;by_cases e:d=i.dot
   ·subst e;simp [aF.has,c]
   ·simp [aF.has,e]
  ·rename_i c;have j:ff x.v x.ex i.dot=false:=by simpa using c
   have key:ff (compact x.v (ins x.ex i.dot)).1 (compact x.v (ins x.ex i.dot)).2 d=(ff x.v x.ex d||decide (d=i.dot)):=by
    have:=Md h.ok hi d;rw [PL j] at this;cases l:ff (compact x.v (ins x.ex i.dot)).1 (compact x.v (ins x.ex i.dot)).2 d with
    | true=>rcases this.1 l with h | h <;> simp [h]
    | false =>
     cases b:(ff x.v x.ex d||decide (d=i.dot)) with
     | false=>rfl
     | true =>
      simp only [Bool.or_eq_true,decide_eq_true_eq] at b;rw [this.2 b] at l;cases l
   split
   ·exact key
   ·exact key
theorem rE (h:nr x B) (d:aJ):(x.mo i).2.live d=if d=i.dot then (if i.gone then none else if x.has d then x.live d else some i.key) else x.live d:=by
 unfold aF.mo;split
 ·rename_i c;simp only [Bool.and_eq_true] at c;simp [c.2]
 ·rename_i c;split
  ·rename_i l;by_cases e:d=i.dot
   ·subst e;cases j:i.gone with
    | true =>
     rw [j,Bool.and_true] at c;simp only [if_true];simpa using c
    | false=>simp [aF.has,l]
   ·simp [e]
  ·rename_i l;have b:x.live i.dot=none:=by
    cases m:x.live i.dot with
    | none=>rfl
    | some k=>exact absurd (h.lv _ _ m).1 l
   split
   ·rename_i j;by_cases e:d=i.dot
    ·subst e;simp [j,b]
    ·simp [e]
   ·rename_i j;by_cases e:d=i.dot
    ·subst e;simp [j,aF.has,l]
    ·simp [e]
theorem BB (h:nr x B) (d:aJ):(x.mo i).2.rD d=(x.rD d||(decide (d=i.dot)&&i.gone&&((x.live d).isSome||!x.has d))):=by
 unfold aF.mo;split
 ·rename_i b;simp only [Bool.and_eq_true] at b;by_cases e:d=i.dot
  ·subst e;simp [b.1,b.2]
  ·simp [e]
 ·rename_i b;split
  ·rename_i j;by_cases e:d=i.dot
   ·subst e;have:((x.live i.dot).isSome||!x.has i.dot)=(x.live i.dot).isSome:=by simp [aF.has,j]
    rw [this];cases c:i.gone with
    | true=>rw [c,Bool.and_true] at b;simp [b]
    | false=>simp
   ·simp [e]
  ·rename_i j;have k:x.has i.dot=false:=by simpa [aF.has] using j
   split
   ·rename_i c;by_cases e:d=i.dot
    ·subst e;simp [c,k]
    ·simp [e]
   ·rename_i c;simp [c]
theorem UI (h:nr x B):(x.mo i).1=(((x.live i.dot).isSome&&i.gone)||!x.has i.dot):=by
 unfold aF.mo;split
 ·rename_i b;simp [b]
 ·rename_i b;have c:((x.live i.dot).isSome&&i.gone)=false:=by simpa using b
  rw [c];split
  ·rename_i d;simp [aF.has,d]
  ·rename_i d;split <;> simp [aF.has,d]
theorem ve (h:nr x B) (hi:i.may=true):nr (x.mo i).2 (if x.has i.dot then B else B+1):=by
 have b:i.dot.may=true:=by simp only [eJ.may,Bool.and_eq_true] at hi;exact hi.1
 have j:L_ (x.mo i).2.v (x.mo i).2.ex/\SR (x.mo i).2.v (x.mo i).2.ex:=by
  unfold aF.mo;split
  ·exact ⟨h.ok,h.Gg⟩
  ·split
   ·exact ⟨h.ok,h.Gg⟩
   ·rename_i c;have m:ff x.v x.ex i.dot=false:=by simpa using c
    have n:=h.ok.add b;have h2:=SR.add h.ok h.Gg b;rw [PL m] at n h2;split <;> exact ⟨n,h2⟩
 refine ⟨j.1,j.2,fun d k hd=>?_,fun d hd=>?_,?_⟩
 ·rw [rE h] at hd;rw [BA h b];by_cases e:d=i.dot
  ·subst e;rw [if_pos rfl] at hd;refine ⟨by simp,?_⟩;split at hd
   ·cases hd
   ·split at hd
    ·exact (h.lv _ _ hd).2
    ·rename_i l _;simp only [Option.some.injEq] at hd;subst hd;simp only [eJ.may,Bool.and_eq_true] at hi;have:=hi.2;rw [if_neg l] at this;exact this
  ·rw [if_neg e] at hd;have:=h.lv _ _ hd;exact ⟨by simp [this.1],this.2⟩
 ·rw [BB h] at hd;rw [BA h b,rE h];simp only [Bool.or_eq_true,Bool.and_eq_true,decide_eq_true_eq] at hd;rcases hd with hd | ⟨⟨rfl,l⟩,_⟩
  ·have:=h.tb _ hd;refine ⟨by simp [this.1],?_⟩;by_cases e:d=i.dot
   ·subst e;simp [this.1,this.2]
   ·rw [if_neg e];exact this.2
  ·refine ⟨by simp,by simp [l]⟩
 ·obtain ⟨U,p,hm⟩:=h.sz;have o:∀ d,((x.mo i).2.live d).isSome=true->(x.live d).isSome=true\/(d=i.dot/\x.has i.dot=false):=by
   intro d hd;rw [rE h] at hd;by_cases e:d=i.dot
   ·subst e;rw [if_pos rfl] at hd;split at hd
    ·cases hd
    ·split at hd
     ·exact .inl hd
     ·rename_i r;exact .inr ⟨rfl,by simpa using r⟩
   ·rw [if_neg e] at hd;exact .inl hd
  have ht:∀ d,(x.mo i).2.rD d=true->x.keeps d\/(d=i.dot/\x.has i.dot=false):=by
   intro d hd;rw [BB h] at hd;simp only [Bool.or_eq_true,Bool.and_eq_true,decide_eq_true_eq] at hd;rcases hd with hd | ⟨⟨rfl,l⟩,hd | hd⟩
   ·exact .inl (.inr (.inr hd))
   ·exact .inl (.inr (.inl hd))
   ·exact .inr ⟨rfl,by simpa using hd⟩
  by_cases c:x.has i.dot=true
  ·rw [if_pos c];have hex:(x.mo i).2.ex=x.ex:=by
    unfold aF.mo;split
    ·rfl
    ·rw [if_pos (show ff x.v x.ex i.dot=true from c)]
   refine ⟨U,p,fun d hd=>?_⟩;rcases hd with hd | hd | hd
   ·rw [hex] at hd;exact hm _ (.inl hd)
   ·rcases o d hd with hd | ⟨_,hd⟩
    ·exact hm _ (.inr (.inl hd))
    ·rw [c] at hd;cases hd
   ·rcases ht d hd with hd | ⟨_,hd⟩
    ·exact hm _ hd
    ·rw [c] at hd;cases hd
  ·rw [if_neg c];have hex:∀ d∈(x.mo i).2.ex,d=i.dot\/d∈x.ex:=by
    intro d hd;unfold aF.mo at hd;split at hd
    ·exact .inr hd
    ·split at hd
     ·exact .inr hd
     ·have:d∈(compact x.v (ins x.ex i.dot)).2:=by split at hd <;> exact hd
      exact uH.1 ((rT _ _).subset this)
   refine ⟨i.dot::U,by simp;omega,fun d hd=>?_⟩;rcases hd with hd | hd | hd
   ·rcases hex d hd with rfl | hd
    ·simp
    ·simp [hm _ (.inl hd)]
   ·rcases o d hd with hd | ⟨rfl,_⟩
    ·simp [hm _ (.inr (.inl hd))]
    ·simp
   ·rcases ht d hd with hd | ⟨rfl,_⟩
    ·simp [hm _ hd]
    ·simp
end
theorem ML (x:aF):x.dX []=(false,x):=rfl
theorem GF:∀ (l:List eJ) (b:Bool) (x:aF),l.foldl (fun a i=>(a.1||(a.2.mo i).1,(a.2.mo i).2)) (b,x)=(b||(x.dX l).1,(x.dX l).2)
 | [],b,x=>by simp [aF.dX]
 | i::l,b,x=>by
  unfold aF.dX;simp only [List.foldl_cons];rw [GF l,GF l (false||_)];simp [Bool.or_assoc]
theorem qM (x:aF) (i:eJ) (l:List eJ):x.dX (i::l)=((x.mo i).1||((x.mo i).2.dX l).1,((x.mo i).2.dX l).2):=by
 conv=>lhs;unfold aF.dX
 rw [List.foldl_cons,GF];simp
theorem nr.dX:∀ (l:List eJ) {x:aF} {B:Nat},nr x B->(∀ i∈l,i.may=true)->nr (x.dX l).2 (B+l.length)
 | [],x,B,h,_=>h
 | i::l,x,B,h,b=>by
  rw [qM];have c:=(ve h (b i (by simp))).mono (B':=B+1) (by split <;> omega);have:=nr.dX l c fun j hj=>b j (by simp [hj]);exact this.mono (by simp;omega)
theorem nr.MN:∀ (l:List eJ) {x:aF} {B:Nat},nr x B->(∀ i∈l,i.may=true)->(∀ i∈l,x.has i.dot=true)->nr (x.dX l).2 B
 | [],x,B,h,_,_=>h
 | i::l,x,B,h,d,b=>by
  rw [qM];have e:=ve h (d i (by simp));rw [if_pos (b i (by simp))] at e;have c:i.dot.may=true:=aF.qy (b i (by simp));exact nr.MN l e (fun j hj=>d j (by simp [hj])) fun j hj=>by rw [BA h c,b j (by simp [hj])];rfl
/-! ### how great -/
theorem j9 {l:List aJ} (h:ef l):l.Nodup:=h.imp fun {a b} c e=>by subst e;exact aJ.lt_irrefl _ c
theorem gM.Xe {F:List Nat} {s:AS} {p:Nat} {x:aF} {B:Nat} (h:gM F s p x) (o:nr x B):x.nl+x.nt<=B/\x.ex.length<=B:=by
 obtain ⟨ok,Gg,hlen,pc,lm,tm,a,n,G,w,y,z,⟨es,c,A,h2,h3⟩,⟨es',c',k,i,C⟩⟩:=h;obtain ⟨U,H,hm⟩:=o.sz;have D:(es.map fun e=>e.1).Nodup:=List.pairwise_map.2 A.nd;have n2:(es'.map fun e=>e.1).Nodup:=List.pairwise_map.2 k.nd;constructor
 ·have l:((es.map fun e=>e.1)++(es'.map fun e=>e.1)).Nodup:=by
   refine List.nodup_append.2 ⟨D,n2,fun a m b hb=>?_⟩;rintro rfl;rw [o_,h2] at m;rw [o_,i] at hb;cases j:x.rD a with
   | false=>rw [j] at hb;cases hb
   | true=>rw [(o.tb _ j).2] at m;cases m
  have:=lW l fun d hd=>hm d ?_
  ·simp only [List.length_append,List.length_map] at this;omega
  ·rcases List.mem_append.1 hd with hd | hd
   ·rw [o_,h2] at hd;exact .inr (.inl hd)
   ·rw [o_,i] at hd;cases j:x.rD d with
    | false=>rw [j] at hd;cases hd
    | true=>exact .inr (.inr j)
 ·have:=lW (j9 ok.r) fun d hd=>hm d ?_
  ·omega
  ·exact .inl hd
/-! ### rows in order -/
theorem PM {α:Type} {r:α->α->Prop} (c:∀ a,¬ r a a) (i:∀ a b,r a b->¬ r b a):∀ {l l':List α},l.Pairwise r->l'.Pairwise r->(∀ x,x∈l↔x∈l')->l=l'
 | [],[],_,_,_=>rfl
 | [],b::l',_,_,h=>by have:=(h b).2 (by simp);cases this
 | a::l,[],_,_,h=>by have:=(h a).1 (by simp);cases this
 | a::l,b::l',n,h2,h=>by
  obtain ⟨p1,o⟩:=List.pairwise_cons.1 n;obtain ⟨m,p⟩:=List.pairwise_cons.1 h2;have k:a=b:=by
   rcases List.mem_cons.1 ((h a).1 (by simp)) with e | w
   ·exact e
   ·rcases List.mem_cons.1 ((h b).2 (by simp)) with e | hb
    ·exact e.symm
    ·exact absurd (p1 b hb) (i _ _ (m a w))
  subst k;have:=PM c i o p fun x=>by
   constructor
   ·intro j;rcases List.mem_cons.1 ((h x).1 (by simp [j])) with e | d
    ·subst e;exact absurd (p1 x j) (c x)
    ·exact d
   ·intro j;rcases List.mem_cons.1 ((h x).2 (by simp [j])) with e | d
    ·subst e;exact absurd (m x j) (c x)
    ·exact d
  rw [this]
theorem aJ.UJ {a b:aJ} (h:a.lt b=true):¬ b.lt a=true:=by
 rw [aJ.lt_iff] at *;omega
theorem MO {l l':List aJ} (h:ef l) (c:ef l') (hm:∀ d,d∈l↔d∈l'):l=l' :=
 PM (fun a h=>aJ.lt_irrefl _ h) (fun a b=>aJ.UJ) h c hm
theorem ni.has {x:aF} {B:Nat} (o:nr x B) {k:Key} {l:List aJ} (h:ni x k l) {d:aJ} (hd:d∈l):x.has d=true:=(o.lv d k ((h.mem d).1 hd)).1
/-! ### a law's own sets -/
def Dj (F G:List Nat):Prop:=∀ y∈F,y ∉ G
theorem Dj.symm {F G:List Nat} (h:Dj F G):Dj G F:=fun y b hf=>h y hf b
section
variable {s0 s s':AS} {F F' G:List Nat} {p q:Nat} {x y:aF} {B C:Nat}
theorem gM.pF (h:gM F s p x):p∈F:=by obtain ⟨_,_,_,pc,lm,tm,_,h,_⟩:=h;exact h
theorem IA {L:List Nat} (h:∀ y∈F,s.h y≠none) (m:bz L s s') (d:Dj L F):∀ y∈F,s'.h y≠none:=by
 intro y b;cases c:s.h y with
 | none=>exact absurd c (h y b)
 | some o=>rw [m.1 y o (fun e=>d y e b) c];simp
theorem Dj.step (d:Dj F G) (ht:∀ y∈G,s.h y≠none) (c:∀ y∈F',y∈F\/s.h y=none):Dj F' G:=by
 intro y e b;rcases c y e with h | h
 ·exact d y h b
 ·exact ht y b h
end
end Go.Proofs.YtohgmogbabkkeaaGreat
end

section
namespace Go.Proofs.YtohgmogbabkkeaaGreat
open Go.Am Go.av Go.aB
section
variable {s0 s:AS} {F:List Nat} {p:Nat} {x:aF} {B:Nat}
theorem nr.Xf (h:nr x B):∀ d,(x.live d).isSome=true->d.may=true:=fun d hd=>by
 obtain ⟨k,b⟩:=Option.isSome_iff_exists.1 hd;exact aF.qy (h.lv _ _ b).1
theorem xX {l:List aJ} (h:∀ d∈l,d.may=true):∀ i∈l.map dY,i.may=true:=fun i hi=>by
 obtain ⟨d,hd,rfl⟩:=List.mem_map.1 hi;exact tZ (h d hd)
theorem nr.IB (o:nr x B) {l:List aJ} (h:∀ d∈l,x.has d=true):nr (x.dX (l.map dY)).2 B :=
 o.MN _ (xX fun d hd=>aF.qy (h d hd)) fun i hi=>by
  obtain ⟨d,hd,rfl⟩:=List.mem_map.1 hi;exact h d hd
theorem nr.add (o:nr x B) {k:Key} {d:aJ} {l:List aJ} (b:k.may=true) (hd:d.may=true) (c:ni x k l):nr (x.dX (⟨d,k,false⟩::l.map dY)).2 (B+1):=by
 rw [qM];have hi:(⟨d,k,false⟩:eJ).may=true:=by simp [eJ.may,b,hd]
 have e:=(ve o hi).mono (B':=B+1) (by split <;> omega);exact e.IB fun y i=>by rw [BA o hd,c.has o i];rfl
end
/-! ### what is seen and live,by cases -/
end Go.Proofs.YtohgmogbabkkeaaGreat
end

section
set_option maxRecDepth 100000
set_option maxHeartbeats 4000000
namespace Go.Proofs.YtohgmogbabkkeaaGreat
open Go.Am
end Go.Proofs.YtohgmogbabkkeaaGreat
end

section
namespace Go.Proofs.YtohgmogbabkkeaaGreat
open Go.Am Go.av Go.aB
theorem qN (a b:List UInt8):aS T ko [(0,.str a),(1,.str b)]=some (.agg (eZ ⟨a,b⟩)):=by kernel_rfl
theorem zD (r c:Int):aS T gV [(0,.int .i64 r),(1,.int .u64 c)]=some (.agg (aI ⟨r,c⟩)):=by kernel_rfl
theorem oS {s:AS} {l o n m:Nat} {cs:List AV} (h:aC s l o n=some cs) (hm:m<=n):aC s l o m=some (cs.take m):=by
 unfold Am.aC at *;split at h
 ·rename_i C g ro b;split at h
  ·rename_i c;rw [if_pos (by omega)];simp only [Option.some.injEq] at h;rw [<- h,List.take_take];congr 2;omega
  ·cases h
 ·cases h
end Go.Proofs.YtohgmogbabkkeaaGreat
end

section
namespace Go.Proofs.YtohgmogbabkkeaaGreat
open Go.Am Go.av Go.aB Go.ChangeShapes Go.WideShapes Go.ChangeAt Go.RowKit
theorem GG (t:List UInt8) (s:AS):aa Tryz.prog qk [.str t] s fun v s'=>v=.bool (aK t)/\s'=s:=by
 refine KC _ _ _ ⟨_,kZ t s,af.dec (fun h=>⟨_,kZ t s,?_,rfl⟩) (fun h=>⟨?_,rfl⟩)⟩
 ·congr 1;rw [aK,decide_eq_decide];omega
 ·congr 1;symm;rw [aK,decide_eq_false_iff_not];omega
section
variable {s0 s s':AS} {pa pb:Nat} {xa xb:aF} {Ba Bb:Nat} {sl:List (AV×List eJ)}
end
end Go.Proofs.YtohgmogbabkkeaaGreat
end

section
set_option maxRecDepth 100000
set_option maxHeartbeats 4000000
namespace Go.Proofs.YtohgmogbabkkeaaGreat
open Go.Am
def BC (a0:Option (Nat×Nat)) (a1:List UInt8) (s:AS) (R:AV->AS->Prop):Prop :=
 aj (.cells [.str a1] 0 false) s fun l1 s2=>aa Tryz.prog bZ [.ptr a0] s2 fun I s4=>∃ G:Bool,I=.bool G/\(af (!G)
 (R (.slc none 0 0 true) s4)
 (aa Tryz.prog fN [.ptr a0,(.func kF [(.ptr (some (l1,0)))])] s4 fun H s7=>aU .i64 (aQ T az H s7) fun J=>bA fun k l=>k l [.slc none 0 0 true,.int .i64 0] s7 /\
 ∀ i:Nat,∀ d:AV,∀ b:Int,∀ c:AS,k i [d,.int .i64 b] c ->
 af (decide ((b:Int)<J))
 (bJ (ag T az H (.int .i64 b)) fun m n=>aR (aC c m n 2) fun j=>aj (.cells [.int .i64 0,.int .u64 0] 0 false) c fun e jl=>fC (some 2) j (bu (cU jl e 0 j) fun gy=>aR (aC gy e 0 2) fun o=>ai a0 fun p r=>yD (au gy p (r+1)) fun w=>aR (aC gy e 0 2) fun x=>nQ (bR T cj (.map w) (.agg x) false gy) fun y=>rG (y[1]?) fun z=>nQ (aS T wS [(0,.agg o),(1,.str z)]) fun A=>aR (dw T bL 1 [(0,.agg A)]) fun B=>aj (.cells B 0 false) gy fun C nK=>iT (aL T bL bL d (.slc (some (C,0)) 1 1 true) nK) fun D F=>∃ m',m'<i/\k m' [D,(.int .i64 (IntKind.wrap .i64 (b+1)))] F))
 (R d c)))
def BD:QA:=(.seq .leaf (.seq (.seq .leaf (.cond (.seq .leaf .leaf) .leaf)) (.seq .leaf (.seq (.seq .leaf (.wrap (.loop [(5,.any),(15,.int .i64)] [(5,5),(7,7),(15,31)] (.seq .leaf (.seq (.cond .leaf .leaf) (.seq (.wrap (.seq .leaf .calm)) .leaf)))))) (.seq .leaf .leaf)))))
theorem BE (a0:Option (Nat×Nat)) (a1:List UInt8) (s:AS) (R:AV->AS->Prop) (h:BC a0 a1 s R):aa Tryz.prog cX [.ptr a0,.str a1] s R :=
 aa.q (n:=33) (rs:=[.tmp 4]) (A:=BD) hT bY Tryz.func72 (by kernel_rfl) rfl rfl rfl (by kernel_rfl) (by kernel_rfl) h
def yz (a0:List AV) (a1:List AV) (c0:Option (Nat×Nat)) (s:AS) (R:AV->AS->Prop):Prop :=
 cH a0 (aj (.cells a0 0 false) s fun l1 s2=>cH a1 (aj (.cells a1 0 false) s2 fun l3 s4=>rG (au s4 l3 0) fun b=>ai c0 fun c d=>rG (au s4 c d) fun e=>R (.bool ((b:List UInt8)==e)) s4))
def yA:QA:=(.seq .leaf (.seq .leaf .leaf))
theorem yB (a0:List AV) (a1:List AV) (c0:Option (Nat×Nat)) (s:AS) (R:AV->AS->Prop) (h:yz a0 a1 c0 s R):aa Tryz.prog kF [.agg a0,.agg a1,.ptr c0] s R :=
 aa.q (n:=10) (rs:=[.tmp 5]) (A:=yA) hT bY Tryz.func154 (by kernel_rfl) rfl rfl rfl (by kernel_rfl) (by kernel_rfl) h
def CX (a0:Option (Nat×Nat)) (s:AS) (R:AV->AS->Prop):Prop :=
 bA fun c m2=>c m2 [.slc none 0 0 true,.int .i64 0] s /\
 ∀ e:Nat,∀ d:AV,∀ b:Int,∀ s6:AS,c e [d,.int .i64 b] s6 ->
 ai a0 fun D F=>dI (au s6 D (F+17)) fun G=>aU .i64 (aQ T aE G s6) fun i=>af (decide ((b:Int)<i))
 (ai a0 fun j k=>dI (au s6 j (k+17)) fun l=>bJ (ag T aE l (.int .i64 b)) fun ku m=>NM (au s6 ku (m+4)) fun n=>af (!n)
 (ai a0 fun o p=>dI (au s6 o (p+17)) fun r=>bJ (ag T aE r (.int .i64 b)) fun w x=>aR (aC s6 w x 5) fun y=>aR (dw T aE 1 [(0,.agg y)]) fun z=>aj (.cells z 0 false) s6 fun A dZ=>iT (aL T aE aE d (.slc (some (A,0)) 1 1 true) dZ) fun B C=>∃ m',m'<e/\c m' [B,(.int .i64 (IntKind.wrap .i64 (b+1)))] C)
 (∃ m',m'<e/\c m' [d,(.int .i64 (IntKind.wrap .i64 (b+1)))] s6))
 (R d s6)
def CY:QA:=(.seq .leaf (.seq .leaf (.seq (.seq .leaf (.wrap (.loop [(3,.any),(4,.int .i64)] [(3,32)] (.seq (.seq .leaf (.cond .leaf .leaf)) (.seq (.wrap (.seq .leaf (.cond .leaf .leaf))) .leaf))))) (.seq .leaf .leaf))))
theorem CZ (a0:Option (Nat×Nat)) (s:AS) (R:AV->AS->Prop) (h:CX a0 s R):aa Tryz.prog nX [.ptr a0] s R :=
 aa.q (n:=34) (rs:=[.tmp 2]) (A:=CY) hT bY Tryz.func155 (by kernel_rfl) rfl rfl rfl (by kernel_rfl) (by kernel_rfl) h
def zE (a0:Option (Nat×Nat)) (a1:List AV) (s:AS) (R:AV->AS->Prop):Prop :=
 cH a1 (aj (.cells a1 0 false) s fun l1 s2=>aR (aC s2 l1 0 2) fun n=>aa Tryz.prog mH [.ptr a0,.agg n] s2 fun o m=>∃ d:Int,o=.int .i64 d/\(ai a0 fun p r=>aR (aC m l1 0 2) fun w=>aa Tryz.prog lz [(.ptr (some (p,r))),.agg w] m fun v10 b=>∃ c:Bool,v10=.bool c/\(af c (af (decide ((d:Int)<0)) (R (.bool true) b) (ai a0 fun e i=>dI (au b e (i+17)) fun j=>bJ (ag T aE j (.int .i64 d)) fun pT k=>NM (au b pT (k+4)) fun l=>R (.bool l) b)) (R (.bool false) b))))
def zF:QA:=(.seq .leaf (.seq .leaf (.seq .calm .leaf)))
theorem zG (a0:Option (Nat×Nat)) (a1:List AV) (s:AS) (R:AV->AS->Prop) (h:zE a0 a1 s R):aa Tryz.prog iz [.ptr a0,.agg a1] s R :=
 aa.q (n:=28) (rs:=[.tmp 4]) (A:=zF) hT bY Tryz.func26 (by kernel_rfl) rfl rfl rfl (by kernel_rfl) (by kernel_rfl) h
def BF (a0:Option (Nat×Nat)) (a1:List UInt8) (s:AS) (R:AV->AS->Prop):Prop :=
 aa Tryz.prog nX [.ptr a0] s fun c s2=>bA fun d A=>d A [.slc none 0 0 true,.int .i64 0] s2 /\
 ∀ i:Nat,∀ e:AV,∀ b:Int,∀ s8:AS,d i [e,.int .i64 b] s8 ->
 aU .i64 (aQ T aE c s8) fun B=>af (decide ((b:Int)<B))
 (bJ (ag T aE c (.int .i64 b)) fun oQ j=>rG (au s8 oQ (j+2)) fun k=>af ((k:List UInt8)==a1)
 (bJ (ag T aE c (.int .i64 b)) fun l m=>aR (aC s8 l m 2) fun n=>bJ (ag T aE c (.int .i64 b)) fun pT o=>rG (au s8 pT (o+3)) fun p=>nQ (aS T wS [(0,.agg n),(1,.str p)]) fun r=>aR (dw T bL 1 [(0,.agg r)]) fun w=>aj (.cells w 0 false) s8 fun x fT=>iT (aL T bL bL e (.slc (some (x,0)) 1 1 true) fT) fun y z=>∃ m',m'<i/\d m' [y,(.int .i64 (IntKind.wrap .i64 (b+1)))] z)
 (∃ m',m'<i/\d m' [e,(.int .i64 (IntKind.wrap .i64 (b+1)))] s8))
 (R e s8)
def BG:QA:=(.seq .leaf (.seq .leaf (.seq .leaf (.seq (.seq .leaf (.wrap (.loop [(5,.any),(7,.int .i64)] [(5,5),(7,7),(10,38)] (.seq (.seq .leaf (.cond .leaf .leaf)) (.seq (.wrap (.seq .leaf (.cond .calm .leaf))) .leaf))))) (.seq .leaf .leaf)))))
theorem BH (a0:Option (Nat×Nat)) (a1:List UInt8) (s:AS) (R:AV->AS->Prop) (h:BF a0 a1 s R):aa Tryz.prog cY [.ptr a0,.str a1] s R :=
 aa.q (n:=40) (rs:=[.tmp 4]) (A:=BG) hT bY Tryz.func74 (by kernel_rfl) rfl rfl rfl (by kernel_rfl) (by kernel_rfl) h
def Ep (a0:Option (Nat×Nat)) (a1:List AV) (s:AS) (R:AV->AS->Prop):Prop :=
 cH a1 (aj (.cells a1 0 false) s fun l1 s2=>aR (aC s2 l1 0 2) fun g3=>aa Tryz.prog mH [.ptr a0,.agg g3] s2 fun v4 k=>∃ A:Int,v4=.int .i64 A/\(bG fun B =>
 (∀ b8:Bool,∀ l:AS,B [.bool b8] l ->
 af b8
 (ai a0 fun oQ C=>dI (au l oQ (C+17)) fun D=>iT (aL T aE aE (.slc none 0 0 true) D l) fun m n=>aR (aC n l1 0 5) fun o=>bJ (ag T aE m (.int .i64 A)) fun pT F=>fC (some 5) o (bu (cU n pT F o) fun eT=>ai a0 fun Ac G=>fQ T aE eT Ac (G+17) m fun gG=>R (.bool true) gG))
 (ai a0 fun H I=>aR (aC l l1 0 2) fun J=>aa Tryz.prog pR [(.ptr (some (H,I))),.agg J] l fun K p=>∃ r:Bool,K=.bool r/\(af (!r)
 (R (.bool false) p)
 (bG fun i =>
 (∀ w:AV,∀ x:Int,∀ nK:AS,i [w,.int .i64 x] nK ->
 aR (aC nK l1 0 5) fun L=>aR (dw T aE 1 [(0,.agg L)]) fun M=>aj (.cells M 0 false) nK fun O Q=>iT (aL T aE aE w (.slc (some (O,0)) 1 1 true) Q) fun S oB=>ai a0 fun U W=>dI (au oB U (W+17)) fun x_=>dI (bg T aE x_ (some (.int .i64 x)) none none) fun X=>iT (aL T aE aE S X oB) fun Y Z=>ai a0 fun ab ad=>fQ T aE Z ab (ad+17) Y fun tN=>R (.bool true) tN) /\
 (bA fun j ae=>j ae [.slc none 0 0 true,.int .i64 0] p /\
 ∀ y:Nat,∀ d:AV,∀ c:Int,∀ b:AS,j y [d,.int .i64 c] b ->
 ai a0 fun al am=>dI (au b al (am+17)) fun an=>aU .i64 (aQ T aE an b) fun ao=>af (decide ((c:Int)<ao)) (ai a0 fun ar aw=>dI (au b ar (aw+17)) fun a2=>bJ (ag T aE a2 (.int .i64 c)) fun a3 a4=>aR (aC b a3 a4 2) fun a5=>aR (aC b l1 0 2) fun a6=>aa Tryz.prog qn [.agg a5,.agg a6] b fun a7 e=>∃ z:Bool,a7=.bool z/\(af z
 (ai a0 fun a8 a9=>dI (au e a8 (a9+17)) fun a'=>bJ (ag T aE a' (.int .i64 c)) fun ba bb=>aR (aC e ba bb 5) fun bc=>aR (dw T aE 1 [(0,.agg bc)]) fun bd=>aj (.cells bd 0 false) e fun be bh=>iT (aL T aE aE d (.slc (some (be,0)) 1 1 true) bh) fun bi bj=>∃ m',m'<y/\j m' [bi,(.int .i64 (IntKind.wrap .i64 (c+1)))] bj)
 (i [d,.int .i64 c] e))) (i [d,.int .i64 c] b)))))) /\
 (af (decide ((A:Int)>=0)) (ai a0 fun bk bl=>dI (au k bk (bl+17)) fun bm=>bJ (ag T aE bm (.int .i64 A)) fun bo bs=>NM (au k bo (bs+4)) fun bx=>af (!bx) (NM (au k l1 4) fun b0=>B [.bool b0] k) (B [.bool false] k)) (B [.bool false] k))))
def Er:QA:=(.seq .leaf (.seq .leaf (.seq (.join [(29,.bool)] [(13,29)] .leaf (.cond (.seq .leaf (.seq .leaf (.seq .leaf (.seq .leaf .leaf)))) .leaf)) (.seq (.seq (.draw 5) (.cond (.seq .leaf .leaf) .leaf)) (.seq .leaf (.seq .leaf (.join [(7,.any),(8,.int .i64)] [(7,8),(50,81)] (.wrap (.loop [(7,.any),(8,.int .i64)] [(7,8),(50,81)] (.seq (.seq (.draw 18) (.cond .leaf .leaf)) (.seq (.wrap .leaf) .leaf)))) (.seq .leaf (.seq .leaf (.seq .leaf .leaf))))))))))
theorem Et (a0:Option (Nat×Nat)) (a1:List AV) (s:AS) (R:AV->AS->Prop) (h:Ep a0 a1 s R):aa Tryz.prog iO [.ptr a0,.agg a1] s R :=
 aa.q (n:=97) (rs:=[.tmp 4]) (A:=Er) hT bY Tryz.func153 (by kernel_rfl) rfl rfl rfl (by kernel_rfl) (by kernel_rfl) h
def Eu (a0:Option (Nat×Nat)) (a1:List AV) (a2:List AV) (s:AS) (R:AV->AS->Prop):Prop :=
 cH a1 (aj (.cells a1 0 false) s fun l1 s2=>cH a2 (aj (.cells a2 0 false) s2 fun l3 s4=>gL fun S V=>aR (aC s4 l3 0 2) fun D=>aR (aC s4 l1 0 2) fun F=>nQ (aS T q7 [(0,.agg D),(1,.agg F)]) fun l=>(∀ s8:AS,Ext s4 s8->aG s8->(True)->aR (dw T aE 1 [(0,.agg l)]) fun G=>aj (.cells G 0 false) s8 fun oQ m=>(Ext s8 m/\S 3 [.agg l] (.slc (some (oQ,0)) 1 1 true) m/\V 3 [.agg l] (.slc (some (oQ,0)) 1 1 true)))/\(∃ v,V 3 [.agg l] v)/\∀ i:AV,V 3 [.agg l] i->aR (aC s4 l1 0 2) fun b=>(∀ d:AS,Ext s4 d->aG d->(True)->aa Tryz.prog dx [.ptr a0,.agg b] d fun n o=>(Ext d o/\S 6 [(.func dx []),.ptr a0,.agg b] n o/\V 6 [(.func dx []),.ptr a0,.agg b] n))/\(∃ v,V 6 [(.func dx []),.ptr a0,.agg b] v)/\∀ j:AV,V 6 [(.func dx []),.ptr a0,.agg b] j->∀ eT:AS,Ext s4 eT->aG eT->(S 3 [.agg l] i eT/\(S 6 [(.func dx []),.ptr a0,.agg b] j eT/\True))->iT (aL T aE aE i j eT) fun v20 gG=>bA fun k r=>k r [.int .i64 0] gG /\
 ∀ p:Nat,∀ e:Int,∀ c:AS,k p [.int .i64 e] c ->
 aU .i64 (aQ T aE v20 c) fun w=>af (decide ((e:Int)<w))
 (bJ (ag T aE v20 (.int .i64 e)) fun x y=>aR (aC c x y 5) fun z=>aa Tryz.prog iO [.ptr a0,.agg z] c fun A B=>∃ C:Bool,A=.bool C/\(∃ m',m'<p/\k m' [(.int .i64 (IntKind.wrap .i64 (e+1)))] B))
 (R v20 c)))
def Ew:QA:=(.seq .leaf (.seq (.g_ 7 [[],[],[],[],[],[],[]] [3,6]) (.seq (.seq .leaf (.wrap (.loop [(8,.int .i64)] [(8,8),(17,28)] (.seq (.seq .leaf (.cond .leaf .leaf)) (.seq (.wrap .leaf) .leaf))))) (.seq .leaf .leaf))))
theorem Ex (a0:Option (Nat×Nat)) (a1:List AV) (a2:List AV) (s:AS) (R:AV->AS->Prop) (h:Eu a0 a1 a2 s R):aa Tryz.prog pP [.ptr a0,.agg a1,.agg a2] s R :=
 aa.q (n:=30) (rs:=[.tmp 6]) (A:=Ew) hT bY Tryz.func69 (by kernel_rfl) rfl rfl rfl (by kernel_rfl) (by kernel_rfl) h
def zH (a0:Option (Nat×Nat)) (a1:List AV) (s:AS) (R:AV->AS->Prop):Prop :=
 cH a1 (aj (.cells a1 0 false) s fun l1 s2=>aR (aC s2 l1 0 2) fun p=>aa Tryz.prog dx [.ptr a0,.agg p] s2 fun d r=>bA fun e w=>e w [.int .i64 0] r /\
 ∀ o:Nat,∀ c:Int,∀ b:AS,e o [.int .i64 c] b ->
 aU .i64 (aQ T aE d b) fun i=>af (decide ((c:Int)<i))
 (bJ (ag T aE d (.int .i64 c)) fun qL j=>aR (aC b qL j 5) fun k=>aa Tryz.prog iO [.ptr a0,.agg k] b fun l m=>∃ n:Bool,l=.bool n/\(∃ m',m'<o/\e m' [(.int .i64 (IntKind.wrap .i64 (c+1)))] m))
 (R d b))
def zI:QA:=(.seq .leaf (.seq .leaf (.seq (.seq .leaf (.wrap (.loop [(6,.int .i64)] [(6,6),(10,21)] (.seq (.seq .leaf (.cond .leaf .leaf)) (.seq (.wrap .leaf) .leaf))))) (.seq .leaf .leaf))))
theorem zJ (a0:Option (Nat×Nat)) (a1:List AV) (s:AS) (R:AV->AS->Prop) (h:zH a0 a1 s R):aa Tryz.prog iB [.ptr a0,.agg a1] s R :=
 aa.q (n:=23) (rs:=[.tmp 4]) (A:=zI) hT bY Tryz.func86 (by kernel_rfl) rfl rfl rfl (by kernel_rfl) (by kernel_rfl) h
def GI (a0:Option (Nat×Nat)) (a1:List AV) (s:AS) (R:AV->AS->Prop):Prop :=
 cH a1 (aj (.cells a1 0 false) s fun l1 s2=>bA fun c p=>c p [.int .i64 0] s2 /\
 ∀ o:Nat,∀ b:Int,∀ s7:AS,c o [.int .i64 b] s7 ->
 ai a0 fun r w=>dI (au s7 r (w+17)) fun v10=>aU .i64 (aQ T aE v10 s7) fun d=>af (decide ((b:Int)<d))
 (ai a0 fun qL e=>dI (au s7 qL (e+17)) fun i=>bJ (ag T aE i (.int .i64 b)) fun j k=>aR (aC s7 j k 2) fun l=>aR (aC s7 l1 0 2) fun m=>uC (je T 100 gV (.agg l) (.agg m)) fun n=>af n
 (R (.int .i64 b) s7)
 (∃ m',m'<o/\c m' [(.int .i64 (IntKind.wrap .i64 (b+1)))] s7))
 (R (.int .i64 (-1)) s7))
def GJ:QA:=(.seq .leaf (.seq (.seq .leaf (.wrap (.loop [(5,.int .i64)] [(4,25)] (.seq (.seq .leaf (.cond .leaf .leaf)) (.seq (.wrap (.seq (.draw 9) (.cond (.seq .leaf .leaf) .leaf))) .leaf))))) (.seq .leaf .leaf)))
theorem GK (a0:Option (Nat×Nat)) (a1:List AV) (s:AS) (R:AV->AS->Prop) (h:GI a0 a1 s R):aa Tryz.prog mH [.ptr a0,.agg a1] s R :=
 aa.q (n:=26) (rs:=[.tmp 4]) (A:=GJ) hT bY Tryz.func96 (by kernel_rfl) rfl rfl rfl (by kernel_rfl) (by kernel_rfl) h
def C0 (a0:Option (Nat×Nat)) (a1:List AV) (s:AS) (R:AV->AS->Prop):Prop :=
 cH a1 (aj (.cells a1 0 false) s fun l1 s2=>bA fun e Q=>e Q [.slc none 0 0 true,.int .i64 0] s2 /\
 ∀ j:Nat,∀ i:AV,∀ b:Int,∀ s8:AS,e j [i,.int .i64 b] s8 ->
 ai a0 fun S k=>dI (au s8 S (k+17)) fun v11=>aU .i64 (aQ T aE v11 s8) fun l=>af (decide ((b:Int)<l))
 (bG fun c =>
 (∀ d:Bool,∀ gh:AS,c [.bool d] gh ->
 af d
 (ai a0 fun pT m=>dI (au gh pT (m+17)) fun n=>bJ (ag T aE n (.int .i64 b)) fun Ac o=>aR (aC gh Ac o 2) fun p=>nQ (aS T q7 [(0,.agg p),(2,.bool true)]) fun r=>aR (dw T aE 1 [(0,.agg r)]) fun w=>aj (.cells w 0 false) gh fun x dZ=>iT (aL T aE aE i (.slc (some (x,0)) 1 1 true) dZ) fun y z=>∃ m',m'<j/\e m' [y,(.int .i64 (IntKind.wrap .i64 (b+1)))] z)
 (∃ m',m'<j/\e m' [i,(.int .i64 (IntKind.wrap .i64 (b+1)))] gh)) /\
 (ai a0 fun A B=>dI (au s8 A (B+17)) fun v30=>bJ (ag T aE v30 (.int .i64 b)) fun C D=>NM (au s8 C (D+4)) fun F=>af (!F) (ai a0 fun G H=>dI (au s8 G (H+17)) fun I=>bJ (ag T aE I (.int .i64 b)) fun J K=>aR (aC s8 J (K+2) 2) fun L=>aR (aC s8 l1 0 2) fun M=>uC (je T 100 ko (.agg L) (.agg M)) fun O=>c [.bool O] s8) (c [.bool false] s8)))
 (R i s8))
def C1:QA:=(.seq .leaf (.seq .leaf (.seq (.seq .leaf (.wrap (.loop [(5,.any),(6,.int .i64)] [(5,48)] (.seq (.seq .leaf (.cond .leaf .leaf)) (.seq (.wrap (.join [(36,.bool)] [(16,36)] (.draw 19) (.cond .leaf .leaf))) .leaf))))) (.seq .leaf .leaf))))
theorem C2 (a0:Option (Nat×Nat)) (a1:List AV) (s:AS) (R:AV->AS->Prop) (h:C0 a0 a1 s R):aa Tryz.prog dx [.ptr a0,.agg a1] s R :=
 aa.q (n:=50) (rs:=[.tmp 4]) (A:=C1) hT bY Tryz.func152 (by kernel_rfl) rfl rfl rfl (by kernel_rfl) (by kernel_rfl) h
end Go.Proofs.YtohgmogbabkkeaaGreat
end

section
namespace Go.Proofs.YtohgmogbabkkeaaGreat
open Go.Am Go.av Go.aB
theorem UK {s:AS} {l o n:Nat} {cs:List AV} (h:aC s l o n=some cs) (k m:Nat) (hm:k+m<=n):aC s l (o+k) m=some ((cs.drop k).take m):=by
 unfold Am.aC at *;split at h
 ·rename_i C g ro b;split at h
  ·rename_i c;rw [if_pos (by omega)];simp only [Option.some.injEq] at h;rw [<- h,List.drop_take,List.take_take,List.drop_drop];congr 2;omega
  ·cases h
 ·cases h
section
variable {F:List Nat} {s:AS} {p:Nat} {x:aF}
end
section
variable {s0 s s':AS} {pa pb:Nat} {xa xb:aF} {Ba Bb:Nat} {sl:List (AV×List eJ)}
end
end Go.Proofs.YtohgmogbabkkeaaGreat
end

section
namespace Go.Proofs.YtohgmogbabkkeaaGreat
open Go.Am Go.av Go.aB
def aF.item (x:aF) (i:eJ):Prop:=match i.gone with
 | true=>x.rD i.dot=true/\i.key=⟨[],[]⟩
 | false=>x.live i.dot=some i.key
structure Items (x:aF) (I:List eJ):Prop where
 Rz:ef (I.map eJ.dot)
 mem:∀ i,i∈I↔x.item i
theorem XO.pw {I:List eJ} (h:ef (I.map eJ.dot)):I.Pairwise fun a b=>a.dot.lt b.dot=true:=List.pairwise_map.1 h
theorem Items.one {x:aF} {I:List eJ} (h:Items x I) {i j:eJ} (hi:i∈I) (hj:j∈I) (e:i.dot=j.dot):i=j:=by
 have key:∀ (l:List eJ),l.Pairwise (fun a b=>a.dot.lt b.dot=true)->i∈l->j∈l->i=j:=by
  intro l
  induction l with
  | nil=>intro _ h;cases h
  | cons a l k =>
   intro m n h2;obtain ⟨p1,o⟩:=List.pairwise_cons.1 m;rcases List.mem_cons.1 n with e1 | c <;> rcases List.mem_cons.1 h2 with e2 | d
   ·rw [e1,e2]
   ·have:=p1 j d;rw [<- e1,e] at this;exact absurd this (fun h=>aJ.lt_irrefl _ h)
   ·have:=p1 i c;rw [<- e2,e] at this;exact absurd this (fun h=>aJ.lt_irrefl _ h)
   ·exact k o c d
 exact key I (XO.pw h.Rz) hi hj
theorem Items.zero:Items aF.zero []:=⟨List.Pairwise.nil,fun i=>by unfold aF.item;cases i.gone <;> simp [aF.zero]⟩
theorem S6 {x:aF} {B:Nat} (o:nr x B) {i:eJ} (h:x.item i):x.has i.dot=true:=by
 unfold aF.item at h;cases b:i.gone with
 | true=>rw [b] at h;exact (o.tb _ h.1).1
 | false=>rw [b] at h;exact (o.lv _ _ h).1
theorem ON {x:aF} {i:eJ} (h:x.item i):x.keeps i.dot:=by
 unfold aF.item at h;cases b:i.gone with
 | true=>rw [b] at h;exact .inr (.inr h.1)
 | false=>rw [b] at h;exact .inr (.inl (by rw [h];rfl))
theorem Items.len {x:aF} {B:Nat} (o:nr x B) {I:List eJ} (h:Items x I):I.length<=B:=by
 obtain ⟨U,b,hm⟩:=o.sz;have:=lW (j9 h.Rz) fun d hd=>hm d ?_
 ·simp only [List.length_map] at this;omega
 ·obtain ⟨i,hi,rfl⟩:=List.mem_map.1 hd;exact ON ((h.mem i).1 hi)
structure nA (F:List Nat) (s:AS) (q:Nat) (x:aF):Prop where
 ok:L_ x.v x.ex
 Gg:SR x.v x.ex
 mem:∃ w iw I,Am.Own s q (x.v.map (.int .u64)++[w,iw])/\(w.one=true/\w≠.emp/\bq aI 2 s w x.ex)/\(iw.one=true/\iw≠.emp/\bq bw 5 s iw I)/\Items x I/\q∈F/\(∀ y∈ax w,y∈F)/\∀ y∈ax iw,y∈F
section
variable {F F':List Nat} {s s':AS} {q:Nat} {x:aF}
theorem nA.mut {L:List Nat} (h:nA F s q x) (m:bz L s s') (b:Dj L F):nA F s' q x:=by
 obtain ⟨i,h2,w,iw,I,a,⟨j,k,l⟩,⟨n,c2,o⟩,d,e,f,g⟩:=h;exact ⟨i,h2,w,iw,I,a.mut m (fun p=>b q p e),⟨j,k,l.mut m fun y c hm=>b y hm (f y c)⟩,⟨n,c2,o.mut m fun y c hm=>b y hm (g y c)⟩,d,e,f,g⟩
theorem nA.ext (h:nA F s q x) (e:Ext s s'):nA F s' q x:=h.mut (L:=[]) e.mut (fun y b=>by cases b)
theorem nA.qF (h:nA F s q x):q∈F:=by obtain ⟨_,_,w,iw,I,_,_,_,_,e,_⟩:=h;exact e
theorem sn {α:Type} {f:α->List AV} {sz:Nat} {v:AV} {l:List α} (h:bq f sz s v l):∀ n,v≠.int .i64 n:=by
 rcases h with ⟨_,a,rfl⟩ | ⟨la,rfl,_⟩ <;> simp
theorem ET {v:List Int} (h:v.length=16) (w iw:AV):(v.map (AV.int .u64)++[w,iw])[17]? = some iw:=by
 rw [List.getElem?_append_right (by simp [h])];simp [h]
theorem Vr {v:List Int} {w iw:AV} {I:List eJ} (B:At s q (v.map (.int .u64)++[w,iw])) (hv:v.length=16) (A:Sl bw 5 s iw I) (L:I.length<=2 ^ 30) (d:aJ) :
  aa Tryz.prog mH [.ptr (some (q,0)),.agg (aI d)] s fun r s'=>Ext s s'/\∃ n:Int,r=.int .i64 n/\((n = -1/\∀ i∈I,i.dot≠d)\/∃ k:Nat,n=k/\∃ i,I[k]? = some i/\i.dot=d):=by
 refine aa.pre fun C=>GK _ _ _ _ ⟨rfl,aj.intro C rfl fun l1 s2 c=>⟨fun m vs s'=>∃ i:Nat,vs=[.int .i64 (i:Nat)]/\i<=I.length/\m=I.length - i/\s'=s2/\∀ j y,j<i->I[j]? = some y->y.dot≠d,I.length,⟨0,rfl,by omega,rfl,rfl,by omega⟩,?_⟩⟩;rintro m n s7 ⟨i,hi,M,rfl,rfl,b⟩;simp only [List.cons.injEq,AV.int.injEq,true_and,and_true] at hi;subst hi;have o:au s7 q (0+17)=some iw:=by rw [(B.ext c.ext).au];exact ET hv w iw
 refine ⟨iw,o,_,A.cJ cZ _,af.dec (fun D=>?_) (fun F=>⟨c.ext,-1,rfl,.inl ⟨rfl,fun y p=>?_⟩⟩)⟩
 ·obtain ⟨y,p⟩:=cT (l:=I) (i:=i) (by omega);obtain ⟨G,H,J,K⟩:=A.ix (by decide) aW cZ ox p;refine ⟨iw,o,G,H,J _,_,oS ((K _ c.ext).2) (by decide),_,c.own.at.aC (by simp [aI]),_,Gb y.dot d,af.dec (fun e=>⟨c.ext,_,rfl,.inr ⟨i,rfl,y,p,e⟩⟩) (fun e=>⟨I.length - (i+1),by omega,i+1,by rw [aX (by omega)];rfl,by omega,rfl,rfl,fun j z hj x=>?_⟩)⟩;rcases Nat.lt_or_ge j i with h | h
  ·exact b j z h x
  ·obtain rfl:j=i:=by omega
   rw [p] at x;obtain rfl:=Option.some.inj x;exact e
 ·obtain ⟨j,hj⟩:=List.mem_iff_getElem?.1 p;have:j<I.length:=by
   rcases Nat.lt_or_ge j I.length with h | h
   ·exact h
   ·rw [List.getElem?_eq_none h] at hj;cases hj
  exact b j y (by omega) hj
/-! ### the plain side of seeing -/
theorem Items.set {x:aF} {B:Nat} (o:nr x B) {I:List eJ} (h:Items x I) {k:Nat} {j i:eJ} (w:I[k]? = some j) (hj:j.gone=false) (hd:j.dot=i.dot) (A:i.gone=true) (c:i.key=⟨[],[]⟩):Items (x.mo i).2 (I.set k i)/\(x.mo i).1=true/\(x.mo i).2.v=x.v/\(x.mo i).2.ex=x.ex:=by
 have C:j∈I:=List.mem_of_getElem? w;have d:x.live i.dot=some j.key:=by
  have:=(h.mem j).1 C;unfold aF.item at this;rw [hj,hd] at this;exact this
 have F:((x.live i.dot).isSome&&i.gone)=true:=by rw [d,A];rfl
 have m:k<I.length:=by
  rcases Nat.lt_or_ge k I.length with h | h
  ·exact h
  ·rw [List.getElem?_eq_none h] at w;cases w
 have z:(I.set k i).map eJ.dot=I.map eJ.dot:=by
  apply List.ext_getElem?;intro n;simp only [List.getElem?_map,List.getElem?_set];split
  ·rename_i e;subst e
   first | (rw [if_pos m,w];simp [hd]) | (rw [w];simp [hd])
  ·rfl
 refine ⟨⟨by rw [z];exact h.Rz,fun y=>?_⟩,?_,?_,?_⟩
 ·have D:y∈I.set k i↔y=i\/(y∈I/\y.dot≠i.dot):=by
   rw [List.mem_iff_getElem?];constructor
   ·rintro ⟨n,b⟩;rw [List.getElem?_set] at b;split at b
    ·rename_i e
     first | (rw [if_pos m] at b;exact .inl (Option.some.inj b).symm) | exact .inl (Option.some.inj b).symm
    ·rename_i e;have p:=List.mem_of_getElem? b;refine .inr ⟨p,fun G=>?_⟩;have:=h.one p C (G.trans hd.symm);subst this;have H:=j9 h.Rz;have K:n<I.length:=by
      rcases Nat.lt_or_ge n I.length with h | h
      ·exact h
      ·rw [List.getElem?_eq_none h] at b;cases b
     have e1:(I.map eJ.dot)[k]? = (I.map eJ.dot)[n]? := by rw [List.getElem?_map,List.getElem?_map,w,b]
     exact e ((List.getElem?_inj (by simpa using m) H).1 e1)
   ·rintro (rfl | ⟨p,J⟩)
    ·exact ⟨k,by rw [List.getElem?_set,if_pos rfl,if_pos m]⟩
    ·obtain ⟨n,b⟩:=List.mem_iff_getElem?.1 p;refine ⟨n,?_⟩;rw [List.getElem?_set,if_neg,b];rintro rfl;rw [w] at b;obtain rfl:=Option.some.inj b;exact J hd
  rw [D,h.mem];unfold aF.item;rw [rE o,BB o];cases r:y.gone with
  | true =>
   simp only;constructor
   ·rintro (rfl | ⟨l,h2⟩)
    ·exact ⟨by simp [A,d],c⟩
    ·exact ⟨by simp [l.1],l.2⟩
   ·rintro ⟨l,h2⟩;by_cases e:y.dot=i.dot
    ·left;cases y;cases i;simp only at e r h2 c A;rw [e,r,h2,c,A]
    ·refine .inr ⟨⟨?_,h2⟩,e⟩;simpa [e] using l
  | false =>
   simp only;constructor
   ·rintro (rfl | ⟨l,h2⟩)
    ·rw [A] at r;cases r
    ·rw [if_neg h2];exact l
   ·intro l;by_cases e:y.dot=i.dot
    ·rw [if_pos e,if_pos A] at l;cases l
    ·rw [if_neg e] at l;exact .inr ⟨l,e⟩
 ·rw [UI o,F];rfl
 ·unfold aF.mo;rw [if_pos F]
 ·unfold aF.mo;rw [if_pos F]
theorem S7 {I:List eJ} {k:Nat} {i y:eJ}:y∈I.take k++i::I.drop k↔y=i\/y∈I:=by
 rw [List.mem_append,List.mem_cons]
 conv=>rhs;rhs;rw [<- List.take_append_drop k I]
 rw [List.mem_append];constructor
 ·rintro (h | rfl | h)
  ·exact .inr (.inl h)
  ·exact .inl rfl
  ·exact .inr (.inr h)
 ·rintro (rfl | h | h)
  ·exact .inr (.inl rfl)
  ·exact .inl h
  ·exact .inr (.inr h)
theorem Items.ins {x:aF} {B:Nat} (o:nr x B) {I:List eJ} (h:Items x I) {i:eJ} (hi:i.may=true) (j:x.has i.dot=false):Items (x.mo i).2 (I.take (pos (I.map eJ.dot) i.dot)++i::I.drop (pos (I.map eJ.dot) i.dot)):=by
 have p:∀ y∈I,y.dot≠i.dot:=fun y r e=>by
  have:=S6 o ((h.mem y).1 r);rw [e,j] at this;cases this
 have m:x.live i.dot=none:=by
  cases w:x.live i.dot with
  | none=>rfl
  | some k=>rw [(o.lv _ _ w).1] at j;cases j
 have z:x.rD i.dot=false:=by
  cases w:x.rD i.dot with
  | false=>rfl
  | true=>rw [(o.tb _ w).1] at j;cases j
 refine ⟨?_,fun y=>?_⟩
 ·have:=h.Rz.ins (d:=i.dot) (by simpa using fun y r=>p y r);rw [show (I.take (pos (I.map eJ.dot) i.dot)++i::I.drop (pos (I.map eJ.dot) i.dot)).map eJ.dot=Go.av.ins (I.map eJ.dot) i.dot by simp [Go.av.ins,List.map_take,List.map_drop]];exact this
 ·rw [S7,h.mem];unfold aF.item;rw [rE o,BB o];cases c:y.gone with
  | true =>
   simp only;constructor
   ·rintro (rfl | b)
    ·refine ⟨by simp [c,j],?_⟩;simp only [eJ.may,Bool.and_eq_true,c,if_true,decide_eq_true_eq] at hi;exact hi.2
    ·exact ⟨by simp [b.1],b.2⟩
   ·rintro ⟨b,h2⟩;by_cases e:y.dot=i.dot
    ·left;rw [e,z] at b;simp [m,j] at b;have n:i.key=⟨[],[]⟩:=by
      simp only [eJ.may,Bool.and_eq_true,b,if_true,decide_eq_true_eq] at hi;exact hi.2
     cases y;cases i;simp only at e c h2 n b;rw [e,c,h2,n,b]
    ·refine .inr ⟨?_,h2⟩;simpa [e] using b
  | false =>
   simp only;constructor
   ·rintro (rfl | b)
    ·rw [if_pos rfl,c,j];simp
    ·by_cases e:y.dot=i.dot
     ·rw [e,m] at b;cases b
     ·rw [if_neg e];exact b
   ·intro b;by_cases e:y.dot=i.dot
    ·rw [if_pos e] at b;left;cases l:i.gone with
     | true=>rw [l] at b;simp at b
     | false =>
      rw [l,e,j] at b;simp at b;cases y;cases i;simp only at e c b l;rw [e,c,l,b]
    ·rw [if_neg e] at b;exact .inr b
end
end Go.Proofs.YtohgmogbabkkeaaGreat
end

section
namespace Go.Proofs.YtohgmogbabkkeaaGreat
open Go.Am Go.av Go.aB
theorem nr.Vs {x:aF} {B:Nat} (o:nr x B):x.ex.length<=B:=by
 obtain ⟨U,b,hm⟩:=o.sz;have:=lW (j9 o.ok.r) fun d hd=>hm d ?_
 ·omega
 ·exact .inl hd
theorem Q2 {α:Type} {f:α->List AV} {sz:Nat} (hf:∀ x,(f x).length=sz):∀ (l:List α) (k:Nat) (x:α),k<l.length->qC (l.flatMap f) (k*sz) (f x)=(l.set k x).flatMap f:=by
 intro l k x c;have b:l.flatMap f=(l.take k).flatMap f++(f (l[k])++(l.drop (k+1)).flatMap f):=by
  conv=>lhs;rw [<- List.take_append_drop k l,List.flatMap_append,List.drop_eq_getElem_cons c,List.flatMap_cons]
 have d:((l.take k).flatMap f).length=k*sz:=by rw [ek hf,List.length_take,Nat.min_eq_left (by omega)]
 have:=JF ((l.take k).flatMap f) (f l[k]) (f x) ((l.drop (k+1)).flatMap f) (by rw [hf,hf]);rw [d] at this;rw [b,<- List.append_assoc,this,List.set_eq_take_append_cons_drop,if_pos c,List.flatMap_append,List.flatMap_cons,List.append_assoc]
theorem UL {x:aF} {i:eJ} (b:¬ ((x.live i.dot).isSome=true/\i.gone=true)) (h2:x.has i.dot=true):x.mo i=(false,x):=by
 unfold aF.mo;rw [if_neg (by simpa using b),if_pos (show ff x.v x.ex i.dot=true from h2)]
theorem Q3 {x:aF} {i:eJ} (c:¬ ((x.live i.dot).isSome=true/\i.gone=true)) (h2:x.has i.dot=false):(x.mo i).1=true/\(x.mo i).2.v=(compact x.v (ins x.ex i.dot)).1/\(x.mo i).2.ex=(compact x.v (ins x.ex i.dot)).2:=by
 have b:¬ ff x.v x.ex i.dot=true:=by rw [show ff x.v x.ex i.dot=x.has i.dot from rfl,h2];simp
 unfold aF.mo;rw [if_neg (by simpa using c),if_neg b];split <;> exact ⟨rfl,rfl,rfl⟩
section
variable {F:List Nat} {s:AS} {q:Nat} {x:aF} {B:Nat}
theorem _root_.Go.Am.bq.there {α:Type} {f:α->List AV} {sz:Nat} {v:AV} {l:List α} (h:bq f sz s v l):∀ y∈ax v,s.h y≠none:=by
 intro y c;rcases h with ⟨_,b,rfl⟩ | ⟨la,rfl,d⟩
 ·simp [ax] at c
 ·obtain rfl:y=la:=by simpa [ax] using c
  rw [d];simp
theorem _root_.Go.Am.bq.ne {α:Type} {f:α->List AV} {sz:Nat} (e:sz≠0) {v:AV} {l:List α} {cs:List AV} (h:bq f sz s v l) (i:Am.Own s q cs):∀ y∈ax v,y ∉ [q]:=by
 intro y d hm;obtain rfl:=List.mem_singleton.1 hm;rcases h with ⟨_,b,rfl⟩ | ⟨la,rfl,c⟩
 ·simp [ax] at d
 ·obtain rfl:y=la:=by simpa [ax] using d
  rw [i] at c;simp only [Option.some.injEq,AO.cells.injEq] at c;exact e c.2.1.symm
theorem OO (h:nA F s q x) (o:nr x B) (hB:B<=1000) (b6:∀ y∈F,s.h y≠none) (i:eJ) (hi:i.may=true) :
  aa Tryz.prog iO [.ptr (some (q,0)),.agg (bw i)] s fun r s'=>r=.bool (x.mo i).1/\bz [q] s s'/\∃ F',nA F' s' q (x.mo i).2/\(∀ y∈F',y∈F\/s.h y=none)/\∀ y∈F',s'.h y≠none:=by
 have b7:i.dot.may=true:=by simp only [eJ.may,Bool.and_eq_true] at hi;exact hi.1
 refine aa.pre fun hw=>Et _ _ _ _ ⟨rfl,aj.intro hw rfl fun l1 s2 F2=>?_⟩;obtain ⟨ok,Gg,w,iw,I,a,⟨b1,b2,b3⟩,⟨c1,c2,c3⟩,hI,a7,f,g⟩:=h.ext F2.ext;have hlen:=hI.len o;have cv:=o.Vs;have C:=ok.v.len;refine ⟨_,F2.own.at.aC (by simp [bw]),?_⟩;refine aa.use (Vr a.at C (c3.sl aW) (by omega) i.dot) ?_;rintro r s5 ⟨e5,n,rfl,O⟩ w5;have a5:=a.ext e5;have c5:=c3.ext e5;have b5:=b3.ext e5;have o5:Am.Own s5 l1 (bw i):=F2.own.ext e5;have Y:=F2.ext.trans e5;have a8:au s5 q (0+17)=some iw:=by rw [a5.at.au];exact ET C w iw
 have p:∀ y∈F,s5.h y≠none:=fun y b Z=>b6 y b (Y.none Z);refine ⟨_,rfl,fun vs s'=>s'=s5/\∃ t,vs=[.bool t]/\(t=true->∃ (k:Nat) (j:eJ),n=k/\I[k]? = some j/\j.dot=i.dot/\j.gone=false/\i.gone=true)/\(t=false->¬ ((x.live i.dot).isSome=true/\i.gone=true)),?_,?_⟩;rotate_left
 ·refine af.dec (fun Z=>?_) (fun Z=>⟨rfl,_,rfl,(fun h=>by cases h),fun _=>?_⟩)
  ·rcases O with ⟨rfl,_⟩ | ⟨k,rfl,j,hj,ab⟩
   ·omega
   ·obtain ⟨lj,oj,g8,g9⟩:=c5.sl aW |>.ix (by decide) aW cZ ox hj;refine ⟨iw,a8,lj,oj,g8 _,j.gone,(g9 _ (Ext.refl _)).1 4 (by decide),af.mk (fun hg=>⟨i.gone,by rw [o5.at.au];rfl,rfl,_,rfl,fun ht=>⟨k,j,rfl,hj,ab,by simpa using hg,ht⟩,fun ht h=>by rw [ht] at h;cases h.2⟩) (fun hg=>⟨rfl,_,rfl,(fun h=>by cases h),fun _ h=>?_⟩)⟩;have:=(hI.mem j).1 (List.mem_of_getElem? hj);unfold aF.item at this;have b8:j.gone=true:=by simpa using hg
    rw [b8,ab] at this;rw [(o.tb _ this.1).2] at h;cases h.1
  ·rcases O with ⟨rfl,aw⟩ | ⟨k,rfl,_⟩
   ·rintro ⟨h1,h2⟩;obtain ⟨k,hk⟩:=Option.isSome_iff_exists.1 h1;exact aw ⟨i.dot,k,false⟩ ((hI.mem _).2 hk) rfl
   ·omega
 rintro t s9 ⟨rfl,t',ht,a9,aw⟩;simp only [List.cons.injEq,AV.bool.injEq,and_true] at ht;subst ht;refine af.mk (fun ht=>?_) (fun ht=>?_)
 ·
  obtain ⟨k,j,rfl,hj,ab,b9,a'⟩:=a9 ht;have ba:i.key=⟨[],[]⟩:=by
   simp only [eJ.may,Bool.and_eq_true,a',if_true,decide_eq_true_eq] at hi;exact hi.2
  obtain ⟨b',a0,Q,R⟩:=hI.set o hj b9 ab a' ba;have a1:k<I.length:=by
   rcases Nat.lt_or_ge k I.length with h | h
   ·exact h
   ·rw [List.getElem?_eq_none h] at hj;cases hj
  refine ⟨iw,a8,aV.k_ gi aW j8 w5 (aV.nil (M:=[])) (by simp) (c5.sl aW) (by simp;omega) cZ fun ad cw D ca _=>?_⟩;rw [List.nil_append] at D;have K:=D.eC.ext;rcases D.tI with ⟨h0,_⟩ | ⟨la,S,ho⟩
  ·rw [h0] at a1;simp at a1
  have U:ax ad=[la]:=by rw [S];rfl
  have L:s9.h la=none:=D.new la (by simp [U]);have ae:la≠q:=by rintro rfl;rw [a5] at L;cases L
  have cb:ag T aE ad (.int .i64 (k:Nat))=some (.ptr (some (la,0+k*5))):=by
   rw [S];have:(0:Int)<=(k:Int)/\(k:Int)<(I.length:Int):=by omega
   simp only [ag,cZ,ox,Option.bind_some];rw [if_pos this];simp
  refine ⟨bw i,(o5.ext K).at.aC (by simp [bw]),_,_,cb,⟨rfl,rfl⟩,?_⟩;rw [Nat.zero_add];have cc:=ek aW I;have cx:k*5+5<=I.length*5:=by omega
  refine bu.cU ca ho (by rw [cc];simp [bw];omega) fun eT G=>?_;have ao:eT.h la=some (.cells ((I.set k i).flatMap bw) 5 false):=by
   have e3:qC (I.flatMap bw) (k*5) (bw i)=(I.set k i).flatMap bw:=Q2 aW I k i a1;exact G.at.trans (by rw [<- e3])
  have bb:Am.Own eT q (x.v.map (.int .u64)++[w,iw]):=(a5.ext K).mut G.mut (by simpa using ae.symm);have gI:bq bw 5 eT ad (I.set k i):=.inr ⟨la,by rw [List.length_set];exact S,ao⟩;refine cS D.jh.2 LW (bu.own G.wf bb (by simp [C]) fun gG W=>?_);have M:bz [q] s gG:=by
   have cd:Ext s eT:=Ext.wr (Y.trans K) (Y.none L) G.mut;exact cd.mut.trans W.mut
  have bc:Am.Own gG q (x.v.map (.int .u64)++[w,ad]):=by
   have:=W.at;rw [fF,List.set_append_right _ _ (by simp [C])] at this;simp only [List.length_map,C,Nat.zero_add,Nat.reduceSub,List.set_cons_succ,List.set_cons_zero] at this;exact this
  have ce:bq aI 2 gG w x.ex:=(((b5.ext K).mut G.mut fun y b hm=>by
   obtain rfl:=List.mem_singleton.1 hm;exact p _ (f _ b) L)).mut W.mut ((b5.ext K).mut G.mut (fun y b hm=>by
   obtain rfl:=List.mem_singleton.1 hm;exact p _ (f _ b) L) |>.ne (by decide) bb)
  have cf:=gI.mut W.mut (by simpa [U] using ae);rw [a0];refine ⟨rfl,M,la::F,⟨by rw [Q,R];exact ok,by rw [Q,R];exact Gg,w,_,I.set k i,by rw [Q];exact bc,⟨b1,b2,by rw [R];exact ce⟩,⟨D.jh.2,D.jh.1,cf⟩,b',by simp [a7],fun y b=>by simp [f y b],fun y b=>by rw [U] at b;simp at b;simp [b]⟩,fun y b=>?_,fun y b=>?_⟩
  ·rcases List.mem_cons.1 b with rfl | b
   ·exact .inr (Y.none L)
   ·exact .inl b
  ·by_cases e1:y=q
   ·rw [e1,bc];simp
   ·rw [W.eq y e1];by_cases e2:y=la
    ·rw [e2,ao];simp
    ·rw [G.eq y e2];rcases List.mem_cons.1 b with rfl | b
     ·exact absurd rfl e2
     ·exact fun Z=>p y b (K.none Z)
 ·have bd:=aw ht;have hT:Ks s9 q [iw] x.v x.ex:=⟨C,fun y b n=>by obtain rfl:=List.mem_singleton.1 b;exact sn c5 n,w,a5,b1,b2,b5.sl bn⟩;refine ⟨_,o5.at.aC (by simp [bw]),?_⟩;refine aa.use (QY hT ok.v ok.r ok.m (by omega) b7) ?_;rintro r H ⟨rfl,al,hold,be⟩ ch;cases hh:ff x.v x.ex i.dot with
  | true =>
   have a2:=hold hh;rw [UL bd hh];exact ⟨_,rfl,af.yes (by simp) ⟨rfl,(Y.trans a2).mut,F,h.ext (Y.trans a2),fun y b=>.inl b,fun y b Z=>p y b (a2.none Z)⟩⟩
  | false =>
   obtain ⟨a0,Q,R⟩:=Q3 bd hh;obtain ⟨J,cy,w',a3,d1,d2,d3,d4⟩:=be hh;have bh:bq bw 5 H iw I:=c5.mut al (c5.ne (by decide) a5);have ae:l1 ∉ [q]:=by
    simp only [List.mem_singleton];rintro rfl;have:=a5.at.inj o5.at;have:=congrArg List.length this;simp [C,bw] at this
   have bi:Am.Own H l1 (bw i):=o5.mut al ae;have am:∀ s',Ext H s'->au s' q (0+17)=some iw:=fun s' e=>by rw [(a3.ext e).at.au];exact ET J w' iw
   refine ⟨_,rfl,af.no (by simp) ⟨fun vs s'=>∃ left,vs=[left,.int .i64 (pos (I.map eJ.dot) i.dot:Nat)]/\aG s'/\aV bw 5 [] H s' left (I.take (pos (I.map eJ.dot) i.dot)),?_,fun m vs s'=>∃ (k:Nat) (left:AV),vs=[left,.int .i64 (k:Nat)]/\k<=I.length/\m=I.length - k/\aG s'/\aV bw 5 [] H s' left (I.take k)/\∀ (j:Nat) y,j<k->I[j]? = some y->y.dot.lt i.dot=true,I.length,⟨0,_,rfl,by omega,rfl,ch,by simpa using aV.nil,fun j y hj=>by omega⟩,?_⟩⟩
   ·rintro cz cA nK ⟨left,hl,ci,bj⟩;simp only [List.cons.injEq,AV.int.injEq,true_and,and_true] at hl;obtain ⟨rfl,rfl⟩:=hl;have ck:pos (I.map eJ.dot) i.dot<=I.length:=by have:=JA (I.map eJ.dot) i.dot;simpa using this
    have cl:(I.take (pos (I.map eJ.dot) i.dot)).length<=I.length:=by rw [List.length_take];omega
    refine ⟨_,(bi.ext bj.eC.ext).at.aC (by simp [bw]),aV.ji gi aW j8 ci bj (by simp) i (by omega) fun cB oB a4 cm _=>?_⟩;obtain ⟨cn,k1,k2⟩:=((bh.ext a4.eC.ext).sl aW).from aW cZ ox c2 ck .i64
    refine ⟨iw,am _ a4.eC.ext,cn,k1,aV.k_ gi aW j8 cm a4 (by simp) k2 (by simp;omega) cZ fun a6 cC c cp _=>?_⟩;have bk:I.take (pos (I.map eJ.dot) i.dot)++[i]++I.drop (pos (I.map eJ.dot) i.dot)=I.take (pos (I.map eJ.dot) i.dot)++i::I.drop (pos (I.map eJ.dot) i.dot):=by simp
    rw [bk] at c;have bl:=a3.ext c.eC.ext;refine cS c.jh.2 LW (bu.own cp bl (by simp [J]) fun tN P=>?_);have bm:Am.Own tN q ((compact x.v (ins x.ex i.dot)).1.map (.int .u64)++[w',a6]):=by
     have:=P.at;rw [fF,List.set_append_right _ _ (by simp [J])] at this;simp only [List.length_map,J,Nat.zero_add,Nat.reduceSub,List.set_cons_succ,List.set_cons_zero] at this;exact this
    have ar:H.h q≠none:=by rw [a3];simp
    have bo:=c.tI.mut P.mut fun y b hm=>by
     obtain rfl:=List.mem_singleton.1 hm;exact ar (c.new _ b)
    have d46:=(d3.ext c.eC.ext).mut P.mut ((d3.ext c.eC.ext).ne (by decide) bl);have M:bz [q] s tN:=Y.mut.trans (al.trans (c.eC.ext.mut.trans P.mut));have bs:=ve o hi;have X:∀ y,H.h y=none->s9.h y=none:=fun y b=>by
     cases hq:s9.h y with
     | none=>rfl
     | some ob =>
      by_cases e:y=q
      ·subst e;exact absurd b ar
      ·rw [al.1 y ob (by simpa using e) hq] at b;cases b
    rw [a0];refine ⟨rfl,M,ax w'++(ax a6++F),⟨bs.ok,bs.Gg,w',a6,_,by rw [Q];exact bm,⟨d1,d2,by rw [R];exact d46⟩,⟨c.jh.2,c.jh.1,bo⟩,hI.ins o hi hh,by simp [a7],fun y b=>by simp [b],fun y b=>by simp [b]⟩,fun y b=>?_,fun y b=>?_⟩
    ·rcases List.mem_append.1 b with b | b
     ·exact .inr (Y.none (d4 y b))
     ·rcases List.mem_append.1 b with b | b
      ·exact .inr (Y.none (X y (c.new y b)))
      ·exact .inl b
    ·rcases List.mem_append.1 b with b | b
     ·exact d46.there y b
     ·rcases List.mem_append.1 b with b | b
      ·exact bo.there y b
      ·by_cases e:y=q
       ·rw [e,bm];simp
       ·rw [P.eq y e];intro Z;exact p y b (X y (c.eC.ext.none Z))
   ·rintro m left n c0 ⟨k,cr,hk,h6,rfl,cs,A,bx⟩;simp only [List.cons.injEq,AV.int.injEq,true_and,and_true] at hk;obtain ⟨rfl,rfl⟩:=hk;have b0:=bh.ext A.eC.ext;have cl:(I.take k).length<=I.length:=by rw [List.length_take];omega
    have fin:(∀ y,I[k]? = some y->y.dot.lt i.dot=false)->pos (I.map eJ.dot) i.dot=k:=fun hq=>by
     refine pos_eq (by simpa using h6) (fun j d hj hd=>?_) fun d hd=>?_
     ·rw [List.getElem?_map,Option.map_eq_some_iff] at hd;obtain ⟨y,b,rfl⟩:=hd;exact bx j y hj b
     ·rw [List.getElem?_map,Option.map_eq_some_iff] at hd;obtain ⟨y,b,rfl⟩:=hd;exact hq y b
    refine ⟨iw,am _ A.eC.ext,_,(b0.sl aW).cJ cZ _,af.dec (fun hl=>?_) (fun c4=>?_)⟩
    ·obtain ⟨y,b⟩:=cT (l:=I) (i:=k) (by omega);obtain ⟨ly,oy,g8,g9⟩:=(b0.sl aW).ix (by decide) aW cZ ox b;refine ⟨iw,am _ A.eC.ext,ly,oy,g8 _,_,oS ((g9 _ (Ext.refl _)).2) (by decide),_,(bi.ext A.eC.ext).at.aC (by simp [bw]),?_⟩;refine aa.use (yK y.dot i.dot _) ?_;rintro r c6 ⟨rfl,an⟩ b4;refine ⟨_,rfl,af.mk (fun hb=>?_) (fun hb=>?_)⟩
     ·have ht:I.take (k+1)=I.take k++[y]:=by rw [List.take_add_one,b];rfl
      refine ⟨iw,am _ (A.eC.ext.trans an),ly,oy,g8 _,_,(g9 _ an).2,aV.ji gi aW j8 b4 (A.step an) (by simp) y (by omega) fun v' s' g' cu _=>?_⟩;refine ⟨I.length - (k+1),by omega,k+1,v',by rw [aX (by omega)];rfl,by omega,rfl,cu,by rw [ht];exact g',fun j z hj hz=>?_⟩;rcases Nat.lt_or_ge j k with h | h
      ·exact bx j z h hz
      ·obtain rfl:j=k:=by omega
       rw [b] at hz;obtain rfl:=Option.some.inj hz;exact hb
     ·have hp:=fin fun z hz=>by rw [b] at hz;obtain rfl:=Option.some.inj hz;exact hb
      exact ⟨left,by rw [hp],b4,by rw [hp];exact A.step an⟩
    ·have hp:=fin fun z hz=>by rw [List.getElem?_eq_none (by omega)] at hz;cases hz
     exact ⟨left,by rw [hp],cs,by rw [hp];exact A⟩
end
end Go.Proofs.YtohgmogbabkkeaaGreat
end

section
set_option maxRecDepth 100000
set_option maxHeartbeats 4000000
namespace Go.Proofs.YtohgmogbabkkeaaGreat
open Go.Am
end Go.Proofs.YtohgmogbabkkeaaGreat
end

section
namespace Go.Proofs.YtohgmogbabkkeaaGreat
open Go.Am Go.av Go.aB
def KD (x:aF) (k:Key) (l:List aJ):Prop:=ef l/\∀ d,d∈l↔x.live d=some k
theorem KD.uniq {x:aF} {k:Key} {l l':List aJ} (h:KD x k l) (b:KD x k l'):l=l':=MO h.1 b.1 fun d=>by rw [h.2,b.2]
theorem ni.kd {x:aF} {k:Key} {l:List aJ} (h:ni x k l):KD x k l:=⟨h.Rz,h.mem⟩
theorem KD.has {x:aF} {B:Nat} (o:nr x B) {k:Key} {l:List aJ} (h:KD x k l) {d:aJ} (hd:d∈l):x.has d=true:=(o.lv d k ((h.2 d).1 hd)).1
theorem KD.len {x:aF} {B:Nat} (o:nr x B) {k:Key} {l:List aJ} (h:KD x k l):l.length<=B:=by
 obtain ⟨U,b,hm⟩:=o.sz;have:=lW (j9 h.1) fun d hd=>hm d (.inr (.inl (by rw [(h.2 d).1 hd];rfl)));omega
def p_ (k:Key) (i:eJ):Bool:=!i.gone&&decide (i.key=k)
theorem IC {x:aF} {I:List eJ} (h:Items x I) (k:Key):KD x k ((I.filter (p_ k)).map eJ.dot):=by
 refine ⟨h.Rz.sub (List.Sublist.map _ List.filter_sublist),fun d=>?_⟩;simp only [List.mem_map,List.mem_filter,p_,Bool.and_eq_true,Bool.not_eq_true',decide_eq_true_eq];constructor
 ·rintro ⟨i,⟨hi,b,c⟩,rfl⟩;have:=(h.mem i).1 hi;unfold aF.item at this;rw [b] at this;rw [this,c]
 ·intro hd;exact ⟨⟨d,k,false⟩,⟨(h.mem _).2 hd,rfl,rfl⟩,rfl⟩
section
variable {F:List Nat} {s:AS} {q:Nat} {x:aF} {B:Nat}
theorem nA.open (h:nA F s q x):∃ w iw I,At s q (x.v.map (.int .u64)++[w,iw])/\iw≠.emp/\bq bw 5 s iw I/\Items x I/\(∀ s',Ext s s'->au s' q (0+17)=some iw)/\Ks s q [iw] x.v x.ex:=by
 obtain ⟨ok,Gg,w,iw,I,a,⟨c,d,i⟩,⟨m,c2,b⟩,j,k,f,g⟩:=h;exact ⟨w,iw,I,a.at,c2,b,j,fun s' e=>by rw [(a.ext e).at.au];exact ET ok.v.len w iw,ok.v.len,fun y l n=>by obtain rfl:=List.mem_singleton.1 l;exact sn b n,w,a,c,d,i.sl bn⟩
theorem Dx (h:nA F s q x) (o:nr x B) (X:B<=1000) (k:Key):aa Tryz.prog dx [.ptr (some (q,0)),.agg (eZ k)] s fun v s'=>∃ l,KD x k l/\aV bw 5 [] s s' v (l.map dY):=by
 obtain ⟨w,iw,I,a,c2,K,D,hr,_⟩:=h.open;have hlen:=D.len o;refine aa.pre fun L=>C2 _ _ _ _ ⟨rfl,aj.intro L rfl fun l1 s2 d=>⟨fun m vs s'=>∃ (i:Nat) (v:AV),vs=[v,.int .i64 (i:Nat)]/\i<=I.length/\m=I.length - i/\aG s'/\aV bw 5 [] s2 s' v ((((I.take i).filter (p_ k)).map eJ.dot).map dY),I.length,⟨0,_,rfl,by omega,rfl,d.wf,by simpa using aV.nil⟩,?_⟩⟩;rintro m M n s8 ⟨i,v',hi,Y,rfl,G,c⟩;simp only [List.cons.injEq,AV.int.injEq,true_and,and_true] at hi;obtain ⟨rfl,rfl⟩:=hi;have e:=d.ext.trans c.eC.ext;have H:=(K.ext e).sl aW;refine ⟨iw,hr _ e,_,H.cJ cZ _,af.dec (fun O=>?_) (fun Q=>?_)⟩
 ·obtain ⟨y,J⟩:=cT (l:=I) (i:=i) (by omega);obtain ⟨p,r,z,A⟩:=H.ix (by decide) aW cZ ox J;have R:=List.length_filter_le (p_ k) (I.take i);have S:=List.length_take_le i I;have ht:((((I.take (i+1)).filter (p_ k)).map eJ.dot).map dY)=((((I.take i).filter (p_ k)).map eJ.dot).map dY)++if p_ k y=true then [dY y.dot] else []:=by
   rw [List.take_add_one,J,List.filter_append,Option.toList_some,List.map_append,List.map_append];congr 1;cases U:p_ k y <;> simp [List.filter_cons,U]
  refine ⟨fun vs s'=>s'=s8/\vs=[.bool (p_ k y)],?_,iw,hr _ e,p,r,z _,y.gone,(A _ (Ext.refl _)).1 4 (by decide),af.mk (fun j=>⟨iw,hr _ e,p,r,z _,eZ y.key,UK ((A _ (Ext.refl _)).2) 2 2 (by decide),_,(d.own.ext c.eC.ext).at.aC (by simp [eZ]),_,Gz y.key k,rfl,by simp only [Bool.not_eq_true'] at j;simp [p_,j]⟩) (fun j=>⟨rfl,by simp only [Bool.not_eq_false'] at j;simp [p_,j]⟩)⟩;rintro b gh ⟨rfl,hb⟩;simp only [List.cons.injEq,AV.bool.injEq,and_true] at hb;subst hb;refine af.mk (fun hb=>?_) (fun hb=>?_)
  ·refine ⟨iw,hr _ e,p,r,z _,_,oS ((A _ (Ext.refl _)).2) (by decide),_,GA y.dot,aV.ji gi aW j8 G c (by simp) (dY y.dot) (by simp;omega) fun v' s' W w' _=>?_⟩;exact ⟨I.length - (i+1),by omega,i+1,v',by rw [aX (by omega)];rfl,by omega,rfl,w',by rw [ht,if_pos hb];exact W⟩
  ·exact ⟨I.length - (i+1),by omega,i+1,M,by rw [aX (by omega)];rfl,by omega,rfl,G,by rw [ht,if_neg (by rw [hb];simp),List.append_nil];exact c⟩
 ·rw [List.take_of_length_le (by omega)] at c;exact ⟨_,IC D k,c.tI,d.ext.mut.trans c.eC,fun la C=>d.ext.none (c.new la C)⟩
theorem nA.PK {s':AS} {v:AV} {l:List eJ} (h:nA F s q x) (hs:Sl bw 5 s v l) (m:bz [q] s s'):Sl bw 5 s' v l:=by
 obtain ⟨ok,Gg,w,iw,I,a,⟨i,j,d⟩,⟨k,c2,e⟩,_⟩:=h;refine GB a (fun c b n=>?_) hs m;rcases List.mem_append.1 b with b | b
 ·obtain ⟨y,_,rfl⟩:=List.mem_map.1 b;simp
 ·simp only [List.mem_cons,List.not_mem_nil,or_false] at b;rcases b with rfl | rfl
  ·exact sn d n
  ·exact sn e n
theorem PN (hw : aG s) (h : nA F s q x) (o : nr x B) (C : ∀ y ∈ F, s.h y ≠ none) {v : AV} {L : List eJ} (hv : Sl bw 5 s v L) (hB : B + L.length <= 1000) (hL : ∀ i ∈ L, i.may = true) {K : AS -> Prop}
    (hK : ∀ s' F', nA F' s' q (x.dX L).2 -> (∀ y ∈ F', y ∈ F \/ s.h y = none) -> (∀ y ∈ F', s'.h y ≠ none) -> bz [q] s s' -> Sl bw 5 s' v L -> aG s' -> K s') :
    bA fun k J => k J [.int .i64 0] s /\
     ∀ D : Nat, ∀ d : Int, ∀ b : AS, k D [.int .i64 d] b ->
     aU .i64 (aQ T aE v b) fun M => af (decide ((d : Int) < M))
     (bJ (ag T aE v (.int .i64 d)) fun O Q => aR (aC b O Q 5) fun R => aa Tryz.prog iO [(.ptr (some (q, 0))), (.agg R)] b fun S G => ∃ U : Bool, S = .bool U /\ (∃ m', m' < D /\ k m' [(.int .i64 (IntKind.wrap .i64 (d + 1)))] G))
     (K b) := by
  have p : ∀ (i : Nat) y, L[i]? = some y -> (x.dX (L.take (i + 1))).2 = ((x.dX (L.take i)).2.mo y).2 := by
    intro i y w;unfold aF.dX;rw [List.take_add_one, w, Option.toList_some, List.foldl_append];rfl
  refine ⟨fun m vs s' => ∃ i : Nat, vs = [.int .i64 (i : Nat)] /\ i <= L.length /\ m = L.length - i /\ aG s' /\ bz [q] s s' /\ Sl bw 5 s' v L /\ ∃ F', nA F' s' q (x.dX (L.take i)).2 /\ (∀ y ∈ F', y ∈ F \/ s.h y = none) /\ ∀ y ∈ F', s'.h y ≠ none, L.length, ⟨0, rfl, by omega, rfl, hw, bz.refl _ _, hv, F, h, fun y w => .inl w, C⟩, ?_⟩;rintro m n b ⟨i, hi, h6, rfl, W, A, c, F', H, hn, ht⟩;simp only [List.cons.injEq, AV.int.injEq, true_and, and_true] at hi;subst hi;refine ⟨_, c.cJ cZ _, af.dec (fun ad => ?_) (fun ae => ?_)⟩
  · obtain ⟨y, w⟩ := cT (l := L) (i := i) (by omega);obtain ⟨ly, oy, k8, k9⟩ := c.ix (by decide) aW cZ ox w;have ok : nr (x.dX (L.take i)).2 (B + (L.take i).length) := o.dX _ fun j hj => hL j (List.mem_of_mem_take hj);have al := List.length_take_le i L;have am : (L.take i).length <= L.length := by rw [List.length_take]; omega
    refine ⟨ly, oy, k8 _, _, (k9 _ (Ext.refl _)).2, ?_⟩;refine aa.use (OO H ok (by omega) ht y (hL y (List.mem_of_getElem? w))) ?_;rintro r G ⟨rfl, m32, F2, X, Y, Z⟩ ab;refine ⟨_, rfl, L.length - (i + 1), by omega, i + 1, by rw [aX (by omega)]; rfl, by omega, rfl, ab, A.trans m32, H.PK c m32, F2, by rw [p i y w]; exact X, fun z hz => ?_, Z⟩;have an : s.h q ≠ none := C q h.qF;rcases Y z hz with I | I
    · exact hn z I
    · right;cases hq : s.h z with
      | none => rfl
      | some ob =>
        by_cases e : z = q
        · subst e;exact absurd I (ht _ H.qF)
        · rw [A.1 z ob (by simpa using e) hq] at I; cases I
  · rw [List.take_of_length_le (by omega)] at H;exact hK b F' H hn ht A c W
theorem OP (h:nA F s q x) (o:nr x B) (G:∀ y∈F,s.h y≠none) (hB:B<=450) (k:Key) (d:aJ) (X:k.may=true) (hd:d.may=true) :
  aa Tryz.prog pP [.ptr (some (q,0)),.agg (eZ k),.agg (aI d)] s fun v s'=>∃ l,KD x k l/\Sl bw 5 s' v (⟨d,k,false⟩::l.map dY)/\bz [q] s s'/\∃ F',nA F' s' q (x.dX (⟨d,k,false⟩::l.map dY)).2/\(∀ y∈F',y∈F\/s.h y=none)/\∀ y∈F',s'.h y≠none:=by
 refine aa.pre fun Y=>Ex _ _ _ _ _ ⟨rfl,aj.intro Y rfl fun l1 s2 C=>⟨rfl,aj.intro C.wf rfl fun l3 s4 D=>?_⟩⟩;have S:=C.ext.trans D.ext;have h4:=h.ext S;obtain ⟨w0,Z,I0,_,_,_,H,_⟩:=h.open;have c:=IC H k;generalize ab:(I0.filter (p_ k)).map eJ.dot=l at c;refine ⟨fun z _ v s'=>(z=3->∃ l,v=.slc (some (l,0)) 1 1 true/\At s' l (bw ⟨d,k,false⟩))/\(z=6->Sl bw 5 s' v (l.map dY)),fun z _ v=>z=3->∃ l,v=.slc (some (l,0)) 1 1 true,?_,_,D.own.at.aC (by simp [aI]),_,(C.own.ext D.ext).at.aC (by simp [eZ]),_,GD d k,fun s8 e8 w8 _=>?_,⟨.slc (some (0,0)) 1 1 true,fun _=>⟨0,rfl⟩⟩,fun ad U=>⟨_,(C.own.ext D.ext).at.aC (by simp [eZ]),fun ae I al _=>?_,⟨.undef,(fun h=>by cases h)⟩,fun am _ eT J K W=>?_⟩⟩
 ·rintro z ks v s s' e ⟨h1,h2⟩;refine ⟨fun L=>?_,fun L=>(h2 L).ext e⟩;obtain ⟨l,a,b⟩:=h1 L;exact ⟨l,a,b.ext e⟩
 ·exact ⟨_,kL gi (aW _) (j8 _),aj.intro w8 rfl fun oQ an n=>⟨n.ext,⟨(fun _=>⟨oQ,rfl,n.own.at⟩),(fun h=>by cases h)⟩,fun _=>⟨oQ,rfl⟩⟩⟩
 ·refine (Dx (h4.ext I) o (by omega) k).mono ?_;rintro ao ar ⟨l',M,g⟩;obtain rfl:=M.uniq c;exact ⟨g.eC.ext,⟨(fun h=>by cases h),fun _=>g.sl aW⟩,(fun h=>by cases h)⟩
 obtain ⟨aw,rfl,hi⟩:=W.1.1 rfl;have hg:=W.2.1.2 rfl;have a0:=c.len o;refine GC K hi hg (by simp;omega) fun v20 gG p O Q=>?_;have j:=S.trans (J.trans Q);have r:∀ i∈(⟨d,k,false⟩:eJ)::l.map dY,i.may=true:=by
  intro i hi;rcases List.mem_cons.1 hi with rfl | hi
  ·simp [eJ.may,X,hd]
  ·obtain ⟨y,A,rfl⟩:=List.mem_map.1 hi;exact tZ (aF.qy (c.has o A))
 refine PN O (h.ext j) o (fun y A R=>G y A (j.none R)) p (by simp;omega) r fun s' F' hR R ht m hs w=>?_;exact ⟨l,c,hs,j.mut.trans m,F',hR,fun y A=>(R y A).imp id fun h=>j.none h,ht⟩
theorem HQ (h:nA F s q x) (o:nr x B) (d:∀ y∈F,s.h y≠none) (z:B<=450) (k:Key) :
  aa Tryz.prog iB [.ptr (some (q,0)),.agg (eZ k)] s fun v s'=>∃ l,KD x k l/\Sl bw 5 s' v (l.map dY)/\bz [q] s s'/\∃ F',nA F' s' q (x.dX (l.map dY)).2/\(∀ y∈F',y∈F\/s.h y=none)/\∀ y∈F',s'.h y≠none:=by
 refine aa.pre fun j=>zJ _ _ _ _ ⟨rfl,aj.intro j rfl fun l1 s2 e=>⟨_,e.own.at.aC (by simp [eZ]),?_⟩⟩;refine aa.use (Dx (h.ext e.ext) o (by omega) k) ?_;rintro A C ⟨l,kd,g⟩ n;have c:=e.ext.trans g.eC.ext;have p:=kd.len o;refine PN n (h.ext c) o (fun y b i=>d y b (c.none i)) (g.sl aW) (by simp;omega) (xX fun y b=>aF.qy (kd.has o b)) fun s' F' r i ht m hs w=>?_;exact ⟨l,kd,hs,c.mut.trans m,F',r,fun y b=>(i y b).imp id fun h=>c.none h,ht⟩
end
end Go.Proofs.YtohgmogbabkkeaaGreat
end

section
namespace Go.Proofs.YtohgmogbabkkeaaGreat
open Go.Am Go.av Go.aB
section
variable {F:List Nat} {s:AS} {p:Nat} {x:aF} {B:Nat}
end
/-! ### the reference's live items and keys -/
section
variable {F:List Nat} {s:AS} {q:Nat} {x:aF} {B:Nat}
def kC (I:List eJ):List eJ:=I.filter fun i=>!i.gone
theorem MP (h:nA F s q x) (o:nr x B) (R:B<=1000):aa Tryz.prog nX [.ptr (some (q,0))] s fun v s'=>∃ I,Items x I/\aV bw 5 [] s s' v (kC I):=by
 obtain ⟨w,iw,I,a,c2,D,e,hr,_⟩:=h.open;have hlen:=e.len o;refine aa.pre fun G=>CZ _ _ _ ⟨fun m vs s'=>∃ (i:Nat) (v:AV),vs=[v,.int .i64 (i:Nat)]/\i<=I.length/\m=I.length - i/\aG s'/\aV bw 5 [] s s' v (kC (I.take i)),I.length,⟨0,_,rfl,by omega,rfl,G,by simpa [kC] using aV.nil⟩,?_⟩;rintro m H n s6 ⟨i,v',hi,S,rfl,j,b⟩;simp only [List.cons.injEq,AV.int.injEq,true_and,and_true] at hi;obtain ⟨rfl,rfl⟩:=hi;have c:=b.eC.ext;have k:=(D.ext c).sl aW;refine ⟨iw,hr _ c,_,k.cJ cZ _,af.dec (fun J=>?_) (fun K=>?_)⟩
 ·obtain ⟨y,p⟩:=cT (l:=I) (i:=i) (by omega);obtain ⟨r,z,A,C⟩:=k.ix (by decide) aW cZ ox p;have L:=List.length_filter_le (fun i:eJ=>!i.gone) (I.take i);have M:=List.length_take_le i I;have ht:kC (I.take (i+1))=kC (I.take i)++if y.gone=false then [y] else []:=by
   unfold kC;rw [List.take_add_one,p,List.filter_append,Option.toList_some];congr 1;cases O:y.gone <;> simp [List.filter_cons,O]
  refine ⟨iw,hr _ c,r,z,A _,y.gone,(C _ (Ext.refl _)).1 4 (by decide),af.mk (fun d=>?_) (fun d=>?_)⟩
  ·refine ⟨iw,hr _ c,r,z,A _,_,(C _ (Ext.refl _)).2,aV.ji gi aW j8 j b (by simp) y (by unfold kC;omega) fun v' s' Q w' _=>?_⟩;exact ⟨I.length - (i+1),by omega,i+1,v',by rw [aX (by omega)];rfl,by omega,rfl,w',by rw [ht,if_pos (by simpa using d)];exact Q⟩
  ·exact ⟨I.length - (i+1),by omega,i+1,H,by rw [aX (by omega)];rfl,by omega,rfl,j,by rw [ht,if_neg (by simpa using d),List.append_nil];exact b⟩
 ·rw [List.take_of_length_le (by omega)] at b;exact ⟨I,e,b⟩
theorem ID {I:List eJ} (h:Items x I) (i:eJ):i∈kC I↔i.gone=false/\x.live i.dot=some i.key:=by
 unfold kC;rw [List.mem_filter,h.mem];unfold aF.item;cases i.gone <;> simp
end
end Go.Proofs.YtohgmogbabkkeaaGreat
end

section
set_option maxRecDepth 100000
set_option maxHeartbeats 4000000
namespace Go.Proofs.YtohgmogbabkkeaaGreat
open Go.Am
end Go.Proofs.YtohgmogbabkkeaaGreat
end

section
namespace Go.Proofs.YtohgmogbabkkeaaGreat
open Go.Am Go.av Go.aB
section
variable {s0 s s':AS} {p q:Nat} {x y:aF} {B:Nat}
end
end Go.Proofs.YtohgmogbabkkeaaGreat
end

section
namespace Go.Proofs.YtohgmogbabkkeaaGreat
open Go.Am Go.av Go.aB Go.ChangeShapes Go.WideShapes Go.ChangeAt Go.RowKit
end Go.Proofs.YtohgmogbabkkeaaGreat
end

section
namespace Go.Proofs.YtohgmogbabkkeaaGreat
open Go.Am Go.av Go.aB Go.ChangeShapes Go.WideShapes Go.ChangeAt Go.RowKit
end Go.Proofs.YtohgmogbabkkeaaGreat
end

section
namespace Go.Proofs.YtohgmogbabkkeaaGreat
open Go.Am Go.av Go.aB
section
variable {s0 s:AS} {p q:Nat} {x:aF} {B:Nat} {F G:List Nat}
end
end Go.Proofs.YtohgmogbabkkeaaGreat
end

section
namespace Go.Am
end Go.Am
namespace Go.Proofs.YtohgmogbabkkeaaGreat
open Go.Am Go.av Go.aB
section
variable {s0 s s':AS} {p q:Nat} {x y:aF} {B:Nat}
end
end Go.Proofs.YtohgmogbabkkeaaGreat
end

section
namespace Go.Proofs.YtohgmogbabkkeaaGreat
open Go.Am Go.av Go.aB
end Go.Proofs.YtohgmogbabkkeaaGreat
end

section
set_option maxRecDepth 100000
set_option maxHeartbeats 4000000
namespace Go.Proofs.YtohgmogbabkkeaaGreat
open Go.Am
end Go.Proofs.YtohgmogbabkkeaaGreat
end

section
namespace Go.Proofs.YtohgmogbabkkeaaGreat
open Go.Am Go.av Go.aB
/-! ### plainly -/
/-! ### at a set -/
section
variable {s0 s:AS} {F:List Nat} {p:Nat} {x:aF} {B:Nat}
end
end Go.Proofs.YtohgmogbabkkeaaGreat
end

section
namespace Go.Proofs.YtohgmogbabkkeaaGreat
open Go.Am Go.av Go.aB
/-! ### plainly -/
section
variable {v:List Int} {ex:List aJ} {L:List eJ} {x:aF}
end
/-! ### in memory -/
end Go.Proofs.YtohgmogbabkkeaaGreat
end

section
namespace Go.Proofs.YtohgmogbabkkeaaGreat
open Go.Am Go.av Go.aB
end Go.Proofs.YtohgmogbabkkeaaGreat
end

section
namespace Go.Proofs.YtohgmogbabkkeaaGreat.SI
open Go.Am Go.av Go.aB Go.av.SI
section
variable {s0 s:AS} {a:AV} {l:List eJ} {g:FuncId} {cap:List AV} {P:eJ->Bool}
end
end Go.Proofs.YtohgmogbabkkeaaGreat.SI
end

section
namespace Go.Proofs.YtohgmogbabkkeaaGreat
open Go.Am Go.av Go.aB
/-! ### buckets -/
section
variable {F G:List Nat} {s:AS} {p q:Nat} {x:aF} {B:Nat}
end
/-! ### dests -/
structure B4 where
 dot:aJ
 dev:List UInt8
 deriving DecidableEq
def rM (e:B4):List AV:=[.int .i64 e.dot.r,.int .u64 e.dot.c,.str e.dev]
theorem dV (e:B4):(rM e).length=3:=rfl
theorem t_ (e:B4):(rM e).all AV.one=true:=rfl
theorem ua:Cf T bL wS 3 32:=⟨eX,ze,VZ,⟨_,_,Us,rfl,rfl⟩,by decide,by decide⟩
theorem IE (d:aJ) (t:List UInt8):aS T wS [(0,.agg (aI d)),(1,.str t)]=some (.agg (rM ⟨d,t⟩)):=by kernel_rfl
structure qg (x:aF) (t:List UInt8) (L:List B4):Prop where
 Rz:ef (L.map B4.dot)
 mem:∀ e,e∈L↔x.live e.dot=some ⟨t,e.dev⟩
theorem Q4 (d:aJ) (k:Key) {c:Nat} {t:List UInt8} {s:AS} (j:At s c [.str t]):aa Tryz.prog kF [.agg (aI d),.agg (eZ k),.ptr (some (c,0))] s fun v s'=>v=.bool (k.t==t)/\Ext s s':=by
 refine aa.pre fun l=>yB _ _ _ _ _ ⟨rfl,aj.intro l rfl fun l1 s2 b=>⟨rfl,aj.intro b.wf rfl fun l3 s4 e=>?_⟩⟩;have i:=b.ext.trans e.ext;exact ⟨k.t,by rw [e.own.at.au];rfl,t,by rw [(j.ext i).au];rfl,rfl,i⟩
section
variable {F G:List Nat} {s:AS} {p q:Nat} {x:aF} {B:Nat}
theorem aV.back {α:Type} {f:α->List AV} {sz:Nat} {s0 s1 s:AS} {v:AV} {l:List α} (h:aV f sz [] s1 s v l) (e:Ext s0 s1):aV f sz [] s0 s v l:=⟨h.tI,e.mut.trans h.eC,fun la b=>e.none (h.new la b)⟩
theorem S8 (h:gM F s p x) (o:nr x B) (hB:B<=1000) (t:List UInt8) :
  aa Tryz.prog cX [.ptr (some (p,0)),.str t] s fun v s'=>∃ L,qg x t L/\aV rM 3 [] s s' v L/\L.length<=x.nl:=by
 obtain ⟨S,U⟩:=h.Xe o;refine aa.pre fun W=>BE _ _ _ _ (aj.intro W rfl fun l1 s2 C=>?_);refine aa.use (ng (h.ext C.ext)) ?_;rintro v s4 ⟨rfl,rfl⟩ w4;have X:=C.own.at;refine ⟨_,rfl,af.no rfl ?_⟩;refine aa.use (ES (P:=fun _ k=>k.t==t) (h.ext C.ext) (by omega) fun d k s' e w=>Q4 d k (X.ext e)) ?_;rintro v6 s7 ⟨D,J,G,Q,Y⟩ Z;have h7:=h.ext (C.ext.trans J.eC.ext);have H:=J.sl bn;have key:∀ d∈D,∃ k,x.live d=some k/\k.t=t:=by
  intro d hd;have:=(Q d).1 hd;unfold aF.held at this;cases A:x.live d with
  | none=>rw [A] at this;cases this
  | some k=>rw [A] at this;exact ⟨k,rfl,by simpa using this⟩
 let f:aJ->B4:=fun d=>⟨d,((x.live d).getD ⟨[],[]⟩).d⟩
 refine ⟨_,H.cJ bI _,fun m vs s'=>∃ (i:Nat) (v:AV),vs=[v,.int .i64 (i:Nat)]/\i<=D.length/\m=D.length - i/\aG s'/\aV rM 3 [] s7 s' v ((D.take i).map f),D.length,⟨0,_,rfl,by omega,rfl,Z,by simpa using aV.nil⟩,?_⟩;rintro m ab n ad ⟨i,v',hi,h6,rfl,K,b⟩;simp only [List.cons.injEq,AV.int.injEq,true_and,and_true] at hi;obtain ⟨rfl,rfl⟩:=hi;refine af.dec (fun ae=>?_) (fun al=>?_)
 ·obtain ⟨d,A⟩:=cT (l:=D) (i:=i) (by omega);obtain ⟨la,oa,k8,k9⟩:=H.ix (by decide) bn bI kq A;refine ⟨la,oa,k8 _,_,(k9 _ b.eC.ext).2,kj K rfl rfl rfl fun am gy j=>?_⟩;have M:=b.eC.ext.trans j.ext;obtain ⟨_,_,_,pc,lm,tm,a,_,_,_,_,_,⟨es,c,hm,hg,_⟩,_⟩:=h7.ext M;obtain ⟨k,I,y⟩:=key d (List.mem_of_getElem? A);have z:bR T cj (.map (some lm)) (.agg (aI d)) false gy=some (.agg (eZ k)):=by
   have:=hm.find va d false;rw [hg,I] at this;exact this
  have O:f d=⟨d,k.d⟩:=by simp [f,I]
  have ht:(D.take (i+1)).map f=(D.take i).map f++[⟨d,k.d⟩]:=by rw [List.take_add_one,A,Option.toList_some,List.map_append,<- O];rfl
  have r:=j.own.at;refine ⟨_,r.aC (by simp [aI]),some lm,by rw [a.at.au];rfl,_,r.aC (by simp [aI]),_,z,k.d,rfl,_,IE d k.d,?_⟩;refine aV.ji ua dV t_ j.wf (b.step j.ext) (by simp) ⟨d,k.d⟩ (by simp;omega) fun v' s' g' w' _=>?_;exact ⟨D.length - (i+1),by omega,i+1,v',by rw [aX (by omega)];rfl,by omega,rfl,w',by rw [ht];exact g'⟩
 ·rw [List.take_of_length_le (by omega)] at b;refine ⟨D.map f,⟨?_,fun e=>?_⟩,aV.back b (C.ext.trans J.eC.ext),by rw [List.length_map];omega⟩
  ·rw [List.map_map];have:D.map (B4.dot∘f)=D:=by
    conv=>rhs;rw [<- List.map_id D]
    rfl
   rw [this];exact G
  ·rw [List.mem_map];constructor
   ·rintro ⟨d,hd,rfl⟩;obtain ⟨k,I,y⟩:=key d hd;simp only [f,I];cases k;simp only at y;subst y;rfl
   ·intro R;refine ⟨e.dot,(Q _).2 (by simp [aF.held,R]),?_⟩;simp only [f,R];rfl
theorem KK (h:nA G s q x) (o:nr x B) (O:B<=1000) (t:List UInt8) :
  aa Tryz.prog cY [.ptr (some (q,0)),.str t] s fun v s'=>∃ L,qg x t L/\aV rM 3 [] s s' v L/\L.length<=B:=by
 refine BH _ _ _ _ ?_;refine aa.use (MP h o O) ?_;rintro Z s2 ⟨I,A,K⟩ w2;have D:=A.len o;have F:(kC I).length<=I.length:=List.length_filter_le _ _;have r:=K.sl aW
 let f:eJ->List B4:=fun i=>if i.key.t=t then [⟨i.dot,i.key.d⟩] else []
 have b:∀ l:List eJ,(l.flatMap f).length<=l.length:=by
  intro l
  induction l with
  | nil=>simp
  | cons a l C =>
   have h1:(f a).length<=1:=by simp only [f];split <;> simp
   rw [List.flatMap_cons,List.length_append,List.length_cons];omega
 refine ⟨fun m vs s'=>∃ (i:Nat) (v:AV),vs=[v,.int .i64 (i:Nat)]/\i<=(kC I).length/\m=(kC I).length - i/\aG s'/\aV rM 3 [] s2 s' v (((kC I).take i).flatMap f),(kC I).length,⟨0,_,rfl,by omega,rfl,w2,by simpa using aV.nil⟩,?_⟩;rintro m H n Q ⟨i,v',hi,h6,rfl,w,c⟩;simp only [List.cons.injEq,AV.int.injEq,true_and,and_true] at hi;obtain ⟨rfl,rfl⟩:=hi;refine ⟨_,r.cJ cZ _,af.dec (fun R=>?_) (fun S=>?_)⟩
 ·obtain ⟨j,M⟩:=cT (l:=kC I) (i:=i) (by omega);obtain ⟨la,oa,J,U⟩:=r.ix (by decide) aW cZ ox M;have step:=List.take_add_one (l:=kC I) (i:=i);rw [M,Option.toList_some] at step;have y:=U _ c.eC.ext;refine ⟨la,oa,J _,j.key.t,y.1 2 (by decide),?_⟩;have W:=b ((kC I).take i);have X:=List.length_take_le i (kC I);refine af.mk (fun hb=>?_) (fun hb=>?_)
  ·have k:j.key.t=t:=by simpa using hb
   refine ⟨la,oa,J _,_,oS y.2 (by decide),la,oa,J _,j.key.d,y.1 3 (by decide),_,IE j.dot j.key.d,?_⟩;refine aV.ji ua dV t_ w c (by simp) ⟨j.dot,j.key.d⟩ (by omega) fun v' s' Y w' _=>?_;refine ⟨(kC I).length - (i+1),by omega,i+1,v',by rw [aX (by omega)];rfl,by omega,rfl,w',?_⟩;rw [step,List.flatMap_append];simpa [f,k] using Y
  ·have k:¬ j.key.t=t:=by simpa using hb
   refine ⟨(kC I).length - (i+1),by omega,i+1,H,by rw [aX (by omega)];rfl,by omega,rfl,w,?_⟩;rw [step,List.flatMap_append];simpa [f,k] using c
 ·rw [List.take_of_length_le (by omega)] at c;have z:ef ((kC I).map eJ.dot):=A.Rz.sublist (List.Sublist.map _ List.filter_sublist);refine ⟨(kC I).flatMap f,⟨?_,fun e=>?_⟩,aV.back c K.eC.ext,Nat.le_trans (b _) (Nat.le_trans F D)⟩
  ·have:∀ l:List eJ,(((l.flatMap f)).map B4.dot).Sublist (l.map eJ.dot):=by
    intro l
    induction l with
    | nil=>simp
    | cons a l C =>
     simp only [List.flatMap_cons,List.map_append,List.map_cons,f] at C ⊢;split
     ·simpa using C
     ·simpa using C.trans (List.sublist_cons_self _ _)
   exact z.sublist (this _)
  ·rw [List.mem_flatMap];constructor
   ·rintro ⟨j,hj,p⟩;simp only [f] at p;split at p
    ·rename_i y;obtain rfl:=List.mem_singleton.1 p;rw [((ID A j).1 hj).2,<- y]
    ·cases p
   ·intro p;exact ⟨⟨e.dot,⟨t,e.dev⟩,false⟩,(ID A _).2 ⟨rfl,p⟩,by simp [f]⟩
theorem HR (h:nA G s q x) (o:nr x B) (O:B<=1000) (d:aJ) :
  aa Tryz.prog iz [.ptr (some (q,0)),.agg (aI d)] s fun r s'=>r=.bool (!(x.live d).isSome&&x.has d)/\Ext s s':=by
 have hex:=o.Vs;obtain ⟨w,iw,I,a,c2,z,j,hr,hT⟩:=h.open;have hlen:=j.len o;refine aa.pre fun F=>zG _ _ _ _ ⟨rfl,aj.intro F rfl fun l1 s2 c=>⟨_,c.own.at.aC (by simp [aI]),?_⟩⟩;refine aa.use (Vr (a.ext c.ext) h.ok.v.len ((z.sl aW).ext c.ext) (by omega) d) ?_;rintro Q R ⟨A,n,rfl,l⟩ S;refine ⟨_,rfl,_,(c.own.ext A).at.aC (by simp [aI]),?_⟩;have C:=c.ext.trans A;refine aa.use (Iy (hT.ext C) (by omega) d) ?_;rintro v10 H ⟨rfl,m⟩ J;have b:=C.trans m;have e:ff x.v x.ex d=x.has d:=rfl;rw [e];refine ⟨_,rfl,af.mk (fun hb=>?_) (fun hb=>⟨by rw [hb];simp,b⟩)⟩;rcases l with ⟨rfl,p⟩ | ⟨k,rfl,i,hi,y⟩
 ·refine af.yes rfl ⟨?_,b⟩;have:x.live d=none:=by
   cases K:x.live d with
   | none=>rfl
   | some k=>exact absurd rfl (p ⟨d,k,false⟩ ((j.mem _).2 K))
  rw [this,hb];rfl
 ·have hs:=(z.sl aW).ext b;obtain ⟨la,oa,L,M⟩:=hs.ix (by decide) aW cZ ox hi;refine af.no (by simp) ⟨iw,hr _ b,la,oa,L _,i.gone,(M _ (Ext.refl _)).1 4 (by decide),?_,b⟩;have hm:=(j.mem i).1 (List.mem_of_getElem? hi);unfold aF.item at hm;subst y;cases D:i.gone with
  | true =>
   rw [D] at hm;rw [(o.tb _ hm.1).2,hb];rfl
  | false =>
   rw [D] at hm;rw [hm];rfl
end
end Go.Proofs.YtohgmogbabkkeaaGreat
end

section
namespace Go.Proofs.YtohgmogbabkkeaaGreat
open Go.Am Go.av Go.aB
end Go.Proofs.YtohgmogbabkkeaaGreat
end

section
namespace Go.Am
section
variable {T:TT} {t el:TypeId} {sz qD:Nat} (ht:Cf T t el sz qD)
include ht
end
end Go.Am
namespace Go.Proofs.YtohgmogbabkkeaaGreat
open Go.Am Go.av Go.aB
def oT (n:Int):List AV:=[.int .u8 n]
theorem bM (n:Int):(oT n).length=1:=rfl
theorem KL (n:Int):(oT n).all AV.one=true:=rfl
theorem gK:Cf T aq r0 1 1:=⟨aO,eG,JN,⟨_,_,FT,rfl,rfl⟩,by decide,by decide⟩
theorem sU (l:List Int):(l.flatMap oT).length=l.length*1:=ek bM l
abbrev fE (s:AS) (v:AV) (l:List Int):Prop:=Sl oT 1 s v l
abbrev zK (s0 s:AS) (v:AV) (l:List Int):Prop:=aV oT 1 [] s0 s v l
def yL (s:AS) (v:AV) (n:Nat) (l:List Int) (lo:Option Nat):Prop :=
 match lo with
 | none=>v=.slc none 0 0 true/\n=0/\l=[]
 | some lo=>v=.slc (some (lo,0)) l.length n false/\l.length<=n/\∃ rest,s.h lo=some (.cells (l.flatMap oT++rest) 1 false)/\rest.length=(n - l.length)*1
theorem yL.app {s:AS} {v x:AV} {n:Nat} {l xs:List Int} {lo:Nat} (h:yL s v n l (some lo)) (j:aG s) (r:Sl oT 1 s x xs) (k:l.length+xs.length<=n) (hb:n<=2 ^ 30)
  {K:AV->AS->Prop} (m:∀ v' s',yL s' v' n (l++xs) (some lo)->aG s'->bz [lo] s s'->K v' s'):iT (aL T aq aq v x s) K:=by
 obtain ⟨rfl,hle,rest,b,hr⟩:=h;obtain ⟨c,hlen⟩:=ct.src gK r;have e:=jX gK (base:=some (lo,0)) (len:=l.length) (cap:=n) (ex:=false) aO hlen c (by rw [sU]) (by omega);rw [if_pos k] at e;by_cases p:xs.flatMap oT=[]
 ·have d:xs=[]:=by
   have:=congrArg List.length p;rw [sU] at this;exact List.length_eq_zero_iff.1 (by simp only [List.length_nil] at this;omega)
  subst d;simp only [List.flatMap_nil,if_true] at e;exact ⟨_,_,e,m _ _ ⟨by simp,by simpa using hle,rest,by simpa using b,by simpa using hr⟩ j (bz.refl _ _)⟩
 ·simp only [if_neg p] at e;have i:=j.put b (o:=.cells (qC (l.flatMap oT++rest) (0+l.length*1) (xs.flatMap oT)) 1 false) rfl;have ea:cU s lo (0+l.length*1) (xs.flatMap oT)=some (s.put lo (.cells (qC (l.flatMap oT++rest) (0+l.length*1) (xs.flatMap oT)) 1 false)):=by
   simp only [cU,b];rw [if_pos (by rw [List.length_append,sU,sU,hr];omega)]
  rw [ea] at e;refine ⟨_,_,e,m _ _ ⟨by simp,by simpa using k,rest.drop (xs.flatMap oT).length,?_,?_⟩ i.wf i.mut⟩
  ·rw [i.at,Nat.zero_add,<- sU l,PC _ _ _ (by rw [sU,hr];omega),List.flatMap_append]
  ·rw [List.length_drop,sU,hr,List.length_append];omega
theorem yL.app' {s:AS} {v x:AV} {n:Nat} {l xs:List Int} {lo:Option Nat} (h:yL s v n l lo) (c:aG s) (d:Sl oT 1 s x xs) (i:l.length+xs.length<=n) (hb:n<=2 ^ 30)
  {K:AV->AS->Prop} (j:∀ v' s',yL s' v' n (l++xs) lo->aG s'->bz lo.toList s s'->K v' s'):iT (aL T aq aq v x s) K:=by
 cases lo with
 | some lo=>exact yL.app h c d i hb j
 | none =>
  obtain ⟨rfl,rfl,rfl⟩:=h;obtain rfl:xs=[]:=by simpa using i
  obtain ⟨b,hlen⟩:=ct.src gK d;have e:=jX gK (base:=none) (len:=0) (cap:=0) (ex:=true) aO hlen b (by simp) (by simp);simp only [List.length_nil,Nat.le_refl,if_true] at e;exact ⟨_,_,e,j _ _ ⟨rfl,rfl,rfl⟩ c (bz.refl _ _)⟩
def MQ (t:List UInt8):List Int:=t.map fun c=>(c.toNat:Int)
theorem xx (t:List UInt8):(MQ t).length=t.length:=by simp [MQ]
theorem Q5 (t:List UInt8):(MQ t).flatMap oT=t.map fun c=>AV.int .u8 c.toNat:=by
 induction t with
 | nil=>rfl
 | cons a t b=>simp only [MQ,List.map_cons,List.flatMap_cons,oT] at b ⊢;rw [b];rfl
def WK (l:List Int):List UInt8:=l.map fun n=>UInt8.ofNat n.toNat
theorem MR (l:List Int):yN (l.flatMap oT)=some (WK l):=by
 induction l with
 | nil=>rfl
 | cons a l b =>
  simp only [List.flatMap_cons,oT,List.cons_append,List.nil_append,yN,b,WK,List.map_cons,Option.map_some]
theorem S9 {s:AS} {v:AV} {l:List Int} (h:fE s v l) (b:l≠[]):(cW T aq bX v s).map (·.1)=some (.str (WK l)):=by
 have m:0<l.length:=List.length_pos_iff.2 b;rcases h with ⟨rfl,h2,h3⟩ | ⟨a,c,e,rfl,⟨d,h2⟩,h3⟩
 ·omega
 ·rcases h3 with h3 | ⟨la,o,C,rfl,i,h3⟩
  ·omega
  ·have j:o+l.length<=C.length:=by
    have:=congrArg List.length h3;rw [List.length_take,List.length_drop,d] at this;omega
   have hr:aC s la o l.length=some (l.flatMap oT):=by
    rw [i.aC j,<- h3,Nat.mul_one]
   have k:¬ l.length=0:=by omega
   simp [cW,aO,mS,AH,hr,MR,b]
/-! ### numbers -/
def vg (n:Int) (b:Nat):Int:=IntKind.wrap .u8 (Int.fdiv n (2 ^ min b (IntKind.bits .u64)))
def xY (n:Int) (k:Nat):List Int:=(List.range k).map fun i=>vg n (8*(k - 1 - i))
theorem j_ (n:Int) (k:Nat):(xY n k).length=k:=by simp [xY]
theorem xy {M:List Nat} {s0 s:AS} (b:aG s) {v:AV} {l:List Int} (h:aV oT 1 M s0 s v l) (c:∀ x∈M,s.h x≠none) (n:Int) (hb:l.length+1<=2 ^ 30) {K:AV->AS->Prop} (d:∀ v' s',aV oT 1 M s0 s' v' (l++[n])->aG s'->bz (ax v) s s'->K v' s'):aR (dw T aq 1 [(0,.int .u8 n)]) fun g=>aj (.cells g 0 false) s fun la s1=>iT (aL T aq aq v (.slc (some (la,0)) 1 1 true) s1) K :=
 aV.LC (f:=fun n:Int=>AV.int .u8 n) gK rfl (fun _=>rfl) b h c n hb d
theorem xz {M:List Nat} {s0 s:AS} (b:aG s) {v x:AV} {l xs:List Int} (h:aV oT 1 M s0 s v l) (c:∀ x∈M,s.h x≠none) (d:fE s x xs) (hb:l.length+xs.length<=2 ^ 30) {K:AV->AS->Prop} (e:∀ v' s',aV oT 1 M s0 s' v' (l++xs)->aG s'->bz (ax v) s s'->K v' s'):iT (aL T aq aq v x s) K :=
 aV.k_ gK bM KL b h c d hb aO e
theorem S_ (n:Int) (k:Nat) (A:1<=k/\k<=8) (l:k<8->Int.fdiv n (2 ^ min (8*k) (IntKind.bits .u64))=0) (s:AS) :
  aa Tryz.prog uN [.int .u64 n,.int .i64 (k:Nat)] s fun r s'=>∃ v,r=.aN [v,.int .i64 0]/\zK s s' v (xY n k):=by
 refine aa.pre fun o=>OJ _ _ _ _ ⟨fun vs s'=>vs=[.bool false]/\s'=s,?_,af.dec (fun h=>absurd h (by omega)) (fun _=>af.dec (fun h=>absurd h (by omega)) (fun _=>af.dec (fun h=>⟨?_,?_,rfl⟩) (fun _=>⟨rfl,rfl⟩)))⟩
 ·rintro b s3 ⟨hb,rfl⟩;obtain rfl:b=false:=by simpa using hb
  refine af.no rfl ⟨fun vs s'=>∃ v,vs=[v]/\zK s3 s' v (xY n k),?_,fun m vs s'=>∃ (i:Nat) (v:AV),vs=[v,.int .i64 (i:Nat)]/\i<=k/\m=k - i/\aG s'/\zK s3 s' v ((List.range i).map fun j=>vg n (8*(k - 1 - j))),k,⟨0,_,rfl,by omega,rfl,o,by simpa using aV.nil⟩,?_⟩
  ·rintro p s6 ⟨v,hv,g⟩;obtain rfl:p=v:=by simpa using hv
   exact ⟨_,rfl,g⟩
  ·rintro m v10 w dH ⟨i,v',c,hi,rfl,e,d⟩;simp only [List.cons.injEq,AV.int.injEq,true_and,and_true] at c;obtain ⟨rfl,rfl⟩:=c;refine af.dec (fun x=>?_) (fun y=>?_)
   ·have e1:IntKind.wrap .i64 (8*(IntKind.wrap .i64 ((IntKind.wrap .i64 ((k:Int) - 1)) - (i:Int))))=((8*(k - 1 - i):Nat):Int):=by
     rw [aX (n:=(k:Int) - 1) (by omega),aX (n:=(k:Int) - 1 - i) (by omega),aX (by omega)];omega
    rw [e1];refine ⟨by omega,?_⟩;rw [Int.toNat_natCast];refine xy e d (by simp) (vg n (8*(k - 1 - i))) (by simp;omega) fun v' s' z w' _=>?_;refine ⟨k - (i+1),by omega,i+1,v',by rw [aX (by omega)];rfl,by omega,rfl,w',?_⟩;rw [List.range_succ,List.map_append];exact z
   ·obtain rfl:i=k:=by omega
    exact ⟨v10,rfl,d⟩
 ·rw [aX (by omega)];omega
 ·rw [show IntKind.wrap .i64 (8*(k:Int))=((8*k:Nat):Int) by rw [aX (by omega)];omega,Int.toNat_natCast,l (by omega)];rfl
/-! ### dots,texts -/
def uc (t:List UInt8):List Int:=xY (t.length:Nat) 2++MQ t
theorem Q6 (t:List UInt8):(uc t).length=2+t.length:=by simp [uc,j_,xx]
theorem MS {n:Nat} (h:n<2 ^ 16):Int.fdiv (n:Int) (2 ^ min (8*2) (IntKind.bits .u64))=0:=by
 rw [show min (8*2) (IntKind.bits .u64)=16 from rfl];rw [Int.fdiv_eq_ediv_of_nonneg _ (by decide)];omega
theorem UM {s:AS} {v:AV} {l:List Int} (h:fE s v l) (i:l.length<=65535):aa Tryz.prog wN [v] s fun r s'=>∃ v,r=.aN [v,.int .i64 0]/\zK s s' v (xY (l.length:Nat) 2++l):=by
 refine aa.pre fun j=>My _ _ _ ⟨_,h.cJ aO _,af.dec (fun c=>absurd c (by omega)) (fun _=>⟨_,h.cJ aO _,?_⟩)⟩;dsimp only;rw [gJ (by omega)];refine aa.use (S_ _ 2 (by omega) (fun _=>MS (by omega)) s) ?_;rintro r s4 ⟨k,rfl,b⟩ d;refine ⟨_,_,rfl,?_⟩;exact xz d b (by simp) (h.ext b.eC.ext) (by rw [j_];omega) fun v' s' e w' _=>⟨v',rfl,e⟩
end Go.Proofs.YtohgmogbabkkeaaGreat
end

section
namespace Go.Proofs.YtohgmogbabkkeaaGreat
open Go.Am Go.av Go.aB
theorem UN (N:Nat) (i:N<=2 ^ 28) (s:AS):aa Tryz.prog fS [.slc none 0 0 true,.int .i64 (N:Nat)] s fun v s'=>∃ lo,yL s' v N [] lo/\Ext s s'/\∀ l∈lo.toList,s.h l=none:=by
 refine aa.pre fun b=>rC _ _ _ _ (af.dec (fun h=>absurd h (by omega)) (fun _=>?_));refine ⟨0,by simp [vZ,aO],0,by simp [aQ,aO],?_⟩;have e1:IntKind.wrap .i64 ((N:Int) - (IntKind.wrap .i64 (0 - 0)))=(N:Nat):=by rw [show IntKind.wrap .i64 (0 - 0)=0 from rfl,aX (by omega)];omega
 dsimp only;rw [e1];refine af.dec (fun j=>?_) (fun k=>?_)
 ·have c:0<N:=by omega
  have d:aL T aq qZ (.slc none 0 0 true) (.int .i64 (N:Nat)) s=some (.slc (some (s.nl,0)) N N false,s.new (.cells (rep N [.int .u8 0]) 1 false)):=by
   simp only [aL,aO,Pz,if_true,s_,eG,JN,FT,Option.bind_some,bO,List.length_cons,List.length_nil,Int.toNat_natCast,Nat.zero_add];rw [show (if (AV.int IntKind.u8 0).cells.all AV.one=true then some (AV.int IntKind.u8 0).cells else none)=some [AV.int .u8 0] from rfl,Option.bind_some,if_neg (by simp only [List.length_cons,List.length_nil];omega)];simp [nM]
  have Fr:=b.new (o:=.cells (rep N [.int .u8 0]) 1 false) rfl;refine ⟨0,by simp [vZ,aO],.slc none 0 0 true,by simp [bg,aO,eG,cV,sZ,qc,gP],_,_,d,0,by simp [aQ,aO],.slc (some (s.nl,0)) 0 N false,?_,some s.nl,⟨rfl,by simp,rep N [.int .u8 0],by simpa using Fr.at,by simp [rep]⟩,Fr.ext,?_⟩
  ·have:¬ N=0:=by omega
   simp [bg,aO,eG,cV,sZ,qc,gP,this]
  ·intro l e;obtain rfl:l=s.nl:=by simpa using e
   exact b.none
 ·obtain rfl:N=0:=by omega
  exact ⟨none,⟨rfl,rfl,rfl⟩,Ext.refl _,by simp⟩
abbrev WL:AV×List Int->List AV:=fun p=>[p.1]
theorem KM (p:AV×List Int):(WL p).length=1:=rfl
def qz (L:List (AV×List Int)):Nat:=(L.map fun p=>p.2.length).sum
theorem IF {L:List (AV×List Int)} {i:Nat} {p:AV×List Int} (h:L[i]? = some p):qz (L.take (i+1))=qz (L.take i)+p.2.length:=by
 unfold qz;rw [List.take_add_one,h,Option.toList_some,List.map_append,List.sum_append];simp
theorem PO (L:List (AV×List Int)) (i:Nat):qz (L.take i)<=qz L:=by
 have:qz L=qz (L.take i)+qz (L.drop i):=by
  unfold qz;rw [<- List.sum_append,<- List.map_append,List.take_append_drop]
 omega
theorem xZ (L:List (AV×List Int)):(L.flatMap Prod.snd).length=qz L:=by simp [qz,List.length_flatMap]
theorem Q7 {s:AS} {a:AV} {L:List (AV×List Int)} (r:Sl WL 1 s a L) (G:∀ p∈L,fE s p.1 p.2) (S:L.length<=2 ^ 20) (hb:qz L<=2 ^ 28):aa Tryz.prog fA [a] s fun v s'=>zK s s' v (L.flatMap Prod.snd):=by
 refine aa.pre fun U=>p0 _ _ _ ⟨fun vs s'=>s'=s/\vs=[.int .i64 (qz L:Nat)],?_,_,r.cJ oz _,fun m vs s'=>∃ i:Nat,vs=[.int .i64 (qz (L.take i):Nat),.int .i64 (i:Nat)]/\i<=L.length/\m=L.length - i/\s'=s,L.length,⟨0,by simp [qz],by omega,rfl,rfl⟩,?_⟩;rotate_left
 ·rintro m H I J ⟨i,c,hi,rfl,rfl⟩;simp only [List.cons.injEq,AV.int.injEq,true_and,and_true] at c;obtain ⟨rfl,rfl⟩:=c;refine af.dec (fun w=>?_) (fun x=>?_)
  ·obtain ⟨p,e⟩:=cT (l:=L) (i:=i) (by omega);obtain ⟨la,o,y,z⟩:=r.ix (by decide) KM oz qJ e;have hs:=IF e;have hle:=PO L (i+1);refine ⟨la,o,y _,p.1,(z _ (Ext.refl _)).1 0 (by decide),_,(G p (List.mem_of_getElem? e)).cJ aO _,?_⟩;dsimp only;rw [aX (n:=(qz (L.take i):Int)+p.2.length) (by omega)];refine af.dec (fun h=>absurd h (by omega)) (fun _=>⟨L.length - (i+1),by omega,i+1,?_,by omega,rfl,rfl⟩);rw [aX (by omega),hs];rfl
  ·rw [List.take_of_length_le (by omega)];exact ⟨rfl,rfl⟩
 rintro n2 s3 ⟨rfl,A⟩;obtain rfl:n2=(qz L:Nat):=by simpa using A
 refine aa.use (UN (qz L) hb s3) ?_;rintro K W ⟨lo,M,O,k⟩ Q;refine ⟨_,r.cJ oz _,fun m vs s'=>∃ (i:Nat) (v:AV),vs=[v,.int .i64 (i:Nat)]/\i<=L.length/\m=L.length - i/\aG s'/\Ext s3 s'/\yL s' v (qz L) ((L.take i).flatMap Prod.snd) lo,L.length,⟨0,K,rfl,by omega,rfl,Q,O,by simpa using M⟩,?_⟩;rintro m v10 R dH ⟨i,v',c,hi,rfl,B,d,b⟩;simp only [List.cons.injEq,AV.int.injEq,true_and,and_true] at c;obtain ⟨rfl,rfl⟩:=c;refine af.dec (fun w=>?_) (fun x=>?_)
 ·obtain ⟨p,e⟩:=cT (l:=L) (i:=i) (by omega);obtain ⟨la,o,y,z⟩:=r.ix (by decide) KM oz qJ e;have hs:=IF e;have hle:=PO L (i+1);have step:=List.take_add_one (l:=L) (i:=i);rw [e,Option.toList_some] at step;refine ⟨la,o,y _,p.1,(z _ d).1 0 (by decide),?_⟩;refine yL.app' b B ((G p (List.mem_of_getElem? e)).ext d) (by rw [xZ];omega) (by omega) fun v' s' C w' m'=>?_;refine ⟨L.length - (i+1),by omega,i+1,v',by rw [aX (by omega)];rfl,by omega,rfl,w',Ext.Xv d k m',?_⟩;rw [step,List.flatMap_append];simpa using C
 ·rw [List.take_of_length_le (by omega)] at b;cases lo with
  | none =>
   obtain ⟨rfl,X,D⟩:=b;rw [D];exact ⟨bq.nil,d.mut,by simp [ax]⟩
  | some lo =>
   obtain ⟨rfl,_,rest,j,hr⟩:=b;rw [xZ,Nat.sub_self,Nat.zero_mul] at hr;obtain rfl:=List.length_eq_zero_iff.1 hr;rw [List.append_nil] at j;refine ⟨.inr ⟨lo,by rw [xZ],j⟩,d.mut,fun la F=>?_⟩;obtain rfl:la=lo:=by simpa [ax] using F
   exact k la (by simp)
/-! ### a variable that holds a row of bytes of one's own -/
section
variable {s0 s s':AS} {c:Nat} {l:List Int}
end
theorem Q8 (v:List Int) (hv:v.length=16) (s:AS):aa Tryz.prog sA [.agg (v.map (.int .u64))] s fun r s'=>zK s s' r (v.flatMap fun n=>xY n 8):=by
 refine aa.pre fun p=>HL _ _ _ ⟨?_,aj.intro p rfl fun l1 s2 e=>⟨v.map (.int .u64),?_,fun m vs s'=>∃ (i:Nat) (r:AV),vs=[r,.int .i64 (i:Nat)]/\i<=16/\m=16 - i/\aG s'/\zK s2 s' r ((v.take i).flatMap fun n=>xY n 8),16,⟨0,_,rfl,by omega,rfl,e.wf,by simpa using aV.nil⟩,?_⟩⟩
 ·simp [List.all_eq_true,AV.one]
 ·rw [e.own.at.aC (by simp [hv])];simp [hv,List.take_of_length_le]
 ·rintro m B C w ⟨i,r,b,hi,rfl,D,c⟩;simp only [List.cons.injEq,AV.int.injEq,true_and,and_true] at b;obtain ⟨rfl,rfl⟩:=b;refine af.dec (fun x=>?_) (fun y=>?_)
  ·obtain ⟨n,o⟩:=cT (l:=v) (i:=i) (by omega);have step:=List.take_add_one (l:=v) (i:=i);rw [o,Option.toList_some] at step;refine ⟨n,?_,?_⟩
   ·rw [Ux hv (by omega),List.getD_eq_getElem?_getD,o];rfl
   refine aa.use (S_ n 8 (by omega) (by omega) w) ?_;rintro q dH ⟨z,rfl,d⟩ j;have hlen:((v.take i).flatMap fun n=>xY n 8).length<=16*8:=by
    rw [List.length_flatMap];have:(List.map (fun a=>(xY a 8).length) (v.take i))=List.map (fun _=>8) (v.take i):=by simp [j_]
    rw [this,List.map_const',List.sum_replicate_nat,List.length_take];have:min i v.length<=16:=by omega
    omega
   refine ⟨_,_,rfl,xz j (c.step d.eC.ext) (by simp) (d.sl bM) (by rw [j_];omega) fun v' s' A w' _=>?_⟩;refine ⟨16 - (i+1),by omega,i+1,v',by rw [aX (by omega)];rfl,by omega,rfl,w',?_⟩;rw [step,List.flatMap_append];simpa using A
  ·rw [List.take_of_length_le (by omega)] at c;exact ⟨c.tI,e.ext.mut.trans c.eC,fun la k=>e.ext.none (c.new la k)⟩
end Go.Proofs.YtohgmogbabkkeaaGreat
end
