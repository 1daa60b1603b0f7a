/-
  A part of QX proof: an abstract machine CF QX model, and qO of qP of this program CF it.
-/
import Derived.KernelRfl
import Derived.Test.YtohgmogbabkkeaaGreatP6
set_option linter.unusedVariables false
set_option linter.unusedSimpArgs false
set_option linter.unusedSectionVars false
namespace Go.Proofs.YtohgmogbabkkeaaGreat
section
set_option maxRecDepth 100000
set_option maxHeartbeats 4000000
open Go.Am
def PO (a0:AV) (s:AS) (R:AV->AS->Prop):Prop :=
 aa Tryz.prog aZ [a0] s fun c s2=>aj (.map [] 0 false) s2 fun l3 s4=>oq (aY T sF [(0,c),(1,(.map (some l3)))]) fun b=>cj b (aj (.cells b 0 false) s4 fun d s7=>R (.ptr (some (d,0))) s7)
def PR:QA:=(.seq .leaf (.seq .leaf .leaf))
theorem PS (a0:AV) (s:AS) (R:AV->AS->Prop) (h:PO a0 s R):aa Tryz.prog oA [a0] s R :=
 aa.q (n:=8) (rs:=[.tmp 2]) (A:=PR) hT bX Tryz.func15 (by kernel_rfl) rfl rfl rfl (by kernel_rfl) (by kernel_rfl) h
def Co (a0:Option (Nat×Nat)) (s:AS) (R:AV->AS->Prop):Prop :=
 sr (iZ T 100 zk (.ptr a0) (.ptr none)) fun b=>af (!b) (ah a0 fun c d=>wN (ak s c (d+1)) fun e=>sr (iZ T 100 aK (.map e) (.map none)) fun i=>R (.bool (!i)) s) (R (.bool false) s)
def Cp:QA:=(.seq .leaf (.seq .leaf .leaf))
theorem Cq (a0:Option (Nat×Nat)) (s:AS) (R:AV->AS->Prop) (h:Co a0 s R):aa Tryz.prog ey [.ptr a0] s R :=
 aa.q (n:=12) (rs:=[.tmp 2]) (A:=Cp) hT bX Tryz.func75 (by kernel_rfl) rfl rfl rfl (by kernel_rfl) (by kernel_rfl) h
def Cr (a0:Option (Nat×Nat)) (a1:List UInt8) (a2:Bool) (s:AS) (R:AV->AS->Prop):Prop :=
 aa Tryz.prog ey [.ptr a0] s fun l s2=>∃ j:Bool,l=.bool j/\(af (!j)
 (R (.int .i64 1) s2)
 (bt fun c =>
 (∀ k:Bool,∀ s6:AS,c [.bool k] s6 ->
 af k
 (R (.int .i64 2) s6)
 (ah a0 fun m n=>wN (ak s6 m (n+1)) fun o=>nM (dA T aK (.map o) (.str a1) false s6) fun d=>sr (iZ T 100 gz (.ptr d) (.ptr none)) fun e=>af e
 (R (.int .i64 7) s6)
 (R (.int .i64 0) s6))) /\
 (aa Tryz.prog gy [.str a1] s2 fun i bQ=>∃ b:Bool,i=.bool b/\(af (!b) (c [.bool true] bQ) (c [(.bool (!a2))] bQ)))))
def Cu:QA:=(.seq .leaf (.seq (.wrap (.seq .leaf (.cond (.seq .leaf .leaf) (.join [(11,.bool)] [(11,18)] .leaf (.cond (.seq .leaf .leaf) (.seq .leaf (.cond (.seq .leaf .leaf) .leaf))))))) (.seq .leaf .leaf)))
theorem Cv (a0:Option (Nat×Nat)) (a1:List UInt8) (a2:Bool) (s:AS) (R:AV->AS->Prop) (h:Cr a0 a1 a2 s R):aa Tryz.prog ez [.ptr a0,.str a1,.bool a2] s R :=
 aa.q (n:=27) (rs:=[.tmp 6]) (A:=Cu) hT bX Tryz.func78 (by kernel_rfl) rfl rfl rfl (by kernel_rfl) (by kernel_rfl) h
def As (a0:Option (Nat×Nat)) (a1:List UInt8) (a2:AV) (s:AS) (R:AV->AS->Prop):Prop :=
 aa Tryz.prog ey [.ptr a0] s fun J s2=>∃ H:Bool,J=.bool H/\(af (!H)
 (R (.int .i64 1) s2)
 (aa Tryz.prog gy [.str a1] s2 fun K i=>∃ I:Bool,K=.bool I/\(af (!I)
 (R (.int .i64 2) i)
 (ah a0 fun L M=>wN (ak i L (M+1)) fun O=>nM (dA T aK (.map O) (.str a1) false i) fun m=>sr (iZ T 100 gz (.ptr m) (.ptr none)) fun n=>af (!n)
 (R (.int .i64 7) i)
 (ah a0 fun qY o=>dn (ak i qY o) fun p=>aa Tryz.prog pD [p,.str a1,a2] i fun r w=>∃ c:List AV,∃ d:Int,r=.aQ [.agg c,.int .i64 d]/\(aj (.cells [.int .u64 0,.int .u64 0,.int .u64 0,.int .u64 0,.int .u64 0,.int .u64 0,.int .u64 0,.int .u64 0,.int .u64 0,.int .u64 0,.int .u64 0,.int .u64 0,.int .u64 0,.int .u64 0,.int .u64 0,.int .u64 0] 0 false) w fun AJ gw=>fy (some 16) c (bC (cS gw AJ 0 c) fun gl=>af ((d:Int) != 0)
 (R (.int .i64 d) gl)
 (ah a0 fun x y=>wN (ak gl x (y+1)) fun z=>aV .i64 (aL T aK (.map z) gl) fun A=>af (decide ((A:Int)>=64))
 (R (.int .i64 5) gl)
 (gn fun S V=>ah a0 fun B C=>wN (ak gl B (C+1)) fun D=>aS (aD gl AJ 0 16) fun F=>oq (aY T oX [(0,.agg F)]) fun b=>(∀ mG:AS,Ext gl mG->aJ mG->(True)->cj b (aj (.cells b 0 false) mG fun j k=>(Ext mG k/\S 7 [.agg b] (.ptr (some (j,0))) k/\V 7 [.agg b] (.ptr (some (j,0))))))/\(∃ v,V 7 [.agg b] v)/\∀ l:AV,V 7 [.agg b] l->∃ e:Option (Nat×Nat),l=.ptr e/\(∀ oY:AS,Ext gl oY->aJ oY->(S 7 [.agg b] (.ptr e) oY/\True)->bC (dG T aK (.map D) (.str a1) (.ptr e) oY) fun G=>R (.int .i64 0) G))))))))))
def Au:QA:=(.seq .leaf (.seq (.wrap (.seq .leaf (.cond (.seq .leaf .leaf) (.seq .leaf (.cond (.seq .leaf .leaf) (.seq .leaf (.cond (.seq .leaf .leaf) .leaf))))))) (.seq .leaf (.seq (.wrap (.seq .leaf (.cond (.seq .leaf .leaf) (.seq .leaf (.cond (.seq .leaf .leaf) .leaf))))) (.seq (.iB 8 [[],[],[],[],[],[],[],[]] [7]) (.seq .leaf .leaf))))))
theorem Av (a0:Option (Nat×Nat)) (a1:List UInt8) (a2:AV) (s:AS) (R:AV->AS->Prop) (h:As a0 a1 a2 s R):aa Tryz.prog dU [.ptr a0,.str a1,a2] s R :=
 aa.q (n:=54) (rs:=[.tmp 6]) (A:=Au) hT bX Tryz.func18 (by kernel_rfl) rfl rfl rfl (by kernel_rfl) (by kernel_rfl) h
def N0 (a0:List UInt8) (a1:Option (Nat×Nat)) (a2:List AV) (a3:Option (Nat×Nat)) (s:AS) (R:AV->AS->Prop):Prop :=
 cj a2 (aj (.cells a2 0 false) s fun l1 s2=>aj (.cells [.ptr a3] 0 false) s2 fun l3 s4=>aS (aD s4 l1 0 21) fun w=>aa Tryz.prog zL [.agg w,.str a0] s4 fun r s7=>ah a1 fun x y=>aS (aD s7 x y 16) fun e=>aS (aD s7 l1 0 2) fun i=>aa Tryz.prog tj [.agg e,.agg i] s7 fun j bQ=>∃ b:Bool,j=.bool b/\(af b (R (.bool false) bQ) (aV .i64 (aL T aC r bQ) fun k=>af ((k:Int)==0)
 (R (.bool false) bQ)
 (nM (ak bQ l3 0) fun l=>CM (ak bQ l1 2) fun m=>oq (aY T lz [(0,.str m),(1,.str a0)]) fun n=>aa Tryz.prog p0 [.ptr l,.agg n] bQ fun o gw=>∃ c:Bool,o=.bool c/\(af c (R (.bool true) gw) (aa Tryz.prog eC [r,(.func tn [(.ptr (some (l3,0)))])] gw fun p uR=>∃ d:Bool,p=.bool d/\(R (.bool d) uR)))))))
def N1:QA:=(.seq .leaf (.seq .leaf (.seq (.seq (.draw 6) (.cond (.seq .leaf .leaf) .leaf)) (.seq .leaf .leaf))))
theorem N2 (a0:List UInt8) (a1:Option (Nat×Nat)) (a2:List AV) (a3:Option (Nat×Nat)) (s:AS) (R:AV->AS->Prop) (h:N0 a0 a1 a2 a3 s R):aa Tryz.prog xC [.str a0,.ptr a1,.agg a2,.ptr a3] s R :=
 aa.q (n:=36) (rs:=[.tmp 8]) (A:=N1) hT bX Tryz.func160 (by kernel_rfl) rfl rfl rfl (by kernel_rfl) (by kernel_rfl) h
def IT (a0:List AV) (c0:Option (Nat×Nat)) (s:AS) (R:AV->AS->Prop):Prop :=
 cj a0 (aj (.cells a0 0 false) s fun l1 s2=>ah c0 fun l3 c=>nM (ak s2 l3 c) fun d=>aS (aD s2 l1 0 2) fun e=>aa Tryz.prog oG [.ptr d,.agg e] s2 fun i s8=>∃ b:Bool,i=.bool b/\(R (.bool (!b)) s8))
def IU:QA:=(.seq .leaf (.seq .leaf .leaf))
theorem IV (a0:List AV) (c0:Option (Nat×Nat)) (s:AS) (R:AV->AS->Prop) (h:IT a0 c0 s R):aa Tryz.prog tn [.agg a0,.ptr c0] s R :=
 aa.q (n:=8) (rs:=[.tmp 3]) (A:=IU) hT bX Tryz.func214 (by kernel_rfl) rfl rfl rfl (by kernel_rfl) (by kernel_rfl) h
def Aw (a0:Option (Nat×Nat)) (a1:List UInt8) (a2:Option (Nat×Nat)) (a3:Option (Nat×Nat)) (a4:AV) (s:AS) (R:AV->AS->Prop):Prop :=
 ah a0 fun l1 o2=>aV .i64 (ak s l1 (o2+16)) fun F=>bu fun p G=>p G [.int .i64 F] s /\
 ∀ D:Nat,∀ j:Int,∀ s8:AS,p D [.int .i64 j] s8 ->
 aa Tryz.prog mU [.ptr a2] s8 fun H k=>∃ l:Int,H=.int .i64 l/\(af (decide ((j:Int)<l))
 (aa Tryz.prog oE [.ptr a2,.int .i64 j] k fun r bQ=>∃ c:List AV,∃ d:List AV,∃ w:Bool,r=.aQ [.agg c,.agg d,.bool w]/\(aj (.cells [.int .i64 0,.int .u64 0,.str [],.slc none 0 0 true,.int .u64 0,.int .u64 0,.int .u64 0,.int .u64 0,.int .u64 0,.int .u64 0,.int .u64 0,.int .u64 0,.int .u64 0,.int .u64 0,.int .u64 0,.int .u64 0,.int .u64 0,.int .u64 0,.int .u64 0,.int .u64 0,.slc none 0 0 true] 0 false) bQ fun e eH=>aj (.cells [.int .u64 0,.int .u64 0,.int .u64 0,.int .u64 0,.int .u64 0,.int .u64 0,.int .u64 0,.int .u64 0,.int .u64 0,.int .u64 0,.int .u64 0,.int .u64 0,.int .u64 0,.int .u64 0,.int .u64 0,.int .u64 0] 0 false) eH fun AJ gw=>fy (some 21) c (bC (cS gw e 0 c) fun gl=>fy (some 16) d (bC (cS gl AJ 0 d) fun fV=>bt fun i =>
 (∀ m:Bool,∀ en:AS,i [.bool m] en ->
 af m
 (R (.int .i64 (IntKind.wrap .i64 (j+1))) en)
 (∃ m',m'<D/\p m' [(.int .i64 (IntKind.wrap .i64 (j+1)))] en)) /\
 (aS (aD fV e 0 21) fun x=>aa Tryz.prog xC [.str a1,.ptr a0,.agg x,.ptr a3] fV fun y b=>∃ n:Bool,y=.bool n/\(af n (aS (aD b e 0 21) fun z=>aS (aD b AJ 0 16) fun A=>eK Tryz.prog a4 [.agg z,.agg A] b fun B C=>∃ o:Bool,B=.bool o/\(i [(.bool (!o))] C)) (i [.bool false] b)))))))
 (R (.int .i64 j) k))
def Ax:QA:=(.seq .leaf (.seq .leaf (.seq (.wrap (.loop [(11,.int .i64)] [(10,14),(19,45)] (.seq (.seq .leaf (.cond .leaf .leaf)) (.seq (.wrap (.seq .leaf (.join [(43,.bool)] [(32,43)] .leaf (.cond (.seq .leaf .leaf) .leaf)))) .leaf)))) (.seq .leaf .leaf))))
theorem Ay (a0:Option (Nat×Nat)) (a1:List UInt8) (a2:Option (Nat×Nat)) (a3:Option (Nat×Nat)) (a4:AV) (s:AS) (R:AV->AS->Prop) (h:Aw a0 a1 a2 a3 a4 s R):aa Tryz.prog bY [.ptr a0,.str a1,.ptr a2,.ptr a3,a4] s R :=
 aa.q (n:=47) (rs:=[.tmp 10]) (A:=Ax) hT bX Tryz.func79 (by kernel_rfl) rfl rfl rfl (by kernel_rfl) (by kernel_rfl) h
def DO (a0:Option (Nat×Nat)) (a1:List UInt8) (a2:Int) (a3:Option (Nat×Nat)) (a4:Option (Nat×Nat)) (s:AS) (R:AV->AS->Prop):Prop :=
 aj (.cells [.int .i64 a2] 0 false) s fun l1 s2=>bt fun A =>
 (∀ b4:Bool,∀ k:AS,A [.bool b4] k ->
 af b4
 (R (.aQ [.slc none 0 0 true,.int .i64 1]) k)
 (bt fun B =>
 (∀ D:Int,∀ s8:AS,B [.int .i64 D] s8 ->
 af ((D:Int) != 0)
 (R (.aQ [.slc none 0 0 true,.int .i64 D]) s8)
 (ah a0 fun l9 F=>wN (ak s8 l9 (F+1)) fun G=>nM (dA T aK (.map G) (.str a1) false s8) fun H=>aj (.cells [.ptr none] 0 false) s8 fun b I=>bC (cS I b 0 [.ptr H]) fun fH=>aj (.cells [.slc none 0 0 true] 0 false) fH fun qZ kU=>uc kU fun X C c S V=>nM (ak kU b 0) fun l=>(∀ eH:AS,X kU eH->aJ eH->nM (ak eH b 0) fun J=>(((.ptr J):AV)=(.ptr l)))/\(nM (ak kU b 0) fun d=>(∀ gl:AS,X kU gl->aJ gl->nM (ak gl b 0) fun K=>(((.ptr K):AV)=(.ptr d)))/\((∀ m:AS,X kU m->aJ m->(((.func bO [(.ptr (some (qZ,0))),(.ptr (some (b,0))),(.ptr (some (l1,0)))]):AV)=(.func bO [(.ptr (some (qZ,0))),(.ptr (some (b,0))),(.ptr (some (l1,0)))])))/\((∀ en:AS,X kU en->aJ en->(True)->c en->aa Tryz.prog bY [.ptr d,.str a1,.ptr a3,.ptr a4,(.func bO [(.ptr (some (qZ,0))),(.ptr (some (b,0))),(.ptr (some (l1,0)))])] en fun L j=>∃ e:Int,L=.int .i64 e/\(((X en j/\C 6 [(.func bY []),.ptr d,.str a1,.ptr a3,.ptr a4,(.func bO [(.ptr (some (qZ,0))),(.ptr (some (b,0))),(.ptr (some (l1,0)))])] (.int .i64 e) j)/\S 6 [(.func bY []),.ptr d,.str a1,.ptr a3,.ptr a4,(.func bO [(.ptr (some (qZ,0))),(.ptr (some (b,0))),(.ptr (some (l1,0)))])] (.int .i64 e) j/\V 6 [(.func bY []),.ptr d,.str a1,.ptr a3,.ptr a4,(.func bO [(.ptr (some (qZ,0))),(.ptr (some (b,0))),(.ptr (some (l1,0)))])] (.int .i64 e))))/\(∃ v,V 6 [(.func bY []),.ptr d,.str a1,.ptr a3,.ptr a4,(.func bO [(.ptr (some (qZ,0))),(.ptr (some (b,0))),(.ptr (some (l1,0)))])] v)/\∀ n:AV,V 6 [(.func bY []),.ptr d,.str a1,.ptr a3,.ptr a4,(.func bO [(.ptr (some (qZ,0))),(.ptr (some (b,0))),(.ptr (some (l1,0)))])] n->∃ i:Int,n=.int .i64 i/\(∀ mG:AS,X kU mG->aJ mG->(S 6 [(.func bY []),.ptr d,.str a1,.ptr a3,.ptr a4,(.func bO [(.ptr (some (qZ,0))),(.ptr (some (b,0))),(.ptr (some (l1,0)))])] (.int .i64 i) mG/\True)->C 6 [(.func bY []),.ptr d,.str a1,.ptr a3,.ptr a4,(.func bO [(.ptr (some (qZ,0))),(.ptr (some (b,0))),(.ptr (some (l1,0)))])] (.int .i64 i) mG->ah l fun M O=>bC (cS mG M (O+16) [.int .i64 i]) fun lC=>dn (ak lC qZ 0) fun Q=>R (.aQ [Q,.int .i64 0]) lC)))))) /\
 (aV .i64 (ak k l1 0) fun U=>af (decide ((U:Int)>=1)) (aV .i64 (ak k l1 0) fun W=>aa Tryz.prog ez [.ptr a0,.str a1,(.bool (decide ((W:Int)<=16)))] k fun Y Z=>∃ o:Int,Y=.int .i64 o/\(B [.int .i64 o] Z)) (aa Tryz.prog ez [.ptr a0,.str a1,.bool false] k fun ab ad=>∃ p:Int,ab=.int .i64 p/\(B [.int .i64 p] ad))))) /\
 (aa Tryz.prog ey [.ptr a0] s2 fun ae r=>∃ w:Bool,ae=.bool w/\(af w (aa Tryz.prog fY [.ptr a3] r fun al x=>∃ y:Option (Nat×Nat),al=.ptr y/\(sr (iZ T 100 jh (.ptr y) (.ptr none)) fun am=>af am (A [.bool true] x) (aa Tryz.prog jc [.ptr a4] x fun an ao=>∃ z:Option (Nat×Nat),an=.ptr z/\(sr (iZ T 100 mz (.ptr z) (.ptr none)) fun ar=>A [.bool ar] ao)))) (A [.bool false] r)))
def DP:QA:=(.seq .leaf (.seq (.join [(26,.bool)] [(15,26)] .leaf (.cond (.seq .leaf .leaf) .leaf)) (.seq (.join [(12,.int .i64)] [(12,12),(27,35)] .leaf (.seq .leaf (.cond (.seq .leaf .leaf) .leaf))) (.seq .leaf (.seq .leaf (.seq (.we [0,1,2,3,4,5,6] [7,8,9] [[],[],[],[],[],[],[]] [6] [6]) (.seq .leaf .leaf)))))))
theorem DQ (a0:Option (Nat×Nat)) (a1:List UInt8) (a2:Int) (a3:Option (Nat×Nat)) (a4:Option (Nat×Nat)) (s:AS) (R:AV->AS->Prop) (h:DO a0 a1 a2 a3 a4 s R):aa Tryz.prog eT [.ptr a0,.str a1,.int .i64 a2,.ptr a3,.ptr a4] s R :=
 aa.q (n:=55) (rs:=[.tmp 10,.tmp 11]) (A:=DP) hT bX Tryz.func19 (by kernel_rfl) rfl rfl rfl (by kernel_rfl) (by kernel_rfl) h
def Az (a0:List AV) (a1:List AV) (c0:Option (Nat×Nat)) (Q:Option (Nat×Nat)) (c2:Option (Nat×Nat)) (s:AS) (R:AV->AS->Prop):Prop :=
 cj a0 (aj (.cells a0 0 false) s fun l1 s2=>cj a1 (aj (.cells a1 0 false) s2 fun l3 s4=>uc s4 fun X C c S V=>ah Q fun l6 o7=>nM (ak s4 l6 o7) fun p8=>(∀ U:AS,X s4 U->aJ U->ah Q fun l9 W=>nM (ak U l9 W) fun Y=>(((.ptr Y):AV)=(.ptr p8)))/\((∀ dJ:AS,X s4 dJ->aJ dJ->(True)->c dJ->ah c0 fun Z ab=>dn (ak dJ Z ab) fun w=>((X dJ dJ/\C 1 [.ptr c0] w dJ)/\S 1 [.ptr c0] w dJ/\V 1 [.ptr c0] w))/\(∃ v,V 1 [.ptr c0] v)/\∀ nO:AV,V 1 [.ptr c0] nO->aS (aD s4 l1 0 21) fun i=>(∀ kU:AS,X s4 kU->aJ kU->aS (aD kU l1 0 21) fun ad=>(((.agg ad):AV)=(.agg i)))/\((∀ gw:AS,X s4 gw->aJ gw->(True)->aS (de T ay 1 [(0,.agg i)]) fun ae=>aj (.cells ae 0 false) gw fun K uR=>(Ext gw uR/\S 3 [.agg i] (.slc (some (K,0)) 1 1 true) uR/\V 3 [.agg i] (.slc (some (K,0)) 1 1 true)))/\(∃ v,V 3 [.agg i] v)/\∀ b:AV,V 3 [.agg i] b->(∀ en:AS,X s4 en->aJ en->(S 1 [.ptr c0] nO en/\(S 3 [.agg i] b en/\True))->C 1 [.ptr c0] nO en->ig (aG T ay ay nO b en) fun x y=>((X en y/\C 4 [nO,b] x y)/\S 4 [nO,b] x y/\V 4 [nO,b] x))/\(∃ v,V 4 [nO,b] v)/\∀ d:AV,V 4 [nO,b] d->ah Q fun al am=>nM (ak s4 al am) fun z=>(∀ A:AS,X s4 A->aJ A->ah Q fun an ao=>nM (ak A an ao) fun ar=>(((.ptr ar):AV)=(.ptr z)))/\(ah z fun B D=>(∀ oY:AS,X s4 oY->aJ oY->ah z fun aw a2=>(((.ptr (some (aw,a2))):AV)=(.ptr (some (B,D)))))/\(dn (ak s4 B (D+17)) fun j=>(∀ F:AS,X s4 F->aJ F->dn (ak F B (D+17)) fun a3=>((a3:AV)=j))/\(aS (aD s4 l3 0 16) fun m=>(∀ G:AS,X s4 G->aJ G->aS (aD G l3 0 16) fun a4=>(((.agg a4):AV)=(.agg m)))/\((∀ p:AS,X s4 p->aJ p->(True)->aS (de T bz 1 [(0,.agg m)]) fun a5=>aj (.cells a5 0 false) p fun L M=>(Ext p M/\S 10 [.agg m] (.slc (some (L,0)) 1 1 true) M/\V 10 [.agg m] (.slc (some (L,0)) 1 1 true)))/\(∃ v,V 10 [.agg m] v)/\∀ e:AV,V 10 [.agg m] e->(∀ n:AS,X s4 n->aJ n->(S 1 [.ptr c0] nO n/\(S 3 [.agg i] b n/\(S 4 [nO,b] d n/\(S 10 [.agg m] e n/\True))))->C 4 [nO,b] d n->ig (aG T bz bz j e n) fun H I=>((X n I/\C 11 [j,e] H I)/\S 11 [j,e] H I/\V 11 [j,e] H))/\(∃ v,V 11 [j,e] v)/\∀ o:AV,V 11 [j,e] o->(∀ k:AS,X s4 k->aJ k->(S 1 [.ptr c0] nO k/\(S 3 [.agg i] b k/\(S 4 [nO,b] d k/\(S 10 [.agg m] e k/\(S 11 [j,e] o k/\True)))))->C 11 [j,e] o k->ah c0 fun a6 a7=>e_ T ay k a6 a7 d fun J=>((X k J/\C 12 [.ptr c0,d] (.aQ []) J)/\S 12 [.ptr c0,d] (.aQ []) J/\V 12 [.ptr c0,d] (.aQ [])))/\(∃ v,V 12 [.ptr c0,d] v)/\∀ O:AV,V 12 [.ptr c0,d] O->O=.aQ []/\(∀ l:AS,X s4 l->aJ l->(S 1 [.ptr c0] nO l/\(S 3 [.agg i] b l/\(S 4 [nO,b] d l/\(S 10 [.agg m] e l/\(S 11 [j,e] o l/\(S 12 [.ptr c0,d] (.aQ []) l/\True))))))->C 12 [.ptr c0,d] (.aQ []) l->ah p8 fun a8 a9=>e_ T bz l a8 (a9+17) o fun r=>ah c0 fun a' ba=>dn (ak r a' ba) fun bb=>aV .i64 (aL T ay bb r) fun bc=>ah c2 fun bd be=>aV .i64 (ak r bd be) fun bh=>R (.bool (decide ((bc:Int)<bh))) r)))))))))
def AA:QA:=(.seq .leaf (.seq (.we [0,1,2,3,4,5,6,7,8,9,10,11,12] [13,14,15] [[],[],[],[],[1,3],[],[],[],[],[],[],[1,3,4,10],[1,3,4,10,11],[],[],[]] [1,3,4,10,11,12] [1,4,11,12]) (.seq .leaf .leaf)))
theorem AB (a0:List AV) (a1:List AV) (c0:Option (Nat×Nat)) (b:Option (Nat×Nat)) (c2:Option (Nat×Nat)) (s:AS) (R:AV->AS->Prop) (h:Az a0 a1 c0 b c2 s R):aa Tryz.prog bO [.agg a0,.agg a1,.ptr c0,.ptr b,.ptr c2] s R :=
 aa.q (n:=26) (rs:=[.tmp 7]) (A:=AA) hT bX Tryz.func80 (by kernel_rfl) rfl rfl rfl (by kernel_rfl) (by kernel_rfl) h
def Fo (a0:Option (Nat×Nat)) (a1:List UInt8) (a2:Int) (s:AS) (R:AV->AS->Prop):Prop :=
 aa Tryz.prog ez [.ptr a0,.str a1,(.bool (decide ((a2:Int)>=0)))] s fun W s2=>∃ k:Int,W=.int .i64 k/\(af ((k:Int) != 0)
 (R (.aQ [.slc none 0 0 true,.int .i64 k]) s2)
 (ah a0 fun X Y=>wN (ak s2 X (Y+1)) fun Z=>nM (dA T aK (.map Z) (.str a1) false s2) fun b=>ah b fun l8 o9=>dn (ak s2 l8 (o9+17)) fun v10=>aV .i64 (aL T bz v10 s2) fun l=>af (decide ((a2:Int)>l))
 (R (.aQ [.slc none 0 0 true,.int .i64 6]) s2)
 (bt fun c =>
 (∀ bQ:AS,c [] bQ ->
 ah a0 fun lN m=>dn (ak bQ lN m) fun nO=>ah b fun n o=>aS (aD bQ n o 16) fun p=>aa Tryz.prog fZ [nO,.str a1,.agg p] bQ fun v20 gl=>∃ e:AV,∃ i:Int,v20=.aQ [e,.int .i64 i]/\(R (.aQ [e,.int .i64 i]) gl)) /\
 (af (decide ((a2:Int)>0))
 (ah b fun r w=>aS (aD s2 r w 16) fun x=>ah b fun y z=>dn (ak s2 y (z+17)) fun A=>bE (ag T bz A (.int .i64 (IntKind.wrap .i64 (a2 - 1)))) fun B C=>aS (aD s2 B C 16) fun D=>aa Tryz.prog sZ [.agg x,.agg D] s2 fun F lC=>∃ d:List AV,F=.agg d/\(ah b fun G H=>fy (some 16) d (bC (cS lC G H d) fun j=>ah b fun I J=>dn (ak j I (J+17)) fun K=>dn (bf T bz K (some (.int .i64 a2)) none none) fun L=>aa Tryz.prog eL [L] j fun M O=>ah b fun Q S=>e_ T bz O Q (S+17) M fun U=>c [] U)))
 (c [] s2)))))
def Fp:QA:=(.seq .leaf (.seq (.seq .leaf (.seq .leaf (.cond (.seq .leaf .leaf) .leaf))) (.seq .leaf (.seq (.seq .leaf (.cond (.seq .leaf .leaf) .leaf)) (.join [] [(31,58)] (.seq .leaf (.cond (.seq .calm .leaf) .leaf)) (.seq .calm .leaf))))))
theorem Fq (a0:Option (Nat×Nat)) (a1:List UInt8) (a2:Int) (s:AS) (R:AV->AS->Prop) (h:Fo a0 a1 a2 s R):aa Tryz.prog lJ [.ptr a0,.str a1,.int .i64 a2] s R :=
 aa.q (n:=71) (rs:=[.tmp 6,.tmp 7]) (A:=Fp) hT bX Tryz.func20 (by kernel_rfl) rfl rfl rfl (by kernel_rfl) (by kernel_rfl) h
def AD (a0:Option (Nat×Nat)) (a1:List UInt8) (s:AS) (R:AV->AS->Prop):Prop :=
 aa Tryz.prog ez [.ptr a0,.str a1,.bool true] s fun o s2=>∃ d:Int,o=.int .i64 d/\(af ((d:Int) != 0)
 (R (.aQ [.slc none 0 0 true,.int .i64 d]) s2)
 (ah a0 fun p r=>wN (ak s2 p (r+1)) fun w=>nM (dA T aK (.map w) (.str a1) false s2) fun x=>ah a0 fun y z=>wN (ak s2 y (z+1)) fun e=>bC (mM T aK (.map e) (.str a1) s2) fun b=>ah a0 fun qY i=>dn (ak b qY i) fun j=>ah x fun k l=>aS (aD b k l 16) fun m=>aa Tryz.prog fZ [j,.str a1,.agg m] b fun n iF=>∃ v20:AV,∃ c:Int,n=.aQ [v20,.int .i64 c]/\(R (.aQ [v20,.int .i64 c]) iF)))
def AE:QA:=(.seq .leaf (.seq (.seq .leaf (.seq .leaf (.cond (.seq .leaf .leaf) .leaf))) (.seq .leaf (.seq .leaf (.seq .calm .leaf)))))
theorem AF (a0:Option (Nat×Nat)) (a1:List UInt8) (s:AS) (R:AV->AS->Prop) (h:AD a0 a1 s R):aa Tryz.prog iP [.ptr a0,.str a1] s R :=
 aa.q (n:=37) (rs:=[.tmp 4,.tmp 5]) (A:=AE) hT bX Tryz.func21 (by kernel_rfl) rfl rfl rfl (by kernel_rfl) (by kernel_rfl) h
def DR (a0:Option (Nat×Nat)) (a1:List UInt8) (a2:Option (Nat×Nat)) (a3:Option (Nat×Nat)) (s:AS) (R:AV->AS->Prop):Prop :=
 bt fun e =>
 (∀ B:Bool,∀ s3:AS,e [.bool B] s3 ->
 af B
 (R (.aQ [.int .i64 0,.int .i64 1]) s3)
 (aa Tryz.prog ez [.ptr a0,.str a1,.bool true] s3 fun D C=>∃ i:Int,D=.int .i64 i/\(af ((i:Int) != 0)
 (R (.aQ [.int .i64 0,.int .i64 i]) C)
 (aj (.cells [.int .i64 0] 0 false) C fun j s8=>bC (cS s8 j 0 [.int .i64 0]) fun s9=>ah a0 fun nN k=>wN (ak s9 nN (k+1)) fun l=>nM (dA T aK (.map l) (.str a1) false s9) fun m=>aa Tryz.prog bY [.ptr m,.str a1,.ptr a2,.ptr a3,(.func lU [(.ptr (some (j,0)))])] s9 fun n fH=>∃ o:Int,n=.int .i64 o/\(aV .i64 (ak fH j 0) fun p=>R (.aQ [.int .i64 p,.int .i64 0]) fH))))) /\
 (aa Tryz.prog ey [.ptr a0] s fun r iF=>∃ b:Bool,r=.bool b/\(af b (aa Tryz.prog fY [.ptr a2] iF fun w fV=>∃ c:Option (Nat×Nat),w=.ptr c/\(sr (iZ T 100 jh (.ptr c) (.ptr none)) fun x=>af x (e [.bool true] fV) (aa Tryz.prog jc [.ptr a3] fV fun y z=>∃ d:Option (Nat×Nat),y=.ptr d/\(sr (iZ T 100 mz (.ptr d) (.ptr none)) fun A=>e [.bool A] z)))) (e [.bool false] iF)))
def DS:QA:=(.seq .leaf (.seq (.join [(23,.bool)] [(12,23)] .leaf (.cond (.seq .leaf .leaf) .leaf)) (.seq (.seq .leaf (.seq .leaf (.cond (.seq .leaf .leaf) .leaf))) (.seq .leaf (.seq .leaf (.seq .leaf .leaf))))))
theorem DT (a0:Option (Nat×Nat)) (a1:List UInt8) (a2:Option (Nat×Nat)) (a3:Option (Nat×Nat)) (s:AS) (R:AV->AS->Prop) (h:DR a0 a1 a2 a3 s R):aa Tryz.prog iD [.ptr a0,.str a1,.ptr a2,.ptr a3] s R :=
 aa.q (n:=42) (rs:=[.tmp 8,.tmp 9]) (A:=DS) hT bX Tryz.func28 (by kernel_rfl) rfl rfl rfl (by kernel_rfl) (by kernel_rfl) h
def AG (a0:List AV) (a1:List AV) (c0:Option (Nat×Nat)) (s:AS) (R:AV->AS->Prop):Prop :=
 cj a0 (aj (.cells a0 0 false) s fun l1 s2=>cj a1 (aj (.cells a1 0 false) s2 fun l3 s4=>ah c0 fun c d=>aV .i64 (ak s4 c d) fun e=>ah c0 fun i j=>bC (cS s4 i j [(.int .i64 (IntKind.wrap .i64 (e+1)))]) fun b=>R (.bool true) b))
def AH:QA:=(.seq .leaf (.seq .leaf (.seq .leaf .leaf)))
theorem AI (a0:List AV) (a1:List AV) (c0:Option (Nat×Nat)) (s:AS) (R:AV->AS->Prop) (h:AG a0 a1 c0 s R):aa Tryz.prog lU [.agg a0,.agg a1,.ptr c0] s R :=
 aa.q (n:=8) (rs:=[.tmp 5]) (A:=AH) hT bX Tryz.func98 (by kernel_rfl) rfl rfl rfl (by kernel_rfl) (by kernel_rfl) h
end
section
open Go.Am Go.aq Go.aB Go.bq
structure Dv where
 cur:List Int
 place:Nat
 hand:List (List Int)
structure Se where
 l:Nat
 hv:AV
 d:Dv
 H:List HN
 len:d.cur.length=16
def nK (cur:List Int) (place:Int) (hv:AV):List AV:=cur.map (.int .u64)++[.int .i64 place,hv]
def fO (m:Se):List Nat:=m.l::ax m.hv
def HR (F:List Nat) (s:AS) (m:Se):Prop:=Am.Own s m.l (nK m.d.cur m.d.place m.hv)/\bg rZ 16 s m.hv m.H/\m.H.map HN.v=m.d.hand/\∀ y∈fO m,y∈F
theorem nL {cur:List Int} (h:cur.length=16) (pl:Int) (hv:AV):(nK cur pl hv).length=18:=by simp [nK,h]
theorem Cw {cur:List Int} (h:cur.length=16) (pl:Int) (hv:AV):((nK cur pl hv).drop 0).take 16=cur.map (.int .u64):=by
 rw [nK,List.drop_zero,List.take_append_of_le_length (by simp [h]),List.take_of_length_le (by simp [h])]
theorem FR {cur:List Int} (h:cur.length=16) (pl:Int) (hv:AV):(nK cur pl hv)[16]? = some (.int .i64 pl)/\(nK cur pl hv)[17]? = some hv:=by
 constructor <;>
 ·rw [nK,List.getElem?_append_right (by simp [h])];simp [h]
theorem HS {cur:List Int} (h:cur.length=16) (pl b:Int) (hv pY:AV):(nK cur pl hv).set 16 (.int .i64 b)=nK cur b hv/\(nK cur pl hv).set 17 pY=nK cur pl pY:=by
 simp [nK,List.set_append,h]
abbrev sK (t:List UInt8):AV:=.str t
def dP (m:Se):AV:=.ptr (some (m.l,0))
theorem vZ:Ri (K:=List UInt8) T aK cL gz sK (.ptr none) :=
 ⟨lA,fun a b=>by rw [Tg pL];simp only [Option.some.injEq];by_cases h:a=b <;> simp [h],fun a=>by kernel_rfl,fun a=>by simp [wQ],C3⟩
structure mH (F:List Nat) (s:AS) (p:Nat) (sec:List Int) (f:List UInt8->Option Dv) (n:Nat):Prop where
 mem:∃ (sv:AV) (hm:Nat) (es:List (List UInt8×Se×Nat)) (k:Nat),Am.Own s p [sv,.map (some hm)]/\p∈F/\hm∈F/\(bg qv 1 s sv sec/\∀ y∈ax sv,y∈F)/\eR sK dP s hm es k false/\es.length=n /\
  (∀ a m,dF es a=some m->HR F s m/\f a=some m.d)/\(∀ a,dF es a=none->f a=none) /\
  ∀ a b x y,dF es a=some x->dF es b=some y->a≠b->∀ z∈fO x,z ∉ fO y
section
variable {F F':List Nat} {s s':AS} {p n:Nat} {sec:List Int} {f:List UInt8->Option Dv}
theorem HR.mut {m:Se} {L:List Nat} (h:HR F s m) (e:bB L s s') (b:∀ y∈L,y ∉ fO m):HR F s' m :=
 ⟨h.1.mut e fun hm=>b _ hm (by simp [fO]),h.2.1.mut e fun y c hm=>b y hm (by simp [fO,c]),h.2.2⟩
theorem mH.mut {L:List Nat} (h:mH F s p sec f n) (m:bB L s s') (c:∀ y∈L,y ∉ F):mH F s' p sec f n:=by
 obtain ⟨sv,hm,es,k,i,h2,h3,⟨a1,a2⟩,j,c2,d,l,o⟩:=h;exact ⟨sv,hm,es,k,i.mut m (fun b=>c p b h2),h2,h3,⟨a1.mut m (fun y e b=>c y b (a2 y e)),a2⟩,j.mut m (fun b=>c hm b h3),c2,fun a x b=>⟨(d a x b).1.mut m fun y e hd=>c y e ((d a x b).1.2.2.2 y hd),(d a x b).2⟩,l,o⟩
theorem mH.ext (h:mH F s p sec f n) (e:Ext s s'):mH F s' p sec f n:=h.mut (L:=[]) e.mut (by simp)
theorem DU (h:mH F s p sec f n):aa Tryz.prog ey [.ptr (some (p,0))] s fun r s'=>r=.bool true/\s'=s:=by
 obtain ⟨sv,hm,es,k,b,_⟩:=h;exact Cq _ _ _ ⟨_,jq H7 _,af.yes rfl ⟨_,by rw [b.at.ak];rfl,_,JK lA _,rfl,rfl⟩⟩
theorem PT (sv:AV) (h:sv.one=true) (hm:Nat):aY T sF [(0,sv),(1,.map (some hm))]=some (.agg [sv,.map (some hm)]):=by
 have e1:∀ v:AV,v.one=true->bN v=some [v]:=fun v hv=>by cases v <;> first | rfl | cases hv
 rw [qV (pl:=[(0,1),(1,1)]) (by kernel_rfl) KF rfl];simp only [jQ,e1 _ h,e1 (.map (some hm)) rfl,List.getElem?_cons_zero,List.getElem?_cons_succ,List.length_cons,List.length_nil];rfl
theorem QN {s:AS} {v:AV} {sec:List Int} (hv:gZ s v sec) (n:sec.length<=2 ^ 30):aa Tryz.prog oA [v] s fun r s'=>∃ p F,r=.ptr (some (p,0))/\mH F s' p sec (fun _=>none) 0/\(∀ y∈F,s.h y=none)/\(∀ y∈F,s'.h y≠none)/\Ext s s':=by
 refine PS _ _ _ ?_;refine aa.use (DK hv n) ?_;rintro j s2 g w2;have k:=g.jJ.2;have i:∀ l3:Nat,([j,AV.map (some l3)]).all AV.one=true:=fun l3=>by simp [k]
 refine aj.intro w2 rfl fun l3 s4 d=>⟨_,PT j k l3,i l3,aj.intro d.wf rfl fun l s7 e=>⟨l,l::l3::ax j,rfl,⟨j,l3,[],0,e.own,by simp,by simp,⟨(g.uQ.ext d.ext).ext e.ext,fun y c=>by simp [c]⟩,eR.new (e.ext.1 _ _ d.at),rfl,fun a m hm=>by simp [uk] at hm,fun a _=>rfl,fun a b x y o=>by simp [uk] at o⟩,?_,?_,(g.eo.ext.trans d.ext).trans e.ext⟩⟩
 ·intro y c;simp only [List.mem_cons] at c;rcases c with rfl | rfl | c
  ·exact (g.eo.ext.trans d.ext).none e.no
  ·exact g.eo.ext.none d.no
  ·exact g.new y c
 ·intro y c;simp only [List.mem_cons] at c;rcases c with rfl | rfl | c
  ·rw [e.at];simp
  ·rw [e.ext.1 _ _ d.at];simp
  ·exact bg.jG ((g.uQ.ext d.ext).ext e.ext) y c
theorem Uo (h:mH F s p sec f n):∃ (sv:AV) (hm:Nat) (es:List (List UInt8×Se×Nat)) (k:Nat),Am.Own s p [sv,.map (some hm)]/\eR sK dP s hm es k false/\es.length=n/\(∀ a m,dF es a=some m->HR F s m/\f a=some m.d)/\(∀ a,dF es a=none->f a=none)/\∀ a,dA T aK (.map (some hm)) (.str a) false s=some (.ptr ((dF es a).map fun m=>(m.l,0))):=by
 obtain ⟨sv,hm,es,k,c,h2,h3,⟨a1,a2⟩,b,c2,e,i,j⟩:=h;refine ⟨sv,hm,es,k,c,b,c2,e,i,fun a=>?_⟩;have:=b.find vZ a false;refine this.trans ?_;cases dF es a <;> rfl
theorem yy (h:mH F s p sec f n) (name:List UInt8) (ok:Bool):aa Tryz.prog ez [.ptr (some (p,0)),.str name,.bool ok] s fun r s'=>r=.int .i64 (if (!aN name||!ok)=true then 2 else if (f name).isNone=true then 7 else 0)/\s'=s:=by
 refine Cv _ _ _ _ _ ?_;refine aa.use (DU h) ?_;rintro v s2 ⟨rfl,rfl⟩ w2;obtain ⟨sv,hm,es,k,j,_,_,o,w,c⟩:=Uo h;refine ⟨_,rfl,af.no rfl ⟨fun vs s'=>vs=[.bool (!aN name||!ok)]/\s'=s2,?_,?_⟩⟩
 ·rintro b s6 ⟨hb,rfl⟩;simp only [List.cons.injEq,AV.bool.injEq,and_true] at hb;subst hb;refine af.mk (fun hb=>⟨by simp only [hb,if_true],rfl⟩) (fun hb=>⟨_,by rw [j.at.ak];rfl,_,c name,_,jq wk _,?_⟩);have e:(f name).isNone=((dF es name).map fun m=>(m.l,0)).isNone:=by
   cases i:dF es name with
   | none=>rw [w _ i];rfl
   | some m=>rw [(o _ _ i).2];rfl
  rw [<- e];refine af.mk (fun d=>⟨?_,rfl⟩) (fun d=>⟨?_,rfl⟩)
  ·rw [hb,d];rfl
  ·rw [hb,d];rfl
 ·refine aa.use (vX _ _) ?_;rintro x bQ ⟨rfl,rfl⟩ y;refine ⟨_,rfl,af.mk (fun hb=>⟨by simp [hb],rfl⟩) (fun hb=>⟨by simp [hb],rfl⟩)⟩
end
/-! ### what is owed -/
noncomputable def Up (x:aF) (k:Key):Bool:=@decide (∃ d,x.live d=some k) (Classical.propDecidable _)
theorem N3 {x:aF} {k:Key}:Up x k=true↔∃ d,x.live d=some k:=by
 unfold Up;exact @decide_eq_true_iff _ (Classical.propDecidable _)
def Uq (x:aF) (d:aO):Bool:=!(x.live d).isSome&&x.has d
noncomputable def gS (name:List UInt8) (cur:List Int) (x:aF) (e:Ev):Bool :=
 !under cur e.id&&!(jF e.to name).isEmpty&&(Up x ⟨e.dQ,name⟩||(jF e.to name).any fun d=>!Uq x d)
theorem Ur {F:List Nat} {s:AS} {p c:Nat} {x:aF} (e:At s c [.ptr (some (p,0))]) (h:ic F s p x) (d:aO):aa Tryz.prog tn [.agg (aP d),.ptr (some (c,0))] s fun r s'=>r=.bool (!Uq x d)/\Ext s s':=by
 refine aa.pre fun i=>IV _ _ _ _ ⟨rfl,aj.intro i rfl fun l1 s2 b=>⟨_,by rw [(e.ext b.ext).ak];rfl,_,b.own.at.aD (by simp [aP]),?_⟩⟩;refine aa.use (Vp (h.ext b.ext) d) ?_;rintro v s8 ⟨rfl,j⟩ k;exact ⟨_,rfl,rfl,b.ext.trans j⟩
set_option maxRecDepth 20000 in
theorem VV {F:List Nat} {s:AS} {p l:Nat} {x:aF} {m:gj} {cur:List Int} {cs:List AV} (hm:rV s m) (J:m.ev.to.length<=2 ^ 29) (h:ic F s p x) (D:x.nl<65536) (k:cur.length=16) (hd:At s l cs) (G:(cs.drop 0).take 16=cur.map (.int .u64)) (O:16<=cs.length) (name:List UInt8) :
  aa Tryz.prog xC [.str name,.ptr (some (l,0)),.agg (ep m),.ptr (some (p,0))] s fun r s'=>r=.bool (gS name cur x m.ev)/\Ext s s':=by
 have ev:=aE m;refine aa.pre fun Q=>N2 _ _ _ _ _ _ ⟨bL m,aj.intro Q rfl fun l1 s2 B=>aj.intro B.wf rfl fun l3 s4 n=>?_⟩;have K:=B.ext.trans n.ext;refine ⟨_,(B.own.ext n.ext).at.aD (by omega),?_⟩;rw [dI];refine aa.use (Yk (hm.ext K) J name) ?_;rintro v6 s7 o w7;have L:=K.trans o.eo.ext;have M:=((B.own.ext n.ext).ext o.eo.ext).at;have R:(jF m.ev.to name).length<=2 ^ 29:=by
  simp only [jF,List.length_map];exact Nat.le_trans (List.length_filter_le _ _) J
 refine ⟨_,(hd.ext L).aD (by omega),_,M.aD (by rw [ev];omega),?_⟩;rw [G,Ar];refine aa.use (Ug k _ _) ?_;rintro S bQ ⟨rfl,i⟩ U;have c:=L.trans i;have y:=(o.sl br).ext i;refine ⟨_,rfl,af.mk (fun hu=>⟨by simp [gS,hu],c⟩) (fun hu=>⟨_,y.b_ bJ _,af.mk (fun C=>⟨?_,c⟩) (fun C=>⟨_,by rw [((n.own.ext o.eo.ext).ext i).at.ak];rfl,m.ev.dQ,by rw [(M.ext i).ak];rfl,_,uF _ _,?_⟩)⟩)⟩
 ·have W:(((jF m.ev.to name).length:Nat):Int)=0:=beq_iff_eq.1 C;have:jF m.ev.to name=[]:=List.length_eq_zero_iff.1 (by omega);simp [gS,this]
 have z:(jF m.ev.to name).isEmpty=false:=by
  cases X:jF m.ev.to name with
  | nil=>rw [X] at C;simp at C
  | cons a b=>rfl
 refine aa.use (Xo (h.ext c) D _) ?_;rintro Y gw ⟨⟨b,rfl,hb⟩,j⟩ Z;have A:b=Up x ⟨m.ev.dQ,name⟩:=by
  rw [Bool.eq_iff_iff,hb,N3]
 refine ⟨_,rfl,af.mk (fun H=>⟨?_,c.trans j⟩) (fun H=>?_)⟩
 ·simp [gS,hu,z,<- A,H]
 ·refine aa.use (DH (P:=fun d=>!Uq x d) (y.ext j) (by omega) fun d hd s' e w=>Ur (((n.own.ext o.eo.ext).ext i).ext (j.trans e)).at (h.ext ((c.trans j).trans e)) d) ?_;rintro ab uR ⟨rfl,I⟩ ad;refine ⟨_,rfl,?_,(c.trans j).trans I⟩;simp [gS,hu,z,<- A,H]
end
section
open Go.Am Go.aq Go.aB Go.bq
set_option maxRecDepth 20000 in
theorem Us {s:AS} {lo Z lm l:Nat} {out hv:AV} {Lo:List gj} {H:List HN} {cur:List Int} {pl most:Int} (n:cur.length=16) (oo:Am.Own s lo [out]) (op:Am.Own s Z [.ptr (some (l,0))]) (om:Am.Own s lm [.int .i64 most]) (od:Am.Own s l (nK cur pl hv))
  (gO:bg ep 21 s out Lo) (gH:bg rZ 16 s hv H) (a0:lo≠Z) (a1:lo≠lm) (J:lo≠l) (b6:Z≠l) (a2:lm≠l) (A:Lo.length+1<=2 ^ 29) (b7:H.length+1<=2 ^ 29) (m:gj) (v:HN) :
  aa Tryz.prog bO [.agg (ep m),.agg (rZ v),.ptr (some (lo,0)),.ptr (some (Z,0)),.ptr (some (lm,0))] s fun r s'=>r=.bool (decide (((Lo.length+1:Nat):Int)<most))/\∃ p pY,Am.Own s' lo [p]/\Am.Own s' l (nK cur pl pY)/\bg ep 21 s' p (Lo++[m])/\bg rZ 16 s' pY (H++[v]) /\
   bB (lo::l::(ax out++ax hv)) s s'/\(∀ y∈ax p++ax pY,y∈ax out++ax hv\/s.h y=none):=by
 have ev:=aE m;have vv:=cR v;refine aa.pre fun hw=>AB _ _ _ _ _ _ _ ⟨bL m,aj.intro hw rfl fun l1 s2 F2=>⟨nH v,aj.intro F2.wf rfl fun l3 s4 F4=>?_⟩⟩;have F:=F2.ext.trans F4.ext;have o1:=F2.own.ext F4.ext;have o3:=F4.own;have ab:=oo.ext F;have a3:=op.ext F;have a4:=om.ext F;have ad:=od.ext F;have a5:=gO.ext F;have a6:=gH.ext F;have d1:lo≠l1:=fun e=>by
  have:=F2.no;rw [<- e,oo] at this;cases this
 have d3:lo≠l3:=fun e=>by
  have:=F4.no;rw [<- e,oo.ext F2.ext] at this;cases this
 have a7:=nL n pl hv;have a8:=FR n pl hv
 let X:AS->AS->Prop:=fun a b=>(∀ y cs,y≠lo->Am.Own a y cs->Am.Own b y cs)/\(∀ v,bg ep 21 a v (Lo++[m])->bg ep 21 b v (Lo++[m]))/\(∀ w,bg rZ 16 a w (H++[v])->bg rZ 16 b w (H++[v]))/\(a.h lo≠none->b.h lo≠none)/\bB (lo::(ax out++ax hv)) a b
 have rp:∀ s',X s4 s'->ak s' Z 0=some (.ptr (some (l,0))):=fun s' x=>by rw [(x.1 _ _ (Ne.symm a0) a3).at.ak];rfl
 have r1:∀ s',X s4 s'->aD s' l1 0 21=some (ep m):=fun s' x=>by rw [(x.1 _ _ (Ne.symm d1) o1).at.aD (by omega),dI]
 have r3:∀ s',X s4 s'->aD s' l3 0 16=some (rZ v):=fun s' x=>by rw [(x.1 _ _ (Ne.symm d3) o3).at.aD (by omega),List.drop_zero,List.take_of_length_le (by omega)]
 have rd:∀ s',X s4 s'->ak s' l (0+17)=some hv:=fun s' x=>by rw [(x.1 _ _ (Ne.symm J) ad).at.ak];exact a8.2
 have X0:X s4 s4:=⟨fun _ _ _ h=>h,fun _ h=>h,fun _ h=>h,id,bB.refl _ _⟩;have K:∀ {s':AS},X s4 s'->s'.h lo≠none:=fun x=>x.2.2.2.1 (by rw [ab];simp);have new:∀ {s':AS} {y:Nat},X s4 s'->s'.h y=none->y∈ax out++ax hv\/s.h y=none:=fun {s' y} x A=>by
  by_cases d:y∈ax out++ax hv
  ·exact .inl d
  ·right;refine F.none ?_;cases i:s4.h y with
   | none=>rfl
   | some o =>
    have L:y≠lo:=fun e=>K x (e ▸ A);rw [x.2.2.2.2.1 y o (by simp only [List.mem_cons,not_or];exact ⟨L,d⟩) i] at A;cases A
 refine ⟨X,fun q ks w s'=>(q=1->w=out/\Am.Own s' lo [out]/\bg ep 21 s' out Lo/\bg rZ 16 s' hv H)/\(q=4->Am.Own s' lo [out]/\bg rZ 16 s' hv H)/\(q=11->Am.Own s' lo [out])/\(q=12->∃ k x,ks=[k,x]/\Am.Own s' lo [x]),fun s'=>Am.Own s' lo [out]/\bg ep 21 s' out Lo/\bg rZ 16 s' hv H,
  fun q _ w s'=>(q=3->∃ a,w=.slc (some (a,0)) 1 1 true/\Am.Own s' a (ep m)/\a≠lo)/\(q=10->∃ a,w=.slc (some (a,0)) 1 1 true/\Am.Own s' a (rZ v)/\a≠lo)/\(q=4->bg ep 21 s' w (Lo++[m])/\∀ y∈ax w,y∈ax out++ax hv\/s.h y=none)/\(q=11->bg rZ 16 s' w (H++[v])/\∀ y∈ax w,y∈ax out++ax hv\/s.h y=none),
  fun q _ w=>(q=1->w=out)/\(q=4\/q=11->w.one=true)/\(q=12->w=.aQ []),fun a b e=>⟨fun _ _ _ h=>h.ext e,fun _ h=>h.ext e,fun _ h=>h.ext e,fun A=>(by cases i:a.h lo with | none=>exact absurd i A | some o=>rw [e.1 _ _ i];simp),e.mut⟩,fun a b c x y=>⟨fun z cs hz h=>y.1 z cs hz (x.1 z cs hz h),fun w h=>y.2.1 w (x.2.1 w h),fun w h=>y.2.2.1 w (x.2.2.1 w h),fun A=>y.2.2.2.1 (x.2.2.2.1 A),x.2.2.2.2.trans y.2.2.2.2⟩,?_,?_,fun a b e h=>⟨h.1.ext e,h.2.1.ext e,h.2.2.ext e⟩,⟨ab,a5,a6⟩,?_⟩
 ·rintro q ks w a b e ⟨U,h2,h3,h4⟩;exact ⟨fun i=>⟨(U i).1,(U i).2.1.ext e,(U i).2.2.1.ext e,(U i).2.2.2.ext e⟩,fun i=>⟨(h2 i).1.ext e,(h2 i).2.ext e⟩,fun i=>(h3 i).ext e,fun i=>by obtain ⟨k,x,y,z⟩:=h4 i;exact ⟨k,x,y,z.ext e⟩⟩
 ·rintro q ks w a b x ⟨U,h2,h3,h4⟩;refine ⟨fun i=>?_,fun i=>?_,fun i=>⟨x.2.1 _ (h3 i).1,(h3 i).2⟩,fun i=>⟨x.2.2.1 _ (h4 i).1,(h4 i).2⟩⟩
  ·obtain ⟨y,e1,e2,e3⟩:=U i;exact ⟨y,e1,x.1 _ _ e3 e2,e3⟩
  ·obtain ⟨y,e1,e2,e3⟩:=h2 i;exact ⟨y,e1,x.1 _ _ e3 e2,e3⟩
 have cx:∀ {q:Nat} {P:Prop},(q≠q->P):=fun h=>absurd rfl h;refine ⟨_,rp _ X0,fun s' x _=>⟨_,rp _ x,rfl⟩,fun dJ b8 b9 _ B=>⟨out,by rw [B.1.at.ak];rfl,⟨⟨fun _ _ _ h=>h,fun _ h=>h,fun _ h=>h,id,bB.refl _ _⟩,(fun _=>⟨rfl,B⟩),(fun h=>by cases h),(fun h=>by cases h),(fun h=>by cases h)⟩,⟨(fun h=>by cases h),(fun h=>by cases h),(fun h=>by cases h),(fun h=>by cases h)⟩,(fun _=>rfl),(fun h=>by rcases h with h | h <;> cases h),(fun h=>by cases h)⟩,⟨out,(fun _=>rfl),(fun h=>by rcases h with h | h <;> cases h),(fun h=>by cases h)⟩,fun nO ae=>?_⟩;obtain rfl:=ae.1 rfl;refine ⟨_,r1 _ X0,fun s' x _=>⟨_,r1 _ x,rfl⟩,fun gw a9 a' _=>⟨_,kY eF ev (bL m),aj.intro a' rfl fun ba uR M=>⟨M.ext,⟨(fun _=>⟨ba,rfl,M.own,?_⟩),(fun h=>by cases h),(fun h=>by cases h),(fun h=>by cases h)⟩,(fun h=>by cases h),(fun h=>by rcases h with h | h <;> cases h),(fun h=>by cases h)⟩⟩,⟨.bad,(fun h=>by cases h),(fun h=>by rcases h with h | h <;> cases h),(fun h=>by cases h)⟩,fun b' _=>⟨fun en bb bc W B=>?_,⟨.nilFunc,(fun h=>by cases h),(fun _=>rfl),(fun h=>by cases h)⟩,fun O al=>?_⟩⟩
 ·exact fun e=>K a9 (e ▸ M.no)
 ·obtain ⟨a,rfl,hA,L⟩:=W.2.1.1 rfl;obtain ⟨_,C,c2,Y⟩:=B.1 rfl;obtain ⟨v',s',e1,g1,j,_,n1⟩:=bg.append eF aE bL bc c2 (DM aE hA.at) (by simp;omega) aR;have t1:=bg.tag c2;have XU:lo ∉ ax nO:=fun d=>by have:=(t1 _ d).uniq (Own.tag C);omega
  refine ⟨v',s',e1,⟨⟨fun y cs d o=>o.mut j fun D=>?_,fun w g=>g.mut j (bg.HO aE (by decide) g c2 (by simp)),fun w g=>g.mut j fun y d D=>?_,fun A=>?_,j.mono fun y d=>by simp [d]⟩,(fun h=>by cases h),(fun _=>⟨C.mut j XU,Y.mut j fun y d D=>?_⟩),(fun h=>by cases h),(fun h=>by cases h)⟩,⟨(fun h=>by cases h),(fun h=>by cases h),(fun _=>⟨g1,fun y d=>?_⟩),(fun h=>by cases h)⟩,(fun h=>by cases h),(fun _=>bg.one g1),(fun h=>by cases h)⟩
  ·have:=(t1 _ D).uniq (Own.tag o);omega
  ·have:=(t1 _ D).uniq (bg.tag g y d);omega
  ·rw [j.1 lo _ XU C];simp
  ·have:=(t1 _ D).uniq (bg.tag Y y d);omega
  ·rcases n1 y d with h | h
   ·exact .inl (List.mem_append_left _ h)
   ·exact new bb h
 refine ⟨_,rp _ X0,fun s' x _=>⟨_,rp _ x,rfl⟩,fun s' _ _=>rfl,_,rd _ X0,fun s' x _=>⟨_,rd _ x,rfl⟩,_,r3 _ X0,fun s' x _=>⟨_,r3 _ x,rfl⟩,fun ca bd be _=>⟨_,kY iK vv (nH v),aj.intro be rfl fun bh cb Q=>⟨Q.ext,⟨(fun h=>by cases h),(fun _=>⟨bh,rfl,Q.own,?_⟩),(fun h=>by cases h),(fun h=>by cases h)⟩,(fun h=>by cases h),(fun h=>by rcases h with h | h <;> cases h),(fun h=>by cases h)⟩⟩,⟨.bad,(fun h=>by cases h),(fun h=>by rcases h with h | h <;> cases h),(fun h=>by cases h)⟩,fun cc _=>⟨fun cd bi bj W B=>?_,⟨.nilFunc,(fun h=>by cases h),(fun _=>rfl),(fun h=>by cases h)⟩,fun R am=>⟨fun bk ce bl W B=>?_,⟨.aQ [],(fun h=>by cases h),(fun h=>by rcases h with h | h <;> cases h),(fun _=>rfl)⟩,fun cf an=>⟨an.2.2 rfl,fun bm S bo W B=>?_⟩⟩⟩⟩
 ·exact fun e=>K bd (e ▸ Q.no)
 ·obtain ⟨a,rfl,hA,L⟩:=W.2.2.2.1.2.1 rfl;obtain ⟨C,Y⟩:=B.2.1 rfl;obtain ⟨v',s',e1,g1,j,_,n1⟩:=bg.append iK cR nH bj Y (DM cR hA.at) (by simp;omega) dW;have t1:=bg.tag Y;have XU:lo ∉ ax hv:=fun d=>by have:=(t1 _ d).uniq (Own.tag C);omega
  refine ⟨v',s',e1,⟨⟨fun y cs d o=>o.mut j fun D=>?_,fun w g=>g.mut j fun y d D=>?_,fun w g=>g.mut j (bg.HO cR (by decide) g Y (by simp)),fun A=>?_,j.mono fun y d=>by simp [d]⟩,(fun h=>by cases h),(fun h=>by cases h),(fun _=>C.mut j XU),(fun h=>by cases h)⟩,⟨(fun h=>by cases h),(fun h=>by cases h),(fun h=>by cases h),(fun _=>⟨g1,fun y d=>?_⟩)⟩,(fun h=>by cases h),(fun _=>bg.one g1),(fun h=>by cases h)⟩
  ·have:=(t1 _ D).uniq (Own.tag o);omega
  ·have:=(t1 _ D).uniq (bg.tag g y d);omega
  ·rw [j.1 lo _ XU C];simp
  ·rcases n1 y d with h | h
   ·exact .inl (List.mem_append_right _ h)
   ·exact new bi h
 ·have C:=B.2.2.1 rfl;refine cP (al.2.1 (.inl rfl)) uo (bC.own bl C (by simp) fun bs P=>?_);have oP:Am.Own bs lo [O]:=P.at;have tl:∀ y∈[lo],∀ g,Tag bk y g->g=0:=fun y d g t=>by
   obtain rfl:=List.mem_singleton.1 d;exact t.uniq (Own.tag C)
  refine ⟨⟨⟨fun y cs d o=>o.mut P.mut (by simpa using d),fun w g=>bg.ek g P.mut fun y d g t=>by rw [tl y d g t];decide,fun w g=>bg.ek g P.mut fun y d g t=>by rw [tl y d g t];decide,fun _=>by rw [oP];simp,P.mut.mono (by simp)⟩,(fun h=>by cases h),(fun h=>by cases h),(fun h=>by cases h),(fun _=>⟨_,_,rfl,oP⟩)⟩,⟨(fun h=>by cases h),(fun h=>by cases h),(fun h=>by cases h),(fun h=>by cases h)⟩,(fun h=>by cases h),(fun h=>by rcases h with h | h <;> cases h),(fun _=>rfl)⟩
 ·obtain ⟨_,_,⟨_,_,h4,_⟩,_,⟨_,_,_,bx⟩,_⟩:=W;obtain ⟨b0,b1⟩:=h4 rfl;obtain ⟨b2,b3⟩:=bx rfl;obtain ⟨k,x,hk,b4⟩:=B.2.2.2 rfl;simp only [List.cons.injEq,and_true] at hk;obtain ⟨_,rfl⟩:=hk;have G:=S.1 _ _ (Ne.symm J) ad;have ao:=S.1 _ _ (Ne.symm a1) a4;refine cP (am.2.1 (.inr rfl)) rH (bC.own bo G (by simp [a7]) fun b5 P=>?_);have oP:Am.Own b5 l (nK cur pl R):=by
   have:=P.at;rw [fA,Nat.zero_add,(HS n pl pl hv R).2] at this;exact this
  have tl:∀ y∈[l],∀ g,Tag bm y g->g=0:=fun y d g t=>by
   obtain rfl:=List.mem_singleton.1 d;exact t.uniq (Own.tag G)
  have I:=bg.ek b0 P.mut fun y d g t=>by rw [tl y d g t];decide
  have ar:=bg.ek b2 P.mut fun y d g t=>by rw [tl y d g t];decide
  have aw:=b4.mut P.mut (by simpa using J);refine ⟨O,by rw [aw.at.ak];rfl,_,(I.sl aE).b_ aR _,most,by rw [(ao.mut P.mut (by simpa using a2)).at.ak];rfl,?_,O,R,aw,oP,I,ar,?_,?_⟩
  ·rw [List.length_append];rfl
  ·exact (F.mut.trans (S.2.2.2.2.mono fun y d=>by
    simp only [List.mem_cons,List.mem_append] at d ⊢;rcases d with h | h | h <;> simp [h])).trans (P.mut.mono (by simp))
  ·intro y d;rcases List.mem_append.1 d with d | d
   ·exact b1 y d
   ·exact b3 y d
end
section
open Go.Am Go.aq Go.aB Go.bq
def scan (P:Ev->Bool) (stop:Nat->Bool):List (Ev×List Int)->Nat->List (Ev×List Int)×Nat
 | [],_=>([],0)
 | x::xs,k=>if P x.1 then (if stop (k+1) then ([x],1) else (x::(scan P stop xs (k+1)).1,(scan P stop xs (k+1)).2+1)) else ((scan P stop xs k).1,(scan P stop xs k).2+1)
def pV (c:dX):List (Ev×List Int):=c.log.zip c.JI
theorem Cx {c:dX} (h:c.JI.length=c.log.length):(pV c).length=c.log.length:=by simp [pV,h]
theorem VW {c:dX} {i:Nat} {e:Ev} {v:List Int} (b:c.log[i]? = some e) (h2:c.JI[i]? = some v):(pV c)[i]? = some (e,v):=by
 rw [pV,List.getElem?_zip_eq_some];exact ⟨b,h2⟩
set_option maxRecDepth 20000 in
theorem QO {Fc Fs:List Nat} {s0:AS} {l pc ps:Nat} {c:dX} {x:aF} {cur:List Int} {pl:Nat} {name:List UInt8} {g:FuncId} {cap:List AV} {stop:Nat->Bool} {J:List (gj×HN)->AS->Prop}
  (j:cur.length=16) (hb:c.JI.length=c.log.length) (a6:c.log.length<=2 ^ 28) (hp:∀ e∈c.log,e.tW.length<=2 ^ 29/\e.to.length<=2 ^ 29) (Z:x.nl<65536) (ab:pl<=c.log.length)
  (Jw:∀ d s,J d s->aJ s) (Je:∀ d s s',J d s->Ext s s'->aJ s'->J d s') (Jd:∀ d s,J d s->∃ hv,Am.Own s l (nK cur pl hv)) (Jc:∀ d s,J d s->gx Fc s pc c) (Js:∀ d s,J d s->ic Fs s ps x)
  (step:∀ d s m v,J d s->g_ (LB m) s m->d.length<=2 ^ 28->aa Tryz.prog g ([.agg (ep m),.agg (rZ v)]++cap) s fun r s'=>r=.bool (!stop (d.length+1))/\(aJ s'->J (d++[(m,v)]) s')) (h0:J [] s0) :
  aa Tryz.prog bY [.ptr (some (l,0)),.str name,.ptr (some (pc,0)),.ptr (some (ps,0)),.func g cap] s0 fun r s'=>∃ d,r=.int .i64 ((pl+(scan (gS name cur x) stop ((pV c).drop pl) 0).2:Nat):Int)/\d.map (fun z=>(z.1.ev,z.2.v))=(scan (gS name cur x) stop ((pV c).drop pl) 0).1/\J d s':=by
 have a7:=Cx hb;obtain ⟨ad,o0⟩:=Jd _ _ h0;refine Ay _ _ _ _ _ _ _ ⟨_,by rw [o0.at.ak];exact (FR j _ ad).1,?_⟩;refine ⟨fun m vs s'=>∃ (i:Nat) (d:List (gj×HN)),vs=[.int .i64 (i:Nat)]/\pl<=i/\i<=c.log.length/\m=c.log.length - i/\d.length<=i/\J d s'/\(scan (gS name cur x) stop ((pV c).drop pl) 0).1=d.map (fun z=>(z.1.ev,z.2.v))++(scan (gS name cur x) stop ((pV c).drop i) d.length).1/\pl+(scan (gS name cur x) stop ((pV c).drop pl) 0).2=i+(scan (gS name cur x) stop ((pV c).drop i) d.length).2,c.log.length - pl,⟨pl,[],rfl,by omega,ab,rfl,by simp,h0,by simp,by simp⟩,?_⟩;rintro m n s8 ⟨i,d,hi,h5,h6,rfl,a8,Y,k,o⟩;simp only [List.cons.injEq,AV.int.injEq,true_and,and_true] at hi;subst hi;refine aa.use (VS (Jc _ _ Y)) ?_;rintro v9 a9 ⟨rfl,rfl⟩ a';refine ⟨_,rfl,af.dec (fun ba=>?_) (fun bb=>?_)⟩
 ·refine aa.use (XD (Jc _ _ Y) hb (i:=i) (by omega) (fun e he=>⟨by have:=(hp e he).1;omega,by have:=(hp e he).2;omega⟩) (by omega)) ?_;rintro bc bQ ⟨m,v,G,F,M,rfl,gE,nG,tG,ae⟩ al;have am:g_ (LB m) bQ m:=⟨gE.1,gE.2.1,fun y hy=>List.mem_append.2 hy⟩;refine ⟨_,_,_,rfl,?_⟩;refine aj.intro al rfl fun O eH p=>aj.intro p.wf rfl fun AJ gw w=>⟨⟨bL m,by rw [aE]⟩,bC.own w.wf (p.own.ext w.ext) (by rw [aE];exact Nat.le_refl _) fun gl A=>?_⟩;have d79:O≠AJ:=fun e=>by
   have:=w.no;rw [<- e,p.own] at this;cases this
  have an:Am.Own gl O (ep m):=by
   have:=A.at;rw [dZ (by rw [aE];rfl)] at this;exact this
  have ao:Am.Own gl AJ (dx.map (.int .u64)):=w.own.mut A.mut (by simpa using Ne.symm d79);refine ⟨⟨nH v,by rw [cR]⟩,bC.own A.wf ao (by rw [cR];simp [dx]) fun fV B=>?_⟩;have ar:Am.Own fV AJ (rZ v):=by
   have:=B.at;rw [dZ (by rw [cR];simp [dx])] at this;exact this
  have Q:=an.mut B.mut (by simpa using d79);have R:Ext bQ fV:=Ext.wr (Ext.wr (p.ext.trans w.ext) p.no A.mut) (p.ext.none w.no) B.mut;have I:=Je _ _ _ Y (ae.trans R) B.wf;have S:=am.ext R;have aw:=VW F M;have K:(pV c).drop i=(m.ev,v.v)::(pV c).drop (i+1):=by
   have h:=List.drop_eq_getElem_cons (l:=pV c) (i:=i) (by omega);rw [h,(List.getElem?_eq_some_iff.1 aw).2]
  rw [K] at k o;have a0:=hp m.ev (List.mem_of_getElem? F);refine ⟨fun vs s'=>∃ H b,vs=[.bool b]/\J H s'/\H.length<=i+1/\(scan (gS name cur x) stop ((pV c).drop pl) 0).1=H.map (fun z=>(z.1.ev,z.2.v))++(if b then [] else (scan (gS name cur x) stop ((pV c).drop (i+1)) H.length).1)/\pl+(scan (gS name cur x) stop ((pV c).drop pl) 0).2=i+1+(if b then 0 else (scan (gS name cur x) stop ((pV c).drop (i+1)) H.length).2),?_,?_⟩
  ·rintro b en ⟨H,b',U,C,a1,L,h2⟩;simp only [List.cons.injEq,AV.bool.injEq,and_true] at U;subst U;refine af.mk (fun hb=>?_) (fun hb=>?_)
   ·rw [hb] at L h2;simp only [if_true,List.append_nil,Nat.add_zero] at L h2;exact ⟨H,by rw [uJ (by omega),h2],L.symm,C⟩
   ·rw [hb] at L h2;simp only [Bool.false_eq_true,if_false] at L h2;exact ⟨c.log.length - (i+1),by omega,i+1,H,by rw [uJ (by omega)],by omega,by omega,rfl,a1,C,L,h2⟩
  ·refine ⟨_,Q.at.aD (by rw [aE];omega),?_⟩;rw [dI];obtain ⟨hv,od⟩:=Jd _ _ I;refine aa.use (VV S.at a0.2 (Js _ _ I) Z j od.at (Cw j _ hv) (by rw [nL j];omega) name) ?_;rintro bd a2 ⟨rfl,D⟩ a3;have W:=Je _ _ _ I D a3;refine ⟨_,rfl,af.mk (fun X=>?_) (fun X=>?_)⟩
   ·refine ⟨_,(Q.ext D).at.aD (by rw [aE];omega),_,(ar.ext D).at.aD (by rw [cR];omega),?_⟩;rw [dI,List.drop_zero,List.take_of_length_le (by rw [cR];omega)];show aa _ _ _ _ _;refine aa.use (step d a2 m v W (S.ext D) (by omega)) ?_;rintro be bh ⟨rfl,C⟩ a4;refine ⟨_,rfl,d++[(m,v)],_,rfl,C a4,by simp;omega,?_,?_⟩
    ·rw [k,scan,if_pos X];cases a5:stop (d.length+1) <;> simp
    ·rw [o,scan,if_pos X];cases a5:stop (d.length+1) <;> simp <;> omega
   ·refine ⟨d,false,rfl,W,by omega,?_,?_⟩
    ·rw [k,scan,if_neg (by rw [X];simp)];simp
    ·rw [o,scan,if_neg (by rw [X];simp)];simp;omega
 ·have:(pV c).drop i=[]:=List.drop_eq_nil_of_le (by omega);rw [this] at k o;simp only [scan,List.append_nil,Nat.add_zero] at k o;exact ⟨d,by rw [o],k.symm,Y⟩
end
section
open Go.Am Go.aq Go.aB Go.bq
theorem Tag.JN {s:AS} {y g:Nat} {es:List (AV×AV×Nat)} {k:Nat} {ro:Bool} (h:s.h y=some (.map es k ro)):¬ Tag s y g:=fun ⟨cs,t⟩=>by rw [h] at t;cases t
theorem Own.Yl {s:AS} {a b:Nat} {x y:List AV} (h:Am.Own s a x) (c:Am.Own s b y) (d:x.length≠y.length):a≠b:=fun e=>by
 subst e;have:x=y:=At.inj h.at c.at;exact d (by rw [this])
section
variable {F:List Nat} {s:AS} {p n:Nat} {sec:List Int} {f:List UInt8->Option Dv}
theorem mH.tight (h:mH F s p sec f n):∃ F0,mH F0 s p sec f n/\(∀ y∈F0,y∈F)/\∀ y∈F0,s.h y≠none:=by
 obtain ⟨sv,hm,es,k,w,h2,h3,⟨a1,a2⟩,r,c2,l,x,z⟩:=h;have o:∀ a m,dF es a=some m->∃ e∈es,e.2.1=m:=fun a m d=>by
  obtain ⟨j,k,hj⟩:=qW d;exact ⟨_,List.mem_of_getElem? hj,rfl⟩
 have c:∀ e∈es,dF es e.1=some e.2.1:=fun e i=>xo r.nd i;refine ⟨p::hm::(ax sv++es.flatMap fun e=>fO e.2.1),⟨sv,hm,es,k,w,by simp,by simp,⟨a1,fun y b=>by simp [b]⟩,r,c2,fun a m d=>⟨⟨(l a m d).1.1,(l a m d).1.2.1,(l a m d).1.2.2.1,fun y b=>?_⟩,(l a m d).2⟩,x,z⟩,?_,?_⟩
 ·obtain ⟨e,i,rfl⟩:=o a m d;have:y∈es.flatMap fun e=>fO e.2.1:=List.mem_flatMap.2 ⟨e,i,b⟩;simp only [List.mem_cons,List.mem_append,this,or_true]
 ·intro y b;simp only [List.mem_cons,List.mem_append] at b;rcases b with rfl | rfl | b | b
  ·exact h2
  ·exact h3
  ·exact a2 y b
  ·obtain ⟨e,i,b⟩:=List.mem_flatMap.1 b;exact (l _ _ (c e i)).1.2.2.2 y b
 ·intro y b;simp only [List.mem_cons,List.mem_append] at b;rcases b with rfl | rfl | b | b
  ·rw [w];simp
  ·rw [r.obj];simp
  ·exact bg.jG a1 y b
  ·obtain ⟨e,i,b⟩:=List.mem_flatMap.1 b;obtain ⟨d1,d2,_⟩:=(l _ _ (c e i)).1;rcases List.mem_cons.1 b with rfl | b
   ·rw [d1];simp
   ·exact bg.jG d2 y b
def jP (f:List UInt8->Option Dv) (a:List UInt8) (d:Option Dv):List UInt8->Option Dv:=fun b=>if b=a then d else f b
theorem Cy (a:List UInt8) (m':Se):∀ (es:List (List UInt8×Se×Nat)) (b:List UInt8),dF (es.map fun e=>if e.1=a then (e.1,m',e.2.2) else e) b=if b=a then (dF es a).map (fun _=>m') else dF es b
 | [],b=>by simp [uk]
 | e::es,b=>by
  rw [List.map_cons,d_,Cy a m' es b,d_,d_];by_cases c:e.1=a
  ·by_cases h2:b=a
   ·subst h2;simp [c]
   ·have:¬ a=b:=fun h=>h2 h.symm;simp [c,h2,this]
  ·by_cases h2:b=a
   ·subst h2;simp [c]
   ·simp [c,h2]
theorem mH.dev (h:mH F s p sec f n) (S:∀ y∈F,s.h y≠none) {name:List UInt8} {d:Dv} (hd:f name=some d):∃ (m:Se) (sv:AV) (hm:Nat),m.d=d/\HR F s m/\Am.Own s p [sv,.map (some hm)]/\(bg qv 1 s sv sec/\∀ y∈ax sv,y∈F)/\(∀ s',Ext s s'->dA T aK (.map (some hm)) (.str name) false s'=some (.ptr (some (m.l,0))))/\p ∉ fO m/\(∀ y∈ax sv,y ∉ fO m) /\
  ∀ (s':AS) (m':Se),m'.l=m.l->bB (fO m) s s'->Am.Own s' m.l (nK m'.d.cur m'.d.place m'.hv)->bg rZ 16 s' m'.hv m'.H->m'.H.map HN.v=m'.d.hand->(∀ y∈ax m'.hv,y∈fO m\/s.h y=none) ->
   ∃ F',mH F' s' p sec (jP f name (some m'.d)) n/\(∀ y∈F',y∈F\/s.h y=none)/\∀ y∈F',s'.h y≠none:=by
 obtain ⟨sv,hm,es,k,O,h2,h3,⟨a1,a2⟩,B,c2,U,c4,Q⟩:=id h;cases r:dF es name with
 | none=>rw [c4 _ r] at hd;cases hd
 | some m =>
  obtain ⟨w,I⟩:=U _ _ r;rw [hd] at I;have tm:∀ y∈fO m,∀ g,Tag s y g->g=0\/g=16:=fun y c g t=>by
   rcases List.mem_cons.1 c with rfl | c
   ·exact .inl (t.uniq (Own.tag w.1))
   ·exact .inr (t.uniq (bg.tag w.2.1 y c))
  have J:p ∉ fO m:=fun c=>by
   rcases List.mem_cons.1 c with e | c
   ·exact Own.Yl O w.1 (by rw [nL m.len];simp) e
   ·have:=(bg.tag w.2.1 _ c).uniq (Own.tag O);omega
  have K:∀ y∈ax sv,y ∉ fO m:=fun y c W=>by rcases tm y W 1 (bg.tag a1 y c) with h | h <;> omega
  have X:hm ∉ fO m:=fun c=>by
   rcases List.mem_cons.1 c with e | c
   ·exact Tag.JN B.obj (e ▸ Own.tag w.1)
   ·exact Tag.JN B.obj (bg.tag w.2.1 _ c)
  refine ⟨m,sv,hm,(Option.some.inj I).symm,w,O,⟨a1,a2⟩,fun s' e=>?_,J,K,fun s' m' Y R ho hg hH C=>?_⟩
  ·have:=(B.ext e).find vZ name false;rw [r] at this;exact this
  have L:fO m'=m.l::ax m'.hv:=by rw [fO,Y]
  have hC:mH (ax m'.hv++F) s' p sec (jP f name (some m'.d)) n:=by
   refine ⟨sv,hm,es.map fun e=>if e.1=name then (e.1,m',e.2.2) else e,k,O.mut R J,by simp [h2],by simp [h3],⟨a1.mut R K,fun y c=>by simp [a2 y c]⟩,?_,by rw [List.length_map,c2],fun a x o=>?_,fun a i=>?_,fun a b x y o c j=>?_⟩
   ·have Z:=B.mut R X;refine ⟨?_,?_,?_,?_⟩
    ·rw [Z.obj];congr 2;simp only [mE,List.map_map];apply List.map_congr_left;intro e he;simp only [Function.comp];split
     ·rename_i M;have:=xo B.nd he;rw [M,r] at this;have:=Option.some.inj this;simp only [dP,<- this,Y]
     ·rfl
    ·rw [List.pairwise_map];refine B.st.imp fun {a b} j=>?_;split <;> split <;> exact j
    ·intro e he;obtain ⟨e0,ab,rfl⟩:=List.mem_map.1 he;have:=B.lt e0 ab;split <;> exact this
    ·rw [List.pairwise_map];refine B.nd.imp fun {a b} j=>?_;split <;> split <;> exact j
   ·rw [Cy] at o;by_cases i:a=name
    ·rw [if_pos i,r] at o;obtain rfl:=Option.some.inj o;refine ⟨⟨by rw [Y];exact ho,hg,hH,fun y c=>?_⟩,by rw [jP,if_pos i]⟩;rw [L] at c;rcases List.mem_cons.1 c with rfl | c
     ·exact List.mem_append_right _ (w.2.2.2 _ (by simp [fO]))
     ·exact List.mem_append_left _ c
    ·rw [if_neg i] at o;obtain ⟨hE,ad⟩:=U a x o;have A:=hE.mut R (Q name a m x r o (Ne.symm i));exact ⟨⟨A.1,A.2.1,A.2.2.1,fun y c=>List.mem_append_right _ (A.2.2.2 y c)⟩,by rw [jP,if_neg i];exact ad⟩
   ·rw [Cy] at i;by_cases M:a=name
    ·rw [if_pos M,r] at i;cases i
    ·rw [if_neg M] at i;rw [jP,if_neg M];exact c4 a i
   ·have old:∀ (b:List UInt8) (y:Se),dF es b=some y->b≠name->∀ z,z∈fO m'->z ∉ fO y:=fun b y c hb z G D=>by
     rw [L] at G;rcases List.mem_cons.1 G with rfl | G
     ·exact Q name b m y r c (Ne.symm hb) _ (by simp [fO]) D
     ·rcases C z G with h | h
      ·exact Q name b m y r c (Ne.symm hb) _ h D
      ·exact S z ((U b y c).1.2.2.2 z D) h
    rw [Cy] at o c;by_cases i:a=name
    ·rw [if_pos i,r] at o;obtain rfl:=Option.some.inj o;rw [if_neg (by rw [<- i];exact Ne.symm j)] at c;exact old b y c (by rw [<- i];exact Ne.symm j)
    ·rw [if_neg i] at o;by_cases hb:b=name
     ·rw [if_pos hb,r] at c;obtain rfl:=Option.some.inj c;exact fun z G ae=>old a x o i z ae G
     ·rw [if_neg hb] at c;exact Q a b x y o c j
  obtain ⟨F0,al,am,an⟩:=hC.tight;refine ⟨F0,al,fun y c=>?_,an⟩;rcases List.mem_append.1 (am y c) with h | h
  ·rcases C y h with h | h
   ·exact .inl (w.2.2.2 y h)
   ·exact .inr h
  ·exact .inl h
end
end
section
open Go.Am Go.aq Go.aB Go.bq
def Sf (F:List Nat) (s s':AS):Prop:=∃ L,bB L s s'/\∀ y∈L,y∈F/\∀ g,Tag s y g->g=0\/g=16
theorem Sf.mut {F:List Nat} {s s':AS} (h:Sf F s s'):bB F s s':=by
 obtain ⟨L,m,b⟩:=h;exact m.mono fun y c=>(b y c).1
structure N4 (F Fc Fs:List Nat) (s:AS) (p pc ps:Nat) (sec:List Int) (f:List UInt8->Option Dv) (n:Nat) (c:dX) (x:aF):Prop where
 fe:mH F s p sec f n
 th:∀ y∈F,s.h y≠none
 ca:gx Fc s pc c
 se:ic Fs s ps x
 tc:∀ y∈Fc,s.h y≠none
 ts:∀ y∈Fs,s.h y≠none
 dc:Dj F Fc
 ds:Dj F Fs
 bl:c.JI.length=c.log.length
 ln:c.log.length<=2 ^ 27
 sz:∀ e∈c.log,e.tW.length<=2 ^ 29/\e.to.length<=2 ^ 29
 nl:x.nl<65536
 pl:∀ a d,f a=some d->d.place<=c.log.length/\d.hand.length<=d.place
noncomputable def sP (name:List UInt8) (d:Dv) (c:dX) (x:aF) (most:Int):List (Ev×List Int)×Nat:=scan (gS name d.cur x) (fun k=>!decide ((k:Int)<most)) ((pV c).drop d.place) 0
noncomputable def HT (name:List UInt8) (d:Dv) (c:dX) (x:aF) (most:Int):Dv:=⟨d.cur,d.place+(sP name d c x most).2,d.hand++(sP name d c x most).1.map Prod.snd⟩
section
variable {F Fc Fs:List Nat} {s:AS} {p pc ps n:Nat} {sec:List Int} {f:List UInt8->Option Dv} {c:dX} {x:aF}
theorem HU (h:N4 F Fc Fs s p pc ps sec f n c x) {s2:AS} (e2:Ext s s2) :
  aa Tryz.prog ey [.ptr (some (p,0))] s2 fun wm b=>∃ e:Bool,wm=.bool e/\(af e (aa Tryz.prog fY [(.ptr (some (pc,0)))] b fun m d=>∃ i:Option (Nat×Nat),m=.ptr i/\(sr (iZ T 100 jh (.ptr i) (.ptr none)) fun o=>af o ((fun vs s'=>vs=[AV.bool false]/\Ext s2 s'/\aJ s') [.bool true] d) (aa Tryz.prog jc [(.ptr (some (ps,0)))] d fun r j=>∃ k:Option (Nat×Nat),r=.ptr k/\(sr (iZ T 100 mz (.ptr k) (.ptr none)) fun w=>(fun vs s'=>vs=[AV.bool false]/\Ext s2 s'/\aJ s') [.bool w] j)))) ((fun vs s'=>vs=[AV.bool false]/\Ext s2 s'/\aJ s') [.bool false] b)):=by
 refine aa.use (DU (h.fe.ext e2)) ?_;rintro v b ⟨rfl,rfl⟩ A;refine ⟨_,rfl,af.yes rfl ?_⟩;refine aa.use (Ul (h.ca.ext e2)) ?_;rintro v d ⟨⟨q,rfl⟩,l⟩ B;refine ⟨_,rfl,_,jq wj _,af.no rfl ?_⟩;refine aa.use (Xp (h.se.ext (e2.trans l))) ?_;rintro v j ⟨C,rfl,_,_,y⟩ z;exact ⟨_,rfl,_,jq xK _,rfl,l.trans y,z⟩
set_option maxRecDepth 20000 in
theorem QS (h:N4 F Fc Fs s p pc ps sec f n c x) (name:List UInt8) (most:Int) :
  aa Tryz.prog eT [.ptr (some (p,0)),.str name,.int .i64 most,.ptr (some (pc,0)),.ptr (some (ps,0))] s fun r s' =>
   ((¬ (aN name=true/\1<=most/\most<=16)\/f name=none)/\(∃ e:Int,e≠0/\r=.aQ [.slc none 0 0 true,.int .i64 e])/\Ext s s') \/
   ((aN name=true/\1<=most/\most<=16)/\∃ (d:Dv) (out:AV) (Lo:List gj) (F':List Nat),f name=some d/\r=.aQ [out,.int .i64 0]/\bg ep 21 s' out Lo/\(∀ m∈Lo,g_ (LB m) s' m)/\Lo.map gj.ev=(sP name d c x most).1.map Prod.fst /\
    mH F' s' p sec (jP f name (some (HT name d c x most))) n/\Sf F s s'/\(∀ y∈F',y∈F\/s.h y=none)/\∀ y∈F',s'.h y≠none):=by
 refine aa.pre fun hw=>DQ _ _ _ _ _ _ _ (aj.intro hw rfl fun l1 s2 F2=>?_);refine ⟨fun vs s'=>vs=[.bool false]/\Ext s2 s'/\aJ s',?_,HU h F2.ext⟩;rintro b s5 ⟨hb,e5,w5⟩;obtain rfl:b=false:=by simpa using hb
 have B:=F2.ext.trans e5;have o5:=F2.own.ext e5;refine af.no rfl ⟨fun vs s'=>vs=[.int .i64 (if ¬ (aN name=true/\1<=most/\most<=16) then 2 else if (f name).isNone=true then 7 else 0)]/\s'=s5,?_,most,by rw [o5.at.ak];rfl,af.dec (fun h1=>⟨most,by rw [o5.at.ak];rfl,?_⟩) (fun h1=>?_)⟩
 ·rintro n7 s8 ⟨hn,rfl⟩;simp only [List.cons.injEq,AV.int.injEq,true_and,and_true] at hn;subst hn;by_cases hg:aN name=true/\1<=most/\most<=16
  ·rw [if_neg (fun h=>h hg)];cases hf:f name with
   | none =>
    rw [if_pos (show (none:Option Dv).isNone=true from rfl)];exact af.yes (by decide) (.inl ⟨.inr rfl,⟨7,by decide,rfl⟩,B⟩)
   | some d =>
    rw [if_neg (by simp)];refine af.no (by decide) ?_;have a6:=h.fe.ext B;have Z:∀ y∈F,s8.h y≠none:=fun y i=>by
     cases hq:s.h y with
     | none=>exact absurd hq (h.th y i)
     | some o=>rw [B.1 _ _ hq];simp
    obtain ⟨m,sv,hm,rfl,R,op,⟨bx,_⟩,ae,b0,b1,an⟩:=a6.dev Z hf;obtain ⟨bs,ao⟩:=h.pl _ _ hf;refine ⟨_,by rw [op.at.ak];rfl,_,ae _ (Ext.refl _),aj.intro w5 rfl fun U b2 K=>bC.own K.wf K.own (by simp) fun fH al=>aj.intro al.wf rfl fun qZ kU C=>?_⟩;have ar:Am.Own fH U [.ptr (some (m.l,0))]:=al.at;have am:Ext s8 fH:=Ext.wr K.ext K.no al.mut;have D:=am.trans C.ext;have aw:=ar.ext C.ext;have a0:Am.Own kU l1 [.int .i64 most]:=o5.ext D;have a7:Am.Own kU qZ [.slc none 0 0 true]:=C.own;have ab:=R.mut (L:=[]) D.mut (by simp);have a8:s8.h U=none:=K.no;have W:s8.h qZ=none:=am.none C.no;have a1:∀ y∈fO m,s8.h y≠none:=fun y i=>Z y (R.2.2.2 y i);have X:U ∉ qZ::fO m:=fun i=>by
     rcases List.mem_cons.1 i with e | i
     ·have:=C.no;rw [<- e,ar] at this;cases this
     ·exact a1 _ i a8
    have a2:qZ ∉ fO m:=fun i=>a1 _ i W;have k1:l1 ∉ qZ::fO m:=fun i=>by
     rcases List.mem_cons.1 i with e | i
     ·have:=C.no;rw [<- e,o5.ext am] at this;cases this
     ·exact h.th _ (R.2.2.2 _ i) F2.no
    have kl:m.l∈fO m:=by simp [fO]
    have M:∀ y∈qZ::fO m,y ∉ Fc/\y ∉ Fs:=fun y i=>by
     rcases List.mem_cons.1 i with rfl | i
     ·exact ⟨fun O=>h.tc _ O (B.none W),fun O=>h.ts _ O (B.none W)⟩
     ·exact ⟨h.dc y (R.2.2.2 y i),h.ds y (R.2.2.2 y i)⟩
    have b3:m.H.length<=m.d.place:=by rw [<- List.length_map (f:=HN.v),R.2.2.1];exact ao
    have b4:=h.ln
    let Jb:AS->List (gj×HN)->AS->Prop:=fun sb d s'=>∃ out pY,Am.Own s' qZ [out]/\Am.Own s' m.l (nK m.d.cur m.d.place pY)/\bg ep 21 s' out (d.map Prod.fst)/\bg rZ 16 s' pY (m.H++d.map Prod.snd)/\bB (qZ::fO m) sb s'/\(∀ y∈ax out++ax pY,y∈fO m\/sb.h y=none)/\∀ z∈d,g_ (LB z.1) s' z.1
    have ad:∀ sb d a b,Jb sb d a->Ext a b->Jb sb d b:=fun sb d a b ⟨out,pY,I,G,j3,S,A,j6,j7⟩ e=>⟨out,pY,I.ext e,G.ext e,j3.ext e,S.ext e,A.trans e.mut,j6,fun z Q=>(j7 z Q).ext e⟩;have J0:∀ sb,Ext kU sb->Jb sb [] sb:=fun sb e=>⟨_,m.hv,a7.ext e,ab.1.ext e,bg.nil,by simpa using ab.2.1.ext e,bB.refl _ _,fun y i=>.inl (by simpa [ax,fO] using Or.inr (by simpa [ax] using i)),by simp⟩;have Y:∀ s',bB (qZ::fO m) kU s'->ak s' U 0=some (.ptr (some (m.l,0))):=fun s' mm=>by rw [(aw.mut mm X).at.ak];rfl
    have M0:bB (qZ::fO m) kU kU:=bB.refl _ _;refine ⟨fun a b=>bB (qZ::fO m) a b,fun q _ v s'=>q=6->∃ d,v=.int .i64 ((m.d.place+(sP name m.d c x most).2:Nat):Int)/\d.map (fun z=>(z.1.ev,z.2.v))=(sP name m.d c x most).1/\Jb kU d s',fun s'=>Ext kU s',fun _ _ _ _=>True,fun q _ v=>q=6->∃ k,v=.int .i64 k,fun a b e=>e.mut,fun a b c x y=>x.trans y,fun q _ v a b e g hq=>by obtain ⟨d,x,y,z⟩:=g hq;exact ⟨d,x,y,ad _ _ _ _ z e⟩,fun _ _ _ _ _ _ _=>trivial,fun a b e g=>g.trans e,Ext.refl _,?_⟩;refine ⟨_,Y _ M0,fun s' x _=>⟨_,Y _ x,rfl⟩,_,Y _ M0,fun s' x _=>⟨_,Y _ x,rfl⟩,fun s' _ _=>rfl,fun en b5 a9 _ O=>?_,⟨.int .i64 0,fun _=>⟨_,rfl⟩⟩,fun b6 a3=>?_⟩
    ·refine aa.use (QO (s0:=en) (l:=m.l) (pl:=m.d.place) (cur:=m.d.cur) (stop:=fun k=>!decide ((k:Int)<most)) (J:=fun d s'=>Jb en d s'/\aJ s') m.len h.bl (by omega) h.sz h.nl (by omega) (fun d s' j=>j.2) (fun d a b j e w=>⟨ad _ _ _ _ j.1 e,w⟩) (fun d s' j=>by obtain ⟨⟨out,pY,I,G,_⟩,_⟩:=j;exact ⟨pY,G⟩) (fun d s' j=>by obtain ⟨⟨out,pY,I,G,j3,S,A,_⟩,_⟩:=j;exact (h.ca.ext ((B.trans D).trans O)).mut A fun y i=>(M y i).1) (fun d s' j=>by obtain ⟨⟨out,pY,I,G,j3,S,A,_⟩,_⟩:=j;exact (h.se.ext ((B.trans D).trans O)).mut A fun y i=>(M y i).2) ?_ ⟨J0 _ O,a9⟩) ?_
     ·rintro d s' m' v ⟨⟨out,pY,I,G,j3,S,A,j6,j7⟩,w'⟩ gE b7;have t1:=bg.tag j3;have t2:=bg.tag S;refine (Us (pl:=m.d.place) m.len I ((aw.ext O).mut A X) ((a0.ext O).mut A k1) G j3 S (fun e=>X (by simp [<- e])) (fun e=>k1 (by simp [<- e])) (fun e=>a2 (by rw [e];exact kl)) (fun e=>X (by rw [e];simp [kl])) (fun e=>k1 (by rw [e];simp [kl])) (by simp;omega) (by simp;omega) m' v).mono ?_;rintro r b8 ⟨rfl,a4,a',g1,g2,g3,g4,g5,g6⟩;refine ⟨by simp,fun w=>⟨⟨a4,a',g1,g2,by simpa using g3,by rw [List.map_append,<- List.append_assoc];exact g4,A.new g5 fun y i=>?_,fun y i=>?_,fun z Q=>?_⟩,w⟩⟩
      ·rcases List.mem_cons.1 i with rfl | i
       ·exact .inl (by simp)
       ·rcases List.mem_cons.1 i with rfl | i
        ·exact .inl (by simp [kl])
        ·rcases j6 y i with h | h
         ·exact .inl (by simp [h])
         ·exact .inr h
      ·rcases g6 y i with h | h
       ·exact j6 y h
       ·by_cases a5:y∈fO m
        ·exact .inl a5
        ·right;cases hq:en.h y with
         | none=>rfl
         | some o =>
          have ba:y≠qZ:=fun e=>by
           subst e;rw [I] at h;cases h
          rw [A.1 y o (by simp only [List.mem_cons,not_or];exact ⟨ba,a5⟩) hq] at h;cases h
      ·have hT:∀ y∈qZ::m.l::(ax out++ax pY),∀ g,Tag s' y g->g≠1/\g≠3:=fun y i g t=>by
        rcases List.mem_cons.1 i with rfl | i
        ·have:=t.uniq (Own.tag I);omega
        ·rcases List.mem_cons.1 i with rfl | i
         ·have:=t.uniq (Own.tag G);omega
         ·rcases List.mem_append.1 i with i | i
          ·have:=t.uniq (t1 y i);omega
          ·have:=t.uniq (t2 y i);omega
       rcases List.mem_append.1 Q with Q | Q
       ·exact (j7 z Q).ek g5 hT
       ·obtain rfl:=List.mem_singleton.1 Q;exact gE.ek g5 hT
     ·rintro b9 b' ⟨d,rfl,hd,⟨jj,_⟩⟩ cb;obtain ⟨out,pY,I,G,j3,S,A,j6,j7⟩:=jj;exact ⟨_,rfl,⟨A,(fun _=>⟨d,rfl,hd,out,pY,I,G,j3,S,O.mut.trans A,fun y i=>(j6 y i).imp id O.none,j7⟩)⟩,trivial,(fun _=>⟨_,rfl⟩)⟩
    ·obtain ⟨k,rfl⟩:=a3 rfl;refine ⟨_,rfl,fun mG cc bb _ hC=>?_⟩;obtain ⟨d,hk,hd,out,pY,I,G,j3,S,A,j6,j7⟩:=hC rfl;simp only [AV.int.injEq,true_and] at hk;subst hk;refine bC.own bb G (by rw [nL m.len];simp) fun lC P=>?_;have oP:Am.Own lC m.l (nK m.d.cur ((m.d.place+(sP name m.d c x most).2:Nat):Int) pY):=by
      have:=P.at;rw [fA,Nat.zero_add,(HS m.len _ _ _ pY).1] at this;exact this
     have tl:∀ y∈[m.l],∀ g,Tag mG y g->g=0:=fun y i g t=>by
      obtain rfl:=List.mem_singleton.1 i;exact t.uniq (Own.tag G)
     have g3:=bg.ek j3 P.mut fun y i g t=>by rw [tl y i g t];decide
     have g4:=bg.ek S P.mut fun y i g t=>by rw [tl y i g t];decide
     have g7:∀ z∈d,g_ (LB z.1) lC z.1:=fun z Q=>(j7 z Q).ek P.mut fun y i g t=>by rw [tl y i g t];decide
     have bc:qZ≠m.l:=fun e=>a2 (e ▸ kl);have MA:bB (fO m) s8 lC:=by
      have m1:bB (qZ::fO m) s8 lC:=(D.mut.trans A).trans (P.mut.mono (by simp [kl]));refine ⟨fun y o i ho=>m1.1 y o (fun hm=>?_) ho,m1.2⟩;rcases List.mem_cons.1 hm with rfl | hm
      ·rw [W] at ho;cases ho
      ·exact i hm
     refine ⟨out,by rw [(I.mut P.mut (by simpa using bc)).at.ak];rfl,.inr ⟨hg,m.d,out,d.map Prod.fst,?_⟩⟩;obtain ⟨F',bd,be,bh⟩:=an lC ⟨m.l,pY,HT name m.d c x most,m.H++d.map Prod.snd,m.len⟩ rfl MA oP g4 (by
      show _=m.d.hand++(sP name m.d c x most).1.map Prod.snd;rw [List.map_append,R.2.2.1,<- hd];simp) (fun y i=>(j6 y (List.mem_append_right _ i)).imp id D.none)
     refine ⟨F',rfl,rfl,g3,fun z Q=>?_,?_,bd,⟨fO m,B.mut.trans MA,fun y i=>⟨R.2.2.2 y i,fun g t=>?_⟩⟩,fun y i=>(be y i).imp id B.none,bh⟩
     ·obtain ⟨w,bi,rfl⟩:=List.mem_map.1 Q;exact g7 w bi
     ·rw [<- hd];simp
     ·obtain ⟨cs,bj⟩:=t;have t8:Tag s8 y g:=⟨cs,B.1 _ _ bj⟩;rcases List.mem_cons.1 i with rfl | i
      ·exact .inl (t8.uniq (Own.tag R.1))
      ·exact .inr (t8.uniq (bg.tag R.2.1 y i))
  ·rw [if_pos hg];exact af.yes (by decide) (.inl ⟨.inl hg,⟨2,by decide,rfl⟩,B⟩)
 ·refine aa.use (yy (h.fe.ext B) name _) ?_;rintro bk bm ⟨rfl,rfl⟩ bo;refine ⟨_,rfl,?_,rfl⟩;congr 3;by_cases h2:aN name=true <;> by_cases h3:most<=16 <;> simp [h2,h3,show 1<=most from h1]
 ·refine aa.use (yy (h.fe.ext B) name _) ?_;rintro bk bm ⟨rfl,rfl⟩ bo;refine ⟨_,rfl,?_,rfl⟩;congr 3;exact propext ⟨fun _ h=>h1 h.2.1,fun _=>by simp⟩
end
end
section
open Go.Am Go.aq Go.aB Go.bq
section
variable {F Fc Fs:List Nat} {s:AS} {p pc ps n:Nat} {sec:List Int} {f:List UInt8->Option Dv} {c:dX} {x:aF}
theorem Ut {s:AS} {l:Nat} {k:Int} (h:Am.Own s l [.int .i64 k]) (m:gj) (v:HN):aa Tryz.prog lU [.agg (ep m),.agg (rZ v),.ptr (some (l,0))] s fun r s'=>r=.bool true/\Am.Own s' l [.int .i64 (IntKind.wrap .i64 (k+1))]/\bB [l] s s':=by
 refine aa.pre fun i=>AI _ _ _ _ _ ⟨bL m,aj.intro i rfl fun l1 s2 b=>⟨nH v,aj.intro b.wf rfl fun l3 s4 c=>?_⟩⟩;have d:=b.ext.trans c.ext;have e:=h.ext d;exact ⟨k,by rw [e.at.ak];rfl,bC.own c.wf e (by simp) fun s' P=>⟨rfl,P.at,d.mut.trans P.mut⟩⟩
noncomputable def Uu (name:List UInt8) (d:Dv) (c:dX) (x:aF):Nat:=(scan (gS name d.cur x) (fun _=>false) ((pV c).drop d.place) 0).1.length
theorem VX (h:N4 F Fc Fs s p pc ps sec f n c x) {name:List UInt8} (D:aN name=true) {d:Dv} (hf:f name=some d) :
  aa Tryz.prog iD [.ptr (some (p,0)),.str name,.ptr (some (pc,0)),.ptr (some (ps,0))] s fun r s'=>r=.aQ [.int .i64 (Uu name d c x:Nat),.int .i64 0]/\Ext s s':=by
 refine aa.pre fun hw=>DT _ _ _ _ _ _ ⟨fun vs s'=>vs=[.bool false]/\Ext s s'/\aJ s',?_,HU h (Ext.refl _)⟩;rintro b s3 ⟨hb,k,w3⟩;obtain rfl:b=false:=by simpa using hb
 refine af.no rfl ?_;refine aa.use (yy (h.fe.ext k) name true) ?_;rintro v4 O ⟨rfl,rfl⟩ W;rw [D,hf];refine ⟨_,rfl,af.no rfl ?_⟩;have C:∀ y∈F,O.h y≠none:=fun y i=>by
  cases Q:s.h y with
  | none=>exact absurd Q (h.th y i)
  | some o=>rw [k.1 _ _ Q];simp
 obtain ⟨m,sv,hm,rfl,R,op,_,z,_⟩:=(h.fe.ext k).dev C hf;obtain ⟨S,U⟩:=h.pl _ _ hf;refine aj.intro W rfl fun G s8 A=>bC.own A.wf A.own (by simp) fun s9 H=>?_;have X:Am.Own s9 G [.int .i64 0]:=H.at;have B:Ext O s9:=Ext.wr A.ext A.no H.mut;have I:∀ y∈[G],y ∉ Fc/\y ∉ Fs/\y≠m.l:=fun y i=>by
  obtain rfl:=List.mem_singleton.1 i;have D:s.h y=none:=k.none A.no;refine ⟨fun K=>h.tc _ K D,fun K=>h.ts _ K D,fun e=>?_⟩;have:=A.no;rw [e,R.1] at this;cases this
 have Y:=h.ln;refine ⟨_,by rw [(op.ext B).at.ak];rfl,_,z _ B,?_⟩;refine aa.use (QO (s0:=s9) (l:=m.l) (pl:=m.d.place) (cur:=m.d.cur) (stop:=fun _=>false) (J:=fun d s'=>(Am.Own s' G [.int .i64 (d.length:Nat)]/\bB [G] s9 s')/\aJ s') m.len h.bl (by omega) h.sz h.nl (by omega) (fun d s' j=>j.2) (fun d a b j e w=>⟨⟨j.1.1.ext e,j.1.2.trans e.mut⟩,w⟩) (fun d s' j=>⟨m.hv,(R.1.ext B).mut j.1.2 fun hm=>(I _ hm).2.2 rfl⟩) (fun d s' j=>(h.ca.ext (k.trans B)).mut j.1.2 fun y i=>(I y i).1) (fun d s' j=>(h.se.ext (k.trans B)).mut j.1.2 fun y i=>(I y i).2.1) ?_ ⟨⟨X,bB.refl _ _⟩,H.wf⟩) ?_
 ·rintro d s' m' v ⟨⟨L,M⟩,w'⟩ gE Z;refine (Ut L m' v).mono ?_;rintro r s2 ⟨rfl,o2,m2⟩;refine ⟨rfl,fun w=>⟨⟨?_,M.trans m2⟩,w⟩⟩;rw [uJ (by omega)] at o2;simpa using o2
 ·rintro ab fH ⟨d,rfl,hd,⟨L,M⟩,_⟩ ad;refine ⟨_,rfl,(d.length:Nat),by rw [L.at.ak];rfl,?_,Ext.Vr (k.trans B) (fun y i=>by obtain rfl:=List.mem_singleton.1 i;exact k.none A.no) M⟩;rw [Uu,<- hd,List.length_map]
def N5 (sec:List Int) (dev:List UInt8) (b:List Int) (v:List Int):Prop:=(b=[]/\v=dx)\/(Yx v/\uM v=true/\b=Cm sec dev v)
theorem N5.len {sec:List Int} {dev:List UInt8} {b v:List Int} (h:N5 sec dev b v):v.length=16:=by
 rcases h with ⟨_,rfl⟩ | ⟨h,_⟩
 ·rfl
 ·exact h.len
theorem XF {s:AS} {sv bv:AV} {sec b v:List Int} (hs:gZ s sv sec) (d:sec.length<=64) {dev:List UInt8} (c:aN dev=true) (hb:gZ s bv b) (i:N5 sec dev b v) :
  aa Tryz.prog pD [sv,.str dev,bv] s fun r s'=>r=.aQ [.agg (v.map (.int .u64)),.int .i64 0]/\Ext s s':=by
 rcases i with ⟨rfl,rfl⟩ | ⟨j,h2,rfl⟩
 ·refine (XA (sv:=sv) hb dev (.inr rfl)).mono ?_;rintro r s' ⟨rfl,e⟩;exact ⟨by rw [if_pos c],e⟩
 ·exact XB hs d dev c j h2 hb
theorem Sg {v:List Int} (hv:v.length=16):aY T oX [(0,.agg (v.map (.int .u64)))]=some (.agg (nK v 0 (.slc none 0 0 true))):=by
 obtain ⟨a,b,c,d,e,f,g,i,j,k,l,m,n,o,p,q,rfl⟩:=Ui hv;rw [qV (pl:=[(0,16),(16,1),(17,1)]) (by kernel_rfl) GS rfl];have r:bN (.agg ([a,b,c,d,e,f,g,i,j,k,l,m,n,o,p,q].map (AV.int .u64)))=some ([a,b,c,d,e,f,g,i,j,k,l,m,n,o,p,q].map (AV.int .u64)):=rfl;simp only [List.map_cons,List.map_nil] at r ⊢;simp only [jQ,AV.cells,r,List.getElem?_cons_zero,List.length_cons,List.length_nil,Nat.zero_add,Nat.reduceAdd,Nat.reduceLeDiff,and_self,if_true,Option.map_some];rfl
set_option maxRecDepth 20000 in
theorem JO (h:mH F s p sec f n) (an:∀ y∈F,s.h y≠none) (hl:sec.length<=64) (name:List UInt8) {bv:AV} {b v:List Int} (hb:gZ s bv b) (hc:aN name=true->f name=none->N5 sec name b v) :
  aa Tryz.prog dU [.ptr (some (p,0)),.str name,bv] s fun r s' =>
   (¬ (aN name=true/\f name=none/\n<64)/\(∃ e:Int,e≠0/\r=.int .i64 e)/\Ext s s') \/
   ((aN name=true/\f name=none/\n<64)/\r=.int .i64 0/\∃ F',mH F' s' p sec (jP f name (some ⟨v,0,[]⟩)) (n+1)/\bB F s s'/\(∀ y∈F',y∈F\/s.h y=none)/\∀ y∈F',s'.h y≠none):=by
 refine aa.pre fun hw=>Av _ _ _ _ _ ?_;refine aa.use (DU h) ?_;rintro v1 s2 ⟨rfl,rfl⟩ w2;refine ⟨_,rfl,af.no rfl ?_⟩;refine aa.use (vX name _) ?_;rintro v4 s5 ⟨rfl,rfl⟩ w5;refine ⟨_,rfl,af.mk (fun hn=>?_) (fun hn=>?_)⟩
 ·have B:aN name=false:=by simpa using hn
  exact .inl ⟨(fun h=>by rw [B] at h;cases h.1),⟨2,by decide,rfl⟩,Ext.refl _⟩
 have B:aN name=true:=by simpa using hn
 obtain ⟨sv,hm,es,k,R,h2,h3,⟨a1,a2⟩,S,c2,c3,c4,c5⟩:=id h;have J:∀ s',Ext s5 s'->dA T aK (.map (some hm)) (.str name) false s'=some (.ptr ((dF es name).map fun m=>(m.l,0))):=fun s' e=>by
  refine ((S.ext e).find vZ name false).trans ?_;cases dF es name <;> rfl
 refine ⟨_,by rw [R.at.ak];rfl,_,J _ (Ext.refl _),_,jq wk _,?_⟩;cases U:dF es name with
 | some m=>exact af.yes rfl (.inl ⟨(fun hh=>by rw [(c3 _ _ U).2] at hh;cases hh.2.1),⟨7,by decide,rfl⟩,Ext.refl _⟩)
 | none =>
  have W:=c4 _ U;refine af.no rfl ⟨sv,by rw [R.at.ak];rfl,?_⟩;have X:=hc B W;have D:=X.len;refine aa.use (XF (a1.sl cg) hl B hb X) ?_;rintro bb bc ⟨rfl,K⟩ ao;refine ⟨_,_,rfl,jK ao (by simp [D]) rfl (cH _ _) fun AJ gl G=>af.no (by decide) ⟨_,by rw [((R.ext K).ext G.ext).at.ak];rfl,?_⟩⟩;have H:=K.trans G.ext;refine ⟨_,(S.ext H).b_ vZ,af.dec (fun bd=>.inl ⟨fun hh=>by omega,⟨5,by decide,rfl⟩,H⟩) (fun be=>?_)⟩;refine ⟨fun q _ w s'=>q=7->∃ l,w=.ptr (some (l,0))/\Am.Own s' l (nK v 0 (.slc none 0 0 true))/\gl.h l=none,fun q _ w=>q=7->∃ l,w=.ptr (some (l,0)),fun q _ w a b e g U=>by obtain ⟨l,x,y,z⟩:=g U;exact ⟨l,x,y.ext e,z⟩,_,by rw [((R.ext K).ext G.ext).at.ak];rfl,_,UQ D G.own.at,_,Sg D,fun mG ar aw _=>⟨?_,aj.intro aw rfl fun Y bh M=>⟨M.ext,(fun _=>⟨Y,rfl,M.own,ar.none M.no⟩),(fun _=>⟨Y,rfl⟩)⟩⟩,⟨.ptr (some (0,0)),fun _=>⟨0,rfl⟩⟩,fun bi Z=>?_⟩
  ·rw [nK,List.all_append,cH];rfl
  obtain ⟨l,rfl⟩:=Z rfl;refine ⟨_,rfl,fun oY a0 a3 hS=>?_⟩;obtain ⟨l',ab,ad,a4⟩:=hS.1 rfl;simp only [AV.ptr.injEq,Option.some.injEq,Prod.mk.injEq,and_true] at ab;subst ab;have d:=H.trans a0
  let md:Se:=⟨l,.slc none 0 0 true,⟨v,0,[]⟩,[],D⟩
  refine eR.pq vZ a3 (S.ext d) name md fun a5 es' k' hM j bj C=>.inr ⟨⟨B,W,by omega⟩,rfl,?_⟩;have i:∀ {y g:Nat},Tag oY y g->y≠hm:=fun t e=>Tag.JN (S.ext d).obj (e ▸ t);have ae:s5.h l=none:=H.none a4;have hC:mH (l::F) a5 p sec (jP f name (some ⟨v,0,[]⟩)) (n+1):=by
   refine ⟨sv,hm,es',k',(R.ext d).mut C (by simpa using i (Own.tag (R.ext d))),by simp [h2],by simp [h3],⟨(a1.ext d).mut C fun y c hx=>i (bg.tag (a1.ext d) y c) (by simpa using hx),fun y c=>by simp [a2 y c]⟩,hM,?_,fun a y c=>?_,fun a o=>?_,fun a b y z c A al=>?_⟩
   ·rw [FH S.nd hM.nd j,U,<- c2];rfl
   ·rw [j] at c;by_cases o:a=name
    ·rw [if_pos o] at c;obtain rfl:=Option.some.inj c;exact ⟨⟨ad.mut C (by simpa using i (Own.tag ad)),bg.nil,rfl,fun y c=>by simp [fO,ax,md] at c;simp [c]⟩,by rw [jP,if_pos o]⟩
    ·rw [if_neg o] at c;obtain ⟨hE,a6⟩:=c3 a y c;have I:=(hE.mut (L:=[]) d.mut (by simp)).mut C fun z A O=>by
      obtain rfl:=List.mem_singleton.1 A;rcases List.mem_cons.1 O with e | O
      ·exact i (Own.tag (hE.1.ext d)) e.symm
      ·exact i (bg.tag (hE.2.1.ext d) _ O) rfl
     exact ⟨⟨I.1,I.2.1,I.2.2.1,fun z A=>List.mem_cons_of_mem _ (I.2.2.2 z A)⟩,by rw [jP,if_neg o];exact a6⟩
   ·rw [j] at o;by_cases Q:a=name
    ·rw [if_pos Q] at o;cases o
    ·rw [if_neg Q] at o;rw [jP,if_neg Q];exact c4 a o
   ·have old:∀ (b:List UInt8) (y:Se),dF es b=some y->∀ z,z∈fO md->z ∉ fO y:=fun b y c z A a7=>by
     simp only [fO,ax,md,List.mem_cons,List.not_mem_nil,or_false] at A;subst A;exact an z ((c3 b y c).1.2.2.2 z a7) ae
    rw [j] at c A;by_cases o:a=name
    ·rw [if_pos o] at c;obtain rfl:=Option.some.inj c;rw [if_neg (by rw [<- o];exact Ne.symm al)] at A;exact old b z A
    ·rw [if_neg o] at c;by_cases am:b=name
     ·rw [if_pos am] at A;obtain rfl:=Option.some.inj A;exact fun w hw a8=>old a y c w a8 hw
     ·rw [if_neg am] at A;exact c5 a b y z c A al
  obtain ⟨F0,a9,a',ba⟩:=hC.tight;refine ⟨F0,a9,d.mut.trans (C.mono fun y c=>by obtain rfl:=List.mem_singleton.1 c;exact h3),fun y c=>?_,ba⟩;rcases List.mem_cons.1 (a' y c) with rfl | h
  ·exact .inr ae
  ·exact .inl h
end
end
section
open Go.Am Go.aq Go.aB Go.bq
theorem Sh {s:AS} {v:AV} {l:List HN} (b:Sl rZ 16 s v l) (i:l.length<=2 ^ 30):aa Tryz.prog eL [v] s fun r s'=>aW rZ 16 [] s s' r l:=by
 refine aa.pre fun j=>nU _ _ _ ?_;have main:aS (de T bz 0 []) fun k=>aj (.cells k 0 false) s fun l3 s4=>ig (aG T bz bz (.slc (some (l3,0)) 0 0 true) v s4) fun m s6=>aW rZ 16 [] s s6 m l:=by
  refine ⟨_,xl iK,aj.intro j rfl fun l3 s4 F=>?_⟩;refine aW.iq iK cR nH F.wf (aW.start (M:=[]) F.ext.mut) (by simp) (b.ext F.ext) (by simpa using i) dW fun v' s' g _ _=>?_;simpa using g
 rcases b with ⟨rfl,_,d⟩ | ⟨a,c,e,rfl,hlen,h3⟩
 ·refine ⟨_,pA dW _ _ _ _,af.no rfl main⟩
 ·refine ⟨_,pz dW _ _ _ _ _ _ _ _,af.mk (fun h=>?_) (fun _=>main)⟩;have:a=none:=by simpa using h
  subst this;have:l=[]:=by
   rcases h3 with h3 | ⟨la,o,C,h,_⟩
   ·exact List.length_eq_zero_iff.1 h3
   ·cases h
  subst this;exact aW.nil
theorem Uv {cur b:List Int} (h:cur.length=16) (c:b.length=16) (pl:Int) (hv:AV):qQ (nK cur pl hv) 0 (b.map (.int .u64))=nK b pl hv:=by
 apply List.ext_getElem?;intro k;rw [kF _ _ _ _ (by rw [nL h];simp [c])];simp only [List.length_map,c,Nat.zero_add,Nat.zero_le,true_and,Nat.sub_zero,nK];by_cases d:k<16
 ·rw [if_pos d,List.getElem?_append_left (by simp [c];omega)]
 ·rw [if_neg d,List.getElem?_append_right (by simp [h];omega),List.getElem?_append_right (by simp [c];omega)];simp [h,c]
section
variable {F:List Nat} {s:AS} {p n:Nat} {sec:List Int} {f:List UInt8->Option Dv}
theorem Si (h:mH F s p sec f n) (S:∀ y∈F,s.h y≠none) (hl:sec.length<=64) (name:List UInt8) (hm:∀ d,f name=some d->uM d.cur=true) :
  aa Tryz.prog iP [.ptr (some (p,0)),.str name] s fun r s' =>
   ((aN name=false\/f name=none)/\(∃ e:Int,e≠0/\r=.aQ [.slc none 0 0 true,.int .i64 e])/\s'=s) \/
   (aN name=true/\∃ d w s1,f name=some d/\r=.aQ [w,.int .i64 0]/\aW qv 1 [] s1 s' w (Cm sec name d.cur)/\mH F s1 p sec (jP f name none) (n - 1)/\bB F s s1/\∀ y∈F,s1.h y≠none):=by
 refine aa.pre fun hw=>AF _ _ _ _ ?_;refine aa.use (yy h name true) ?_;rintro v1 s2 ⟨rfl,rfl⟩ w2;refine ⟨_,rfl,?_⟩;cases hn:aN name with
 | false=>exact af.yes rfl (.inl ⟨.inl rfl,⟨2,by decide,rfl⟩,rfl⟩)
 | true =>
  cases hf:f name with
  | none=>exact af.yes rfl (.inl ⟨.inr rfl,⟨7,by decide,rfl⟩,rfl⟩)
  | some d =>
   refine af.no rfl ?_;obtain ⟨sv,sU,es,k,R,h2,h3,⟨a1,a2⟩,U,c2,W,Z,c5⟩:=id h;cases K:dF es name with
   | none=>rw [Z _ K] at hf;cases hf
   | some m =>
    obtain ⟨hD,L⟩:=W _ _ K;rw [hf] at L;obtain rfl:=Option.some.inj L;have G:dA T aK (.map (some sU)) (.str name) false s2=some (.ptr (some (m.l,0))):=by
     have:=U.find vZ name false;rw [K] at this;exact this
    refine ⟨_,by rw [R.at.ak];rfl,_,G,_,by rw [R.at.ak];rfl,?_⟩;refine eR.del vZ w2 U name K fun B es' hM j hlen ab x=>?_;have i:∀ {y g:Nat},Tag s2 y g->y≠sU:=fun t e=>Tag.JN U.obj (e ▸ t);have M:=R.mut x (by simpa using i (Own.tag R));have C:=a1.mut x fun y c hx=>i (bg.tag a1 y c) (by simpa using hx);have D:∀ a y,dF es a=some y->HR F B y:=fun a y c=>by
     obtain ⟨X,_⟩:=W a y c;exact X.mut x fun z H I=>by
      obtain rfl:=List.mem_singleton.1 H;rcases List.mem_cons.1 I with e | I
      ·exact i (Own.tag X.1) e.symm
      ·exact i (bg.tag X.2.1 _ I) rfl
    have dm:=D _ _ K;refine ⟨sv,by rw [M.at.ak];rfl,_,dm.1.at.aD (by rw [nL m.len];omega),?_⟩;rw [Cw m.len];refine aa.use (NU (C.sl cg) hl name m.len hn (hm _ hf)) ?_;rintro ad iF ⟨w,rfl,g⟩ ae;have al:Ext B iF:=g.eo.ext;refine ⟨_,_,rfl,.inr ⟨rfl,m.d,w,B,rfl,rfl,g,?_,?_,?_⟩⟩
    ·refine (mH.mk ⟨sv,sU,es',k,M,h2,h3,⟨C,a2⟩,hM,by omega,fun a y c=>?_,fun a A=>?_,fun a b y z c H Y=>?_⟩:mH F B p sec (jP f name none) (n - 1))
     ·rw [j] at c;by_cases A:a=name
      ·rw [if_pos A] at c;cases c
      ·rw [if_neg A] at c;exact ⟨D a y c,by rw [jP,if_neg A];exact (W a y c).2⟩
     ·rw [j] at A;by_cases J:a=name
      ·rw [jP,if_pos J]
      ·rw [if_neg J] at A;rw [jP,if_neg J];exact Z a A
     ·rw [j] at c H;by_cases A:a=name
      ·rw [if_pos A] at c;cases c
      ·by_cases hb:b=name
       ·rw [if_pos hb] at H;cases H
       ·rw [if_neg A] at c;rw [if_neg hb] at H;exact c5 a b y z c H Y
    ·exact x.mono fun y c=>by obtain rfl:=List.mem_singleton.1 c;exact h3
    ·intro y c;by_cases O:y=sU
     ·subst O;rw [hM.obj];simp
     ·cases Q:s2.h y with
      | none=>exact absurd Q (S y c)
      | some o=>rw [x.1 y o (by simpa using O) Q];simp
def sj (d:Dv) (k:Nat):Dv:=if k=0 then d else ⟨nY d.cur (d.hand.getD (k - 1) []),d.place,d.hand.drop k⟩
def YQ (F : List Nat) (s : AS) (p n : Nat) (sec : List Int) (f : List UInt8 -> Option Dv) (name : List UInt8) (k : Int) (r : AV) (s' : AS) : Prop :=
      ((aN name = false \/ k < 0 \/ (∀ d, f name = some d -> k > d.hand.length)) /\ (∃ e : Int, e ≠ 0 /\ r = .aQ [.slc none 0 0 true, .int .i64 e]) /\ s' = s) \/
      (aN name = true /\ ∃ (d : Dv) (j : Nat) (w : AV) (F' : List Nat) (s1 : AS), k = j /\ f name = some d /\ j <= d.hand.length /\ r = .aQ [w, .int .i64 0] /\ aW qv 1 [] s1 s' w (Cm sec name (sj d j).cur) /\ mH F' s1 p sec (jP f name (some (sj d j))) n /\ Sf F s s1 /\ (∀ y ∈ F', y ∈ F \/ s.h y = none) /\ ∀ y ∈ F', s1.h y ≠ none)
set_option maxRecDepth 20000 in
theorem XG (h:mH F s p sec f n) (aw:∀ y∈F,s.h y≠none) (hl:sec.length<=64) (name:List UInt8) (k:Int) (hm:∀ d,f name=some d->∀ j,j<=d.hand.length->uM (sj d j).cur=true) (hh:∀ d,f name=some d->d.hand.length<=2 ^ 28) :
  aa Tryz.prog lJ [.ptr (some (p,0)),.str name,.int .i64 k] s (YQ F s p n sec f name k):=by
 refine aa.pre fun hw=>Fq _ _ _ _ _ ?_;refine aa.use (yy h name _) ?_;rintro v1 s2 ⟨rfl,rfl⟩ w2;refine ⟨_,rfl,?_⟩;by_cases a0:k<0
 ·have S:decide (k>=0)=false:=by rw [decide_eq_false_iff_not];omega
  rw [S,show (!aN name||!false)=true by simp];exact af.yes rfl (.inl ⟨.inr (.inl a0),⟨2,by decide,rfl⟩,rfl⟩)
 have hk:k>=0:=by omega
 obtain ⟨j,rfl⟩:=Int.eq_ofNat_of_zero_le hk;have S:decide ((j:Int)>=0)=true:=decide_eq_true hk;rw [S];cases hn:aN name with
 | false=>exact af.yes rfl (.inl ⟨.inl hn,⟨2,by decide,rfl⟩,rfl⟩)
 | true =>
  cases hf:f name with
  | none=>exact af.yes rfl (.inl ⟨.inr (.inr fun d hd=>by rw [hf] at hd;cases hd),⟨7,by decide,rfl⟩,rfl⟩)
  | some d =>
   refine af.no rfl ?_;obtain ⟨m,sv,sU,rfl,r,op,⟨a1,bx⟩,U,a2,a3,Z⟩:=h.dev aw hf;have b0:m.H.length=m.d.hand.length:=by rw [<- r.2.2.1,List.length_map]
   have b1:=hh _ hf;have a4:=nL m.len m.d.place m.hv;have ab:=FR m.len m.d.place m.hv;have sl:=r.2.1.sl cR;refine ⟨_,by rw [op.at.ak];rfl,_,U _ (Ext.refl _),m.hv,by rw [r.1.at.ak];exact ab.2,_,sl.b_ dW _,af.dec (fun b2=>.inl ⟨.inr (.inr fun d' hd'=>by rw [hf] at hd';obtain rfl:=Option.some.inj hd';omega),⟨6,by decide,rfl⟩,rfl⟩) (fun hle=>?_)⟩;have hj:j<=m.d.hand.length:=by omega
   have kl:m.l∈fO m:=by simp [fO]
   refine ⟨fun vs s'=>Ext s2 s'/\aJ s'/\j=0\/aJ s'/\j≠0/\bB [m.l] s2 s'/\∃ pY ,Am.Own s' m.l (nK (sj m.d j).cur m.d.place pY)/\bg rZ 16 s' pY (m.H.drop j)/\∀ y∈ax pY,s2.h y=none,?_,af.dec (fun bs=>?_) (fun J=>.inl ⟨Ext.refl _,w2,by omega⟩)⟩
   ·let PP:AV->AS->Prop:=fun v gl=>∃ (w:AV) (F':List Nat) (s1:AS),v=.aQ [w,.int .i64 0]/\aW qv 1 [] s1 gl w (Cm sec name (sj m.d j).cur)/\mH F' s1 p sec (jP f name (some (sj m.d j))) n/\Sf F s2 s1/\(∀ y∈F',y∈F\/s2.h y=none)/\∀ y∈F',s1.h y≠none
    have fin:∀ (bQ:AS) (pY:AV) (H':List HN),aJ bQ->bB (fO m) s2 bQ->Am.Own bQ m.l (nK (sj m.d j).cur m.d.place pY)->bg rZ 16 bQ pY H'->H'.map HN.v=(sj m.d j).hand->(sj m.d j).cur.length=16->(sj m.d j).place=m.d.place->(∀ y∈ax pY,y∈fO m\/s2.h y=none) ->
      ah (some (p,0)) fun lN A=>dn (ak bQ lN A) fun nO=>ah (some (m.l,0)) fun B C=>aS (aD bQ B C 16) fun x=>aa Tryz.prog fZ [nO,.str name,.agg x] bQ fun v20 gl=>∃ b:AV,∃ c:Int,v20=.aQ [b,.int .i64 c] /\
       PP (.aQ [b,.int .i64 c]) gl:=by
     intro bQ pY H' K mm ho hg hH L a5 ad;have ae:=op.mut mm a2;have W:=a1.mut mm a3;refine ⟨sv,by rw [ae.at.ak];rfl,_,ho.at.aD (by rw [nL L];omega),?_⟩;rw [Cw L];refine aa.use (NU (W.sl cg) hl name L hn (hm _ hf j hj)) ?_;rintro v20 gl ⟨w,rfl,g⟩ b3;obtain ⟨F',a6,a7,a8⟩:=Z bQ ⟨m.l,pY,sj m.d j,H',L⟩ rfl mm (by rw [a5];exact ho) hg hH ad;refine ⟨_,_,rfl,w,F',bQ,rfl,g,a6,⟨fO m,mm,fun y D=>⟨r.2.2.2 y D,fun g t=>?_⟩⟩,a7,a8⟩;rcases List.mem_cons.1 D with rfl | D
     ·exact .inl (t.uniq (Own.tag r.1))
     ·exact .inr (t.uniq (bg.tag r.2.1 y D))
    have conv:∀ {P:AV->AS->Prop} (bQ:AS),(ah (some (p,0)) fun lN A=>dn (ak bQ lN A) fun nO=>ah (some (m.l,0)) fun B C=>aS (aD bQ B C 16) fun x=>aa Tryz.prog fZ [nO,.str name,.agg x] bQ fun v20 gl=>∃ b:AV,∃ c:Int,v20=.aQ [b,.int .i64 c]/\P (.aQ [b,.int .i64 c]) gl)->∀ {P':AV->AS->Prop},(∀ v s,P v s->P' v s)->ah (some (p,0)) fun lN A=>dn (ak bQ lN A) fun nO=>ah (some (m.l,0)) fun B C=>aS (aD bQ B C 16) fun x=>aa Tryz.prog fZ [nO,.str name,.agg x] bQ fun v20 gl=>∃ b:AV,∃ c:Int,v20=.aQ [b,.int .i64 c]/\P' (.aQ [b,.int .i64 c]) gl:=by
     intro P bQ hq P' hP;obtain ⟨nO,al,x,am,hc⟩:=hq;refine ⟨nO,al,x,am,hc.mono ?_⟩;rintro v20 gl ⟨b,c,e,hp⟩;exact ⟨b,c,e,hP _ _ hp⟩
    rintro bQ (⟨X,K,rfl⟩ | ⟨K,M,a9,pY,a',W,ba⟩)
    ·have R:sj m.d 0=m.d:=rfl;refine conv (P:=PP) bQ (fin bQ m.hv m.H K X.mut (by rw [R];exact r.1.ext X) (r.2.1.ext X) (by rw [R];exact r.2.2.1) (by rw [R];exact m.len) (by rw [R]) fun y D=>.inl (by simp [fO,D])) ?_
     rintro v s ⟨w,F',s1,h1,h2⟩;exact .inr ⟨hn,m.d,0,w,F',s1,rfl,hf,hj,h1,h2⟩
    ·have R:sj m.d j=⟨nY m.d.cur (m.d.hand.getD (j - 1) []),m.d.place,m.d.hand.drop j⟩:=by rw [sj,if_neg M]
     refine conv (P:=PP) bQ (fin bQ pY (m.H.drop j) K (a9.mono (by simp [kl])) a' W (by rw [R,List.map_drop,r.2.2.1]) (by rw [R];exact dL _ _) (by rw [R]) fun y D=>.inr (ba y D)) ?_
     rintro v s ⟨w,F',s1,h1,h2⟩;exact .inr ⟨hn,m.d,j,w,F',s1,rfl,hf,hj,h1,h2⟩
   ·have M:j≠0:=by omega
    obtain ⟨y,D⟩:=cF (l:=m.H) (i:=j - 1) (by omega);have bb:m.d.hand.getD (j - 1) []=y.v:=by rw [List.getD_eq_getElem?_getD,<- r.2.2.1,List.getElem?_map,D];rfl
    obtain ⟨la,o,k8,k9⟩:=sl.ix (by decide) cR dW uq D;have bc:IntKind.wrap .i64 ((j:Int) - 1)=((j - 1:Nat):Int):=by rw [a_ (by omega)];omega
    rw [bc];refine ⟨_,r.1.at.aD (by omega),m.hv,by rw [r.1.at.ak];exact ab.2,la,o,k8 _,_,(k9 _ (Ext.refl _)).2,?_⟩;rw [Cw m.len];refine aa.use (Ue m.len y.len _) ?_;rintro b4 lC ⟨rfl,G⟩ bd;refine ⟨_,rfl,⟨cH _ _,by simp [dL]⟩,bC.own bd (r.1.ext G) (by simp [dL,a4]) fun be O=>?_⟩;have Y:Am.Own be m.l (nK (nY m.d.cur y.v) m.d.place m.hv):=by
     have:=O.at;rw [Uv m.len (dL _ _)] at this;exact this
    have an:=FR (dL m.d.cur y.v) m.d.place m.hv;have tl:∀ z∈[m.l],∀ g,Tag lC z g->g=0:=fun z J g t=>by
     obtain rfl:=List.mem_singleton.1 J;exact t.uniq (Own.tag (r.1.ext G))
    have bh:=bg.ek (r.2.1.ext G) O.mut fun z J g t=>by rw [tl z J g t];decide
    obtain ⟨bi,bj,bk⟩:=(bh.sl cR).rest cR dW uq (i:=j) (by omega) .i64;refine ⟨m.hv,by rw [Y.at.ak];exact an.2,bi,bj,?_⟩;refine aa.use (Sh bk (by simp;omega)) ?_;rintro ao bl I bm;have ar:=Y.ext I.eo.ext;refine cP I.jJ.2 rH (bC.own bm ar (by rw [nL (dL _ _)];simp) fun b5 Q=>.inr ⟨Q.wf,M,?_,ao,?_,?_,?_⟩)
    ·exact ((G.mut.trans O.mut).trans I.eo.ext.mut).trans Q.mut
    ·have:=Q.at;rw [fA,Nat.zero_add,(HS (dL _ _) _ 0 _ ao).2] at this;rw [sj,if_neg M,bb];exact this
    ·have t44:∀ z∈[m.l],∀ g,Tag bl z g->g=0:=fun z J g t=>by
      obtain rfl:=List.mem_singleton.1 J;exact t.uniq (Own.tag ar)
     exact bg.ek I.uQ Q.mut fun z J g t=>by rw [t44 z J g t];decide
    ·intro z J;have:=I.new z J;cases hq:s2.h z with
     | none=>rfl
     | some ob =>
      have bo:z≠m.l:=fun e=>by subst e;rw [Y] at this;cases this
      rw [O.eq z bo,G.1 z ob hq] at this;cases this
end
end
section
open Go.Am Go.aq Go.aB Go.bq
def Ap (s0 s:AS) (Rs:List (List Nat)):Prop:=Ext s0 s/\Rs.Pairwise Dj/\∀ R∈Rs,∀ y∈R,s0.h y=none/\s.h y≠none
section
variable {s0 s s':AS} {Rs A B:List (List Nat)} {R R':List Nat}
theorem Ext.there {y:Nat} (e:Ext s s') (h:s.h y≠none):s'.h y≠none:=by
 cases b:s.h y with
 | none=>exact absurd b h
 | some o=>rw [e.1 y o b];simp
theorem Ap.ext (h:Ap s0 s Rs) (e:Ext s s'):Ap s0 s' Rs:=⟨h.1.trans e,h.2.1,fun R b y c=>⟨(h.2.2 R b y c).1,Ext.there e (h.2.2 R b y c).2⟩⟩
theorem Ap.pq (h:Ap s0 s (A++R::B)) (m:bB R s s') (p:∀ y∈R',y∈R\/s.h y=none) (ht:∀ y∈R',s'.h y≠none):Ap s0 s' (A++R'::B):=by
 obtain ⟨e,hp,n⟩:=h;obtain ⟨p1,C,r⟩:=List.pairwise_append.1 hp;obtain ⟨D,F⟩:=List.pairwise_cons.1 C;have w:∀ y∈R,s0.h y=none/\s.h y≠none:=n R (by simp);have e':Ext s0 s':=Ext.Vr e (fun y i=>(w y i).1) m;have j:∀ Q,Q∈A\/Q∈B->Dj Q R/\∀ y∈Q,s0.h y=none/\s.h y≠none:=fun Q c=>by
  rcases c with c | c
  ·exact ⟨r Q c R (by simp),n Q (by simp [c])⟩
  ·exact ⟨(D Q c).symm,n Q (by simp [c])⟩
 have l:∀ Q,Q∈A\/Q∈B->Dj R' Q:=fun Q c=>Dj.step (j Q c).1.symm (fun y i=>((j Q c).2 y i).2) p;refine ⟨e',List.pairwise_append.2 ⟨p1,List.pairwise_cons.2 ⟨fun Q c=>l Q (.inr c),F⟩,fun a x b hb=>?_⟩,fun Q c y i=>?_⟩
 ·rcases List.mem_cons.1 hb with rfl | hb
  ·exact (l a (.inl x)).symm
  ·exact r a x b (by simp [hb])
 ·have k:Q=R'\/(Q∈A\/Q∈B):=by
   simp only [List.mem_append,List.mem_cons] at c;rcases c with h | h | h
   ·exact .inr (.inl h)
   ·exact .inl h
   ·exact .inr (.inr h)
  rcases k with rfl | k
  ·refine ⟨?_,ht y i⟩;rcases p y i with h | h
   ·exact (w y h).1
   ·exact e.none h
  ·obtain ⟨d,t⟩:=j Q k;refine ⟨(t y i).1,?_⟩;cases z:s.h y with
   | none=>exact absurd z (t y i).2
   | some o=>rw [m.1 y o (fun hm=>d y i hm) z];simp
theorem Ap.new (h:Ap s0 s Rs) (e:Ext s s') (d:∀ y∈R,s.h y=none) (ht:∀ y∈R,s'.h y≠none):Ap s0 s' (R::Rs):=by
 have i:=h.ext e;refine ⟨i.1,List.pairwise_cons.2 ⟨fun Q b y c j=>(h.2.2 Q b y j).2 (d y c),h.2.1⟩,fun Q b y c=>?_⟩;rcases List.mem_cons.1 b with rfl | b
 ·exact ⟨h.1.none (d y c),ht y c⟩
 ·exact i.2.2 Q b y c
theorem Ap.obj (h:Ap s0 s Rs) {l:Nat} {cs:List AV} (F:rm s s' l (.cells cs 0 false)):Ap s0 s' ([l]::Rs) :=
 h.new F.ext (fun y b=>by obtain rfl:=List.mem_singleton.1 b;exact F.no) fun y b=>by
  obtain rfl:=List.mem_singleton.1 b;rw [F.own];simp
theorem Ap.perm {Y5:List (List Nat)} (h:Ap s0 s Rs) (p:Rs.Perm Y5):Ap s0 s Y5 :=
 ⟨h.1,(p.pairwise_iff fun {a b} d=>Dj.symm d).1 h.2.1,fun R c=>h.2.2 R (p.mem_iff.2 c)⟩
theorem Ap.ij (h:Ap s0 s Rs) (i j:Nat) {P Q:List Nat} (hi:Rs[i]? = some P) (hj:Rs[j]? = some Q) (d:i≠j):Dj P Q:=by
 have hp:=h.2.1;obtain ⟨b,rfl⟩:=List.getElem?_eq_some_iff.1 hi;obtain ⟨c,rfl⟩:=List.getElem?_eq_some_iff.1 hj;rcases Nat.lt_or_gt_of_ne d with e | e
 ·exact List.pairwise_iff_getElem.1 hp i j b c e
 ·exact (List.pairwise_iff_getElem.1 hp j i c b e).symm
theorem Ap.th (h:Ap s0 s Rs) (i:Nat) {P:List Nat} (hi:Rs[i]? = some P):∀ y∈P,s.h y≠none:=fun y b=>(h.2.2 P (List.mem_of_getElem? hi) y b).2
theorem Ap.tail (h:Ap s0 s (R::Rs)):Ap s0 s Rs:=⟨h.1,(List.pairwise_cons.1 h.2.1).2,fun Q b=>h.2.2 Q (by simp [b])⟩
end
abbrev Uw:AV:=.slc none 0 0 true
structure Wq (hd:AV) (s:AS) (l pc ps pv pw:Nat) (Fc Fs Fv Fw:List Nat) (c:dX) (x:aF) (v:List Int) (n:Nat) (y:aF):Prop where
 own:Am.Own s l [.ptr (some (pc,0)),.ptr (some (ps,0)),.ptr (some (pv,0)),.ptr (some (pw,0))]
 ca:gx Fc s pc c
 se:ic Fs s ps x
 rc:Fm hd Fv s pv v n
 re:oU Fw s pw y
section
variable {hd:AV} {s0 s s':AS} {l pc ps pv pw n n':Nat} {Fc Fs Fv Fw F':List Nat} {c c':dX} {x x' y y':aF} {v v':List Int} {Gs:List (List Nat)}
theorem Wq.mut {L:List Nat} (h:Wq hd s l pc ps pv pw Fc Fs Fv Fw c x v n y) (m:bB L s s') (d0:Dj L [l]) (d1:Dj L Fc) (d2:Dj L Fs) (d3:Dj L Fv) (d4:Dj L Fw):Wq hd s' l pc ps pv pw Fc Fs Fv Fw c x v n y :=
 ⟨h.own.mut m fun hm=>d0 l hm (by simp),h.ca.mut m d1,h.se.mut m d2,h.rc.mut m d3,h.re.mut m d4⟩
theorem Wq.ext (h:Wq hd s l pc ps pv pw Fc Fs Fv Fw c x v n y) (e:Ext s s'):Wq hd s' l pc ps pv pw Fc Fs Fv Fw c x v n y :=
 h.mut (L:=[]) e.mut (fun _ h=>by cases h) (fun _ h=>by cases h) (fun _ h=>by cases h) (fun _ h=>by cases h) (fun _ h=>by cases h)
theorem Wq.Ym (h:Wq hd s l pc ps pv pw Fc Fs Fv Fw c x v n y) (A:Ap s0 s ([l]::Fc::Fs::Fv::Fw::Gs)) (m:bB Fc s s') (b:gx F' s' pc c') (d:∀ y∈F',y∈Fc\/s.h y=none) (ht:∀ y∈F',s'.h y≠none) :
  Wq hd s' l pc ps pv pw F' Fs Fv Fw c' x v n y/\Ap s0 s' ([l]::F'::Fs::Fv::Fw::Gs) :=
 ⟨⟨h.own.mut m fun hm=>A.ij 1 0 rfl rfl (by decide) l hm (by simp),b,h.se.mut m (A.ij 1 2 rfl rfl (by decide)),h.rc.mut m (A.ij 1 3 rfl rfl (by decide)),h.re.mut m (A.ij 1 4 rfl rfl (by decide))⟩,Ap.pq (A:=[[l]]) A m d ht⟩
theorem Wq.XH (h:Wq hd s l pc ps pv pw Fc Fs Fv Fw c x v n y) (A:Ap s0 s ([l]::Fc::Fs::Fv::Fw::Gs)) (m:bB Fs s s') (b:ic F' s' ps x') (d:∀ y∈F',y∈Fs\/s.h y=none) (ht:∀ y∈F',s'.h y≠none) :
  Wq hd s' l pc ps pv pw Fc F' Fv Fw c x' v n y/\Ap s0 s' ([l]::Fc::F'::Fv::Fw::Gs) :=
 ⟨⟨h.own.mut m fun hm=>A.ij 2 0 rfl rfl (by decide) l hm (by simp),h.ca.mut m (A.ij 2 1 rfl rfl (by decide)),b,h.rc.mut m (A.ij 2 3 rfl rfl (by decide)),h.re.mut m (A.ij 2 4 rfl rfl (by decide))⟩,Ap.pq (A:=[[l],Fc]) A m d ht⟩
theorem Wq.Yn (h:Wq hd s l pc ps pv pw Fc Fs Fv Fw c x v n y) (A:Ap s0 s ([l]::Fc::Fs::Fv::Fw::Gs)) (m:bB Fv s s') {hd':AV} (b:Fm hd' F' s' pv v' n') (d:∀ y∈F',y∈Fv\/s.h y=none) (ht:∀ y∈F',s'.h y≠none) :
  Wq hd' s' l pc ps pv pw Fc Fs F' Fw c x v' n' y/\Ap s0 s' ([l]::Fc::Fs::F'::Fw::Gs) :=
 ⟨⟨h.own.mut m fun hm=>A.ij 3 0 rfl rfl (by decide) l hm (by simp),h.ca.mut m (A.ij 3 1 rfl rfl (by decide)),h.se.mut m (A.ij 3 2 rfl rfl (by decide)),b,h.re.mut m (A.ij 3 4 rfl rfl (by decide))⟩,Ap.pq (A:=[[l],Fc,Fs]) A m d ht⟩
theorem Wq.Yo (h:Wq hd s l pc ps pv pw Fc Fs Fv Fw c x v n y) (A:Ap s0 s ([l]::Fc::Fs::Fv::Fw::Gs)) (m:bB Fw s s') (b:oU F' s' pw y') (d:∀ y∈F',y∈Fw\/s.h y=none) (ht:∀ y∈F',s'.h y≠none) :
  Wq hd s' l pc ps pv pw Fc Fs Fv F' c x v n y'/\Ap s0 s' ([l]::Fc::Fs::Fv::F'::Gs) :=
 ⟨⟨h.own.mut m fun hm=>A.ij 4 0 rfl rfl (by decide) l hm (by simp),h.ca.mut m (A.ij 4 1 rfl rfl (by decide)),h.se.mut m (A.ij 4 2 rfl rfl (by decide)),h.rc.mut m (A.ij 4 3 rfl rfl (by decide)),b⟩,Ap.pq (A:=[[l],Fc,Fs,Fv]) A m d ht⟩
theorem Ux:aY T nW [(0,.int .i64 3),(1,.int .i64 1)]=some (.agg (fU dx (.slc none 0 0 true) (.slc none 0 0 true) (.slc none 0 0 true))):=by kernel_rfl
theorem Uy:aY T rG []=some (.agg (dx.map (.int .u64)++[.slc none 0 0 true,.slc none 0 0 true])):=by kernel_rfl
theorem Uz (a b c d:Nat):aY T pI [(0,.ptr (some (a,0))),(1,.ptr (some (b,0))),(2,.ptr (some (c,0))),(3,.ptr (some (d,0)))]=some (.agg [.ptr (some (a,0)),.ptr (some (b,0)),.ptr (some (c,0)),.ptr (some (d,0))]):=by kernel_rfl
theorem N6 (A:Ap s0 s Gs):aa Tryz.prog jr [] s fun r s'=>∃ l pc ps pv pw Fc Fs Fv Fw,r=.aQ [.ptr (some (l,0)),.bool true]/\Wq Uw s' l pc ps pv pw Fc Fs Fv Fw dX.zero aF.zero dx 0 aF.zero/\Ap s0 s' ([l]::Fc::Fs::Fv::Fw::Gs)/\Ext s s':=by
 refine Ie _ _ ?_;refine aa.use (VT s) ?_;rintro D s2 ⟨pc,Fc,rfl,m,n,tc,e2⟩ w2;refine ⟨_,_,rfl,?_⟩;refine aa.use (Xn s2) ?_;rintro F s6 ⟨ps,Fs,rfl,hs,o,ts,j⟩ p;refine ⟨_,rfl,_,Ux,rfl,aj.intro p rfl fun pv w b=>⟨_,Uy,rfl,aj.intro b.wf rfl fun pw bQ c=>⟨_,Uz _ _ _ _,rfl,aj.intro c.wf rfl fun l x d=>?_⟩⟩⟩;have z:=A.new e2 n tc;have B:=z.new j o ts;have k:=((B.obj b).obj c).obj d;have i:=c.ext.trans d.ext;have e:=b.ext.trans i;refine ⟨l,pc,ps,pv,pw,Fc,Fs,[pv],[pw],rfl,⟨d.own,m.ext (j.trans e),hs.ext e,⟨rfl,_,_,[],[],b.own.ext i,by simp,⟨bg.nil,by simp [ax],rfl⟩,⟨bg.nil,by simp [ax],rfl⟩⟩,⟨Nc.zero,(fun y C=>by cases C),_,_,[],c.own.ext d.ext,⟨rfl,(by simp),bg.nil⟩,⟨rfl,(by simp),bg.nil⟩,?_,by simp,by simp [ax],by simp [ax]⟩⟩,k.perm ?_,e2.trans (j.trans e)⟩
 ·exact Items.zero
 ·refine List.Perm.cons _ ?_;refine (List.Perm.swap _ _ _).trans ?_;have p1:([pv]::[pw]::Fs::Fc::Gs).Perm ([pv]::[pw]::Fc::Fs::Gs):=.cons _ (.cons _ (.swap _ _ _));refine p1.trans ?_;exact (List.perm_append_comm_assoc [[pv],[pw]] [Fc,Fs] Gs)
end
end
section
open Go.Am Go.aq Go.aB Go.bq
section
variable {hd:AV} {s0 s s':AS} {l pc ps pv pw n B:Nat} {Fc Fs Fv Fw F':List Nat} {c:dX} {x:aF} {v:List Int} {Gs:List (List Nat)}
def UA (x x':aF) (t d:List UInt8):Prop:=((aN t&&aN d)=false/\x'=x)\/((aN t&&aN d)=true/\∃ (m:Int) (l:List aO),0<=m/\x.has ⟨1,m+1⟩=false/\(m=0\/x.has ⟨1,m⟩=true)/\nE x ⟨t,d⟩ l/\x'=(x.ef (⟨⟨1,m+1⟩,⟨t,d⟩,false⟩::l.map ee)).2)
set_option maxRecDepth 20000 in
theorem Cz (h:Wq hd s l pc ps pv pw Fc Fs Fv Fw c x v n x) (A:Ap s0 s ([l]::Fc::Fs::Fv::Fw::Gs)) (o:mJ x B) (hB:B<=450) (hN:∀ d,x.has d=true->d.c<=1073741824) (t dv:List UInt8) :
  aa Tryz.prog dg [.ptr (some (l,0)),.str t,.str dv] s fun r s'=>r=.bool true/\∃ K M x',Wq hd s' l pc ps pv pw Fc K Fv M c x' v n x'/\Ap s0 s' ([l]::Fc::K::Fv::M::Gs)/\UA x x' t dv/\bB (Fs++Fw) s s':=by
 obtain ⟨b1,b2⟩:=h.se.Yf o;refine aa.pre fun hw=>uv _ _ _ _ _ ⟨some (pw,0),by rw [h.own.at.ak];rfl,?_⟩;refine aa.use (VU h.re (by omega)) ?_;rintro v6 s7 ⟨rfl,m,rfl,Z,O,D⟩ w7;have hm:m<=1073741824:=by
  rcases D with rfl | D
  ·omega
  ·exact hN _ D
 have ab:IntKind.wrap .u64 (m+1)=m+1:=gi (by omega);refine ⟨_,rfl,?_⟩;rw [ab];refine ⟨_,vR _ _,aj.intro w7 rfl fun nN a3 p=>⟨⟨rfl,rfl⟩,bC.own p.wf p.own (by simp [aP]) fun dJ Q=>?_⟩⟩
 let d:aO:=⟨1,m+1⟩
 have hd:d.may=true:=aO.gC.2 (by simp only [d];omega);have H:Am.Own dJ nN (aP d):=Q.at;have F:Ext s7 dJ:=Ext.wr p.ext p.no Q.mut;have z:=h.ext F;have I:=A.ext F;have G:nN ∉ Fs:=fun i=>A.th 2 rfl _ i p.no;have nl:l ∉ Fs:=fun i=>A.ij 2 0 rfl rfl (by decide) l i (by simp)
 let k:Key:=⟨t,dv⟩
 have hk:k.may=(aN t&&aN dv):=rfl;refine ⟨fun a b=>bB Fs a b,fun _ _ _ s'=>((aN t&&aN dv)=false/\ic Fs s' ps x/\∀ y∈Fs,s'.h y≠none)\/((aN t&&aN dv)=true/\∃ F' L,nE x k L/\ic F' s' ps (x.ef (⟨d,k,false⟩::L.map ee)).2/\(∀ y∈F',y∈Fs\/dJ.h y=none)/\∀ y∈F',s'.h y≠none),fun s'=>ic Fs s' ps x/\∀ y∈Fs,s'.h y≠none,fun _ _ _ _=>True,fun _ _ v=>∃ w,v=.aQ [w,.int .i64 (if (aN t&&aN dv)=true then 0 else 2)],
  fun a b e=>e.mut,fun a b c x y=>x.trans y,?_,fun _ _ _ _ _ _ _=>trivial,fun a b e g=>⟨g.1.ext e,fun y i=>Ext.there e (g.2 y i)⟩,⟨z.se,I.th 2 rfl⟩,fun s' _ _=>rfl,some (ps,0),by rw [z.own.at.ak];rfl,fun s' x _=>⟨some (ps,0),by rw [(z.own.mut x nl).at.ak];rfl,rfl⟩,_,uF _ _,_,H.at.aD (by simp [aP]),fun s' x _=>⟨_,(H.mut x G).at.aD (by simp [aP]),rfl⟩,fun en ad a4 _ X=>?_,⟨_,.slc none 0 0 true,rfl⟩,?_⟩
 ·rintro q ks v a b e (⟨g1,g2,g3⟩ | ⟨g1,F',L,g2,g3,g4,g5⟩)
  ·exact .inl ⟨g1,g2.ext e,fun y i=>Ext.there e (g3 y i)⟩
  ·exact .inr ⟨g1,F',L,g2,g3.ext e,g4,fun y i=>Ext.there e (g5 y i)⟩
 ·refine (Xq X.1 k d o.Yg (by omega) (by omega) (by omega)).mono ?_;rintro r s' (⟨ae,rfl,e⟩ | ⟨⟨y1,y2,y3⟩,v,L,kd,rfl,hs,F',R,al,J,m⟩)
  ·have j:(aN t&&aN dv)=false:=by
    cases hq:(aN t&&aN dv) with
    | false=>rfl
    | true=>exact absurd ⟨by rw [hk,hq],hd,O⟩ ae
   exact ⟨_,_,rfl,⟨e.mut,.inl ⟨j,X.1.ext e,fun y i=>Ext.there e (X.2 y i)⟩⟩,trivial,_,by rw [j];rfl⟩
  ·have j:(aN t&&aN dv)=true:=y1;have S:=X.1.pF;refine ⟨_,_,rfl,⟨m.mono fun y i=>?_,.inr ⟨j,F',L,kd,R,fun y i=>?_,J⟩⟩,trivial,_,by rw [j];rfl⟩
   ·obtain rfl:=List.mem_singleton.1 i;exact S
   ·rcases al y i with rfl | h
    ·exact .inl S
    ·exact qo ad h
 rintro v30 ⟨a5,rfl⟩;refine ⟨_,_,rfl,fun am C a6 _ hC=>?_⟩;refine ⟨fun vs s'=>vs=[.bool (!(aN t&&aN dv))]/\s'=am,?_,?_⟩
 ·rintro b oY ⟨hb,rfl⟩;simp only [List.cons.injEq,AV.bool.injEq,and_true] at hb;subst hb;rcases hC with ⟨j,R,an⟩ | ⟨j,F',L,kd,R,ao,J⟩
  ·rw [j];refine af.yes rfl ⟨rfl,?_⟩;obtain ⟨W,Y⟩:=z.XH I C R (fun y i=>.inl i) an;exact ⟨Fs,Fw,x,W,Y,.inl ⟨j,rfl⟩,(F.mut.trans C).mono fun y i=>by simp [i]⟩
  ·rw [j];obtain ⟨W,Y⟩:=z.XH I C R ao J;have ar:Am.Own oY nN (aP d):=H.mut C G;refine af.no rfl ⟨some (pw,0),by rw [W.own.at.ak];rfl,_,uF _ _,_,ar.at.aD (by simp [aP]),?_⟩;refine aa.use (Py W.re o (Y.th 4 rfl) hB k d j hd) ?_;rintro a7 a8 ⟨L',aw,_,U,F2,hR,a0,a1⟩ a9;obtain rfl:=aw.uniq kd.kd;obtain ⟨W',a2⟩:=W.Yo Y (U.mono fun y i=>by obtain rfl:=List.mem_singleton.1 i;exact W.re.qF) hR a0 a1;exact ⟨rfl,F',F2,_,W',a2,.inr ⟨j,m,_,Z,O,D,kd,rfl⟩,((F.mut.trans C).mono fun y i=>by simp [i]).trans (U.mono fun y i=>by obtain rfl:=List.mem_singleton.1 i;simp [W.re.qF])⟩
 ·refine aa.use (Ab _ _) ?_;rintro v s' ⟨rfl,rfl⟩ w;refine ⟨_,rfl,af.mk (fun h=>?_) (fun h=>?_)⟩
  ·simp only [Bool.not_eq_true'] at h;simp [h]
  ·have h1:aN t=true:=by simpa using h
   refine aa.use (Ab _ _) ?_;rintro v s' ⟨rfl,rfl⟩ w;exact ⟨_,rfl,by simp [h1],rfl⟩
end
end
section
open Go.Am Go.aq Go.aB Go.bq
def LD:List Int:=[98,101,116,119,101,101,110,32,117,115]
theorem VY:de T av 10 [(0,.int .u8 98),(1,.int .u8 101),(2,.int .u8 116),(3,.int .u8 119),(4,.int .u8 101),(5,.int .u8 101),(6,.int .u8 110),(7,.int .u8 32),(8,.int .u8 117),(9,.int .u8 115)]=some (LD.map (.int .u8)):=by kernel_rfl
set_option maxRecDepth 20000 in
theorem JP (s:AS):aa Tryz.prog iC [] s fun r s'=>gZ s' r LD/\Ext s s':=by
 refine aa.pre fun d=>GY _ _ ⟨_,VY,aj.intro d rfl fun l s3 b=>⟨.slc (some (l,0)) 10 10 true,s3,?_,?_,b.ext⟩⟩
 ·have e:s3.h l=some (.cells (LD.map (.int .u8)) 1 false):=b.at;simp only [cY,aT,if_true,Bg,e]
 ·exact bR.mk (n:=10) (c:=10) ⟨_,_,b.at⟩ (by decide) (by rfl)
section
variable {hd:AV} {s0 s s':AS} {l pc ps pv pw n B:Nat} {Fc Fs Fv Fw F':List Nat} {c:dX} {x:aF} {v:List Int} {Gs:List (List Nat)}
theorem Fm.LC {hd:AV} {F:List Nat} {s:AS} {p n:Nat} {v:List Int} (h:Fm hd F s p v n):∃ F0,Fm hd F0 s p v n/\(∀ y∈F0,y∈F)/\(∀ y∈F0,s.h y≠none)/\∀ y∈F0,y≠p->¬ Tag s y 0:=by
 obtain ⟨i,lg,bh,L,B,e,h2,⟨a1,a2,a3⟩,⟨c,j,k⟩⟩:=h;refine ⟨p::(ax lg++ax bh),⟨i,lg,bh,L,B,e,by simp,⟨a1,fun y b=>by simp [b],a3⟩,⟨c,fun y b=>by simp [b],k⟩⟩,?_,?_,?_⟩
 ·intro y b;simp only [List.mem_cons,List.mem_append] at b;rcases b with rfl | b | b
  ·exact h2
  ·exact a2 y b
  ·exact j y b
 ·intro y b;simp only [List.mem_cons,List.mem_append] at b;rcases b with rfl | b | b
  ·rw [e];simp
  ·exact bg.jG a1 y b
  ·exact bg.jG c y b
 ·intro y b d ht;simp only [List.mem_cons,List.mem_append] at b;rcases b with rfl | b | b
  ·exact d rfl
  ·have:=ht.uniq (bg.tag a1 y b);omega
  ·have:=ht.uniq (bg.tag c y b);omega
theorem gx.UB {F:List Nat} {s:AS} {p:Nat} {c:dX} (h:gx F s p c):∃ cs,Am.Own s p cs:=by
 obtain ⟨_,_,_,_,_,_,_,_,h,_⟩:=h;exact ⟨_,h⟩
theorem Fm.UB {hd:AV} {F:List Nat} {s:AS} {p n:Nat} {v:List Int} (h:Fm hd F s p v n):∃ cs,Am.Own s p cs:=by
 obtain ⟨_,_,_,_,_,h,_⟩:=h;exact ⟨_,h⟩
def XK (F:List Nat) (p:Nat) (a b:AS):Prop:=bB F a b/\yx p a b/\((∃ cs,Am.Own a p cs)->∃ cs,Am.Own b p cs)
theorem XK.ext {F:List Nat} {p:Nat} {a b:AS} (e:Ext a b):XK F p a b:=⟨e.mut,Ext.ek e,fun ⟨cs,h⟩=>⟨cs,h.ext e⟩⟩
theorem XK.trans {F:List Nat} {p:Nat} {a b c:AS} (h:XK F p a b) (d:XK F p b c):XK F p a c:=⟨h.1.trans d.1,h.2.1.trans d.2.1,fun x=>d.2.2 (h.2.2 x)⟩
set_option maxRecDepth 20000 in
theorem Ed (h:Wq hd s l pc ps pv pw Fc Fs Fv Fw c x v n x) (A:Ap s0 s ([l]::Fc::Fs::Fv::Fw::Gs)) (o:mJ x B) (hB:B<=450) (t:List UInt8) (S:0<=c.v.getD 0 0/\c.v.getD 0 0<4611686018427387904) (hn:c.log.length+1<=2 ^ 29) (bi:c.JI.length+1<=2 ^ 29) (bj:n+1<=2 ^ 29) :
  aa Tryz.prog cI [.ptr (some (l,0)),.str t] s fun r s'=>∃ (L L2:List DG) (j an:List Nat),qu x t L/\qu x t L2/\r=.bool (fN (h_ v t [] L2)==fN (h_ c.v t [] L)) /\
   Wq hd s' l pc ps pv pw j Fs an Fw (if fN (h_ c.v t [] L)=true then c.apply (h_ c.v t [] L) else c) x (if fN (h_ v t [] L2)=true then v.set 0 (IntKind.wrap .u64 (v.getD 0 0+1)) else v) (if fN (h_ v t [] L2)=true then n+1 else n) x/\Ap s0 s' ([l]::j::Fs::an::Fw::Gs)/\bB (Fc++Fv) s s':=by
 have nl:l ∉ Fc:=fun i=>A.ij 1 0 rfl rfl (by decide) l i (by simp);have bk:=A.th 1 rfl;have ci:=A.th 3 rfl;refine wA _ _ _ _ ⟨fun a b=>XK Fc pc a b,fun _ _ v s'=>∃ (L:List DG) (g:List AV) (F':List Nat),qu x t L/\v=.aQ [.agg g,.int .i64 (if fN (h_ c.v t [] L)=true then 0 else 2)]/\gx F' s' pc (if fN (h_ c.v t [] L)=true then c.apply (h_ c.v t [] L) else c)/\(∀ y∈F',y∈Fc\/s.h y=none)/\∀ y∈F',s'.h y≠none,fun s'=>gx Fc s' pc c/\∀ y∈Fc,s'.h y≠none,
  fun q _ v s'=>(q=10->∃ L,qu x t L/\bg qM 3 s' v L)/\(q=15->∃ l,v=.ptr (some (l,0))/\Am.Own s' l JL/\l≠pc/\(l∈Fc\/s.h l=none)),
  fun q _ v=>(q=11->∃ g z,v=.aQ [.agg g,.int .i64 z]/\g.all AV.one=true/\g.length=21)/\(q=15->∃ l,v=.ptr (some (l,0))),
  fun a b e=>XK.ext e,fun a b c x y=>x.trans y,?_,?_,fun a b e g=>⟨g.1.ext e,fun y i=>Ext.there e (g.2 y i)⟩,⟨h.ca,bk⟩,fun s' _ _=>rfl,some (pc,0),by rw [h.own.at.ak];rfl,fun s' x _=>⟨some (pc,0),by rw [(h.own.mut x.1 nl).at.ak];rfl,rfl⟩,fun s' _ _=>rfl,some (ps,0),by rw [h.own.at.ak];rfl,fun s' x _=>⟨some (ps,0),by rw [(h.own.mut x.1 nl).at.ak];rfl,rfl⟩,fun kU bl ck _=>?_,⟨.bad,(fun h=>by cases h),(fun h=>by cases h)⟩,fun v20 _=>⟨fun gl bm cl U J=>?_,⟨_,(fun _=>⟨JL,0,rfl,rfl,rfl⟩),(fun h=>by cases h)⟩,fun cm ao=>?_⟩⟩
 ·rintro q ks v a b e ⟨L,g,F',p,g0,g3,g4,g5⟩;exact ⟨L,g,F',p,g0,g3.ext e,g4,fun y i=>Ext.there e (g5 y i)⟩
 ·rintro q ks v a b x1 ⟨C,p⟩;refine ⟨fun X=>?_,fun X=>?_⟩
  ·obtain ⟨L,d,g⟩:=C X;exact ⟨L,d,bg.QK g x1.2.1 (by decide) (by decide) (by decide)⟩
  ·obtain ⟨l',rfl,g,D,nw⟩:=p X;exact ⟨l',rfl,x1.2.1 _ _ _ g (by decide) (by decide) (fun _=>D),D,nw⟩
 ·refine (TZ (h.se.mut bl.1 (A.ij 1 2 rfl rfl (by decide))) o (by omega) t).mono ?_;rintro v s' ⟨L,d,g,_⟩;exact ⟨g.eo.ext,⟨(fun _=>⟨L,d,g.uQ⟩),(fun h=>by cases h)⟩,(fun h=>by cases h),(fun h=>by cases h)⟩
 ·obtain ⟨L,d,g⟩:=U.1.1 rfl;refine (PN (dQ:=t) (tW:=[]) J.1 J.2 bg.nil g S hn bi).mono ?_;have bo:PM c t [] L=h_ c.v t [] L:=rfl;rw [bo];rintro r s' (⟨F,⟨G,rfl,C,p⟩,e⟩ | ⟨k,⟨G,rfl,C,p⟩,F',K,m,hF,ht,hK⟩)
  ·exact ⟨_,_,rfl,⟨XK.ext e,L,G,Fc,d,by rw [F];rfl,by rw [F];exact J.1.ext e,fun y i=>.inl i,fun y i=>Ext.there e (J.2 y i)⟩,⟨(fun h=>by cases h),(fun h=>by cases h)⟩,(fun _=>⟨G,_,rfl,C,p⟩),(fun h=>by cases h)⟩
  ·exact ⟨_,_,rfl,⟨⟨m,hK,fun _=>K.UB⟩,L,G,F',d,by rw [k];rfl,by rw [k];exact K,fun y i=>(hF y i).elim .inl fun h=>qo bm.1 h,ht⟩,⟨(fun h=>by cases h),(fun h=>by cases h)⟩,(fun _=>⟨G,_,rfl,C,p⟩),(fun h=>by cases h)⟩
 obtain ⟨bs,cn,rfl,bx,ar⟩:=ao.1 rfl;refine ⟨_,_,rfl,fun cp aw b0 _=>aj.intro b0 rfl fun a0 mG M=>⟨M.ext,⟨(fun h=>by cases h),(fun _=>⟨a0,rfl,M.own,?_,qo aw.1 M.no⟩)⟩,(fun h=>by cases h),(fun _=>⟨a0,rfl⟩)⟩,⟨.ptr (some (0,0)),(fun h=>by cases h),(fun _=>⟨0,rfl⟩)⟩,fun cr a1=>?_⟩
 ·rintro rfl;obtain ⟨cs,Y⟩:=aw.2.2 h.ca.UB;have:=M.no;rw [Y] at this;cases this
 obtain ⟨b1,rfl⟩:=a1.2 rfl;refine ⟨_,rfl,fun lC b2 b3 U K=>?_⟩;obtain ⟨l',H,a2,Z,ab⟩:=U.2.2.1.2 rfl;simp only [AV.ptr.injEq,Option.some.injEq,Prod.mk.injEq,and_true] at H;subst H;refine ⟨⟨bx,congrArg some ar.symm⟩,bC.own b3 a2 (vs:=bs) (by rw [ar];exact Nat.le_refl _) fun kC ad=>?_⟩;have a3:bB Fc s kC:=b2.1.new ad.mut fun y i=>by obtain rfl:=List.mem_singleton.1 i;exact ab
 obtain ⟨L,g0,F1,hL,hz,a4,b4,_⟩:=K;simp only [AV.aQ.injEq,List.cons.injEq,AV.agg.injEq,AV.int.injEq,true_and,and_true] at hz;obtain ⟨rfl,rfl⟩:=hz;generalize b5:(if fN (h_ c.v t [] L)=true then c.apply (h_ c.v t [] L) else c)=c' at a4 ⊢;obtain ⟨j,a5,a6,a7⟩:∃ j,gx j kC pc c'/\(∀ y∈j,y∈Fc\/s.h y=none)/\∀ y∈j,kC.h y≠none:=by
  obtain ⟨F0,k1,k2,k3,k4⟩:=a4.LC;have I:b1 ∉ F0:=fun i=>k4 _ i Z (Own.tag a2);exact ⟨F0,k1.mut ad.mut (fun y i=>by obtain rfl:=List.mem_singleton.1 i;exact I),fun y i=>b4 y (k2 y i),Jv k3 ad.mut fun y i=>by obtain rfl:=List.mem_singleton.1 i;exact I⟩
 obtain ⟨W,A'⟩:=h.Ym A a3 a5 a6 a7;have a8:l ∉ Fv:=fun i=>A'.ij 3 0 rfl rfl (by decide) l i (by simp);have a9:=A'.th 3 rfl;refine ⟨fun a b=>XK Fv pv a b,fun _ _ w s'=>∃ (L:List DG) (g:List AV) (F':List Nat),qu x t L/\w=.aQ [.agg g,.bool (fN (h_ v t [] L))]/\Fm hd F' s' pv (if fN (h_ v t [] L)=true then v.set 0 (IntKind.wrap .u64 (v.getD 0 0+1)) else v) (if fN (h_ v t [] L)=true then n+1 else n)/\(∀ y∈F',y∈Fv\/kC.h y=none)/\∀ y∈F',s'.h y≠none,fun s'=>Fm hd Fv s' pv v n/\∀ y∈Fv,s'.h y≠none,
  fun q _ v s'=>(q=10->∃ L,qu x t L/\bg qM 3 s' v L/\L.length<=B)/\(q=15->∃ l,v=.ptr (some (l,0))/\Am.Own s' l JL/\l≠pv/\(l∈Fv\/kC.h l=none)),
  fun q _ v=>(q=11->∃ g z,v=.aQ [.agg g,.bool z]/\g.all AV.one=true/\g.length=21)/\(q=15->∃ l,v=.ptr (some (l,0))),
  fun a b e=>XK.ext e,fun a b c x y=>x.trans y,?_,?_,fun a b e g=>⟨g.1.ext e,fun y i=>Ext.there e (g.2 y i)⟩,⟨W.rc,a9⟩,fun s' _ _=>rfl,some (pv,0),by rw [W.own.at.ak];rfl,fun s' x _=>⟨some (pv,0),by rw [(W.own.mut x.1 a8).at.ak];rfl,rfl⟩,fun s' _ _=>rfl,some (pw,0),by rw [W.own.at.ak];rfl,fun s' x _=>⟨some (pw,0),by rw [(W.own.mut x.1 a8).at.ak];rfl,rfl⟩,fun cu b6 cv _=>?_,⟨.bad,(fun h=>by cases h),(fun h=>by cases h)⟩,fun cw _=>⟨fun cx b7 cy U J=>?_,⟨_,(fun _=>⟨JL,true,rfl,rfl,rfl⟩),(fun h=>by cases h)⟩,fun cz a'=>?_⟩⟩
 ·rintro q ks v a b e ⟨L,g,F',p,g0,g3,g4,g5⟩;exact ⟨L,g,F',p,g0,g3.ext e,g4,fun y i=>Ext.there e (g5 y i)⟩
 ·rintro q ks v a b x1 ⟨C,p⟩;refine ⟨fun X=>?_,fun X=>?_⟩
  ·obtain ⟨L,d,g,O⟩:=C X;exact ⟨L,d,bg.QK g x1.2.1 (by decide) (by decide) (by decide),O⟩
  ·obtain ⟨l',rfl,g,D,nw⟩:=p X;exact ⟨l',rfl,x1.2.1 _ _ _ g (by decide) (by decide) (fun _=>D),D,nw⟩
 ·refine (Lq (W.re.mut b6.1 (A'.ij 3 4 rfl rfl (by decide))) o (by omega) t).mono ?_;rintro v s' ⟨L,d,g,O⟩;exact ⟨g.eo.ext,⟨(fun _=>⟨L,d,g.uQ,O⟩),(fun h=>by cases h)⟩,(fun h=>by cases h),(fun h=>by cases h)⟩
 ·obtain ⟨L,d,g,O⟩:=U.1.1 rfl;refine (NY (dQ:=t) (tW:=[]) J.1 J.2 (bg.nil.sl cg) (g.sl eE) (by simp) (by omega) bj).mono ?_;rintro r s' (⟨F,⟨G,rfl,C,p⟩,e⟩ | ⟨k,⟨G,rfl,C,p⟩,F',K,m,hF,ht,hK⟩)
  ·exact ⟨_,_,rfl,⟨XK.ext e,L,G,Fv,d,by rw [F],by rw [F];exact J.1.ext e,fun y i=>.inl i,fun y i=>Ext.there e (J.2 y i)⟩,⟨(fun h=>by cases h),(fun h=>by cases h)⟩,(fun _=>⟨G,_,rfl,C,p⟩),(fun h=>by cases h)⟩
  ·exact ⟨_,_,rfl,⟨⟨m,hK,fun _=>K.UB⟩,L,G,F',d,by rw [k],by rw [k];exact K,fun y i=>(hF y i).elim .inl fun h=>qo b7.1 h,ht⟩,⟨(fun h=>by cases h),(fun h=>by cases h)⟩,(fun _=>⟨G,_,rfl,C,p⟩),(fun h=>by cases h)⟩
 obtain ⟨b8,cA,rfl,ba,R⟩:=a'.1 rfl;refine ⟨_,_,rfl,fun Bi bb b9 _=>aj.intro b9 rfl fun bc Tz Q=>⟨Q.ext,⟨(fun h=>by cases h),(fun _=>⟨bc,rfl,Q.own,?_,qo bb.1 Q.no⟩)⟩,(fun h=>by cases h),(fun _=>⟨bc,rfl⟩)⟩,⟨.ptr (some (0,0)),(fun h=>by cases h),(fun _=>⟨0,rfl⟩)⟩,fun cB bd=>?_⟩
 ·rintro rfl;obtain ⟨cs,Y⟩:=bb.2.2 W.rc.UB;have:=Q.no;rw [Y] at this;cases this
 obtain ⟨b',rfl⟩:=bd.2 rfl;refine ⟨_,rfl,fun cC cb cc U K=>?_⟩;obtain ⟨l',H,be,ae,al⟩:=U.2.2.1.2 rfl;simp only [AV.ptr.injEq,Option.some.injEq,Prod.mk.injEq,and_true] at H;subst H;refine ⟨⟨ba,congrArg some R.symm⟩,bC.own cc be (vs:=b8) (by rw [R];exact Nat.le_refl _) fun W_ am=>?_⟩;have bh:bB Fv kC W_:=cb.1.new am.mut fun y i=>by obtain rfl:=List.mem_singleton.1 i;exact al
 obtain ⟨L2,C,F2,cd,hz,ce,cf,_⟩:=K;simp only [AV.aQ.injEq,List.cons.injEq,AV.agg.injEq,AV.bool.injEq,true_and,and_true] at hz;obtain ⟨rfl,rfl⟩:=hz;have MM:bB (Fc++Fv) s W_:=(a3.mono fun y i=>by simp [i]).trans (bh.mono fun y i=>by simp [i]);obtain ⟨F0,k1,k2,k3,k4⟩:=ce.LC;have I:b' ∉ F0:=fun i=>k4 _ i ae (Own.tag be);obtain ⟨W',ch⟩:=W.Yn A' bh (k1.mut am.mut (fun y i=>by obtain rfl:=List.mem_singleton.1 i;exact I)) (fun y i=>cf y (k2 y i)) (Jv k3 am.mut fun y i=>by obtain rfl:=List.mem_singleton.1 i;exact I);refine ⟨L,L2,j,F0,hL,cd,?_,?_,ch,MM⟩
 ·congr 2;cases fN (h_ c.v t [] L) <;> rfl
 ·rw [b5];exact W'
theorem PU (h:Wq hd s l pc ps pv pw Fc Fs Fv Fw c x c.v c.log.length x) (A:Ap s0 s ([l]::Fc::Fs::Fv::Fw::Gs)) (o:mJ x B) (z:B<=450) (t:List UInt8) (i:∀ L,qu x t L->fN (h_ c.v t [] L)=aN t) (e:0<=c.v.getD 0 0/\c.v.getD 0 0<4611686018427387904) (n:c.log.length+1<=2 ^ 29) (j:c.JI.length+1<=2 ^ 29) :
  aa Tryz.prog cI [.ptr (some (l,0)),.str t] s fun r s'=>r=.bool true/\∃ b d c',Wq hd s' l pc ps pv pw b Fs d Fw c' x c'.v c'.log.length x/\Ap s0 s' ([l]::b::Fs::d::Fw::Gs)/\bB (Fc++Fv) s s' /\
   ((aN t=false/\c'=c)\/(aN t=true/\∃ L,qu x t L/\c'=c.apply (h_ c.v t [] L))):=by
 refine (Ed h A o z t e n j n).mono ?_;rintro r s' ⟨L,C,b,d,p,k,rfl,W,w,m⟩;rw [i L p,i C k] at *;cases y:aN t with
 | true =>
  rw [y] at W;exact ⟨rfl,b,d,c.apply (h_ c.v t [] L),by simpa [dX.apply,h_] using W,w,m,.inr ⟨rfl,L,p,rfl⟩⟩
 | false =>
  rw [y] at W;exact ⟨rfl,b,d,c,by simpa using W,w,m,.inl ⟨rfl,rfl⟩⟩
end
end
section
open Go.Am Go.aq Go.aB Go.bq
def vN (n:Nat):List Int:=(n:Int)::List.replicate 15 0
theorem XI (n:Nat):(vN n).length=16:=by simp [vN]
theorem XJ (n:Nat):(vN n).getD 0 0=n:=rfl
theorem UC (n i:Nat) (hi:i<1000000):under (vN n) ⟨1,(i:Int)+1⟩=decide (i<n):=by
 have hm:(⟨1,(i:Int)+1⟩:aO).may=true:=aO.gC.2 (by simp only;omega);rw [under,hm,Bool.true_and,show (vN n).getD ((⟨1,(i:Int)+1⟩:aO).r.toNat - 1) 0=(n:Int) from rfl,decide_eq_decide];simp only;omega
theorem VZ (a b:Nat):nY (vN a) (vN b)=vN (max a b):=by
 have h:nY (vN a) (vN b)=(if (b:Int)>a then (b:Int) else a)::List.replicate 15 0:=rfl;rw [h,vN];congr 1;split <;> omega
theorem UD {n:Nat}:∀ x∈vN n,x=(n:Int)\/x=0:=by
 intro x b;rcases List.mem_cons.1 b with h | h
 ·exact .inl h
 ·exact .inr (List.eq_of_mem_replicate h)
theorem V0 {n:Nat} (h:n<1000000):uM (vN n)=true:=by
 rw [uM,List.all_eq_true];intro x b;rcases UD x b with rfl | rfl <;> simp <;> omega
theorem XL {n:Nat} (h:n<1000000):Yx (vN n):=⟨XI n,fun x b=>by rcases UD x b with rfl | rfl <;> omega⟩
theorem HV:∀ (l:List eP) {x:aF} {B:Nat},mJ x B->(∀ i∈l,i.may=true)->∀ d,(x.ef l).2.has d=true↔x.has d=true\/∃ i∈l,i.dot=d
 | [],x,B,_,_,d=>by simp [Nu]
 | i::l,x,B,h,hm,d=>by
  have hi:=hm i (by simp);have b:i.dot.may=true:=by simp only [eP.may,Bool.and_eq_true] at hi;exact hi.1
  rw [q7,HV l (vQ h hi) (fun j hj=>hm j (by simp [hj])),B_ h b];simp only [Bool.or_eq_true,decide_eq_true_eq,List.mem_cons,exists_eq_or_imp];constructor
  ·rintro ((h | rfl) | h)
   ·exact .inl h
   ·exact .inr (.inl rfl)
   ·exact .inr (.inr h)
  ·rintro (h | rfl | h)
   ·exact .inl (.inl h)
   ·exact .inl (.inr rfl)
   ·exact .inr h
theorem JQ:∀ (l:List aO) {x:aF} {B:Nat},mJ x B->(∀ d∈l,d.may=true)->∀ d,(x.ef (l.map ee)).2.live d=if d∈l then none else x.live d
 | [],x,B,_,_,d=>by simp [Nu]
 | a::l,x,B,h,hm,d=>by
  have hi:(ee a).may=true:=uE (hm a (by simp));rw [List.map_cons,q7,JQ l (vQ h hi) (fun j hj=>hm j (by simp [hj])),rT h];by_cases b:d=a
  ·subst b;simp [ee]
  ·by_cases h2:d∈l <;> simp [b,h2,ee]
theorem UA.ok {x x':aF} {t d:List UInt8} {N:Nat} (h:UA x x' t d) (o:mJ x N) (w:∀ e,x.has e=true->e.c<=N) (C:N<=1000):mJ x' (N+1)/\(∀ e,x'.has e=true->e.c<=(N+1:Nat))/\(aN t=true->aN d=true->∃ d0,x'.live d0=some ⟨t,d⟩)/\∀ e,x.has e=true->x'.has e=true:=by
 rcases h with ⟨n,rfl⟩ | ⟨n,m,l,D,p,z,kd,rfl⟩
 ·exact ⟨o.mono (by omega),fun e j=>by have:=w e j;omega,(fun F h2=>by rw [F,h2] at n;cases n),fun e j=>j⟩
 ·have G:m<=N:=by
   rcases z with rfl | h
   ·omega
   ·exact w _ h
  have hd:(⟨1,m+1⟩:aO).may=true:=aO.gC.2 (by simp only;omega);have hi:(⟨⟨1,m+1⟩,⟨t,d⟩,false⟩:eP).may=true:=by simp [eP.may,hd,Key.may,n]
  have y:∀ e∈l,x.has e=true:=fun e j=>kd.has o j;have A:∀ i∈l.map ee,i.may=true:=yJ fun e j=>aF.qL (y e j);have r:∀ i∈(⟨⟨1,m+1⟩,⟨t,d⟩,false⟩:eP)::l.map ee,i.may=true:=fun i h=>by
   rcases List.mem_cons.1 h with rfl | h
   ·exact hi
   ·exact A i h
  have k:=HV _ o r;refine ⟨o.add n hd kd,fun e j=>?_,fun _ _=>⟨⟨1,m+1⟩,?_⟩,fun e j=>(k e).2 (.inl j)⟩
  ·rcases (k e).1 j with h | ⟨i,h,rfl⟩
   ·have:=w e h;omega
   ·rcases List.mem_cons.1 h with rfl | h
    ·simp only;omega
    ·obtain ⟨b,hb,rfl⟩:=List.mem_map.1 h;have:=w b (y b hb);simp only [ee];omega
  ·rw [q7];simp only;rw [JQ l (vQ o hi) (fun e j=>aF.qL (y e j)),if_neg (fun B=>by have:=y _ B;rw [p] at this;cases this),rT o];simp [p]
theorem qu.b_ {x:aF} {t:List UInt8} {L:List DG} {B:Nat} (h:qu x t L) (o:mJ x B):L.length<=B:=by
 obtain ⟨U,c,hm⟩:=o.sz;have:=mw (kK h.So) fun d hd=>hm d ?_
 ·simp only [List.length_map] at this;omega
 ·obtain ⟨e,b,rfl⟩:=List.mem_map.1 hd;exact .inr (.inl (by rw [(h.mem e).1 b];rfl))
theorem UE {x:aF} {t:List UInt8} {L:List DG} {B n:Nat} (o:mJ x B) (m:B<=1000) (e:n<1000000) (h:qu x t L):fN (h_ (vN n) t [] L)=aN t:=by
 have c:(⟨1,IntKind.wrap .u64 ((n:Int)+1)⟩:aO)=⟨1,(n:Int)+1⟩:=by rw [gi (by omega)]
 have hm:(⟨1,(n:Int)+1⟩:aO).may=true:=aO.gC.2 (by simp only;omega);have hlen:=h.b_ o;have hp:tU (h_ (vN n) t [] L)=true:=by
  rw [tU,decide_eq_true_eq];show (n:Int)=IntKind.wrap .u64 (IntKind.wrap .u64 ((n:Int)+1) - 1);rw [gi (n:=(n:Int)+1) (by omega),gi (by omega)];omega
 have d:yw L=true:=by
  rw [yw,List.all_eq_true];intro j hj;have b:j<L.length:=by simpa using hj
  rw [vY,List.getElem?_eq_getElem b];have i:=(h.mem L[j]).1 (List.getElem_mem b);obtain ⟨k,h2⟩:=o.lv _ _ i;simp only [Key.may,Bool.and_eq_true] at h2;simp only [aF.qL k,h2.2,Bool.true_and,Bool.or_eq_true,decide_eq_true_eq];by_cases l:j=0
  ·exact .inl l
  ·right;rw [List.getElem?_eq_getElem (show j - 1<L.length by omega)];have:=List.pairwise_iff_getElem.1 h.So (j - 1) j (by simp;omega) (by simpa using b) (by omega);simpa using this
 have hd:((vN n).drop 3).all (fun z=>decide (z=0))=true:=by simp [vN]
 simp only [fN,si,hp,show (h_ (vN n) t [] L).to=L from rfl,d,show (h_ (vN n) t [] L).gR=vN n from rfl,V0 e,hd,show (h_ (vN n) t [] L).id=(⟨1,(n:Int)+1⟩:aO) from c,hm,show (h_ (vN n) t [] L).dQ=t from rfl,show (h_ (vN n) t [] L).tW=[] from rfl];simp [show L.length<=1024 by omega]
structure WI (c:dX) (x:aF) (n N:Nat):Prop where
 ok:mJ x N
 cnt:∀ d,x.has d=true->d.c<=N
 v:c.v=vN n
 ln:c.log.length=n
 bl:c.JI=(List.range n).map fun i=>vN (i+1)
 ev:∀ (i:Nat) (e:Ev),c.log[i]? = some e->e.id=⟨1,(i:Int)+1⟩/\e.tW=[]/\e.to.length<=1000
theorem WI.zero:WI dX.zero aF.zero 0 0:=⟨mJ.zero,(fun d h=>by rw [aF.has,show aF.zero.v=dx from rfl,show aF.zero.ex=[] from rfl,No] at h;cases h),rfl,rfl,rfl,fun i e h=>by simp [dX.zero] at h⟩
section
variable {c:dX} {x x':aF} {n N:Nat} {t d:List UInt8}
theorem WI.sub (h:WI c x n N) (s:UA x x' t d) (b:N<=1000):WI c x' n (N+1) :=
 let k:=s.ok h.ok h.cnt b
 ⟨k.1,k.2.1,h.v,h.ln,h.bl,h.ev⟩
theorem WI.V1 (h:WI c x n N) (l:n<1000000) (m:N<=1000) {L:List DG} (j:qu x t L):WI (c.apply (h_ c.v t [] L)) x (n+1) N:=by
 have d:(h_ c.v t [] L).id=(⟨1,(n:Int)+1⟩:aO):=by
  rw [h.v];show (⟨1,IntKind.wrap .u64 ((n:Int)+1)⟩:aO)=_;rw [gi (by omega)]
 have hv:c.v.set ((h_ c.v t [] L).id.r.toNat - 1) (IntKind.wrap .u64 (c.v.getD ((h_ c.v t [] L).id.r.toNat - 1) 0+1))=vN (n+1):=by
  rw [d,h.v];show IntKind.wrap .u64 ((n:Int)+1)::List.replicate 15 0=_;rw [gi (by omega)];rfl
 refine ⟨h.ok,h.cnt,hv,by simp [dX.apply,h.ln],?_,fun i e b=>?_⟩
 ·simp only [dX.apply,hv,h.bl,List.range_succ,List.map_append,List.map_cons,List.map_nil]
 ·simp only [dX.apply] at b;by_cases hi:i<c.log.length
  ·rw [List.getElem?_append_left hi] at b;exact h.ev i e b
  ·rw [List.getElem?_append_right (by omega)] at b;obtain ⟨k,h2⟩:i=c.log.length/\h_ c.v t [] L=e:=by
    rcases Nat.eq_or_lt_of_le (show c.log.length<=i by omega) with h | h
    ·subst h;simp at b;exact ⟨rfl,b⟩
    ·rw [List.getElem?_eq_none (by simp;omega)] at b;cases b
   subst k h2;refine ⟨by rw [d,h.ln],rfl,?_⟩;have:=j.b_ h.ok;show L.length<=1000;omega
end
end
section
open Go.Am Go.aq Go.aB Go.bq
structure Wp where
 l:Nat
 pc:Nat
 ps:Nat
 pv:Nat
 pw:Nat
def Wo (s0 s:AS) (w:Wp) (c:dX) (x:aF) (n N:Nat) (Gs:List (List Nat)):Prop :=
 WI c x n N/\∃ Fc Fs Fv Fw,Wq Uw s w.l w.pc w.ps w.pv w.pw Fc Fs Fv Fw c x c.v c.log.length x/\Ap s0 s ([w.l]::Fc::Fs::Fv::Fw::Gs)
def Kp (Gs:List (List Nat)) (s s':AS):Prop:=∃ M,bB M s s'/\∀ G∈Gs,Dj M G
section
variable {s0 s s':AS} {w:Wp} {n N:Nat} {c:dX} {x:aF} {Gs:List (List Nat)} {G G':List Nat}
theorem Ap.gs {a b c d e:List Nat} (A:Ap s0 s (a::b::c::d::e::Gs)) (i:G∈Gs):Dj a G/\Dj b G/\Dj c G/\Dj d G/\Dj e G:=by
 obtain ⟨j,hj⟩:=List.mem_iff_getElem?.1 i;exact ⟨A.ij 0 (j+5) rfl (by simpa using hj) (by omega),A.ij 1 (j+5) rfl (by simpa using hj) (by omega),A.ij 2 (j+5) rfl (by simpa using hj) (by omega),A.ij 3 (j+5) rfl (by simpa using hj) (by omega),A.ij 4 (j+5) rfl (by simpa using hj) (by omega)⟩
theorem Dj.app {a b g:List Nat} (h:Dj a g) (d:Dj b g):Dj (a++b) g:=fun y c=>by
 rcases List.mem_append.1 c with c | c
 ·exact h y c
 ·exact d y c
theorem Wo.ext (h:Wo s0 s w c x n N Gs) (e:Ext s s'):Wo s0 s' w c x n N Gs:=by
 obtain ⟨hi,Fc,Fs,Fv,Fw,W,A⟩:=h;exact ⟨hi,Fc,Fs,Fv,Fw,W.ext e,A.ext e⟩
theorem Wo.begin (A:Ap s0 s Gs):aa Tryz.prog jr [] s fun r s'=>∃ w:Wp,r=.aQ [.ptr (some (w.l,0)),.bool true]/\Wo s0 s' w dX.zero aF.zero 0 0 Gs/\Ext s s':=by
 refine (N6 A).mono ?_;rintro r s' ⟨l,pc,ps,pv,pw,Fc,Fs,Fv,Fw,rfl,W,b,e⟩;exact ⟨⟨l,pc,ps,pv,pw⟩,rfl,⟨WI.zero,Fc,Fs,Fv,Fw,W,b⟩,e⟩
theorem Wo.sub (h:Wo s0 s w c x n N Gs) (k:N<=200) (t d:List UInt8):aa Tryz.prog dg [.ptr (some (w.l,0)),.str t,.str d] s fun r s'=>r=.bool true/\∃ x',UA x x' t d/\Wo s0 s' w c x' n (N+1) Gs/\Kp Gs s s':=by
 obtain ⟨hi,Fc,Fs,Fv,Fw,W,A⟩:=h;refine (Cz W A hi.ok (by omega) (fun d hd=>by have:=hi.cnt d hd;omega) t d).mono ?_;rintro r s' ⟨rfl,b,e,x',W',j,hs,m⟩;exact ⟨rfl,x',hs,⟨hi.sub hs (by omega),Fc,b,Fv,e,W',j⟩,_,m,fun G i=>Dj.app (A.gs i).2.2.1 (A.gs i).2.2.2.2⟩
theorem Wo.V1 (h:Wo s0 s w c x n N Gs) (z:N<=200) (B:n<=1000) (t:List UInt8):aa Tryz.prog cI [.ptr (some (w.l,0)),.str t] s fun r s'=>r=.bool true/\Kp Gs s s'/\((aN t=false/\Wo s0 s' w c x n N Gs)\/(aN t=true/\∃ L,qu x t L/\Wo s0 s' w (c.apply (h_ c.v t [] L)) x (n+1) N Gs)):=by
 obtain ⟨hi,Fc,Fs,Fv,Fw,W,A⟩:=h;refine (PU W A hi.ok (by omega) t (fun L d=>by rw [hi.v];exact UE hi.ok (by omega) (by omega) d) (by rw [hi.v,XJ];omega) (by rw [hi.ln];omega) (by rw [hi.bl];simp;omega)).mono ?_;rintro r s' ⟨rfl,e,i,c',W',o,m,b⟩;refine ⟨rfl,⟨_,m,fun G p=>Dj.app (A.gs p).2.1 (A.gs p).2.2.2.1⟩,?_⟩;rcases b with ⟨k,rfl⟩ | ⟨j,L,y,rfl⟩
 ·exact .inl ⟨k,hi,e,Fs,i,Fw,W',o⟩
 ·exact .inr ⟨j,L,y,hi.V1 (by omega) (by omega) y,e,Fs,i,Fw,W',o⟩
theorem Wo.Yz (h:Wo s0 s w c x n N (G::Gs)) (m:bB G s s') (b:∀ y∈G',y∈G\/s.h y=none) (ht:∀ y∈G',s'.h y≠none):Wo s0 s' w c x n N (G'::Gs):=by
 obtain ⟨hi,Fc,Fs,Fv,Fw,W,A⟩:=h;exact ⟨hi,Fc,Fs,Fv,Fw,W.mut m (A.ij 5 0 rfl rfl (by decide)) (A.ij 5 1 rfl rfl (by decide)) (A.ij 5 2 rfl rfl (by decide)) (A.ij 5 3 rfl rfl (by decide)) (A.ij 5 4 rfl rfl (by decide)),Ap.pq (A:=[[w.l],Fc,Fs,Fv,Fw]) A m b ht⟩
theorem Wo.add (h:Wo s0 s w c x n N Gs) (e:Ext s s') (b:∀ y∈G,s.h y=none) (ht:∀ y∈G,s'.h y≠none):Wo s0 s' w c x n N (G::Gs):=by
 obtain ⟨hi,Fc,Fs,Fv,Fw,W,A⟩:=h;refine ⟨hi,Fc,Fs,Fv,Fw,W.ext e,(A.new e b ht).perm ?_⟩;exact (List.perm_middle (l₁:=[[w.l],Fc,Fs,Fv,Fw]) (l₂:=Gs) (a:=G)).symm
theorem Wo.perm {YR:List (List Nat)} (h:Wo s0 s w c x n N Gs) (p:Gs.Perm YR):Wo s0 s w c x n N YR:=by
 obtain ⟨hi,Fc,Fs,Fv,Fw,W,A⟩:=h;exact ⟨hi,Fc,Fs,Fv,Fw,W,A.perm (.cons _ (.cons _ (.cons _ (.cons _ (.cons _ p)))))⟩
theorem Wo.aD (h:Wo s0 s w c x n N Gs):ak s w.l 0=some (.ptr (some (w.pc,0)))/\ak s w.l (0+1)=some (.ptr (some (w.ps,0))):=by
 obtain ⟨hi,Fc,Fs,Fv,Fw,W,A⟩:=h;exact ⟨by rw [W.own.at.ak];rfl,by rw [W.own.at.ak];rfl⟩
/-! ### feeds -/
structure FI (G:List Nat) (s:AS) (p:Nat) (f:List UInt8->Option Dv) (k n:Nat):Prop where
 fe:mH G s p LD f k
 pl:∀ a d,f a=some d->d.place<=n/\d.hand.length<=d.place
variable {p k:Nat} {f:List UInt8->Option Dv}
theorem Wo.YS (h:Wo s0 s w c x n N (G::Gs)) (F:FI G s p f k n) (o:N<=1000) (r:n<=1000):∃ Fc Fs,N4 G Fc Fs s p w.pc w.ps LD f k c x:=by
 obtain ⟨hi,Fc,Fs,Fv,Fw,W,A⟩:=h;have hb:=W.se.Yf hi.ok;refine ⟨Fc,Fs,F.fe,A.th 5 rfl,W.ca,W.se,A.th 1 rfl,A.th 2 rfl,A.ij 5 1 rfl rfl (by decide),A.ij 5 2 rfl rfl (by decide),by rw [hi.bl,hi.ln];simp,by rw [hi.ln];omega,fun e j=>?_,by omega,fun a d l=>by rw [hi.ln];exact F.pl a d l⟩;obtain ⟨i,b⟩:=List.mem_iff_getElem?.1 j;obtain ⟨_,m,h2⟩:=hi.ev i e b;rw [m];exact ⟨by simp,by omega⟩
theorem Wo.feed (h:Wo s0 s w c x n N Gs):aa Tryz.prog iC [] s fun v s1=>aJ s1/\aa Tryz.prog oA [v] s1 fun r s'=>∃ p G,r=.ptr (some (p,0))/\Wo s0 s' w c x n N (G::Gs)/\FI G s' p (fun _=>none) 0 n/\Ext s s':=by
 refine aa.use (JP s) ?_;rintro v s1 ⟨hv,e1⟩ w1;refine ⟨w1,(QN hv (by decide)).mono ?_⟩;rintro r s' ⟨p,G,rfl,b,i,ht,e⟩;exact ⟨p,G,rfl,(h.ext e1).add e i ht,⟨b,fun a d j=>by cases j⟩,e1.trans e⟩
theorem Wo.attach (h:Wo s0 s w c x n N (G::Gs)) (F:FI G s p f k n) (name:List UInt8) {bv:AV} {b v:List Int} (hb:gZ s bv b) (B:aN name=true) (hf:f name=none) (C:k<64) (D:N5 LD name b v) :
  aa Tryz.prog dU [.ptr (some (p,0)),.str name,bv] s fun r s'=>r=.int .i64 0/\∃ G',Wo s0 s' w c x n N (G'::Gs)/\FI G' s' p (jP f name (some ⟨v,0,[]⟩)) (k+1) n/\bB G s s':=by
 have j:∀ y∈G,s.h y≠none:=by
  obtain ⟨_,Fc,Fs,Fv,Fw,W,A⟩:=h;exact A.th 5 rfl
 refine (JO F.fe j (by decide) name hb fun _ _=>D).mono ?_;rintro r s' (⟨l,_⟩ | ⟨_,rfl,G',H,m,o,z⟩)
 ·exact absurd ⟨B,hf,C⟩ l
 ·refine ⟨rfl,G',h.Yz m o z,⟨H,fun a d i=>?_⟩,m⟩;by_cases e:a=name
  ·rw [jP,if_pos e] at i;obtain rfl:=Option.some.inj i;simp
  ·rw [jP,if_neg e] at i;exact F.pl a d i
theorem FT (P:Ev->Bool) (stop:Nat->Bool):∀ (l:List (Ev×List Int)) (k:Nat),(scan P stop l k).2<=l.length/\(scan P stop l k).1.length<=(scan P stop l k).2
 | [],k=>by simp [scan]
 | a::l,k=>by
  have b:=FT P stop l (k+1);have h2:=FT P stop l k;simp only [scan];split
  ·split
   ·simp
   ·simp;omega
  ·simp;omega
theorem Wo.V2 (h:Wo s0 s w c x n N (G::Gs)) (F:FI G s p f k n) (A:N<=1000) (B:n<=1000) (name:List UInt8) {d:Dv} (i:aN name=true) (hf:f name=some d) {most:Int} (hm:1<=most/\most<=16) :
  aa Tryz.prog eT [.ptr (some (p,0)),.str name,.int .i64 most,.ptr (some (w.pc,0)),.ptr (some (w.ps,0))] s fun r s'=>∃ (out:AV) (Lo:List gj) (G':List Nat),r=.aQ [out,.int .i64 0]/\bg ep 21 s' out Lo/\(∀ m∈Lo,g_ (LB m) s' m)/\Lo.map gj.ev=(sP name d c x most).1.map Prod.fst/\Wo s0 s' w c x n N (G'::Gs)/\FI G' s' p (jP f name (some (HT name d c x most))) k n/\bB G s s':=by
 obtain ⟨Fc,Fs,T⟩:=h.YS F A B;have hi:=h.1;refine (QS T name most).mono ?_;rintro r s' (⟨b,_⟩ | ⟨_,I,out,Lo,G',hd,rfl,C,h2,h3,D,y,l,o⟩)
 ·rcases b with b | b
  ·exact absurd ⟨i,hm⟩ b
  ·rw [hf] at b;cases b
 ·rw [hf] at hd;obtain rfl:=Option.some.inj hd;refine ⟨out,Lo,G',rfl,C,h2,h3,h.Yz y.mut l o,⟨D,fun a e j=>?_⟩,y.mut⟩;by_cases z:a=name
  ·rw [jP,if_pos z] at j;obtain rfl:=Option.some.inj j;have H:=F.pl name d hf;have:=FT (gS name d.cur x) (fun k=>!decide ((k:Int)<most)) ((pV c).drop d.place) 0;have hlen:(pV c).length=n:=by rw [Cx (by rw [hi.bl,hi.ln];simp),hi.ln]
   simp only [List.length_drop,hlen] at this;simp only [HT,sP,List.length_append,List.length_map];omega
  ·rw [jP,if_neg z] at j;exact F.pl a e j
theorem Wo.Y_ (h:Wo s0 s w c x n N (G::Gs)) (F:FI G s p f k n) (L:n<=1000) (name:List UInt8) {d:Dv} (l:aN name=true) (hf:f name=some d) (o:∀ j,j<=d.hand.length->uM (sj d j).cur=true) {j:Nat} (hj:j<=d.hand.length) :
  aa Tryz.prog lJ [.ptr (some (p,0)),.str name,.int .i64 j] s fun r s'=>∃ (bv:AV) (G':List Nat),r=.aQ [bv,.int .i64 0]/\bg qv 1 s' bv (Cm LD name (sj d j).cur)/\Wo s0 s' w c x n N (ax bv::G'::Gs)/\FI G' s' p (jP f name (some (sj d j))) k n:=by
 have B:∀ y∈G,s.h y≠none:=by
  obtain ⟨_,Fc,Fs,Fv,Fw,W,A⟩:=h;exact A.th 5 rfl
 refine (XG F.fe B (by decide) name j (fun e m i hi=>?_) (fun e m=>?_)).mono ?_
 ·rw [hf] at m;obtain rfl:=Option.some.inj m;exact o i hi
 ·have:=F.pl name e m;omega
 ·rintro r s' (⟨b,_⟩ | ⟨_,M,j',bv,G',s1,I,hd,hle,rfl,g,J,K,C,D⟩)
  ·rcases b with b | b | b
   ·rw [l] at b;cases b
   ·omega
   ·have:=b d hf;omega
  ·obtain rfl:j=j':=by omega
   rw [hf] at hd;obtain rfl:=Option.some.inj hd;refine ⟨bv,G',rfl,g.uQ,(h.Yz K.mut C D).add g.eo.ext g.new (bg.jG g.uQ),⟨J.ext g.eo.ext,fun a e z=>?_⟩⟩;by_cases m:a=name
   ·rw [jP,if_pos m] at z;obtain rfl:=Option.some.inj z;have H:=F.pl name d hf;rw [sj];split
    ·exact H
    ·simp only [List.length_drop];omega
   ·rw [jP,if_neg m] at z;exact F.pl a e z
theorem Wo.XM (h:Wo s0 s w c x n N (G::Gs)) (F:FI G s p f k n) (name:List UInt8) {d:Dv} (i:aN name=true) (hf:f name=some d) (j:uM d.cur=true) :
  aa Tryz.prog iP [.ptr (some (p,0)),.str name] s fun r s'=>∃ (bv:AV),r=.aQ [bv,.int .i64 0]/\bg qv 1 s' bv (Cm LD name d.cur)/\Wo s0 s' w c x n N (ax bv::G::Gs)/\FI G s' p (jP f name none) (k - 1) n/\∃ s1,bB G s s1/\Ext s1 s':=by
 have z:∀ y∈G,s.h y≠none:=by
  obtain ⟨_,Fc,Fs,Fv,Fw,W,A⟩:=h;exact A.th 5 rfl
 refine (Si F.fe z (by decide) name (fun e l=>?_)).mono ?_
 ·rw [hf] at l;obtain rfl:=Option.some.inj l;exact j
 ·rintro r s' (⟨b,_⟩ | ⟨_,H,bv,s1,hd,rfl,g,C,m,B⟩)
  ·rcases b with b | b
   ·rw [i] at b;cases b
   ·rw [hf] at b;cases b
  ·rw [hf] at hd;obtain rfl:=Option.some.inj hd;refine ⟨bv,rfl,g.uQ,(h.Yz m (fun y D=>.inl D) B).add g.eo.ext g.new (bg.jG g.uQ),⟨C.ext g.eo.ext,fun a e o=>?_⟩,s1,m,g.eo.ext⟩;by_cases l:a=name
   ·rw [jP,if_pos l] at o;cases o
   ·rw [jP,if_neg l] at o;exact F.pl a e o
end
end
section
open Go.Am Go.aq Go.aB Go.bq
def OW (c:dX) (x:aF) (t d:List UInt8):Prop:=(∃ d0,x.live d0=some ⟨t,d⟩)/\∀ e∈c.log,e.dQ=t/\jF e.to d≠[]
section
variable {c:dX} {x x':aF} {n N:Nat} {t d:List UInt8}
theorem OW.V1 (h:OW c x t d) {L:List DG} (j:qu x t L) {v:List Int}:OW (c.apply (h_ v t [] L)) x t d:=by
 refine ⟨h.1,fun e b=>?_⟩;rcases List.mem_append.1 (show e∈c.log++[h_ v t [] L] from b) with b | b
 ·exact h.2 e b
 ·obtain rfl:=List.mem_singleton.1 b;refine ⟨rfl,fun k=>?_⟩;obtain ⟨d0,h0⟩:=h.1;have:(⟨d0,d⟩:DG)∈L:=(j.mem _).2 h0;have:d0∈jF L d:=List.mem_map.2 ⟨⟨d0,d⟩,List.mem_filter.2 ⟨this,by simp⟩,rfl⟩;have i:jF L d=[]:=k;rw [i] at this;cases this
theorem OW.V3 (h:OW c x t d) (hi:WI c x n N) (o:n<=1000) {i m:Nat} {e:Ev} (b:c.log[i]? = some e):gS d (vN m) x e=!decide (i<m):=by
 obtain ⟨j,h2⟩:=h.2 e (List.mem_of_getElem? b);have k:i<c.log.length:=by
  rcases Nat.lt_or_ge i c.log.length with h | h
  ·exact h
  ·rw [List.getElem?_eq_none h] at b;cases b
 have l:Up x ⟨e.dQ,d⟩=true:=N3.2 (by rw [j];exact h.1);have ht:(jF e.to d).isEmpty=false:=by simpa using h2
 rw [gS,(hi.ev i e b).1,UC m i (by have:=hi.ln;omega),l,ht];simp
theorem UF (hi:WI c x n N) {i:Nat} {z:Ev×List Int} (h:(pV c)[i]? = some z):c.log[i]? = some z.1/\z.2=vN (i+1):=by
 rw [pV,List.getElem?_zip_eq_some] at h;refine ⟨h.1,?_⟩;have:=h.2;rw [hi.bl,List.getElem?_map] at this;cases b:(List.range n)[i]? with
 | none=>rw [b] at this;cases this
 | some j =>
  rw [b] at this;obtain rfl:i=j:=by
   have:=List.getElem?_eq_some_iff.1 b;obtain ⟨d,h2⟩:=this;simpa using h2
  exact (Option.some.inj this).symm
theorem Wm (hi:WI c x n N):(pV c).length=n:=by rw [Cx (by rw [hi.bl,hi.ln];simp),hi.ln]
theorem N7 {P:Ev->Bool} {most:Nat}:∀ (l:List (Ev×List Int)) (k:Nat),(∀ z∈l,P z.1=true)->k<most->scan P (fun k=>!decide ((k:Int)<(most:Int))) l k=(l.take (most - k),min (most - k) l.length)
 | [],k,_,_=>by simp [scan]
 | a::l,k,h,c=>by
  rw [scan,if_pos (h a (by simp))];by_cases hs:k+1<most
  ·have:(!decide (((k+1:Nat):Int)<(most:Int)))=false:=by simp;omega
   rw [if_neg (by rw [this];simp),N7 l (k+1) (fun z b=>h z (by simp [b])) hs];obtain ⟨j,hj⟩:∃ j,most - k=j+1:=⟨most - k - 1,by omega⟩;rw [hj,show most - (k+1)=j by omega];simp
  ·have:(!decide (((k+1:Nat):Int)<(most:Int)))=true:=by simp;omega
   rw [if_pos this,show most - k=1 by omega];simp
theorem JR {P:Ev->Bool} {stop:Nat->Bool}:∀ (l m:List (Ev×List Int)) (k:Nat),(∀ z∈l,P z.1=false)->scan P stop (l++m) k=((scan P stop m k).1,(scan P stop m k).2+l.length)
 | [],m,k,_=>by simp
 | a::l,m,k,h=>by
  rw [List.cons_append,scan,if_neg (by simp [h a]),JR l m k fun z b=>h z (by simp [b])];simp;omega
theorem QT (hi:WI c x n N) (o:n<=1000) (ow:OW c x t d) {m pl most:Nat} {hand:List (List Int)} (hm:m<=n) (p:pl<=n) (r:1<=most):sP d ⟨vN m,pl,hand⟩ c x most=(((pV c).drop (max m pl)).take most,(max m pl - pl)+min most (n - max m pl)):=by
 have e:(pV c).drop pl=((pV c).drop pl).take (max m pl - pl)++(pV c).drop (max m pl):=by
  conv=>lhs;rw [<- List.take_append_drop (max m pl - pl) ((pV c).drop pl)]
  rw [List.drop_drop,show pl+(max m pl - pl)=max m pl by omega]
 have k:=Wm hi;have l:∀ i z,(pV c)[i]? = some z->gS d (vN m) x z.1=!decide (i<m):=fun i z b=>ow.V3 hi o (UF hi b).1;rw [sP];simp only;rw [e,JR _ _ 0 ?_,N7 _ 0 ?_ (by omega)]
 ·simp only [Nat.sub_zero,List.length_take,List.length_drop,k,Prod.mk.injEq,true_and];omega
 ·intro z b;obtain ⟨j,hj⟩:=List.mem_iff_getElem?.1 b;rw [List.getElem?_drop] at hj;rw [l _ z hj];simp;omega
 ·intro z b;obtain ⟨j,hj⟩:=List.mem_iff_getElem?.1 b;rw [List.getElem?_take] at hj;split at hj
  ·rw [List.getElem?_drop] at hj;rw [l _ z hj];simp;omega
  ·cases hj
end
section
variable {s0 s s':AS} {w:Wp} {n N:Nat} {c:dX} {x:aF} {Gs:List (List Nat)} {G R:List Nat}
theorem Wo.dj (h:Wo s0 s w c x n N (G::Gs)) (b:R∈Gs):Dj G R:=by
 obtain ⟨_,Fc,Fs,Fv,Fw,W,A⟩:=h;obtain ⟨j,hj⟩:=List.mem_iff_getElem?.1 b;exact A.ij 5 (j+6) rfl (by simpa using hj) (by omega)
theorem CA {α:Type} {f:α->List AV} {sz:Nat} {v:AV} {l:List α} (g:bg f sz s v l) (m:bB G s s') (d:Dj G (ax v)):bg f sz s' v l:=g.mut m fun y b hm=>d y hm b
theorem rX {f:List UInt8->Option Dv} (a:List UInt8) (d:Option Dv):jP f a d a=d:=by simp [jP]
def tT:List UInt8:=[116]
def aA:List UInt8:=[97]
set_option maxRecDepth 20000 in
set_option maxHeartbeats 2000000 in
theorem N8 (A:Ap s0 s Gs):aa Tryz.prog oW [] s fun r s'=>r=.bool true/\Ap s0 s' Gs:=by
 refine Ia _ _ ?_;refine aa.use (Wo.begin A) ?_;rintro v1 s2 ⟨w,rfl,Q,e2⟩ w2;refine ⟨_,_,rfl,af.no rfl ?_⟩;refine aa.use (Q.sub (by omega) tT aA) ?_;rintro v5 s6 ⟨rfl,R,hs,W1,k6⟩ w6;have S:∃ d0,R.live d0=some ⟨tT,aA⟩:=(hs.ok Q.1.ok Q.1.cnt (by omega)).2.2.1 (by decide) (by decide);have U:OW dX.zero R tT aA:=⟨S,fun e he=>by simp [dX.zero] at he⟩;refine ⟨_,rfl,af.no rfl ?_⟩;refine aa.use (W1.V1 (by omega) (by omega) tT) ?_;rintro v8 s9 ⟨rfl,k9,(⟨d,_⟩ | ⟨_,L1,W,W2⟩)⟩ w9
 ·exact absurd d (by decide)
 have y:=U.V1 W (v:=dX.zero.v);generalize a4:dX.zero.apply (h_ dX.zero.v tT [] L1)=X at W2 y;refine ⟨_,rfl,af.no rfl ?_⟩;refine aa.use (W2.V1 (by omega) (by omega) tT) ?_;rintro v11 dJ ⟨rfl,a5,(⟨d,_⟩ | ⟨_,L2,Y,Z⟩)⟩ a6
 ·exact absurd d (by decide)
 have l:=y.V1 Y (v:=X.v);generalize a7:X.apply (h_ X.v tT [] L2)=c2 at Z l;have hi:=Z.1;refine ⟨_,rfl,af.no rfl ?_⟩;refine aa.use Z.feed ?_;rintro a8 fH ⟨a9,hN⟩ _;refine aa.use hN ?_;rintro nO kU ⟨p,G1,rfl,W4,F4,a'⟩ ba;refine ⟨_,rfl,?_⟩;refine aa.use (W4.attach F4 aA (bg.nil.sl cg) (by decide) rfl (by omega) (.inl ⟨rfl,rfl⟩)) ?_;rintro bb gw ⟨rfl,G2,W5,F5,_⟩ bc;refine ⟨_,rfl,_,W5.aD.1,_,W5.aD.2,?_⟩;refine aa.use (W5.V2 F5 (by omega) (by omega) aA (by decide) (rX _ _) (by omega)) ?_;rintro bd be ⟨out,Lo,G3,rfl,gO,gE,ab,W6,F6,_⟩ bh;have hz:(dx:List Int)=vN 0:=rfl;have B:=QT (hand:=[]) hi (by omega) l (m:=0) (pl:=0) (most:=5) (by omega) (by omega) (by omega);have ad:=Wm hi;have hd:HT aA ⟨dx,0,[]⟩ c2 R 5=⟨vN 0,2,[vN 1,vN 2]⟩:=by
  rw [HT,hz,show (5:Int)=((5:Nat):Int) from rfl,B];have:((pV c2).drop 0).take 5=pV c2:=by rw [List.drop_zero,List.take_of_length_le (by omega)]
  simp only [show max 0 0=0 from rfl,this];have h2:(pV c2).map Prod.snd=c2.JI:=by
   rw [pV,List.map_snd_zip];rw [hi.bl,hi.ln];simp
  rw [h2,hi.bl];rfl
 have ae:Lo.length=2:=by
  have:=congrArg List.length ab;rw [hz,show (5:Int)=((5:Nat):Int) from rfl,B] at this;simp [ad] at this;exact this
 rw [hd] at F6;refine ⟨_,_,rfl,?_⟩;have C:∀ j,j<=2->uM (sj ⟨vN 0,2,[vN 1,vN 2]⟩ j).cur=true:=by
  intro j hj
  match j,hj with
  | 0,_=>rfl
  | 1,_=>rfl
  | 2,_=>rfl
 refine aa.use (W6.Y_ F6 (by omega) aA (by decide) (rX _ _) C (j:=1) (by decide)) ?_;rintro bi bj ⟨kv,G4,rfl,gk,W7,F7⟩ bk;have al:sj ⟨vN 0,2,[vN 1,vN 2]⟩ 1=⟨vN 1,2,[vN 2]⟩:=by
  rw [sj,if_neg (by decide)];show (⟨nY (vN 0) (vN 1),2,[vN 2]⟩:Dv)=_;rw [VZ];rfl
 rw [al] at gk F7;have D:=W7.perm (.swap _ _ _);refine ⟨_,_,rfl,?_⟩;refine aa.use (D.XM F7 aA (by decide) (rX _ _) rfl) ?_;rintro bm kC ⟨mv,rfl,gm,W8,F8,s1,m1,e1⟩ bo;have F:=(CA gk m1 (D.dj (by simp))).ext e1;have x:=W8.perm (YR:=G4::ax mv::ax kv::Gs) (.swap _ _ _);refine ⟨_,_,rfl,?_⟩;refine aa.use (x.attach F8 aA (F.sl cg) (by decide) (rX _ _) (by omega) (.inr ⟨XL (n:=1) (by omega),rfl,rfl⟩)) ?_;rintro wm bs ⟨rfl,G5,G,F9,m9⟩ bx;have am:=CA F m9 (x.dj (by simp));have an:=CA gm m9 (x.dj (by simp));refine ⟨_,rfl,_,G.aD.1,_,G.aD.2,?_⟩;refine aa.use (G.V2 F9 (by omega) (by omega) aA (by decide) (rX _ _) (by omega)) ?_;rintro b0 ao ⟨a3,H,G6,rfl,I,b1,J,ar,b2,K⟩ b3;have L:=CA am K (G.dj (by simp));have M:=CA an K (G.dj (by simp));have aw:=QT (hand:=[]) hi (by omega) l (m:=1) (pl:=0) (most:=5) (by omega) (by omega) (by omega);obtain ⟨z,O⟩:∃ z,(pV c2)[1]? = some z:=⟨_,List.getElem?_eq_getElem (by omega)⟩;have b:H.map gj.ev=[z.1]:=by
  rw [J,show (5:Int)=((5:Nat):Int) from rfl,aw];have:((pV c2).drop 1)=[z]:=by
   apply List.ext_getElem?;intro k;rw [List.getElem?_drop]
   match k with
   | 0=>simpa using O
   | k+1=>rw [List.getElem?_eq_none (by omega)];simp
  show (((pV c2).drop 1).take 5).map Prod.fst=_;rw [this];rfl
 obtain ⟨me,rfl⟩:=List.length_eq_one_iff.1 (show H.length=1 by have:=congrArg List.length b;simpa using this);have a0:me.ev=z.1:=by simpa using b
 have a1:me.ev.id=⟨1,((1:Nat):Int)+1⟩:=by rw [a0];exact (hi.ev 1 _ (UF hi O).1).1
 obtain ⟨la,o,k8,a2⟩:=(I.sl aE).ix (i:=0) (by decide) aE aR fB rfl;have hc:ak ao la (o+1)=some (.int .u64 2):=by
  rw [(a2 _ (Ext.refl _)).1 1 (by omega)];show some (AV.int .u64 me.ev.id.c)=_;rw [a1];rfl
 refine ⟨_,_,rfl,af.yes rfl (af.yes rfl (af.yes rfl (af.yes rfl (af.yes rfl (af.yes rfl ⟨_,(gO.sl aE).b_ aR _,?_⟩)))))⟩;rw [ae];refine af.yes rfl ⟨_,JH (L.sl cg),_,JH (M.sl cg),af.yes (by simp) ⟨_,(I.sl aE).b_ aR _,af.yes rfl ⟨_,_,k8 .i64,_,hc,rfl,?_⟩⟩⟩;obtain ⟨_,Fc,Fs,Fv,Fw,Wf,Af⟩:=ar;exact Af.tail.tail.tail.tail.tail.tail.tail.tail
end
end
section
open Go.Am Go.aq Go.aB Go.bq
section
variable {c:dX} {x:aF} {n N:Nat} {t d:List UInt8}
end
section
variable {s0 s s':AS} {w:Wp} {c c':dX} {x:aF} {n n' N p p' lr:Nat} {row:List AV} {at_:AV} {b:List Int}
end
end
section
open Go.Am Go.aq Go.aB Go.bq
section
variable {s0 s s':AS} {w:Wp} {c:dX} {x:aF} {n N:Nat} {Gs:List (List Nat)} {G R:List Nat} {p k:Nat} {f:List UInt8->Option Dv}
end
section
variable {s0 s s':AS} {w:Wp} {c c':dX} {x:aF} {n n' N p p' lr q pl:Nat} {row:List AV} {at_:AV} {b:List Int} {R:List Nat}
end
end
section
open Go.Am Go.aq Go.aB Go.bq
section
variable {s0 s s':AS} {w:Wp} {n N:Nat} {c:dX} {x:aF} {Gs:List (List Nat)} {G R:List Nat}
theorem Ap.start (s:AS):Ap s s []:=⟨Ext.refl s,List.Pairwise.nil,fun R h=>by cases h⟩
end
end
section
open Go.Am Go.aq Go.aB Go.bq
end
section
open Go.Am Go.aq Go.aB Go.bq
def XN (v:List Int) (e:Ev):Prop:=e.id.c=IntKind.wrap .u64 (v.getD (e.id.r.toNat - 1) 0+1)/\∀ i,i<16->i≠e.id.r.toNat - 1->e.gR.getD i 0<=v.getD i 0
section
variable {F:List Nat} {s:AS} {p:Nat} {c:dX} {m:gj}
theorem UG (h:gx F s p c) (x:m.ev.id.may=true):aa Tryz.prog jM [.ptr (some (p,0)),.agg (ep m)] s fun r s'=>(∃ b:Bool,r=.bool b/\(b=true->XN c.v m.ev))/\Ext s s':=by
 have ev:=aE m;refine aa.pre fun C=>Bu _ _ _ _ ⟨bL m,aj.intro C rfl fun l1 s2 d=>⟨m.ev.id.c,by rw [d.own.at.ak];rfl,m.ev.id.r,by rw [d.own.at.ak];rfl,?_⟩⟩;obtain ⟨y,lg,bh,sU,L,B,es,k,z,_⟩:=h.ext d.ext;obtain ⟨hr,l⟩:=qn x;dsimp only;rw [hr];have A:∀ i,i<16->ag T aX (.ptr (some (p,0+2))) (.int .i64 ((i:Nat):Int))=some (.ptr (some (p,2+i))):=fun i hi=>by
  rw [M_ (by omega)];simp
 refine ⟨_,_,A _ l,_,by rw [z.at.ak,rW y lg bh _ l],af.mk (fun _=>⟨⟨false,rfl,fun h=>by cases h⟩,d.ext⟩) (fun hb=>?_)⟩;have D:m.ev.id.c=IntKind.wrap .u64 (c.v.getD (m.ev.id.r.toNat - 1) 0+1):=by
  rw [bne_eq_false_iff_eq] at hb;exact hb
 refine ⟨_,d.own.at.aD (by omega),?_⟩;rw [LA];refine ⟨fun m' vs s'=>∃ i:Nat,vs=[.int .i64 (i:Nat)]/\i<=16/\m'=16 - i/\s'=s2/\∀ j,j<i->j≠m.ev.id.r.toNat - 1->m.ev.gR.getD j 0<=c.v.getD j 0,16,⟨0,rfl,by omega,rfl,rfl,fun j hj=>by omega⟩,?_⟩;rintro m' G fH ⟨i,hv,hi,rfl,rfl,n⟩;simp only [List.cons.injEq,AV.int.injEq,true_and,and_true] at hv;subst hv;refine af.dec (fun H=>⟨_,PK m.len (by omega),m.ev.id.r,by rw [d.own.at.ak];rfl,?_⟩) (fun I=>⟨⟨true,rfl,fun _=>⟨D,fun j hj o=>n j (by omega) o⟩⟩,d.ext⟩);have go:(i≠m.ev.id.r.toNat - 1->m.ev.gR.getD i 0<=c.v.getD i 0)->∃ m',m'<16 - i/\∃ j:Nat,[AV.int .i64 (IntKind.wrap .i64 ((i:Int)+1))]=[.int .i64 (j:Nat)]/\j<=16/\m'=16 - j/\fH=fH/\∀ k,k<j->k≠m.ev.id.r.toNat - 1->m.ev.gR.getD k 0<=c.v.getD k 0:=fun o=>⟨16 - (i+1),by omega,i+1,by rw [uJ (by omega)],by omega,rfl,rfl,fun k M w=>by
  by_cases e:k=i
  ·subst e;exact o w
  ·exact n k (by omega) w⟩
 dsimp only;rw [hr];refine af.mk (fun J=>⟨_,_,A i (by omega),_,by rw [z.at.ak,rW y lg bh _ (by omega)],af.dec (fun K=>⟨⟨false,rfl,fun h=>by cases h⟩,d.ext⟩) (fun hle=>go fun _=>by omega)⟩) (fun heq=>go fun o=>?_);rw [bne_eq_false_iff_eq] at heq;exact absurd (by omega) o
end
theorem Sj {s:AS} {v:AV} {l:List gj} (b:Sl ep 21 s v l) (i:l.length<=2 ^ 30):aa Tryz.prog fh [v] s fun r s'=>aW ep 21 [] s s' r l:=by
 refine aa.pre fun j=>pO _ _ _ ?_;have main:aS (de T ay 0 []) fun k=>aj (.cells k 0 false) s fun l3 s4=>ig (aG T ay ay (.slc (some (l3,0)) 0 0 true) v s4) fun m s6=>aW ep 21 [] s s6 m l:=by
  refine ⟨_,xl eF,aj.intro j rfl fun l3 s4 F=>?_⟩;refine aW.iq eF aE bL F.wf (aW.start (M:=[]) F.ext.mut) (by simp) (b.ext F.ext) (by simpa using i) aR fun v' s' g _ _=>?_;simpa using g
 rcases b with ⟨rfl,_,d⟩ | ⟨a,c,e,rfl,hlen,h3⟩
 ·refine ⟨_,pA aR _ _ _ _,af.no rfl main⟩
 ·refine ⟨_,pz aR _ _ _ _ _ _ _ _,af.mk (fun h=>?_) (fun _=>main)⟩;have:a=none:=by simpa using h
  subst this;have:l=[]:=by
   rcases h3 with h3 | ⟨la,o,C,h,_⟩
   ·exact List.length_eq_zero_iff.1 h3
   ·cases h
  subst this;exact aW.nil
theorem bg.store {α:Type} {f:α->List AV} {sz:Nat} (hf:∀ x,(f x).length=sz) {s:AS} (b:aJ s) {v:AV} {l:List α} (h:bg f sz s v l) {i:Nat} (hi:i<l.length) (x:α) {T:TT} {t el:TypeId} (j:0<sz) (hu:T.cW t=some (.slice el)) (hs:T.eZ el=some sz) :
  ∃ la,ax v=[la]/\(∀ k,ag T t v (.int k (i:Nat))=some (.ptr (some (la,i*sz))))/\∀ {K:AS->Prop},(∀ s',bg f sz s' v (l.set i x)->aJ s'->bB [la] s s'->K s')->bC (cS s la (i*sz) (f x)) K:=by
 have c:=h.sl hf;rcases h with ⟨rfl,_⟩ | ⟨la,rfl,d⟩
 ·simp at hi
 ·refine ⟨la,rfl,fun k=>?_,fun {K} e=>bC.cS b d (by rw [hf,dY hf];exact Nat.le_trans (by rw [<- Nat.succ_mul];exact Nat.mul_le_mul_right _ hi) (Nat.le_refl _)) fun s' P=>e s' (.inr ⟨la,by simp,?_⟩) P.wf P.mut⟩
  ·obtain ⟨y,m⟩:=cF (l:=l) (i:=i) hi;simp [ag,hu,hs,hi]
  ·have:=P.at;rw [Jy hf l i x hi] at this;exact this
theorem XO {s:AS} {v:AV} {L:List gj} (M:Sl ep 21 s v L) (Z:L.length<=2 ^ 29) (j:∀ m∈L,rV s m/\m.ev.tW.length<=2 ^ 29/\m.ev.to.length<=2 ^ 29):aa Tryz.prog zJ [v] s fun r s'=>Ext s s':=by
 refine OV _ _ _ ?_;refine aa.use (Sj M (by omega)) ?_;rintro O s2 g w2;have e2:=g.eo.ext;refine ⟨_,(g.sl aE).b_ aR _,fun m' vs s'=>∃ (i:Nat) (e:List gj),vs=[.int .i64 (i:Nat)]/\i<=L.length/\m'=L.length - i/\aJ s'/\e.length=L.length/\bg ep 21 s' O e/\(∀ m∈e,(rV s m\/g_ (LB m) s' m)/\m.ev.tW.length<=2 ^ 29/\m.ev.to.length<=2 ^ 29)/\Ext s s',L.length,⟨0,L,rfl,by omega,rfl,w2,rfl,g.uQ,fun m hm=>⟨.inl (j m hm).1,(j m hm).2⟩,e2⟩,?_⟩;rintro m' n7 s8 ⟨i,e,hv,hi,rfl,w8,p,w,x,A⟩;simp only [List.cons.injEq,AV.int.injEq,true_and,and_true] at hv;subst hv;refine af.dec (fun Q=>?_) (fun R=>A);obtain ⟨y,J⟩:=cF (l:=e) (i:=i) (by omega);obtain ⟨la,o,S,U⟩:=(w.sl aE).ix (by decide) aE aR fB J;have k:=x y (List.mem_of_getElem? J);have B:rV s8 y:=by
  rcases k.1 with h | h
  ·exact h.ext A
  ·exact h.at
 refine ⟨la,o,S _,_,(U _ (Ext.refl _)).2,?_⟩;refine aa.use (uO B (by omega) (by omega)) ?_;rintro W bQ ⟨m2,G,C,rfl,X,nG,tG,b⟩ D;obtain ⟨lb,n,Y,F⟩:=bg.store aE D (w.ext b) (i:=i) (by omega) m2 (by decide) aR fB;refine ⟨_,rfl,lb,_,Y _,⟨bL m2,by rw [aE]⟩,F fun kU H I d=>⟨L.length - (i+1),by omega,i+1,e.set i m2,by rw [uJ (by omega)],by omega,rfl,I,by simp [p],H,fun m hm=>?_,?_⟩⟩
 ·have K:∀ z∈[lb],∀ g,Tag bQ z g->g=21:=fun z c g t=>by
   obtain rfl:=List.mem_singleton.1 c;exact t.uniq (bg.tag (w.ext b) _ (by rw [n];simp))
  rcases List.mem_or_eq_of_mem_set hm with hm | rfl
  ·refine ⟨?_,(x m hm).2⟩;rcases (x m hm).1 with h | h
   ·exact .inl h
   ·exact .inr ((h.ext b).ek d fun z c g t=>by rw [K z c g t];decide)
  ·refine ⟨.inr ?_,by rw [C];exact k.2⟩;have:=X.ek d fun z c g t=>by rw [K z c g t];decide
   exact ⟨this.1,this.2.1,fun z c=>List.mem_append.2 c⟩
 ·refine Ext.Vr (A.trans b) (fun z c=>?_) d;obtain rfl:=List.mem_singleton.1 c;exact g.new _ (by rw [n];simp)
end
section
open Go.Am Go.aq Go.aB Go.bq
structure OI (c:dX) (B:Nat):Prop where
 bd:c.log.length+c.nh<=B
 bl:c.JI.length=c.log.length
 vl:c.v.length=16
 vn:∀ k,k<16->0<=c.v.getD k 0/\c.v.getD k 0<=c.log.length
 ok:∀ e∈c.log,fN e=true
 up:∀ e∈c.log,e.id.c<=c.v.getD (e.id.r.toNat - 1) 0/\∀ k,k<16->e.gR.getD k 0<=c.v.getD k 0
 od:c.log.Pairwise fun e e'=>e.id≠e'.id/\e.gR.getD (e'.id.r.toNat - 1) 0<e'.id.c
 hd:∀ d e,c.held d=some e->fN e=true
theorem OI.zero:OI dX.zero 0:=by
 refine ⟨Nat.le_refl _,rfl,rfl,fun k b=>?_,(fun e h=>by cases h),(fun e h=>by cases h),List.Pairwise.nil,(fun d e h=>by cases h)⟩;have:dX.zero.v.getD k 0=0:=by
  simp only [dX.zero,dx,List.getD_eq_getElem?_getD,List.getElem?_replicate];split <;> rfl
 rw [this];simp
theorem OI.mono {c:dX} {B B':Nat} (h:OI c B) (hb:B<=B'):OI c B':=⟨Nat.le_trans h.bd hb,h.bl,h.vl,h.vn,h.ok,h.up,h.od,h.hd⟩
theorem sQ {e:Ev} (h:fN e=true):e.id.may=true/\e.tW.length<=512/\e.to.length<=1024/\tU e=true/\e.id.r<=3:=by
 simp only [fN,si,Bool.and_eq_true,decide_eq_true_eq] at h;exact ⟨h.1.1.1.1.1.1.1.1,h.1.1.1.1.2,h.1.1.1.2,h.1.1.1.1.1.1.2,h.1.2⟩
theorem UH {v:List Int} {i k:Nat} {x:Int} (hi:i<v.length):(v.set i x).getD k 0=if k=i then x else v.getD k 0:=by
 simp only [List.getD_eq_getElem?_getD,List.getElem?_set];by_cases h:k=i
 ·subst h;simp [hi]
 ·rw [if_neg h,if_neg (fun e=>h e.symm)]
theorem OI.apply {c:dX} {B:Nat} {e:Ev} (h:OI c B) (hm:fN e=true) (F:XN c.v e) (I:B<=100000):OI (c.apply e) (B+1):=by
 obtain ⟨z,_,_,p,_⟩:=sQ hm;obtain ⟨hr,d⟩:=qn z;obtain ⟨l,w⟩:=F;have G:=h.bd;generalize hi:e.id.r.toNat - 1=i at hr d l w;have H:=h.vn i d;have D:IntKind.wrap .u64 (c.v.getD i 0+1)=c.v.getD i 0+1:=gi (by omega);rw [D] at l;have hv:(c.apply e).v=c.v.set i (c.v.getD i 0+1):=by
  simp only [dX.apply,hi,D]
 have y:∀ k,(c.apply e).v.getD k 0=if k=i then c.v.getD i 0+1 else c.v.getD k 0:=fun k=>by
  rw [hv,UH (by rw [h.vl];exact d)]
 have m:∀ k,c.v.getD k 0<=(c.apply e).v.getD k 0:=fun k=>by
  rw [y k];split
  ·rename_i n;subst n;omega
  ·omega
 have o:∀ k,k<16->e.gR.getD k 0<=(c.apply e).v.getD k 0:=fun k n=>by
  by_cases x:k=i
  ·subst x;have:e.gR.getD k 0=IntKind.wrap .u64 (e.id.c - 1):=by
    rw [tU,decide_eq_true_eq,hi] at p;exact p
   rw [this,l,gi (by omega),y k,if_pos rfl];omega
  ·exact Int.le_trans (w k n x) (m k)
 refine ⟨by simp only [dX.apply,List.length_append,List.length_cons,List.length_nil];omega,by simp [dX.apply,h.bl],by rw [hv,List.length_set,h.vl],fun k n=>?_,fun a j=>?_,fun a j=>?_,?_,h.hd⟩
 ·have:=h.vn k n;rw [y k];simp only [dX.apply,List.length_append,List.length_cons,List.length_nil];split <;> omega
 ·rcases List.mem_append.1 (show a∈c.log++[e] from j) with j | j
  ·exact h.ok a j
  ·obtain rfl:=List.mem_singleton.1 j;exact hm
 ·rcases List.mem_append.1 (show a∈c.log++[e] from j) with j | j
  ·obtain ⟨A,C⟩:=h.up a j;exact ⟨Int.le_trans A (m _),fun k n=>Int.le_trans (C k n) (m k)⟩
  ·obtain rfl:=List.mem_singleton.1 j;refine ⟨?_,o⟩;rw [hi,y i,if_pos rfl,l];omega
 ·refine List.pairwise_append.2 ⟨h.od,List.pairwise_singleton _ _,fun a j b hb=>?_⟩;obtain rfl:=List.mem_singleton.1 hb;obtain ⟨A,C⟩:=h.up a j;refine ⟨fun e1=>?_,?_⟩
  ·rw [e1,hi] at A;omega
  ·rw [hi];have:=C i d;omega
def dX.hold (c:dX) (d:aO) (e:Ev):dX:={ c with held:=fun x=>if x=d then some e else c.held x,nh:=c.nh+1 }
def dX.free (c:dX) (d:aO):dX:={ c with held:=fun x=>if x=d then none else c.held x,nh:=c.nh - 1 }
theorem OI.hold {c:dX} {B:Nat} {d:aO} {e:Ev} (h:OI c B) (hm:fN e=true):OI (c.hold d e) (B+1) :=
 ⟨by simp only [dX.hold];have:=h.bd;omega,h.bl,h.vl,h.vn,h.ok,h.up,h.od,fun x y b=>by
  simp only [dX.hold] at b;split at b
  ·obtain rfl:=Option.some.inj b;exact hm
  ·exact h.hd x y b⟩
theorem OI.free {c:dX} {B:Nat} {d:aO} (h:OI c (B+1)) (e:1<=c.nh):OI (c.free d) B :=
 ⟨by simp only [dX.free];have:=h.bd;omega,h.bl,h.vl,h.vn,h.ok,h.up,h.od,fun x y b=>by
  simp only [dX.free] at b;split at b
  ·cases b
  ·exact h.hd x y b⟩
structure CS (F:List Nat) (s:AS) (p B:Nat) (s':AS) (F':List Nat) (c':dX):Prop where
 ca:gx F' s' p c'
 oi:OI c' B
 mu:bB F s s'
 nw:∀ y∈F',y∈F\/s.h y=none
 th:∀ y∈F',s'.h y≠none
section
variable {F F' V4:List Nat} {s s' s'':AS} {p B:Nat} {c' YT:dX}
theorem CS.ext (h:CS F s p B s' F' c') (e:Ext s' s''):CS F s p B s'' F' c':=⟨h.ca.ext e,h.oi,h.mu.trans e.mut,h.nw,fun y b=>Ext.there e (h.th y b)⟩
theorem CS.wr {B':Nat} (h:CS F s p B s' F' c') (m:bB F' s' s'') (e:gx V4 s'' p YT) (c:OI YT B') (i:∀ y∈V4,y∈F'\/s'.h y=none) (ht:∀ y∈V4,s''.h y≠none):CS F s p B' s'' V4 YT:=by
 refine ⟨e,c,⟨fun y o d c=>?_,Nat.le_trans h.mu.2 m.2⟩,fun y d=>?_,ht⟩
 ·refine m.1 y o (fun hm=>?_) (h.mu.1 y o d c);rcases h.nw y hm with b | b
  ·exact d b
  ·rw [c] at b;cases b
 ·rcases i y d with b | b
  ·exact h.nw y b
  ·exact qo h.mu b
end
abbrev YU:AV:=.agg JL
theorem LF:Ri (K:=aO) T cU gM gN dK YU :=
 ⟨tH,fun a b=>z5 a b,fun a=>Aa a.r a.c,fun a=>by simp [wQ,AL,aP],GR⟩
end
section
open Go.Am Go.aq Go.aB Go.bq
section
variable {F:List Nat} {s:AS} {p B:Nat} {c:dX}
theorem gx.find (h:gx F s p c) (d:aO):∃ (hm:Nat) (g:List AV) (b:Bool),ak s p (0+20)=some (.map (some hm))/\(∀ s',Ext s s'->dA T cU (.map (some hm)) (.agg (aP d)) true s'=some (.aQ [.agg g,.bool b]))/\g.length=21/\g.all AV.one=true/\aL T cU (.map (some hm)) s=some (.int .i64 (c.nh:Nat)) /\
  ((b=false/\c.held d=none)\/(b=true/\∃ m:gj,g=ep m/\c.held d=some m.ev/\g_ F s m/\1<=c.nh)):=by
 obtain ⟨r,lg,bh,hm,z,B,es,k,w,h2,h3,⟨a1,a2,a3,a4⟩,⟨A,C,D⟩,o,c2,x,y⟩:=h;refine ⟨hm,(((dF es d).map ep).getD JL),(dF es d).isSome,by rw [w.at.ak];exact (nJ r lg bh _).2.2,fun s' e=>?_,?_,?_,?_,?_⟩
 ·refine ((o.ext e).find LF d true).trans ?_;cases dF es d <;> rfl
 ·cases dF es d with
  | none=>rfl
  | some m=>exact aE m
 ·cases dF es d with
  | none=>rfl
  | some m=>exact bL m
 ·rw [o.b_ LF,x]
 ·cases l:dF es d with
  | none=>exact .inl ⟨rfl,by rw [<- c2,l];rfl⟩
  | some m =>
   obtain ⟨j,n,hj⟩:=qW l;have i:=List.mem_of_getElem? hj;refine .inr ⟨rfl,m,rfl,by rw [<- c2,l];rfl,y _ i,?_⟩;have:=List.length_pos_of_mem i;omega
theorem gx.free (h:gx F s p c) (G:∀ y∈F,s.h y≠none) (O:aJ s) {d:aO} {e:Ev} (hd:c.held d=some e) :
  ∃ hm,ak s p (0+20)=some (.map (some hm))/\∀ {Q:AS->Prop},(∀ s',gx F s' p (c.free d)->bB F s s'->(∀ y cs g,s.h y=some (.cells cs g false)->s'.h y=some (.cells cs g false))->(∀ y∈F,s'.h y≠none)->aJ s'->Q s')->bC (mM T cU (.map (some hm)) (.agg (aP d)) s) Q:=by
 obtain ⟨J,lg,bh,hm,R,B,es,k,H,h2,h3,⟨a1,a2,a3,a4⟩,⟨K,S,U⟩,L,c2,c3,W⟩:=h;cases M:dF es d with
 | none =>
  have:=c2 d;rw [M,hd] at this;cases this
 | some m =>
  refine ⟨hm,by rw [H.at.ak];exact (nJ J lg bh _).2.2,fun {Q} X=>eR.del LF O L d M fun s' es' I r hlen w' m'=>?_⟩;have l:∀ {y g:Nat},Tag s y g->y ∉ [hm]:=fun Y b=>by
   obtain rfl:=List.mem_singleton.1 b;exact Tag.JN L.obj Y
  have w:∀ {x:gj},g_ F s x->g_ F s' x:=fun {x} i=>⟨i.1.mut m' (fun y b=>l (bg.tag i.1 y b)),i.2.1.mut m' (fun y b=>l (bg.tag i.2.1 y b)),i.2.2⟩;refine X s' ⟨J,lg,bh,hm,R,B,es',k,H.mut m' (l (Own.tag H)),h2,h3,⟨a1.mut m' (fun y b=>l (bg.tag a1 y b)),a2,a3,fun x i=>w (a4 x i)⟩,⟨K.mut m' (fun y b=>l (bg.tag K y b)),S,U⟩,I,fun x=>?_,by simp only [dX.free];omega,fun x i=>?_⟩ (m'.mono fun y b=>by obtain rfl:=List.mem_singleton.1 b;exact h3) (fun y cs g b=>m'.1 y _ (l ⟨cs,b⟩) b) (fun y b=>?_) w'
  ·rw [r];simp only [dX.free];by_cases i:x=d
   ·rw [if_pos i,if_pos i];rfl
   ·rw [if_neg i,if_neg i];exact c2 x
  ·have z:=xo I.nd i;rw [r] at z;by_cases A:x.1=d
   ·rw [if_pos A] at z;cases z
   ·rw [if_neg A] at z;obtain ⟨j,n,hj⟩:=qW z;have Z:=W _ (List.mem_of_getElem? hj);exact w Z
  ·by_cases C:y=hm
   ·subst C;rw [I.obj];simp
   ·cases D:s.h y with
    | none=>exact absurd D (G y b)
    | some o=>rw [m'.1 y o (by simpa using C) D];simp
theorem gx.hold {G:List Nat} (h:gx F s p c) (J:∀ y∈F,s.h y≠none) (W:aJ s) {d:aO} {m:gj} (hm:g_ G s m) (X:∀ y∈G,s.h y≠none) (hd:c.held d=none) {hp:Nat} (hr:ak s p (0+20)=some (.map (some hp))) {Q:AS->Prop} (Y:∀ s',gx (G++F) s' p (c.hold d m.ev)->bB F s s'->(∀ y∈G++F,s'.h y≠none)->aJ s'->Q s') :
  bC (dG T cU (.map (some hp)) (.agg (aP d)) (.agg (ep m)) s) Q:=by
 obtain ⟨S,lg,bh,w,Z,B,es,k,L,h2,h3,⟨a1,a2,a3,a4⟩,⟨U,b2,b3⟩,M,c2,c3,c4⟩:=h;obtain rfl:w=hp:=by
  rw [L.at.ak,(nJ S lg bh _).2.2] at hr;simpa using hr
 have O:dF es d=none:=by
  have:=c2 d;rw [hd] at this;cases O:dF es d with
  | none=>rfl
  | some x=>rw [O] at this;cases this
 refine eR.pq LF W M d m fun s' es' k' I l w' m'=>?_;have r:∀ {y g:Nat},Tag s y g->y ∉ [w]:=fun tg b=>by
  obtain rfl:=List.mem_singleton.1 b;exact Tag.JN M.obj tg
 have z:∀ {K:List Nat} {x:gj},g_ K s x->g_ K s' x:=fun {K x} e=>⟨e.1.mut m' (fun y b=>r (bg.tag e.1 y b)),e.2.1.mut m' (fun y b=>r (bg.tag e.2.1 y b)),e.2.2⟩;have i:∀ {y:Nat},y∈F->y∈G++F:=fun b=>List.mem_append_right _ b;refine Y s' ⟨S,lg,bh,w,Z,B,es',k',L.mut m' (r (Own.tag L)),i h2,i h3,⟨a1.mut m' (fun y b=>r (bg.tag a1 y b)),fun y b=>i (a2 y b),a3,fun x e=>(z (a4 x e)).sub fun y b=>i b⟩,⟨U.mut m' (fun y b=>r (bg.tag U y b)),fun y b=>i (b2 y b),b3⟩,I,fun x=>?_,?_,fun x e=>?_⟩ (m'.mono fun y b=>by obtain rfl:=List.mem_singleton.1 b;exact h3) (fun y b=>?_) w'
 ·rw [l];simp only [dX.hold];by_cases e:x=d
  ·rw [if_pos e,if_pos e];rfl
  ·rw [if_neg e,if_neg e];exact c2 x
 ·rw [FH M.nd I.nd l,O,c3];rfl
 ·have A:=xo I.nd e;rw [l] at A;by_cases C:x.1=d
  ·rw [if_pos C] at A;rw [<- Option.some.inj A];exact (z hm).sub fun y b=>List.mem_append_left _ b
  ·rw [if_neg C] at A;obtain ⟨j,n,hj⟩:=qW A;have h6:=c4 _ (List.mem_of_getElem? hj);exact (z h6).sub fun y b=>i b
 ·have R:s.h y≠none:=by
   rcases List.mem_append.1 b with b | b
   ·exact X y b
   ·exact J y b
  by_cases D:y=w
  ·subst D;rw [I.obj];simp
  ·cases H:s.h y with
   | none=>exact absurd H R
   | some o=>rw [m'.1 y o (by simpa using D) H];simp
set_option maxRecDepth 20000 in
theorem UI (h:gx F s p c) (a6:∀ y∈F,s.h y≠none) (oi:OI c B) (hB:B<=10000) {m:gj} (hm:rV s m) :
  aa Tryz.prog iy [.ptr (some (p,0)),.agg (ep m)] s fun r s'=>(∃ (a:AV) (z:Int),r=.aQ [a,.int .i64 z])/\∃ F' c',CS F s p (B+1) s' F' c':=by
 have ev:=aE m;have S0:∀ {s':AS},Ext s s'->CS F s p (B+1) s' F c:=fun e=>⟨h.ext e,oi.mono (by omega),e.mut,fun y j=>.inl j,fun y j=>Ext.there e (a6 y j)⟩;refine aa.pre fun hw=>yV _ _ _ _ ⟨bL m,aj.intro hw rfl fun l1 s2 R=>?_⟩;refine aa.use (uP (h.ext R.ext)) ?_;rintro v3 s4 ⟨rfl,rfl⟩ w4;refine ⟨_,rfl,af.no rfl ⟨_,R.own.at.aD (by omega),?_⟩⟩;rw [dI];refine aa.use (Uh (h.ext R.ext) (hm.ext R.ext)) ?_;rintro v7 s8 ⟨rfl,e8⟩ w8;have E8:=R.ext.trans e8;have o8:=R.own.ext e8;refine ⟨_,rfl,af.mk (fun hb=>⟨⟨_,_,rfl⟩,F,c,S0 E8⟩) (fun hb=>?_)⟩;have A:fN m.ev=true:=by simpa using hb
 obtain ⟨X,dC,dE,_,_⟩:=sQ A;obtain ⟨dT,g,b,cb,cc,cd,ce,d',Y⟩:=(h.ext E8).find m.ev.id;refine ⟨_,cb,_,o8.at.aD (by omega),g,b,?_,jK w8 (by rw [cd]) rfl ce fun qZ eH a7=>?_⟩
 ·rw [Ar];exact cc _ (Ext.refl _)
 have K:=E8.trans a7.ext;have L:=o8.ext a7.ext;obtain ⟨hl,lg,bh,sU,L',B',es,k,h1,_⟩:=id (h.ext K);obtain ⟨hr,a8⟩:=qn X;refine ⟨fun vs s'=>∃ Z:Bool,vs=[.bool Z]/\s'=eH/\(Z=false->c.held m.ev.id=none),?_,?_⟩;rotate_left
 ·rcases Y with ⟨rfl,ab⟩ | ⟨rfl,_⟩
  ·refine af.no rfl ⟨m.ev.id.c,by rw [L.at.ak];rfl,m.ev.id.r,by rw [L.at.ak];rfl,?_⟩;dsimp only;rw [hr];exact ⟨_,_,by rw [M_ (by omega)],_,by
    rw [h1.at.ak,show 0+2+((m.ev.id.r.toNat - 1:Nat):Int).toNat*1=2+(m.ev.id.r.toNat - 1) by omega];exact rW hl lg bh _ a8,_,rfl,rfl,fun _=>ab⟩
  ·exact af.yes rfl ⟨true,rfl,rfl,fun h=>by cases h⟩
 rintro Z gl ⟨b3,hv,rfl,ab⟩;simp only [List.cons.injEq,AV.bool.injEq,and_true] at hv;subst hv;refine af.mk (fun _=>⟨⟨_,_,rfl⟩,F,c,S0 K⟩) (fun cf=>?_);have ad:=ab cf;refine ⟨_,L.at.aD (by omega),?_⟩;rw [dI];refine aa.use (UG (h.ext K) X) ?_;rintro ea ch ⟨⟨eb,rfl,a9⟩,a'⟩ ed;have n:=K.trans a';have ae:=L.ext a';obtain ⟨ci,_,_,C,_,_,_,al,_⟩:=(h.ext n).find m.ev.id;refine ⟨_,rfl,af.mk (fun S=>?_) (fun S=>?_)⟩
 ·refine ⟨_,C,_,al,af.mk (fun _=>⟨⟨_,_,rfl⟩,F,c,S0 n⟩) (fun _=>?_)⟩;refine ⟨fun q _ v s'=>q=7->∃ (m':gj) (G:List Nat),v=.agg (ep m')/\m'.ev=m.ev/\g_ G s' m'/\(∀ y∈G,ch.h y=none)/\∀ y∈G,s'.h y≠none,fun q _ v=>q=7->∃ m':gj,v=.agg (ep m'),fun q _ v a b e g hq=>by
   obtain ⟨m',G,x1,x2,x3,x4,x5⟩:=g hq;exact ⟨m',G,x1,x2,x3.ext e,x4,fun y j=>Ext.there e (x5 y j)⟩,_,C,_,ae.at.aD (by omega),_,ae.at.aD (by omega),?_⟩
  rw [dI,Ar];refine ⟨fun eg ba eh _=>?_,⟨.agg (ep m),fun _=>⟨m,rfl⟩⟩,fun ei bb=>?_⟩
  ·refine (uO (hm.ext (n.trans ba)) (by omega) (by omega)).mono ?_;rintro w s' ⟨m',G,ck,rfl,gE,nG,tG,e⟩;exact ⟨_,rfl,e,(fun _=>⟨m',G,rfl,ck,gE,fun y j=>ba.none (nG y j),tG⟩),fun _=>⟨m',rfl⟩⟩
  ·obtain ⟨m',rfl⟩:=bb rfl;refine ⟨_,rfl,fun cl am cm hS=>?_⟩;obtain ⟨m2,G,x1,x2,x3,x4,x5⟩:=hS.1 rfl;simp only [AV.agg.injEq] at x1;rw [x1];have bc:=n.trans am;have cn:ak cl p (0+20)=some (.map (some ci)):=u7 am C;refine gx.hold (h.ext bc) (fun y j=>Ext.there bc (a6 y j)) cm x3 x5 ad cn fun s' hC m' ht w'=>⟨⟨_,_,rfl⟩,G++F,_,(S0 n).wr (am.mut.trans m') hC (by rw [x2];exact oi.hold A) (fun y j=>?_) ht⟩;rcases List.mem_append.1 j with j | j
   ·exact .inr (x4 y j)
   ·exact .inl j
 ·have cp:=a9 (by simpa using S);obtain ⟨cr,be,cs,ej,L2,B2,em,k2,i1,_,_,⟨j1,j2,j3,j4⟩,_⟩:=id (h.ext n);have cu:L2.length=c.log.length:=by rw [<- j3,List.length_map]
  have et:=oi.bd;refine ⟨be,by rw [i1.at.ak];exact (nJ cr be cs _).1,_,(j1.sl aE).b_ aR _,_,ae.at.aD (by omega),?_⟩;rw [dI,cu];refine aa.use (uO (hm.ext n) (by omega) (by omega)) ?_;rintro eA eB ⟨m1,G,U,rfl,gE,nG,tG,an⟩ eI;refine ⟨_,rfl,?_⟩;refine aa.use (HP (h.ext (n.trans an)) gE (by rw [U];exact X) (by omega) (by rw [oi.bl];omega)) ?_;rintro eQ FN ⟨rfl,F1,bi,cv,cw,cx,_⟩ cy;rw [U] at bi;have cz:CS F s p (B+1) FN F1 (c.apply m.ev):=by
   refine (S0 n).wr (an.mut.trans cv) bi (oi.apply A cp (by omega)) (fun y j=>?_) cx;rcases cw y j with h | h | h
   ·exact .inl h
   ·exact .inr (nG y h)
   ·exact .inr (an.none h)
  refine ⟨rfl,fun vs s'=>∃ F' c',CS F s p (B+1) s' F' c'/\c.log.length<=c'.log.length,?_,?_⟩
  ·rintro e0 ⟨F',c',C',hlen⟩;obtain ⟨ao,M,ar,cA,L3,B3,cB,k3,q1,_,_,⟨r1,r2,r3,r4⟩,_⟩:=id C'.ca;have e1:L3.length=c'.log.length:=by rw [<- r3,List.length_map]
   have bj:=C'.oi.bd;obtain ⟨cC,c0,c1⟩:=(r1.sl aE).rest aE aR fB (i:=c.log.length) (by omega) .i64;refine ⟨M,by rw [q1.at.ak];exact (nJ ao M ar _).1,cC,c0,?_⟩;refine aa.use (XO c1 (by simp;omega) fun x hx=>?_) ?_
   ·have bk:=List.mem_of_mem_drop hx;have c2:x.ev∈c'.log:=by rw [<- r3];exact List.mem_map.2 ⟨x,bk,rfl⟩
    obtain ⟨_,x1,x2,_⟩:=sQ (C'.oi.ok _ c2);exact ⟨(r4 x bk).at,by omega,by omega⟩
   ·rintro e2 e3 c3 e4;exact ⟨⟨_,_,rfl⟩,F',c',C'.ext c3⟩
  ·refine ⟨fun m' vs s'=>∃ (r:Nat) (F':List Nat) (c':dX),vs=[.int .i64 (r:Nat)]/\1<=r/\r<=4/\m'=c'.nh*5+(4 - r)/\aJ s'/\CS F s p (B+1) s' F' c'/\c.log.length<=c'.log.length,_,⟨1,F1,_,rfl,by omega,by omega,rfl,cy,cz,by simp [dX.apply]⟩,?_⟩;rintro m' e5 Bi ⟨r,F',c',hv,e6,e7,rfl,c4,O,hlen⟩;simp only [List.cons.injEq,AV.int.injEq,true_and,and_true] at hv;subst hv;obtain ⟨ao,M,ar,cA,L3,B3,cB,k3,q1,_⟩:=id O.ca;have bj:=O.oi.bd;refine ⟨3,by rw [q1.at.ak];rfl,af.dec (fun hle=>?_) (fun e9=>⟨F',c',O,hlen⟩)⟩;have c5:IntKind.wrap .i64 ((r:Int) - 1)=((r - 1:Nat):Int):=by rw [a_ (by omega)];omega
   rw [c5];refine ⟨_,_,by rw [M_ (by omega)],c'.v.getD (r - 1) 0,by
    rw [q1.at.ak,show 0+2+((r - 1:Nat):Int).toNat*1=2+(r - 1) by omega];exact rW ao M ar _ (by omega),_,vR _ _,jK c4 rfl rfl rfl fun c6 bm aw=>?_⟩
   generalize hd:(⟨(r:Int),IntKind.wrap .u64 (c'.v.getD (r - 1) 0+1)⟩:aO)=d;have bo:Am.Own bm c6 (aP d):=by rw [<- hd];exact aw.own
   have bs:=O.ext aw.ext;obtain ⟨e',Vh,c7,t20,c8,c9,da,fa,a0⟩:=bs.ca.find d;refine ⟨_,t20,_,bo.at.aD (by simp [aP]),Vh,c7,c8 _ (Ext.refl _),jK aw.wf (by rw [c9]) rfl da fun bx b0 D=>?_⟩;have db:=bo.ext D.ext;have a1:=bs.ext D.ext;have b1:Am.Own b0 bx Vh:=D.own;refine ⟨fun vs s'=>∃ Z:Bool,vs=[.bool Z]/\Ext b0 s'/\aJ s'/\(Z=true->∃ x:gj,Vh=ep x/\c'.held d=some x.ev/\g_ F' bm x/\1<=c'.nh/\XN c'.v x.ev),?_,?_⟩
   ·rintro fb dc ⟨Z,hv,Q,b4,hx⟩;simp only [List.cons.injEq,AV.bool.injEq,and_true] at hv;subst hv;have o:=a1.ext Q;refine af.mk (fun hb=>?_) (fun _=>⟨c'.nh*5+(4 - (r+1)),by omega,r+1,F',c',by rw [uJ (by omega)],by omega,by omega,rfl,b4,o,hlen⟩);obtain ⟨x,rfl,H,a2,a3,dd⟩:=hx hb;obtain ⟨bX,t90,df⟩:=o.ca.free o.th b4 H;refine ⟨_,t90,_,(db.ext Q).at.aD (by simp [aP]),df fun a4 b5 dk W t95 fc=>?_⟩;have I:=o.oi.hd _ _ H;obtain ⟨b6,fe,fg,_⟩:=sQ I;have gk:∀ {α:Type} {f:α->List AV} {sz:Nat} {v:AV} {l:List α},bg f sz dc v l->bg f sz a4 v l:=fun g=>by
     rcases g with g | ⟨la,e,ho⟩
     ·exact .inl g
     ·exact .inr ⟨la,e,W _ _ _ ho⟩
    have J:=(a2.ext D.ext).ext Q;have b7:g_ F' a4 x:=⟨gk J.1,gk J.2.1,J.2.2⟩;have dl:Am.Own a4 bx (ep x):=W _ _ _ (b1.ext Q);have a5:=o.wr dk b5 (o.oi.free a3) (fun y j=>.inl j) t95;refine ⟨_,dl.at.aD (by rw [aE];omega),?_⟩;rw [dI];refine aa.use (HP a5.ca b7 b6 (by simp only [dX.free];omega) (by simp only [dX.free];have:=o.oi.bl;omega)) ?_;rintro fi fp ⟨rfl,R,dm,dp,dr,ds,_⟩ dt;have du:=a5.wr dp dm (a5.oi.apply I dd (by omega)) (fun y j=>(dr y j).elim .inl fun h=>h.elim .inl .inr) ds;exact ⟨rfl,(c'.nh - 1)*5+3,by omega,1,R,_,rfl,by omega,by omega,by simp [dX.apply,dX.free],dt,du,by simp [dX.apply,dX.free];omega⟩
   ·rcases a0 with ⟨rfl,_⟩ | ⟨rfl,x,rfl,H,a2,a3⟩
    ·exact af.no rfl ⟨false,rfl,Ext.refl _,D.wf,fun h=>by cases h⟩
    ·refine af.yes rfl ⟨_,b1.at.aD (by rw [aE];omega),?_⟩;rw [dI];refine aa.use (UG a1.ca (sQ (a1.oi.hd _ _ H)).1) ?_;rintro dv dy ⟨⟨b8,rfl,hc⟩,b9⟩ b';exact ⟨_,rfl,b8,rfl,b9,b',fun hb=>⟨x,rfl,H,a2,a3,hc hb⟩⟩
end
end
section
open Go.Am Go.aq Go.aB Go.bq
theorem UJ {v:List Int} (h:v.length=16) (lg bh hd hd':AV):(fU v lg bh hd).set 20 hd'=fU v lg bh hd':=by
 simp [fU,List.set_append,h]
structure RS (F:List Nat) (s:AS) (p B:Nat) (h0:AV) (s':AS) (F':List Nat) (hd':AV) (H':List gj) (v':List Int) (n':Nat):Prop where
 rc:Fm hd' F' s' p v' n'
 row:bg ep 21 s' hd' H'
 dj:∀ y∈ax hd',y ∉ F'
 ok:∀ m∈H',m.ev.id.may=true
 bd:n'+H'.length<=B
 mu:bB F s s'
 nw:∀ y∈F',y∈F\/s.h y=none
 nh:∀ y∈ax hd',y∈ax h0\/y∈F\/s.h y=none
 th:∀ y∈F',s'.h y≠none
section
variable {F F' V4:List Nat} {s s' s'':AS} {p B n' YV:Nat} {h0 hd' Za:AV} {H' Zc:List gj} {v' v'':List Int}
theorem RS.ext (h:RS F s p B h0 s' F' hd' H' v' n') (e:Ext s' s''):RS F s p B h0 s'' F' hd' H' v' n' :=
 ⟨h.rc.ext e,h.row.ext e,h.dj,h.ok,h.bd,h.mu.trans e.mut,h.nw,h.nh,fun y b=>Ext.there e (h.th y b)⟩
theorem RS.wr (h:RS F s p B h0 s' F' hd' H' v' n') (m:bB F' s' s'') (i:Fm hd' V4 s'' p v'' YV) (hb:YV+H'.length<=B) (d:∀ y∈V4,y∈F'\/s'.h y=none) (ht:∀ y∈V4,s''.h y≠none):RS F s p B h0 s'' V4 hd' H' v'' YV:=by
 refine ⟨i,h.row.mut m h.dj,fun y c j=>?_,h.ok,hb,⟨fun y o c e=>?_,Nat.le_trans h.mu.2 m.2⟩,fun y c=>?_,h.nh,ht⟩
 ·rcases d y j with b | b
  ·exact h.dj y c b
  ·exact bg.jG h.row y c b
 ·refine m.1 y o (fun hm=>?_) (h.mu.1 y o c e);rcases h.nw y hm with b | b
  ·exact c b
  ·rw [e] at b;cases b
 ·rcases d y c with b | b
  ·exact h.nw y b
  ·exact qo h.mu b
theorem RS.held (h:RS F s p B h0 s' F' hd' H' v' n') {s2:AS} (m2:bB [] s' s2\/Ext s' s2) (A:aJ s2) {w:AV} {k:List gj} (g:bg ep 21 s2 w k) (c:∀ y∈ax w,s'.h y=none) (l:∀ m∈k,m.ev.id.may=true) {B2:Nat} (hb:n'+k.length<=B2) {Q:AS->Prop}
  (C:∀ s3,RS F s p B2 h0 s3 F' w k v' n'->aJ s3->bB [p] s2 s3->Q s3):e_ T ay s2 p (0+20) w Q:=by
 have e:Ext s' s2:=by
  rcases m2 with m | e
  ·exact m.ext
  ·exact e
 have D:=h.rc.ext e;obtain ⟨n,lg,bh,L,Bb,d,h2,⟨a1,a2,a3⟩,⟨G,H,I⟩⟩:=id D;have r:=nI n lg bh hd';refine cP (bg.one g) uo (bC.own A d (by simp [r]) fun s3 P=>C s3 ?_ P.wf P.mut);have x:Am.Own s3 p (fU v' lg bh w):=by
  have:=P.at;rw [fA,Nat.zero_add,UJ n] at this;exact this
 have t:∀ y∈[p],∀ g,Tag s2 y g->g=0:=fun y b g t=>by
  obtain rfl:=List.mem_singleton.1 b;exact t.uniq (Own.tag d)
 have M:bB F' s' s3:=e.mut.trans (P.mut.mono fun y b=>by obtain rfl:=List.mem_singleton.1 b;exact h2);refine ⟨⟨n,lg,bh,L,Bb,x,h2,⟨bg.ek a1 P.mut fun y b g i=>by rw [t y b g i];decide,a2,a3⟩,⟨bg.ek G P.mut fun y b g i=>by rw [t y b g i];decide,H,I⟩⟩,bg.ek g P.mut fun y b g i=>by rw [t y b g i];decide,fun y b J=>h.th y J (c y b),l,hb,⟨fun y o b z=>?_,Nat.le_trans h.mu.2 M.2⟩,h.nw,fun y b=>.inr (qo h.mu (c y b)),fun y b=>?_⟩
 ·refine M.1 y o (fun hm=>?_) (h.mu.1 y o b z);rcases h.nw y hm with d | d
  ·exact b d
  ·rw [z] at d;cases d
 ·by_cases j:y=p
  ·subst j;rw [x];simp
  ·rw [P.eq y j];exact Ext.there e (h.th y b)
theorem QU {hd:AV} {n:Nat} {v:List Int} (h:Fm hd F s p v n) (m:gj) (k:m.ev.id.may=true):aa Tryz.prog iS [.ptr (some (p,0)),.agg (ep m)] s fun r s'=>(∃ b:Bool,r=.bool b)/\Ext s s':=by
 have ev:=aE m;refine aa.pre fun x=>zU _ _ _ _ ⟨bL m,aj.intro x rfl fun l1 s2 d=>?_⟩;obtain ⟨l,lg,bh,A,B,o,_⟩:=h.ext d.ext;obtain ⟨hr,w⟩:=qn k;refine ⟨fun m' vs s'=>∃ i:Nat,vs=[.int .i64 (i:Nat)]/\i<=16/\m'=16 - i/\s'=s2,16,⟨0,rfl,by omega,rfl,rfl⟩,?_⟩;rintro m' C s7 ⟨i,hv,hi,rfl,rfl⟩;simp only [List.cons.injEq,AV.int.injEq,true_and,and_true] at hv;subst hv;have go:∃ m',m'<16 - i/\i<16->∃ m',m'<16 - i/\∃ j:Nat,[AV.int .i64 (IntKind.wrap .i64 ((i:Int)+1))]=[.int .i64 (j:Nat)]/\j<=16/\m'=16 - j/\s7=s7:=⟨0,fun ⟨_,h2⟩=>⟨16 - (i+1),by omega,i+1,by rw [uJ (by omega)],by omega,rfl,rfl⟩⟩;have e:ag T cD (.ptr (some (p,0+2))) (.int .i64 ((i:Nat):Int))=some (.ptr (some (p,2+i)))\/16<=i:=by
  by_cases h:i<16
  ·left;rw [K5 (by omega)];simp
  ·exact .inr (by omega)
 refine af.dec (fun y=>⟨m.ev.id.r,by rw [d.own.at.ak];rfl,?_⟩) (fun z=>⟨⟨true,rfl⟩,d.ext⟩);have e:=e.resolve_right (by omega);have next:∃ m',m'<16 - i/\∃ j:Nat,[AV.int .i64 (IntKind.wrap .i64 ((i:Int)+1))]=[.int .i64 (j:Nat)]/\j<=16/\m'=16 - j/\s7=s7:=⟨16 - (i+1),by omega,i+1,by rw [uJ (by omega)],by omega,rfl,rfl⟩
 have hp:ag T aX (.ptr (some (l1,4))) (.int .i64 ((i:Nat):Int))=some (.ptr (some (l1,4+i))):=by
  rw [M_ (by omega)];simp
 refine af.mk (fun _=>⟨_,_,e,_,by rw [o.at.ak,rW l lg bh _ (by omega)],m.ev.id.c,by rw [d.own.at.ak];rfl,af.mk (fun _=>⟨⟨false,rfl⟩,d.ext⟩) (fun _=>next)⟩) (fun _=>⟨_,_,hp,_,by rw [d.own.at.ak,uN m (by omega)],_,_,e,_,by rw [o.at.ak,rW l lg bh _ (by omega)],af.mk (fun _=>⟨⟨false,rfl⟩,d.ext⟩) (fun _=>next)⟩)
theorem JS {hd:AV} {n:Nat} {v:List Int} (h:Fm hd F s p v n):ak s p (0+20)=some hd/\∃ (lg:AV) (L:List gj),ak s p (0+18)=some lg/\bg ep 21 s lg L/\L.length=n:=by
 obtain ⟨b,lg,bh,L,B,c,h2,⟨a1,a2,a3⟩,_⟩:=h;exact ⟨by rw [c.at.ak];exact (nJ b lg bh _).2.2,lg,L,by rw [c.at.ak];exact (nJ b lg bh _).1,a1,a3⟩
theorem bg.XP {α:Type} {f:α->List AV} {sz:Nat} {s:AS} {v:AV} {l:List α} (h:bg f sz s v l):v≠.emp:=by
 rcases h with ⟨_,a,rfl⟩ | ⟨la,rfl,_⟩ <;> exact fun e=>by cases e
set_option maxRecDepth 20000 in
set_option maxHeartbeats 1000000 in
theorem Sk {hd:AV} {n:Nat} {v:List Int} {H:List gj} (h:Fm hd F s p v n) (ch:∀ y∈F,s.h y≠none) (gH:bg ep 21 s hd H) (dj:∀ y∈ax hd,y ∉ F) (a1:∀ m∈H,m.ev.id.may=true) (hB:n+H.length<=B) (eg:B<=10000) (m:gj) (Y:m.ev.id.may=true) :
  aa Tryz.prog gG [.ptr (some (p,0)),.agg (ep m)] s fun r s'=>(∃ (a:AV) (b:Bool),r=.aQ [a,.bool b])/\∃ F' hd' H' v' n',RS F s p (B+1) hd s' F' hd' H' v' n':=by
 have ev:=aE m;have S0:∀ {s':AS},Ext s s'->RS F s p (B+1) hd s' F hd H v n:=fun e=>⟨h.ext e,gH.ext e,dj,a1,by omega,e.mut,fun y G=>.inl G,fun y G=>.inl G,fun y G=>Ext.there e (ch y G)⟩;refine aa.pre fun hw=>xV _ _ _ _ ⟨bL m,aj.intro hw rfl fun l1 s2 z=>⟨m.ev.id.c,by rw [z.own.at.ak];rfl,m.ev.id.r,by rw [z.own.at.ak];rfl,?_⟩⟩;obtain ⟨hl,ci,ck,L0,B0,h1,_⟩:=id (h.ext z.ext);obtain ⟨hr,a'⟩:=qn Y;dsimp only;rw [hr];have o2:Am.Own s2 l1 (ep m):=z.own;refine ⟨_,_,by rw [K5 (by omega)],v.getD (m.ev.id.r.toNat - 1) 0,by
  rw [h1.at.ak,show 0+2+((m.ev.id.r.toNat - 1:Nat):Int).toNat*1=2+(m.ev.id.r.toNat - 1) by omega];exact rW hl ci ck _ a',af.mk (fun _=>⟨⟨_,_,rfl⟩,F,hd,H,v,n,S0 z.ext⟩) (fun _=>?_)⟩
 refine ⟨fun vs s'=>Ext s2 s'/\aJ s',?_,?_⟩;rotate_left
 ·refine ⟨fun m' vs s'=>s'=s2/\∃ i:Nat,vs=[.int .i64 (i:Nat)]/\i<=H.length/\m'=H.length - i,H.length,⟨rfl,0,rfl,by omega,rfl⟩,?_⟩;rintro m' dC ba ⟨rfl,i,hv,hi,rfl⟩;simp only [List.cons.injEq,AV.int.injEq,true_and,and_true] at hv;subst hv;have gs:=(gH.ext z.ext).sl aE;refine ⟨hd,(JS (h.ext z.ext)).1,_,gs.b_ aR _,af.dec (fun bb=>?_) (fun _=>⟨Ext.refl _,z.wf⟩)⟩;obtain ⟨x,A⟩:=cF (l:=H) (i:=i) (by omega);obtain ⟨la,o,k8,k9⟩:=gs.ix (by decide) aE aR fB A;have I:aD ba la o 2=some (aP x.ev.id):=by
   rw [lP (k9 _ (Ext.refl _)).2 (m:=2) (by omega)];rfl
  refine ⟨hd,(JS (h.ext z.ext)).1,la,o,k8 _,_,I,_,o2.at.aD (by omega),?_⟩;rw [Ar];exact ⟨_,z5 _ _,af.mk (fun _=>⟨⟨_,_,rfl⟩,F,hd,H,v,n,S0 z.ext⟩) (fun _=>⟨H.length - (i+1),by omega,rfl,i+1,by rw [uJ (by omega)],by omega,rfl⟩)⟩
 rintro cl ⟨a2,eh⟩;have a3:=z.ext.trans a2;refine ⟨fun vs s'=>Ext cl s'/\aJ s',?_,?_⟩;rotate_left
 ·have bc:=o2.ext a2;refine ⟨_,bc.at.aD (by omega),?_⟩;rw [dI];refine aa.use (QU (h.ext a3) m Y) ?_;rintro ei C ⟨⟨ej,rfl⟩,a4⟩ be;have Z:=a3.trans a4;have bh:=bc.ext a4;have gs:=(gH.ext Z).sl aE;have J:=(JS (h.ext Z)).1;refine ⟨_,rfl,af.mk (fun _=>?_) (fun _=>⟨a4,be⟩)⟩;refine ⟨hd,J,_,gs.b_ aR _,af.mk (fun _=>⟨⟨_,_,rfl⟩,F,hd,H,v,n,S0 Z⟩) (fun _=>?_)⟩;refine ⟨fun vs s'=>∃ (i:Nat) (w:AV),vs=[w,.int .i64 (i:Nat)]/\i<=H.length/\aW ep 21 [] C s' w (H.take i)/\aJ s',?_,fun m' vs s'=>∃ (i:Nat) (w:AV),vs=[w,.int .i64 (i:Nat)]/\i<=H.length/\m'=H.length - i/\aW ep 21 [] C s' w (H.take i)/\aJ s',H.length,⟨0,_,rfl,by omega,rfl,by simpa using aW.start (bB.refl [] C),be⟩,?_⟩
  ·rintro em et Xa ⟨i,w,hv,hi,g,cm⟩;simp only [List.cons.injEq,AV.int.injEq,true_and,and_true] at hv;obtain ⟨rfl,rfl⟩:=hv;have cn:Ext C Xa:=g.eo.ext;refine ⟨_,(bh.ext cn).at.aD (by omega),?_⟩;rw [dI];refine aW.iu eF aE bL cm g (by simp) m (by simp;omega) fun eA Yv bi cp _=>?_;have bj:Ext C Yv:=bi.eo.ext;have bk:=gs.ext bj;obtain ⟨bl,bm,bo⟩:=bk.rest aE aR fB (i:=i) hi .i64;refine ⟨hd,u7 bj J,bl,bm,?_⟩;refine aW.iq eF aE bL cp bi (by simp) bo (by simp;omega) aR fun bs dE K bx _=>?_;refine RS.held (B2:=B+1) (S0 Z) (.inr K.eo.ext) bx K.uQ K.new (fun x A=>?_) (by simp;omega) fun s3 R3 w3 _=>⟨⟨_,_,rfl⟩,F,bs,_,v,n,R3⟩;rcases List.mem_append.1 A with A | A
   ·rcases List.mem_append.1 A with A | A
    ·exact a1 x (List.mem_of_mem_take A)
    ·obtain rfl:=List.mem_singleton.1 A;exact Y
   ·exact a1 x (List.mem_of_mem_drop A)
  ·rintro m' al dT tI ⟨i,w,hv,hi,rfl,g,b0⟩;simp only [List.cons.injEq,AV.int.injEq,true_and,and_true] at hv;obtain ⟨rfl,rfl⟩:=hv;have O:Ext C tI:=g.eo.ext;have Q:=gs.ext O;have S:=u7 O J;refine ⟨hd,S,_,Q.b_ aR _,af.dec (fun bb=>?_) (fun _=>⟨i,al,rfl,hi,g,b0⟩)⟩;obtain ⟨x,A⟩:=cF (l:=H) (i:=i) (by omega);obtain ⟨la,o,k8,k9⟩:=Q.ix (by decide) aE aR fB A;have I:aD tI la o 2=some (aP x.ev.id):=by
    rw [lP (k9 _ (Ext.refl _)).2 (m:=2) (by omega)];rfl
   refine ⟨hd,S,la,o,k8 _,_,I,_,(bh.ext O).at.aD (by omega),?_⟩;rw [Ar];refine aa.use (NX _ _ _) ?_;rintro d' ea ⟨rfl,U⟩ am;have an:=g.step U;refine ⟨_,rfl,af.mk (fun _=>?_) (fun _=>⟨i,al,rfl,hi,an,am⟩)⟩;refine ⟨hd,u7 U S,la,o,k8 _,_,(k9 _ U).2,?_⟩;refine aW.iu eF aE bL am an (by simp) x (by simp;omega) fun b1 eb b3 b4 _=>⟨H.length - (i+1),by omega,i+1,b1,by rw [uJ (by omega)],by omega,rfl,?_,b4⟩;rw [List.take_add_one,A];exact b3
 rintro bQ ⟨b5,eB⟩;have a5:=a3.trans b5;have cr:=(o2.ext a2).ext b5;obtain ⟨_,lg,L,cs,gL,cu⟩:=JS (h.ext a5);refine ⟨lg,cs,_,(gL.sl aE).b_ aR _,_,cr.at.aD (by omega),?_⟩;rw [dI,cu];refine aa.use (DN (h.ext a5) Y (by omega)) ?_;rintro eI gw ⟨rfl,F1,cv,cw,cx,cy,_⟩ cz;have R1:=(S0 a5).wr cw cv (by omega) cx cy;refine ⟨rfl,fun vs s'=>∃ F' hd' H' v' n',n<=n'/\RS F s p (B+1) hd s' F' hd' H' v' n',?_,?_⟩
 ·rintro fV ⟨F',hd',H',v',n',a6,R⟩;obtain ⟨_,cA,L',b6,cB,ed⟩:=JS R.rc;obtain ⟨cC,c0,_⟩:=(cB.sl aE).rest aE aR fB (i:=n) (by omega) .i64;exact ⟨cA,b6,cC,c0,⟨_,_,rfl⟩,F',hd',H',v',n',R⟩
 refine ⟨fun m' vs s'=>∃ (b:Bool) (F':List Nat) (hd':AV) (H':List gj) (v':List Int) (n':Nat),vs=[.bool b]/\m'=H'.length*2+(if b then 1 else 0)/\n<=n'/\RS F s p (B+1) hd s' F' hd' H' v' n'/\aJ s',_,⟨true,F1,hd,H,_,n+1,rfl,rfl,by omega,R1,cz⟩,?_⟩;rintro m' eQ mG ⟨b,F',hd',H',v',n',hv,rfl,a6,b7,c1⟩;simp only [List.cons.injEq,AV.bool.injEq,and_true] at hv;subst hv;refine af.mk (fun hb=>?_) (fun _=>⟨F',hd',H',v',n',a6,b7⟩);subst hb;refine ⟨fun m' vs s'=>∃ (b:Bool) (i:Nat) (z:List Nat) (j:AV) (D:List gj) (v2:List Int) (n2:Nat),vs=[.bool b,.int .i64 (i:Nat)]/\i<=H'.length/\m'=(if b then 0 else H'.length - i+1)/\n<=n2/\RS F s p (B+1) hd s' z j D v2 n2/\aJ s'/\D.length+(if b then 1 else 0)=H'.length,_,⟨false,0,F',hd',H',v',n',rfl,by omega,rfl,a6,b7,c1,rfl⟩,?_⟩;rintro m' W e0 kC ⟨b2,i,z,j,D,v2,n2,hv,hi,rfl,b8,k,c2,hlen⟩;simp only [List.cons.injEq,AV.bool.injEq,AV.int.injEq,true_and,and_true] at hv;obtain ⟨rfl,rfl⟩:=hv;have out:∃ m',m'<H'.length*2+(if true=true then 1 else 0)/\∃ (b:Bool) (F':List Nat) (hd':AV) (H':List gj) (v':List Int) (n':Nat),[AV.bool W]=[.bool b]/\m'=H'.length*2+(if b then 1 else 0)/\n<=n'/\RS F s p (B+1) hd kC F' hd' H' v' n'/\aJ kC :=
  ⟨D.length*2+(if W then 1 else 0),by cases W <;> simp at hlen ⊢ <;> omega,W,z,j,D,v2,n2,rfl,rfl,b8,k,c2⟩
 have gs:=k.row.sl aE;have X:=(JS k.rc).1;have c3:=k.bd;refine ⟨j,X,_,gs.b_ aR _,af.dec (fun bb=>af.mk (fun hb=>?_) (fun _=>out)) (fun _=>out)⟩;have b9:W=false:=by simpa using hb
 subst b9;simp only [Bool.false_eq_true,if_false,Nat.add_zero] at hlen;obtain ⟨x,A⟩:=cF (l:=D) (i:=i) (by omega);have ao:=k.ok x (List.mem_of_getElem? A);obtain ⟨la,o,k8,k9⟩:=gs.ix (by decide) aE aR fB A;refine ⟨j,X,la,o,k8 _,_,(k9 _ (Ext.refl _)).2,?_⟩;refine aa.use (QU k.rc x ao) ?_;rintro e1 rI ⟨⟨e2,rfl⟩,a7⟩ b';have a8:=k.ext a7;have ar:=u7 a7 X;refine ⟨_,rfl,af.mk (fun _=>?_) (fun _=>⟨_,by simp;omega,false,i+1,z,j,D,v2,n2,by rw [uJ (by omega)],by omega,rfl,b8,a8,b',by simpa using hlen⟩)⟩;refine ⟨j,ar,la,o,k8 _,_,(k9 _ a7).2,jK b' (by rw [aE]) rfl (bL x) fun a9 ca ab=>?_⟩;have ad:=a8.ext ab.ext;have aw:=u7 ab.ext ar;have a0:=ad.row.sl aE;have c4:Am.Own ca a9 (ep x):=ab.own;obtain ⟨c5,c6,c7⟩:=a0.upto aE aR fB (bg.XP ad.row) (i:=i) (by omega) .i64;refine ⟨fun q _ w s'=>q=7->aW ep 21 [] ca s' w (D.take i),fun q _ w=>True,fun q _ w a b e g hq=>(g hq).step e,j,aw,c5,c6,fun cb cc c8 _=>?_,⟨.bad,trivial⟩,fun e3 _=>?_⟩
 ·refine aW.iq eF aE bL c8 (aW.start (M:=[]) (bB.refl [] cb)) (by simp) (c7.ext cc) (by simp;omega) aR fun v' s' g w' mm=>⟨(show bB [] cb s' from mm).ext,(fun _=>?_),trivial⟩;have:=aW.back g cc;simpa using this
 have c9:IntKind.wrap .i64 ((i:Int)+1)=((i+1:Nat):Int):=by rw [uJ (by omega)]
 rw [c9];obtain ⟨c',da,db⟩:=a0.rest aE aR fB (i:=i+1) (by omega) .i64;refine ⟨j,aw,c',da,fun e4 dc dd hS=>?_⟩;have df:=hS.1 rfl;refine aW.iq eF aE bL dd df (by simp) (db.ext dc) (by simp;omega) aR fun cd e5 ae dk _=>?_;have e6:(D.take i++D.drop (i+1)).length+1=D.length:=by
  simp only [List.length_append,List.length_take,List.length_drop];omega
 have e7:=ad.bd;refine RS.held (B2:=B) ad (.inr ae.eo.ext) dk ae.uQ ae.new (fun y G=>?_) (by omega) fun ce d e8 dl=>?_
 ·rcases List.mem_append.1 G with G | G
  ·exact k.ok y (List.mem_of_mem_take G)
  ·exact k.ok y (List.mem_of_mem_drop G)
 have dm:a9≠p:=fun e=>by
  obtain ⟨_,_,_,_,_,hp,_⟩:=a8.rc;have:=ab.no;rw [e,hp] at this;cases this
 have dp:Am.Own ce a9 (ep x):=(c4.ext ae.eo.ext).mut dl (by simpa using dm);refine ⟨_,dp.at.aD (by rw [aE];omega),?_⟩;rw [dI];have dr:=d.bd;refine aa.use (DN d.rc ao (by omega)) ?_;rintro e9 e' ⟨rfl,F3,ds,dt,du,dv,_⟩ dy;have cf:RS F s p (B+1) hd ce z cd (D.take i++D.drop (i+1)) v2 n2:=⟨d.rc,d.row,d.dj,d.ok,by omega,d.mu,d.nw,d.nh,d.th⟩;exact ⟨rfl,0,by simp,true,i+1,F3,cd,_,_,n2+1,rfl,by omega,rfl,by omega,cf.wr dt ds (by omega) du dv,dy,by simp;omega⟩
end
end
section
open Go.Am Go.aq Go.aB Go.bq
def Yp (x x':aF) (t d:List UInt8):Prop:=∃ l,KD x ⟨t,d⟩ l/\x'=(x.ef (l.map ee)).2
section
variable {s0 s s':AS} {w:Wp} {n N:Nat} {c:dX} {x x':aF} {Gs:List (List Nat)} {G G':List Nat} {t d:List UInt8}
theorem Ap.merge {A B:List Nat} {d:List (List Nat)} (h:Ap s0 s (A::B::d)):Ap s0 s ((A++B)::d):=by
 obtain ⟨e,p,t⟩:=h;obtain ⟨p1,j⟩:=List.pairwise_cons.1 p;obtain ⟨k,l⟩:=List.pairwise_cons.1 j;refine ⟨e,List.pairwise_cons.2 ⟨fun Q i=>Dj.app (p1 Q (by simp [i])) (k Q i),l⟩,fun R c y b=>?_⟩;rcases List.mem_cons.1 c with rfl | c
 ·rcases List.mem_append.1 b with b | b
  ·exact t A (by simp) y b
  ·exact t B (by simp) y b
 ·exact t R (by simp [c]) y b
end
/-! ### what a device was told last -/
section
variable {s s':AS} {G R:List Nat} {m:Nat} {lf:List UInt8->Option (List Int)}
end
section
variable {s s':AS} {G R:List Nat} {mh:Nat} {hf:List UInt8->Option Int}
end
end
section
open Go.Am Go.aq Go.aB Go.bq
theorem Ap.split {s0 s:AS} {A B:List Nat} {j:List (List Nat)} (h:Ap s0 s ((A++B)::j)) (d:Dj A B):Ap s0 s (A::B::j):=by
 obtain ⟨e,p,t⟩:=h;obtain ⟨p1,k⟩:=List.pairwise_cons.1 p;refine ⟨e,List.pairwise_cons.2 ⟨fun Q c=>?_,List.pairwise_cons.2 ⟨fun Q c y b=>p1 Q c y (List.mem_append_right _ b),k⟩⟩,fun R i y b=>?_⟩
 ·rcases List.mem_cons.1 c with rfl | c
  ·exact d
  ·exact fun y b=>p1 Q c y (List.mem_append_left _ b)
 ·rcases List.mem_cons.1 i with rfl | i
  ·exact t _ List.mem_cons_self y (List.mem_append_left _ b)
  ·rcases List.mem_cons.1 i with rfl | i
   ·exact t _ List.mem_cons_self y (List.mem_append_right _ b)
   ·exact t _ (by simp [i]) y b
section
variable {hd:AV} {s0 s s':AS} {l pc ps pv pw n B N:Nat} {Fc Fs Fv Fw F':List Nat} {c:dX} {x:aF} {v:List Int} {Gs:List (List Nat)}
theorem PV (W:Wq hd s l pc ps pv pw Fc Fs Fv Fw c x v n x) (A:Ap s0 s ([l]::Fc::Fs::Fv::Fw::Gs)) (o:mJ x B) (hB:B<=450) (t d:List UInt8):aa Tryz.prog gF [.ptr (some (l,0)),.str t,.str d] s fun r s'=>r=.aQ []/\∃ b i x',Yp x x' t d/\Wq hd s' l pc ps pv pw Fc b Fv i c x' v n x'/\Ap s0 s' ([l]::Fc::b::Fv::i::Gs)/\bB (Fs++Fw) s s':=by
 obtain ⟨b1,b2⟩:=W.se.Yf o;refine xP _ _ _ _ _ ⟨some (ps,0),by rw [W.own.at.ak];rfl,_,uF _ _,?_⟩;refine aa.use (RM W.se ⟨t,d⟩ o.Yg (by omega) (by omega) (by omega)) ?_;have fin:∀ {s6:AS} {b:List Nat} {C:aF} {L:List aO},aJ s6->KD x ⟨t,d⟩ L->C=(x.ef (L.map ee)).2->Wq hd s6 l pc ps pv pw Fc b Fv Fw c C v n x->Ap s0 s6 ([l]::Fc::b::Fv::Fw::Gs)->bB Fs s s6 ->
   ah (some (l,0)) fun Z D=>nM (ak s6 Z (D+3)) fun F=>oq (aY T lz [(0,.str t),(1,.str d)]) fun G=>aa Tryz.prog iQ [.ptr F,.agg G] s6 fun H j=>(AV.aQ []=.aQ []/\∃ b i x',Yp x x' t d/\Wq hd j l pc ps pv pw Fc b Fv i c x' v n x'/\Ap s0 j ([l]::Fc::b::Fv::i::Gs)/\bB (Fs++Fw) s j):=by
  intro s6 b C L I kd X p Y m6;refine ⟨some (pw,0),by rw [p.own.at.ak];rfl,_,uF _ _,?_⟩;refine aa.use (IG p.re o (Y.th 4 rfl) (by omega) ⟨t,d⟩) ?_;rintro H j ⟨L',J,_,z,F2,hR,K,M⟩ ab;obtain rfl:=J.uniq kd;obtain ⟨W',O⟩:=p.Yo Y (z.mono fun y k=>by obtain rfl:=List.mem_singleton.1 k;exact p.re.qF) hR K M;rw [<- X] at W';exact ⟨rfl,b,F2,C,⟨L',kd,X⟩,W',O,(m6.mono fun y k=>by simp [k]).trans (z.mono fun y k=>by obtain rfl:=List.mem_singleton.1 k;simp [p.re.qF])⟩
 rintro v5 s6 (⟨Q,rfl,R⟩ | ⟨hk,w,L,kd,rfl,hs,F',hS,S,U,m⟩) I
 ·refine ⟨_,_,rfl,?_⟩;have kd:KD x ⟨t,d⟩ []:=⟨List.Pairwise.nil,fun e=>⟨(fun h=>by cases h),(fun h=>by
   have:=(o.lv _ _ h).2;rw [Q] at this;cases this)⟩⟩
  exact fin I kd rfl (W.ext R) (A.ext R) R.mut
 ·refine ⟨_,_,rfl,?_⟩;have m':bB Fs s s6:=m.mono fun y k=>by obtain rfl:=List.mem_singleton.1 k;exact W.se.pF
  obtain ⟨W',O⟩:=W.XH A m' hS (fun y k=>by
   rcases S y k with rfl | h
   ·exact .inl W.se.pF
   ·exact .inr h) U
  exact fin I kd.kd rfl W' O m'
end
def wM (s0 s:AS) (w:Wp) (c:dX) (x:aF) (B:Nat):Prop :=
 ∃ (hd:AV) (v:List Int) (n:Nat) (H:List gj) (Fc Fs Fv Fw:List Nat),Wq hd s w.l w.pc w.ps w.pv w.pw Fc Fs Fv Fw c x v n x/\Ap s0 s ([w.l]::Fc::Fs::Fv::Fw::[ax hd])/\bg ep 21 s hd H/\(∀ m∈H,m.ev.id.may=true)/\n+H.length<=B/\OI c B/\mJ x B/\∀ d,x.has d=true->d.c<=B
section
variable {s0 s s':AS} {w:Wp} {c:dX} {x:aF} {B:Nat}
theorem wM.ap (h:wM s0 s w c x B):Ext s0 s:=by obtain ⟨_,_,_,_,_,_,_,_,_,A,_⟩:=h;exact A.1
theorem wM.mono {B':Nat} (h:wM s0 s w c x B) (hb:B<=B'):wM s0 s w c x B':=by
 obtain ⟨hd,v,n,H,Fc,Fs,Fv,Fw,W,A,g,b,i,oi,o,e⟩:=h;exact ⟨hd,v,n,H,Fc,Fs,Fv,Fw,W,A,g,b,by omega,oi.mono hb,o.mono hb,fun d hd=>by have:=e d hd;omega⟩
theorem wM.ext (h:wM s0 s w c x B) (e:Ext s s'):wM s0 s' w c x B:=by
 obtain ⟨hd,v,n,H,Fc,Fs,Fv,Fw,W,A,g,r⟩:=h;exact ⟨hd,v,n,H,Fc,Fs,Fv,Fw,W.ext e,A.ext e,g.ext e,r⟩
theorem wM.aD (h:wM s0 s w c x B):ak s w.l 0=some (.ptr (some (w.pc,0)))/\ak s w.l (0+1)=some (.ptr (some (w.ps,0)))/\ak s w.l (0+2)=some (.ptr (some (w.pv,0))):=by
 obtain ⟨hd,v,n,H,Fc,Fs,Fv,Fw,W,r⟩:=h;exact ⟨by rw [W.own.at.ak];rfl,by rw [W.own.at.ak];rfl,by rw [W.own.at.ak];rfl⟩
theorem wM.begin (s:AS):aa Tryz.prog jr [] s fun r s'=>∃ w:Wp,r=.aQ [.ptr (some (w.l,0)),.bool true]/\wM s s' w dX.zero aF.zero 0:=by
 refine (N6 (Ap.start s)).mono ?_;rintro r s' ⟨l,pc,ps,pv,pw,Fc,Fs,Fv,Fw,rfl,W,b,e⟩;refine ⟨⟨l,pc,ps,pv,pw⟩,rfl,Uw,dx,0,[],Fc,Fs,Fv,Fw,W,?_,bg.nil,(fun m h=>by cases h),Nat.le_refl _,OI.zero,mJ.zero,fun d h=>by rw [aF.has,show aF.zero.v=dx from rfl,show aF.zero.ex=[] from rfl,No] at h;cases h⟩;have c:=b.new (R:=ax Uw) (Ext.refl _) (by simp [ax]) (by simp [ax]);exact c.perm (List.perm_middle (l₁:=[[l],Fc,Fs,Fv,Fw]) (l₂:=[]) (a:=ax Uw)).symm
theorem wM.sub (h:wM s0 s w c x B) (D:B<=400) (t d:List UInt8):aa Tryz.prog dg [.ptr (some (w.l,0)),.str t,.str d] s fun r s'=>r=.bool true/\∃ x',wM s0 s' w c x' (B+1):=by
 obtain ⟨hd,v,n,H,Fc,Fs,Fv,Fw,W,A,g,b,F,oi,o,j⟩:=h;refine (Cz W A o (by omega) (fun d hd=>by have:=j d hd;omega) t d).mono ?_;rintro r s' ⟨rfl,e,i,x',W',k,hs,m⟩;obtain ⟨p,k2,_⟩:=hs.ok o j (by omega);have dj:=A.gs (G:=ax hd) (by simp);exact ⟨rfl,x',hd,v,n,H,Fc,e,Fv,i,W',k,g.mut m fun y z C=>Dj.app dj.2.2.1 dj.2.2.2.2 y C z,b,by omega,oi.mono (by omega),p,k2⟩
theorem wM.rem (h:wM s0 s w c x B) (K:B<=400) (t d:List UInt8):aa Tryz.prog gF [.ptr (some (w.l,0)),.str t,.str d] s fun r s'=>r=.aQ []/\∃ x',wM s0 s' w c x' (B+1):=by
 obtain ⟨hd,v,n,H,Fc,Fs,Fv,Fw,W,A,g,k,M,oi,o,D⟩:=h;refine (PV W A o (by omega) t d).mono ?_;rintro r s' ⟨rfl,p,z,x',⟨L,kd,rfl⟩,W',F,m⟩;have C:∀ e∈L,x.has e=true:=fun e j=>kd.has o j;have hm:=yJ fun e j=>aF.qL (C e j);have dj:=A.gs (G:=ax hd) (by simp);refine ⟨rfl,_,hd,v,n,H,Fc,p,Fv,z,W',F,g.mut m fun y I J=>Dj.app dj.2.2.1 dj.2.2.2.2 y J I,k,by omega,oi.mono (by omega),(o.Jx C).mono (by omega),fun e j=>?_⟩;rcases (HV _ o hm e).1 j with g | ⟨i,hi,rfl⟩
 ·have:=D e g;omega
 ·obtain ⟨b,hb,rfl⟩:=List.mem_map.1 hi;have:=D _ (C b hb);simp only [ee];omega
theorem wM.V1 (h:wM s0 s w c x B) (K:B<=400) (t:List UInt8):aa Tryz.prog cI [.ptr (some (w.l,0)),.str t] s fun r s'=>(∃ b:Bool,r=.bool b)/\∃ c',wM s0 s' w c' x (B+1):=by
 obtain ⟨hd,v,n,H,Fc,Fs,Fv,Fw,W,A,g,e,M,oi,o,p⟩:=h;have z:=oi.bd;have C:=oi.vn 0 (by omega);refine (Ed W A o (by omega) t (by omega) (by omega) (by rw [oi.bl];omega) (by omega)).mono ?_;rintro r s' ⟨L,O,j,k,Q,D,rfl,W',F,m⟩;have dj:=A.gs (G:=ax hd) (by simp);refine ⟨⟨_,rfl⟩,_,hd,_,_,H,j,Fs,k,Fw,W',F,g.mut m fun y I J=>Dj.app dj.2.1 dj.2.2.2.1 y J I,e,by split <;> omega,?_,o.mono (by omega),fun d hd=>by have:=p d hd;omega⟩;by_cases hm:fN (h_ c.v t [] L)=true
 ·rw [if_pos hm];exact oi.apply hm ⟨rfl,fun i _ _=>Int.le_refl _⟩ (by omega)
 ·rw [if_neg hm];exact oi.mono (by omega)
theorem wM.may (h:wM s0 s w c x B) {m:gj} (hm:rV s m):aa Tryz.prog fX [.ptr (some (w.pv,0)),.agg (ep m)] s fun r s'=>r=.bool (fN m.ev)/\Ext s s':=by
 obtain ⟨hd,v,n,H,Fc,Fs,Fv,Fw,W,A,g,r⟩:=h;exact QM W.rc hm
theorem wM.offer (h:wM s0 s w c x B) (l:B<=400) {m:gj} (hm:rV s m):aa Tryz.prog iy [.ptr (some (w.pc,0)),.agg (ep m)] s fun r s'=>(∃ (a:AV) (z:Int),r=.aQ [a,.int .i64 z])/\∃ c',wM s0 s' w c' x (B+1):=by
 obtain ⟨hd,v,n,H,Fc,Fs,Fv,Fw,W,A,g,b,p,oi,o,e⟩:=h;refine (UI W.ca (A.th 1 rfl) oi (by omega) hm).mono ?_;rintro r s' ⟨hr,F',c',C⟩;obtain ⟨W',i⟩:=W.Ym A C.mu C.ca C.nw C.th;have dj:=A.gs (G:=ax hd) (by simp);exact ⟨hr,c',hd,v,n,H,F',Fs,Fv,Fw,W',i,g.mut C.mu fun y j k=>dj.2.1 y k j,b,by omega,C.oi,o.mono (by omega),fun d hd=>by have:=e d hd;omega⟩
theorem wM.XQ (h:wM s0 s w c x B) (L:B<=400) {m:gj} (i:m.ev.id.may=true):aa Tryz.prog gG [.ptr (some (w.pv,0)),.agg (ep m)] s fun r s'=>(∃ (a:AV) (b:Bool),r=.aQ [a,.bool b])/\wM s0 s' w c x (B+1):=by
 obtain ⟨hd,v,n,H,Fc,Fs,Fv,Fw,W,A,g,j,p,oi,o,z⟩:=h;have dj:=A.gs (G:=ax hd) (by simp);refine (Sk W.rc (A.th 3 rfl) g (fun y e C=>dj.2.2.2.1 y C e) j p (by omega) m i).mono ?_;rintro r s' ⟨hr,F',hd',H',v',n',R⟩;have p1:([w.l]::Fc::Fs::Fv::Fw::[ax hd]).Perm (Fv::ax hd::[[w.l],Fc,Fs,Fw]):=by
  have k:([w.l]::Fc::Fs::Fv::Fw::[ax hd]).Perm (Fv::[w.l]::Fc::Fs::Fw::[ax hd]):=List.perm_middle (l₁:=[[w.l],Fc,Fs]) (l₂:=Fw::[ax hd]) (a:=Fv);refine k.trans (.cons _ ?_);exact List.perm_middle (l₁:=[[w.l],Fc,Fs,Fw]) (l₂:=[]) (a:=ax hd)
 have D:=(A.perm p1).merge;have hm:bB (Fv++ax hd) s s':=R.mu.mono fun y e=>List.mem_append_left _ e;have F:=Ap.pq (A:=[]) (R:=Fv++ax hd) (R':=F'++ax hd') D hm (fun y e=>by
  rcases List.mem_append.1 e with e | e
  ·exact (R.nw y e).elim (fun h=>.inl (List.mem_append_left _ h)) .inr
  ·rcases R.nh y e with h | h | h
   ·exact .inl (List.mem_append_right _ h)
   ·exact .inl (List.mem_append_left _ h)
   ·exact .inr h) (fun y e=>by
  rcases List.mem_append.1 e with e | e
  ·exact R.th y e
  ·exact bg.jG R.row y e)
 have I:=Ap.split F fun y e J=>R.dj y J e;have K:(F'::ax hd'::[[w.l],Fc,Fs,Fw]).Perm ([w.l]::Fc::Fs::F'::Fw::[ax hd']):=by
  have k:([w.l]::Fc::Fs::F'::Fw::[ax hd']).Perm (F'::[w.l]::Fc::Fs::Fw::[ax hd']):=List.perm_middle (l₁:=[[w.l],Fc,Fs]) (l₂:=Fw::[ax hd']) (a:=F');refine List.Perm.symm (k.trans (.cons _ ?_));exact List.perm_middle (l₁:=[[w.l],Fc,Fs,Fw]) (l₂:=[]) (a:=ax hd')
 have W':=(W.Yn A R.mu (hd':=hd') (R.rc) R.nw R.th).1;exact ⟨hr,hd',v',n',H',Fc,Fs,F',Fw,W',I.perm K,R.row,R.ok,R.bd,oi.mono (by omega),o.mono (by omega),fun d hd=>by have:=z d hd;omega⟩
end
end
section
open Go.Am Go.aq Go.aB Go.bq
theorem yz (P:Ev->Bool) (stop:Nat->Bool):∀ (l:List (Ev×List Int)) (k:Nat),(scan P stop l k).1=(l.take (scan P stop l k).2).filter (fun z=>P z.1)/\(l≠[]->1<=(scan P stop l k).2)
 | [],k=>by simp [scan]
 | a::l,k=>by
  have b:=(yz P stop l (k+1)).1;have h2:=(yz P stop l k).1;simp only [scan];split
  ·rename_i hp;split
   ·simp [hp]
   ·refine ⟨?_,fun _=>by simp⟩;simp only [List.take_succ_cons];rw [List.filter_cons,if_pos hp,<- b]
  ·rename_i hp;refine ⟨?_,fun _=>by simp⟩;simp only [List.take_succ_cons];rw [List.filter_cons,if_neg hp,<- h2]
theorem DV (P:Ev->Bool):∀ (l:List (Ev×List Int)) (k:Nat),(scan P (fun _=>false) l k).1=l.filter (fun z=>P z.1)
 | [],k=>by simp [scan]
 | a::l,k=>by
  simp only [scan,Bool.false_eq_true,if_false];split
  ·rename_i hp;rw [List.filter_cons,if_pos hp,DV P l (k+1)]
  ·rename_i hp;rw [List.filter_cons,if_neg hp,DV P l k]
theorem N4.mut {F Fc Fs L:List Nat} {s s':AS} {p pc ps n:Nat} {sec:List Int} {f:List UInt8->Option Dv} {c:dX} {x:aF} (T:N4 F Fc Fs s p pc ps sec f n c x) (m:bB L s s') (b:∀ y∈L,y ∉ F) (h2:∀ y∈L,y ∉ Fc) (h3:∀ y∈L,y ∉ Fs):N4 F Fc Fs s' p pc ps sec f n c x:=by
 have th:∀ {K:List Nat},(∀ y∈L,y ∉ K)->(∀ y∈K,s.h y≠none)->∀ y∈K,s'.h y≠none:=fun {K} hd ht y d=>by
  cases e:s.h y with
  | none=>exact absurd e (ht y d)
  | some o=>rw [m.1 y o (fun hm=>hd y hm d) e];simp
 exact ⟨T.fe.mut m b,th b T.th,T.ca.mut m h2,T.se.mut m h3,th h2 T.tc,th h3 T.ts,T.dc,T.ds,T.bl,T.ln,T.sz,T.nl,T.pl⟩
structure QV (s0 s:AS) (w:Wp) (p:Nat) (dev:List UInt8) (c:dX) (x:aF) (pl:Nat) (G Fc Fs:List Nat):Prop where
 tr:∃ f k hand,f dev=some ⟨dx,pl,hand⟩/\N4 G Fc Fs s p w.pc w.ps LD f k c x
 ow:ak s w.l 0=some (.ptr (some (w.pc,0)))/\ak s w.l (0+1)=some (.ptr (some (w.ps,0)))
 wl:∃ cs,Am.Own s w.l cs
 nl:w.l ∉ G
 ex:Ext s0 s
 nw:∀ y∈G,s0.h y=none
section
variable {s0 s s':AS} {w:Wp} {p:Nat} {dev:List UInt8} {c:dX} {x:aF} {pl:Nat} {G Fc Fs:List Nat}
theorem QV.mut {L:List Nat} (h:QV s0 s w p dev c x pl G Fc Fs) (m:bB L s s') (d:∀ y∈L,y ∉ G) (h2:∀ y∈L,y ∉ Fc) (h3:∀ y∈L,y ∉ Fs) (h4:w.l ∉ L) (e:∀ y∈L,s0.h y=none):QV s0 s' w p dev c x pl G Fc Fs:=by
 obtain ⟨⟨f,k,hand,hf,T⟩,ow,⟨cs,wl⟩,nl,ex,nw⟩:=h;have b:=wl.mut m h4;rw [wl.at.ak,wl.at.ak] at ow;exact ⟨⟨f,k,hand,hf,T.mut m d h2 h3⟩,by rw [b.at.ak,b.at.ak];exact ow,⟨cs,b⟩,nl,Ext.Vr ex e m,nw⟩
theorem QV.ext (h:QV s0 s w p dev c x pl G Fc Fs) (e:Ext s s'):QV s0 s' w p dev c x pl G Fc Fs:=h.mut (L:=[]) e.mut (by simp) (by simp) (by simp) (by simp) (by simp)
theorem QV.V3 (h:QV s0 s w p dev c x pl G Fc Fs) (b:aN dev=true):aa Tryz.prog iD [.ptr (some (p,0)),.str dev,.ptr (some (w.pc,0)),.ptr (some (w.ps,0))] s fun r s'=>r=.aQ [.int .i64 ((((pV c).drop pl).filter fun z=>gS dev dx x z.1).length:Nat),.int .i64 0]/\Ext s s':=by
 obtain ⟨⟨f,k,hand,hf,T⟩,_⟩:=h;refine (VX T b hf).mono ?_;rintro r s' ⟨rfl,e⟩;refine ⟨?_,e⟩;rw [Uu,DV]
theorem QV.V2 (h:QV s0 s w p dev c x pl G Fc Fs) (Q:aN dev=true) {most:Int} (hm:1<=most/\most<=16):aa Tryz.prog eT [.ptr (some (p,0)),.str dev,.int .i64 most,.ptr (some (w.pc,0)),.ptr (some (w.ps,0))] s fun r s'=>∃ (out:AV) (Lo:List gj) (cnt:Nat) (G':List Nat),r=.aQ [out,.int .i64 0]/\bg ep 21 s' out Lo/\Lo.map gj.ev=((((pV c).drop pl).take cnt).filter fun z=>gS dev dx x z.1).map Prod.fst/\(pl<c.log.length->1<=cnt)/\pl+cnt<=c.log.length/\QV s0 s' w p dev c x (pl+cnt) G' Fc Fs/\Sf G s s'/\∀ y∈G',y∈G\/s.h y=none:=by
 obtain ⟨⟨f,k,hand,hf,T⟩,ow,⟨cs,wl⟩,nl,ex,nw⟩:=h;refine (QS T dev most).mono ?_;rintro r s' (⟨b,_⟩ | ⟨_,d,out,Lo,G',hd,rfl,R,X,S,U,A,j,D⟩)
 ·rcases b with b | b
  ·exact absurd ⟨Q,hm⟩ b
  ·rw [hf] at b;cases b
 rw [hf] at hd;obtain rfl:=Option.some.inj hd;have F:=(T.pl dev _ hf).1;have B:=Cx T.bl;simp only at F;obtain ⟨H,I⟩:=yz (gS dev dx x) (fun k=>!decide ((k:Int)<most)) ((pV c).drop pl) 0;have sle:=FT (gS dev dx x) (fun k=>!decide ((k:Int)<most)) ((pV c).drop pl) 0;simp only [List.length_drop,B] at sle;have J:w.l ∉ G':=fun m=>by
  rcases j _ m with h | h
  ·exact nl h
  ·rw [wl] at h;cases h
 have i:∀ {K:List Nat},Dj G K->(∀ y∈K,s.h y≠none)->Dj G' K:=fun {K} hd ht y m L=>by
  rcases j y m with h | h
  ·exact hd y h L
  ·exact ht y L h
 have th:∀ {K:List Nat},Dj G K->(∀ y∈K,s.h y≠none)->∀ y∈K,s'.h y≠none:=fun {K} hd ht y m=>by
  cases M:s.h y with
  | none=>exact absurd M (ht y m)
  | some o=>rw [A.mut.1 y o (fun hm=>hd y hm m) M];simp
 have n:=wl.mut A.mut nl;rw [wl.at.ak,wl.at.ak] at ow;refine ⟨out,Lo,(sP dev ⟨dx,pl,hand⟩ c x most).2,G',rfl,R,?_,fun W=>I fun h0=>?_,?_,⟨⟨_,k,_,rX _ _,U,D,T.ca.mut A.mut T.dc,T.se.mut A.mut T.ds,th T.dc T.tc,th T.ds T.ts,i T.dc T.tc,i T.ds T.ts,T.bl,T.ln,T.sz,T.nl,fun a e C=>?_⟩,?_,⟨cs,n⟩,J,Ext.Vr ex nw A.mut,fun y m=>?_⟩,A,j⟩
 ·rw [S,sP,H]
 ·have:=congrArg List.length h0;rw [List.length_drop,B] at this;simp at this;omega
 ·show pl+(scan (gS dev dx x) (fun k=>!decide ((k:Int)<most)) ((pV c).drop pl) 0).2<=_;omega
 ·by_cases O:a=dev
  ·rw [jP,if_pos O] at C;obtain rfl:=Option.some.inj C;have h2:=(T.pl dev _ hf).2;simp only at h2;simp only [HT,sP,List.length_append,List.length_map];omega
  ·rw [jP,if_neg O] at C;exact T.pl a e C
 ·rw [n.at.ak,n.at.ak];exact ow
 ·rcases j y m with h | h
  ·exact nw y h
  ·exact ex.none h
theorem wM.feed {B:Nat} (h:wM s0 s w c x B) (hB:B<=400) (M:aN dev=true):aa Tryz.prog iC [] s fun v s1=>aa Tryz.prog oA [v] s1 fun r s2=>∃ p,r=.ptr (some (p,0))/\aa Tryz.prog dU [.ptr (some (p,0)),.str dev,.slc none 0 0 true] s2 fun r s'=>r=.int .i64 0/\∃ G Fc Fs,QV s0 s' w p dev c x 0 G Fc Fs/\OI c B:=by
 obtain ⟨hd,v,n,H,Fc,Fs,Fv,Fw,W,A,g,O,Q,oi,o,hc⟩:=h;refine aa.use (JP s) ?_;rintro v1 s1 ⟨hv,e1⟩ w1;refine aa.use (QN hv (by decide)) ?_;rintro r s2 ⟨p,F,rfl,R,S,U,e2⟩ w2;have z:=e1.trans e2;have W2:=W.ext z;have A2:=A.ext z;refine ⟨p,rfl,?_⟩;refine (JO R U (by decide) dev (bg.nil.sl cg) fun _ _=>.inl ⟨rfl,rfl⟩).mono ?_;rintro r s' (⟨D,_⟩ | ⟨_,rfl,G,X,m,I,J⟩)
 ·exact absurd ⟨M,rfl,by omega⟩ D
 have i:∀ y∈F,s.h y=none:=fun y b=>e1.none (S y b);have j:∀ y∈G,s.h y=none:=fun y b=>(I y b).elim (i y) fun h=>z.none h;have dj:∀ {K:List Nat},(∀ y∈K,s.h y≠none)->Dj F K:=fun {K} ht y b L=>ht y L (i y b);have l:∀ {K:List Nat},(∀ y∈K,s.h y≠none)->Dj G K:=fun {K} ht y b L=>ht y L (j y b);have k:Ext s s':=Ext.Vr z i m;obtain ⟨b1,b2⟩:=W.se.Yf o;have Y:=oi.bd;have wl:=W.own.ext k;refine ⟨rfl,G,Fc,Fs,⟨⟨_,_,_,rX _ _,X,J,W.ca.ext k,W.se.ext k,fun y b=>Ext.there k (A.th 1 rfl y b),fun y b=>Ext.there k (A.th 2 rfl y b),l (A.th 1 rfl),l (A.th 2 rfl),oi.bl,by omega,fun e Z=>?_,by omega,fun a d C=>?_⟩,⟨by rw [wl.at.ak];rfl,by rw [wl.at.ak];rfl⟩,⟨_,wl⟩,(fun b=>by have:=j _ b;rw [W.own] at this;cases this),A.1.trans k,fun y b=>A.1.none (j y b)⟩,oi⟩
 ·obtain ⟨_,h1,h2,_⟩:=sQ (oi.ok e Z);omega
 ·by_cases e:a=dev
  ·rw [jP,if_pos e] at C;obtain rfl:=Option.some.inj C;simp
  ·rw [jP,if_neg e] at C;cases C
end
end
section
open Go.Am Go.aq Go.aB Go.bq
section
variable {n n':Nat} {f:List UInt8->Option Dv} {lf:List UInt8->Option (List Int)} {hf:List UInt8->Option Int} {t:List UInt8->Nat}
end
section
variable {s0 s s':AS} {w:Wp} {p ml mh i:Nat} {Es:List (List Nat)}
end
end
section
open Go.Am Go.aq Go.aB Go.bq
section
variable {s0 s s':AS} {w:Wp} {p ml mh i:Nat} {Es:List (List Nat)}
end
end
section
open Go.Am Go.aq Go.aB Go.bq
section
variable {s0 s s':AS} {w:Wp} {p ml mh i q k2:Nat} {Es:List (List Nat)} {a:List UInt8} {out:AV} {Lo:List gj}
end
end
section
open Go.Am Go.aq Go.aB Go.bq
structure NA where
 kind:Int
 n:Int
 dQ:List UInt8
 dev:List UInt8
 rest:List AV
 len:rest.length=18
 one:rest.all AV.one=true
def XX (a:NA):List AV:=[.int .i64 a.kind,.int .i64 a.n,.str a.dQ,.str a.dev]++a.rest
theorem V5 (a:NA):(XX a).length=22:=by simp [XX,a.len]
section
variable {s a b c:AS}
end
section
variable {s0 s s':AS} {w:Wp} {p ml mh i q k2:Nat} {Es:List (List Nat)} {a:List UInt8} {out:AV} {Lo:List gj}
end
end
section
open Go.Am Go.aq Go.aB Go.bq
theorem PW (a b:gj) (d:a.ev.id.may=true) (s:AS):aa Tryz.prog rB [.agg (ep a),.agg (ep b)] s fun r s'=>r=.bool (decide (b.ev.gR.getD (a.ev.id.r.toNat - 1) 0>=a.ev.id.c))/\Ext s s':=by
 have ea:=aE a;have eb:=aE b;obtain ⟨hr,e⟩:=qn d;have hm:=aO.gC.1 d;refine aa.pre fun l=>G7 _ _ _ _ ⟨bL a,aj.intro l rfl fun l1 s2 j=>⟨bL b,aj.intro j.wf rfl fun l3 s4 k=>?_⟩⟩;have i:=j.own.ext k.ext;have m:=j.ext.trans k.ext;refine ⟨a.ev.id.r,by rw [i.at.ak];rfl,af.yes (by rw [decide_eq_true_eq];omega) ⟨a.ev.id.r,by rw [i.at.ak];rfl,af.yes (by rw [decide_eq_true_eq];omega) ⟨a.ev.id.r,by rw [i.at.ak];rfl,?_⟩⟩⟩;dsimp only;rw [hr];have n:ag T aX (.ptr (some (l3,4))) (.int .i64 ((a.ev.id.r.toNat - 1:Nat):Int))=some (.ptr (some (l3,4+(a.ev.id.r.toNat - 1)))):=by
  rw [M_ (by omega)];simp
 exact ⟨_,_,n,_,by rw [k.own.at.ak,uN b e],a.ev.id.c,by rw [i.at.ak];rfl,rfl,m⟩
set_option maxRecDepth 20000 in
set_option maxHeartbeats 4000000 in
theorem HW {s:AS} {a a1:AV} {l:List NA} {E:List gj} (hl:Sl XX 22 s a l) (hE:Sl ep 21 s a1 E) (a9:∀ m∈E,rV s m) (dev:List UInt8):aa Tryz.prog mK [a,a1,.str dev] s fun r s'=>r=.bool true:=by
 refine aa.pre fun hw=>Bl _ _ _ _ _ ⟨fun vs s'=>s'=s/\∃ b,vs=[.bool b]/\(b=false->l.length<=60/\E.length<=60/\aN dev=true),?_,?_⟩;rotate_left
 ·refine ⟨_,hl.b_ gQ _,af.dec (fun h=>⟨rfl,true,rfl,fun h=>by cases h⟩) (fun h=>⟨_,hE.b_ aR _,af.dec (fun h=>⟨rfl,true,rfl,fun h=>by cases h⟩) (fun h2=>?_)⟩)⟩;refine aa.use (Ab _ _) ?_;rintro v s' ⟨rfl,rfl⟩ _;exact ⟨_,rfl,rfl,_,rfl,fun h3=>⟨by omega,by omega,by simpa using h3⟩⟩
 rintro b2 s3 ⟨rfl,b,hb,hc⟩;simp only [List.cons.injEq,AV.bool.injEq,and_true] at hb;subst hb;refine af.mk (fun hb=>?_) (fun hb=>?_)
 ·refine aa.use (N8 (Ap.start s3)) ?_;rintro v s5 ⟨rfl,_⟩ _;exact ⟨_,rfl,rfl⟩
 obtain ⟨ea,dl,S⟩:=hc hb;refine aa.use (wM.begin s3) ?_;rintro v7 s8 ⟨w,rfl,S8⟩ w8;refine ⟨_,_,rfl,af.no rfl ⟨fun vs s'=>aJ s'/\∃ (c:dX) (x:aF),wM s3 s' w c x 180,?_,?_⟩⟩
 ·rintro dJ ⟨eb,c,x,ci⟩;refine aa.use (ci.feed (by omega) S) ?_;rintro ed eg a' eh;refine aa.use a' ?_;rintro ei ej ⟨p,rfl,ck⟩ em;refine ⟨_,rfl,?_⟩;refine aa.use ck ?_;rintro et iF ⟨rfl,G,Fc,Fs,U,oi⟩ eA;have eB:=oi.bd;have eI:=Cx oi.bl;refine ⟨_,rfl,af.no rfl ⟨_,U.ow.1,_,U.ow.2,?_⟩⟩;refine aa.use (U.V3 S) ?_;rintro eQ e0 ⟨rfl,cl⟩ cm;have cn:=U.ext cl;rw [List.drop_zero];generalize hP:(fun z:Ev×List Int=>gS dev dx x z.1)=P at *;refine ⟨_,_,rfl,fun vs s'=>∃ (v:AV) (A:List gj) (G Fc Fs:List Nat),vs=[v]/\QV s3 s' w p dev c x c.log.length G Fc Fs/\bg ep 21 s' v A/\A.map gj.ev=((pV c).filter P).map Prod.fst/\aJ s',?_,?_⟩
  ·rintro e3 e4 ⟨v,A,G,Fc,Fs,hv,W,cp,hA,e5⟩;simp only [List.cons.injEq,and_true] at hv;subst hv;refine ⟨_,W.ow.1,_,W.ow.2,?_⟩;refine aa.use (W.V3 S) ?_;rintro wm cr ⟨rfl,ba⟩ cu;have h0:(((pV c).drop c.log.length).filter fun z=>gS dev dx x z.1).length=0:=by
    rw [List.drop_eq_nil_of_le (by omega)];rfl
   rw [h0];have bb:=(cp.ext ba).sl aE;have hlen:A.length=((pV c).filter P).length:=by have:=congrArg List.length hA;simpa using this
   refine ⟨_,_,rfl,af.no rfl (af.no rfl (af.no rfl ⟨_,bb.b_ aR _,af.no (by rw [hlen];simp) ?_⟩))⟩;have I:(A.map gj.ev).Sublist c.log:=by
    rw [hA];have h1:(((pV c).filter P).map Prod.fst).Sublist ((pV c).map Prod.fst):=(List.filter_sublist).map _;have h2:(pV c).map Prod.fst=c.log:=by rw [pV,List.map_fst_zip];rw [oi.bl];exact Nat.le_refl _
    rw [h2] at h1;exact h1
   have cv:A.Pairwise fun e e'=>e.ev.id≠e'.ev.id/\e.ev.gR.getD (e'.ev.id.r.toNat - 1) 0<e'.ev.id.c:=by
    have:=oi.od.sublist I
    rwa [List.pairwise_map] at this
   have bc:∀ m∈A,m.ev.id.may=true:=fun m hm=>(sQ (oi.ok _ (I.subset (List.mem_map.2 ⟨m,hm,rfl⟩)))).1;have cw:A.length<=180:=by
    have:=I.length_le;rw [List.length_map] at this;omega
   refine ⟨fun m vs s'=>∃ i:Nat,vs=[.int .i64 (i:Nat)]/\i<=A.length/\m=A.length - i/\Ext cr s'/\aJ s',A.length,⟨0,rfl,by omega,rfl,Ext.refl _,cu⟩,?_⟩;rintro m e6 rI ⟨i,hv,hi,rfl,am,cx⟩;simp only [List.cons.injEq,AV.int.injEq,true_and,and_true] at hv;subst hv;have an:=bb.ext am;refine ⟨_,an.b_ aR _,af.dec (fun be=>?_) (fun bh=>?_)⟩;rotate_left
   ·have cy:Ap s3 rI []:=⟨W.ex.trans (ba.trans am),List.Pairwise.nil,fun R h=>by cases h⟩;refine aa.use (N8 cy) ?_;rintro v s5 ⟨rfl,_⟩ _;exact ⟨_,rfl,rfl⟩
   obtain ⟨mi,j⟩:=cF (l:=A) (i:=i) (by omega);obtain ⟨li,X,Q,k9⟩:=an.ix (by decide) aE aR fB j;have bi:=bc mi (List.mem_of_getElem? j);have Z:∀ {s':AS},Ext rI s'->aD s' li X 2=some (aP mi.ev.id):=fun e=>by
    rw [lP (k9 _ e).2 (m:=2) (by omega)];rfl
   refine ⟨fun vs s'=>Ext rI s'/\aJ s',?_,?_⟩
   ·rintro e7 ⟨bj,e8⟩;refine ⟨li,X,Q _,_,Z bj,?_⟩;refine aa.use (BR _ _) ?_;rintro e9 fa ⟨rfl,cz⟩ cA;rw [bi];exact ⟨_,rfl,af.no rfl ⟨A.length - (i+1),by omega,i+1,by rw [uJ (by omega)],by omega,rfl,am.trans (bj.trans cz),cA⟩⟩
   ·rw [uJ (by omega)];refine ⟨fun m vs s'=>∃ k:Nat,vs=[.int .i64 (k:Nat)]/\i<k/\k<=A.length/\m=A.length - k/\Ext rI s'/\aJ s',A.length - (i+1),⟨i+1,rfl,by omega,by omega,rfl,Ext.refl _,cx⟩,?_⟩;rintro m fb cB ⟨k,hv,cC,hk,rfl,J,c0⟩;simp only [List.cons.injEq,AV.int.injEq,true_and,and_true] at hv;subst hv;have bk:=an.ext J;refine ⟨_,bk.b_ aR _,af.dec (fun bm=>?_) (fun _=>⟨J,c0⟩)⟩;obtain ⟨mk,ao⟩:=cF (l:=A) (i:=k) (by omega);obtain ⟨lk,ar,m8,m9⟩:=bk.ix (by decide) aE aR fB ao;have bo:=bc mk (List.mem_of_getElem? ao);obtain ⟨i1,e1⟩:=List.getElem?_eq_some_iff.1 j;obtain ⟨i2,e2⟩:=List.getElem?_eq_some_iff.1 ao;have ab:=List.pairwise_iff_getElem.1 cv i k i1 i2 cC;rw [e1,e2] at ab;have c1:aD cB lk ar 2=some (aP mk.ev.id):=by
     rw [lP (m9 _ (Ext.refl _)).2 (m:=2) (by omega)];rfl
    refine ⟨li,X,Q _,_,Z J,lk,ar,m8 _,_,c1,_,z5 _ _,af.no (by rw [decide_eq_false_iff_not];exact ab.1) ⟨lk,ar,m8 _,_,(m9 _ (Ext.refl _)).2,li,X,Q _,_,(k9 _ J).2,?_⟩⟩;refine aa.use (PW mk mi bo _) ?_;rintro fc fe ⟨rfl,c2⟩ c3;exact ⟨_,rfl,af.no (by rw [decide_eq_false_iff_not];omega) ⟨A.length - (k+1),by omega,k+1,by rw [uJ (by omega)],by omega,by omega,rfl,J.trans c2,c3⟩⟩
  ·refine ⟨fun m vs s'=>∃ (k pl:Nat) (v:AV) (A:List gj) (G Fc Fs:List Nat),vs=[v,.int .i64 (k:Nat)]/\k<=200/\m=200 - k/\aJ s'/\QV s3 s' w p dev c x pl G Fc Fs/\bg ep 21 s' v A/\A.map gj.ev=(((pV c).take pl).filter P).map Prod.fst/\(∀ y∈ax v,y ∉ G/\y ∉ Fc/\y ∉ Fs/\y≠w.l/\s3.h y=none)/\(k<=pl\/pl=c.log.length)/\pl<=c.log.length,200,⟨0,0,_,[],G,Fc,Fs,rfl,by omega,rfl,cm,cn,bg.nil,by simp,(by simp [ax]),.inl (Nat.le_refl _),by omega⟩,?_⟩;rintro m aw fg fi ⟨k,pl,v,A,G,Fc,Fs,hv,hk,rfl,c4,Y,a0,hA,bs,bx,fp⟩;simp only [List.cons.injEq,AV.int.injEq,true_and,and_true] at hv;obtain ⟨rfl,rfl⟩:=hv;have cw:A.length<=pl:=by
    have:=congrArg List.length hA;simp only [List.length_map] at this;have h2:=List.length_filter_le P ((pV c).take pl);rw [List.length_take] at h2;omega
   refine af.dec (fun be=>?_) (fun bh=>?_)
   ·have a6:∃ mo:Nat,IntKind.wrap .i64 (1+Int.tmod (k:Int) 3)=(mo:Int)/\1<=mo/\mo<=16:=by
     have c5:Int.tmod (k:Int) 3=(k:Int) % 3:=Int.tmod_eq_emod_of_nonneg (by omega);refine ⟨1+k % 3,by rw [c5,a_ (by omega)];omega,by omega,by omega⟩
    obtain ⟨mo,a6,dm,c6⟩:=a6;refine ⟨by decide,_,Y.ow.1,_,Y.ow.2,?_⟩;rw [a6];refine aa.use (Y.V2 S (most:=(mo:Nat)) (by omega)) ?_;rintro fr c7 ⟨out,Lo,cnt,G',rfl,gO,b0,c8,c9,b1,pm,da⟩ db;have dc:bg ep 21 c7 aw A:=by
     obtain ⟨L,mL,hL⟩:=pm;exact bg.ek a0 mL fun y C g t=>by rcases (hL y C).2 g t with h | h <;> omega
    have dp:Lo.length<=cnt:=by
     have:=congrArg List.length b0;simp only [List.length_map] at this;have h2:=List.length_filter_le (fun z:Ev×List Int=>gS dev dx x z.1) (((pV c).drop pl).take cnt);rw [List.length_take] at h2;omega
    obtain ⟨ad,b3,b4,b5,b6,b7,b8⟩:=bg.append eF aE bL db dc (gO.sl aE) (by omega) aR;have d:∀ y∈ax aw,y ∉ G'/\y ∉ Fc/\y ∉ Fs/\y≠w.l/\s3.h y=none:=fun y C=>by
     obtain ⟨a1,a2,a3,a4,a5⟩:=bs y C;refine ⟨fun hG=>?_,a2,a3,a4,a5⟩;rcases da y hG with h | h
     ·exact a1 h
     ·exact bg.jG a0 y C h
    have b9:=b1.mut b6 (fun y C=>(d y C).1) (fun y C=>(d y C).2.1) (fun y C=>(d y C).2.2.1) (fun C=>(d _ C).2.2.2.1 rfl) (fun y C=>(d y C).2.2.2.2);refine ⟨_,_,rfl,af.no rfl ⟨ad,b3,b4,200 - (k+1),by omega,k+1,pl+cnt,ad,A++Lo,G',Fc,Fs,by rw [uJ (by omega)],by omega,rfl,b7,b9,b5,?_,fun y C=>?_,?_,c9⟩⟩
    ·rw [List.map_append,hA,b0,hP,List.take_add,List.filter_append,List.map_append]
    ·rcases b8 y C with h | h
     ·exact d y h
     ·obtain ⟨⟨f,kk,hand,hf,TT⟩,_,⟨cs,wl⟩,_,ex,_⟩:=b1;exact ⟨fun hG=>TT.th y hG h,fun hG=>TT.tc y hG h,fun hG=>TT.ts y hG h,(fun e=>by rw [e,wl] at h;cases h),ex.none h⟩
    ·rcases bx with h | h
     ·by_cases hp:pl<c.log.length
      ·have:=c8 hp;exact .inl (by omega)
      ·exact .inr (by omega)
     ·exact .inr (by omega)
   ·have dd:pl=c.log.length:=by
     rcases bx with h | h
     ·omega
     ·exact h
    subst dd;refine ⟨aw,A,G,Fc,Fs,rfl,Y,a0,?_,c4⟩;rw [hA,List.take_of_length_le (by omega)]
 ·refine ⟨fun m vs s'=>∃ (i:Nat) (c:dX) (x:aF),vs=[.int .i64 (i:Nat)]/\i<=l.length/\m=l.length - i/\aJ s'/\wM s3 s' w c x (3*i),l.length,⟨0,_,_,rfl,by omega,rfl,w8,S8⟩,?_⟩;rintro m dr K ⟨i,c,x,hv,hi,rfl,ae,n⟩;simp only [List.cons.injEq,AV.int.injEq,true_and,and_true] at hv;subst hv;have M:=hl.ext n.ap;refine ⟨_,M.b_ gQ _,af.dec (fun be=>?_) (fun bh=>⟨ae,c,x,n.mono (by omega)⟩)⟩;obtain ⟨y,C⟩:=cF (l:=l) (i:=i) (by omega);obtain ⟨la,o,Q,k9⟩:=M.ix (by decide) V5 gQ zO C;have rk:ak K la o=some (.int .i64 y.kind):=by
   have:=(k9 _ (Ext.refl _)).1 0 (by omega);simpa [XX] using this
  have rt:ak K la (o+2)=some (.str y.dQ):=by rw [(k9 _ (Ext.refl _)).1 2 (by omega)];rfl
  have rdv:ak K la (o+3)=some (.str y.dev):=by rw [(k9 _ (Ext.refl _)).1 3 (by omega)];rfl
  refine ⟨fun vs s'=>aJ s'/\∃ (c:dX) (x:aF),wM s3 s' w c x (3*i+1),?_,la,o,Q _,y.kind,rk,af.mk (fun _=>?_) (fun _=>af.mk (fun _=>?_) (fun _=>af.mk (fun _=>?_) (fun _=>⟨ae,c,x,n.mono (by omega)⟩)))⟩
  ·rintro b' ⟨ca,c,x,D⟩;have F:=hE.ext D.ap;have go:∀ {s':AS} {c:dX} {x:aF} {B:Nat},aJ s'->wM s3 s' w c x B->B<=3*(i+1)->∃ m',m'<l.length - i/\∃ (i':Nat) (c:dX) (x:aF),[AV.int .i64 (IntKind.wrap .i64 ((i:Int)+1))]=[.int .i64 (i':Nat)]/\i'<=l.length/\m'=l.length - i'/\aJ s'/\wM s3 s' w c x (3*i'):=fun w' S' hB=>⟨l.length - (i+1),by omega,i+1,_,_,by rw [uJ (by omega)],by omega,rfl,w',S'.mono hB⟩;refine ⟨fun vs s'=>∃ b:Bool,vs=[.bool b]/\Ext b' s'/\aJ s'/\(b=true->∃ m,E[i]? = some m/\fN m.ev=true),?_,?_⟩
   ·rintro ds dt ⟨b,hv,al,cb,hm⟩;simp only [List.cons.injEq,AV.bool.injEq,and_true] at hv;subst hv;have H:=D.ext al;refine af.mk (fun hb=>?_) (fun _=>go cb H (by omega));obtain ⟨m,j,cc⟩:=hm hb;have a7:=F.ext al;obtain ⟨le,oe,j8,j9⟩:=a7.ix (by decide) aE aR fB j;refine ⟨_,H.aD.1,le,oe,j8 _,_,(j9 _ (Ext.refl _)).2,?_⟩;refine aa.use (H.offer (by omega) ((a9 m (List.mem_of_getElem? j)).ext H.ap)) ?_;rintro du dv ⟨⟨a,z,rfl⟩,c',O⟩ dy;have a8:=hE.ext O.ap;obtain ⟨df,dk,i8,i9⟩:=a8.ix (by decide) aE aR fB j;refine ⟨_,_,rfl,_,O.aD.2.2,df,dk,i8 _,_,(i9 _ (Ext.refl _)).2,?_⟩;refine aa.use (O.XQ (by omega) (sQ cc).1) ?_;rintro dC dE ⟨⟨a,b,rfl⟩,cd⟩ ce;exact ⟨_,_,rfl,go ce cd (by omega)⟩
   ·refine ⟨_,F.b_ aR _,af.dec (fun bm=>?_) (fun _=>⟨false,rfl,Ext.refl _,ca,fun h=>by cases h⟩)⟩;obtain ⟨m,j⟩:=cF (l:=E) (i:=i) (by omega);obtain ⟨le,oe,j8,j9⟩:=F.ix (by decide) aE aR fB j;refine ⟨_,D.aD.2.2,le,oe,j8 _,_,(j9 _ (Ext.refl _)).2,?_⟩;refine aa.use (D.may ((a9 m (List.mem_of_getElem? j)).ext D.ap)) ?_;rintro dT d' ⟨rfl,cf⟩ ch;exact ⟨_,rfl,_,rfl,cf,ch,fun hb=>⟨m,j,hb⟩⟩
  ·refine ⟨la,o,Q _,_,rt,la,o,Q _,_,rdv,?_⟩;refine aa.use (n.sub (by omega) _ _) ?_;rintro v s' ⟨rfl,x',S'⟩ w';exact ⟨_,rfl,w',c,x',S'⟩
  ·refine ⟨la,o,Q _,_,rt,la,o,Q _,_,rdv,?_⟩;refine aa.use (n.rem (by omega) _ _) ?_;rintro v s' ⟨rfl,x',S'⟩ w';exact ⟨rfl,w',c,x',S'⟩
  ·refine ⟨la,o,Q _,_,rt,?_⟩;refine aa.use (n.V1 (by omega) _) ?_;rintro v s' ⟨⟨b,rfl⟩,c',S'⟩ w';exact ⟨_,rfl,w',c',x,S'⟩
end
section
open Go.Am Go.aq Go.aB Go.ChangeShapes Go.WideShapes Go.ChangeAt Go.RowKit
set_option maxRecDepth 100000 in
theorem V6:zh Tryz.prog 5 lX=some ([.int .i64,.int .i64,.str,.str]++List.replicate 16 (.int .u64)++[.bool,.bool]):=by kernel_rfl
set_option maxRecDepth 100000 in
theorem Wt {H:Type} {enc:TypeId×Value->H} {W:World} {base:Nat} {v:Value} (hv:Value.okWide Tryz.prog W .any base bK v) (h:∃ (d:DataW H) (p:List MemPlace),DataW.Trod enc Tryz.prog W 0 (fun _=>true) true bK v d p) :
  ∃ l:List NA,Sl XX 22 (sW W) (dM W.heap.size (MW W) v) l:=by
 obtain ⟨d,p,h⟩:=h;obtain ⟨C,b,h2,_⟩:=Rh (d:=5) (hT.cW _ _ gQ) V6 (by kernel_rfl) (by decide) hv h;obtain ⟨l,e1,e2,A⟩:=uj (f:=XX) (Q:=fun i=>True) C fun c j=>by
  have k:=h2 c j;obtain ⟨a1,B,rfl,⟨m,rfl,_⟩,n⟩:=k.cons;obtain ⟨a2,c2,rfl,⟨o,rfl,_⟩,r⟩:=n.cons;obtain ⟨a3,D,rfl,⟨w,rfl,_⟩,x⟩:=r.cons;obtain ⟨a4,y,rfl,⟨z,rfl,_⟩,e⟩:=x.cons;exact ⟨⟨m,o,w,z,y,by simpa using e.len,List.all_eq_true.2 e.one⟩,rfl,trivial⟩
 rw [e1,e2] at b;exact ⟨l,b⟩
end
section
open Go.Am Go.aq Go.aB Go.ChangeShapes Go.WideShapes Go.ChangeAt Go.RowKit
theorem JT:∀ (n:Nat) (cs:List AV),cQ (List.replicate n (.int .u64)) cs->∃ vs:List Int,cs=vs.map (.int .u64)/\vs.length=n
 | 0,cs,h=>by
  obtain rfl:=cQ.nil h;exact ⟨[],rfl,rfl⟩
 | n+1,cs,h=>by
  obtain ⟨a,b,rfl,⟨r,rfl,c,h2⟩,g⟩:=cQ.cons h;obtain ⟨vs,rfl,h3⟩:=JT n b g;exact ⟨r::vs,rfl,by simp [h3]⟩
def Wn:List LK:=[.int .u8]
def Wr:List LK:=[.int .i64,.int .u64,.str]
set_option maxRecDepth 100000 in
theorem V7:GM Tryz.prog 5 gN=some (([.fl (.int .i64),.fl (.int .u64),.fl .str,.sl Wn]++(List.replicate 16 (.int .u64)).map .fl)++[.sl Wr]):=by kernel_rfl
theorem UK {w:World} {v:AV} (h:Jp w (.sl Wn) v):v.one=true/\∃ l,gZ (sW w) v l:=by
 obtain ⟨b,C,h2,h3,_⟩:=h;refine ⟨b,?_⟩;obtain ⟨l,e1,e2,k⟩:=uj (f:=qv) (Q:=fun _=>True) C fun c d=>by
  obtain ⟨a,m,rfl,⟨r,rfl,e,i⟩,j⟩:=(h3 c d).cons;obtain rfl:=j.nil;exact ⟨r,rfl,trivial⟩
 rw [e1,e2] at h2;exact ⟨l,h2⟩
theorem UL {w:World} {v:AV} (h:Jp w (.sl Wr) v):v.one=true/\∃ l,Sl qM 3 (sW w) v l:=by
 obtain ⟨d,C,h2,h3,_⟩:=h;refine ⟨d,?_⟩;obtain ⟨l,e1,e2,m⟩:=uj (f:=qM) (Q:=fun _=>True) C fun c e=>by
  obtain ⟨a,o,rfl,⟨r,rfl,_⟩,i⟩:=(h3 c e).cons;obtain ⟨b,c2,rfl,⟨n,rfl,_⟩,j⟩:=i.cons;obtain ⟨b,p,rfl,⟨t,rfl,_⟩,k⟩:=j.cons;obtain rfl:=k.nil;exact ⟨⟨⟨r,n⟩,t⟩,rfl,trivial⟩
 rw [e1,e2] at h2;exact ⟨l,h2⟩
set_option maxRecDepth 100000 in
theorem Sr {W:World} {base:Nat} {v:Value} (hv:Value.okWide Tryz.prog W .any base cL v):∃ b:List UInt8,dM W.heap.size (MW W) v=.str b:=by
 obtain ⟨n,rfl⟩:=okWide_string (hT.cW _ _ pL) hv;exact ⟨n.data.toList,by simp only [dM]⟩
set_option maxRecDepth 100000 in
theorem UR {H:Type} {enc:TypeId×Value->H} {W:World} {base:Nat} {v:Value} (hv:Value.okWide Tryz.prog W .any base ay v) (h:∃ (d:DataW H) (p:List MemPlace),DataW.Trod enc Tryz.prog W 0 (fun _=>true) true ay v d p) :
  ∃ E:List gj,Sl ep 21 (sW W) (dM W.heap.size (MW W) v) E/\∀ m∈E,rV (sW W) m:=by
 obtain ⟨d,p,h⟩:=h;obtain ⟨C,j,h2,h3⟩:=OH (d:=5) (hT.cW _ _ aR) V7 (by kernel_rfl) (by simp) hv h;obtain ⟨l,e1,e2,o⟩:=uj (f:=ep) (Q:=fun m=>rV (sW W) m) C fun c r=>by
  obtain ⟨c0,J,rfl,w,x⟩:=cK.split (h2 c r);obtain ⟨K,c2,rfl,y,z⟩:=cK.split w;obtain ⟨a,L,rfl,⟨k,rfl,_⟩,A⟩:=cK.cons y;obtain ⟨a,M,rfl,⟨n,rfl,_⟩,B⟩:=cK.cons A;obtain ⟨a,O,rfl,⟨t,rfl,_⟩,D⟩:=cK.cons B;obtain ⟨pv,R,rfl,hp,F⟩:=cK.cons D;obtain rfl:=cK.nil F;obtain ⟨tv,S,rfl,ht,G⟩:=cK.cons x;obtain rfl:=cK.nil G;obtain ⟨vs,rfl,b⟩:=JT 16 _ (cK.flat z);obtain ⟨p1,I,e⟩:=UK hp;obtain ⟨t1,lt,i⟩:=UL ht;exact ⟨⟨⟨⟨k,n⟩,t,I,vs,lt⟩,pv,tv,b,p1,t1⟩,by simp [ep],e,i⟩
 rw [e1,e2] at j;exact ⟨l,j,o⟩
end
end Go.Proofs.YtohgmogbabkkeaaGreat
