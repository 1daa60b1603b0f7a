/-
  A part of the proof: an abstract machine over the model, and contracts of functions of this program over it.
-/
import Derived.KernelRfl
import Derived.Test.YtohgmogbabkkeaaGreatP4
set_option linter.unusedVariables false
set_option linter.unusedSimpArgs false
set_option linter.unusedSectionVars false
section
set_option maxRecDepth 100000
set_option maxHeartbeats 4000000
namespace Go.Proofs.YtohgmogbabkkeaaGreat
open Go.Am
def MQ  (s:AS) (R:AV→AS→Prop):Prop :=
 aj (.cells [(.int .u64 0)] 0 false) s fun l1 s2=>bu (cN s2 l1 0 [(.int .u64 2)]) fun s3=>bC fun I4 m5=>I4 m5 [(.slc none 0 0 true),(.ptr (some (l1,0)))] s3 ∧
 ∀ m6:Nat,∀ v7:AV,∀ p8:Option (Nat×Nat),∀ s9:AS,I4 m6 [v7,(.ptr p8)] s9 →
 aW .i64 (aP T e_ v7 s9) fun j9=>af (decide ((j9:Int)<64))
 (bw fun J11 =>
 (∀ i_:AV,∀ bS:AS,J11 [i_] bS →
 ai p8 fun lR we=>aW .u64 (av bS lR we) fun vg=>aj (.cells [(.int .u64 0)] 0 false) bS fun j_ eC=>bu (cN eC j_ 0 [(.int .u64 vg)]) fun iD=>aW .u64 (av iD j_ 0) fun Dk=>bu (cN iD j_ 0 [(.int .u64 (IntKind.wrap .u64 (Dk+1)))]) fun gn=>∃ m',m'<m6∧I4 m' [i_,(.ptr (some (j_,0)))] gn) ∧
 (aa Tryz.prog bX [v7,(.func rj [(.ptr p8)])] s9 fun qm rO=>∃ VI:Bool,qm=.bool VI∧(af (!VI)
 (ai p8 fun Ji K6=>aW .u64 (av rO Ji K6) fun EG=>aR (cZ T e_ 1 [(0,(.int .u64 EG))]) fun Zk=>aj (.cells Zk 0 false) rO fun U_ kL=>iG (aJ T e_ e_ v7 (.slc (some (U_,0)) 1 1 true) kL) fun wE lS=>J11 [wE] lS)
 (J11 [v7] rO))))
 (R v7 s9)
def MR:QA:=(.seq .leaf (.seq .leaf (.seq (.seq .leaf (.wrap (.loop [(1,.any),(2,.ptr)] [(1,16)] (.seq (.seq .leaf (.cond .leaf .leaf)) (.join [(1,.any)] [(1,1),(8,15)] (.wrap (.seq .leaf (.cond .leaf .leaf))) (.seq (.seq .leaf .leaf) .leaf)))))) (.seq .leaf .leaf))))
theorem MS  (s:AS) (R:AV→AS→Prop) (h:MQ  s R):aa Tryz.prog u_ [] s R :=
 aa.q (n:=18) (rs:=[.tmp 0]) (A:=MR) hT bU Tryz.func258 (by kernel_rfl) rfl rfl rfl (by kernel_rfl) (by kernel_rfl) h
def Ij (a0:Int) (c0:Option (Nat×Nat)) (s:AS) (R:AV→AS→Prop):Prop :=
 ai c0 fun l1 o2=>aW .u64 (av s l1 o2) fun n3=>NZ a0 (R (.bool ((Int.tmod n3 a0:Int)==0)) s)
def Ik:QA:=(.seq .leaf (.seq .leaf .leaf))
theorem Il (a0:Int) (c0:Option (Nat×Nat)) (s:AS) (R:AV→AS→Prop) (h:Ij a0 c0 s R):aa Tryz.prog rj [(.int .u64 a0),(.ptr c0)] s R :=
 aa.q (n:=8) (rs:=[.tmp 3]) (A:=Ik) hT bU Tryz.func291 (by kernel_rfl) rfl rfl rfl (by kernel_rfl) (by kernel_rfl) h
def MT (a0:Int) (s:AS) (R:AV→AS→Prop):Prop :=
 aj (.cells [.int .u64 0,.int .u64 0] 0 false) s fun l1 s2=>aa Tryz.prog fW [(.int .u64 a0),(.int .u64 a0)] s2 fun v3 s4=>∃ n5:Int,∃ n6:Int,v3=.aQ [(.int .u64 n5),(.int .u64 n6)]∧(pN (aU T fy [(0,(.int .u64 n5)),(1,(.int .u64 n6))]) fun g7=>fj (some 2) g7 (bu (cN s4 l1 0 g7) fun s8=>aR (aB s8 l1 0 2) fun g9=>R (.agg g9) s8))
def MU:QA:=(.seq .leaf (.seq .leaf (.seq .leaf .leaf)))
theorem MV (a0:Int) (s:AS) (R:AV→AS→Prop) (h:MT a0 s R):aa Tryz.prog fl [(.int .u64 a0)] s R :=
 aa.q (n:=14) (rs:=[.cell 2 341]) (A:=MU) hT bU Tryz.func297 (by kernel_rfl) rfl rfl rfl (by kernel_rfl) (by kernel_rfl) h
def Sq (a0:Int) (s:AS) (R:AV→AS→Prop):Prop :=
 aj (.cells [.int .u64 0,.int .u64 0] 0 false) s fun l1 s2=>aa Tryz.prog fl [(.int .u64 a0)] s2 fun v3 s4=>∃ g5:List AV,v3=.agg g5∧(aj (.cells [.int .u64 0,.int .u64 0] 0 false) s4 fun l6 s7=>fj (some 2) g5 (bu (cN s7 l6 0 g5) fun s8=>bH (ag T fy (.ptr (some (l6,0))) (.int .i64 1)) fun l9 Dq=>aW .u64 (av s8 l9 Dq) fun iN=>aa Tryz.prog fW [(.int .u64 iN),(.int .u64 a0)] s8 fun i_ bS=>∃ vp:Int,∃ wR:Int,i_=.aQ [(.int .u64 vp),(.int .u64 wR)]∧(bH (ag T fy (.ptr (some (l6,0))) (.int .i64 0)) fun rU EI=>aW .u64 (av bS rU EI) fun JF=>aa Tryz.prog fW [(.int .u64 JF),(.int .u64 a0)] bS fun wT fN=>∃ T1:Int,∃ QK:Int,wT=.aQ [(.int .u64 T1),(.int .u64 QK)]∧(aa Tryz.prog sq [(.int .u64 QK),(.int .u64 vp),(.int .u64 0)] fN fun Jl qx=>∃ ql:Int,∃ n26:Int,Jl=.aQ [(.int .u64 ql),(.int .u64 n26)]∧(NN 32 (NN 32 (aW .u64 (bB .or .u64 (IntKind.wrap .u64 ((IntKind.wrap .u64 (T1+n26))*2 ^ min (Int.toNat 32) (IntKind.bits .u64))) (Int.fdiv ql (2 ^ min (Int.toNat 32) (IntKind.bits .u64)))) fun EG=>NN 32 (NN 32 (aW .u64 (bB .or .u64 (IntKind.wrap .u64 (ql*2 ^ min (Int.toNat 32) (IntKind.bits .u64))) (Int.fdiv wR (2 ^ min (Int.toNat 32) (IntKind.bits .u64)))) fun Jm=>pN (aU T fy [(0,(.int .u64 EG)),(1,(.int .u64 Jm))]) fun RV=>NN 32 (fj (some 2) RV (bu (cN qx l1 0 RV) fun kL=>aR (aB kL l1 0 2) fun Mr=>R (.aQ [(.agg Mr),(.bool ((IntKind.wrap .u64 (wR*2 ^ min (Int.toNat 32) (IntKind.bits .u64)):Int) != 0))]) kL)))))))))))
def Sr:QA:=(.seq .leaf (.seq .leaf (.seq .leaf (.seq .leaf (.seq .leaf (.seq .leaf (.seq .leaf .leaf)))))))
theorem Ss (a0:Int) (s:AS) (R:AV→AS→Prop) (h:Sq a0 s R):aa Tryz.prog z2 [(.int .u64 a0)] s R :=
 aa.q (n:=50) (rs:=[.cell 2 341,.tmp 3]) (A:=Sr) hT bU Tryz.func294 (by kernel_rfl) rfl rfl rfl (by kernel_rfl) (by kernel_rfl) h
def Pj (a0:List AV) (a1:Bool) (a2:Int) (s:AS) (R:AV→AS→Prop):Prop :=
 cF a0 (aj (.cells a0 0 false) s fun l1 s2=>bH (ag T fy (.ptr (some (l1,0))) (.int .i64 0)) fun l3 o4=>aW .u64 (av s2 l3 o4) fun n5=>af (decide ((n5:Int)>a2)) (R (.bool true) s2) (bH (ag T fy (.ptr (some (l1,0))) (.int .i64 0)) fun l6 o7=>aW .u64 (av s2 l6 o7) fun n8=>af ((n8:Int)==a2) (bH (ag T fy (.ptr (some (l1,0))) (.int .i64 1)) fun l9 Dq=>aW .u64 (av s2 l9 Dq) fun iN=>af (decide ((iN:Int)>0)) (R (.bool true) s2) (R (.bool a1) s2)) (R (.bool false) s2)))
def Pk:QA:=(.seq .leaf (.seq .leaf .leaf))
theorem Pm (a0:List AV) (a1:Bool) (a2:Int) (s:AS) (R:AV→AS→Prop) (h:Pj a0 a1 a2 s R):aa Tryz.prog sn [(.agg a0),(.bool a1),(.int .u64 a2)] s R :=
 aa.q (n:=25) (rs:=[.tmp 6]) (A:=Pk) hT bU Tryz.func295 (by kernel_rfl) rfl rfl rfl (by kernel_rfl) (by kernel_rfl) h
def St (a0:AV) (s:AS) (R:AV→AS→Prop):Prop :=
 bw fun J1 =>
 (∀ n2:Int,∀ s3:AS,J1 [(.int .u64 n2)] s3 →
 R (.int .u32 (IntKind.wrap .u32 n2)) s3) ∧
 (bC fun I4 m5=>I4 m5 [(.int .u64 0),(.int .i64 0)] s ∧
 ∀ m6:Nat,∀ n7:Int,∀ n8:Int,∀ s9:AS,I4 m6 [(.int .u64 n7),(.int .i64 n8)] s9 →
 af (decide ((n8:Int)<38))
 (NN (IntKind.wrap .i64 (37 - n8)) (aW .u64 (bB .or .u64 n7 (IntKind.wrap .u64 (1*2 ^ min (Int.toNat (IntKind.wrap .i64 (37 - n8))) (IntKind.bits .u64)))) fun j9=>en Tryz.prog a0 [(.int .u64 j9)] s9 fun v11 dg=>∃ Jk:Bool,v11=.bool Jk∧(af (!Jk)
 (∃ m',m'<m6∧I4 m' [(.int .u64 j9),(.int .i64 (IntKind.wrap .i64 (n8+1)))] dg)
 (∃ m',m'<m6∧I4 m' [(.int .u64 n7),(.int .i64 (IntKind.wrap .i64 (n8+1)))] dg))))
 (J1 [(.int .u64 n7)] s9))
def Su:QA:=(.seq .leaf (.seq .leaf (.join [(3,.int .u64)] [(3,19)] (.seq .leaf (.wrap (.loop [(3,.int .u64),(6,.int .i64)] [(3,19)] (.seq .leaf (.seq (.cond .leaf .leaf) (.seq (.wrap (.seq .leaf (.seq .leaf (.seq .leaf (.cond .leaf .leaf))))) .leaf)))))) (.seq .leaf .leaf))))
theorem Sv (a0:AV) (s:AS) (R:AV→AS→Prop) (h:St a0 s R):aa Tryz.prog va [a0] s R :=
 aa.q (n:=22) (rs:=[.tmp 2]) (A:=Su) hT bU Tryz.func292 (by kernel_rfl) rfl rfl rfl (by kernel_rfl) (by kernel_rfl) h
def Im (a0:Int) (s:AS) (R:AV→AS→Prop):Prop :=
 aj (.cells [(.int .u64 a0)] 0 false) s fun l1 s2=>aa Tryz.prog va [(.func nY [(.ptr (some (l1,0)))])] s2 fun v3 s4=>∃ n5:Int,v3=.int .u32 n5∧(R (.int .u32 n5) s4)
def Io:QA:=(.seq .leaf (.seq .leaf .leaf))
theorem Ip (a0:Int) (s:AS) (R:AV→AS→Prop) (h:Im a0 s R):aa Tryz.prog ri [(.int .u64 a0)] s R :=
 aa.q (n:=5) (rs:=[.tmp 2]) (A:=Io) hT bU Tryz.func259 (by kernel_rfl) rfl rfl rfl (by kernel_rfl) (by kernel_rfl) h
def DJ (a0:Int) (c0:Option (Nat×Nat)) (s:AS) (R:AV→AS→Prop):Prop :=
 aa Tryz.prog z2 [(.int .u64 a0)] s fun v1 s2=>∃ g3:List AV,∃ b4:Bool,v1=.aQ [(.agg g3),(.bool b4)]∧(aj (.cells [.int .u64 0,.int .u64 0] 0 false) s2 fun l5 s6=>fj (some 2) g3 (bu (cN s6 l5 0 g3) fun s7=>aR (aB s7 l5 0 2) fun g8=>ai c0 fun l9 Dq=>aW .u64 (av s7 l9 Dq) fun iN=>aa Tryz.prog sn [(.agg g8),(.bool b4),(.int .u64 iN)] s7 fun i_ bS=>∃ FB:Bool,i_=.bool FB∧(R (.bool FB) bS)))
def DK:QA:=(.seq .leaf (.seq .leaf (.seq .leaf .leaf)))
theorem DL (a0:Int) (c0:Option (Nat×Nat)) (s:AS) (R:AV→AS→Prop) (h:DJ a0 c0 s R):aa Tryz.prog nY [(.int .u64 a0),(.ptr c0)] s R :=
 aa.q (n:=15) (rs:=[.tmp 3]) (A:=DK) hT bU Tryz.func293 (by kernel_rfl) rfl rfl rfl (by kernel_rfl) (by kernel_rfl) h
def Pn (a0:Int) (s:AS) (R:AV→AS→Prop):Prop :=
 aj (.cells [(.int .u64 a0)] 0 false) s fun l1 s2=>aa Tryz.prog va [(.func sX [(.ptr (some (l1,0)))])] s2 fun v3 s4=>∃ n5:Int,v3=.int .u32 n5∧(R (.int .u32 n5) s4)
def Po:QA:=(.seq .leaf (.seq .leaf .leaf))
theorem Pp (a0:Int) (s:AS) (R:AV→AS→Prop) (h:Pn a0 s R):aa Tryz.prog xN [(.int .u64 a0)] s R :=
 aa.q (n:=5) (rs:=[.tmp 2]) (A:=Po) hT bU Tryz.func260 (by kernel_rfl) rfl rfl rfl (by kernel_rfl) (by kernel_rfl) h
def J2 (a0:Int) (c0:Option (Nat×Nat)) (s:AS) (R:AV→AS→Prop):Prop :=
 gu fun S V=>(∀ s1:AS,Ext s s1→aM s1→(True)→aa Tryz.prog fl [(.int .u64 a0)] s1 fun v2 s3=>∃ g4:List AV,v2=.agg g4∧((Ext s1 s3∧S 1 [(.func fl []),(.int .u64 a0)] (.agg g4) s3∧V 1 [(.func fl []),(.int .u64 a0)] (.agg g4))))∧(∃ v,V 1 [(.func fl []),(.int .u64 a0)] v)∧∀ v5:AV,V 1 [(.func fl []),(.int .u64 a0)] v5→∃ g6:List AV,v5=.agg g6∧(ai c0 fun l7 o8=>aW .u64 (av s l7 o8) fun n9=>∀ jD:AS,Ext s jD→aM jD→(S 1 [(.func fl []),(.int .u64 a0)] (.agg g6) jD∧True)→aa Tryz.prog sn [(.agg g6),(.bool false),(.int .u64 n9)] jD fun i_ bS=>∃ FB:Bool,i_=.bool FB∧(R (.bool FB) bS))
def J_:QA:=(.seq .leaf (.seq (.gL 3 [[],[],[]] [1]) .leaf))
theorem Ka (a0:Int) (c0:Option (Nat×Nat)) (s:AS) (R:AV→AS→Prop) (h:J2 a0 c0 s R):aa Tryz.prog sX [(.int .u64 a0),(.ptr c0)] s R :=
 aa.q (n:=8) (rs:=[.tmp 3]) (A:=J_) hT bU Tryz.func296 (by kernel_rfl) rfl rfl rfl (by kernel_rfl) (by kernel_rfl) h
def Pq  (s:AS) (R:AV→AS→Prop):Prop :=
 aj (.cells (List.replicate 72 (.int .u32 0)) 0 false) s fun l1 s2=>aj (.cells (List.replicate 72 (.int .u32 0)) 0 false) s2 fun l3 s4=>aa Tryz.prog u_ [] s4 fun v5 s6=>aW .i64 (aP T e_ v5 s6) fun n7=>bC fun I8 m9=>I8 m9 [(.int .i64 0)] s6 ∧
 ∀ Ft:Nat,∀ iN:Int,∀ dg:AS,I8 Ft [(.int .i64 iN)] dg →
 af (decide ((iN:Int)<n7))
 (bH (ag T e_ v5 (.int .i64 iN)) fun tJ JA=>aW .u64 (av dg tJ JA) fun wR=>aa Tryz.prog ri [(.int .u64 wR)] dg fun oh lZ=>∃ JF:Int,oh=.int .u32 JF∧(bH (ag T dx (.ptr (some (l3,8))) (.int .i64 iN)) fun A1 Fi=>bu (cN lZ A1 Fi [(.int .u32 JF)]) fun gn=>af (decide ((iN:Int)<8))
 (aa Tryz.prog xN [(.int .u64 wR)] gn fun qm rO=>∃ yN:Int,qm=.int .u32 yN∧(bH (ag T cj (.ptr (some (l3,0))) (.int .i64 iN)) fun Ji K6=>bu (cN rO Ji K6 [(.int .u32 yN)]) fun mQ=>∃ m',m'<Ft∧I8 m' [(.int .i64 (IntKind.wrap .i64 (iN+1)))] mQ))
 (∃ m',m'<Ft∧I8 m' [(.int .i64 (IntKind.wrap .i64 (iN+1)))] gn)))
 (aR (aB dg l3 0 72) fun Zk=>fj (some 72) Zk (bu (cN dg l1 0 Zk) fun z4=>aR (aB z4 l1 0 72) fun z7=>R (.agg z7) z4))
def Pr:QA:=(.seq .leaf (.seq .leaf (.seq (.seq .leaf (.wrap (.loop [(6,.int .i64)] [(2,3),(6,23)] (.seq .leaf (.seq (.cond .leaf .leaf) (.seq (.wrap (.seq .leaf (.seq .leaf (.seq .leaf (.cond .leaf .leaf))))) .leaf)))))) (.seq .leaf .leaf))))
theorem Pt  (s:AS) (R:AV→AS→Prop) (h:Pq  s R):aa Tryz.prog xM [] s R :=
 aa.q (n:=25) (rs:=[.cell 0 288]) (A:=Pr) hT bU Tryz.func219 (by kernel_rfl) rfl rfl rfl (by kernel_rfl) (by kernel_rfl) h
def BU (a0:Option (Nat×Nat)) (a1:AV) (s:AS) (R:AV→AS→Prop):Prop :=
 aj (.cells (List.replicate 64 (.int .u32 0)) 0 false) s fun l1 s2=>bw fun J3 =>
 (∀ s4:AS,J3 [] s4 →
 bw fun J5 =>
 (∀ s6:AS,J5 [] s6 →
 ai a0 fun l7 o8=>bH (ag T cj (.ptr (some (l7,o8))) (.int .i64 0)) fun l9 Dq=>aW .u32 (av s6 l9 Dq) fun iN=>ai a0 fun rP wj=>bH (ag T cj (.ptr (some (rP,wj))) (.int .i64 1)) fun lR we=>aW .u32 (av s6 lR we) fun vg=>ai a0 fun j_ wz=>bH (ag T cj (.ptr (some (j_,wz))) (.int .i64 2)) fun A1 Fi=>aW .u32 (av s6 A1 Fi) fun T1=>ai a0 fun BG GQ=>bH (ag T cj (.ptr (some (BG,GQ))) (.int .i64 3)) fun RM Yx=>aW .u32 (av s6 RM Yx) fun n26=>ai a0 fun GR o28=>bH (ag T cj (.ptr (some (GR,o28))) (.int .i64 4)) fun U_ NQ=>aW .u32 (av s6 U_ NQ) fun n31=>ai a0 fun Ms YC=>bH (ag T cj (.ptr (some (Ms,YC))) (.int .i64 5)) fun HW JB=>aW .u32 (av s6 HW JB) fun Zi=>ai a0 fun OV JD=>bH (ag T cj (.ptr (some (OV,JD))) (.int .i64 6)) fun VF VG=>aW .u32 (av s6 VF VG) fun n41=>ai a0 fun l42 o43=>bH (ag T cj (.ptr (some (l42,o43))) (.int .i64 7)) fun NP U7=>aW .u32 (av s6 NP U7) fun n46=>bw fun J47 =>
 (∀ n48:Int,∀ U9:Int,∀ n50:Int,∀ Sx:Int,∀ n52:Int,∀ QM:Int,∀ YD:Int,∀ n55:Int,∀ zC:AS,J47 [(.int .u32 n48),(.int .u32 U9),(.int .u32 n50),(.int .u32 Sx),(.int .u32 n52),(.int .u32 QM),(.int .u32 YD),(.int .u32 n55)] zC →
 pN (aU T cj [(0,(.int .u32 n48)),(1,(.int .u32 U9)),(2,(.int .u32 n50)),(3,(.int .u32 Sx)),(4,(.int .u32 n52)),(5,(.int .u32 QM)),(6,(.int .u32 YD)),(7,(.int .u32 n55))]) fun g57=>bC fun QO m59=>QO m59 [(.int .i64 0)] zC ∧
 ∀ WR:Nat,∀ EJ:Int,∀ BF:AS,QO WR [(.int .i64 EJ)] BF →
 af (decide ((EJ:Int)<8))
 (aW .u32 (jd T cj (.agg g57) (.int .i64 EJ)) fun n63=>ai a0 fun l64 o65=>bH (ag T cj (.ptr (some (l64,o65))) (.int .i64 EJ)) fun l66 o67=>aW .u32 (av BF l66 o67) fun Jj=>ai a0 fun l69 o70=>bH (ag T cj (.ptr (some (l69,o70))) (.int .i64 EJ)) fun l71 o72=>bu (cN BF l71 o72 [(.int .u32 (IntKind.wrap .u32 (Jj+n63)))]) fun s73=>∃ m',m'<WR∧QO m' [(.int .i64 (IntKind.wrap .i64 (EJ+1)))] s73)
 (R (.aQ []) BF)) ∧
 (bC fun I74 m75=>I74 m75 [(.int .u32 iN),(.int .u32 vg),(.int .u32 T1),(.int .u32 n26),(.int .u32 n31),(.int .u32 Zi),(.int .u32 n41),(.int .u32 n46),(.int .i64 0)] s6 ∧
 ∀ m76:Nat,∀ n77:Int,∀ n78:Int,∀ QN:Int,∀ n80:Int,∀ Zl:Int,∀ n82:Int,∀ n83:Int,∀ n84:Int,∀ RR:Int,∀ OX:AS,I74 m76 [(.int .u32 n77),(.int .u32 n78),(.int .u32 QN),(.int .u32 n80),(.int .u32 Zl),(.int .u32 n82),(.int .u32 n83),(.int .u32 n84),(.int .i64 RR)] OX →
 af (decide ((RR:Int)<64))
 (gu fun S V=>(∀ s87:AS,Ext OX s87→aM s87→(True)→aR (cZ T gB 3 [(0,(.int .i64 6)),(1,(.int .i64 11)),(2,(.int .i64 25))]) fun g88=>aj (.cells g88 0 false) s87 fun l89 s90=>(Ext s87 s90∧S 3 [(.int .i64 6),(.int .i64 11),(.int .i64 25)] (.slc (some (l89,0)) 3 3 true) s90∧V 3 [(.int .i64 6),(.int .i64 11),(.int .i64 25)] (.slc (some (l89,0)) 3 3 true)))∧(∃ v,V 3 [(.int .i64 6),(.int .i64 11),(.int .i64 25)] v)∧∀ v91:AV,V 3 [(.int .i64 6),(.int .i64 11),(.int .i64 25)] v91→(∀ s92:AS,Ext OX s92→aM s92→(S 3 [(.int .i64 6),(.int .i64 11),(.int .i64 25)] v91 s92∧True)→aa Tryz.prog aE [(.int .u32 Zl),v91] s92 fun v93 s94=>∃ n95:Int,v93=.int .u32 n95∧((Ext s92 s94∧S 4 [(.func aE []),(.int .u32 Zl),v91] (.int .u32 n95) s94∧V 4 [(.func aE []),(.int .u32 Zl),v91] (.int .u32 n95))))∧(∃ v,V 4 [(.func aE []),(.int .u32 Zl),v91] v)∧∀ v96:AV,V 4 [(.func aE []),(.int .u32 Zl),v91] v96→∃ n97:Int,v96=.int .u32 n97∧(aW .u32 (bB .and .u32 Zl n82) fun n98=>aW .u32 (aun .xor (.int .u32 Zl)) fun n99=>aW .u32 (bB .and .u32 n99 n83) fun ahN=>aW .u32 (bB .xor .u32 n98 ahN) fun afr=>ai a0 fun ahO ahP=>bH (ag T dx (.ptr (some (ahO,(ahP+8)))) (.int .i64 RR)) fun ac5 ac6=>aW .u32 (av OX ac5 ac6) fun afs=>bH (ag T dx (.ptr (some (l1,0))) (.int .i64 RR)) fun ahQ ahR=>aW .u32 (av OX ahQ ahR) fun YF=>∀ VJ:AS,Ext OX VJ→aM VJ→(S 3 [(.int .i64 6),(.int .i64 11),(.int .i64 25)] v91 VJ∧(S 4 [(.func aE []),(.int .u32 Zl),v91] (.int .u32 n97) VJ∧True))→aR (cZ T gB 3 [(0,(.int .i64 2)),(1,(.int .i64 13)),(2,(.int .i64 22))]) fun ahS=>aj (.cells ahS 0 false) VJ fun aft Mu=>aa Tryz.prog aE [(.int .u32 n77),(.slc (some (aft,0)) 3 3 true)] Mu fun ahT afu=>∃ afv:Int,ahT=.int .u32 afv∧(aW .u32 (bB .and .u32 n77 n78) fun ahU=>aW .u32 (bB .and .u32 n77 QN) fun ahV=>aW .u32 (bB .xor .u32 ahU ahV) fun ahW=>aW .u32 (bB .and .u32 n78 QN) fun ahX=>aW .u32 (bB .xor .u32 ahW ahX) fun ahY=>∃ m',m'<m76∧I74 m' [(.int .u32 (IntKind.wrap .u32 ((IntKind.wrap .u32 ((IntKind.wrap .u32 ((IntKind.wrap .u32 ((IntKind.wrap .u32 (n84+n97))+afr))+afs))+YF))+(IntKind.wrap .u32 (afv+ahY))))),(.int .u32 n77),(.int .u32 n78),(.int .u32 QN),(.int .u32 (IntKind.wrap .u32 (n80+(IntKind.wrap .u32 ((IntKind.wrap .u32 ((IntKind.wrap .u32 ((IntKind.wrap .u32 (n84+n97))+afr))+afs))+YF))))),(.int .u32 Zl),(.int .u32 n82),(.int .u32 n83),(.int .i64 (IntKind.wrap .i64 (RR+1)))] afu)))
 (J47 [(.int .u32 n77),(.int .u32 n78),(.int .u32 QN),(.int .u32 n80),(.int .u32 Zl),(.int .u32 n82),(.int .u32 n83),(.int .u32 n84)] OX))) ∧
 (bC fun adA ahZ=>adA ahZ [(.int .i64 16)] s4 ∧
 ∀ aaR:Nat,∀ MX:Int,∀ DM:AS,adA aaR [(.int .i64 MX)] DM →
 af (decide ((MX:Int)<64))
 (bH (ag T dx (.ptr (some (l1,0))) (.int .i64 (IntKind.wrap .i64 (MX - 15)))) fun ah0 ah1=>aW .u32 (av DM ah0 ah1) fun Pu=>bH (ag T dx (.ptr (some (l1,0))) (.int .i64 (IntKind.wrap .i64 (MX - 2)))) fun ah2 ah3=>aW .u32 (av DM ah2 ah3) fun Sy=>gu fun S V=>bH (ag T dx (.ptr (some (l1,0))) (.int .i64 (IntKind.wrap .i64 (MX - 16)))) fun ah4 ah5=>aW .u32 (av DM ah4 ah5) fun ah6=>(∀ Zm:AS,Ext DM Zm→aM Zm→(True)→aR (cZ T gB 2 [(0,(.int .i64 7)),(1,(.int .i64 18))]) fun ah7=>aj (.cells ah7 0 false) Zm fun adB adC=>(Ext Zm adC∧S 7 [(.int .i64 7),(.int .i64 18)] (.slc (some (adB,0)) 2 2 true) adC∧V 7 [(.int .i64 7),(.int .i64 18)] (.slc (some (adB,0)) 2 2 true)))∧(∃ v,V 7 [(.int .i64 7),(.int .i64 18)] v)∧∀ FE:AV,V 7 [(.int .i64 7),(.int .i64 18)] FE→(∀ VK:AS,Ext DM VK→aM VK→(S 7 [(.int .i64 7),(.int .i64 18)] FE VK∧True)→aa Tryz.prog aE [(.int .u32 Pu),FE] VK fun ah8 afw=>∃ adD:Int,ah8=.int .u32 adD∧((Ext VK afw∧S 8 [(.func aE []),(.int .u32 Pu),FE] (.int .u32 adD) afw∧V 8 [(.func aE []),(.int .u32 Pu),FE] (.int .u32 adD))))∧(∃ v,V 8 [(.func aE []),(.int .u32 Pu),FE] v)∧∀ adE:AV,V 8 [(.func aE []),(.int .u32 Pu),FE] adE→∃ aa3:Int,adE=.int .u32 aa3∧(NN 3 (aW .u32 (bB .xor .u32 aa3 (Int.fdiv Pu (2 ^ min (Int.toNat 3) (IntKind.bits .u32)))) fun ah9=>bH (ag T dx (.ptr (some (l1,0))) (.int .i64 (IntKind.wrap .i64 (MX - 7)))) fun ah_ aia=>aW .u32 (av DM ah_ aia) fun aib=>(∀ Zn:AS,Ext DM Zn→aM Zn→(True)→aR (cZ T gB 2 [(0,(.int .i64 17)),(1,(.int .i64 19))]) fun aic=>aj (.cells aic 0 false) Zn fun adF adG=>(Ext Zn adG∧S 20 [(.int .i64 17),(.int .i64 19)] (.slc (some (adF,0)) 2 2 true) adG∧V 20 [(.int .i64 17),(.int .i64 19)] (.slc (some (adF,0)) 2 2 true)))∧(∃ v,V 20 [(.int .i64 17),(.int .i64 19)] v)∧∀ Kb:AV,V 20 [(.int .i64 17),(.int .i64 19)] Kb→(∀ Pv:AS,Ext DM Pv→aM Pv→(S 7 [(.int .i64 7),(.int .i64 18)] FE Pv∧(S 8 [(.func aE []),(.int .u32 Pu),FE] (.int .u32 aa3) Pv∧(S 20 [(.int .i64 17),(.int .i64 19)] Kb Pv∧True)))→aa Tryz.prog aE [(.int .u32 Sy),Kb] Pv fun aid afx=>∃ adH:Int,aid=.int .u32 adH∧((Ext Pv afx∧S 21 [(.func aE []),(.int .u32 Sy),Kb] (.int .u32 adH) afx∧V 21 [(.func aE []),(.int .u32 Sy),Kb] (.int .u32 adH))))∧(∃ v,V 21 [(.func aE []),(.int .u32 Sy),Kb] v)∧∀ adI:AV,V 21 [(.func aE []),(.int .u32 Sy),Kb] adI→∃ adJ:Int,adI=.int .u32 adJ∧(NN 10 (aW .u32 (bB .xor .u32 adJ (Int.fdiv Sy (2 ^ min (Int.toNat 10) (IntKind.bits .u32)))) fun aie=>∀ Pw:AS,Ext DM Pw→aM Pw→(S 7 [(.int .i64 7),(.int .i64 18)] FE Pw∧(S 8 [(.func aE []),(.int .u32 Pu),FE] (.int .u32 aa3) Pw∧(S 20 [(.int .i64 17),(.int .i64 19)] Kb Pw∧(S 21 [(.func aE []),(.int .u32 Sy),Kb] (.int .u32 adJ) Pw∧True))))→bH (ag T dx (.ptr (some (l1,0))) (.int .i64 MX)) fun aif aih=>bu (cN Pw aif aih [(.int .u32 (IntKind.wrap .u32 ((IntKind.wrap .u32 ((IntKind.wrap .u32 (ah6+ah9))+aib))+aie)))]) fun afy=>∃ m',m'<aaR∧adA m' [(.int .i64 (IntKind.wrap .i64 (MX+1)))] afy)))))
 (J5 [] DM))) ∧
 (bC fun adK aii=>adK aii [(.int .i64 0)] s2 ∧
 ∀ afz:Nat,∀ Px:Int,∀ Zo:AS,adK afz [(.int .i64 Px)] Zo →
 af (decide ((Px:Int)<16))
 (dJ (aY T aq a1 (some (.int .i64 (IntKind.wrap .i64 (4*Px)))) (some (.int .i64 (IntKind.wrap .i64 ((IntKind.wrap .i64 (4*Px))+4)))) none) fun afA=>aW .i64 (aP T aq afA Zo) fun aij=>bC fun adL aik=>adL aik [(.int .i64 0)] Zo ∧
 ∀ afB:Nat,∀ Zp:Int,∀ Sz:AS,adL afB [(.int .i64 Zp)] Sz →
 af (decide ((Zp:Int)<aij))
 (bH (ag T aq afA (.int .i64 Zp)) fun ail aim=>aW .u8 (av Sz ail aim) fun ain=>bH (ag T dx (.ptr (some (l1,0))) (.int .i64 Px)) fun aio aip=>aW .u32 (av Sz aio aip) fun aiq=>NN 8 (aW .u32 (bB .or .u32 (IntKind.wrap .u32 (aiq*2 ^ min (Int.toNat 8) (IntKind.bits .u32))) (IntKind.wrap .u32 ain)) fun air=>bH (ag T dx (.ptr (some (l1,0))) (.int .i64 Px)) fun ais ait=>bu (cN Sz ais ait [(.int .u32 air)]) fun afC=>∃ m',m'<afB∧adL m' [(.int .i64 (IntKind.wrap .i64 (Zp+1)))] afC))
 (∃ m',m'<afz∧adK m' [(.int .i64 (IntKind.wrap .i64 (Px+1)))] Sz))
 (J3 [] Zo))
def BV:QA:=(.seq .leaf (.seq .leaf (.join [] [(6,6),(8,8),(25,50)] (.seq .leaf (.wrap (.loop [(25,.int .i64)] [(6,6),(8,8),(25,50)] (.seq .leaf (.seq (.cond .leaf .leaf) (.seq (.wrap (.seq .leaf (.seq .leaf (.wrap (.loop [(36,.int .i64)] [(8,8),(36,49)] (.seq .leaf (.seq (.cond .leaf .leaf) (.seq (.wrap (.seq .leaf .leaf)) .leaf)))))))) .leaf)))))) (.join [] [(9,11),(51,89)] (.seq .leaf (.wrap (.loop [(9,.int .i64)] [(9,11),(51,89)] (.seq (.seq .leaf (.cond .leaf .leaf)) (.seq (.wrap (.seq (.draw 9) (.gL 26 [[],[],[],[],[],[],[],[],[7],[],[],[],[],[],[],[],[],[],[],[],[],[7,8,20],[],[],[],[]] [7,8,20,21]))) .leaf))))) (.seq (.draw 47) (.join [(12,.int .u32),(13,.int .u32),(14,.int .u32),(15,.int .u32),(16,.int .u32),(17,.int .u32),(18,.int .u32),(19,.int .u32)] [(12,22),(130,187)] (.seq .leaf (.wrap (.loop [(12,.int .u32),(13,.int .u32),(14,.int .u32),(15,.int .u32),(16,.int .u32),(17,.int .u32),(18,.int .u32),(19,.int .u32),(130,.int .i64)] [(12,22),(130,187)] (.seq .leaf (.seq (.cond .leaf .leaf) (.seq (.wrap (.seq .leaf (.seq (.gL 25 [[],[],[],[],[3],[],[],[],[],[],[],[],[],[],[],[],[],[],[],[],[],[],[],[],[]] [3,4]) (.seq .leaf .leaf)))) .leaf)))))) (.seq .leaf (.wrap (.loop [(197,.int .i64)] [(23,24),(197,212)] (.seq .leaf (.seq (.cond .leaf .leaf) (.seq (.wrap (.seq .leaf (.draw 10))) .leaf))))))))))))
theorem BW (a0:Option (Nat×Nat)) (a1:AV) (s:AS) (R:AV→AS→Prop) (h:BU a0 a1 s R):aa Tryz.prog mL [(.ptr a0),a1] s R :=
 aa.q (n:=213) (rs:=[]) (A:=BV) hT bU Tryz.func261 (by kernel_rfl) rfl rfl rfl (by kernel_rfl) (by kernel_rfl) h
def za (a0:Int) (a1:AV) (s:AS) (R:AV→AS→Prop):Prop :=
 aW .i64 (aP T gB a1 s) fun n1=>bC fun I2 m3=>I2 m3 [(.int .u32 0),(.int .i64 0)] s ∧
 ∀ m4:Nat,∀ n5:Int,∀ n6:Int,∀ s7:AS,I2 m4 [(.int .u32 n5),(.int .i64 n6)] s7 →
 af (decide ((n6:Int)<n1))
 (bH (ag T gB a1 (.int .i64 n6)) fun l8 o9=>aW .i64 (av s7 l8 o9) fun j9=>aa Tryz.prog gj [(.int .u32 a0),(.int .i64 (IntKind.wrap .i64 (0 - j9)))] s7 fun v11 dg=>∃ wu:Int,v11=.int .u32 wu∧(aW .u32 (bB .xor .u32 n5 wu) fun vp=>∃ m',m'<m4∧I2 m' [(.int .u32 vp),(.int .i64 (IntKind.wrap .i64 (n6+1)))] dg))
 (R (.int .u32 n5) s7)
def zb:QA:=(.seq .leaf (.seq .leaf (.seq (.seq .leaf (.wrap (.loop [(5,.int .u32),(10,.int .i64)] [(5,5),(7,7),(10,20)] (.seq .leaf (.seq (.cond .leaf .leaf) (.seq (.wrap (.seq .leaf .leaf)) .leaf)))))) (.seq .leaf .leaf))))
theorem ze (a0:Int) (a1:AV) (s:AS) (R:AV→AS→Prop) (h:za a0 a1 s R):aa Tryz.prog aE [(.int .u32 a0),a1] s R :=
 aa.q (n:=22) (rs:=[.tmp 4]) (A:=zb) hT bU Tryz.func298 (by kernel_rfl) rfl rfl rfl (by kernel_rfl) (by kernel_rfl) h
def tj (a0:Int) (a1:Int) (s:AS) (R:AV→AS→Prop):Prop :=
 aW .u64 (bB .and .u64 (IntKind.wrap .u64 a1) 31) fun n1=>NN n1 (NN (IntKind.wrap .u64 (32 - n1)) (aW .u32 (bB .or .u32 (IntKind.wrap .u32 (a0*2 ^ min (Int.toNat n1) (IntKind.bits .u32))) (Int.fdiv a0 (2 ^ min (Int.toNat (IntKind.wrap .u64 (32 - n1))) (IntKind.bits .u32)))) fun n2=>R (.int .u32 n2) s))
def tn:QA:=(.seq .leaf (.seq .leaf (.seq .leaf .leaf)))
theorem tr (a0:Int) (a1:Int) (s:AS) (R:AV→AS→Prop) (h:tj a0 a1 s R):aa Tryz.prog gj [(.int .u32 a0),(.int .i64 a1)] s R :=
 aa.q (n:=17) (rs:=[.tmp 4]) (A:=tn) hT bU Tryz.func299 (by kernel_rfl) rfl rfl rfl (by kernel_rfl) (by kernel_rfl) h
def BX (a0:Int) (a1:Int) (s:AS) (R:AV→AS→Prop):Prop :=
 aW .u64 (bB .and .u64 a0 4294967295) fun n1=>NN 32 (aW .u64 (bB .and .u64 a1 4294967295) fun n2=>NN 32 (NN 32 (aW .u64 (bB .and .u64 (IntKind.wrap .u64 ((IntKind.wrap .u64 ((Int.fdiv a0 (2 ^ min (Int.toNat 32) (IntKind.bits .u64)))*n2))+(Int.fdiv (IntKind.wrap .u64 (n1*n2)) (2 ^ min (Int.toNat 32) (IntKind.bits .u64))))) 4294967295) fun n3=>NN 32 (NN 32 (R (.aQ [(.int .u64 (IntKind.wrap .u64 ((IntKind.wrap .u64 ((IntKind.wrap .u64 ((Int.fdiv a0 (2 ^ min (Int.toNat 32) (IntKind.bits .u64)))*(Int.fdiv a1 (2 ^ min (Int.toNat 32) (IntKind.bits .u64)))))+(Int.fdiv (IntKind.wrap .u64 ((IntKind.wrap .u64 ((Int.fdiv a0 (2 ^ min (Int.toNat 32) (IntKind.bits .u64)))*n2))+(Int.fdiv (IntKind.wrap .u64 (n1*n2)) (2 ^ min (Int.toNat 32) (IntKind.bits .u64))))) (2 ^ min (Int.toNat 32) (IntKind.bits .u64)))))+(Int.fdiv (IntKind.wrap .u64 (n3+(IntKind.wrap .u64 (n1*(Int.fdiv a1 (2 ^ min (Int.toNat 32) (IntKind.bits .u64))))))) (2 ^ min (Int.toNat 32) (IntKind.bits .u64)))))),(.int .u64 (IntKind.wrap .u64 (a0*a1)))]) s)))))
def BY:QA:=(.seq .leaf (.seq .leaf (.seq .leaf (.seq .leaf (.seq .leaf (.seq .leaf (.seq .leaf (.seq .leaf (.seq .leaf (.seq .leaf (.seq .leaf (.seq .leaf .leaf))))))))))))
theorem BZ (a0:Int) (a1:Int) (s:AS) (R:AV→AS→Prop) (h:BX a0 a1 s R):aa Tryz.prog fW [(.int .u64 a0),(.int .u64 a1)] s R :=
 aa.q (n:=51) (rs:=[.tmp 4,.tmp 5]) (A:=BY) hT bU Tryz.func306 (by kernel_rfl) rfl rfl rfl (by kernel_rfl) (by kernel_rfl) h
def B0 (a0:List AV) (a1:AV) (s:AS) (R:AV→AS→Prop):Prop :=
 cF a0 (aj (.cells a0 0 false) s fun l1 s2=>aj (.cells (List.replicate 32 (.int .u8 0)) 0 false) s2 fun l3 s4=>aa Tryz.prog eZ [a1] s4 fun v5 s6=>aW .i64 (aP T aq v5 s6) fun n7=>aR (cZ T aq 1 [(0,(.int .u8 128))]) fun g8=>aj (.cells g8 0 false) s6 fun l9 jD=>iG (aJ T aq aq v5 (.slc (some (l9,0)) 1 1 true) jD) fun v11 dg=>aW .i64 (aP T aq v11 dg) fun wu=>NZ 64 (NZ 64 (iG (aJ T aq ud v11 (.int .i64 (Int.tmod (IntKind.wrap .i64 (120 - (Int.tmod wu 64))) 64)) dg) fun tK f_=>bw fun J16 =>
 (∀ o_:AV,∀ eC:AS,J16 [o_] eC →
 bw fun J19 =>
 (∀ fN:AS,J19 [] fN →
 bC fun WV m22=>WV m22 [(.int .i64 0)] fN ∧
 ∀ Mp:Nat,∀ yN:Int,∀ dM:AS,WV Mp [(.int .i64 yN)] dM →
 af (decide ((yN:Int)<32))
 (NZ 4 (bH (ag T cj (.ptr (some (l1,0))) (.int .i64 (IntKind.wrap .i64 (Int.tdiv yN 4)))) fun Dn Fh=>aW .u32 (av dM Dn Fh) fun Jm=>NZ 4 (NN (IntKind.wrap .i64 (24 - (IntKind.wrap .i64 (8*(Int.tmod yN 4))))) (bH (ag T sZ (.ptr (some (l3,0))) (.int .i64 yN)) fun U_ NQ=>bu (cN dM U_ NQ [(.int .u8 (IntKind.wrap .u8 (Int.fdiv Jm (2 ^ min (Int.toNat (IntKind.wrap .i64 (24 - (IntKind.wrap .i64 (8*(Int.tmod yN 4)))))) (IntKind.bits .u32)))))]) fun nA=>∃ m',m'<Mp∧WV m' [(.int .i64 (IntKind.wrap .i64 (yN+1)))] nA))))
 (aR (aB dM l3 0 32) fun MP=>fj (some 32) MP (bu (cN dM l3 0 MP) fun qR=>aR (aB qR l3 0 32) fun NR=>R (.agg NR) qR))) ∧
 (bC fun I35 m36=>I35 m36 [o_] eC ∧
 ∀ m37:Nat,∀ HX:AV,∀ yM:AS,I35 m37 [HX] yM →
 aW .i64 (aP T aq HX yM) fun TQ=>af (decide ((TQ:Int)>0))
 (dJ (aY T aq HX none (some (.int .i64 64)) none) fun Zj=>aa Tryz.prog mL [(.ptr (some (l1,0))),Zj] yM fun y4 CR=>y4=.aQ []∧(dJ (aY T aq HX (some (.int .i64 64)) none none) fun Pd=>∃ m',m'<m37∧I35 m' [Pd] CR))
 (J19 [] yM))) ∧
 (bC fun I45 m46=>I45 m46 [tK,(.int .i64 0)] f_ ∧
 ∀ m47:Nat,∀ Vc:AV,∀ U9:Int,∀ pG:AS,I45 m47 [Vc,(.int .i64 U9)] pG →
 af (decide ((U9:Int)<8))
 (NN (IntKind.wrap .i64 (56 - (IntKind.wrap .i64 (8*U9)))) (aR (cZ T aq 1 [(0,(.int .u8 (IntKind.wrap .u8 (Int.fdiv (IntKind.wrap .u64 ((IntKind.wrap .u64 n7)*8)) (2 ^ min (Int.toNat (IntKind.wrap .i64 (56 - (IntKind.wrap .i64 (8*U9))))) (IntKind.bits .u64))))))]) fun TR=>aj (.cells TR 0 false) pG fun WQ K9=>iG (aJ T aq aq Vc (.slc (some (WQ,0)) 1 1 true) K9) fun GS JC=>∃ m',m'<m47∧I45 m' [GS,(.int .i64 (IntKind.wrap .i64 (U9+1)))] JC))
 (J16 [Vc] pG)))))
def B1:QA:=(.seq .leaf (.seq .leaf (.seq .leaf (.seq .leaf (.seq .leaf (.join [(5,.any)] [(5,5),(7,7),(25,37)] (.seq .leaf (.wrap (.loop [(5,.any),(25,.int .i64)] [(5,5),(7,7),(25,37)] (.seq .leaf (.seq (.cond .leaf .leaf) (.seq (.wrap (.seq .leaf .leaf)) .leaf)))))) (.join [] [(5,5),(38,45)] (.wrap (.loop [(5,.any)] [(5,5),(38,45)] (.seq (.seq .leaf (.cond .leaf .leaf)) (.seq (.wrap .leaf) .leaf)))) (.seq (.seq .leaf (.wrap (.loop [(46,.int .i64)] [(8,8),(46,62)] (.seq .leaf (.seq (.cond .leaf .leaf) (.seq (.wrap (.seq .leaf .leaf)) .leaf)))))) (.seq .leaf .leaf)))))))))
theorem B2 (a0:List AV) (a1:AV) (s:AS) (R:AV→AS→Prop) (h:B0 a0 a1 s R):aa Tryz.prog cD [(.agg a0),a1] s R :=
 aa.q (n:=64) (rs:=[.cell 4 93]) (A:=B1) hT bU Tryz.func220 (by kernel_rfl) rfl rfl rfl (by kernel_rfl) (by kernel_rfl) h
def SA (a0:AV) (a1:AV) (s:AS) (R:AV→AS→Prop):Prop :=
 aj (.cells (List.replicate 32 (.int .u8 0)) 0 false) s fun l1 s2=>aa Tryz.prog xM [] s2 fun v3 s4=>∃ g5:List AV,v3=.agg g5∧(aj (.cells (List.replicate 72 (.int .u32 0)) 0 false) s4 fun l6 s7=>fj (some 72) g5 (bu (cN s7 l6 0 g5) fun s8=>bw fun J9 =>
 (∀ v10:AV,∀ fI:AS,J9 [v10] fI →
 aj (.cells (List.replicate 64 (.int .u8 0)) 0 false) fI fun rP bS=>aj (.cells (List.replicate 64 (.int .u8 0)) 0 false) bS fun lR f_=>dJ (aY T fX (.ptr (some (rP,0))) none none none) fun oh=>iG (qT T aq oh v10 f_) fun o_ eC=>aR (aB eC rP 0 64) fun GU=>fj (some 64) GU (bu (cN eC lR 0 GU) fun fN=>bw fun J21 =>
 (∀ fO:AS,J21 [] fO →
 gu fun S V=>aR (aB fO l6 0 72) fun ng=>dJ (aY T fX (.ptr (some (rP,0))) none none none) fun wU=>(∀ dM:AS,Ext fO dM→aM dM→(True)→aR (cZ T eF 1 [(0,wU)]) fun Fx=>aj (.cells Fx 0 false) dM fun GR rA=>(Ext dM rA∧S 2 [wU] (.slc (some (GR,0)) 1 1 true) rA∧V 2 [wU] (.slc (some (GR,0)) 1 1 true)))∧(∃ v,V 2 [wU] v)∧∀ mb:AV,V 2 [wU] mb→(∀ kL:AS,Ext fO kL→aM kL→(S 2 [wU] mb kL∧True)→iG (aJ T eF eF mb a1 kL) fun wE lS=>(Ext kL lS∧S 4 [mb,a1] wE lS∧V 4 [mb,a1] wE))∧(∃ v,V 4 [mb,a1] v)∧∀ qk:AV,V 4 [mb,a1] qk→(∀ ku:AS,Ext fO ku→aM ku→(S 2 [wU] mb ku∧(S 4 [mb,a1] qk ku∧True))→aa Tryz.prog cD [(.agg ng),qk] ku fun v35 oI=>∃ Kc:List AV,v35=.agg Kc∧((Ext ku oI∧S 5 [(.func cD []),(.agg ng),qk] (.agg Kc) oI∧V 5 [(.func cD []),(.agg ng),qk] (.agg Kc))))∧(∃ v,V 5 [(.func cD []),(.agg ng),qk] v)∧∀ HX:AV,V 5 [(.func cD []),(.agg ng),qk] HX→∃ g39:List AV,HX=.agg g39∧((∀ GP:AS,Ext fO GP→aM GP→(True)→aj (.cells (List.replicate 32 (.int .u8 0)) 0 false) GP fun AZ K7=>(Ext GP K7∧S 6 [] (.ptr (some (AZ,0))) K7∧V 6 [] (.ptr (some (AZ,0)))))∧(∃ v,V 6 [] v)∧∀ So:AV,V 6 [] So→∃ T2:Option (Nat×Nat),So=.ptr T2∧(∀ xW:AS,Ext fO xW→aM xW→(S 2 [wU] mb xW∧(S 4 [mb,a1] qk xW∧(S 5 [(.func cD []),(.agg ng),qk] (.agg g39) xW∧(S 6 [] (.ptr T2) xW∧True))))→ai T2 fun Va Vb=>fj (some 32) g39 (bu (cN xW Va Vb g39) fun z6=>gu fun S V=>aR (aB z6 l6 0 72) fun g50=>dJ (aY T fX (.ptr (some (lR,0))) none none none) fun Aj=>dJ (aY T sZ (.ptr T2) none none none) fun v52=>(∀ K9:AS,Ext z6 K9→aM K9→(True)→aR (cZ T eF 2 [(0,Aj),(1,v52)]) fun Y1=>aj (.cells Y1 0 false) K9 fun l55 zC=>(Ext K9 zC∧S 3 [Aj,v52] (.slc (some (l55,0)) 2 2 true) zC∧V 3 [Aj,v52] (.slc (some (l55,0)) 2 2 true)))∧(∃ v,V 3 [Aj,v52] v)∧∀ MD:AV,V 3 [Aj,v52] MD→∀ QW:AS,Ext z6 QW→aM QW→(S 3 [Aj,v52] MD QW∧True)→aa Tryz.prog cD [(.agg g50),MD] QW fun v60 MK=>∃ g62:List AV,v60=.agg g62∧(fj (some 32) g62 (bu (cN MK l1 0 g62) fun A3=>aR (aB A3 l1 0 32) fun g64=>R (.agg g64) A3)))))) ∧
 (bC fun I65 m66=>I65 m66 [(.int .i64 0)] fN ∧
 ∀ m67:Nat,∀ Jj:Int,∀ Vd:AS,I65 m67 [(.int .i64 Jj)] Vd →
 af (decide ((Jj:Int)<64))
 (bH (ag T fX (.ptr (some (rP,0))) (.int .i64 Jj)) fun l70 o71=>aW .u8 (av Vd l70 o71) fun n72=>aW .u8 (bB .xor .u8 n72 54) fun n73=>bH (ag T fX (.ptr (some (rP,0))) (.int .i64 Jj)) fun l74 o75=>bu (cN Vd l74 o75 [(.int .u8 n73)]) fun s76=>bH (ag T fX (.ptr (some (lR,0))) (.int .i64 Jj)) fun l77 o78=>aW .u8 (av s76 l77 o78) fun QN=>aW .u8 (bB .xor .u8 QN 92) fun n80=>bH (ag T fX (.ptr (some (lR,0))) (.int .i64 Jj)) fun l81 o82=>bu (cN s76 l81 o82 [(.int .u8 n80)]) fun s83=>∃ m',m'<m67∧I65 m' [(.int .i64 (IntKind.wrap .i64 (Jj+1)))] s83)
 (J21 [] Vd)))) ∧
 (aW .i64 (aP T aq a0 s8) fun n84=>af (decide ((n84:Int)>64))
 (aR (aB s8 l6 0 72) fun g85=>aR (cZ T eF 1 [(0,a0)]) fun g86=>aj (.cells g86 0 false) s8 fun l87 s88=>aa Tryz.prog cD [(.agg g85),(.slc (some (l87,0)) 1 1 true)] s88 fun v89 s90=>∃ g91:List AV,v89=.agg g91∧(aj (.cells (List.replicate 32 (.int .u8 0)) 0 false) s90 fun l92 s93=>fj (some 32) g91 (bu (cN s93 l92 0 g91) fun s94=>dJ (aY T sZ (.ptr (some (l92,0))) none none none) fun v95=>J9 [v95] s94)))
 (J9 [a0] s8))))
def SB:QA:=(.seq .leaf (.seq .leaf (.join [(0,.any)] [(0,0),(6,6),(12,19)] (.seq .leaf (.cond (.seq .leaf .leaf) .leaf)) (.seq .leaf (.seq .leaf (.seq .leaf (.join [] [(9,9),(24,37)] (.seq .leaf (.wrap (.loop [(24,.int .i64)] [(9,9),(24,37)] (.seq .leaf (.seq (.cond .leaf .leaf) (.seq (.wrap (.seq .leaf (.seq .leaf .leaf))) .leaf)))))) (.seq (.gL 7 [[],[],[],[],[2],[2,4],[]] [2,4,5,6]) (.seq (.gL 4 [[],[],[],[]] [3]) .leaf)))))))))
theorem SC (a0:AV) (a1:AV) (s:AS) (R:AV→AS→Prop) (h:SA a0 a1 s R):aa Tryz.prog zZ [a0,a1] s R :=
 aa.q (n:=49) (rs:=[.cell 4 93]) (A:=SB) hT bU Tryz.func167 (by kernel_rfl) rfl rfl rfl (by kernel_rfl) (by kernel_rfl) h
def Py (a0:List AV) (a1:List AV) (s:AS) (R:AV→AS→Prop):Prop :=
 cF a0 (aj (.cells a0 0 false) s fun l1 s2=>cF a1 (aj (.cells a1 0 false) s2 fun l3 s4=>bw fun J5 =>
 (∀ n6:Int,∀ s7:AS,J5 [(.int .u8 n6)] s7 →
 R (.bool ((n6:Int)==0)) s7) ∧
 (bC fun I8 m9=>I8 m9 [(.int .u8 0),(.int .i64 0)] s4 ∧
 ∀ Ft:Nat,∀ iN:Int,∀ wS:Int,∀ bS:AS,I8 Ft [(.int .u8 iN),(.int .i64 wS)] bS →
 af (decide ((wS:Int)<32))
 (bH (ag T sZ (.ptr (some (l1,0))) (.int .i64 wS)) fun lR we=>aW .u8 (av bS lR we) fun vg=>bH (ag T sZ (.ptr (some (l3,0))) (.int .i64 wS)) fun j_ wz=>aW .u8 (av bS j_ wz) fun z3=>aW .u8 (bB .xor .u8 vg z3) fun Dk=>aW .u8 (bB .or .u8 iN Dk) fun T1=>∃ m',m'<Ft∧I8 m' [(.int .u8 T1),(.int .i64 (IntKind.wrap .i64 (wS+1)))] bS)
 (J5 [(.int .u8 iN)] bS))))
def Pz:QA:=(.seq .leaf (.seq .leaf (.join [(5,.int .u8)] [(5,19)] (.seq .leaf (.wrap (.loop [(5,.int .u8),(7,.int .i64)] [(5,19)] (.seq .leaf (.seq (.cond .leaf .leaf) (.seq (.wrap (.seq .leaf (.draw 8))) .leaf)))))) (.seq .leaf .leaf))))
theorem PA (a0:List AV) (a1:List AV) (s:AS) (R:AV→AS→Prop) (h:Py a0 a1 s R):aa Tryz.prog xH [(.agg a0),(.agg a1)] s R :=
 aa.q (n:=22) (rs:=[.tmp 4]) (A:=Pz) hT bU Tryz.func91 (by kernel_rfl) rfl rfl rfl (by kernel_rfl) (by kernel_rfl) h
end Go.Proofs.YtohgmogbabkkeaaGreat
end

section
set_option maxRecDepth 100000
set_option maxHeartbeats 4000000
namespace Go.Proofs.YtohgmogbabkkeaaGreat
open Go.Am
def FF (a0:List UInt8) (s:AS) (R:AV→AS→Prop):Prop :=
 aW .i64 (aP T cq (.str a0) s) fun n1=>af (decide ((n1:Int)≥1)) (aW .i64 (aP T cq (.str a0) s) fun n2=>R (.bool (decide ((n2:Int)≤32))) s) (R (.bool false) s)
def FG:QA:=(.seq .leaf (.seq .leaf .leaf))
theorem FH (a0:List UInt8) (s:AS) (R:AV→AS→Prop) (h:FF a0 s R):aa Tryz.prog fP [(.str a0)] s R :=
 aa.q (n:=11) (rs:=[.tmp 2]) (A:=FG) hT bU Tryz.func76 (by kernel_rfl) rfl rfl rfl (by kernel_rfl) (by kernel_rfl) h
def Iq (a0:List AV) (s:AS) (R:AV→AS→Prop):Prop :=
 cF a0 (aj (.cells a0 0 false) s fun l1 s2=>aW .i64 (av s2 l1 0) fun n3=>af (decide ((n3:Int)≥1)) (aW .i64 (av s2 l1 0) fun n4=>af (decide ((n4:Int)≤16)) (aW .u64 (av s2 l1 1) fun n5=>af (decide ((n5:Int)≥1)) (aW .u64 (av s2 l1 1) fun n6=>R (.bool (decide ((n6:Int)≤4611686018427387904))) s2) (R (.bool false) s2)) (R (.bool false) s2)) (R (.bool false) s2))
def Ir:QA:=(.seq .leaf (.seq .leaf .leaf))
theorem Is (a0:List AV) (s:AS) (R:AV→AS→Prop) (h:Iq a0 s R):aa Tryz.prog jz [(.agg a0)] s R :=
 aa.q (n:=21) (rs:=[.tmp 2]) (A:=Ir) hT bU Tryz.func222 (by kernel_rfl) rfl rfl rfl (by kernel_rfl) (by kernel_rfl) h
def MY (a0:List AV) (a1:List AV) (s:AS) (R:AV→AS→Prop):Prop :=
 cF a0 (aj (.cells a0 0 false) s fun l1 s2=>cF a1 (aj (.cells a1 0 false) s2 fun l3 s4=>gu fun S V=>aW .i64 (av s4 l1 0) fun n5=>aW .i64 (av s4 l3 0) fun n6=>(∀ s7:AS,Ext s4 s7→aM s7→(True)→aa Tryz.prog aO [(.int .i64 n5),(.int .i64 n6)] s7 fun v8 s9=>∃ j9:Int,v8=.int .i64 j9∧((Ext s7 s9∧S 4 [(.func aO []),(.int .i64 n5),(.int .i64 n6)] (.int .i64 j9) s9∧V 4 [(.func aO []),(.int .i64 n5),(.int .i64 n6)] (.int .i64 j9))))∧(∃ v,V 4 [(.func aO []),(.int .i64 n5),(.int .i64 n6)] v)∧∀ v11:AV,V 4 [(.func aO []),(.int .i64 n5),(.int .i64 n6)] v11→∃ wS:Int,v11=.int .i64 wS∧(aW .u64 (av s4 l1 1) fun wu=>aW .u64 (av s4 l3 1) fun vp=>∀ f_:AS,Ext s4 f_→aM f_→(S 4 [(.func aO []),(.int .i64 n5),(.int .i64 n6)] (.int .i64 wS) f_∧True)→aa Tryz.prog ez [(.int .u64 wu),(.int .u64 vp)] f_ fun o_ eC=>∃ z3:Int,o_=.int .i64 z3∧(aR (cZ T gB 2 [(0,(.int .i64 wS)),(1,(.int .i64 z3))]) fun RU=>aj (.cells RU 0 false) eC fun OU fO=>aa Tryz.prog kH [(.slc (some (OU,0)) 2 2 true)] fO fun Jl qx=>∃ ql:Int,Jl=.int .i64 ql∧(R (.bool (decide ((ql:Int)<0))) qx)))))
def MZ:QA:=(.seq .leaf (.seq (.gL 9 [[],[],[],[],[],[],[],[],[]] [4]) .leaf))
theorem M4 (a0:List AV) (a1:List AV) (s:AS) (R:AV→AS→Prop) (h:MY a0 a1 s R):aa Tryz.prog u9 [(.agg a0),(.agg a1)] s R :=
 aa.q (n:=18) (rs:=[.tmp 4]) (A:=MZ) hT bU Tryz.func224 (by kernel_rfl) rfl rfl rfl (by kernel_rfl) (by kernel_rfl) h
def B3 (a0:List AV) (s:AS) (R:AV→AS→Prop):Prop :=
 cF a0 (aj (.cells a0 0 false) s fun l1 s2=>dJ (aY T bg (.ptr (some (l1,0))) none none none) fun v3=>aa Tryz.prog bX [v3,(.func qj [])] s2 fun v4 s5=>∃ b6:Bool,v4=.bool b6∧(R (.bool (!b6)) s5))
def B4:QA:=(.seq .leaf (.seq .leaf .leaf))
theorem B5 (a0:List AV) (s:AS) (R:AV→AS→Prop) (h:B3 a0 s R):aa Tryz.prog mJ [(.agg a0)] s R :=
 aa.q (n:=6) (rs:=[.tmp 2]) (A:=B4) hT bU Tryz.func223 (by kernel_rfl) rfl rfl rfl (by kernel_rfl) (by kernel_rfl) h
def zf (a0:Int) (s:AS) (R:AV→AS→Prop):Prop :=
 R (.bool (decide ((a0:Int)>4611686018427387904))) s
def zg:QA:=(.seq .leaf (.seq .leaf .leaf))
theorem zh (a0:Int) (s:AS) (R:AV→AS→Prop) (h:zf a0 s R):aa Tryz.prog qj [(.int .u64 a0)] s R :=
 aa.q (n:=5) (rs:=[.tmp 2]) (A:=zg) hT bU Tryz.func262 (by kernel_rfl) rfl rfl rfl (by kernel_rfl) (by kernel_rfl) h
def PB (a0:List AV) (s:AS) (R:AV→AS→Prop):Prop :=
 cF a0 (aj (.cells a0 0 false) s fun l1 s2=>aR (aB s2 l1 0 2) fun g3=>aa Tryz.prog jz [(.agg g3)] s2 fun v4 s5=>∃ b6:Bool,v4=.bool b6∧(af (!b6) (R (.bool false) s5) (aR (aB s5 l1 4 16) fun g7=>aa Tryz.prog mJ [(.agg g7)] s5 fun v8 s9=>∃ VD:Bool,v8=.bool VD∧(af (!VD) (R (.bool false) s9) (aW .i64 (av s9 l1 0) fun iN=>bH (ag T bg (.ptr (some (l1,4))) (.int .i64 (IntKind.wrap .i64 (iN - 1)))) fun rP wj=>aW .u64 (av s9 rP wj) fun vp=>aW .u64 (av s9 l1 1) fun wR=>af ((vp:Int) != (IntKind.wrap .u64 (wR - 1)))
 (R (.bool false) s9)
 (Jh (av s9 l1 2) fun x16=>aa Tryz.prog fP [(.str x16)] s9 fun o_ eC=>∃ b19:Bool,o_=.bool b19∧(af (!b19) (R (.bool false) eC) (dJ (av eC l1 3) fun v20=>aW .i64 (aP T aq v20 eC) fun T1=>af (decide ((T1:Int)>512)) (R (.bool false) eC) (dJ (av eC l1 20) fun qm=>aW .i64 (aP T bR qm eC) fun uj=>af (decide ((uj:Int)>1024))
 (R (.bool false) eC)
 (dJ (av eC l1 20) fun wU=>aW .i64 (aP T bR wU eC) fun ql=>bC fun I26 m27=>I26 m27 [(.bool true),(.int .i64 0)] eC ∧
 ∀ m28:Nat,∀ Zq:Bool,∀ A4:Int,∀ nA:AS,I26 m28 [(.bool Zq),(.int .i64 A4)] nA →
 af (decide ((A4:Int)<ql))
 (bH (ag T bR wU (.int .i64 A4)) fun Ms YC=>aR (aB nA Ms YC 3) fun NR=>aj (.cells [.int .i64 0,.int .u64 0,.str []] 0 false) nA fun Pe oI=>fj (some 3) NR (bu (cN oI Pe 0 NR) fun k5=>bw fun J38 =>
 (∀ W_:Bool,∀ GP:AS,J38 [(.bool W_)] GP →
 af (!W_)
 (R (.bool W_) GP)
 (∃ m',m'<m28∧I26 m' [(.bool W_),(.int .i64 (IntKind.wrap .i64 (A4+1)))] GP)) ∧
 (aR (aB k5 Pe 0 2) fun WU=>aa Tryz.prog jz [(.agg WU)] k5 fun y4 CR=>∃ b44:Bool,y4=.bool b44∧(af b44 (Jh (av CR Pe 2) fun x45=>aa Tryz.prog fP [(.str x45)] CR fun v46 wD=>∃ b48:Bool,v46=.bool b48∧(af b48 (af ((A4:Int)==0) (J38 [(.bool true)] wD) (dJ (av wD l1 20) fun v49=>bH (ag T bR v49 (.int .i64 (IntKind.wrap .i64 (A4 - 1)))) fun l50 o51=>aR (aB wD l50 o51 2) fun JY=>aR (aB wD Pe 0 2) fun g53=>aa Tryz.prog u9 [(.agg JY),(.agg g53)] wD fun GS JC=>∃ b56:Bool,GS=.bool b56∧(J38 [(.bool b56)] JC))) (J38 [(.bool false)] wD))) (J38 [(.bool false)] CR)))))
 (R (.bool Zq) nA)))))))))))
def PC:QA:=(.seq .leaf (.wrap (.seq (.seq .calm (.cond (.seq .leaf .leaf) .leaf)) (.seq (.seq .leaf (.cond (.seq .leaf .leaf) .leaf)) (.seq .leaf (.seq .leaf (.seq (.seq .leaf (.wrap (.loop [(3,.bool),(49,.int .i64)] [(3,5),(49,80)] (.seq .leaf (.seq (.cond .leaf .leaf) (.seq (.wrap (.seq .leaf (.join [(3,.bool)] [(3,3),(54,77)] .calm (.seq .leaf (.cond .leaf .leaf))))) .leaf)))))) (.seq .leaf .leaf))))))))
theorem PD (a0:List AV) (s:AS) (R:AV→AS→Prop) (h:PB a0 s R):aa Tryz.prog xK [(.agg a0)] s R :=
 aa.q (n:=82) (rs:=[.tmp 2]) (A:=PC) hT bU Tryz.func169 (by kernel_rfl) rfl rfl rfl (by kernel_rfl) (by kernel_rfl) h
def SD (a0:List AV) (a1:List UInt8) (s:AS) (R:AV→AS→Prop):Prop :=
 cF a0 (aj (.cells a0 0 false) s fun l1 s2=>dJ (av s2 l1 20) fun v3=>aW .i64 (aP T bR v3 s2) fun n4=>bC fun I5 m6=>I5 m6 [(.slc none 0 0 true),(.int .i64 0)] s2 ∧
 ∀ m7:Nat,∀ v8:AV,∀ n9:Int,∀ jD:AS,I5 m7 [v8,(.int .i64 n9)] jD →
 af (decide ((n9:Int)<n4))
 (bH (ag T bR v3 (.int .i64 n9)) fun Dg yU=>aR (aB jD Dg yU 3) fun wg=>aj (.cells [.int .i64 0,.int .u64 0,.str []] 0 false) jD fun lR f_=>fj (some 3) wg (bu (cN f_ lR 0 wg) fun kr=>Jh (av kr lR 2) fun x17=>af ((x17:List UInt8)==a1)
 (aR (aB kr lR 0 2) fun xY=>aR (cZ T az 1 [(0,(.agg xY))]) fun GU=>aj (.cells GU 0 false) kr fun CP gn=>iG (aJ T az az v8 (.slc (some (CP,0)) 1 1 true) gn) fun qm rO=>∃ m',m'<m7∧I5 m' [qm,(.int .i64 (IntKind.wrap .i64 (n9+1)))] rO)
 (∃ m',m'<m7∧I5 m' [v8,(.int .i64 (IntKind.wrap .i64 (n9+1)))] kr)))
 (R v8 jD))
def SF:QA:=(.seq .leaf (.seq .leaf (.seq (.seq .leaf (.wrap (.loop [(5,.any),(11,.int .i64)] [(5,5),(7,7),(11,24)] (.seq .leaf (.seq (.cond .leaf .leaf) (.seq (.wrap (.seq .leaf (.seq .leaf (.cond .leaf .leaf)))) .leaf)))))) (.seq .leaf .leaf))))
theorem SH (a0:List AV) (a1:List UInt8) (s:AS) (R:AV→AS→Prop) (h:SD a0 a1 s R):aa Tryz.prog z0 [(.agg a0),(.str a1)] s R :=
 aa.q (n:=26) (rs:=[.tmp 4]) (A:=SF) hT bU Tryz.func211 (by kernel_rfl) rfl rfl rfl (by kernel_rfl) (by kernel_rfl) h
def Ke (a0:List AV) (a1:List AV) (s:AS) (R:AV→AS→Prop):Prop :=
 cF a0 (aj (.cells a0 0 false) s fun l1 s2=>cF a1 (aj (.cells a1 0 false) s2 fun l3 s4=>aR (aB s4 l3 0 2) fun g5=>aa Tryz.prog jz [(.agg g5)] s4 fun v6 s7=>∃ b8:Bool,v6=.bool b8∧(af b8 (aW .i64 (av s7 l3 0) fun n9=>bH (ag T bg (.ptr (some (l1,0))) (.int .i64 (IntKind.wrap .i64 (n9 - 1)))) fun nB A0=>aW .u64 (av s7 nB A0) fun wS=>aW .u64 (av s7 l3 1) fun wu=>R (.bool (decide ((wS:Int)≥wu))) s7) (R (.bool false) s7))))
def Kf:QA:=(.seq .leaf (.seq .calm .leaf))
theorem Kg (a0:List AV) (a1:List AV) (s:AS) (R:AV→AS→Prop) (h:Ke a0 a1 s R):aa Tryz.prog sS [(.agg a0),(.agg a1)] s R :=
 aa.q (n:=17) (rs:=[.tmp 4]) (A:=Kf) hT bU Tryz.func212 (by kernel_rfl) rfl rfl rfl (by kernel_rfl) (by kernel_rfl) h
def jG (a0:AV) (a1:AV) (s:AS) (R:AV→AS→Prop):Prop :=
 aa Tryz.prog dn [a0,a1] s fun v1 s2=>∃ n3:Int,v1=.int .i64 n3∧(R (.bool (decide ((n3:Int)≥0))) s2)
def jH:QA:=(.seq .leaf (.seq .leaf .leaf))
theorem jJ (a0:AV) (a1:AV) (s:AS) (R:AV→AS→Prop) (h:jG a0 a1 s R):aa Tryz.prog bX [a0,a1] s R :=
 aa.q (n:=9) (rs:=[.tmp 4]) (A:=jH) hT bU Tryz.func185 (by kernel_rfl) rfl rfl rfl (by kernel_rfl) (by kernel_rfl) h
def kN (a0:AV) (a1:AV) (s:AS) (R:AV→AS→Prop):Prop :=
 aW .i64 (aP T e_ a0 s) fun n1=>bC fun I2 m3=>I2 m3 [(.int .i64 0)] s ∧
 ∀ m4:Nat,∀ n5:Int,∀ s6:AS,I2 m4 [(.int .i64 n5)] s6 →
 af (decide ((n5:Int)<n1))
 (bH (ag T e_ a0 (.int .i64 n5)) fun l7 o8=>aW .u64 (av s6 l7 o8) fun n9=>en Tryz.prog a1 [(.int .u64 n9)] s6 fun v10 fI=>∃ b12:Bool,v10=.bool b12∧(af b12
 (R (.int .i64 n5) fI)
 (∃ m',m'<m4∧I2 m' [(.int .i64 (IntKind.wrap .i64 (n5+1)))] fI)))
 (R (.int .i64 (-1)) s6)
def kO:QA:=(.seq .leaf (.seq (.seq .leaf (.wrap (.loop [(8,.int .i64)] [(4,5),(8,18)] (.seq .leaf (.seq (.cond .leaf .leaf) (.seq (.wrap (.seq .leaf (.seq .leaf (.cond (.seq .leaf .leaf) .leaf)))) .leaf)))))) (.seq .leaf .leaf)))
theorem kP (a0:AV) (a1:AV) (s:AS) (R:AV→AS→Prop) (h:kN a0 a1 s R):aa Tryz.prog dn [a0,a1] s R :=
 aa.q (n:=19) (rs:=[.tmp 4]) (A:=kO) hT bU Tryz.func245 (by kernel_rfl) rfl rfl rfl (by kernel_rfl) (by kernel_rfl) h
def mU (a0:AV) (a1:AV) (s:AS) (R:AV→AS→Prop):Prop :=
 aa Tryz.prog eO [a0,a1] s fun v1 s2=>∃ n3:Int,v1=.int .i64 n3∧(R (.bool (decide ((n3:Int)≥0))) s2)
def mV:QA:=(.seq .leaf (.seq .leaf .leaf))
theorem mW (a0:AV) (a1:AV) (s:AS) (R:AV→AS→Prop) (h:mU a0 a1 s R):aa Tryz.prog dY [a0,a1] s R :=
 aa.q (n:=9) (rs:=[.tmp 4]) (A:=mV) hT bU Tryz.func213 (by kernel_rfl) rfl rfl rfl (by kernel_rfl) (by kernel_rfl) h
def pq (a0:AV) (a1:AV) (s:AS) (R:AV→AS→Prop):Prop :=
 aW .i64 (aP T az a0 s) fun n1=>bC fun I2 m3=>I2 m3 [(.int .i64 0)] s ∧
 ∀ m4:Nat,∀ n5:Int,∀ s6:AS,I2 m4 [(.int .i64 n5)] s6 →
 af (decide ((n5:Int)<n1))
 (bH (ag T az a0 (.int .i64 n5)) fun l7 o8=>aR (aB s6 l7 o8 2) fun g9=>en Tryz.prog a1 [(.agg g9)] s6 fun v10 fI=>∃ b12:Bool,v10=.bool b12∧(af b12
 (R (.int .i64 n5) fI)
 (∃ m',m'<m4∧I2 m' [(.int .i64 (IntKind.wrap .i64 (n5+1)))] fI)))
 (R (.int .i64 (-1)) s6)
def pz:QA:=(.seq .leaf (.seq (.seq .leaf (.wrap (.loop [(8,.int .i64)] [(4,5),(8,18)] (.seq .leaf (.seq (.cond .leaf .leaf) (.seq (.wrap (.seq .leaf (.seq .leaf (.cond (.seq .leaf .leaf) .leaf)))) .leaf)))))) (.seq .leaf .leaf)))
theorem pA (a0:AV) (a1:AV) (s:AS) (R:AV→AS→Prop) (h:pq a0 a1 s R):aa Tryz.prog eO [a0,a1] s R :=
 aa.q (n:=19) (rs:=[.tmp 4]) (A:=pz) hT bU Tryz.func256 (by kernel_rfl) rfl rfl rfl (by kernel_rfl) (by kernel_rfl) h
end Go.Proofs.YtohgmogbabkkeaaGreat
end

section
set_option maxRecDepth 100000
set_option maxHeartbeats 4000000
namespace Go.Proofs.YtohgmogbabkkeaaGreat
open Go.Am
def qa (a0:AV) (s:AS) (R:AV→AS→Prop):Prop :=
 bw fun J1 =>
 (∀ n2:Int,∀ s3:AS,J1 [(.int .i64 n2)] s3 →
 aa Tryz.prog fG [(.slc none 0 0 true),(.int .i64 n2)] s3 fun v4 s5=>aW .i64 (aP T eF a0 s5) fun n6=>bC fun I7 m8=>I7 m8 [v4,(.int .i64 0)] s5 ∧
 ∀ m9:Nat,∀ v10:AV,∀ iN:Int,∀ dg:AS,I7 m9 [v10,(.int .i64 iN)] dg →
 af (decide ((iN:Int)<n6))
 (bH (ag T eF a0 (.int .i64 iN)) fun tJ JA=>dJ (av dg tJ JA) fun yV=>iG (aJ T aq aq v10 yV dg) fun oh lZ=>∃ m',m'<m9∧I7 m' [oh,(.int .i64 (IntKind.wrap .i64 (iN+1)))] lZ)
 (R v10 dg)) ∧
 (aW .i64 (aP T eF a0 s) fun JF=>bC fun I19 m20=>I19 m20 [(.int .i64 0),(.int .i64 0)] s ∧
 ∀ m21:Nat,∀ QK:Int,∀ uj:Int,∀ qx:AS,I19 m21 [(.int .i64 QK),(.int .i64 uj)] qx →
 af (decide ((uj:Int)<JF))
 (bH (ag T eF a0 (.int .i64 uj)) fun Ji K6=>dJ (av qx Ji K6) fun K4=>aW .i64 (aP T aq K4 qx) fun Jm=>af (decide ((IntKind.wrap .i64 (QK+Jm):Int)<0))
 (False)
 (∃ m',m'<m21∧I19 m' [(.int .i64 (IntKind.wrap .i64 (QK+Jm))),(.int .i64 (IntKind.wrap .i64 (uj+1)))] qx))
 (J1 [(.int .i64 QK)] qx))
def qb:QA:=(.seq .leaf (.seq .leaf (.join [(3,.int .i64)] [(3,3),(5,5),(9,22)] (.seq .leaf (.wrap (.loop [(3,.int .i64),(11,.int .i64)] [(3,3),(5,5),(11,22)] (.seq .leaf (.seq (.cond .leaf .leaf) (.seq (.wrap (.seq .leaf (.seq .leaf (.seq .leaf (.cond .leaf .leaf))))) .leaf)))))) (.seq .leaf (.seq (.seq .leaf (.wrap (.loop [(6,.any),(27,.int .i64)] [(6,6),(8,8),(27,34)] (.seq .leaf (.seq (.cond .leaf .leaf) (.seq (.wrap (.seq .leaf .leaf)) .leaf)))))) (.seq .leaf .leaf))))))
theorem qc (a0:AV) (s:AS) (R:AV→AS→Prop) (h:qa a0 s R):aa Tryz.prog eZ [a0] s R :=
 aa.q (n:=36) (rs:=[.tmp 2]) (A:=qb) hT bU Tryz.func248 (by kernel_rfl) rfl rfl rfl (by kernel_rfl) (by kernel_rfl) h
def rH (a0:AV) (a1:Int) (s:AS) (R:AV→AS→Prop):Prop :=
 af (decide ((a1:Int)<0))
 (False)
 (aW .i64 (wW T aq a0) fun n1=>aW .i64 (aP T aq a0 s) fun n2=>af (decide ((IntKind.wrap .i64 (a1 - (IntKind.wrap .i64 (n1 - n2))):Int)>0))
 (aW .i64 (wW T aq a0) fun n3=>dJ (aY T aq a0 none (some (.int .i64 n3)) none) fun v4=>iG (aJ T aq ud v4 (.int .i64 (IntKind.wrap .i64 (a1 - (IntKind.wrap .i64 (n1 - n2))))) s) fun v5 s6=>aW .i64 (aP T aq a0 s6) fun n7=>dJ (aY T aq v5 none (some (.int .i64 n7)) none) fun v8=>R v8 s6)
 (R a0 s))
def rI:QA:=(.seq .leaf (.seq (.seq .leaf (.cond .leaf .leaf)) (.seq (.seq .leaf (.seq .leaf (.cond .leaf .leaf))) (.seq .leaf .leaf))))
theorem rJ (a0:AV) (a1:Int) (s:AS) (R:AV→AS→Prop) (h:rH a0 a1 s R):aa Tryz.prog fG [a0,(.int .i64 a1)] s R :=
 aa.q (n:=27) (rs:=[.tmp 4]) (A:=rI) hT bU Tryz.func280 (by kernel_rfl) rfl rfl rfl (by kernel_rfl) (by kernel_rfl) h
def qC (a0:AV) (s:AS) (R:AV→AS→Prop):Prop :=
 uD (WG T aq true a0 (.slc none 0 0 true)) fun b1=>af b1
 (R (.slc none 0 0 true) s)
 (aR (cZ T aq 0 []) fun g2=>aj (.cells g2 0 false) s fun l3 s4=>iG (aJ T aq aq (.slc (some (l3,0)) 0 0 true) a0 s4) fun v5 s6=>R v5 s6)
def qD:QA:=(.seq .leaf (.seq (.seq .leaf (.cond (.seq .leaf .leaf) .leaf)) (.seq .leaf .leaf)))
theorem qE (a0:AV) (s:AS) (R:AV→AS→Prop) (h:qC a0 s R):aa Tryz.prog aS [a0] s R :=
 aa.q (n:=8) (rs:=[.tmp 2]) (A:=qD) hT bU Tryz.func70 (by kernel_rfl) rfl rfl rfl (by kernel_rfl) (by kernel_rfl) h
def SJ (a0:Int) (a1:Int) (s:AS) (R:AV→AS→Prop):Prop :=
 bw fun J1 =>
 (∀ b2:Bool,∀ s3:AS,J1 [(.bool b2)] s3 →
 af b2
 (R (.aQ [(.slc none 0 0 true),(.int .i64 2)]) s3)
 (bw fun J4 =>
 (∀ v5:AV,∀ s6:AS,J4 [v5] s6 →
 R (.aQ [v5,(.int .i64 0)]) s6) ∧
 (bC fun I7 m8=>I7 m8 [(.slc none 0 0 true),(.int .i64 0)] s3 ∧
 ∀ m9:Nat,∀ v10:AV,∀ iN:Int,∀ dg:AS,I7 m9 [v10,(.int .i64 iN)] dg →
 af (decide ((iN:Int)<a1))
 (NN (IntKind.wrap .i64 (8*(IntKind.wrap .i64 ((IntKind.wrap .i64 (a1 - 1)) - iN)))) (aR (cZ T aq 1 [(0,(.int .u8 (IntKind.wrap .u8 (Int.fdiv a0 (2 ^ min (Int.toNat (IntKind.wrap .i64 (8*(IntKind.wrap .i64 ((IntKind.wrap .i64 (a1 - 1)) - iN))))) (IntKind.bits .u64))))))]) fun wg=>aj (.cells wg 0 false) dg fun lR f_=>iG (aJ T aq aq v10 (.slc (some (lR,0)) 1 1 true) f_) fun oh lZ=>∃ m',m'<m9∧I7 m' [oh,(.int .i64 (IntKind.wrap .i64 (iN+1)))] lZ))
 (J4 [v10] dg)))) ∧
 (af (decide ((a1:Int)<1)) (J1 [(.bool true)] s) (af (decide ((a1:Int)>8)) (J1 [(.bool true)] s) (af (decide ((a1:Int)<8)) (NN (IntKind.wrap .i64 (8*a1)) (J1 [(.bool ((Int.fdiv a0 (2 ^ min (Int.toNat (IntKind.wrap .i64 (8*a1))) (IntKind.bits .u64)):Int) != 0))] s)) (J1 [(.bool false)] s))))
def SL:QA:=(.seq .leaf (.seq (.join [(24,.bool)] [(8,24)] .leaf (.cond (.seq .leaf .leaf) .leaf)) (.seq .leaf (.join [(6,.any)] [(6,7),(25,40)] (.seq .leaf (.wrap (.loop [(6,.any),(26,.int .i64)] [(6,7),(26,40)] (.seq .leaf (.seq (.cond .leaf .leaf) (.seq (.wrap (.seq .leaf .leaf)) .leaf)))))) (.seq .leaf .leaf)))))
theorem SM (a0:Int) (a1:Int) (s:AS) (R:AV→AS→Prop) (h:SJ a0 a1 s R):aa Tryz.prog u7 [(.int .u64 a0),(.int .i64 a1)] s R :=
 aa.q (n:=42) (rs:=[.tmp 4,.tmp 5]) (A:=SL) hT bU Tryz.func216 (by kernel_rfl) rfl rfl rfl (by kernel_rfl) (by kernel_rfl) h
def Kh (a0:List AV) (s:AS) (R:AV→AS→Prop):Prop :=
 cF a0 (aj (.cells a0 0 false) s fun l1 s2=>aR (aB s2 l1 0 16) fun g3=>bC fun I4 m5=>I4 m5 [(.slc none 0 0 true),(.int .i64 0)] s2 ∧
 ∀ m6:Nat,∀ v7:AV,∀ n8:Int,∀ s9:AS,I4 m6 [v7,(.int .i64 n8)] s9 →
 af (decide ((n8:Int)<16))
 (aW .u64 (jd T bg (.agg g3) (.int .i64 n8)) fun j9=>aa Tryz.prog u7 [(.int .u64 j9),(.int .i64 8)] s9 fun v11 dg=>∃ JM:AV,∃ vp:Int,v11=.aQ [JM,(.int .i64 vp)]∧(iG (aJ T aq aq v7 JM dg) fun yV kr=>∃ m',m'<m6∧I4 m' [yV,(.int .i64 (IntKind.wrap .i64 (n8+1)))] kr))
 (R v7 s9))
def Ki:QA:=(.seq .leaf (.seq .leaf (.seq (.seq .leaf (.wrap (.loop [(3,.any),(9,.int .i64)] [(3,3),(5,7),(9,20)] (.seq .leaf (.seq (.cond .leaf .leaf) (.seq (.wrap (.seq .leaf (.seq .leaf .leaf))) .leaf)))))) (.seq .leaf .leaf))))
theorem Kj (a0:List AV) (s:AS) (R:AV→AS→Prop) (h:Kh a0 s R):aa Tryz.prog sR [(.agg a0)] s R :=
 aa.q (n:=22) (rs:=[.tmp 2]) (A:=Ki) hT bU Tryz.func161 (by kernel_rfl) rfl rfl rfl (by kernel_rfl) (by kernel_rfl) h
def PE (a0:AV) (s:AS) (R:AV→AS→Prop):Prop :=
 aW .i64 (aP T aq a0 s) fun n1=>af (decide ((n1:Int)>65535))
 (R (.aQ [(.slc none 0 0 true),(.int .i64 3)]) s)
 (aW .i64 (aP T aq a0 s) fun n2=>aa Tryz.prog u7 [(.int .u64 (IntKind.wrap .u64 n2)),(.int .i64 2)] s fun v3 s4=>∃ v5:AV,∃ n6:Int,v3=.aQ [v5,(.int .i64 n6)]∧(iG (aJ T aq aq v5 a0 s4) fun v7 s8=>R (.aQ [v7,(.int .i64 0)]) s8))
def PF:QA:=(.seq .leaf (.seq (.seq .leaf (.cond (.seq .leaf .leaf) .leaf)) (.seq .leaf (.seq .leaf .leaf))))
theorem PG (a0:AV) (s:AS) (R:AV→AS→Prop) (h:PE a0 s R):aa Tryz.prog xJ [a0] s R :=
 aa.q (n:=19) (rs:=[.tmp 2,.tmp 3]) (A:=PF) hT bU Tryz.func166 (by kernel_rfl) rfl rfl rfl (by kernel_rfl) (by kernel_rfl) h
end Go.Proofs.YtohgmogbabkkeaaGreat
end

section
set_option maxRecDepth 100000
set_option maxHeartbeats 4000000
namespace Go.Proofs.YtohgmogbabkkeaaGreat
open Go.Am
def FJ (a0:Option (Nat×Nat)) (a1:List AV) (s:AS) (R:AV→AS→Prop):Prop :=
 cF a1 (aj (.cells a1 0 false) s fun l1 s2=>aR (aB s2 l1 0 2) fun g3=>aa Tryz.prog xF [(.agg g3)] s2 fun v4 s5=>∃ b6:Bool,v4=.bool b6∧(af (!b6)
 (R (.bool false) s5)
 (bw fun J7 =>
 (∀ s8:AS,J7 [] s8 →
 aW .u64 (av s8 l1 1) fun n9=>aW .i64 (av s8 l1 0) fun j9=>ai a0 fun Dg yU=>bH (ag T c_ (.ptr (some (Dg,yU))) (.int .i64 (IntKind.wrap .i64 (j9 - 1)))) fun tJ JA=>aW .u64 (av s8 tJ JA) fun wR=>R (.bool (decide ((n9:Int)≤wR))) s8) ∧
 (bC fun I16 m17=>I16 m17 [(.int .i64 0)] s5 ∧
 ∀ TS:Nat,∀ z3:Int,∀ fN:AS,I16 TS [(.int .i64 z3)] fN →
 ai a0 fun OU o22=>dJ (av fN OU (o22+16)) fun Jl=>aW .i64 (aP T az Jl fN) fun yN=>af (decide ((z3:Int)<yN))
 (ai a0 fun Ji K6=>dJ (av fN Ji (K6+16)) fun K4=>bH (ag T az K4 (.int .i64 z3)) fun Dh Jy=>aR (aB fN Dh Jy 2) fun z7=>aR (aB fN l1 0 2) fun Mr=>uD (iK T 100 iB (.agg z7) (.agg Mr)) fun b32=>af b32
 (R (.bool true) fN)
 (∃ m',m'<TS∧I16 m' [(.int .i64 (IntKind.wrap .i64 (z3+1)))] fN))
 (J7 [] fN)))))
def FK:QA:=(.seq .leaf (.seq (.seq .leaf (.cond (.seq .leaf .leaf) .leaf)) (.join [] [(4,5),(9,26)] (.seq .leaf (.wrap (.loop [(5,.int .i64)] [(4,5),(9,26)] (.seq (.seq .leaf (.cond .leaf .leaf)) (.seq (.wrap (.seq (.draw 8) (.cond (.seq .leaf .leaf) .leaf))) .leaf))))) (.seq (.draw 10) .leaf))))
theorem FL (a0:Option (Nat×Nat)) (a1:List AV) (s:AS) (R:AV→AS→Prop) (h:FJ a0 a1 s R):aa Tryz.prog pR [(.ptr a0),(.agg a1)] s R :=
 aa.q (n:=38) (rs:=[.tmp 4]) (A:=FK) hT bU Tryz.func97 (by kernel_rfl) rfl rfl rfl (by kernel_rfl) (by kernel_rfl) h
def FM (a0:Option (Nat×Nat)) (a1:List AV) (s:AS) (R:AV→AS→Prop):Prop :=
 cF a1 (aj (.cells a1 0 false) s fun l1 s2=>aR (aB s2 l1 0 2) fun g3=>aa Tryz.prog pR [(.ptr a0),(.agg g3)] s2 fun v4 s5=>∃ b6:Bool,v4=.bool b6∧(af b6
 (R (.bool false) s5)
 (bw fun J7 =>
 (∀ v8:AV,∀ n9:Int,∀ jD:AS,J7 [v8,(.int .i64 n9)] jD →
 aR (aB jD l1 0 2) fun K8=>aR (cZ T az 1 [(0,(.agg K8))]) fun K5=>aj (.cells K5 0 false) jD fun tJ jT=>iG (aJ T az az v8 (.slc (some (tJ,0)) 1 1 true) jT) fun yV kr=>ai a0 fun j_ wz=>dJ (av kr j_ (wz+16)) fun wT=>dJ (aY T az wT (some (.int .i64 n9)) none none) fun v20=>iG (aJ T az az yV v20 kr) fun Mq fO=>ai a0 fun QL o24=>fD T az fO QL (o24+16) Mq fun dM=>aa Tryz.prog kk [(.ptr a0)] dM fun K_ mQ=>K_=.aQ []∧(R (.bool true) mQ)) ∧
 (bC fun I28 m29=>I28 m29 [(.slc none 0 0 true),(.int .i64 0)] s5 ∧
 ∀ WW:Nat,∀ wE:AV,∀ n32:Int,∀ qR:AS,I28 WW [wE,(.int .i64 n32)] qR →
 ai a0 fun HW JB=>dJ (av qR HW (JB+16)) fun QS=>aW .i64 (aP T az QS qR) fun n37=>af (decide ((n32:Int)<n37)) (ai a0 fun l38 o39=>dJ (av qR l38 (o39+16)) fun yW=>bH (ag T az yW (.int .i64 n32)) fun AZ NO=>aR (aB qR AZ NO 2) fun Dl=>aR (aB qR l1 0 2) fun RQ=>aa Tryz.prog qu [(.agg Dl),(.agg RQ)] qR fun v45 qQ=>∃ b47:Bool,v45=.bool b47∧(af b47
 (ai a0 fun l48 o49=>dJ (av qQ l48 (o49+16)) fun v50=>bH (ag T az v50 (.int .i64 n32)) fun l51 o52=>aR (aB qQ l51 o52 2) fun g53=>aR (cZ T az 1 [(0,(.agg g53))]) fun Y1=>aj (.cells Y1 0 false) qQ fun l55 zC=>iG (aJ T az az wE (.slc (some (l55,0)) 1 1 true) zC) fun MD QW=>∃ m',m'<WW∧I28 m' [MD,(.int .i64 (IntKind.wrap .i64 (n32+1)))] QW)
 (J7 [wE,(.int .i64 n32)] qQ))) (J7 [wE,(.int .i64 n32)] qR)))))
def FN:QA:=(.seq .leaf (.seq (.seq .leaf (.cond (.seq .leaf .leaf) .leaf)) (.seq .leaf (.seq .leaf (.join [(5,.any),(6,.int .i64)] [(5,6),(10,39)] (.wrap (.loop [(5,.any),(6,.int .i64)] [(5,6),(10,39)] (.seq (.seq (.draw 16) (.cond .leaf .leaf)) (.seq (.wrap .leaf) .leaf)))) (.seq .leaf (.seq .leaf (.seq .leaf (.seq .leaf .leaf)))))))))
theorem FO (a0:Option (Nat×Nat)) (a1:List AV) (s:AS) (R:AV→AS→Prop) (h:FM a0 a1 s R):aa Tryz.prog pU [(.ptr a0),(.agg a1)] s R :=
 aa.q (n:=57) (rs:=[.tmp 4]) (A:=FN) hT bU Tryz.func208 (by kernel_rfl) rfl rfl rfl (by kernel_rfl) (by kernel_rfl) h
def zi (a0:Option (Nat×Nat)) (s:AS) (R:AV→AS→Prop):Prop :=
 bw fun J1 =>
 (∀ v2:AV,∀ s3:AS,J1 [v2] s3 →
 ai a0 fun l4 o5=>fD T az s3 l4 (o5+16) v2 fun s6=>R (.aQ []) s6) ∧
 (bC fun I7 m8=>I7 m8 [(.slc none 0 0 true),(.int .i64 0)] s ∧
 ∀ m9:Nat,∀ v10:AV,∀ iN:Int,∀ dg:AS,I7 m9 [v10,(.int .i64 iN)] dg →
 ai a0 fun tJ JA=>dJ (av dg tJ (JA+16)) fun yV=>aW .i64 (aP T az yV dg) fun vg=>af (decide ((iN:Int)<vg))
 (ai a0 fun j_ wz=>dJ (av dg j_ (wz+16)) fun wT=>bH (ag T az wT (.int .i64 iN)) fun CP Mo=>aR (aB dg CP Mo 2) fun CQ=>aj (.cells [.int .i64 0,.int .u64 0] 0 false) dg fun QL qx=>fj (some 2) CQ (bu (cN qx QL 0 CQ) fun dM=>aW .u64 (av dM QL 1) fun n26=>aW .i64 (av dM QL 0) fun EG=>ai a0 fun Dh Jy=>bH (ag T c_ (.ptr (some (Dh,Jy))) (.int .i64 (IntKind.wrap .i64 (EG - 1)))) fun Si Xa=>aW .u64 (av dM Si Xa) fun n32=>af ((n26:Int)==(IntKind.wrap .u64 (n32+1)))
 (aW .i64 (av dM QL 0) fun Mn=>aW .u64 (av dM QL 1) fun n34=>ai a0 fun Pe MC=>bH (ag T c_ (.ptr (some (Pe,MC))) (.int .i64 (IntKind.wrap .i64 (Mn - 1)))) fun OV JD=>bu (cN dM OV JD [(.int .u64 n34)]) fun yM=>∃ m',m'<m9∧I7 m' [v10,(.int .i64 (IntKind.wrap .i64 (iN+1)))] yM)
 (aW .u64 (av dM QL 1) fun TQ=>aW .i64 (av dM QL 0) fun n41=>ai a0 fun l42 o43=>bH (ag T c_ (.ptr (some (l42,o43))) (.int .i64 (IntKind.wrap .i64 (n41 - 1)))) fun NP U7=>aW .u64 (av dM NP U7) fun n46=>af (decide ((TQ:Int)>n46))
 (aR (aB dM QL 0 2) fun g47=>aR (cZ T az 1 [(0,(.agg g47))]) fun JE=>aj (.cells JE 0 false) dM fun WO pG=>iG (aJ T az az v10 (.slc (some (WO,0)) 1 1 true) pG) fun Aj wv=>∃ m',m'<m9∧I7 m' [Aj,(.int .i64 (IntKind.wrap .i64 (iN+1)))] wv)
 (∃ m',m'<m9∧I7 m' [v10,(.int .i64 (IntKind.wrap .i64 (iN+1)))] dM))))
 (J1 [v10] dg))
def zj:QA:=(.seq .leaf (.join [(2,.any)] [(2,56)] (.seq .leaf (.wrap (.loop [(2,.any),(3,.int .i64)] [(2,56)] (.seq (.seq .leaf (.cond .leaf .leaf)) (.seq (.wrap (.seq .leaf (.seq (.draw 11) (.cond (.draw 8) (.seq (.draw 10) (.cond .leaf .leaf)))))) .leaf))))) .leaf))
theorem zk (a0:Option (Nat×Nat)) (s:AS) (R:AV→AS→Prop) (h:zi a0 s R):aa Tryz.prog kk [(.ptr a0)] s R :=
 aa.q (n:=61) (rs:=[]) (A:=zj) hT bU Tryz.func255 (by kernel_rfl) rfl rfl rfl (by kernel_rfl) (by kernel_rfl) h
def M5 (a0:List AV) (a1:List AV) (s:AS) (R:AV→AS→Prop):Prop :=
 cF a0 (aj (.cells a0 0 false) s fun l1 s2=>cF a1 (aj (.cells a1 0 false) s2 fun l3 s4=>aW .i64 (av s4 l1 0) fun n5=>aW .i64 (av s4 l3 0) fun n6=>af (decide ((n5:Int)<n6)) (R (.bool true) s4) (aW .i64 (av s4 l1 0) fun n7=>aW .i64 (av s4 l3 0) fun n8=>af ((n7:Int)==n8) (aW .u64 (av s4 l1 1) fun n9=>aW .u64 (av s4 l3 1) fun j9=>R (.bool (decide ((n9:Int)<j9))) s4) (R (.bool false) s4))))
def M6:QA:=(.seq .leaf (.seq .leaf .leaf))
theorem M7 (a0:List AV) (a1:List AV) (s:AS) (R:AV→AS→Prop) (h:M5 a0 a1 s R):aa Tryz.prog qu [(.agg a0),(.agg a1)] s R :=
 aa.q (n:=24) (rs:=[.tmp 4]) (A:=M6) hT bU Tryz.func209 (by kernel_rfl) rfl rfl rfl (by kernel_rfl) (by kernel_rfl) h
end Go.Proofs.YtohgmogbabkkeaaGreat
end

section
namespace Go.Proofs.YtohgmogbabkkeaaGreat
open Go.Am Go.au
structure M9 (s:AS) (p:Nat) (t:List AV) (v:List Int) (ex:List aK):Prop where
 len:v.length=16
 nt:∀ y∈t,∀ n,y≠.int .i64 n
 mem:∃ w,Am.Own s p (v.map (.int .u64)++w::t)∧w.one=true∧w≠.emp∧JQ s w ex
structure Zr (s0 s:AS) (p:Nat) (t:List AV) (v:List Int) (ex:List aK):Prop where
 len:v.length=16
 nt:∀ y∈t,∀ n,y≠.int .i64 n
 mem:∃ w,Am.Own s p (v.map (.int .u64)++w::t)∧w.one=true∧w≠.emp∧bt aN 2 s w ex∧∀ la∈ay w,s0.h la=none
section
variable {s s':AS} {p:Nat} {t:List AV} {v:List Int} {ex:List aK}
theorem M9.ext (h:M9 s p t v ex) (e:Ext s s'):M9 s' p t v ex:=by
 obtain ⟨h1,hn,w,h2,h3,h5,h4⟩:=h
 exact ⟨h1,hn,w,h2.ext e,h3,h5,h4.ext e⟩
theorem Zr.back {s0 s1:AS} (h:Zr s1 s p t v ex) (e:∀ x,s0.h x≠none→s1.h x≠none):Zr s0 s p t v ex:=by
 obtain ⟨h1,hn,w,h2,h3,h5,h4,h6⟩:=h
 refine ⟨h1,hn,w,h2,h3,h5,h4,fun la hla=>?_⟩
 cases hq:s0.h la with
 | none=>rfl
 | some o=>exact absurd (h6 la hla) (e la (by rw [hq];simp))
end
theorem T3 {v:List Int} (h:v.length=16) (w:AV) (t:List AV) {i:Nat} (hi:i<16):(v.map (AV.int .u64)++w::t)[i]? = some (.int .u64 (v.getD i 0)):=by
 rw [List.getElem?_append_left (by simp [h];omega),List.getElem?_map,List.getElem?_eq_getElem (by omega),List.getD_eq_getElem?_getD,List.getElem?_eq_getElem (by omega)];rfl
theorem M_ {v:List Int} (h:v.length=16) (w:AV) (t:List AV):(v.map (AV.int .u64)++w::t)[16]? = some w:=by
 rw [List.getElem?_append_right (by simp [h])];simp [h]
theorem vC {v:List Int} (h:v.length=16) (w:AV) (t:List AV):(v.map (AV.int .u64)++w::t).length=17+t.length:=by simp [h];omega
theorem zD (a b:aK) (s:AS):aa Tryz.prog qu [.agg (aN a),.agg (aN b)] s fun v s'=>v=.bool (a.lt b)∧Ext s s':=by
 refine aa.pre fun hw=>M7 _ _ _ _ ⟨rfl,aj.intro hw rfl fun l s1 F=>⟨rfl,aj.intro F.wf rfl fun l2 s2 F2=>?_⟩⟩
 have e:=F.ext.trans F2.ext
 simp only [(F.own.ext F2.ext).at.av,F2.own.at.av,aN,List.getElem?_cons_zero,List.getElem?_cons_succ,go_sem,gi,e,and_true,aK.lt]
 grind
theorem VL {s:AS} {p:Nat} {t:List AV} {v:List Int} {ex:List aK} (h:M9 s p t v ex) (hn:ex.length≤2 ^ 30) (d:aK):aa Tryz.prog pR [.ptr (some (p,0)),.agg (aN d)] s fun r s'=>r=.bool (ff v ex d)∧Ext s s':=by
 refine aa.pre fun hw=>FL _ _ _ _ ⟨rfl,aj.intro hw rfl fun l s1 F=>?_⟩
 refine ⟨_,F.own.at.aB (by simp [aN]),?_⟩
 refine (Mv d _).mono ?_
 rintro r s3 ⟨rfl,e3⟩
 have e:=F.ext.trans e3
 refine ⟨_,rfl,af.mk (fun hm=>?_) (fun hm=>?_)⟩
 ·simp only [Bool.not_eq_true'] at hm
  exact ⟨by simp [ff,hm],e⟩
 ·simp only [Bool.not_eq_false'] at hm
  obtain ⟨h1,hnt,w,h2,h3,h5,h4⟩:=h
  refine ⟨fun vs s'=>Ext s3 s'∧d ∉ ex,?_,fun m vs s'=>∃ i:Nat,vs=[.int .i64 (i:Nat)]∧i≤ex.length∧m=ex.length - i∧Ext s3 s'∧∀ (k:Nat),k<i→ex[k]? ≠ some d,ex.length,⟨0,rfl,by omega,rfl,Ext.refl _,by omega⟩,?_⟩
  ·rintro s8 ⟨e8,hd⟩
   have hm':=aK.gz.1 hm
   have hat:=(F.own.ext (e3.trans e8)).at
   have hc:=(h2.ext (e.trans e8)).at
   refine ⟨_,by rw [hat.av];rfl,_,by rw [hat.av];rfl,?_⟩
   dsimp only
   rw [sE (by omega)]
   refine ⟨_,_,Sc (by omega),_,by rw [hc.av,Nat.zero_add,Nat.mul_one];exact T3 h1 w t (by omega),?_,e.trans e8⟩
   simp [ff,hm,hd]
  ·rintro m n fN ⟨i,hi,h6,rfl,Na,h7⟩
   simp only [List.cons.injEq,AV.int.injEq,true_and,and_true] at hi
   subst hi
   have hc:=(h2.ext (e.trans Na)).at
   have Ag:av fN p (0+16)=some w:=by rw [hc.av];exact M_ h1 w t
   refine ⟨w,Ag,_,h4.cG bG _,af.dec (fun hlt=>?_) (fun hge=>?_)⟩
   ·obtain ⟨x,hx⟩:=cW (l:=ex) (i:=i) (by omega)
    obtain ⟨la',o,h8,h9⟩:=(h4.ext (e.trans Na)).ix (by decide) bn bG jZ hx
    refine ⟨w,Ag,la',o,h8 _,_,(h9 _ (Ext.refl _)).2,_,(F.own.ext (e3.trans Na)).at.aB (by simp [aN]),_,Mz x d,af.dec (fun hq=>?_) (fun hq=>?_)⟩
    ·refine ⟨?_,e.trans Na⟩
     subst hq
     simp [ff,hm,List.mem_of_getElem? hx]
    ·refine ⟨ex.length - (i+1),by omega,i+1,by rw [aV (by omega)];rfl,by omega,rfl,Na,fun k hk hk'=>?_⟩
     rcases Nat.lt_or_ge k i with h | h
     ·exact h7 k h hk'
     ·obtain rfl:k=i:=by omega
      rw [hx] at hk';exact hq (Option.some.inj hk')
   ·refine ⟨Na,fun hd=>?_⟩
    obtain ⟨k,hk⟩:=List.mem_iff_getElem?.1 hd
    have:k<ex.length:=by
     rcases Nat.lt_or_ge k ex.length with h' | h'
     ·exact h'
     ·rw [List.getElem?_eq_none h'] at hk;cases hk
    exact h7 k (by omega) hk
theorem Kk {s:AS} {p:Nat} {t:List AV} {v:List Int} {ex:List aK} (h:M9 s p t v ex) (hv:HF v) (hm:∀ d∈ex,d.may=true) (hn:ex.length<2 ^ 30) :
  aa Tryz.prog kk [.ptr (some (p,0))] s fun r s'=>r=.aQ []∧Zr s s' p t (compact v ex).1 (compact v ex).2∧bD [p] s s':=by
 refine aa.pre fun hw=>zk _ _ _ ?_
 obtain ⟨h1,hnt,w,h2,h3,h5,h4⟩:=h
 have hsp:∀ x∈[p],s.h x≠none:=by
  intro x hx;obtain rfl:x=p:=by simpa using hx
  rw [h2];simp
 have hnew:∀ {r:AV} {s':AS} {l:List aK},aT aN 2 [p] s s' r l→p ∉ ay r:=fun g hm=>hsp p (by simp) (g.new p hm)
 have hx2:∀ y∈w::t,∀ n,y≠.int .i64 n:=by
  intro y hy n
  rcases List.mem_cons.1 hy with rfl | hy
  ·exact qy h4 _ _
  ·exact hnt y hy n
 let qo:Nat→List Int×List aK:=fun i=>(ex.take i).foldl fT (v,[])
 have Y4:∀ i,HF (qo i).1:=fun i=>GD _ _ hv fun d hd=>hm d (List.mem_of_mem_take hd)
 have Y5:∀ i,(qo i).2.length≤i:=fun i=>by have:=Bm (ex.take i) (v,[]);simp only [List.length_nil,Nat.zero_add] at this;have h2:=List.length_take_le i ex;exact Nat.le_trans this h2
 refine ⟨fun vs s'=>∃ left,vs=[left]∧aM s'∧aT aN 2 [p] s s' left (compact v ex).2∧Am.Own s' p ((compact v ex).1.map (.int .u64)++w::t),?_,?_⟩
 ·rintro r s3 ⟨left,hl,hw3,g,ho⟩
  simp only [List.cons.injEq,and_true] at hl
  subst hl
  have hok:HF (compact v ex).1:=by have:=Y4 ex.length;simp only [qo,List.take_length] at this;exact this
  refine cL g.iW.2 Bz (bu.own hw3 ho (by rw [vC hok.len];simp) fun s6 P=>⟨rfl,⟨hok.len,hnt,r,?_,g.iW.2,g.iW.1,(g.wr hsp P.mut).wq,g.new⟩,g.eG.trans P.mut⟩)
  ·have:qJ ((compact v ex).1.map (AV.int .u64)++w::t) (0+16) [r]=(compact v ex).1.map (AV.int .u64)++r::t:=by
    rw [fk,List.set_append_right _ _ (by simp [hok.len])]
    simp [hok.len]
   rw [this] at P
   exact P.at
 ·have hc:=h2.at
  refine ⟨fun m vs s'=>∃ (i:Nat) (left:AV),vs=[left,.int .i64 (i:Nat)]∧i≤ex.length∧m=ex.length - i∧aM s'∧aT aN 2 [p] s s' left (qo i).2∧Am.Own s' p ((qo i).1.map (.int .u64)++w::t),ex.length,⟨0,_,rfl,by omega,rfl,hw,aT.nil,h2⟩,?_⟩
  rintro m left n kr ⟨i,left',hi,h6,rfl,Ag,g,ho⟩
  simp only [List.cons.injEq,AV.int.injEq,true_and,and_true] at hi
  obtain ⟨rfl,rfl⟩:=hi
  have Y6:=Y4 i
  have ab6:av kr p (0+16)=some w:=by rw [ho.at.av];exact M_ Y6.len w t
  refine ⟨w,ab6,_,h4.cG bG _,af.dec (fun hlt=>?_) (fun hge=>?_)⟩
  ·obtain ⟨x,hx⟩:=cW (l:=ex) (i:=i) (by omega)
   have hd:=Dx h4 hc hx2 g.eG
   obtain ⟨la,o,h8,h9⟩:=hd.ix (by decide) bn bG jZ hx
   have bU:=aK.gz.1 (hm x (List.mem_of_getElem? hx))
   have ht:qo (i+1)=fT (qo i) x:=by simp only [qo];rw [List.take_add_one,hx,Option.toList_some,List.foldl_append];rfl
   refine ⟨w,ab6,la,o,h8 _,_,(h9 _ (Ext.refl _)).2,lN Ag rfl rfl rfl fun CP fO F=>?_⟩
   have FA:=ho.ext F.ext
   have gg:=g.step F.ext
   have hidx:(x.r - 1).toNat<16:=by omega
   have hbd:=Y6.get (x.r - 1).toNat
   have f0:av fO CP 0=some (.int .i64 x.r):=by rw [F.own.at.av];rfl
   have f1:av fO CP 1=some (.int .u64 x.c):=by rw [F.own.at.av];rfl
   have fv:av fO p (0+(x.r - 1).toNat*1)=some (.int .u64 ((qo i).1.getD (x.r - 1).toNat 0)):=by rw [FA.at.av,Nat.zero_add,Nat.mul_one];exact T3 Y6.len w t hidx
   refine ⟨_,f1,_,f0,?_⟩
   dsimp only
   rw [sE (by omega)]
   refine ⟨_,_,Sc (by omega),_,fv,?_⟩
   dsimp only
   rw [gq (by omega)]
   have cont:∀ (r:AV) (s':AS),aM s'→aT aN 2 [p] s s' r (qo (i+1)).2→Am.Own s' p ((qo (i+1)).1.map (.int .u64)++w::t) →
     ∃ m',m'<ex.length - i∧∃ (j:Nat) (left:AV),[r,AV.int .i64 (IntKind.wrap .i64 ((i:Int)+1))]=[left,.int .i64 (j:Nat)]∧j≤ex.length∧m'=ex.length - j∧aM s'∧aT aN 2 [p] s s' left (qo j).2∧Am.Own s' p ((qo j).1.map (.int .u64)++w::t) :=
    fun r s' a b c=>⟨ex.length - (i+1),by omega,i+1,r,by rw [aV (by omega)];rfl,by omega,rfl,a,b,c⟩
   refine af.mk (fun hq=>?_) (fun hq=>?_)
   ·have Xv:x.c=(qo i).1.getD (x.r - 1).toNat 0+1:=by simpa using hq
    have hs:qo (i+1)=((qo i).1.set (x.r - 1).toNat x.c,(qo i).2):=by rw [ht];unfold fT;rw [if_neg (by omega),if_pos Xv]
    refine ⟨_,f0,_,f1,?_⟩
    dsimp only
    rw [sE (by omega)]
    refine ⟨_,_,Sc (by omega),bu.own F.wf FA (by rw [vC Y6.len];simp;omega) fun qR P=>?_⟩
    refine cont _ _ P.wf (by rw [hs];exact g.wr hsp (F.ext.mut.trans P.mut)) ?_
    rw [hs]
    have:=P.at
    rw [fk,Nat.zero_add,Nat.mul_one,TY _ _ _ _ (by rw [Y6.len];exact hidx)] at this
    exact this
   ·have Xv:¬ x.c=(qo i).1.getD (x.r - 1).toNat 0+1:=by simpa using hq
    refine ⟨_,f1,_,f0,?_⟩
    dsimp only
    rw [sE (by omega)]
    refine ⟨_,_,Sc (by omega),_,fv,af.dec (fun hgt=>?_) (fun hle=>?_)⟩
    ·have hs:qo (i+1)=((qo i).1,(qo i).2++[x]):=by rw [ht];unfold fT;rw [if_neg (by omega),if_neg Xv]
     have hM:∀ y∈[p],fO.h y≠none:=by
      intro y hy;obtain rfl:y=p:=by simpa using hy
      rw [FA];simp
     refine ⟨_,F.own.at.aB (by simp [aN]),aT.iX iE bn mT F.wf gg hM x (by have:=Y5 i;omega) fun r s' g' CV mm=>?_⟩
     exact cont _ _ CV (by rw [hs];exact g') (by rw [hs];exact FA.mut mm (hnew g))
    ·have hs:qo (i+1)=qo i:=by rw [ht];unfold fT;rw [if_pos (by omega)]
     exact cont _ _ F.wf (by rw [hs];exact gg) (by rw [hs];exact FA)
  ·obtain rfl:i=ex.length:=by omega
   have hs:qo ex.length=compact v ex:=by simp only [qo,List.take_length];rfl
   rw [hs] at g ho
   exact ⟨left,rfl,Ag,g,ho⟩
theorem VM {s:AS} {q:Nat} {t:List AV} {v:List Int} {ex:List aK} (h:M9 s q t v ex) (hv:HF v) (hr:dR ex) (hm:∀ d∈ex,d.may=true) (hn:ex.length+1<2 ^ 30) {d:aK} (hd:d.may=true) :
  aa Tryz.prog pU [.ptr (some (q,0)),.agg (aN d)] s fun r s'=>r=.bool (!ff v ex d)∧bD [q] s s'∧(ff v ex d=true→Ext s s')∧(ff v ex d=false→Zr s s' q t (compact v (ins ex d)).1 (compact v (ins ex d)).2):=by
 refine aa.pre fun hw=>FO _ _ _ _ ⟨rfl,aj.intro hw rfl fun l1 s2 F1=>⟨_,F1.own.at.aB (by simp [aN]),?_⟩⟩
 refine aa.use (VL (h.ext F1.ext) (by omega) d) ?_
 rintro r s5 ⟨rfl,e5⟩ hw5
 have E5:=F1.ext.trans e5
 refine ⟨_,rfl,af.mk (fun hh=>?_) (fun hh=>?_)⟩
 ·exact ⟨by simp [hh],E5.mut,(fun _=>E5),fun h=>absurd hh (by simp [h])⟩
 have Y9:d ∉ ex:=by
  intro hin
  simp [ff,hd,hin] at hh
 obtain ⟨h1,hnt,w,h2,h3,h5,h4⟩:=h
 have aa4:∀ s',Ext s s'→av s' q (0+16)=some w:=fun s' e=>by rw [(h2.ext e).at.av];exact M_ h1 w t
 refine ⟨fun vs s'=>∃ left,vs=[left,.int .i64 (pos ex d:Nat)]∧aM s'∧aT aN 2 [] s5 s' left (ex.take (pos ex d)),?_,fun m vs s'=>∃ (i:Nat) (left:AV),vs=[left,.int .i64 (i:Nat)]∧i≤ex.length∧m=ex.length - i∧aM s'∧aT aN 2 [] s5 s' left (ex.take i)∧∀ (k:Nat) x,k<i→ex[k]? = some x→x.lt d=true,ex.length,⟨0,_,rfl,by omega,rfl,hw5,by simpa using aT.nil,fun k x hk=>by omega⟩,?_⟩
 ·rintro v8 n9 jD ⟨left,hl,aiu,g⟩
  simp only [List.cons.injEq,AV.int.injEq,true_and,and_true] at hl
  obtain ⟨rfl,rfl⟩:=hl
  have CW:=L0 ex d
  refine ⟨_,(F1.own.ext (e5.trans g.eG.ext)).at.aB (by simp [aN]),aT.iX iE bn mT aiu g (by simp) d (by rw [List.length_take];omega) fun yV kr EH Ag _=>?_⟩
  have E16:=E5.trans EH.eG.ext
  obtain ⟨v20,k1,k2⟩:=(h4.ext E16).from bn bG jZ h5 CW .i64
  refine ⟨w,aa4 _ E16,v20,k1,aT.kU iE bn mT Ag EH (by simp) k2 (by simp;omega) bG fun Mq fO CQ aiv _=>?_⟩
  have E22:=E5.trans CQ.eG.ext
  have Za:ex.take (pos ex d)++[d]++ex.drop (pos ex d)=ins ex d:=by simp [ins]
  rw [Za] at CQ
  refine cL CQ.iW.2 Bz (bu.own aiv (h2.ext E22) (by rw [vC h1];simp) fun dM P=>?_)
  have hP:=P.at
  rw [fk,List.set_append_right _ _ (by simp [h1])] at hP
  simp only [List.length_map,h1,Nat.zero_add,Nat.sub_self,List.set_cons_zero] at hP
  have hsp:∀ x∈[q],s5.h x≠none:=by
   intro x hx;obtain rfl:x=q:=by simpa using hx
   rw [h2.ext E5];simp
  have hnq:∀ x∈ay Mq,x ∉ [q]:=fun x hx hm=>hsp x hm (CQ.new x hx)
  have c25:M9 dM q t v (ins ex d):=⟨h1,hnt,Mq,hP,CQ.iW.2,CQ.iW.1,(CQ.wq.mut P.mut hnq).sl bn⟩
  have TB:∀ x∈ins ex d,x.may=true:=by
   intro x hx
   rcases uX.1 hx with rfl | hx
   ·exact hd
   ·exact hm x hx
  refine (Kk c25 hv TB (by rw [yH];omega)).mono ?_
  rintro r mQ ⟨rfl,c27,m27⟩
  refine ⟨rfl,by simp [hh],E22.mut.trans (P.mut.trans m27),(fun h=>absurd h (by simp [hh])),fun _=>c27.back fun x hx=>?_⟩
  by_cases hxq:x=q
  ·subst hxq;rw [P.at];simp
  ·rw [P.eq x hxq]
   intro hn
   cases hq:s.h x with
   | none=>exact hx hq
   | some o=>rw [E22.1 _ _ hq] at hn;cases hn
 ·rintro m left n qR ⟨i,left',hi,h6,rfl,aiw,g,hlt⟩
  simp only [List.cons.injEq,AV.int.injEq,true_and,and_true] at hi
  obtain ⟨rfl,rfl⟩:=hi
  have E33:=E5.trans g.eG.ext
  refine ⟨w,aa4 _ E33,_,h4.cG bG _,af.dec (fun hl=>?_) (fun hge=>?_)⟩
  ·obtain ⟨x,hx⟩:=cW (l:=ex) (i:=i) (by omega)
   obtain ⟨la,o,h8,h9⟩:=(h4.ext E33).ix (by decide) bn bG jZ hx
   refine ⟨w,aa4 _ E33,la,o,h8 _,_,(h9 _ (Ext.refl _)).2,_,(F1.own.ext (e5.trans g.eG.ext)).at.aB (by simp [aN]),?_⟩
   refine aa.use (zD x d _) ?_
   rintro r qQ ⟨rfl,e46⟩ afD
   refine ⟨_,rfl,af.mk (fun hb=>?_) (fun hb=>?_)⟩
   ·have ht:ex.take (i+1)=ex.take i++[x]:=by rw [List.take_add_one,hx];rfl
    refine ⟨w,aa4 _ (E33.trans e46),la,o,h8 _,_,(h9 _ e46).2,aT.iX iE bn mT afD (g.step e46) (by simp) x (by rw [List.length_take];omega) fun v' s' g' CV _=>?_⟩
    refine ⟨ex.length - (i+1),by omega,i+1,v',by rw [aV (by omega)];rfl,by omega,rfl,CV,by rw [ht];exact g',fun k y hk hy=>?_⟩
    rcases Nat.lt_or_ge k i with h | h
    ·exact hlt k y h hy
    ·obtain rfl:k=i:=by omega
     rw [hx] at hy;obtain rfl:=Option.some.inj hy;exact hb
   ·have hp:pos ex d=i:=pos_eq h6 hlt fun y hy=>by rw [hx] at hy;obtain rfl:=Option.some.inj hy;exact hb
    exact ⟨left,by rw [hp],afD,by rw [hp];exact g.step e46⟩
  ·have hp:pos ex d=i:=pos_eq h6 hlt fun y hy=>by rw [List.getElem?_eq_none (by omega)] at hy;cases hy
   exact ⟨left,by rw [hp],aiw,by rw [hp];exact g⟩
end Go.Proofs.YtohgmogbabkkeaaGreat
end

section
set_option maxRecDepth 100000
set_option maxHeartbeats 4000000
namespace Go.Proofs.YtohgmogbabkkeaaGreat
open Go.Am
def PI  (s:AS) (R:AV→AS→Prop):Prop :=
 aa Tryz.prog Db [] s fun v1 s2=>∃ p3:Option (Nat×Nat),v1=.ptr p3∧(aj (.map [] 0 false) s2 fun l4 s5=>aj (.map [] 0 false) s5 fun l6 s7=>pN (aU T oY [(0,(.ptr p3)),(1,(.map (some l4))),(2,(.map (some l6)))]) fun g8=>cF g8 (aj (.cells g8 0 false) s7 fun l9 jD=>R (.ptr (some (l9,0))) jD))
def PJ:QA:=(.seq .leaf (.seq .leaf .leaf))
theorem PK  (s:AS) (R:AV→AS→Prop) (h:PI  s R):aa Tryz.prog xG [] s R :=
 aa.q (n:=6) (rs:=[.tmp 0]) (A:=PJ) hT bU Tryz.func61 (by kernel_rfl) rfl rfl rfl (by kernel_rfl) (by kernel_rfl) h
def FP (a0:Option (Nat×Nat)) (a1:List AV) (a2:List AV) (s:AS) (R:AV→AS→Prop):Prop :=
 cF a1 (aj (.cells a1 0 false) s fun l1 s2=>cF a2 (aj (.cells a2 0 false) s2 fun l3 s4=>aa Tryz.prog ct [(.ptr a0)] s4 fun v5 s6=>∃ b7:Bool,v5=.bool b7∧(af (!b7)
 (R (.aQ [(.slc none 0 0 true),(.int .i64 1)]) s6)
 (bw fun J8 =>
 (∀ b9:Bool,∀ jD:AS,J8 [(.bool b9)] jD →
 af b9
 (R (.aQ [(.slc none 0 0 true),(.int .i64 2)]) jD)
 (aa Tryz.prog gD [(.ptr a0),(.func mH [(.ptr (some (l1,0)))])] jD fun v11 dg=>gu fun S V=>aR (aB dg l3 0 2) fun wg=>aR (aB dg l1 0 2) fun lY=>pN (aU T ru [(0,(.agg wg)),(1,(.agg lY))]) fun z5=>(∀ kr:AS,Ext dg kr→aM kr→(True)→aR (cZ T aH 1 [(0,(.agg z5))]) fun PL=>aj (.cells PL 0 false) kr fun GO iD=>(Ext kr iD∧S 3 [(.agg z5)] (.slc (some (GO,0)) 1 1 true) iD∧V 3 [(.agg z5)] (.slc (some (GO,0)) 1 1 true)))∧(∃ v,V 3 [(.agg z5)] v)∧∀ v20:AV,V 3 [(.agg z5)] v20→(∀ gn:AS,Ext dg gn→aM gn→(True)→aa Tryz.prog fU [v11] gn fun qm rO=>(Ext gn rO∧S 5 [(.func fU []),v11] qm rO∧V 5 [(.func fU []),v11] qm))∧(∃ v,V 5 [(.func fU []),v11] v)∧∀ wU:AV,V 5 [(.func fU []),v11] wU→∀ dM:AS,Ext dg dM→aM dM→(S 3 [(.agg z5)] v20 dM∧(S 5 [(.func fU []),v11] wU dM∧True))→iG (aJ T aH aH v20 wU dM) fun K4 rA=>aa Tryz.prog pS [(.ptr a0),K4] rA fun mb kL=>∃ b31:Bool,∃ n32:Int,mb=.aQ [(.bool b31),(.int .i64 n32)]∧(af ((n32:Int) != 0)
 (R (.aQ [(.slc none 0 0 true),(.int .i64 n32)]) kL)
 (R (.aQ [K4,(.int .i64 0)]) kL)))) ∧
 (aR (aB s6 l1 0 2) fun WN=>aa Tryz.prog mG [(.agg WN)] s6 fun VE VN=>∃ b36:Bool,VE=.bool b36∧(af (!b36) (J8 [(.bool true)] VN) (aR (aB VN l3 0 2) fun Kc=>aa Tryz.prog nR [(.agg Kc)] VN fun HX yM=>∃ b40:Bool,HX=.bool b40∧(af (!b40) (J8 [(.bool true)] yM) (ai a0 fun AZ NO=>qi (av yM AZ NO) fun p43=>aR (aB yM l3 0 2) fun RQ=>aa Tryz.prog kG [(.ptr p43),(.agg RQ)] yM fun v45 qQ=>∃ b47:Bool,v45=.bool b47∧(J8 [(.bool b47)] qQ))))))))))
def FQ:QA:=(.seq .leaf (.seq (.wrap (.seq .leaf (.cond (.seq .leaf .leaf) (.join [(16,.bool)] [(16,32)] .calm (.cond (.seq .leaf .leaf) .leaf))))) (.seq .leaf (.seq (.gL 6 [[],[],[],[],[],[]] [3,5]) (.seq (.seq .leaf (.seq .leaf (.cond (.seq .leaf .leaf) .leaf))) (.seq .leaf .leaf))))))
theorem FR (a0:Option (Nat×Nat)) (a1:List AV) (a2:List AV) (s:AS) (R:AV→AS→Prop) (h:FP a0 a1 a2 s R):aa Tryz.prog cX [(.ptr a0),(.agg a1),(.agg a2)] s R :=
 aa.q (n:=53) (rs:=[.tmp 6,.tmp 7]) (A:=FQ) hT bU Tryz.func68 (by kernel_rfl) rfl rfl rfl (by kernel_rfl) (by kernel_rfl) h
def FT (a0:Option (Nat×Nat)) (a1:AV) (s:AS) (R:AV→AS→Prop):Prop :=
 aa Tryz.prog ct [(.ptr a0)] s fun v1 s2=>∃ b3:Bool,v1=.bool b3∧(af (!b3)
 (R (.aQ [(.bool false),(.int .i64 1)]) s2)
 (aa Tryz.prog dA [a1,(.func mI [])] s2 fun v4 s5=>∃ b6:Bool,v4=.bool b6∧(af b6
 (R (.aQ [(.bool false),(.int .i64 2)]) s5)
 (aa Tryz.prog nU [(.ptr a0)] s5 fun v7 s8=>∃ p9:Option (Nat×Nat),v7=.ptr p9∧(bw fun J10 =>
 (∀ b11:Bool,∀ dg:AS,J10 [(.bool b11)] dg →
 bw fun YE =>
 (∀ FB:Bool,∀ f_:AS,YE [(.bool FB)] f_ →
 af FB
 (R (.aQ [(.bool false),(.int .i64 5)]) f_)
 (ai p9 fun rU EI=>aR (aB f_ rU EI 3) fun xY=>ai a0 fun A1 Fi=>fj (some 3) xY (bu (cN f_ A1 Fi xY) fun gn=>R (.aQ [(.bool b11),(.int .i64 0)]) gn))) ∧
 (ai p9 fun BG GQ=>zO (av dg BG (GQ+1)) fun r24=>aW .i64 (aP T bY (.map r24) dg) fun ql=>af (decide ((ql:Int)>1024)) (YE [(.bool true)] dg) (ai p9 fun Dn Fh=>zO (av dg Dn (Fh+1)) fun r28=>aW .i64 (aP T bY (.map r28) dg) fun La=>ai p9 fun Si Xa=>zO (av dg Si (Xa+2)) fun r32=>aW .i64 (aP T bL (.map r32) dg) fun Mn=>YE [(.bool (decide ((IntKind.wrap .i64 (La+Mn):Int)>4096)))] dg))) ∧
 (aW .i64 (aP T aH a1 s8) fun n34=>bC fun I35 m36=>I35 m36 [(.bool false),(.int .i64 0)] s8 ∧
 ∀ m37:Nat,∀ b38:Bool,∀ n39:Int,∀ GP:AS,I35 m37 [(.bool b38),(.int .i64 n39)] GP →
 af (decide ((n39:Int)<n34))
 (bH (ag T aH a1 (.int .i64 n39)) fun AZ NO=>aR (aB GP AZ NO 5) fun Dl=>aj (.cells [.int .i64 0,.int .u64 0,.str [],.str [],.bool false] 0 false) GP fun NP xW=>fj (some 5) Dl (bu (cN xW NP 0 Dl) fun qQ=>aR (aB qQ NP 0 5) fun g47=>aa Tryz.prog pT [(.ptr p9),(.agg g47)] qQ fun Vc z6=>∃ b50:Bool,∃ Sx:Int,Vc=.aQ [(.bool b50),(.int .i64 Sx)]∧(af ((Sx:Int) != 0)
 (R (.aQ [(.bool false),(.int .i64 Sx)]) z6)
 (af b38 (∃ m',m'<m37∧I35 m' [(.bool true),(.int .i64 (IntKind.wrap .i64 (n39+1)))] z6) (∃ m',m'<m37∧I35 m' [(.bool b50),(.int .i64 (IntKind.wrap .i64 (n39+1)))] z6)))))
 (J10 [(.bool b38)] GP)))))))
def FU:QA:=(.seq .leaf (.seq (.seq .leaf (.cond (.seq .leaf .leaf) .leaf)) (.seq (.seq .leaf (.cond (.seq .leaf .leaf) .leaf)) (.seq .leaf (.seq .leaf (.join [(7,.bool)] [(4,5),(7,7),(9,11),(19,38)] (.seq .leaf (.wrap (.loop [(7,.bool),(21,.int .i64)] [(4,5),(7,7),(9,11),(21,38)] (.seq .leaf (.seq (.cond .leaf .leaf) (.seq (.wrap (.seq .leaf (.seq .leaf (.seq (.seq .leaf (.cond (.seq .leaf .leaf) .leaf)) .leaf)))) .leaf)))))) (.seq (.join [(58,.bool)] [(39,58)] (.draw 16) (.cond (.seq .leaf .leaf) .leaf)) (.seq .leaf (.seq .leaf .leaf)))))))))
theorem FV (a0:Option (Nat×Nat)) (a1:AV) (s:AS) (R:AV→AS→Prop) (h:FT a0 a1 s R):aa Tryz.prog pS [(.ptr a0),a1] s R :=
 aa.q (n:=65) (rs:=[.tmp 4,.tmp 5]) (A:=FU) hT bU Tryz.func109 (by kernel_rfl) rfl rfl rfl (by kernel_rfl) (by kernel_rfl) h
def FW (a0:Option (Nat×Nat)) (a1:List AV) (s:AS) (R:AV→AS→Prop):Prop :=
 cF a1 (aj (.cells a1 0 false) s fun l1 s2=>aa Tryz.prog ct [(.ptr a0)] s2 fun v3 s4=>∃ b5:Bool,v3=.bool b5∧(af b5 (aa Tryz.prog gD [(.ptr a0),(.func mE [(.ptr (some (l1,0)))])] s4 fun v6 s7=>aW .i64 (aP T az v6 s7) fun n8=>R (.bool (decide ((n8:Int)>0))) s7) (R (.bool false) s4)))
def FY:QA:=(.seq .leaf (.seq .leaf .leaf))
theorem FZ (a0:Option (Nat×Nat)) (a1:List AV) (s:AS) (R:AV→AS→Prop) (h:FW a0 a1 s R):aa Tryz.prog pP [(.ptr a0),(.agg a1)] s R :=
 aa.q (n:=14) (rs:=[.tmp 4]) (A:=FY) hT bU Tryz.func25 (by kernel_rfl) rfl rfl rfl (by kernel_rfl) (by kernel_rfl) h
def F_ (a0:Option (Nat×Nat)) (s:AS) (R:AV→AS→Prop):Prop :=
 aa Tryz.prog ct [(.ptr a0)] s fun v1 s2=>∃ b3:Bool,v1=.bool b3∧(af (!b3)
 (R (.ptr none) s2)
 (ai a0 fun l4 o5=>qi (av s2 l4 o5) fun p6=>aa Tryz.prog di [(.ptr p6)] s2 fun v7 s8=>∃ p9:Option (Nat×Nat),v7=.ptr p9∧(R (.ptr p9) s8)))
def Ga:QA:=(.seq .leaf (.seq (.seq .leaf (.cond (.seq .leaf .leaf) .leaf)) (.seq .leaf .leaf)))
theorem Gb (a0:Option (Nat×Nat)) (s:AS) (R:AV→AS→Prop) (h:F_ a0 s R):aa Tryz.prog iu [(.ptr a0)] s R :=
 aa.q (n:=11) (rs:=[.tmp 2]) (A:=Ga) hT bU Tryz.func36 (by kernel_rfl) rfl rfl rfl (by kernel_rfl) (by kernel_rfl) h
def B6 (a0:Option (Nat×Nat)) (s:AS) (R:AV→AS→Prop):Prop :=
 uD (iK T 100 zA (.ptr a0) (.ptr none)) fun b1=>af (!b1) (ai a0 fun l2 o3=>qi (av s l2 o3) fun p4=>uD (iK T 100 lP (.ptr p4) (.ptr none)) fun b5=>R (.bool (!b5)) s) (R (.bool false) s)
def B7:QA:=(.seq .leaf (.seq .leaf .leaf))
theorem B8 (a0:Option (Nat×Nat)) (s:AS) (R:AV→AS→Prop) (h:B6 a0 s R):aa Tryz.prog ct [(.ptr a0)] s R :=
 aa.q (n:=12) (rs:=[.tmp 2]) (A:=B7) hT bU Tryz.func93 (by kernel_rfl) rfl rfl rfl (by kernel_rfl) (by kernel_rfl) h
def tu (a0:AV) (a1:AV) (s:AS) (R:AV→AS→Prop):Prop :=
 aa Tryz.prog iM [a0] s fun v1 s2=>aa Tryz.prog eY [v1,a1] s2 fun v3 s4=>v3=.aQ []∧(R v1 s4)
def tw:QA:=(.seq .leaf (.seq .leaf (.seq .leaf (.seq .leaf .leaf))))
theorem tC (a0:AV) (a1:AV) (s:AS) (R:AV→AS→Prop) (h:tu a0 a1 s R):aa Tryz.prog eM [a0,a1] s R :=
 aa.q (n:=12) (rs:=[.tmp 4]) (A:=tw) hT bU Tryz.func124 (by kernel_rfl) rfl rfl rfl (by kernel_rfl) (by kernel_rfl) h
def DN (a0:Option (Nat×Nat)) (a1:List AV) (s:AS) (R:AV→AS→Prop):Prop :=
 cF a1 (aj (.cells a1 0 false) s fun l1 s2=>aj (.cells [.str [],.str []] 0 false) s2 fun l3 s4=>aa Tryz.prog ct [(.ptr a0)] s4 fun v5 s6=>∃ b7:Bool,v5=.bool b7∧(af (!b7)
 (pN (aU T oX []) fun g8=>fj (some 2) g8 (bu (cN s6 l3 0 g8) fun s9=>aR (aB s9 l3 0 2) fun Dp=>R (.aQ [(.agg Dp),(.bool false)]) s9))
 (ai a0 fun Dg yU=>zO (av s6 Dg (yU+1)) fun r13=>aR (aB s6 l1 0 2) fun lY=>∃ z5:List AV,∃ b16:Bool,dI T bY (.map r13) (.agg lY) true s6=some (.aQ [(.agg z5),(.bool b16)])∧(aj (.cells [.str [],.str []] 0 false) s6 fun j_ eC=>fj (some 2) z5 (bu (cN eC j_ 0 z5) fun iD=>aR (aB iD j_ 0 2) fun RU=>fj (some 2) RU (bu (cN iD l3 0 RU) fun gn=>aR (aB gn l3 0 2) fun CQ=>R (.aQ [(.agg CQ),(.bool b16)]) gn))))))
def DO:QA:=(.seq .leaf (.seq (.seq .leaf (.cond (.seq .leaf .leaf) .leaf)) (.seq .calm (.seq .leaf .leaf))))
theorem DP (a0:Option (Nat×Nat)) (a1:List AV) (s:AS) (R:AV→AS→Prop) (h:DN a0 a1 s R):aa Tryz.prog nW [(.ptr a0),(.agg a1)] s R :=
 aa.q (n:=23) (rs:=[.cell 4 69,.tmp 5]) (A:=DO) hT bU Tryz.func257 (by kernel_rfl) rfl rfl rfl (by kernel_rfl) (by kernel_rfl) h
def DQ (a0:Option (Nat×Nat)) (a1:List AV) (s:AS) (R:AV→AS→Prop):Prop :=
 cF a1 (aj (.cells a1 0 false) s fun l1 s2=>aR (aB s2 l1 0 2) fun g3=>aa Tryz.prog nW [(.ptr a0),(.agg g3)] s2 fun v4 s5=>∃ g6:List AV,∃ b7:Bool,v4=.aQ [(.agg g6),(.bool b7)]∧(aj (.cells [.str [],.str []] 0 false) s5 fun l8 s9=>fj (some 2) g6 (bu (cN s9 l8 0 g6) fun jD=>aa Tryz.prog ct [(.ptr a0)] jD fun v11 dg=>∃ Jk:Bool,v11=.bool Jk∧(af Jk (af (!b7) (ai a0 fun lR we=>qi (av dg lR we) fun p16=>aR (aB dg l1 0 2) fun PL=>aa Tryz.prog kG [(.ptr p16),(.agg PL)] dg fun tI iD=>∃ b20:Bool,tI=.bool b20∧(R (.bool b20) iD)) (R (.bool false) dg)) (R (.bool false) dg)))))
def DR:QA:=(.seq .leaf (.seq .leaf (.seq .calm .leaf)))
theorem DS (a0:Option (Nat×Nat)) (a1:List AV) (s:AS) (R:AV→AS→Prop) (h:DQ a0 a1 s R):aa Tryz.prog nV [(.ptr a0),(.agg a1)] s R :=
 aa.q (n:=27) (rs:=[.tmp 4]) (A:=DR) hT bU Tryz.func215 (by kernel_rfl) rfl rfl rfl (by kernel_rfl) (by kernel_rfl) h
def It (a0:List AV) (s:AS) (R:AV→AS→Prop):Prop :=
 cF a0 (aj (.cells a0 0 false) s fun l1 s2=>Jh (av s2 l1 0) fun x3=>aa Tryz.prog qt [(.str x3)] s2 fun v4 s5=>∃ b6:Bool,v4=.bool b6∧(af b6 (Jh (av s5 l1 1) fun x7=>aa Tryz.prog qt [(.str x7)] s5 fun v8 s9=>∃ VD:Bool,v8=.bool VD∧(R (.bool VD) s9)) (R (.bool false) s5)))
def Iu:QA:=(.seq .leaf (.seq .leaf .leaf))
theorem Iw (a0:List AV) (s:AS) (R:AV→AS→Prop) (h:It a0 s R):aa Tryz.prog mG [(.agg a0)] s R :=
 aa.q (n:=11) (rs:=[.tmp 2]) (A:=Iu) hT bU Tryz.func150 (by kernel_rfl) rfl rfl rfl (by kernel_rfl) (by kernel_rfl) h
def DT (a0:Option (Nat×Nat)) (a1:AV) (s:AS) (R:AV→AS→Prop):Prop :=
 ai a0 fun l1 o2=>zO (av s l1 (o2+1)) fun r3=>aa Tryz.prog eE [(.map r3)] s fun v4 s5=>aa Tryz.prog eM [v4,(.func iJ [])] s5 fun v6 s7=>aW .i64 (aP T az v6 s7) fun n8=>bC fun I9 Ft=>I9 Ft [(.slc none 0 0 true),(.int .i64 0)] s7 ∧
 ∀ QV:Nat,∀ i_:AV,∀ wu:Int,∀ jT:AS,I9 QV [i_,(.int .i64 wu)] jT →
 af (decide ((wu:Int)<n8))
 (bH (ag T az v6 (.int .i64 wu)) fun Dz FD=>aR (aB jT Dz FD 2) fun PL=>aj (.cells [.int .i64 0,.int .u64 0] 0 false) jT fun GO iD=>fj (some 2) PL (bu (cN iD GO 0 PL) fun fN=>aR (aB fN GO 0 2) fun wC=>ai a0 fun BG GQ=>zO (av fN BG (GQ+1)) fun r24=>aR (aB fN GO 0 2) fun Jz=>pN (dI T bY (.map r24) (.agg Jz) false fN) fun Fx=>en Tryz.prog a1 [(.agg wC),(.agg Fx)] fN fun K4 rA=>∃ Zq:Bool,K4=.bool Zq∧(af Zq
 (aR (aB rA GO 0 2) fun z7=>aR (cZ T az 1 [(0,(.agg z7))]) fun Mr=>aj (.cells Mr 0 false) rA fun Ms qR=>iG (aJ T az az i_ (.slc (some (Ms,0)) 1 1 true) qR) fun VE VN=>∃ m',m'<QV∧I9 m' [VE,(.int .i64 (IntKind.wrap .i64 (wu+1)))] VN)
 (∃ m',m'<QV∧I9 m' [i_,(.int .i64 (IntKind.wrap .i64 (wu+1)))] rA))))
 (R i_ jT)
def DU:QA:=(.seq .leaf (.seq .leaf (.seq (.seq .leaf (.wrap (.loop [(5,.any),(15,.int .i64)] [(5,5),(7,7),(15,32)] (.seq .leaf (.seq (.cond .leaf .leaf) (.seq (.wrap (.seq .leaf (.seq (.draw 8) (.cond .leaf .leaf)))) .leaf)))))) (.seq .leaf .leaf))))
theorem DV (a0:Option (Nat×Nat)) (a1:AV) (s:AS) (R:AV→AS→Prop) (h:DT a0 a1 s R):aa Tryz.prog gD [(.ptr a0),a1] s R :=
 aa.q (n:=34) (rs:=[.tmp 4]) (A:=DU) hT bU Tryz.func94 (by kernel_rfl) rfl rfl rfl (by kernel_rfl) (by kernel_rfl) h
def B9 (a0:List AV) (a1:List AV) (c0:Option (Nat×Nat)) (s:AS) (R:AV→AS→Prop):Prop :=
 cF a0 (aj (.cells a0 0 false) s fun l1 s2=>cF a1 (aj (.cells a1 0 false) s2 fun l3 s4=>aR (aB s4 l3 0 2) fun g5=>ai c0 fun l6 o7=>aR (aB s4 l6 o7 2) fun g8=>uD (iK T 100 oX (.agg g5) (.agg g8)) fun b9=>R (.bool b9) s4))
def B_:QA:=(.seq .leaf (.seq .leaf .leaf))
theorem Ca (a0:List AV) (a1:List AV) (c0:Option (Nat×Nat)) (s:AS) (R:AV→AS→Prop) (h:B9 a0 a1 c0 s R):aa Tryz.prog mH [(.agg a0),(.agg a1),(.ptr c0)] s R :=
 aa.q (n:=9) (rs:=[.tmp 5]) (A:=B_) hT bU Tryz.func151 (by kernel_rfl) rfl rfl rfl (by kernel_rfl) (by kernel_rfl) h
def Nb (a0:AV) (s:AS) (R:AV→AS→Prop):Prop :=
 aW .i64 (aP T az a0 s) fun n1=>bC fun I2 m3=>I2 m3 [(.slc none 0 0 true),(.int .i64 0)] s ∧
 ∀ m4:Nat,∀ v5:AV,∀ n6:Int,∀ s7:AS,I2 m4 [v5,(.int .i64 n6)] s7 →
 af (decide ((n6:Int)<n1))
 (bH (ag T az a0 (.int .i64 n6)) fun l8 o9=>aR (aB s7 l8 o9 2) fun Dp=>aj (.cells [.int .i64 0,.int .u64 0] 0 false) s7 fun Dg dg=>fj (some 2) Dp (bu (cN dg Dg 0 Dp) fun bS=>aR (aB bS Dg 0 2) fun lY=>pN (aU T ru [(0,(.agg lY)),(2,(.bool true))]) fun z5=>aR (cZ T aH 1 [(0,(.agg z5))]) fun EH=>aj (.cells EH 0 false) bS fun j_ eC=>iG (aJ T aH aH v5 (.slc (some (j_,0)) 1 1 true) eC) fun wT fN=>∃ m',m'<m4∧I2 m' [wT,(.int .i64 (IntKind.wrap .i64 (n6+1)))] fN))
 (R v5 s7)
def Nc:QA:=(.seq .leaf (.seq .leaf (.seq (.seq .leaf (.wrap (.loop [(3,.any),(8,.int .i64)] [(3,3),(5,5),(8,17)] (.seq .leaf (.seq (.cond .leaf .leaf) (.seq (.wrap (.seq .leaf .leaf)) .leaf)))))) (.seq .leaf .leaf))))
theorem Nd (a0:AV) (s:AS) (R:AV→AS→Prop) (h:Nb a0 s R):aa Tryz.prog fU [a0] s R :=
 aa.q (n:=19) (rs:=[.tmp 2]) (A:=Nc) hT bU Tryz.func114 (by kernel_rfl) rfl rfl rfl (by kernel_rfl) (by kernel_rfl) h
def lG (a0:AV) (a1:AV) (s:AS) (R:AV→AS→Prop):Prop :=
 aa Tryz.prog ep [a0,a1] s fun v1 s2=>∃ n3:Int,v1=.int .i64 n3∧(R (.bool (decide ((n3:Int)≥0))) s2)
def lH:QA:=(.seq .leaf (.seq .leaf .leaf))
theorem lI (a0:AV) (a1:AV) (s:AS) (R:AV→AS→Prop) (h:lG a0 a1 s R):aa Tryz.prog dA [a0,a1] s R :=
 aa.q (n:=9) (rs:=[.tmp 4]) (A:=lH) hT bU Tryz.func121 (by kernel_rfl) rfl rfl rfl (by kernel_rfl) (by kernel_rfl) h
def Cb (a0:List AV) (s:AS) (R:AV→AS→Prop):Prop :=
 cF a0 (aj (.cells a0 0 false) s fun l1 s2=>aR (aB s2 l1 0 5) fun g3=>aa Tryz.prog xL [(.agg g3)] s2 fun v4 s5=>∃ b6:Bool,v4=.bool b6∧(R (.bool (!b6)) s5))
def Cc:QA:=(.seq .leaf (.seq .leaf .leaf))
theorem Cd (a0:List AV) (s:AS) (R:AV→AS→Prop) (h:Cb a0 s R):aa Tryz.prog mI [(.agg a0)] s R :=
 aa.q (n:=6) (rs:=[.tmp 2]) (A:=Cc) hT bU Tryz.func172 (by kernel_rfl) rfl rfl rfl (by kernel_rfl) (by kernel_rfl) h
def PM (a0:List AV) (s:AS) (R:AV→AS→Prop):Prop :=
 cF a0 (aj (.cells a0 0 false) s fun l1 s2=>Rp (av s2 l1 4) fun b3=>af b3
 (aR (aB s2 l1 0 2) fun g4=>aa Tryz.prog nR [(.agg g4)] s2 fun v5 s6=>∃ b7:Bool,v5=.bool b7∧(af b7 (aR (aB s6 l1 2 2) fun g8=>pN (aU T oX []) fun g9=>uD (iK T 100 oX (.agg g8) (.agg g9)) fun VD=>R (.bool VD) s6) (R (.bool false) s6)))
 (aR (aB s2 l1 0 2) fun K8=>aa Tryz.prog nR [(.agg K8)] s2 fun i_ bS=>∃ FB:Bool,i_=.bool FB∧(af FB (aR (aB bS l1 2 2) fun z5=>aa Tryz.prog mG [(.agg z5)] bS fun oh lZ=>∃ b18:Bool,oh=.bool b18∧(R (.bool b18) lZ)) (R (.bool false) bS))))
def PN:QA:=(.seq .leaf (.seq (.seq .leaf (.cond (.seq .leaf .leaf) .leaf)) (.seq .leaf .leaf)))
theorem PO (a0:List AV) (s:AS) (R:AV→AS→Prop) (h:PM a0 s R):aa Tryz.prog xL [(.agg a0)] s R :=
 aa.q (n:=22) (rs:=[.tmp 2]) (A:=PN) hT bU Tryz.func173 (by kernel_rfl) rfl rfl rfl (by kernel_rfl) (by kernel_rfl) h
def DW (a0:Option (Nat×Nat)) (s:AS) (R:AV→AS→Prop):Prop :=
 aa Tryz.prog ct [(.ptr a0)] s fun v1 s2=>∃ b3:Bool,v1=.bool b3∧(af (!b3)
 (R (.ptr none) s2)
 (gu fun S V=>ai a0 fun l4 o5=>qi (av s2 l4 o5) fun p6=>(∀ s7:AS,Ext s2 s7→aM s7→(True)→aa Tryz.prog di [(.ptr p6)] s7 fun v8 s9=>∃ p10:Option (Nat×Nat),v8=.ptr p10∧((Ext s7 s9∧S 4 [(.func di []),(.ptr p6)] (.ptr p10) s9∧V 4 [(.func di []),(.ptr p6)] (.ptr p10))))∧(∃ v,V 4 [(.func di []),(.ptr p6)] v)∧∀ v11:AV,V 4 [(.func di []),(.ptr p6)] v11→∃ VO:Option (Nat×Nat),v11=.ptr VO∧(ai a0 fun tJ JA=>zO (av s2 tJ (JA+1)) fun r15=>(∀ kr:AS,Ext s2 kr→aM kr→(S 4 [(.func di []),(.ptr p6)] (.ptr VO) kr∧True)→aa Tryz.prog bA [(.map r15)] kr fun o_ eC=>∃ T4:Option Nat,o_=.map T4∧((Ext kr eC∧S 9 [(.func bA []),(.map r15)] (.map T4) eC∧V 9 [(.func bA []),(.map r15)] (.map T4))))∧(∃ v,V 9 [(.func bA []),(.map r15)] v)∧∀ v20:AV,V 9 [(.func bA []),(.map r15)] v20→∃ r21:Option Nat,v20=.map r21∧(ai a0 fun BG GQ=>zO (av s2 BG (GQ+2)) fun r24=>∀ dM:AS,Ext s2 dM→aM dM→(S 4 [(.func di []),(.ptr p6)] (.ptr VO) dM∧(S 9 [(.func bA []),(.map r15)] (.map r21) dM∧True))→aa Tryz.prog cJ [(.map r24)] dM fun K4 rA=>∃ r29:Option Nat,K4=.map r29∧(pN (aU T oY [(0,(.ptr VO)),(1,(.map r21)),(2,(.map r29))]) fun z7=>cF z7 (aj (.cells z7 0 false) rA fun Yy lS=>R (.ptr (some (Yy,0))) lS))))))
def DX:QA:=(.seq .leaf (.seq (.seq .leaf (.cond (.seq .leaf .leaf) .leaf)) (.seq (.gL 14 [[],[],[],[],[],[],[],[],[],[4],[],[],[],[]] [4,9]) .leaf)))
theorem DY (a0:Option (Nat×Nat)) (s:AS) (R:AV→AS→Prop) (h:DW a0 s R):aa Tryz.prog nU [(.ptr a0)] s R :=
 aa.q (n:=23) (rs:=[.tmp 2]) (A:=DX) hT bU Tryz.func174 (by kernel_rfl) rfl rfl rfl (by kernel_rfl) (by kernel_rfl) h
def Gc (a0:Option (Nat×Nat)) (a1:List AV) (s:AS) (R:AV→AS→Prop):Prop :=
 cF a1 (aj (.cells a1 0 false) s fun l1 s2=>ai a0 fun l3 o4=>zO (av s2 l3 (o4+1)) fun r5=>aR (aB s2 l1 0 2) fun g6=>∃ g7:List AV,∃ b8:Bool,dI T bY (.map r5) (.agg g6) true s2=some (.aQ [(.agg g7),(.bool b8)])∧(aj (.cells [.str [],.str []] 0 false) s2 fun l9 jD=>fj (some 2) g7 (bu (cN jD l9 0 g7) fun fI=>bw fun J12 =>
 (∀ Jk:Bool,∀ jT:AS,J12 [(.bool Jk)] jT →
 af Jk
 (ai a0 fun Dz FD=>zO (av jT Dz (FD+1)) fun r17=>aR (aB jT l1 0 2) fun xY=>bu (qp T bY (.map r17) (.agg xY) jT) fun iD=>ai a0 fun CP Mo=>zO (av iD CP (Mo+2)) fun r22=>aR (aB iD l1 0 2) fun ng=>pN (aU T ee [(0,(.bool true))]) fun wh=>bu (dN T bL (.map r22) (.agg ng) (.agg wh) iD) fun dM=>R (.aQ [(.bool true),(.int .i64 0)]) dM)
 (ai a0 fun Dn Fh=>qi (av jT Dn Fh) fun p28=>aR (aB jT l1 0 2) fun RV=>aa Tryz.prog sV [(.ptr p28),(.agg RV)] jT fun v30 nA=>∃ b32:Bool,∃ Mn:Int,v30=.aQ [(.bool b32),(.int .i64 Mn)]∧(bw fun J34 =>
 (∀ b35:Bool,∀ oI:AS,J34 [(.bool b35)] oI →
 af b35
 (R (.aQ [(.bool false),(.int .i64 Mn)]) oI)
 (Rp (av oI l1 4) fun b37=>af b37
 (ai a0 fun l38 o39=>zO (av oI l38 (o39+2)) fun r40=>aR (aB oI l1 0 2) fun WU=>pN (aU T ee [(0,(.bool true))]) fun g42=>bu (dN T bL (.map r40) (.agg WU) (.agg g42) oI) fun CR=>R (.aQ [(.bool true),(.int .i64 0)]) CR)
 (ai a0 fun NP U7=>zO (av oI NP (U7+1)) fun r46=>aR (aB oI l1 0 2) fun g47=>aR (aB oI l1 2 2) fun JE=>bu (dN T bY (.map r46) (.agg g47) (.agg JE) oI) fun z6=>R (.aQ [(.bool true),(.int .i64 0)]) z6))) ∧
 (af ((Mn:Int) != 0) (J34 [(.bool true)] nA) (J34 [(.bool (!b32))] nA))))) ∧
 (af b8 (Rp (av fI l1 4) fun b50=>J12 [(.bool b50)] fI) (J12 [(.bool false)] fI)))))
def Gf:QA:=(.seq .leaf (.seq .calm (.seq (.join [(24,.bool)] [(20,24)] .leaf (.cond (.seq (.draw 6) (.seq (.draw 7) (.seq .leaf .leaf))) .leaf)) (.seq .calm (.seq (.wrap (.join [(56,.bool)] [(56,62)] .leaf (.cond (.seq .leaf .leaf) (.seq .leaf (.cond (.draw 7) (.draw 8)))))) (.seq .leaf .leaf))))))
theorem Gg (a0:Option (Nat×Nat)) (a1:List AV) (s:AS) (R:AV→AS→Prop) (h:Gc a0 a1 s R):aa Tryz.prog pT [(.ptr a0),(.agg a1)] s R :=
 aa.q (n:=74) (rs:=[.tmp 4,.tmp 5]) (A:=Gf) hT bU Tryz.func175 (by kernel_rfl) rfl rfl rfl (by kernel_rfl) (by kernel_rfl) h
def Ce (a0:List AV) (a1:List AV) (c0:Option (Nat×Nat)) (s:AS) (R:AV→AS→Prop):Prop :=
 cF a0 (aj (.cells a0 0 false) s fun l1 s2=>cF a1 (aj (.cells a1 0 false) s2 fun l3 s4=>aR (aB s4 l3 0 2) fun g5=>ai c0 fun l6 o7=>aR (aB s4 l6 o7 2) fun g8=>uD (iK T 100 oX (.agg g5) (.agg g8)) fun b9=>R (.bool b9) s4))
def Cf:QA:=(.seq .leaf (.seq .leaf .leaf))
theorem Cg (a0:List AV) (a1:List AV) (c0:Option (Nat×Nat)) (s:AS) (R:AV→AS→Prop) (h:Ce a0 a1 c0 s R):aa Tryz.prog mE [(.agg a0),(.agg a1),(.ptr c0)] s R :=
 aa.q (n:=9) (rs:=[.tmp 5]) (A:=Cf) hT bU Tryz.func95 (by kernel_rfl) rfl rfl rfl (by kernel_rfl) (by kernel_rfl) h
def ni (a0:AV) (a1:AV) (s:AS) (R:AV→AS→Prop):Prop :=
 aW .i64 (aP T aH a0 s) fun n1=>bC fun I2 m3=>I2 m3 [(.int .i64 0)] s ∧
 ∀ m4:Nat,∀ n5:Int,∀ s6:AS,I2 m4 [(.int .i64 n5)] s6 →
 af (decide ((n5:Int)<n1))
 (bH (ag T aH a0 (.int .i64 n5)) fun l7 o8=>aR (aB s6 l7 o8 5) fun g9=>en Tryz.prog a1 [(.agg g9)] s6 fun v10 fI=>∃ b12:Bool,v10=.bool b12∧(af b12
 (R (.int .i64 n5) fI)
 (∃ m',m'<m4∧I2 m' [(.int .i64 (IntKind.wrap .i64 (n5+1)))] fI)))
 (R (.int .i64 (-1)) s6)
def nj:QA:=(.seq .leaf (.seq (.seq .leaf (.wrap (.loop [(8,.int .i64)] [(4,5),(8,18)] (.seq .leaf (.seq (.cond .leaf .leaf) (.seq (.wrap (.seq .leaf (.seq .leaf (.cond (.seq .leaf .leaf) .leaf)))) .leaf)))))) (.seq .leaf .leaf)))
theorem nk (a0:AV) (a1:AV) (s:AS) (R:AV→AS→Prop) (h:ni a0 a1 s R):aa Tryz.prog ep [a0,a1] s R :=
 aa.q (n:=19) (rs:=[.tmp 4]) (A:=nj) hT bU Tryz.func189 (by kernel_rfl) rfl rfl rfl (by kernel_rfl) (by kernel_rfl) h
def wO (a0:AV) (s:AS) (R:AV→AS→Prop):Prop :=
 aa Tryz.prog oT [(.slc none 0 0 true),a0] s fun v1 s2=>R v1 s2
def wP:QA:=(.seq .leaf (.seq .leaf .leaf))
theorem wQ (a0:AV) (s:AS) (R:AV→AS→Prop) (h:wO a0 s R):aa Tryz.prog iM [a0] s R :=
 aa.q (n:=5) (rs:=[.tmp 2]) (A:=wP) hT bU Tryz.func191 (by kernel_rfl) rfl rfl rfl (by kernel_rfl) (by kernel_rfl) h
def Nf (a0:List UInt8) (s:AS) (R:AV→AS→Prop):Prop :=
 aW .i64 (aP T cq (.str a0) s) fun n1=>af (decide ((n1:Int)≥1)) (aW .i64 (aP T cq (.str a0) s) fun n2=>R (.bool (decide ((n2:Int)≤32))) s) (R (.bool false) s)
def Ng:QA:=(.seq .leaf (.seq .leaf .leaf))
theorem Nh (a0:List UInt8) (s:AS) (R:AV→AS→Prop) (h:Nf a0 s R):aa Tryz.prog qt [(.str a0)] s R :=
 aa.q (n:=11) (rs:=[.tmp 2]) (A:=Ng) hT bU Tryz.func207 (by kernel_rfl) rfl rfl rfl (by kernel_rfl) (by kernel_rfl) h
def ox (a0:Option Nat) (s:AS) (R:AV→AS→Prop):Prop :=
 aj (.cells [(.map a0)] 0 false) s fun l1 s2=>R (.func fV [(.ptr (some (l1,0)))]) s2
def oz:QA:=(.seq .leaf (.seq .leaf .leaf))
theorem oA (a0:Option Nat) (s:AS) (R:AV→AS→Prop) (h:ox a0 s R):aa Tryz.prog eE [(.map a0)] s R :=
 aa.q (n:=4) (rs:=[.tmp 2]) (A:=oz) hT bU Tryz.func168 (by kernel_rfl) rfl rfl rfl (by kernel_rfl) (by kernel_rfl) h
def Kl (a0:List AV) (a1:List AV) (s:AS) (R:AV→AS→Prop):Prop :=
 cF a0 (aj (.cells a0 0 false) s fun l1 s2=>cF a1 (aj (.cells a1 0 false) s2 fun l3 s4=>gu fun S V=>aW .i64 (av s4 l1 0) fun n5=>aW .i64 (av s4 l3 0) fun n6=>(∀ s7:AS,Ext s4 s7→aM s7→(True)→aa Tryz.prog aO [(.int .i64 n5),(.int .i64 n6)] s7 fun v8 s9=>∃ j9:Int,v8=.int .i64 j9∧((Ext s7 s9∧S 4 [(.func aO []),(.int .i64 n5),(.int .i64 n6)] (.int .i64 j9) s9∧V 4 [(.func aO []),(.int .i64 n5),(.int .i64 n6)] (.int .i64 j9))))∧(∃ v,V 4 [(.func aO []),(.int .i64 n5),(.int .i64 n6)] v)∧∀ v11:AV,V 4 [(.func aO []),(.int .i64 n5),(.int .i64 n6)] v11→∃ wS:Int,v11=.int .i64 wS∧(aW .u64 (av s4 l1 1) fun wu=>aW .u64 (av s4 l3 1) fun vp=>∀ f_:AS,Ext s4 f_→aM f_→(S 4 [(.func aO []),(.int .i64 n5),(.int .i64 n6)] (.int .i64 wS) f_∧True)→aa Tryz.prog ez [(.int .u64 wu),(.int .u64 vp)] f_ fun o_ eC=>∃ z3:Int,o_=.int .i64 z3∧(aR (cZ T gB 2 [(0,(.int .i64 wS)),(1,(.int .i64 z3))]) fun RU=>aj (.cells RU 0 false) eC fun OU fO=>aa Tryz.prog kH [(.slc (some (OU,0)) 2 2 true)] fO fun Jl qx=>∃ ql:Int,Jl=.int .i64 ql∧(R (.int .i64 ql) qx)))))
def Km:QA:=(.seq .leaf (.seq (.gL 9 [[],[],[],[],[],[],[],[],[]] [4]) .leaf))
theorem Kn (a0:List AV) (a1:List AV) (s:AS) (R:AV→AS→Prop) (h:Kl a0 a1 s R):aa Tryz.prog iJ [(.agg a0),(.agg a1)] s R :=
 aa.q (n:=17) (rs:=[.tmp 4]) (A:=Km) hT bU Tryz.func117 (by kernel_rfl) rfl rfl rfl (by kernel_rfl) (by kernel_rfl) h
def Ni (a0:List UInt8) (s:AS) (R:AV→AS→Prop):Prop :=
 aW .i64 (aP T cq (.str a0) s) fun n1=>af (decide ((n1:Int)≥1)) (aW .i64 (aP T cq (.str a0) s) fun n2=>R (.bool (decide ((n2:Int)≤32))) s) (R (.bool false) s)
def Nj:QA:=(.seq .leaf (.seq .leaf .leaf))
theorem Nk (a0:List UInt8) (s:AS) (R:AV→AS→Prop) (h:Ni a0 s R):aa Tryz.prog jQ [(.str a0)] s R :=
 aa.q (n:=11) (rs:=[.tmp 2]) (A:=Nj) hT bU Tryz.func27 (by kernel_rfl) rfl rfl rfl (by kernel_rfl) (by kernel_rfl) h
end Go.Proofs.YtohgmogbabkkeaaGreat
end

section
namespace Go.Proofs.YtohgmogbabkkeaaGreat
open Go.Am Go.aC
def fY (k:Key):List AV:=[.str k.t,.str k.d]
def bz (i:ey):List AV:=[.int .i64 i.dot.r,.int .u64 i.dot.c,.str i.key.t,.str i.key.d,.bool i.gone]
theorem bf (i:ey):(bz i).length=5:=rfl
theorem jU (i:ey):(bz i).all AV.one=true:=rfl
end Go.Proofs.YtohgmogbabkkeaaGreat
end

section
namespace Go.Proofs.YtohgmogbabkkeaaGreat.SI
end Go.Proofs.YtohgmogbabkkeaaGreat.SI
end

section
namespace Go.Proofs.YtohgmogbabkkeaaGreat
open Go.Am Go.au Go.aC
theorem Iy (a b:aK) (s:AS):aa Tryz.prog iJ [.agg (aN a),.agg (aN b)] s fun v s'=>v=.int .i64 (a.cmp b)∧Ext s s':=by
 refine aa.pre fun hw=>Kn _ _ _ _ ⟨rfl,aj.intro hw rfl fun l s1 F=>⟨rfl,aj.intro F.wf rfl fun l2 s2 F2=>?_⟩⟩
 have e:=F.ext.trans F2.ext
 refine ⟨fun _ _ _ _=>True,fun _ _ v=>v=.int .i64 (t_ a.r b.r),fun _ _ _ _ _ _ _=>trivial,?_⟩
 simp only [(F.own.ext F2.ext).at.av,F2.own.at.av,aN,List.getElem?_cons_zero,List.getElem?_cons_succ,go_sem]
 refine ⟨fun s7 _ _ _=>?_,⟨_,rfl⟩,?_⟩
 ·refine (ko _ _ _).mono ?_
  rintro v s' ⟨rfl,rfl⟩
  exact ⟨_,rfl,Ext.refl _,trivial,rfl⟩
 ·rintro v rfl
  refine ⟨_,rfl,fun f_ Lb _ _=>?_⟩
  refine aa.use (ie _ _ _) ?_
  rintro v s' ⟨rfl,rfl⟩ CV
  refine ⟨_,rfl,?_⟩
  have habs:cZ T gB 2 [(0,.int .i64 (t_ a.r b.r)),(1,.int .i64 (t_ a.c b.c))]=some [.int .i64 (t_ a.r b.r),.int .i64 (t_ a.c b.c)]:=by
   simp only [cZ,sx,K3,Mf,Option.bind_some,uR];rfl
  rw [habs]
  simp only [go_sem]
  refine aj.intro CV rfl fun l3 s3 F3=>?_
  refine (pY _ _ F3.own.at).mono ?_
  rintro v s' ⟨rfl,rfl⟩
  refine ⟨_,rfl,?_,e.trans (Lb.trans F3.ext)⟩
  simp only [aK.cmp]
instance:rF iJ:=⟨Iy⟩
def aD (t:List UInt8):Bool:=decide (1≤t.length∧t.length≤32)
theorem kQ (t:List UInt8) (s:AS):aP T cq (.str t) s=some (.int .i64 (t.length:Nat)):=by simp [aP,oZ]
theorem T5 (t:List UInt8) (s:AS):aa Tryz.prog qt [.str t] s fun v s'=>v=.bool (aD t)∧s'=s:=by
 refine Nh _ _ _ ⟨_,kQ t s,af.dec (fun h=>⟨_,kQ t s,?_,rfl⟩) (fun h=>⟨?_,rfl⟩)⟩
 ·congr 1
  rw [aD,decide_eq_decide];omega
 ·congr 1
  symm
  rw [aD,decide_eq_false_iff_not];omega
def _root_.Go.aC.Key.may (k:Key):Bool:=aD k.t&&aD k.d
def _root_.Go.aC.ey.may (i:ey):Bool:=i.dot.may&&(if i.gone then decide (i.key=⟨[],[]⟩) else i.key.may)
theorem Le (k:Key) (s:AS):aa Tryz.prog mG [.agg (fY k)] s fun v s'=>v=.bool k.may∧Ext s s':=by
 refine aa.pre fun hw=>Iw _ _ _ ⟨rfl,aj.intro hw rfl fun l s1 F=>⟨k.t,by rw [F.own.at.av];rfl,?_⟩⟩
 refine aa.use (T5 _ _) ?_
 rintro v s2 ⟨rfl,rfl⟩ _
 refine ⟨_,rfl,af.mk (fun h=>⟨k.d,by rw [F.own.at.av];rfl,?_⟩) (fun h=>⟨by rw [Key.may,h];rfl,F.ext⟩)⟩
 refine aa.use (T5 _ _) ?_
 rintro v s3 ⟨rfl,rfl⟩ _
 exact ⟨_,rfl,by rw [Key.may,h];rfl,F.ext⟩
theorem aa5:triples (T.cM oX)=some [(false,cq,0),(false,cq,1)]:=by kernel_rfl
theorem adM:T.eqt oX=true:=by kernel_rfl
theorem Nl (a b:Key):iK T 100 oX (.agg (fY a)) (.agg (fY b))=some (decide (a=b)):=by
 rw [TL aa5 adM]
 simp only [HI,cond_false,C6 U2,fY,List.getElem?_cons_zero,List.getElem?_cons_succ,Option.bind_some,Yd oZ]
 cases a;cases b
 simp only [Key.mk.injEq]
 rename_i r c r' c'
 by_cases h1:r=r' <;> by_cases h2:c=c' <;> simp [h1,h2]
theorem SN:aU T oX []=some (.agg (fY ⟨[],[]⟩)):=by kernel_rfl
theorem adN (i:ey) (s:AS):aa Tryz.prog xL [.agg (bz i)] s fun v s'=>v=.bool i.may∧Ext s s':=by
 refine aa.pre fun hw=>PO _ _ _ ⟨rfl,aj.intro hw rfl fun l s1 F=>⟨i.gone,by rw [F.own.at.av];rfl,?_⟩⟩
 have gd:∀ s',Ext s1 s'→aB s' l 0 2=some (aN i.dot):=fun s' e=>(F.own.ext e).at.aB (by simp [bz])
 have gk:∀ s',Ext s1 s'→aB s' l 2 2=some (fY i.key):=fun s' e=>(F.own.ext e).at.aB (by simp [bz])
 refine af.mk (fun h=>?_) (fun h=>?_)
 ·refine ⟨_,gd _ (Ext.refl _),?_⟩
  refine aa.use (rE _ _) ?_
  rintro v s2 ⟨rfl,e2⟩ _
  refine ⟨_,rfl,af.mk (fun h2=>⟨_,gk _ e2,_,SN,_,Nl _ _,?_,F.ext.trans e2⟩) (fun h2=>⟨by simp [ey.may,h2],F.ext.trans e2⟩)⟩
  simp [ey.may,h,h2]
 ·refine ⟨_,gd _ (Ext.refl _),?_⟩
  refine aa.use (rE _ _) ?_
  rintro v s2 ⟨rfl,e2⟩ _
  refine ⟨_,rfl,af.mk (fun h2=>⟨_,gk _ e2,?_⟩) (fun h2=>⟨by simp [ey.may,h2],F.ext.trans e2⟩)⟩
  refine aa.use (Le _ _) ?_
  rintro v s3 ⟨rfl,e3⟩ _
  exact ⟨_,rfl,by simp [ey.may,h,h2],F.ext.trans (e2.trans e3)⟩
end Go.Proofs.YtohgmogbabkkeaaGreat
end

section
namespace Go.Proofs.YtohgmogbabkkeaaGreat
open Go.Am Go.au
/-! ### maps of dots -/
abbrev dK (d:aK):AV:=.agg (aN d)
abbrev bV (b:Bool):AV:=.agg [.bool b]
theorem Iz:∀ r c:Int,nI T 100 iB (.agg [.int .i64 r,.int .u64 c])=true:=by
 intro r c;kernel_rfl
theorem PR:aU T ee [(0,.bool true)]=some (.agg [.bool true]):=by kernel_rfl
/-! ### views -/
structure Vw where
 v:List Int
 ex:List aK
 live:aK→Bool
structure Gh (F:List Nat) (s:AS) (p:Nat) (v:List Int) (ex:List aK):Prop where
 len:v.length=16
 lab:p∈F
 mem:∃ w,Am.Own s p (v.map (.int .u64)++[w,.bool true])∧w.one=true∧bt aN 2 s w ex∧∀ la∈ay w,la∈F
theorem Gh.at {F:List Nat} {s:AS} {p:Nat} {v:List Int} {ex:List aK} (h:Gh F s p v ex):xX s p v ex:=by
 obtain ⟨h1,_,w,h2,h3,h4,h5⟩:=h
 exact ⟨h1,w,h2,h3,h4.sl bn⟩
theorem Gh.mut {F:List Nat} {s s':AS} {L:List Nat} {p:Nat} {v:List Int} {ex:List aK} (h:Gh F s p v ex) (m:bD L s s') (hL:∀ x∈L,x ∉ F):Gh F s' p v ex:=by
 obtain ⟨h1,h0,w,h2,h3,h4,h5⟩:=h
 exact ⟨h1,h0,w,h2.mut m (fun hx=>hL p hx h0),h3,h4.mut m fun x hx hm=>hL x hm (h5 x hx),h5⟩
theorem Gh.sub {F F':List Nat} {s:AS} {p:Nat} {v:List Int} {ex:List aK} (h:Gh F s p v ex) (hF:∀ x∈F,x∈F'):Gh F' s p v ex:=by
 obtain ⟨h1,h0,w,h2,h3,h4,h5⟩:=h
 exact ⟨h1,hF _ h0,w,h2,h3,h4,fun x hx=>hF x (h5 x hx)⟩
theorem vu.toF {s0 s:AS} {p:Nat} {v:List Int} {ex:List aK} (h:vu s0 s p v ex) (hp:s0.h p=none):∃ F,Gh F s p v ex∧(∀ x∈F,s0.h x=none)∧∀ x∈F,s.h x≠none:=by
 obtain ⟨h1,w,h2,h3,h4,h5⟩:=h
 refine ⟨p::ay w,⟨h1,by simp,w,h2,h3,h4,fun x hx=>by simp [hx]⟩,fun x hx=>?_,fun x hx=>?_⟩
 ·rcases List.mem_cons.1 hx with rfl | hx
  ·exact hp
  ·exact h5 x hx
 ·rcases List.mem_cons.1 hx with rfl | hx
  ·rw [h2];simp
  ·rcases h4 with ⟨_,a,rfl⟩ | ⟨la,rfl,ho⟩
   ·simp [ay] at hx
   ·obtain rfl:x=la:=by simpa [ay] using hx
    rw [ho];simp
theorem vu.aix {s0 s:AS} {p:Nat} {v:List Int} {ex:List aK} (h:vu s0 s p v ex):∃ F,Gh F s p v ex∧(∀ x∈F,x=p∨s0.h x=none)∧∀ x∈F,s.h x≠none:=by
 obtain ⟨h1,w,h2,h3,h4,h5⟩:=h
 refine ⟨p::ay w,⟨h1,by simp,w,h2,h3,h4,fun x hx=>by simp [hx]⟩,fun x hx=>?_,fun x hx=>?_⟩
 ·rcases List.mem_cons.1 hx with rfl | hx
  ·exact .inl rfl
  ·exact .inr (h5 x hx)
 ·rcases List.mem_cons.1 hx with rfl | hx
  ·rw [h2];simp
  ·rcases h4 with ⟨_,a,rfl⟩ | ⟨la,rfl,ho⟩
   ·simp [ay] at hx
   ·obtain rfl:x=la:=by simpa [ay] using hx
    rw [ho];simp
/-! ### matrices -/
section
variable {F:List Nat} {s s':AS} {p m:Nat} {n o:Int} {told:Int→Option Vw} {has:List Int}
def lno (x:Option Vw):Nat:=match x with | some x=>x.ex.length | none=>0
end
end Go.Proofs.YtohgmogbabkkeaaGreat
end

section
namespace Go.Proofs.YtohgmogbabkkeaaGreat
open Go.Am Go.au Go.aC
/-! ### maps of dots -/
abbrev kV (k:Key):AV:=.agg (fY k)
theorem PS:Yh (K:=aK) T bL iB ee dK (bV false) :=
 ⟨j8,fun a b=>Mz a b,fun a=>Iz a.r a.c,fun a=>by simp [zq,Ej,aN],xS⟩
theorem vD:Yh (K:=aK) T bY iB oX dK (kV ⟨[],[]⟩) :=
 ⟨xR,fun a b=>Mz a b,fun a=>Iz a.r a.c,fun a=>by simp [zq,Ej,aN],ac2⟩
theorem Zs:UW T iB 2:=⟨ac1,jZ,_,_,RK,rfl,rfl⟩
theorem VP:STy T az:=⟨Yw,Bz⟩
theorem _root_.Go.Am.aT.map {α β:Type} {f:α→List AV} {g:β→List AV} {h:α→β} (hg:∀ x,g (h x)=f x) {sz:Nat} {M:List Nat} {s0 s:AS} {v:AV} {l:List α} (G:aT f sz M s0 s v l):aT g sz M s0 s v (l.map h):=by
 refine ⟨?_,G.eG,G.new⟩
 have e:(l.map h).flatMap g=l.flatMap f:=by
  rw [List.flatMap_map];congr 1;funext x;exact hg x
 rcases G.wq with ⟨rfl,a,rfl⟩ | ⟨la,rfl,ho⟩
 ·exact .inl ⟨rfl,a,rfl⟩
 ·exact .inr ⟨la,by rw [List.length_map],by rw [e];exact ho⟩
section
variable {V:Type} {vf:V→AV} {m:Nat} {es:List (aK×V×Nat)} {c:Nat} {ro:Bool} {s:AS}
theorem Nm {gf:FuncId} {lb:Nat} (hgf:fS Tryz.prog gf=true) (CX:es.length≤2 ^ 30) (hm:eJ dK vf s m es c ro)
  (hrun:∀ s1,Ext s s1→aM s1→OM Tryz.prog dK vf m es c ro (fun e=>aN e.1) gf [.ptr (some (lb,0))] s1) :
  aa Tryz.prog iM [.func gf [.ptr (some (lb,0))]] s fun v s'=>∃ done:List (aK×V×Nat),(∀ e∈es,e∈done)∧(∀ e∈done,e∈es)∧done.Nodup∧aT aN 2 [] s s' v (done.map fun e=>e.1):=by
 refine wQ _ _ _ ?_
 refine (E2 hT Tryz.func246 (by kernel_rfl) (ts:=az) (te:=iB) (tq:=Fa) (by kernel_rfl) (by kernel_rfl) (by kernel_rfl) VP iE Zs (el:=fun e=>aN e.1) (fun e=>rfl) (fun e=>rfl) hgf CX hm hrun).mono ?_
 rintro v s' ⟨done,h1,h2,h3,g⟩
 exact ⟨done,h1,h2,h3,aT.map (h:=fun e:aK×V×Nat=>e.1) (fun x=>rfl) g⟩
theorem PT {gf:FuncId} {lb:Nat} (hgf:fS Tryz.prog gf=true) (CX:es.length<65536) (hm:eJ dK vf s m es c ro)
  (hrun:∀ s1,Ext s s1→aM s1→OM Tryz.prog dK vf m es c ro (fun e=>aN e.1) gf [.ptr (some (lb,0))] s1) :
  aa Tryz.prog eM [.func gf [.ptr (some (lb,0))],.func iJ []] s fun v s'=>∃ l:List aK,dR l∧(∀ d,d∈l↔∃ e∈es,e.1=d)∧l.length=es.length∧Sb s s' v l:=by
 refine tC _ _ _ _ ?_
 refine aa.use (Nm hgf (by omega) hm hrun) ?_
 rintro v s2 ⟨done,h1,h2,h3,g⟩ w2
 have Bj:(done.map fun e=>e.1).Nodup:=by
  refine List.pairwise_map.2 (List.Pairwise.imp_of_mem ?_ h3)
  intro a b ha hb hab he
  have ha':=h2 a ha
  have hb':=h2 b hb
  refine hab ?_
  have hp:=hm.nd
  have key:∀ (l:List (aK×V×Nat)),l.Pairwise (fun a b=>a.1≠b.1)→a∈l→b∈l→a=b:=by
   intro l
   induction l with
   | nil=>intro _ h;cases h
   | cons x l ih =>
    intro hp h4 h5
    obtain ⟨p1,p2⟩:=List.pairwise_cons.1 hp
    rcases List.mem_cons.1 h4 with r4 | h4 <;> rcases List.mem_cons.1 h5 with r5 | h5
    ·rw [r4,r5]
    ·exact absurd (by rw [← r4];exact he) (p1 b h5)
    ·exact absurd (by rw [← r5];exact he.symm) (p1 a h4)
    ·exact ih p2 h4 h5
  exact key es hp ha' hb'
 have hlen:(done.map fun e=>e.1).length=es.length:=by
  rw [List.length_map]
  have aiy:es.Nodup:=hm.nd.imp fun {a b} h e=>h (by rw [e])
  exact ((List.perm_ext_iff_of_nodup h3 aiy).2 fun a=>⟨h2 a,h1 a⟩).length_eq
 refine aa.use (Ad g (by omega)) ?_
 rintro r s4 ⟨rfl,l,hp,hs,ha⟩ w4
 refine ⟨rfl,l,?_,fun d=>?_,by rw [hp.length_eq,hlen],ha⟩
 ·have hn:l.Nodup:=hp.nodup_iff.2 Bj
  refine List.pairwise_iff_getElem.2 fun i j hi hj hij=>?_
  have hle:(el l i).le (el l j):=hs i j (by omega) hij hj
  have ei:el l i=l[i]:=by have:=zT hi;rw [List.getElem?_eq_getElem hi] at this;exact (Option.some.inj this).symm
  have ej:el l j=l[j]:=by have:=zT hj;rw [List.getElem?_eq_getElem hj] at this;exact (Option.some.inj this).symm
  rw [ei,ej] at hle
  cases hlt:l[i].lt l[j] with
  | true=>rfl
  | false =>
   exfalso
   rcases aK.le_iff.1 hle with h | ⟨h5,h6⟩
   ·have:=(aK.lt_iff (a:=l[i]) (b:=l[j])).2 (.inl h);rw [hlt] at this;cases this
   ·have h7:¬ l[i].c<l[j].c:=fun h=>by
     have:=(aK.lt_iff (a:=l[i]) (b:=l[j])).2 (.inr ⟨h5,h⟩);rw [hlt] at this;cases this
    have:l[i]=l[j]:=by
     cases hx:l[i];cases hy:l[j]
     rw [hx,hy] at h5 h6 h7
     simp only at h5 h6 h7
     rw [h5,show _=_ from Int.le_antisymm h6 (by omega)]
    exact absurd this ((List.pairwise_iff_getElem.1 hn) i j hi hj hij)
 ·rw [hp.mem_iff,List.mem_map]
  constructor
  ·rintro ⟨e,he,rfl⟩;exact ⟨e,h2 e he,rfl⟩
  ·rintro ⟨e,he,rfl⟩;exact ⟨e,h1 e he,rfl⟩
end
end Go.Proofs.YtohgmogbabkkeaaGreat
end

section
namespace Go.Proofs.YtohgmogbabkkeaaGreat
open Go.Am Go.au Go.aC
section
variable {m:Nat} {c:Nat} {ro:Bool} {s:AS}
theorem Zt {es:List (aK×Key×Nat)} {lb:Nat} (hb:At s lb [.map (some m)]) (hm:eJ dK kV s m es c ro):∀ s1,Ext s s1→aM s1→OM Tryz.prog dK kV m es c ro (fun e=>aN e.1) fV [.ptr (some (lb,0))] s1 :=
 fun s1 e _=>Ym hT Tryz.func221 (tm:=bY) (tk:=iB) (tf:=Dc) (tb:=rm) (by kernel_rfl) (by kernel_rfl) (by kernel_rfl) Mk xR Zs (kc:=aN) (fun k=>⟨rfl,rfl⟩) (hb.ext e) (hm.ext e)
theorem PU {es:List (aK×Key×Nat)} (CX:es.length<65536) (hm:eJ dK kV s m es c ro) {R:AV→AS→Prop} (hR:∀ v s' (l:List aK),dR l→(∀ d,d∈l↔∃ e∈es,e.1=d)→l.length=es.length→Sb s s' v l→aM s'→R v s') :
  aa Tryz.prog eE [.map (some m)] s fun v4 s5=>aa Tryz.prog eM [v4,.func iJ []] s5 R:=by
 refine aa.pre fun hw=>oA _ _ _ (aj.intro hw rfl fun lb s1 F=>?_)
 have h1:=hm.ext F.ext
 refine aa.use (PT (by kernel_rfl) CX h1 (Zt F.own.at h1)) ?_
 rintro v s2 ⟨l,a,b,d,e⟩ w2
 refine hR v s2 l a b d ⟨F.ext.trans e.1,e.2.imp id fun ⟨la,h1,h2,h3⟩=>⟨la,h1,h2,F.ext.none h3⟩⟩ w2
/-! ### maps.Clone -/
theorem Nn:Extern.find Tryz.f210=some Extern.MapsClone.clone:=by kernel_rfl
theorem No:Extern.findNext Tryz.f210=none:=by kernel_rfl
theorem Np : (Tryz.f210.name == "runtime.NumGoroutine") = false := by kernel_rfl
theorem Nq:Tryz.f210.body.isNone=true:=by kernel_rfl
theorem eJ.copy {K V:Type} [DecidableEq K] {kf:K→AV} {vf:V→AV} {es:List (K×V×Nat)} {s s':AS} {m':Nat} (h:eJ kf vf s m es c ro) (F:qY s s' m' (.map (lW kf vf es) c false)):eJ kf vf s' m' es c false:=⟨F.at,h.st,h.lt,h.nd⟩
theorem SO {es:List (aK×Key×Nat)} (hm:eJ dK kV s m es c ro):aa Tryz.prog bA [.map (some m)] s fun v s'=>∃ m',v=.map (some m')∧Ext s s'∧s.h m'=none∧eJ dK kV s' m' es c false:=by
 refine (xz hT Tryz.func225 (tm:=bY) (ti:=sY) (tb:=rm) (cl:=u6) (by kernel_rfl) (by kernel_rfl) (by kernel_rfl) (by kernel_rfl) xR Tryz.func210 Np Nq No Nn hm.obj).mono ?_
 rintro v s' ⟨m',rfl,F⟩
 exact ⟨m',rfl,F.ext,F.no,eJ.copy hm F⟩
theorem PV {es:List (aK×Bool×Nat)} (hm:eJ dK bV s m es c ro):aa Tryz.prog cJ [.map (some m)] s fun v s'=>∃ m',v=.map (some m')∧Ext s s'∧s.h m'=none∧eJ dK bV s' m' es c false:=by
 refine (xz hT Tryz.func226 (tm:=bL) (ti:=sY) (tb:=rm) (cl:=u6) (by kernel_rfl) (by kernel_rfl) (by kernel_rfl) (by kernel_rfl) j8 Tryz.func210 Np Nq No Nn hm.obj).mono ?_
 rintro v s' ⟨m',rfl,F⟩
 exact ⟨m',rfl,F.ext,F.no,eJ.copy hm F⟩
end
end Go.Proofs.YtohgmogbabkkeaaGreat
end

section
namespace Go.Proofs.YtohgmogbabkkeaaGreat
open Go.Am Go.au Go.aC
def iS (s:AS) (l:Nat) (f:aK→Option Key) (n:Nat):Prop:=∃ es c,eJ dK kV s l es c false∧(∀ d,dU es d=f d)∧es.length=n
theorem iS.mut {s s':AS} {l n:Nat} {f:aK→Option Key} {L:List Nat} (h:iS s l f n) (e:bD L s s') (hl:l ∉ L):iS s' l f n:=by
 obtain ⟨es,c,h1,h2,h3⟩:=h;exact ⟨es,c,h1.mut e hl,h2,h3⟩
theorem iS.ext {s s':AS} {l n:Nat} {f:aK→Option Key} (h:iS s l f n) (e:Ext s s'):iS s' l f n:=h.mut (L:=[]) e.mut (by simp)
def mX (s:AS) (l:Nat) (f:aK→Bool) (n:Nat):Prop:=∃ es c,eJ dK bV s l es c false∧(∀ d,dU es d=if f d then some true else none)∧es.length=n
theorem mX.mut {s s':AS} {l n:Nat} {f:aK→Bool} {L:List Nat} (h:mX s l f n) (e:bD L s s') (hl:l ∉ L):mX s' l f n:=by
 obtain ⟨es,c,h1,h2,h3⟩:=h;exact ⟨es,c,h1.mut e hl,h2,h3⟩
theorem mX.ext {s s':AS} {l n:Nat} {f:aK→Bool} (h:mX s l f n) (e:Ext s s'):mX s' l f n:=h.mut (L:=[]) e.mut (by simp)
structure aI where
 v:List Int
 ex:List aK
 live:aK→Option Key
 rK:aK→Bool
 nl:Nat
 nt:Nat
structure gJ (F:List Nat) (s:AS) (p:Nat) (x:aI):Prop where
 ok:O9 x.v x.ex
 Ie:Zd x.v x.ex
 len:x.ex.length≤4096
 mem:∃ pc lm tm,Am.Own s p [.ptr (some (pc,0)),.map (some lm),.map (some tm)]∧p∈F∧Gh F s pc x.v x.ex∧lm∈F∧tm∈F∧lm≠tm∧iS s lm x.live x.nl∧mX s tm x.rK x.nt
theorem gJ.mut {F:List Nat} {s s':AS} {L:List Nat} {p:Nat} {x:aI} (h:gJ F s p x) (m:bD L s s') (hL:∀ y∈L,y ∉ F):gJ F s' p x:=by
 obtain ⟨h1,h2,h3,pc,lm,tm,a,b,c,d,e,f,g,i⟩:=h
 exact ⟨h1,h2,h3,pc,lm,tm,a.mut m (fun hx=>hL p hx b),b,c.mut m hL,d,e,f,g.mut m (fun hx=>hL lm hx d),i.mut m (fun hx=>hL tm hx e)⟩
theorem gJ.ext {F:List Nat} {s s':AS} {p:Nat} {x:aI} (h:gJ F s p x) (e:Ext s s'):gJ F s' p x:=h.mut (L:=[]) e.mut (by simp)
section
variable {F:List Nat} {s:AS} {p:Nat} {x:aI}
theorem pB (h:gJ F s p x):aa Tryz.prog ct [.ptr (some (p,0))] s fun r s'=>r=.bool true∧s'=s:=by
 obtain ⟨_,_,_,pc,lm,tm,a,_⟩:=h
 exact B8 _ _ _ ⟨_,iI Jx _,af.yes rfl ⟨_,by rw [a.at.av];rfl,_,iI xQ _,rfl,rfl⟩⟩
theorem aa6 (h:gJ F s p x) (d:aK):aa Tryz.prog nW [.ptr (some (p,0)),.agg (aN d)] s fun r s'=>r=.aQ [.agg (fY ((x.live d).getD ⟨[],[]⟩)),.bool (x.live d).isSome]∧Ext s s':=by
 refine aa.pre fun hw=>DP _ _ _ _ ⟨rfl,aj.intro hw rfl fun l1 s2 F2=>aj.intro F2.wf rfl fun l3 s4 F4=>?_⟩
 have e4:=F2.ext.trans F4.ext
 have o1:=F2.own.ext F4.ext
 refine aa.use (pB (h.ext e4)) ?_
 rintro v s6 ⟨rfl,rfl⟩ w6
 obtain ⟨_,_,_,pc,lm,tm,a,_,_,_,_,_,⟨es,c,hm,hg,hl⟩,_⟩:=h.ext e4
 have hf:=hm.find vD d true
 rw [hg] at hf
 refine ⟨_,rfl,af.no rfl ⟨_,by rw [a.at.av];rfl,_,o1.at.aB (by simp [aN]),fY ((x.live d).getD ⟨[],[]⟩),(x.live d).isSome,?_,?_⟩⟩
 ·refine Eq.trans (show _=_ from hf) ?_
  cases x.live d <;> rfl
 ·refine lN w6 rfl rfl rfl fun j_ iD F19=>?_
  refine ⟨fY ((x.live d).getD ⟨[],[]⟩),?_,⟨rfl,rfl⟩,bu.own F19.wf (F4.own.ext F19.ext) (by simp [fY]) fun gn VQ=>?_⟩
  ·have a19:At iD j_ (fY ((x.live d).getD ⟨[],[]⟩)):=⟨_,_,F19.at⟩
   exact a19.aB (by simp [fY])
  ·have a21:At gn l3 (fY ((x.live d).getD ⟨[],[]⟩)):=⟨_,_,by rw [VQ.at,dD (by simp [fY])]⟩
   exact ⟨_,a21.aB (by simp [fY]),rfl,Ext.wr (e4.trans F19.ext) (F2.ext.none F4.no) VQ.mut⟩
theorem aa7 (h:gJ F s p x) (d:aK):aa Tryz.prog nV [.ptr (some (p,0)),.agg (aN d)] s fun r s'=>r=.bool (!(x.live d).isSome&&ff x.v x.ex d)∧Ext s s':=by
 refine aa.pre fun hw=>DS _ _ _ _ ⟨rfl,aj.intro hw rfl fun l1 s2 F2=>⟨_,F2.own.at.aB (by simp [aN]),?_⟩⟩
 refine aa.use (aa6 (h.ext F2.ext) d) ?_
 rintro v s5 ⟨rfl,e5⟩ w5
 refine ⟨_,_,rfl,lN w5 rfl rfl rfl fun l8 jD SP=>?_⟩
 have MB:=F2.ext.trans (e5.trans SP.ext)
 refine aa.use (pB (h.ext MB)) ?_
 rintro v dg ⟨rfl,rfl⟩ GV
 refine ⟨_,rfl,af.yes rfl (af.mk (fun hl=>?_) (fun hl=>⟨?_,MB⟩))⟩
 ·obtain ⟨ok,_,hlen,pc,lm,tm,a,_,hc,_⟩:=h.ext MB
  refine ⟨_,by rw [a.at.av];rfl,_,(F2.own.ext (e5.trans SP.ext)).at.aB (by simp [aN]),?_⟩
  refine aa.use (Ae hc.at ok.r (by omega) d) ?_
  rintro v iD ⟨rfl,e19⟩ _
  exact ⟨_,rfl,by rw [hl];simp,MB.trans e19⟩
 ·rw [hl];simp
theorem Lf (pc:Nat) (lm tm:Nat):aU T oY [(0,.ptr (some (pc,0))),(1,.map (some lm)),(2,.map (some tm))]=some (.agg [.ptr (some (pc,0)),.map (some lm),.map (some tm)]):=by
 rw [qO (pl:=[(0,1),(1,1),(2,1)]) (by kernel_rfl) Ml rfl]
 rfl
theorem aa8 (h:gJ F s p x):aa Tryz.prog nU [.ptr (some (p,0))] s fun r s'=>∃ p' F',r=.ptr (some (p',0))∧gJ F' s' p' x∧(∀ y∈F',s.h y=none)∧(∀ y∈F',s'.h y≠none)∧Ext s s':=by
 refine DY _ _ _ ?_
 refine aa.use (pB h) ?_
 rintro v s2 ⟨rfl,rfl⟩ w2
 have Xs:=h.len
 obtain ⟨ok,Ie,len,pc,lm,tm,a,hpF,hc,Xb,Zu,hlt,hl,ht⟩:=id h
 have g:∀ (i:Nat) s',Ext s2 s'→av s' p i=[AV.ptr (some (pc,0)),.map (some lm),.map (some tm)][i]? := fun i s' e=>(a.ext e).at.av i
 refine ⟨_,rfl,af.no rfl ⟨fun q _ v s'=>(q=4→∃ pc,v=.ptr (some (pc,0))∧s2.h pc=none∧vu s2 s' pc x.v x.ex)∧(q=9→∃ lm,v=.map (some lm)∧s2.h lm=none∧iS s' lm x.live x.nl),fun q _ v=>(q=4→∃ pc,v=.ptr (some (pc,0)))∧(q=9→∃ lm,v=.map (some lm)),?_,_,g 0 _ (Ext.refl _),fun s7 e7 w7 _=>?_,⟨.ptr (some (0,0)),(fun _=>⟨0,rfl⟩),(fun h=>by cases h)⟩,fun v11 aiz=>?_⟩⟩
 ·rintro q ks v s' s'' e ⟨h1,h2⟩
  refine ⟨fun hq=>?_,fun hq=>?_⟩
  ·obtain ⟨a,b,c,d⟩:=h1 hq;exact ⟨a,b,c,d.ext e⟩
  ·obtain ⟨a,b,c,d⟩:=h2 hq;exact ⟨a,b,c,d.ext e⟩
 ·refine (Ic (hc.at.ext e7) (by omega)).mono ?_
  rintro v s9 ⟨q,rfl,hq,g9,e9⟩
  exact ⟨_,rfl,e9,⟨(fun _=>⟨q,rfl,e7.none hq,g9.back e7⟩),(fun h=>by cases h)⟩,(fun _=>⟨q,rfl⟩),(fun h=>by cases h)⟩
 obtain ⟨pc',rfl⟩:=aiz.1 rfl
 refine ⟨_,rfl,_,g 1 _ (Ext.refl _),fun kr e16 w16 _=>?_,⟨.map (some 0),(fun h=>by cases h),(fun _=>⟨0,rfl⟩)⟩,fun v20 afE=>?_⟩
 ·obtain ⟨es,c,h1,h2,h3⟩:=hl.ext e16
  refine (SO h1).mono ?_
  rintro v eC ⟨m',rfl,e18,hm',hM⟩
  exact ⟨_,rfl,e18,⟨(fun h=>by cases h),(fun _=>⟨m',rfl,e16.none hm',es,c,hM,h2,h3⟩)⟩,(fun h=>by cases h),(fun _=>⟨m',rfl⟩)⟩
 obtain ⟨lm',rfl⟩:=afE.2 rfl
 refine ⟨_,rfl,_,g 2 _ (Ext.refl _),fun dM T6 H8 hS=>?_⟩
 obtain ⟨pc2,hpc,aiA,hG⟩:=hS.1.1 rfl
 obtain ⟨lm2,Xr,aiB,hL⟩:=hS.2.1.2 rfl
 simp only [AV.ptr.injEq,AV.map.injEq,Option.some.injEq,Prod.mk.injEq,and_true] at hpc Xr
 subst hpc;subst Xr
 obtain ⟨es,c,h1,h2,h3⟩:=ht.ext T6
 refine aa.use (PV h1) ?_
 rintro v rA ⟨tm',rfl,Xc,htm,hM⟩ w28
 refine ⟨_,rfl,_,Lf _ _ _,rfl,aj.intro w28 rfl fun p' kL F30=>?_⟩
 obtain ⟨Fc,hcF,hFn,hFt⟩:=hG.toF aiA
 have IA:=Xc.trans F30.ext
 have E30:=T6.trans IA
 have hlt':lm'≠tm':=by
  rintro rfl
  obtain ⟨es',c',h4,_⟩:=hL
  rw [h4.obj] at htm;cases htm
 refine ⟨p',p'::lm'::tm'::Fc,rfl,⟨ok,Ie,len,pc',lm',tm',F30.own,by simp,(hcF.mut (L:=[]) IA.mut (by simp)).sub (fun y hy=>by simp [hy]),by simp,by simp,hlt',hL.ext IA,es,c,hM.ext F30.ext,h2,h3⟩,?_,?_,E30⟩
 ·intro y hy
  simp only [List.mem_cons] at hy
  rcases hy with rfl | rfl | rfl | hy
  ·exact (T6.trans Xc).none F30.no
  ·exact aiB
  ·exact T6.none htm
  ·exact hFn y hy
 ·intro y hy
  simp only [List.mem_cons] at hy
  rcases hy with rfl | rfl | rfl | hy
  ·rw [F30.at];simp
  ·obtain ⟨es',c',h4,_⟩:=hL.ext IA
   rw [h4.obj];simp
  ·rw [(hM.ext F30.ext).obj];simp
  ·cases hq:dM.h y with
   | none=>exact absurd hq (hFt y hy)
   | some ob=>rw [IA.1 y ob hq];simp
end
end Go.Proofs.YtohgmogbabkkeaaGreat
end

section
namespace Go.Proofs.YtohgmogbabkkeaaGreat
open Go.Am Go.au Go.aC
theorem Ext.wrL {s s1 s2:AS} {L:List Nat} (e:Ext s s1) (hp:∀ x∈L,s.h x=none) (m:bD L s1 s2):Ext s s2 :=
 ⟨fun x o hx=>m.1 x o (fun hm=>by rw [hp x hm] at hx;cases hx) (e.1 x o hx),Nat.le_trans e.2 m.2⟩
section
variable {s:AS} {l n:Nat}
theorem iS.obj {f:aK→Option Key} (h:iS s l f n):∃ es c,s.h l=some (.map es c false):=by
 obtain ⟨es,c,h1,_⟩:=h;exact ⟨_,_,h1.obj⟩
theorem mX.obj {f:aK→Bool} (h:mX s l f n):∃ es c,s.h l=some (.map es c false):=by
 obtain ⟨es,c,h1,_⟩:=h;exact ⟨_,_,h1.obj⟩
theorem iS.del (hw:aM s) {f:aK→Option Key} (h:iS s l f n) {d:aK} {k:Key} (hd:f d=some k) {Q:AS→Prop}
  (hq:∀ s',iS s' l (fun x=>if x=d then none else f x) (n - 1)→aM s'→bD [l] s s'→Q s'):bu (qp T bY (.map (some l)) (.agg (aN d)) s) Q:=by
 obtain ⟨es,c,h1,h2,h3⟩:=h
 refine eJ.del vD hw h1 d (by rw [h2];exact hd) fun s' es' Er Xd hl w m=>hq s' ⟨es',c,Er,fun x=>?_,by omega⟩ w m
 rw [Xd,h2]
theorem iS.pL (hw:aM s) {f:aK→Option Key} (h:iS s l f n) (d:aK) (k:Key) {Q:AS→Prop}
  (hq:∀ s',iS s' l (fun x=>if x=d then some k else f x) (if (f d).isSome then n else n+1)→aM s'→bD [l] s s'→Q s'):bu (dN T bY (.map (some l)) (.agg (aN d)) (.agg (fY k)) s) Q:=by
 obtain ⟨es,c,h1,h2,h3⟩:=h
 refine eJ.pL vD hw h1 d k fun s' es' c' Er Xd w m=>hq s' ⟨es',c',Er,fun x=>?_,?_⟩ w m
 ·rw [Xd,h2]
 ·rw [Mb h1.nd Er.nd Xd,h2,h3]
theorem mX.pL (hw:aM s) {f:aK→Bool} (h:mX s l f n) (d:aK) {Q:AS→Prop}
  (hq:∀ s',mX s' l (fun x=>f x||decide (x=d)) (if f d then n else n+1)→aM s'→bD [l] s s'→Q s'):bu (dN T bL (.map (some l)) (.agg (aN d)) (.agg [.bool true]) s) Q:=by
 obtain ⟨es,c,h1,h2,h3⟩:=h
 refine eJ.pL PS hw h1 d true fun s' es' c' Er Xd w m=>hq s' ⟨es',c',Er,fun x=>?_,?_⟩ w m
 ·rw [Xd,h2]
  by_cases e:x=d
  ·simp [e]
  ·simp [e]
 ·rw [Mb h1.nd Er.nd Xd,h2,h3]
  cases f d <;> simp
end
theorem EM (v:List Int) (ex:List aK):(compact v ex).2.length≤ex.length:=by
 have:=Bm ex (v,[])
 simpa [compact] using this
def aI.mg (x:aI) (i:ey):Bool×aI :=
 if (x.live i.dot).isSome&&i.gone then (true,{ x with live:=fun d=>if d=i.dot then none else x.live d,rK:=fun d=>x.rK d||decide (d=i.dot),nl:=x.nl - 1,nt:=if x.rK i.dot then x.nt else x.nt+1 })
 else if ff x.v x.ex i.dot then (false,x)
 else if i.gone then (true,{ x with v:=(compact x.v (ins x.ex i.dot)).1,ex:=(compact x.v (ins x.ex i.dot)).2,rK:=fun d=>x.rK d||decide (d=i.dot),nt:=if x.rK i.dot then x.nt else x.nt+1 })
 else (true,{ x with v:=(compact x.v (ins x.ex i.dot)).1,ex:=(compact x.v (ins x.ex i.dot)).2,live:=fun d=>if d=i.dot then some i.key else x.live d,nl:=if (x.live i.dot).isSome then x.nl else x.nl+1 })
theorem aa9 (x:aI) (i:ey) (ok:O9 x.v x.ex) (hi:i.dot.may=true) (hroom:x.ex.length<4096):(x.mg i).2.ex.length≤x.ex.length+1∧(x.mg i).2.nl≤x.nl+1∧(x.mg i).2.nl+(x.mg i).2.nt≤x.nl+x.nt+1:=by
 have hc:(compact x.v (ins x.ex i.dot)).2.length≤x.ex.length+1:=by
  have:=EM x.v (ins x.ex i.dot)
  rw [yH] at this;exact this
 unfold aI.mg
 split
 ·refine ⟨by simp,by simp;omega,?_⟩
  simp only
  split <;> omega
 ·split
  ·refine ⟨by simp,by simp,by simp⟩
  ·split
   ·refine ⟨hc,by simp,?_⟩
    simp only;split <;> omega
   ·refine ⟨hc,?_,?_⟩ <;> simp only <;> split <;> omega
section
variable {F:List Nat} {s:AS} {p:Nat} {x:aI}
theorem aa_ {v:List Int} {ex:List aK} {d:aK} (hh:ff v ex d=true) (hd:d.may=true):lF v ex d=(false,0,v,ex):=by simp [lF,hd,hh]
theorem Zv {v:List Int} {ex:List aK} {d:aK} (hh:ff v ex d=false) (hd:d.may=true) (hn:ex.length<4096):lF v ex d=(true,0,compact v (ins ex d)):=by
 have hc:=EM v (ins ex d)
 rw [yH] at hc
 simp only [lF,hd,hh,Bool.true_eq_false,Bool.false_eq_true,if_false]
 rw [if_neg (by omega)]
theorem adO (h:gJ F s p x) (As:∀ y∈F,s.h y≠none) (i:ey) (hi:i.dot.may=true) (hroom:x.ex.length<4096) :
  aa Tryz.prog pT [.ptr (some (p,0)),.agg (bz i)] s fun r s'=>r=.aQ [.bool (x.mg i).1,.int .i64 0]∧∃ F',gJ F' s' p (x.mg i).2∧(∀ y∈F',y∈F∨s.h y=none)∧(∀ y∈F',s'.h y≠none)∧bD F s s':=by
 refine aa.pre fun hw=>Gg _ _ _ _ ⟨rfl,aj.intro hw rfl fun l1 s2 F2=>?_⟩
 have h2:=h.ext F2.ext
 obtain ⟨ok,Ie,hlen,pc,lm,tm,a,hpF,hc,Xb,Zu,hlt,hl,ht⟩:=id h2
 have hf:dI T bY (.map (some lm)) (.agg (aN i.dot)) true s2=some (.aQ [.agg (fY ((x.live i.dot).getD ⟨[],[]⟩)),.bool (x.live i.dot).isSome]):=by
  obtain ⟨es,c,hm,hg,_⟩:=hl
  have hf:=hm.find vD i.dot true
  rw [hg] at hf
  refine Eq.trans (show _=_ from hf) ?_
  cases x.live i.dot <;> rfl
 refine ⟨_,by rw [a.at.av];rfl,_,F2.own.at.aB (by simp [bz]),fY ((x.live i.dot).getD ⟨[],[]⟩),(x.live i.dot).isSome,hf,?_⟩
 refine lN F2.wf rfl rfl rfl fun l9 fI yO=>?_
 have E11:=F2.ext.trans yO.ext
 have o1:Am.Own fI l1 (bz i):=F2.own.ext yO.ext
 have CW:p≠lm:=by rintro rfl;obtain ⟨es,c,h⟩:=hl.obj;rw [a] at h;cases h
 have hpt:p≠tm:=by rintro rfl;obtain ⟨es,c,h⟩:=ht.obj;rw [a] at h;cases h
 have hF1:l1 ∉ F:=fun hm=>As l1 hm F2.no
 refine ⟨fun vs s'=>vs=[.bool ((x.live i.dot).isSome&&i.gone)]∧s'=fI,?_,af.mk (fun hs=>⟨i.gone,by rw [o1.at.av];rfl,by rw [hs];rfl,rfl⟩) (fun hs=>⟨by rw [hs];rfl,rfl⟩)⟩
 rintro b jT ⟨hb,rfl⟩
 simp only [List.cons.injEq,AV.bool.injEq,and_true] at hb
 subst hb
 have h14:=h2.ext yO.ext
 replace a:=a.ext yO.ext
 replace hc:=hc.mut (L:=[]) yO.ext.mut (by simp)
 replace hl:=hl.ext yO.ext
 replace ht:=ht.ext yO.ext
 have Zw:∀ y∈F,jT.h y≠none:=fun y hy hn=>As y hy (E11.none hn)
 refine af.mk (fun hb=>?_) (fun hb=>?_)
 ·simp only [Bool.and_eq_true] at hb
  obtain ⟨k,hk⟩:=Option.isSome_iff_exists.1 hb.1
  have SR:x.mg i=(true,{ x with live:=fun d=>if d=i.dot then none else x.live d,rK:=fun d=>x.rK d||decide (d=i.dot),nl:=x.nl - 1,nt:=if x.rK i.dot then x.nt else x.nt+1 }):=by
   unfold aI.mg
   rw [if_pos (by simp [hb])]
  refine ⟨_,by rw [a.at.av];rfl,_,o1.at.aB (by simp [bz]),hl.del yO.wf hk fun iD afF w19 Xe=>?_⟩
  have aiC:=ht.mut Xe (by simpa using hlt.symm)
  have a19:=a.mut Xe (by simpa using CW)
  have o19:=o1.mut Xe (by simp only [List.mem_singleton];rintro rfl;exact hF1 Xb)
  refine ⟨_,by rw [a19.at.av];rfl,_,o19.at.aB (by simp [bz]),_,PR,aiC.pL w19 i.dot fun dM afG H8 m25=>?_⟩
  have hml:∀ y∈[lm],y∈F:=by simpa using Xb
  have hmt:∀ y∈[tm],y∈F:=by simpa using Zu
  have M:bD F s dM:=E11.mut.trans ((Xe.mono hml).trans (m25.mono hmt))
  have yB:pc ∉ [lm]:=by
   simp only [List.mem_singleton]
   rintro rfl
   obtain ⟨_,_,w,QJ,_⟩:=hc
   obtain ⟨es,c,h⟩:=hl.obj
   rw [QJ] at h;cases h
  have hct:pc ∉ [tm]:=by
   simp only [List.mem_singleton]
   rintro rfl
   obtain ⟨_,_,w,QJ,_⟩:=hc
   obtain ⟨es,c,h⟩:=ht.obj
   rw [QJ] at h;cases h
  have aiD:Gh F dM pc x.v x.ex:=by
   obtain ⟨q1,q2,w,q3,q4,q5,q6⟩:=hc
   have keep:∀ (m:Nat) (es:List (AV×AV×Nat)) (c:Nat),jT.h m=some (.map es c false)→∀ y∈ay w,y≠m:=by
    rintro m es c hm y hy rfl
    rcases q5 with ⟨_,b,rfl⟩ | ⟨la,rfl,ho⟩
    ·simp [ay] at hy
    ·obtain rfl:y=la:=by simpa [ay] using hy
     rw [ho] at hm;cases hm
   obtain ⟨es1,c1,e1⟩:=hl.obj
   obtain ⟨es2,c2,e2⟩:=ht.obj
   have q5':=q5.mut Xe fun y hy hm=>keep _ _ _ e1 y hy (by simpa using hm)
   exact ⟨q1,q2,w,(q3.mut Xe yB).mut m25 hct,q4,q5'.mut m25 fun y hy hm=>keep _ _ _ e2 y hy (by simpa using hm),q6⟩
  rw [SR]
  refine ⟨rfl,F,⟨ok,Ie,hlen,pc,lm,tm,a19.mut m25 (by simpa using hpt),hpF,aiD,Xb,Zu,hlt,afF.mut m25 (by simpa using hlt),afG⟩,fun y hy=>.inl hy,fun y hy=>?_,M⟩
  have ab7:∀ {m:Nat} {u u':AS},bD [m] u u'→u'.h m≠none→u.h y≠none→u'.h y≠none:=by
   intro m u u' mm hm hn
   by_cases e:y=m
   ·rw [e];exact hm
   ·cases hq:u.h y with
    | none=>exact absurd hq hn
    | some o=>rw [mm.1 y o (by simpa using e) hq];simp
  refine ab7 m25 ?_ (ab7 Xe ?_ (Zw y hy))
  ·obtain ⟨es,c,h⟩:=afG.obj;rw [h];simp
  ·obtain ⟨es,c,h⟩:=afF.obj;rw [h];simp
 refine ⟨_,by rw [a.at.av];rfl,_,o1.at.aB (by simp [bz]),?_⟩
 refine aa.use (O8 hc.at ok.v ok.r ok.m (by omega) i.dot) ?_
 rintro r nA ⟨rfl,c31,QU,hno,hyes⟩ NS
 have hb':¬ ((x.live i.dot).isSome&&i.gone)=true:=by rw [hb];simp
 cases hh:ff x.v x.ex i.dot with
 | true =>
  rw [aa_ hh hi] at c31 hno hyes ⊢
  have e31:=hno rfl
  have SR:x.mg i=(false,x):=by
   unfold aI.mg
   rw [if_neg hb',if_pos hh]
  rw [SR]
  refine ⟨_,_,rfl,fun vs s'=>vs=[.bool true]∧s'=nA,?_,af.no rfl ⟨rfl,rfl⟩⟩
  rintro b oI ⟨hb,rfl⟩
  simp only [List.cons.injEq,AV.bool.injEq,and_true] at hb
  subst hb
  exact af.yes rfl ⟨rfl,F,h14.ext e31,fun y hy=>.inl hy,fun y hy hn=>Zw y hy (e31.none hn),(E11.trans e31).mut⟩
 | false =>
  have aiE:=Zv hh hi hroom
  have haa:=Zg ok Ie hroom i.dot
  rw [aiE] at c31 hno hyes haa ⊢
  obtain ⟨ok',afH,afI,_⟩:=haa
  have hlen':(compact x.v (ins x.ex i.dot)).2.length≤x.ex.length+1:=afI
  have hG:=hyes rfl
  obtain ⟨Fc,hcF,hFn,hFt⟩:=hG.aix
  have adP:pc∈F:=hc.lab
  have afJ:bD F jT nA:=QU.mono (by simpa using adP)
  have hpc:p≠pc:=by
   rintro rfl
   have hvl:=ok.v.len
   obtain ⟨_,_,w,QJ,_⟩:=hc
   have h1:=congrArg List.length (a.at.inj QJ.at)
   simp [hvl] at h1
  have hlp:lm≠pc:=by
   rintro rfl
   obtain ⟨_,_,w,QJ,_⟩:=hc
   obtain ⟨es,c,h⟩:=hl.obj
   rw [QJ] at h;cases h
  have htp:tm≠pc:=by
   rintro rfl
   obtain ⟨_,_,w,QJ,_⟩:=hc
   obtain ⟨es,c,h⟩:=ht.obj
   rw [QJ] at h;cases h
  have a31:=a.mut QU (by simpa using hpc)
  have afK:=hl.mut QU (by simpa using hlp)
  have afL:=ht.mut QU (by simpa using htp)
  have Xa:=o1.mut QU (by simp only [List.mem_singleton];rintro rfl;exact hF1 adP)
  have hFs:∀ y∈Fc,y∈F∨s.h y=none:=by
   intro y hy
   rcases hFn y hy with rfl | h
   ·exact .inl adP
   ·exact .inr (E11.none h)
  have hFm:∀ {m:Nat},m≠pc→jT.h m≠none→∀ y∈[m],y ∉ Fc:=by
   intro m hm hn y hy hf
   obtain rfl:=List.mem_singleton.1 hy
   rcases hFn y hf with h | h
   ·exact hm h
   ·exact hn h
  have fin:∀ {m:Nat} {s':AS},m∈F→bD [m] nA s'→s'.h m≠none→∀ y∈Fc++F,s'.h y≠none:=by
   intro m s' hm mm hn y hy
   by_cases e:y=m
   ·rw [e];exact hn
   ·have h31:nA.h y≠none:=by
     rcases List.mem_append.1 hy with hy | hy
     ·exact hFt y hy
     ·by_cases e2:y=pc
      ·rw [e2];obtain ⟨_,w,h,_⟩:=c31;rw [h];simp
      ·cases hq:jT.h y with
       | none=>exact absurd hq (Zw y hy)
       | some o=>rw [QU.1 y o (by simpa using e2) hq];simp
    cases hq:nA.h y with
    | none=>exact absurd hq h31
    | some o=>rw [mm.1 y o (by simpa using e) hq];simp
  have ab8:∀ y∈Fc++F,y∈F∨s.h y=none:=by
   intro y hy
   rcases List.mem_append.1 hy with hy | hy
   ·exact hFs y hy
   ·exact .inl hy
  refine ⟨_,_,rfl,fun vs s'=>vs=[.bool false]∧s'=nA,?_,af.no rfl ⟨rfl,rfl⟩⟩
  rintro b oI ⟨Em,rfl⟩
  simp only [List.cons.injEq,AV.bool.injEq,and_true] at Em
  subst Em
  refine af.no rfl ⟨i.gone,by rw [Xa.at.av];rfl,af.mk (fun hg=>?_) (fun hg=>?_)⟩
  ·have SR:x.mg i=(true,{ x with v:=(compact x.v (ins x.ex i.dot)).1,ex:=(compact x.v (ins x.ex i.dot)).2,rK:=fun d=>x.rK d||decide (d=i.dot),nt:=if x.rK i.dot then x.nt else x.nt+1 }):=by
    unfold aI.mg
    rw [if_neg hb',if_neg (by rw [hh];simp),if_pos hg]
   rw [SR]
   refine ⟨_,by rw [a31.at.av];rfl,_,Xa.at.aB (by simp [bz]),_,PR,afL.pL NS i.dot fun CR afM w43 Sj=>?_⟩
   obtain ⟨es,c,hto⟩:=ht.obj
   have aiF:=hcF.mut Sj (hFm htp (by rw [hto];simp))
   refine ⟨rfl,Fc++F,⟨ok',afH,by simp only;omega,pc,lm,tm,a31.mut Sj (by simpa using hpt),by simp [hpF],aiF.sub (fun y hy=>by simp [hy]),by simp [Xb],by simp [Zu],hlt,afK.mut Sj (by simpa using hlt),afM⟩,ab8,fin Zu Sj ?_,E11.mut.trans (afJ.trans (Sj.mono (by simpa using Zu)))⟩
   obtain ⟨es,c,h⟩:=afM.obj;rw [h];simp
  ·have SR:x.mg i=(true,{ x with v:=(compact x.v (ins x.ex i.dot)).1,ex:=(compact x.v (ins x.ex i.dot)).2,live:=fun d=>if d=i.dot then some i.key else x.live d,nl:=if (x.live i.dot).isSome then x.nl else x.nl+1 }):=by
    unfold aI.mg
    rw [if_neg hb',if_neg (by rw [hh];simp),if_neg (by rw [hg];simp)]
   rw [SR]
   refine ⟨_,by rw [a31.at.av];rfl,_,Xa.at.aB (by simp [bz]),_,Xa.at.aB (by simp [bz]),afK.pL NS i.dot i.key fun z6 afN w49 Vs=>?_⟩
   obtain ⟨es,c,hlo⟩:=hl.obj
   have aiG:=hcF.mut Vs (hFm hlp (by rw [hlo];simp))
   refine ⟨rfl,Fc++F,⟨ok',afH,by simp only;omega,pc,lm,tm,a31.mut Vs (by simpa using CW),by simp [hpF],aiG.sub (fun y hy=>by simp [hy]),by simp [Xb],by simp [Zu],hlt,afN,afL.mut Vs (by simpa using hlt.symm)⟩,ab8,fin Xb Vs ?_,E11.mut.trans (afJ.trans (Vs.mono (by simpa using Xb)))⟩
   obtain ⟨es,c,h⟩:=afN.obj;rw [h];simp
end
end Go.Proofs.YtohgmogbabkkeaaGreat
end

section
namespace Go.Proofs.YtohgmogbabkkeaaGreat
open Go.Am Go.au Go.aC
theorem fR:C5 T aH ru 5 56:=⟨cV,pW,ac4,⟨_,_,aaQ,rfl,rfl⟩,by decide,by decide⟩
section
variable {s:AS} {a:AV} {l:List ey} {g:FuncId} {cap:List AV} {P:ey→Bool}
theorem Nr (hl:Sl bz 5 s a l) (hn:l.length≤2 ^ 40) (hf:∀ i s',Ext s s'→aM s'→aa Tryz.prog g ([.agg (bz i)]++cap) s' fun v s''=>v=.bool (P i)∧Ext s' s'') :
  aa Tryz.prog ep [a,.func g cap] s fun v s'=>Ext s s'∧∃ n:Int,v=.int .i64 n∧((n = -1∧l.any P=false)∨∃ k:Nat,n=k∧k<l.length∧(∃ x,l[k]? = some x∧P x=true)∧∀ j x,j<k→l[j]? = some x→P x=false):=by
 refine aa.pre fun hw=>nk _ _ _ _ ⟨_,hl.cG cV _,fun m vs s'=>∃ i:Nat,vs=[.int .i64 (i:Nat)]∧i≤l.length∧m=l.length - i∧Ext s s'∧aM s'∧(∀ j x,j<i→l[j]? = some x→P x=false),l.length,⟨0,rfl,by omega,rfl,Ext.refl _,hw,by omega⟩,?_⟩
 rintro m n s6 ⟨i,hi,h6,rfl,e6,w6,hall⟩
 simp only [List.cons.injEq,AV.int.injEq,true_and,and_true] at hi
 subst hi
 refine af.dec (fun hlt=>?_) (fun hge=>⟨e6,-1,rfl,.inl ⟨rfl,?_⟩⟩)
 ·obtain ⟨x,hx⟩:=cW (l:=l) (i:=i) (by omega)
  obtain ⟨la,o,h8,h9⟩:=hl.ix (by decide) bf cV pW hx
  refine ⟨la,o,h8 _,_,(h9 _ e6).2,?_⟩
  refine aa.use (hf x s6 e6 w6) ?_
  rintro v fI ⟨rfl,QT⟩ YZ
  refine ⟨_,rfl,af.mk (fun hb=>⟨e6.trans QT,_,rfl,.inr ⟨i,rfl,by omega,⟨x,hx,hb⟩,hall⟩⟩) (fun hb=>⟨l.length - (i+1),by omega,i+1,by rw [aV (by omega)];rfl,by omega,rfl,e6.trans QT,YZ,fun j y hj hy=>?_⟩)⟩
  rcases Nat.lt_or_ge j i with h | h
  ·exact hall j y h hy
  ·obtain rfl:j=i:=by omega
   rw [hx] at hy;obtain rfl:=Option.some.inj hy;exact hb
 ·rw [List.any_eq_false]
  intro x hx
  obtain ⟨j,hj⟩:=List.mem_iff_getElem?.1 hx
  have:j<l.length:=by
   rcases Nat.lt_or_ge j l.length with h | h
   ·exact h
   ·rw [List.getElem?_eq_none h] at hj;cases hj
  rw [hall j x (by omega) hj];simp
theorem Gi (hl:Sl bz 5 s a l) (hn:l.length≤2 ^ 40) (hf:∀ i s',Ext s s'→aM s'→aa Tryz.prog g ([.agg (bz i)]++cap) s' fun v s''=>v=.bool (P i)∧Ext s' s'') :
  aa Tryz.prog dA [a,.func g cap] s fun v s'=>v=.bool (l.any P)∧Ext s s':=by
 refine lI _ _ _ _ ?_
 refine aa.use (Nr hl hn hf) ?_
 rintro v s2 ⟨e,n,rfl,h⟩ _
 refine ⟨_,rfl,?_,e⟩
 congr 1
 rcases h with ⟨rfl,h⟩ | ⟨k,rfl,hk,⟨x,hx,hp⟩,_⟩
 ·rw [h];decide
 ·rw [List.any_eq_true.2 ⟨x,List.mem_of_getElem? hx,hp⟩,decide_eq_true_eq];omega
theorem aba (i:ey) (s:AS):aa Tryz.prog mI [.agg (bz i)] s fun v s'=>v=.bool (!i.may)∧Ext s s':=by
 refine aa.pre fun hw=>Cd _ _ _ ⟨rfl,aj.intro hw rfl fun l s1 F=>⟨_,F.own.at.aB (by simp [bz]),?_⟩⟩
 refine aa.use (adN i _) ?_
 rintro v s2 ⟨rfl,e⟩ _
 exact ⟨_,rfl,rfl,F.ext.trans e⟩
end
def aI.er (x:aI) (l:List ey):Bool×aI:=l.foldl (fun a i=>(a.1||(a.2.mg i).1,(a.2.mg i).2)) (false,x)
section
variable {F:List Nat} {s:AS} {p:Nat} {x:aI}
theorem iS.cG {l n:Nat} {f:aK→Option Key} (h:iS s l f n):aP T bY (.map (some l)) s=some (.int .i64 (n:Nat)):=by
 obtain ⟨es,c,h1,_,h3⟩:=h
 rw [h1.cG vD,h3]
theorem mX.cG {l n:Nat} {f:aK→Bool} (h:mX s l f n):aP T bL (.map (some l)) s=some (.int .i64 (n:Nat)):=by
 obtain ⟨es,c,h1,_,h3⟩:=h
 rw [h1.cG PS,h3]
theorem adQ (h:gJ F s p x) {a:AV} {l:List ey} (hl:Sl bz 5 s a l) (hall:∀ i∈l,i.may=true) (Oa:x.ex.length+l.length≤4096) (hr2:x.nl+l.length≤1024) (hr3:x.nl+x.nt+l.length≤4096) :
  aa Tryz.prog pS [.ptr (some (p,0)),a] s fun r s'=>r=.aQ [.bool (x.er l).1,.int .i64 0]∧∃ F',gJ F' s' p (x.er l).2∧(∀ y∈F',y=p∨s.h y=none)∧(∀ y∈F',s'.h y≠none)∧bD [p] s s':=by
 refine FV _ _ _ _ ?_
 refine aa.use (pB h) ?_
 rintro v s2 ⟨rfl,rfl⟩ w2
 refine ⟨_,rfl,af.no rfl ?_⟩
 refine aa.use (Gi (P:=fun i=>!i.may) hl (by omega) fun i s' _ _=>aba i s') ?_
 rintro v s5 ⟨rfl,e5⟩ w5
 have:l.any (fun i=>!i.may)=false:=by
  rw [List.any_eq_false]
  intro i hi
  simp [hall i hi]
 rw [this]
 refine ⟨_,rfl,af.no rfl ?_⟩
 refine aa.use (aa8 (h.ext e5)) ?_
 rintro v s8 ⟨po,F0,rfl,hS,hn0,ht0,e8⟩ w8
 have E8:=e5.trans e8
 have hp:∃ cs,Am.Own s2 p cs∧cs.length=3:=by
  obtain ⟨_,_,_,pc,lm,tm,a,_⟩:=h
  exact ⟨_,a,rfl⟩
 obtain ⟨cs,hp,hcs⟩:=hp
 have hstep:∀ (i:Nat) y,l[i]? = some y→x.er (l.take (i+1))=((x.er (l.take i)).1||((x.er (l.take i)).2.mg y).1,((x.er (l.take i)).2.mg y).2):=by
  intro i y hy
  unfold aI.er
  rw [List.take_add_one,hy,Option.toList_some,List.foldl_append]
  rfl
 refine ⟨_,rfl,fun vs s'=>vs=[.bool (x.er l).1]∧aM s'∧Ext s2 s'∧∃ F',gJ F' s' po (x.er l).2∧(∀ y∈F',s2.h y=none)∧(∀ y∈F',s'.h y≠none)∧(x.er l).2.nl≤1024∧(x.er l).2.nl+(x.er l).2.nt≤4096,?_,?_⟩
 ·rintro b dg ⟨hb,GV,Dy,F',hS',hn',ht',GJ,OC⟩
  simp only [List.cons.injEq,AV.bool.injEq,and_true] at hb
  subst hb
  obtain ⟨ok,Ie,hlen,pc,lm,tm,a',hpF,hc,Xb,Zu,hlt,hlv,htb⟩:=hS'
  refine ⟨fun vs s'=>vs=[.bool false]∧s'=dg,?_,_,by rw [a'.at.av];rfl,_,hlv.cG,af.no (by rw [decide_eq_false_iff_not];omega) ⟨_,by rw [a'.at.av];rfl,_,hlv.cG,_,by rw [a'.at.av];rfl,_,htb.cG,?_,rfl⟩⟩
  ·rintro b f_ ⟨hb,rfl⟩
   simp only [List.cons.injEq,AV.bool.injEq,and_true] at hb
   subst hb
   have ho:=hp.ext Dy
   refine af.no rfl ⟨_,a'.at.aB (by simp),⟨by simp,rfl⟩,bu.own GV ho (by simp [hcs]) fun gn P=>⟨rfl,p::F',⟨ok,Ie,hlen,pc,lm,tm,?_,by simp,?_,by simp [Xb],by simp [Zu],hlt,hlv.mut P.mut ?_,htb.mut P.mut ?_⟩,fun y hy=>?_,fun y hy=>?_,Dy.mut.trans P.mut⟩⟩
   ·have:=P.at
    rw [dD (by simp [hcs])] at this
    exact this
   ·refine (hc.mut P.mut fun y hy hm=>?_).sub fun y hy=>by simp [hy]
    obtain rfl:=List.mem_singleton.1 hy
    have:=hn' _ hm
    rw [hp] at this;cases this
   ·intro hm
    obtain rfl:=List.mem_singleton.1 hm
    have:=hn' _ Xb
    rw [hp] at this;cases this
   ·intro hm
    obtain rfl:=List.mem_singleton.1 hm
    have:=hn' _ Zu
    rw [hp] at this;cases this
   ·rcases List.mem_cons.1 hy with rfl | hy
    ·exact .inl rfl
    ·exact .inr (hn' y hy)
   ·by_cases e:y=p
    ·rw [e,P.at];simp
    ·rw [P.eq y e]
     rcases List.mem_cons.1 hy with rfl | hy
     ·exact absurd rfl e
     ·exact ht' y hy
  ·rw [aV (by omega),show decide (((x.er l).2.nl:Int)+((x.er l).2.nt:Int)>4096)=false from by rw [decide_eq_false_iff_not];omega]
 ·refine ⟨_,hl.cG cV _,fun m vs s'=>∃ i:Nat,vs=[.bool (x.er (l.take i)).1,.int .i64 (i:Nat)]∧i≤l.length∧m=l.length - i∧aM s'∧Ext s2 s'∧(∃ F',gJ F' s' po (x.er (l.take i)).2∧(∀ y∈F',s2.h y=none)∧(∀ y∈F',s'.h y≠none))∧(x.er (l.take i)).2.ex.length≤x.ex.length+i∧(x.er (l.take i)).2.nl≤x.nl+i∧(x.er (l.take i)).2.nl+(x.er (l.take i)).2.nt≤x.nl+x.nt+i,l.length,⟨0,rfl,by omega,rfl,w8,E8,⟨F0,hS,fun y hy=>e5.none (hn0 y hy),ht0⟩,by simp [aI.er],by simp [aI.er],by simp [aI.er]⟩,?_⟩
  rintro m b n GP ⟨i,hi,h6,rfl,w40,e40,⟨F',hS',hn',ht'⟩,r1,r2,r3⟩
  simp only [List.cons.injEq,AV.int.injEq,AV.bool.injEq,true_and,and_true] at hi
  obtain ⟨rfl,rfl⟩:=hi
  refine af.dec (fun hlt=>?_) (fun hge=>?_)
  ·obtain ⟨y,hy⟩:=cW (l:=l) (i:=i) (by omega)
   obtain ⟨la,o,h8,h9⟩:=hl.ix (by decide) bf cV pW hy
   have hmay:y.dot.may=true:=by
    have:=hall y (List.mem_of_getElem? hy)
    simp only [ey.may,Bool.and_eq_true] at this
    exact this.1
   refine ⟨la,o,h8 _,_,(h9 _ e40).2,lN w40 rfl rfl rfl fun NP qQ F46=>?_⟩
   refine ⟨_,F46.own.at.aB (by simp [bz]),?_⟩
   have aiH:∀ z∈F',qQ.h z≠none:=fun z hz hq=>ht' z hz (F46.ext.none hq)
   have UX:=aa9 (x.er (l.take i)).2 y hS'.ok hmay (by omega)
   refine aa.use (adO (hS'.ext F46.ext) aiH y hmay (by omega)) ?_
   rintro v z6 ⟨rfl,F2,hS2,hn2,ht2,m2⟩ w49
   have TJ:=hstep i y hy
   have E49:Ext s2 z6:=Ext.wrL (e40.trans F46.ext) hn' m2
   refine ⟨_,_,rfl,af.no (by decide) ?_⟩
   have afO:∀ z∈F2,s2.h z=none:=fun z hz=>by
    rcases hn2 z hz with h | h
    ·exact hn' z h
    ·exact (e40.trans F46.ext).none h
   have rest:gJ F2 z6 po (x.er (l.take (i+1))).2∧(x.er (l.take (i+1))).2.ex.length≤x.ex.length+(i+1)∧(x.er (l.take (i+1))).2.nl≤x.nl+(i+1)∧(x.er (l.take (i+1))).2.nl+(x.er (l.take (i+1))).2.nt≤x.nl+x.nt+(i+1):=by
    rw [TJ]
    exact ⟨hS2,by simp only;omega,by simp only;omega,by simp only;omega⟩
   refine af.mk (fun hb=>?_) (fun hb=>?_)
   ·exact ⟨l.length - (i+1),by omega,i+1,by rw [aV (by omega),TJ,hb];rfl,by omega,rfl,w49,E49,⟨F2,rest.1,afO,ht2⟩,rest.2⟩
   ·exact ⟨l.length - (i+1),by omega,i+1,by rw [aV (by omega),TJ,hb];rfl,by omega,rfl,w49,E49,⟨F2,rest.1,afO,ht2⟩,rest.2⟩
  ·obtain rfl:i=l.length:=by omega
   rw [List.take_length] at *
   exact ⟨rfl,w40,e40,F',hS',hn',ht',by omega,by omega⟩
end
/-! ### the live dots that something holds of -/
def aI.held (x:aI) (P:aK→Key→Bool) (d:aK):Bool:=match x.live d with
 | some k=>P d k
 | none=>false
section
variable {F:List Nat} {s:AS} {p:Nat} {x:aI} {g:FuncId} {cap:List AV} {P:aK→Key→Bool}
theorem Ns (h:gJ F s p x) (hn:x.nl<65536) (hf:∀ d k s',Ext s s'→aM s'→aa Tryz.prog g ([.agg (aN d),.agg (fY k)]++cap) s' fun v s''=>v=.bool (P d k)∧Ext s' s'') :
  aa Tryz.prog gD [.ptr (some (p,0)),.func g cap] s fun v s'=>∃ l,aT aN 2 [] s s' v l∧dR l∧(∀ d,d∈l↔x.held P d=true)∧l.length≤x.nl:=by
 refine aa.pre fun hw=>DV _ _ _ _ ?_
 obtain ⟨_,_,_,pc,lm,tm,a,_,_,_,_,_,hlv,_⟩:=id h
 obtain ⟨es,c,hm,hg,hl⟩:=id hlv
 refine ⟨_,by rw [a.at.av];rfl,PU (by omega) hm fun v6 s7 l h1 h2 h3 h4 w7=>?_⟩
 have E7:Ext s s7:=h4.1
 have hd:=h4.ahG
 refine ⟨_,hd.cG bG _,fun m vs s'=>∃ (i:Nat) (v:AV),vs=[v,.int .i64 (i:Nat)]∧i≤l.length∧m=l.length - i∧aM s'∧aT aN 2 [] s7 s' v ((l.take i).filter (x.held P)),l.length,⟨0,_,rfl,by omega,rfl,w7,by simpa using aT.nil⟩,?_⟩
 rintro m i_ n jT ⟨i,v',hi,h6,rfl,Ze,lY⟩
 simp only [List.cons.injEq,AV.int.injEq,true_and,and_true] at hi
 obtain ⟨rfl,rfl⟩:=hi
 refine af.dec (fun hlt=>?_) (fun hge=>?_)
 ·obtain ⟨d,hx⟩:=cW (l:=l) (i:=i) (by omega)
  obtain ⟨la,o,h8,h9⟩:=hd.ix (by decide) bn bG jZ hx
  have ht:(l.take (i+1)).filter (x.held P)=(l.take i).filter (x.held P)++if x.held P d=true then [d] else []:=by
   rw [List.take_add_one,hx,List.filter_append,Option.toList_some]
   congr 1
   cases hq:x.held P d <;> simp [List.filter_cons,hq]
  refine ⟨la,o,h8 _,_,(h9 _ lY.eG.ext).2,lN Ze rfl rfl rfl fun GO fN NU=>?_⟩
  have E20:=E7.trans (lY.eG.ext.trans NU.ext)
  have a20:=a.ext E20
  obtain ⟨e,he,hed⟩:=(h2 d).1 (List.mem_of_getElem? hx)
  have hlk:x.live d=some e.2.1:=by rw [← hg,← hed];exact HL hm.nd he
  have mA:dI T bY (.map (some lm)) (.agg (aN d)) false fN=some (.agg (fY e.2.1)):=by
   have:=(hm.ext E20).find vD d false
   rw [hg,hlk] at this
   exact this
  refine ⟨_,NU.own.at.aB (by simp [aN]),_,by rw [a20.at.av];rfl,_,NU.own.at.aB (by simp [aN]),_,mA,?_⟩
  refine aa.use (hf d e.2.1 fN E20 NU.wf) ?_
  rintro v rA ⟨rfl,Xc⟩ w28
  have ab9:x.held P d=P d e.2.1:=by simp [aI.held,hlk]
  have Zk:=lY.step (NU.ext.trans Xc)
  have hfl:=List.length_filter_le (x.held P) (l.take i)
  have Zx:=List.length_take_le i l
  refine ⟨_,rfl,af.mk (fun hb=>?_) (fun hb=>?_)⟩
  ·refine ⟨_,(NU.own.ext Xc).at.aB (by simp [aN]),aT.iX iE bn mT w28 Zk (by simp) d (by omega) fun v' s' g' w' _=>?_⟩
   exact ⟨l.length - (i+1),by omega,i+1,v',by rw [aV (by omega)];rfl,by omega,rfl,w',by rw [ht,ab9,if_pos hb];exact g'⟩
  ·exact ⟨l.length - (i+1),by omega,i+1,i_,by rw [aV (by omega)];rfl,by omega,rfl,w28,by rw [ht,ab9,if_neg (by rw [hb];simp),List.append_nil];exact Zk⟩
 ·rw [List.take_of_length_le (by omega)] at lY
  refine ⟨l.filter (x.held P),⟨lY.wq,E7.mut.trans lY.eG,fun la hla=>E7.none (lY.new la hla)⟩,h1.filter _,fun d=>?_,?_⟩
  ·rw [List.mem_filter,h2]
   constructor
   ·exact fun h=>h.2
   ·intro hd
    refine ⟨?_,hd⟩
    unfold aI.held at hd
    cases hq:x.live d with
    | none=>rw [hq] at hd;cases hd
    | some k =>
     rw [← hg] at hq
     obtain ⟨j,n,hj⟩:=C9 hq
     exact ⟨_,List.mem_of_getElem? hj,rfl⟩
  ·have:=List.length_filter_le (x.held P) l
   omega
end
/-! ### items that are gone -/
def eV (d:aK):ey:=⟨d,⟨[],[]⟩,true⟩
theorem IB (d:aK):aU T ru [(0,.agg (aN d)),(2,.bool true)]=some (.agg (bz (eV d))):=by kernel_rfl
theorem abb {s:AS} {a:AV} {l:List aK} (hl:JQ s a l) (hn:l.length≤2 ^ 29) :
  aa Tryz.prog fU [a] s fun v s'=>aT bz 5 [] s s' v (l.map eV):=by
 refine aa.pre fun hw=>Nd _ _ _ ⟨_,hl.cG bG _,fun m vs s'=>∃ (i:Nat) (v:AV),vs=[v,.int .i64 (i:Nat)]∧i≤l.length∧m=l.length - i∧aM s'∧aT bz 5 [] s s' v ((l.take i).map eV),l.length,⟨0,_,rfl,by omega,rfl,hw,by simpa using aT.nil⟩,?_⟩
 rintro m v5 n s7 ⟨i,v',hi,h6,rfl,w7,g7⟩
 simp only [List.cons.injEq,AV.int.injEq,true_and,and_true] at hi
 obtain ⟨rfl,rfl⟩:=hi
 refine af.dec (fun hlt=>?_) (fun hge=>?_)
 ·obtain ⟨d,hx⟩:=cW (l:=l) (i:=i) (by omega)
  obtain ⟨la,o,h8,h9⟩:=hl.ix (by decide) bn bG jZ hx
  have ht:(l.take (i+1)).map eV=(l.take i).map eV++[eV d]:=by
   rw [List.take_add_one,hx,List.map_append];rfl
  refine ⟨la,o,h8 _,_,(h9 _ g7.eG.ext).2,lN w7 rfl rfl rfl fun Dg bS Ko=>?_⟩
  refine ⟨_,Ko.own.at.aB (by simp [aN]),_,IB d,aT.iX fR bf jU Ko.wf (g7.step Ko.ext) (by simp) (eV d) (by simp;omega) fun v' s' g' w' _=>?_⟩
  exact ⟨l.length - (i+1),by omega,i+1,v',by rw [aV (by omega)];rfl,by omega,rfl,w',by rw [ht];exact g'⟩
 ·rw [List.take_of_length_le (by omega)] at g7
  exact g7
end Go.Proofs.YtohgmogbabkkeaaGreat
end

section
namespace Go.Proofs.YtohgmogbabkkeaaGreat
open Go.Am Go.au Go.aC
def aI.zero:aI:=⟨eR,[],fun _=>none,fun _=>false,0,0⟩
theorem VR (s:AS):aa Tryz.prog Db [] s fun r s'=>∃ p,r=.ptr (some (p,0))∧s.h p=none∧vu s s' p eR []∧Ext s s':=by
 refine aa.pre fun hw=>Vj _ _ ?_
 have hb:aU T nZ [(2,.bool true)]=some (.agg (eR.map (.int .u64)++[.slc none 0 0 true,.bool true])):=by kernel_rfl
 exact ⟨_,hb,rfl,aj.intro hw rfl fun p s1 F=>⟨p,rfl,F.no,⟨rfl,_,F.own,rfl,bt.nil,by simp [ay]⟩,F.ext⟩⟩
theorem adR (s:AS):aa Tryz.prog xG [] s fun r s'=>∃ p F,r=.ptr (some (p,0))∧gJ F s' p aI.zero∧(∀ y∈F,s.h y=none)∧(∀ y∈F,s'.h y≠none)∧Ext s s':=by
 refine aa.pre fun hw=>PK _ _ ?_
 refine aa.use (VR s) ?_
 rintro v s2 ⟨pc,rfl,hpc,hG,e2⟩ w2
 refine ⟨_,rfl,aj.intro w2 rfl fun lm s5 F5=>aj.intro F5.wf rfl fun tm s7 F7=>⟨_,Lf _ _ _,rfl,aj.intro F7.wf rfl fun p jD SP=>?_⟩⟩
 obtain ⟨Fc,hcF,hFn,hFt⟩:=hG.toF hpc
 have MB:=F5.ext.trans (F7.ext.trans SP.ext)
 have e57:=F7.ext.trans SP.ext
 have Xr:jD.h lm=some (.map [] 0 false):=e57.1 _ _ F5.at
 have htm:jD.h tm=some (.map [] 0 false):=SP.ext.1 _ _ F7.at
 have hne:lm≠tm:=by
  rintro rfl
  have:=F7.no
  rw [F5.at] at this;cases this
 refine ⟨p,p::lm::tm::Fc,rfl,⟨O9.zero,(fun y hy=>by cases hy),by simp [aI.zero],pc,lm,tm,SP.own,by simp,(hcF.mut (L:=[]) MB.mut (by simp)).sub (fun y hy=>by simp [hy]),by simp,by simp,hne,⟨[],0,eJ.new Xr,fun d=>rfl,rfl⟩,⟨[],0,eJ.new htm,fun d=>rfl,rfl⟩⟩,?_,?_,e2.trans MB⟩
 ·intro y hy
  simp only [List.mem_cons] at hy
  rcases hy with rfl | rfl | rfl | hy
  ·exact e2.none (F5.ext.none (F7.ext.none SP.no))
  ·exact e2.none F5.no
  ·exact e2.none (F5.ext.none F7.no)
  ·exact hFn y hy
 ·intro y hy
  simp only [List.mem_cons] at hy
  rcases hy with rfl | rfl | rfl | hy
  ·rw [SP.at];simp
  ·rw [Xr];simp
  ·rw [htm];simp
  ·cases hq:s2.h y with
   | none=>exact absurd hq (hFt y hy)
   | some ob=>rw [MB.1 y ob hq];simp
theorem IC {s s':AS} {p:Nat} {cs:List AV} {v:AV} {l:List ey} (hp:s.h p=some (.cells cs 0 false)) (hcs:∀ c∈cs,∀ n,c≠.int .i64 n) (hs:Sl bz 5 s v l) (m:bD [p] s s'):Sl bz 5 s' v l:=by
 refine Sl.mut hs m bf (by decide) fun q hq C hC x hx i c hc he=>?_
 obtain rfl:=List.mem_singleton.1 hq
 obtain ⟨g,ro,hC⟩:=hC
 rw [hp] at hC
 simp only [Option.some.injEq,AO.cells.injEq] at hC
 obtain ⟨rfl,_⟩:=hC
 simp only [bz,List.getElem?_cons_zero,Option.some.injEq] at hc
 exact hcs c (List.mem_of_getElem? he) _ hc.symm
section
variable {F:List Nat} {s s':AS} {p:Nat} {x:aI} {k:Key}
theorem gJ.Zy {v:AV} {l:List ey} (h:gJ F s p x) (hs:Sl bz 5 s v l) (m:bD [p] s s'):Sl bz 5 s' v l:=by
 obtain ⟨_,_,_,pc,lm,tm,a,_⟩:=h
 refine IC a (fun c hc n=>?_) hs m
 simp only [List.mem_cons,List.not_mem_nil,or_false] at hc
 rcases hc with rfl | rfl | rfl <;> simp
theorem ID (d:aK):x.held (fun _ y=>decide (y=k)) d=true↔x.live d=some k:=by
 unfold aI.held
 cases x.live d with
 | none=>simp
 | some y=>simp
theorem abc {lc:Nat} (d:aK) (y:Key) (hc:At s lc (fY k)):aa Tryz.prog mH ([.agg (aN d),.agg (fY y)]++[.ptr (some (lc,0))]) s fun v s'=>v=.bool (decide (y=k))∧Ext s s':=by
 refine aa.pre fun hw=>Ca _ _ _ _ _ ⟨rfl,aj.intro hw rfl fun l1 s2 F2=>⟨rfl,aj.intro F2.wf rfl fun l3 s4 F4=>?_⟩⟩
 have e4:=F2.ext.trans F4.ext
 exact ⟨_,F4.own.at.aB (by simp [fY]),_,(hc.ext e4).aB (by simp [fY]),_,Nl _ _,rfl,e4⟩
theorem abd {lc:Nat} (d:aK) (y:Key) (hc:At s lc (fY k)):aa Tryz.prog mE ([.agg (aN d),.agg (fY y)]++[.ptr (some (lc,0))]) s fun v s'=>v=.bool (decide (y=k))∧Ext s s':=by
 refine aa.pre fun hw=>Cg _ _ _ _ _ ⟨rfl,aj.intro hw rfl fun l1 s2 F2=>⟨rfl,aj.intro F2.wf rfl fun l3 s4 F4=>?_⟩⟩
 have e4:=F2.ext.trans F4.ext
 exact ⟨_,F4.own.at.aB (by simp [fY]),_,(hc.ext e4).aB (by simp [fY]),_,Nl _ _,rfl,e4⟩
theorem adS (h:gJ F s p x) (hn:x.nl<65536) (k:Key):aa Tryz.prog pP [.ptr (some (p,0)),.agg (fY k)] s fun r s'=>(∃ b,r=.bool b∧(b=true↔∃ d,x.live d=some k))∧Ext s s':=by
 refine aa.pre fun hw=>FZ _ _ _ _ ⟨rfl,aj.intro hw rfl fun l1 s2 F2=>?_⟩
 refine aa.use (pB (h.ext F2.ext)) ?_
 rintro v s4 ⟨rfl,rfl⟩ w4
 refine ⟨_,rfl,af.yes rfl ?_⟩
 refine aa.use (Ns (P:=fun _ y=>decide (y=k)) (h.ext F2.ext) hn fun d y s' e _=>abd d y (F2.own.at.ext e)) ?_
 rintro v s7 ⟨l,g,_,hm,_⟩ w7
 refine ⟨_,(g.sl bn).cG bG _,⟨_,rfl,?_⟩,F2.ext.trans g.eG.ext⟩
 rw [decide_eq_true_eq]
 constructor
 ·intro hl
  obtain ⟨d,hd⟩:=List.exists_mem_of_length_pos (l:=l) (by omega)
  exact ⟨d,(ID d).1 ((hm d).1 hd)⟩
 ·rintro ⟨d,hd⟩
  have:=List.length_pos_of_mem ((hm d).2 ((ID d).2 hd))
  omega
theorem adT (h:gJ F s p x):aa Tryz.prog iu [.ptr (some (p,0))] s fun r s'=>∃ q,r=.ptr (some (q,0))∧s.h q=none∧vu s s' q x.v x.ex∧Ext s s':=by
 refine Gb _ _ _ ?_
 refine aa.use (pB h) ?_
 rintro v s2 ⟨rfl,rfl⟩ w2
 have Xs:=h.len
 obtain ⟨ok,Ie,hlen,pc,lm,tm,a,hpF,hc,_⟩:=h
 refine ⟨_,rfl,af.no rfl ⟨_,by rw [a.at.av];rfl,?_⟩⟩
 refine aa.use (Ic hc.at (by omega)) ?_
 rintro v s8 ⟨q,rfl,hq,g,e⟩ _
 exact ⟨_,rfl,q,rfl,hq,g,e⟩
structure qG (x:aI) (k:Key) (l:List aK):Prop where
 Xf:dR l
 mem:∀ d,d∈l↔x.live d=some k
 len:l.length≤x.nl
theorem yP {d:aK} (h:d.may=true):(eV d).may=true:=by simp [ey.may,eV,h]
theorem IE {s:AS} (hw:aM s) {l0:Nat} {i:ey} (h0:At s l0 (bz i)) {v:AV} {l:List ey} (hl:Sl bz 5 s v l) (hb:l.length≤2 ^ 29) {K:AV→AS→Prop} (hK:∀ v' s',Sl bz 5 s' v' (i::l)→aM s'→Ext s s'→K v' s'):iG (aJ T aH aH (.slc (some (l0,0)) 1 1 true) v s) K:=by
 obtain ⟨hsrc,hlen⟩:=bZ.src fR hl
 have e:=jN fR (base:=some (l0,0)) (len:=1) (cap:=1) (ex:=true) cV hlen hsrc (by rw [dS bf]) (by omega)
 have h1:Sl bz 5 s (.slc (some (l0,0)) 1 1 true) [i]:=bZ.mk h0 (by simp [bz]) (by simp [bz])
 by_cases hz:l=[]
 ·subst hz
  rw [if_pos (by simp)] at e
  simp only [List.flatMap_nil,if_true,List.length_nil,Nat.add_zero] at e
  exact ⟨_,_,e,hK _ _ h1 hw (Ext.refl _)⟩
 ·have hpos:0<l.length:=List.length_pos_iff.2 hz
  rw [if_neg (by omega)] at e
  have TJ:=(bZ.src fR h1).1
  simp only [List.length_cons,List.length_nil,Nat.zero_add] at TJ
  rw [TJ] at e
  simp only [Option.bind_some,if_true] at e
  rw [show 1+l.length=(i::l).length by simp;omega] at e
  have Fr:=hw.new (o:=.cells ([i].flatMap bz++l.flatMap bz) 5 false) rfl
  refine ⟨_,_,e,hK _ _ ?_ Fr.wf Fr.ext⟩
  refine bZ.mk ⟨_,_,Fr.at⟩ ?_ ?_ ?_
  ·exact dS bf _
  ·rw [List.drop_zero,List.take_of_length_le]
   ·simp
   ·simp [dS bf,bz];omega
  ·exact Nat.le_refl _
theorem IF (d:aK) (k:Key):aU T ru [(0,.agg (aN d)),(1,.agg (fY k))]=some (.agg (bz ⟨d,k,false⟩)):=by kernel_rfl
theorem adU (h:gJ F s p x) (k:Key) (d:aK) (hmay:∀ d,(x.live d).isSome=true→d.may=true) (Oa:x.ex.length+x.nl<4096) (hr2:x.nl+x.nl<1024) (hr3:x.nl+x.nt+x.nl<4096) :
  aa Tryz.prog cX [.ptr (some (p,0)),.agg (fY k),.agg (aN d)] s fun r s'=>(¬ (k.may=true∧d.may=true∧ff x.v x.ex d=false)∧r=.aQ [.slc none 0 0 true,.int .i64 2]∧Ext s s') ∨
   ((k.may=true∧d.may=true∧ff x.v x.ex d=false)∧∃ v l,qG x k l∧r=.aQ [v,.int .i64 0]∧Sl bz 5 s' v (⟨d,k,false⟩::l.map eV)∧∃ F',gJ F' s' p (x.er (⟨d,k,false⟩::l.map eV)).2∧(∀ y∈F',y=p∨s.h y=none)∧(∀ y∈F',s'.h y≠none)∧bD [p] s s'):=by
 refine aa.pre fun hw=>FR _ _ _ _ _ ⟨rfl,aj.intro hw rfl fun l1 s2 F2=>⟨rfl,aj.intro F2.wf rfl fun l3 s4 F4=>?_⟩⟩
 have E4:=F2.ext.trans F4.ext
 have h4:=h.ext E4
 have k4:At s4 l1 (fY k):=(F2.own.ext F4.ext).at
 have d4:At s4 l3 (aN d):=F4.own.at
 refine aa.use (pB h4) ?_
 rintro v s6 ⟨rfl,rfl⟩ w6
 refine ⟨_,rfl,af.no rfl ⟨fun vs s'=>vs=[.bool !(k.may&&d.may&&!ff x.v x.ex d)]∧Ext s6 s'∧aM s',?_,?_⟩⟩
 ·rintro b jD ⟨hb,MB,YK⟩
  simp only [List.cons.injEq,AV.bool.injEq,and_true] at hb
  subst hb
  have E10:=E4.trans MB
  refine af.mk (fun hb=>.inl ⟨?_,rfl,E10⟩) (fun hb=>?_)
  ·rintro ⟨a,b,c⟩
   rw [a,b,c] at hb;cases hb
  have hok:k.may=true∧d.may=true∧ff x.v x.ex d=false:=by
   simpa [Bool.and_eq_true,and_assoc] using hb
  have h10:=h.ext E10
  refine aa.use (Ns (P:=fun _ y=>decide (y=k)) h10 (by omega) fun d y s' e _=>abc d y ((k4.ext MB).ext e)) ?_
  rintro v11 dg ⟨l,g,hris,hm,Rf⟩ GV
  have kd:qG x k l:=⟨hris,fun d=>by rw [hm,ID],Rf⟩
  have Dy:=MB.trans g.eG.ext
  have aiI:=g.sl bn
  refine ⟨fun q _ v s'=>(q=3→∃ l,v=.slc (some (l,0)) 1 1 true∧At s' l (bz ⟨d,k,false⟩))∧(q=5→Sl bz 5 s' v (l.map eV)),fun q _ v=>q=3→∃ l,v=.slc (some (l,0)) 1 1 true,?_,_,(d4.ext Dy).aB (by simp [aN]),_,(k4.ext Dy).aB (by simp [fY]),_,IF d k,fun kr e16 w16 _=>?_,⟨.slc (some (0,0)) 1 1 true,fun _=>⟨0,rfl⟩⟩,fun v20 afE=>⟨fun gn e21 w21 _=>?_,⟨.undef,(fun h=>by cases h)⟩,fun wU _ dM T6 H8 hS=>?_⟩⟩
  ·rintro q ks v s s' e ⟨h1,h2⟩
   refine ⟨fun hq=>?_,fun hq=>(h2 hq).ext e⟩
   obtain ⟨l,a,b⟩:=h1 hq
   exact ⟨l,a,b.ext e⟩
  ·exact ⟨_,kD fR (bf _) (jU _),aj.intro w16 rfl fun GO iD F19=>⟨F19.ext,⟨(fun _=>⟨GO,rfl,F19.own.at⟩),(fun h=>by cases h)⟩,fun _=>⟨GO,rfl⟩⟩⟩
  ·refine (abb (aiI.ext e21) (by omega)).mono ?_
   rintro qm rO ng
   exact ⟨ng.eG.ext,⟨(fun h=>by cases h),fun _=>ng.sl bf⟩,(fun h=>by cases h)⟩
  ·obtain ⟨GO,rfl,hi⟩:=hS.1.1 rfl
   have hg:=hS.2.1.2 rfl
   refine IE H8 hi hg (by simp;omega) fun K4 rA afP w28 Xc=>?_
   have E28:=E10.trans (g.eG.ext.trans (T6.trans Xc))
   have h28:=h.ext E28
   refine aa.use (adQ h28 afP (fun i hi=>?_) (by simp;omega) (by simp;omega) (by simp;omega)) ?_
   ·rcases List.mem_cons.1 hi with rfl | hi
    ·simp [ey.may,hok]
    ·obtain ⟨d,hd,rfl⟩:=List.mem_map.1 hi
     exact yP (hmay d (by rw [(kd.mem d).1 hd];rfl))
   rintro v kL ⟨rfl,F',hS',hn',ht',WW⟩ NT
   refine ⟨_,_,rfl,af.no (by decide) (.inr ⟨hok,K4,l,kd,rfl,h28.Zy afP WW,F',hS',fun y hy=>?_,ht',E28.mut.trans WW⟩)⟩
   rcases hn' y hy with h | h
   ·exact .inl h
   ·exact .inr (E28.none h)
 ·refine ⟨_,k4.aB (by simp [fY]),?_⟩
  refine aa.use (Le k _) ?_
  rintro v VN ⟨rfl,e35⟩ w35
  refine ⟨_,rfl,af.mk (fun hb=>⟨by simp only [Bool.not_eq_true'] at hb;rw [hb];rfl,e35,w35⟩) (fun hb=>⟨_,(d4.ext e35).aB (by simp [aN]),?_⟩)⟩
  simp only [Bool.not_eq_false'] at hb
  refine aa.use (rE d _) ?_
  rintro v yM ⟨rfl,e39⟩ w39
  have abe:=e35.trans e39
  refine ⟨_,rfl,af.mk (fun Em=>⟨by simp only [Bool.not_eq_true'] at Em;rw [hb,Em];rfl,abe,w39⟩) (fun Em=>?_)⟩
  simp only [Bool.not_eq_false'] at Em
  obtain ⟨ok,Ie,hlen,pc,lm,tm,a,_,hc,_⟩:=h4.ext abe
  refine ⟨_,by rw [a.at.av];rfl,_,(d4.ext abe).aB (by simp [aN]),?_⟩
  refine aa.use (Ae hc.at ok.r (by omega) d) ?_
  rintro v qQ ⟨rfl,e46⟩ w46
  exact ⟨_,rfl,by rw [hb,Em];simp,abe.trans e46,w46⟩
end
end Go.Proofs.YtohgmogbabkkeaaGreat
end

section
namespace Go.Proofs.YtohgmogbabkkeaaGreat
open Go.Am Go.au Go.aC
section
variable {m:Nat} {es:List (aK×Key×Nat)} {c:Nat} {ro:Bool} {s:AS}
end
section
variable {F:List Nat} {s s':AS} {p:Nat} {x:aI}
end
end Go.Proofs.YtohgmogbabkkeaaGreat
end

section
namespace Go.Proofs.YtohgmogbabkkeaaGreat
open Go.Am Go.au Go.aC
def aI.has (x:aI) (d:aK):Bool:=ff x.v x.ex d
theorem aI.vE {x:aI} {d:aK} (h:x.has d=true):d.may=true:=by
 simp only [aI.has,ff,Bool.and_eq_true] at h;exact h.1
def aI.keeps (x:aI) (d:aK):Prop:=d∈x.ex∨(x.live d).isSome=true∨x.rK d=true
structure oB (x:aI) (B:Nat):Prop where
 ok:O9 x.v x.ex
 Ie:Zd x.v x.ex
 lv:∀ d k,x.live d=some k→x.has d=true∧k.may=true
 tb:∀ d,x.rK d=true→x.has d=true∧x.live d=none
 sz:∃ U:List aK,U.length≤B∧∀ d,x.keeps d→d∈U
theorem oB.zero:oB aI.zero 0:=⟨O9.zero,(fun y hy=>by cases hy),(fun d k h=>by cases h),(fun d h=>by cases h),[],by simp,fun d h=>by
  rcases h with h | h | h
  ·cases h
  ·cases h
  ·cases h⟩
theorem oB.mono {x:aI} {B B':Nat} (h:oB x B) (hb:B≤B'):oB x B':=by
 obtain ⟨a,b,c,d,U,e,f⟩:=h;exact ⟨a,b,c,d,U,by omega,f⟩
section
variable {x:aI} {B:Nat} {i:ey}
theorem T7 {v:List Int} {ex:List aK} {d:aK} (h:ff v ex d=false):Ah v ex d=compact v (ins ex d):=by simp [Ah,h]
theorem Ch (h:oB x B) (hi:i.dot.may=true) (d:aK):(x.mg i).2.has d=(x.has d||decide (d=i.dot)):=by
 unfold aI.mg
 split
 ·rename_i hc
  simp only [Bool.and_eq_true] at hc
  obtain ⟨k,hk⟩:=Option.isSome_iff_exists.1 hc.1
  have:=(h.lv _ _ hk).1
  by_cases e:d=i.dot
  ·subst e;simp only [aI.has] at this ⊢;simp [this]
  ·simp [aI.has,e]
 ·split
  ·rename_i hh
   by_cases e:d=i.dot
   ·subst e;simp [aI.has,hh]
   ·simp [aI.has,e]
  ·rename_i hh
   have CM:ff x.v x.ex i.dot=false:=by simpa using hh
   have key:ff (compact x.v (ins x.ex i.dot)).1 (compact x.v (ins x.ex i.dot)).2 d=(ff x.v x.ex d||decide (d=i.dot)):=by
    have:=Pc h.ok hi d
    rw [T7 CM] at this
    cases hq:ff (compact x.v (ins x.ex i.dot)).1 (compact x.v (ins x.ex i.dot)).2 d with
    | true=>rcases this.1 hq with h | h <;> simp [h]
    | false =>
     cases Eo:(ff x.v x.ex d||decide (d=i.dot)) with
     | false=>rfl
     | true =>
      simp only [Bool.or_eq_true,decide_eq_true_eq] at Eo
      rw [this.2 Eo] at hq;cases hq
   split
   ·exact key
   ·exact key
theorem rL (h:oB x B) (d:aK):(x.mg i).2.live d=if d=i.dot then (if i.gone then none else if x.has d then x.live d else some i.key) else x.live d:=by
 unfold aI.mg
 split
 ·rename_i hc
  simp only [Bool.and_eq_true] at hc
  simp [hc.2]
 ·rename_i hc
  split
  ·rename_i hh
   by_cases e:d=i.dot
   ·subst e
    cases hg:i.gone with
    | true =>
     rw [hg,Bool.and_true] at hc
     simp only [if_true]
     simpa using hc
    | false=>simp [aI.has,hh]
   ·simp [e]
  ·rename_i hh
   have hnone:x.live i.dot=none:=by
    cases hq:x.live i.dot with
    | none=>rfl
    | some k=>exact absurd (h.lv _ _ hq).1 hh
   split
   ·rename_i hg
    by_cases e:d=i.dot
    ·subst e;simp [hg,hnone]
    ·simp [e]
   ·rename_i hg
    by_cases e:d=i.dot
    ·subst e;simp [hg,aI.has,hh]
    ·simp [e]
theorem Ci (h:oB x B) (d:aK):(x.mg i).2.rK d=(x.rK d||(decide (d=i.dot)&&i.gone&&((x.live d).isSome||!x.has d))):=by
 unfold aI.mg
 split
 ·rename_i hc
  simp only [Bool.and_eq_true] at hc
  by_cases e:d=i.dot
  ·subst e;simp [hc.1,hc.2]
  ·simp [e]
 ·rename_i hc
  split
  ·rename_i hh
   by_cases e:d=i.dot
   ·subst e
    have:((x.live i.dot).isSome||!x.has i.dot)=(x.live i.dot).isSome:=by simp [aI.has,hh]
    rw [this]
    cases hg:i.gone with
    | true=>rw [hg,Bool.and_true] at hc;simp [hc]
    | false=>simp
   ·simp [e]
  ·rename_i hh
   have CM:x.has i.dot=false:=by simpa [aI.has] using hh
   split
   ·rename_i hg
    by_cases e:d=i.dot
    ·subst e;simp [hg,CM]
    ·simp [e]
   ·rename_i hg
    simp [hg]
theorem abf (h:oB x B):(x.mg i).1=(((x.live i.dot).isSome&&i.gone)||!x.has i.dot):=by
 unfold aI.mg
 split
 ·rename_i hc;simp [hc]
 ·rename_i hc
  have rN:((x.live i.dot).isSome&&i.gone)=false:=by simpa using hc
  rw [rN]
  split
  ·rename_i hh;simp [aI.has,hh]
  ·rename_i hh
   split <;> simp [aI.has,hh]
theorem vF (h:oB x B) (hi:i.may=true):oB (x.mg i).2 (if x.has i.dot then B else B+1):=by
 have QI:i.dot.may=true:=by simp only [ey.may,Bool.and_eq_true] at hi;exact hi.1
 have hok:O9 (x.mg i).2.v (x.mg i).2.ex∧Zd (x.mg i).2.v (x.mg i).2.ex:=by
  unfold aI.mg
  split
  ·exact ⟨h.ok,h.Ie⟩
  ·split
   ·exact ⟨h.ok,h.Ie⟩
   ·rename_i hh
    have CM:ff x.v x.ex i.dot=false:=by simpa using hh
    have h1:=h.ok.add QI
    have h2:=Zd.add h.ok h.Ie QI
    rw [T7 CM] at h1 h2
    split <;> exact ⟨h1,h2⟩
 refine ⟨hok.1,hok.2,fun d k hd=>?_,fun d hd=>?_,?_⟩
 ·rw [rL h] at hd
  rw [Ch h QI]
  by_cases e:d=i.dot
  ·subst e
   rw [if_pos rfl] at hd
   refine ⟨by simp,?_⟩
   split at hd
   ·cases hd
   ·split at hd
    ·exact (h.lv _ _ hd).2
    ·rename_i hg _
     simp only [Option.some.injEq] at hd
     subst hd
     simp only [ey.may,Bool.and_eq_true] at hi
     have:=hi.2
     rw [if_neg hg] at this;exact this
  ·rw [if_neg e] at hd
   have:=h.lv _ _ hd
   exact ⟨by simp [this.1],this.2⟩
 ·rw [Ci h] at hd
  rw [Ch h QI,rL h]
  simp only [Bool.or_eq_true,Bool.and_eq_true,decide_eq_true_eq] at hd
  rcases hd with hd | ⟨⟨rfl,hg⟩,_⟩
  ·have:=h.tb _ hd
   refine ⟨by simp [this.1],?_⟩
   by_cases e:d=i.dot
   ·subst e;simp [this.1,this.2]
   ·rw [if_neg e];exact this.2
  ·refine ⟨by simp,by simp [hg]⟩
 ·obtain ⟨U,hU,hm⟩:=h.sz
  have hl:∀ d,((x.mg i).2.live d).isSome=true→(x.live d).isSome=true∨(d=i.dot∧x.has i.dot=false):=by
   intro d hd
   rw [rL h] at hd
   by_cases e:d=i.dot
   ·subst e
    rw [if_pos rfl] at hd
    split at hd
    ·cases hd
    ·split at hd
     ·exact .inl hd
     ·rename_i hn;exact .inr ⟨rfl,by simpa using hn⟩
   ·rw [if_neg e] at hd;exact .inl hd
  have ht:∀ d,(x.mg i).2.rK d=true→x.keeps d∨(d=i.dot∧x.has i.dot=false):=by
   intro d hd
   rw [Ci h] at hd
   simp only [Bool.or_eq_true,Bool.and_eq_true,decide_eq_true_eq] at hd
   rcases hd with hd | ⟨⟨rfl,hg⟩,hd | hd⟩
   ·exact .inl (.inr (.inr hd))
   ·exact .inl (.inr (.inl hd))
   ·exact .inr ⟨rfl,by simpa using hd⟩
  by_cases hh:x.has i.dot=true
  ·rw [if_pos hh]
   have hex:(x.mg i).2.ex=x.ex:=by
    unfold aI.mg
    split
    ·rfl
    ·rw [if_pos (show ff x.v x.ex i.dot=true from hh)]
   refine ⟨U,hU,fun d hd=>?_⟩
   rcases hd with hd | hd | hd
   ·rw [hex] at hd;exact hm _ (.inl hd)
   ·rcases hl d hd with hd | ⟨_,hd⟩
    ·exact hm _ (.inr (.inl hd))
    ·rw [hh] at hd;cases hd
   ·rcases ht d hd with hd | ⟨_,hd⟩
    ·exact hm _ hd
    ·rw [hh] at hd;cases hd
  ·rw [if_neg hh]
   have hex:∀ d∈(x.mg i).2.ex,d=i.dot∨d∈x.ex:=by
    intro d hd
    unfold aI.mg at hd
    split at hd
    ·exact .inr hd
    ·split at hd
     ·exact .inr hd
     ·have:d∈(compact x.v (ins x.ex i.dot)).2:=by split at hd <;> exact hd
      exact uX.1 ((r_ _ _).subset this)
   refine ⟨i.dot::U,by simp;omega,fun d hd=>?_⟩
   rcases hd with hd | hd | hd
   ·rcases hex d hd with rfl | hd
    ·simp
    ·simp [hm _ (.inl hd)]
   ·rcases hl d hd with hd | ⟨rfl,_⟩
    ·simp [hm _ (.inr (.inl hd))]
    ·simp
   ·rcases ht d hd with hd | ⟨rfl,_⟩
    ·simp [hm _ hd]
    ·simp
end
theorem PW (x:aI):x.er []=(false,x):=rfl
theorem IG:∀ (l:List ey) (b:Bool) (x:aI),l.foldl (fun a i=>(a.1||(a.2.mg i).1,(a.2.mg i).2)) (b,x)=(b||(x.er l).1,(x.er l).2)
 | [],b,x=>by simp [aI.er]
 | i::l,b,x=>by
  unfold aI.er
  simp only [List.foldl_cons]
  rw [IG l,IG l (false||_)]
  simp [Bool.or_assoc]
theorem qS (x:aI) (i:ey) (l:List ey):x.er (i::l)=((x.mg i).1||((x.mg i).2.er l).1,((x.mg i).2.er l).2):=by
 conv=>lhs;unfold aI.er
 rw [List.foldl_cons,IG]
 simp
theorem oB.er:∀ (l:List ey) {x:aI} {B:Nat},oB x B→(∀ i∈l,i.may=true)→oB (x.er l).2 (B+l.length)
 | [],x,B,h,_=>h
 | i::l,x,B,h,hl=>by
  rw [qS]
  have h1:=(vF h (hl i (by simp))).mono (B':=B+1) (by split <;> omega)
  have:=oB.er l h1 fun j hj=>hl j (by simp [hj])
  exact this.mono (by simp;omega)
theorem oB.PX:∀ (l:List ey) {x:aI} {B:Nat},oB x B→(∀ i∈l,i.may=true)→(∀ i∈l,x.has i.dot=true)→oB (x.er l).2 B
 | [],x,B,h,_,_=>h
 | i::l,x,B,h,hl,ho=>by
  rw [qS]
  have h1:=vF h (hl i (by simp))
  rw [if_pos (ho i (by simp))] at h1
  have QI:i.dot.may=true:=aI.vE (ho i (by simp))
  exact oB.PX l h1 (fun j hj=>hl j (by simp [hj])) fun j hj=>by rw [Ch h QI,ho j (by simp [hj])];rfl
/-! ### how great -/
theorem jV {l:List aK} (h:dR l):l.Nodup:=h.imp fun {a b} hab e=>by subst e;exact aK.lt_irrefl _ hab
theorem gJ.bnd {F:List Nat} {s:AS} {p:Nat} {x:aI} {B:Nat} (h:gJ F s p x) (o:oB x B):x.nl+x.nt≤B∧x.ex.length≤B:=by
 obtain ⟨ok,Ie,hlen,pc,lm,tm,a,hpF,hc,Xb,Zu,hlt,⟨es,c,h1,h2,h3⟩,⟨es',c',Er,Xd,h3'⟩⟩:=h
 obtain ⟨U,hU,hm⟩:=o.sz
 have n1:(es.map fun e=>e.1).Nodup:=List.pairwise_map.2 h1.nd
 have n2:(es'.map fun e=>e.1).Nodup:=List.pairwise_map.2 Er.nd
 constructor
 ·have Bj:((es.map fun e=>e.1)++(es'.map fun e=>e.1)).Nodup:=by
   refine List.nodup_append.2 ⟨n1,n2,fun a ha b hb=>?_⟩
   rintro rfl
   rw [oQ,h2] at ha
   rw [oQ,Xd] at hb
   cases hq:x.rK a with
   | false=>rw [hq] at hb;cases hb
   | true=>rw [(o.tb _ hq).2] at ha;cases ha
  have:=lO Bj fun d hd=>hm d ?_
  ·simp only [List.length_append,List.length_map] at this;omega
  ·rcases List.mem_append.1 hd with hd | hd
   ·rw [oQ,h2] at hd
    exact .inr (.inl hd)
   ·rw [oQ,Xd] at hd
    cases hq:x.rK d with
    | false=>rw [hq] at hd;cases hd
    | true=>exact .inr (.inr hq)
 ·have:=lO (jV ok.r) fun d hd=>hm d ?_
  ·omega
  ·exact .inl hd
/-! ### rows in order -/
theorem T8 {α:Type} {r:α→α→Prop} (irr:∀ a,¬ r a a) (asy:∀ a b,r a b→¬ r b a):∀ {l l':List α},l.Pairwise r→l'.Pairwise r→(∀ x,x∈l↔x∈l')→l=l'
 | [],[],_,_,_=>rfl
 | [],b::l',_,_,h=>by have:=(h b).2 (by simp);cases this
 | a::l,[],_,_,h=>by have:=(h a).1 (by simp);cases this
 | a::l,b::l',h1,h2,h=>by
  obtain ⟨p1,p2⟩:=List.pairwise_cons.1 h1
  obtain ⟨q1,q2⟩:=List.pairwise_cons.1 h2
  have hab:a=b:=by
   rcases List.mem_cons.1 ((h a).1 (by simp)) with e | ha
   ·exact e
   ·rcases List.mem_cons.1 ((h b).2 (by simp)) with e | hb
    ·exact e.symm
    ·exact absurd (p1 b hb) (asy _ _ (q1 a ha))
  subst hab
  have:=T8 irr asy p2 q2 fun x=>by
   constructor
   ·intro hx
    rcases List.mem_cons.1 ((h x).1 (by simp [hx])) with e | hx'
    ·subst e;exact absurd (p1 x hx) (irr x)
    ·exact hx'
   ·intro hx
    rcases List.mem_cons.1 ((h x).2 (by simp [hx])) with e | hx'
    ·subst e;exact absurd (q1 x hx) (irr x)
    ·exact hx'
  rw [this]
theorem aK.abg {a b:aK} (h:a.lt b=true):¬ b.lt a=true:=by
 rw [aK.lt_iff] at *;omega
theorem PY {l l':List aK} (h:dR l) (h':dR l') (hm:∀ d,d∈l↔d∈l'):l=l' :=
 T8 (fun a h=>aK.lt_irrefl _ h) (fun a b=>aK.abg) h h' hm
theorem qG.has {x:aI} {B:Nat} (o:oB x B) {k:Key} {l:List aK} (h:qG x k l) {d:aK} (hd:d∈l):x.has d=true:=(o.lv d k ((h.mem d).1 hd)).1
/-! ### a law's own sets -/
def Dj (F G:List Nat):Prop:=∀ y∈F,y ∉ G
theorem Dj.symm {F G:List Nat} (h:Dj F G):Dj G F:=fun y hy hf=>h y hf hy
section
variable {s0 s s':AS} {F F' G:List Nat} {p q:Nat} {x y:aI} {B C:Nat}
theorem gJ.pF (h:gJ F s p x):p∈F:=by obtain ⟨_,_,_,pc,lm,tm,_,h,_⟩:=h;exact h
theorem Lg {L:List Nat} (h:∀ y∈F,s.h y≠none) (m:bD L s s') (d:Dj L F):∀ y∈F,s'.h y≠none:=by
 intro y hy
 cases hq:s.h y with
 | none=>exact absurd hq (h y hy)
 | some o=>rw [m.1 y o (fun hl=>d y hl hy) hq];simp
theorem Dj.step (d:Dj F G) (ht:∀ y∈G,s.h y≠none) (hF:∀ y∈F',y∈F∨s.h y=none):Dj F' G:=by
 intro y hy hg
 rcases hF y hy with h | h
 ·exact d y h hg
 ·exact ht y hg h
end
end Go.Proofs.YtohgmogbabkkeaaGreat
end

section
namespace Go.Proofs.YtohgmogbabkkeaaGreat
open Go.Am Go.au Go.aC
section
variable {s0 s:AS} {F:List Nat} {p:Nat} {x:aI} {B:Nat}
theorem oB.aiJ (h:oB x B):∀ d,(x.live d).isSome=true→d.may=true:=fun d hd=>by
 obtain ⟨k,hk⟩:=Option.isSome_iff_exists.1 hd
 exact aI.vE (h.lv _ _ hk).1
theorem Lh {l:List aK} (h:∀ d∈l,d.may=true):∀ i∈l.map eV,i.may=true:=fun i hi=>by
 obtain ⟨d,hd,rfl⟩:=List.mem_map.1 hi
 exact yP (h d hd)
theorem oB.VS (o:oB x B) {l:List aK} (h:∀ d∈l,x.has d=true):oB (x.er (l.map eV)).2 B :=
 o.PX _ (Lh fun d hd=>aI.vE (h d hd)) fun i hi=>by
  obtain ⟨d,hd,rfl⟩:=List.mem_map.1 hi
  exact h d hd
theorem oB.add (o:oB x B) {k:Key} {d:aK} {l:List aK} (hk:k.may=true) (hd:d.may=true) (hl:qG x k l):oB (x.er (⟨d,k,false⟩::l.map eV)).2 (B+1):=by
 rw [qS]
 have hi:(⟨d,k,false⟩:ey).may=true:=by simp [ey.may,hk,hd]
 have o1:=(vF o hi).mono (B':=B+1) (by split <;> omega)
 exact o1.VS fun y hy=>by rw [Ch o hd,hl.has o hy];rfl
end
/-! ### what is seen and live,by cases -/
end Go.Proofs.YtohgmogbabkkeaaGreat
end

section
set_option maxRecDepth 100000
set_option maxHeartbeats 4000000
namespace Go.Proofs.YtohgmogbabkkeaaGreat
open Go.Am
end Go.Proofs.YtohgmogbabkkeaaGreat
end

section
namespace Go.Proofs.YtohgmogbabkkeaaGreat
open Go.Am Go.au Go.aC
theorem DZ (a b:List UInt8):aU T oX [(0,.str a),(1,.str b)]=some (.agg (fY ⟨a,b⟩)):=by kernel_rfl
theorem Au (r c:Int):aU T iB [(0,.int .i64 r),(1,.int .u64 c)]=some (.agg (aN ⟨r,c⟩)):=by kernel_rfl
theorem sF {s:AS} {l o n m:Nat} {cs:List AV} (h:aB s l o n=some cs) (hm:m≤n):aB s l o m=some (cs.take m):=by
 unfold Am.aB at *
 split at h
 ·rename_i C g ro hl
  split at h
  ·rename_i hn
   rw [if_pos (by omega)]
   simp only [Option.some.injEq] at h
   rw [← h,List.take_take]
   congr 2;omega
  ·cases h
 ·cases h
end Go.Proofs.YtohgmogbabkkeaaGreat
end

section
namespace Go.Proofs.YtohgmogbabkkeaaGreat
open Go.Am Go.au Go.aC Go.ChangeShapes Go.WideShapes Go.ChangeAt Go.RowKit
theorem vG (t:List UInt8) (s:AS):aa Tryz.prog jQ [.str t] s fun v s'=>v=.bool (aD t)∧s'=s:=by
 refine Nk _ _ _ ⟨_,kQ t s,af.dec (fun h=>⟨_,kQ t s,?_,rfl⟩) (fun h=>⟨?_,rfl⟩)⟩
 ·congr 1
  rw [aD,decide_eq_decide];omega
 ·congr 1
  symm
  rw [aD,decide_eq_false_iff_not];omega
section
variable {s0 s s':AS} {pa pb:Nat} {xa xb:aI} {Ba Bb:Nat} {sl:List (AV×List ey)}
end
end Go.Proofs.YtohgmogbabkkeaaGreat
end

section
set_option maxRecDepth 100000
set_option maxHeartbeats 4000000
namespace Go.Proofs.YtohgmogbabkkeaaGreat
open Go.Am
def Cj (a0:Option (Nat×Nat)) (a1:List UInt8) (s:AS) (R:AV→AS→Prop):Prop :=
 aj (.cells [(.str a1)] 0 false) s fun l1 s2=>aa Tryz.prog ct [(.ptr a0)] s2 fun v3 s4=>∃ b5:Bool,v3=.bool b5∧(af (!b5)
 (R (.slc none 0 0 true) s4)
 (aa Tryz.prog gD [(.ptr a0),(.func kj [(.ptr (some (l1,0)))])] s4 fun v6 s7=>aW .i64 (aP T az v6 s7) fun n8=>bC fun I9 Ft=>I9 Ft [(.slc none 0 0 true),(.int .i64 0)] s7 ∧
 ∀ QV:Nat,∀ i_:AV,∀ wu:Int,∀ jT:AS,I9 QV [i_,(.int .i64 wu)] jT →
 af (decide ((wu:Int)<n8))
 (bH (ag T az v6 (.int .i64 wu)) fun Dz FD=>aR (aB jT Dz FD 2) fun PL=>aj (.cells [.int .i64 0,.int .u64 0] 0 false) jT fun GO iD=>fj (some 2) PL (bu (cN iD GO 0 PL) fun fN=>aR (aB fN GO 0 2) fun wC=>ai a0 fun BG GQ=>zO (av fN BG (GQ+1)) fun r24=>aR (aB fN GO 0 2) fun Jz=>pN (dI T bY (.map r24) (.agg Jz) false fN) fun Fx=>Jh (Fx[1]?) fun x27=>pN (aU T xO [(0,(.agg wC)),(1,(.str x27))]) fun Zk=>aR (cZ T bR 1 [(0,(.agg Zk))]) fun RV=>aj (.cells RV 0 false) fN fun Si nA=>iG (aJ T bR bR i_ (.slc (some (Si,0)) 1 1 true) nA) fun Vn qR=>∃ m',m'<QV∧I9 m' [Vn,(.int .i64 (IntKind.wrap .i64 (wu+1)))] qR))
 (R i_ jT)))
def Ck:QA:=(.seq .leaf (.seq (.seq .leaf (.cond (.seq .leaf .leaf) .leaf)) (.seq .leaf (.seq (.seq .leaf (.wrap (.loop [(5,.any),(15,.int .i64)] [(5,5),(7,7),(15,31)] (.seq .leaf (.seq (.cond .leaf .leaf) (.seq (.wrap (.seq .leaf .calm)) .leaf)))))) (.seq .leaf .leaf)))))
theorem Cl (a0:Option (Nat×Nat)) (a1:List UInt8) (s:AS) (R:AV→AS→Prop) (h:Cj a0 a1 s R):aa Tryz.prog cQ [(.ptr a0),(.str a1)] s R :=
 aa.q (n:=33) (rs:=[.tmp 4]) (A:=Ck) hT bU Tryz.func72 (by kernel_rfl) rfl rfl rfl (by kernel_rfl) (by kernel_rfl) h
def zl (a0:List AV) (a1:List AV) (c0:Option (Nat×Nat)) (s:AS) (R:AV→AS→Prop):Prop :=
 cF a0 (aj (.cells a0 0 false) s fun l1 s2=>cF a1 (aj (.cells a1 0 false) s2 fun l3 s4=>Jh (av s4 l3 0) fun x5=>ai c0 fun l6 o7=>Jh (av s4 l6 o7) fun x8=>R (.bool ((x5:List UInt8)==x8)) s4))
def zm:QA:=(.seq .leaf (.seq .leaf .leaf))
theorem zn (a0:List AV) (a1:List AV) (c0:Option (Nat×Nat)) (s:AS) (R:AV→AS→Prop) (h:zl a0 a1 c0 s R):aa Tryz.prog kj [(.agg a0),(.agg a1),(.ptr c0)] s R :=
 aa.q (n:=10) (rs:=[.tmp 5]) (A:=zm) hT bU Tryz.func154 (by kernel_rfl) rfl rfl rfl (by kernel_rfl) (by kernel_rfl) h
def D0 (a0:Option (Nat×Nat)) (s:AS) (R:AV→AS→Prop):Prop :=
 bC fun I1 m2=>I1 m2 [(.slc none 0 0 true),(.int .i64 0)] s ∧
 ∀ m3:Nat,∀ v4:AV,∀ n5:Int,∀ s6:AS,I1 m3 [v4,(.int .i64 n5)] s6 →
 ai a0 fun l7 o8=>dJ (av s6 l7 (o8+17)) fun v9=>aW .i64 (aP T aH v9 s6) fun j9=>af (decide ((n5:Int)<j9))
 (ai a0 fun Dg yU=>dJ (av s6 Dg (yU+17)) fun JM=>bH (ag T aH JM (.int .i64 n5)) fun lR we=>Rp (av s6 lR (we+4)) fun b16=>af (!b16)
 (ai a0 fun j_ wz=>dJ (av s6 j_ (wz+17)) fun wT=>bH (ag T aH wT (.int .i64 n5)) fun CP Mo=>aR (aB s6 CP Mo 5) fun CQ=>aR (cZ T aH 1 [(0,(.agg CQ))]) fun ng=>aj (.cells ng 0 false) s6 fun RM dM=>iG (aJ T aH aH v4 (.slc (some (RM,0)) 1 1 true) dM) fun K_ mQ=>∃ m',m'<m3∧I1 m' [K_,(.int .i64 (IntKind.wrap .i64 (n5+1)))] mQ)
 (∃ m',m'<m3∧I1 m' [v4,(.int .i64 (IntKind.wrap .i64 (n5+1)))] s6))
 (R v4 s6)
def D1:QA:=(.seq .leaf (.seq .leaf (.seq (.seq .leaf (.wrap (.loop [(3,.any),(4,.int .i64)] [(3,32)] (.seq (.seq .leaf (.cond .leaf .leaf)) (.seq (.wrap (.seq .leaf (.cond .leaf .leaf))) .leaf))))) (.seq .leaf .leaf))))
theorem D2 (a0:Option (Nat×Nat)) (s:AS) (R:AV→AS→Prop) (h:D0 a0 s R):aa Tryz.prog nS [(.ptr a0)] s R :=
 aa.q (n:=34) (rs:=[.tmp 2]) (A:=D1) hT bU Tryz.func155 (by kernel_rfl) rfl rfl rfl (by kernel_rfl) (by kernel_rfl) h
def Cm (a0:Option (Nat×Nat)) (a1:List UInt8) (s:AS) (R:AV→AS→Prop):Prop :=
 aa Tryz.prog nS [(.ptr a0)] s fun v1 s2=>bC fun I3 m4=>I3 m4 [(.slc none 0 0 true),(.int .i64 0)] s2 ∧
 ∀ m5:Nat,∀ v6:AV,∀ n7:Int,∀ s8:AS,I3 m5 [v6,(.int .i64 n7)] s8 →
 aW .i64 (aP T aH v1 s8) fun n9=>af (decide ((n7:Int)<n9))
 (bH (ag T aH v1 (.int .i64 n7)) fun nB A0=>Jh (av s8 nB (A0+2)) fun x12=>af ((x12:List UInt8)==a1)
 (bH (ag T aH v1 (.int .i64 n7)) fun tJ JA=>aR (aB s8 tJ JA 2) fun z5=>bH (ag T aH v1 (.int .i64 n7)) fun rU EI=>Jh (av s8 rU (EI+3)) fun x18=>pN (aU T xO [(0,(.agg z5)),(1,(.str x18))]) fun GU=>aR (cZ T bR 1 [(0,(.agg GU))]) fun RU=>aj (.cells RU 0 false) s8 fun OU fO=>iG (aJ T bR bR v6 (.slc (some (OU,0)) 1 1 true) fO) fun Jl qx=>∃ m',m'<m5∧I3 m' [Jl,(.int .i64 (IntKind.wrap .i64 (n7+1)))] qx)
 (∃ m',m'<m5∧I3 m' [v6,(.int .i64 (IntKind.wrap .i64 (n7+1)))] s8))
 (R v6 s8)
def Cn:QA:=(.seq .leaf (.seq .leaf (.seq .leaf (.seq (.seq .leaf (.wrap (.loop [(5,.any),(7,.int .i64)] [(5,5),(7,7),(10,38)] (.seq (.seq .leaf (.cond .leaf .leaf)) (.seq (.wrap (.seq .leaf (.cond .calm .leaf))) .leaf))))) (.seq .leaf .leaf)))))
theorem Co (a0:Option (Nat×Nat)) (a1:List UInt8) (s:AS) (R:AV→AS→Prop) (h:Cm a0 a1 s R):aa Tryz.prog cR [(.ptr a0),(.str a1)] s R :=
 aa.q (n:=40) (rs:=[.tmp 4]) (A:=Cn) hT bU Tryz.func74 (by kernel_rfl) rfl rfl rfl (by kernel_rfl) (by kernel_rfl) h
def Gj (a0:Option (Nat×Nat)) (a1:List AV) (s:AS) (R:AV→AS→Prop):Prop :=
 cF a1 (aj (.cells a1 0 false) s fun l1 s2=>aR (aB s2 l1 0 2) fun g3=>aa Tryz.prog q_ [(.ptr a0),(.agg g3)] s2 fun v4 s5=>∃ n6:Int,v4=.int .i64 n6∧(bw fun J7 =>
 (∀ b8:Bool,∀ s9:AS,J7 [(.bool b8)] s9 →
 af b8
 (ai a0 fun nB A0=>dJ (av s9 nB (A0+17)) fun i_=>iG (aJ T aH aH (.slc none 0 0 true) i_ s9) fun JM jT=>aR (aB jT l1 0 5) fun z5=>bH (ag T aH JM (.int .i64 n6)) fun rU EI=>fj (some 5) z5 (bu (cN jT rU EI z5) fun eC=>ai a0 fun A1 Fi=>fD T aH eC A1 (Fi+17) JM fun gn=>R (.bool true) gn))
 (ai a0 fun BG GQ=>aR (aB s9 l1 0 2) fun wh=>aa Tryz.prog pU [(.ptr (some (BG,GQ))),(.agg wh)] s9 fun WT pX=>∃ b27:Bool,WT=.bool b27∧(af (!b27)
 (R (.bool false) pX)
 (bw fun J28 =>
 (∀ mb:AV,∀ A4:Int,∀ nA:AS,J28 [mb,(.int .i64 A4)] nA →
 aR (aB nA l1 0 5) fun MP=>aR (cZ T aH 1 [(0,(.agg MP))]) fun WN=>aj (.cells WN 0 false) nA fun HW VN=>iG (aJ T aH aH mb (.slc (some (HW,0)) 1 1 true) VN) fun QS k5=>ai a0 fun l38 o39=>dJ (av k5 l38 (o39+17)) fun yW=>dJ (aY T aH yW (some (.int .i64 A4)) none none) fun Zj=>iG (aJ T aH aH QS Zj k5) fun y4 CR=>ai a0 fun NP U7=>fD T aH CR NP (U7+17) y4 fun qQ=>R (.bool true) qQ) ∧
 (bC fun I47 m48=>I47 m48 [(.slc none 0 0 true),(.int .i64 0)] pX ∧
 ∀ Vs:Nat,∀ v50:AV,∀ Sx:Int,∀ wv:AS,I47 Vs [v50,(.int .i64 Sx)] wv →
 ai a0 fun l53 o54=>dJ (av wv l53 (o54+17)) fun Jn=>aW .i64 (aP T aH Jn wv) fun n56=>af (decide ((Sx:Int)<n56)) (ai a0 fun l57 o58=>dJ (av wv l57 (o58+17)) fun v59=>bH (ag T aH v59 (.int .i64 Sx)) fun l60 o61=>aR (aB wv l60 o61 2) fun g62=>aR (aB wv l1 0 2) fun g63=>aa Tryz.prog qu [(.agg g62),(.agg g63)] wv fun v64 s65=>∃ b66:Bool,v64=.bool b66∧(af b66
 (ai a0 fun l67 o68=>dJ (av s65 l67 (o68+17)) fun v69=>bH (ag T aH v69 (.int .i64 Sx)) fun l70 o71=>aR (aB s65 l70 o71 5) fun g72=>aR (cZ T aH 1 [(0,(.agg g72))]) fun g73=>aj (.cells g73 0 false) s65 fun l74 s75=>iG (aJ T aH aH v50 (.slc (some (l74,0)) 1 1 true) s75) fun v76 s77=>∃ m',m'<Vs∧I47 m' [v76,(.int .i64 (IntKind.wrap .i64 (Sx+1)))] s77)
 (J28 [v50,(.int .i64 Sx)] s65))) (J28 [v50,(.int .i64 Sx)] wv)))))) ∧
 (af (decide ((n6:Int)≥0)) (ai a0 fun l78 o79=>dJ (av s5 l78 (o79+17)) fun v80=>bH (ag T aH v80 (.int .i64 n6)) fun l81 o82=>Rp (av s5 l81 (o82+4)) fun b83=>af (!b83) (Rp (av s5 l1 4) fun b84=>J7 [(.bool b84)] s5) (J7 [(.bool false)] s5)) (J7 [(.bool false)] s5))))
def Gk:QA:=(.seq .leaf (.seq .leaf (.seq (.join [(29,.bool)] [(13,29)] .leaf (.cond (.seq .leaf (.seq .leaf (.seq .leaf (.seq .leaf .leaf)))) .leaf)) (.seq (.seq (.draw 5) (.cond (.seq .leaf .leaf) .leaf)) (.seq .leaf (.seq .leaf (.join [(7,.any),(8,.int .i64)] [(7,8),(50,81)] (.wrap (.loop [(7,.any),(8,.int .i64)] [(7,8),(50,81)] (.seq (.seq (.draw 18) (.cond .leaf .leaf)) (.seq (.wrap .leaf) .leaf)))) (.seq .leaf (.seq .leaf (.seq .leaf .leaf))))))))))
theorem Gl (a0:Option (Nat×Nat)) (a1:List AV) (s:AS) (R:AV→AS→Prop) (h:Gj a0 a1 s R):aa Tryz.prog kX [(.ptr a0),(.agg a1)] s R :=
 aa.q (n:=97) (rs:=[.tmp 4]) (A:=Gk) hT bU Tryz.func153 (by kernel_rfl) rfl rfl rfl (by kernel_rfl) (by kernel_rfl) h
def Gm (a0:Option (Nat×Nat)) (a1:List AV) (a2:List AV) (s:AS) (R:AV→AS→Prop):Prop :=
 cF a1 (aj (.cells a1 0 false) s fun l1 s2=>cF a2 (aj (.cells a2 0 false) s2 fun l3 s4=>gu fun S V=>aR (aB s4 l3 0 2) fun g5=>aR (aB s4 l1 0 2) fun g6=>pN (aU T ru [(0,(.agg g5)),(1,(.agg g6))]) fun g7=>(∀ s8:AS,Ext s4 s8→aM s8→(True)→aR (cZ T aH 1 [(0,(.agg g7))]) fun g9=>aj (.cells g9 0 false) s8 fun nB fI=>(Ext s8 fI∧S 3 [(.agg g7)] (.slc (some (nB,0)) 1 1 true) fI∧V 3 [(.agg g7)] (.slc (some (nB,0)) 1 1 true)))∧(∃ v,V 3 [(.agg g7)] v)∧∀ i_:AV,V 3 [(.agg g7)] i_→aR (aB s4 l1 0 2) fun wg=>(∀ jT:AS,Ext s4 jT→aM jT→(True)→aa Tryz.prog dG [(.ptr a0),(.agg wg)] jT fun yV kr=>(Ext jT kr∧S 6 [(.func dG []),(.ptr a0),(.agg wg)] yV kr∧V 6 [(.func dG []),(.ptr a0),(.agg wg)] yV))∧(∃ v,V 6 [(.func dG []),(.ptr a0),(.agg wg)] v)∧∀ o_:AV,V 6 [(.func dG []),(.ptr a0),(.agg wg)] o_→∀ eC:AS,Ext s4 eC→aM eC→(S 3 [(.agg g7)] i_ eC∧(S 6 [(.func dG []),(.ptr a0),(.agg wg)] o_ eC∧True))→iG (aJ T aH aH i_ o_ eC) fun v20 gn=>bC fun YA Mp=>YA Mp [(.int .i64 0)] gn ∧
 ∀ m24:Nat,∀ ql:Int,∀ pX:AS,YA m24 [(.int .i64 ql)] pX →
 aW .i64 (aP T aH v20 pX) fun EG=>af (decide ((ql:Int)<EG))
 (bH (ag T aH v20 (.int .i64 ql)) fun Dh Jy=>aR (aB pX Dh Jy 5) fun z7=>aa Tryz.prog kX [(.ptr a0),(.agg z7)] pX fun wE lS=>∃ b33:Bool,wE=.bool b33∧(∃ m',m'<m24∧YA m' [(.int .i64 (IntKind.wrap .i64 (ql+1)))] lS))
 (R v20 pX)))
def Gn:QA:=(.seq .leaf (.seq (.gL 7 [[],[],[],[],[],[],[]] [3,6]) (.seq (.seq .leaf (.wrap (.loop [(8,.int .i64)] [(8,8),(17,28)] (.seq (.seq .leaf (.cond .leaf .leaf)) (.seq (.wrap .leaf) .leaf))))) (.seq .leaf .leaf))))
theorem Gp (a0:Option (Nat×Nat)) (a1:List AV) (a2:List AV) (s:AS) (R:AV→AS→Prop) (h:Gm a0 a1 a2 s R):aa Tryz.prog pQ [(.ptr a0),(.agg a1),(.agg a2)] s R :=
 aa.q (n:=30) (rs:=[.tmp 6]) (A:=Gn) hT bU Tryz.func69 (by kernel_rfl) rfl rfl rfl (by kernel_rfl) (by kernel_rfl) h
def II (a0:Option (Nat×Nat)) (a1:List AV) (s:AS) (R:AV→AS→Prop):Prop :=
 cF a1 (aj (.cells a1 0 false) s fun l1 s2=>bC fun I3 m4=>I3 m4 [(.int .i64 0)] s2 ∧
 ∀ m5:Nat,∀ n6:Int,∀ s7:AS,I3 m5 [(.int .i64 n6)] s7 →
 ai a0 fun l8 o9=>dJ (av s7 l8 (o9+17)) fun v10=>aW .i64 (aP T aH v10 s7) fun iN=>af (decide ((n6:Int)<iN))
 (ai a0 fun rP wj=>dJ (av s7 rP (wj+17)) fun tK=>bH (ag T aH tK (.int .i64 n6)) fun Dz FD=>aR (aB s7 Dz FD 2) fun PL=>aR (aB s7 l1 0 2) fun xY=>uD (iK T 100 iB (.agg PL) (.agg xY)) fun b19=>af b19
 (R (.int .i64 n6) s7)
 (∃ m',m'<m5∧I3 m' [(.int .i64 (IntKind.wrap .i64 (n6+1)))] s7))
 (R (.int .i64 (-1)) s7))
def IJ:QA:=(.seq .leaf (.seq (.seq .leaf (.wrap (.loop [(5,.int .i64)] [(4,25)] (.seq (.seq .leaf (.cond .leaf .leaf)) (.seq (.wrap (.seq (.draw 9) (.cond (.seq .leaf .leaf) .leaf))) .leaf))))) (.seq .leaf .leaf)))
theorem IK (a0:Option (Nat×Nat)) (a1:List AV) (s:AS) (R:AV→AS→Prop) (h:II a0 a1 s R):aa Tryz.prog q_ [(.ptr a0),(.agg a1)] s R :=
 aa.q (n:=26) (rs:=[.tmp 4]) (A:=IJ) hT bU Tryz.func96 (by kernel_rfl) rfl rfl rfl (by kernel_rfl) (by kernel_rfl) h
def D3 (a0:Option (Nat×Nat)) (a1:List AV) (s:AS) (R:AV→AS→Prop):Prop :=
 cF a1 (aj (.cells a1 0 false) s fun l1 s2=>bC fun I3 m4=>I3 m4 [(.slc none 0 0 true),(.int .i64 0)] s2 ∧
 ∀ m5:Nat,∀ v6:AV,∀ n7:Int,∀ s8:AS,I3 m5 [v6,(.int .i64 n7)] s8 →
 ai a0 fun l9 Dq=>dJ (av s8 l9 (Dq+17)) fun v11=>aW .i64 (aP T aH v11 s8) fun wS=>af (decide ((n7:Int)<wS))
 (bw fun YE =>
 (∀ FB:Bool,∀ f_:AS,YE [(.bool FB)] f_ →
 af FB
 (ai a0 fun rU EI=>dJ (av f_ rU (EI+17)) fun tI=>bH (ag T aH tI (.int .i64 n7)) fun A1 Fi=>aR (aB f_ A1 Fi 2) fun wC=>pN (aU T ru [(0,(.agg wC)),(2,(.bool true))]) fun CQ=>aR (cZ T aH 1 [(0,(.agg CQ))]) fun ng=>aj (.cells ng 0 false) f_ fun RM dM=>iG (aJ T aH aH v6 (.slc (some (RM,0)) 1 1 true) dM) fun K_ mQ=>∃ m',m'<m5∧I3 m' [K_,(.int .i64 (IntKind.wrap .i64 (n7+1)))] mQ)
 (∃ m',m'<m5∧I3 m' [v6,(.int .i64 (IntKind.wrap .i64 (n7+1)))] f_)) ∧
 (ai a0 fun Dh Jy=>dJ (av s8 Dh (Jy+17)) fun v30=>bH (ag T aH v30 (.int .i64 n7)) fun Yy TP=>Rp (av s8 Yy (TP+4)) fun b33=>af (!b33) (ai a0 fun HW JB=>dJ (av s8 HW (JB+17)) fun QS=>bH (ag T aH QS (.int .i64 n7)) fun OV JD=>aR (aB s8 OV (JD+2) 2) fun g39=>aR (aB s8 l1 0 2) fun g40=>uD (iK T 100 oX (.agg g39) (.agg g40)) fun b41=>YE [(.bool b41)] s8) (YE [(.bool false)] s8)))
 (R v6 s8))
def D4:QA:=(.seq .leaf (.seq .leaf (.seq (.seq .leaf (.wrap (.loop [(5,.any),(6,.int .i64)] [(5,48)] (.seq (.seq .leaf (.cond .leaf .leaf)) (.seq (.wrap (.join [(36,.bool)] [(16,36)] (.draw 19) (.cond .leaf .leaf))) .leaf))))) (.seq .leaf .leaf))))
theorem D5 (a0:Option (Nat×Nat)) (a1:List AV) (s:AS) (R:AV→AS→Prop) (h:D3 a0 a1 s R):aa Tryz.prog dG [(.ptr a0),(.agg a1)] s R :=
 aa.q (n:=50) (rs:=[.tmp 4]) (A:=D4) hT bU Tryz.func152 (by kernel_rfl) rfl rfl rfl (by kernel_rfl) (by kernel_rfl) h
end Go.Proofs.YtohgmogbabkkeaaGreat
end

section
namespace Go.Proofs.YtohgmogbabkkeaaGreat
open Go.Am Go.au Go.aC
theorem abh {s:AS} {l o n:Nat} {cs:List AV} (h:aB s l o n=some cs) (k m:Nat) (hm:k+m≤n):aB s l (o+k) m=some ((cs.drop k).take m):=by
 unfold Am.aB at *
 split at h
 ·rename_i C g ro hl
  split at h
  ·rename_i hn
   rw [if_pos (by omega)]
   simp only [Option.some.injEq] at h
   rw [← h,List.drop_take,List.take_take,List.drop_drop]
   congr 2;omega
  ·cases h
 ·cases h
section
variable {F:List Nat} {s:AS} {p:Nat} {x:aI}
end
section
variable {s0 s s':AS} {pa pb:Nat} {xa xb:aI} {Ba Bb:Nat} {sl:List (AV×List ey)}
end
end Go.Proofs.YtohgmogbabkkeaaGreat
end

section
namespace Go.Proofs.YtohgmogbabkkeaaGreat
open Go.Am Go.au Go.aC
def aI.item (x:aI) (i:ey):Prop:=match i.gone with
 | true=>x.rK i.dot=true∧i.key=⟨[],[]⟩
 | false=>x.live i.dot=some i.key
structure Items (x:aI) (I:List ey):Prop where
 Xf:dR (I.map ey.dot)
 mem:∀ i,i∈I↔x.item i
theorem aiK.pw {I:List ey} (h:dR (I.map ey.dot)):I.Pairwise fun a b=>a.dot.lt b.dot=true:=List.pairwise_map.1 h
theorem Items.one {x:aI} {I:List ey} (h:Items x I) {i j:ey} (hi:i∈I) (hj:j∈I) (e:i.dot=j.dot):i=j:=by
 have key:∀ (l:List ey),l.Pairwise (fun a b=>a.dot.lt b.dot=true)→i∈l→j∈l→i=j:=by
  intro l
  induction l with
  | nil=>intro _ h;cases h
  | cons a l ih =>
   intro hp h1 h2
   obtain ⟨p1,p2⟩:=List.pairwise_cons.1 hp
   rcases List.mem_cons.1 h1 with e1 | r1 <;> rcases List.mem_cons.1 h2 with e2 | r2
   ·rw [e1,e2]
   ·have:=p1 j r2;rw [← e1,e] at this;exact absurd this (fun h=>aK.lt_irrefl _ h)
   ·have:=p1 i r1;rw [← e2,e] at this;exact absurd this (fun h=>aK.lt_irrefl _ h)
   ·exact ih p2 r1 r2
 exact key I (aiK.pw h.Xf) hi hj
theorem Items.zero:Items aI.zero []:=⟨List.Pairwise.nil,fun i=>by unfold aI.item;cases i.gone <;> simp [aI.zero]⟩
theorem Zz {x:aI} {B:Nat} (o:oB x B) {i:ey} (h:x.item i):x.has i.dot=true:=by
 unfold aI.item at h
 cases hg:i.gone with
 | true=>rw [hg] at h;exact (o.tb _ h.1).1
 | false=>rw [hg] at h;exact (o.lv _ _ h).1
theorem SS {x:aI} {i:ey} (h:x.item i):x.keeps i.dot:=by
 unfold aI.item at h
 cases hg:i.gone with
 | true=>rw [hg] at h;exact .inr (.inr h.1)
 | false=>rw [hg] at h;exact .inr (.inl (by rw [h];rfl))
theorem Items.len {x:aI} {B:Nat} (o:oB x B) {I:List ey} (h:Items x I):I.length≤B:=by
 obtain ⟨U,hU,hm⟩:=o.sz
 have:=lO (jV h.Xf) fun d hd=>hm d ?_
 ·simp only [List.length_map] at this;omega
 ·obtain ⟨i,hi,rfl⟩:=List.mem_map.1 hd
  exact SS ((h.mem i).1 hi)
structure qd (F:List Nat) (s:AS) (q:Nat) (x:aI):Prop where
 ok:O9 x.v x.ex
 Ie:Zd x.v x.ex
 mem:∃ w iw I,Am.Own s q (x.v.map (.int .u64)++[w,iw])∧(w.one=true∧w≠.emp∧bt aN 2 s w x.ex)∧(iw.one=true∧iw≠.emp∧bt bz 5 s iw I)∧Items x I∧q∈F∧(∀ y∈ay w,y∈F)∧∀ y∈ay iw,y∈F
section
variable {F F':List Nat} {s s':AS} {q:Nat} {x:aI}
theorem qd.mut {L:List Nat} (h:qd F s q x) (m:bD L s s') (hL:Dj L F):qd F s' q x:=by
 obtain ⟨h1,h2,w,iw,I,a,⟨b1,b2,b3⟩,⟨c1,c2,c3⟩,d,e,f,g⟩:=h
 exact ⟨h1,h2,w,iw,I,a.mut m (fun hx=>hL q hx e),⟨b1,b2,b3.mut m fun y hy hm=>hL y hm (f y hy)⟩,⟨c1,c2,c3.mut m fun y hy hm=>hL y hm (g y hy)⟩,d,e,f,g⟩
theorem qd.ext (h:qd F s q x) (e:Ext s s'):qd F s' q x:=h.mut (L:=[]) e.mut (fun y hy=>by cases hy)
theorem qd.qF (h:qd F s q x):q∈F:=by obtain ⟨_,_,w,iw,I,_,_,_,_,e,_⟩:=h;exact e
theorem sG {α:Type} {f:α→List AV} {sz:Nat} {v:AV} {l:List α} (h:bt f sz s v l):∀ n,v≠.int .i64 n:=by
 rcases h with ⟨_,a,rfl⟩ | ⟨la,rfl,_⟩ <;> simp
theorem GX {v:List Int} (h:v.length=16) (w iw:AV):(v.map (AV.int .u64)++[w,iw])[17]? = some iw:=by
 rw [List.getElem?_append_right (by simp [h])];simp [h]
theorem afQ {v:List Int} {w iw:AV} {I:List ey} (hq:At s q (v.map (.int .u64)++[w,iw])) (hv:v.length=16) (hI:Sl bz 5 s iw I) (hn:I.length≤2 ^ 30) (d:aK) :
  aa Tryz.prog q_ [.ptr (some (q,0)),.agg (aN d)] s fun r s'=>Ext s s'∧∃ n:Int,r=.int .i64 n∧((n = -1∧∀ i∈I,i.dot≠d)∨∃ k:Nat,n=k∧∃ i,I[k]? = some i∧i.dot=d):=by
 refine aa.pre fun hw=>IK _ _ _ _ ⟨rfl,aj.intro hw rfl fun l1 s2 F2=>⟨fun m vs s'=>∃ i:Nat,vs=[.int .i64 (i:Nat)]∧i≤I.length∧m=I.length - i∧s'=s2∧∀ j y,j<i→I[j]? = some y→y.dot≠d,I.length,⟨0,rfl,by omega,rfl,rfl,by omega⟩,?_⟩⟩
 rintro m n s7 ⟨i,hi,h6,rfl,rfl,hall⟩
 simp only [List.cons.injEq,AV.int.injEq,true_and,and_true] at hi
 subst hi
 have r17:av s7 q (0+17)=some iw:=by rw [(hq.ext F2.ext).av];exact GX hv w iw
 refine ⟨iw,r17,_,hI.cG cV _,af.dec (fun hlt=>?_) (fun hge=>⟨F2.ext,-1,rfl,.inl ⟨rfl,fun y hy=>?_⟩⟩)⟩
 ·obtain ⟨y,hy⟩:=cW (l:=I) (i:=i) (by omega)
  obtain ⟨ly,oy,g8,g9⟩:=hI.ix (by decide) bf cV pW hy
  refine ⟨iw,r17,ly,oy,g8 _,_,sF ((g9 _ F2.ext).2) (by decide),_,F2.own.at.aB (by simp [aN]),_,Mz y.dot d,af.dec (fun e=>⟨F2.ext,_,rfl,.inr ⟨i,rfl,y,hy,e⟩⟩) (fun e=>⟨I.length - (i+1),by omega,i+1,by rw [aV (by omega)];rfl,by omega,rfl,rfl,fun j z hj hz=>?_⟩)⟩
  rcases Nat.lt_or_ge j i with h | h
  ·exact hall j z h hz
  ·obtain rfl:j=i:=by omega
   rw [hy] at hz;obtain rfl:=Option.some.inj hz;exact e
 ·obtain ⟨j,hj⟩:=List.mem_iff_getElem?.1 hy
  have:j<I.length:=by
   rcases Nat.lt_or_ge j I.length with h | h
   ·exact h
   ·rw [List.getElem?_eq_none h] at hj;cases hj
  exact hall j y (by omega) hj
/-! ### the plain side of seeing -/
theorem Items.set {x:aI} {B:Nat} (o:oB x B) {I:List ey} (h:Items x I) {k:Nat} {j i:ey} (hk:I[k]? = some j) (hj:j.gone=false) (hd:j.dot=i.dot) (hg:i.gone=true) (hkey:i.key=⟨[],[]⟩):Items (x.mg i).2 (I.set k i)∧(x.mg i).1=true∧(x.mg i).2.v=x.v∧(x.mg i).2.ex=x.ex:=by
 have hjI:j∈I:=List.mem_of_getElem? hk
 have tM:x.live i.dot=some j.key:=by
  have:=(h.mem j).1 hjI
  unfold aI.item at this
  rw [hj,hd] at this;exact this
 have hc:((x.live i.dot).isSome&&i.gone)=true:=by rw [tM,hg];rfl
 have En:k<I.length:=by
  rcases Nat.lt_or_ge k I.length with h | h
  ·exact h
  ·rw [List.getElem?_eq_none h] at hk;cases hk
 have afR:(I.set k i).map ey.dot=I.map ey.dot:=by
  apply List.ext_getElem?
  intro n
  simp only [List.getElem?_map,List.getElem?_set]
  split
  ·rename_i e
   subst e
   first | (rw [if_pos En,hk];simp [hd]) | (rw [hk];simp [hd])
  ·rfl
 refine ⟨⟨by rw [afR];exact h.Xf,fun y=>?_⟩,?_,?_,?_⟩
 ·have hmem:y∈I.set k i↔y=i∨(y∈I∧y.dot≠i.dot):=by
   rw [List.mem_iff_getElem?]
   constructor
   ·rintro ⟨n,hn⟩
    rw [List.getElem?_set] at hn
    split at hn
    ·rename_i e
     first | (rw [if_pos En] at hn;exact .inl (Option.some.inj hn).symm) | exact .inl (Option.some.inj hn).symm
    ·rename_i e
     have hyI:=List.mem_of_getElem? hn
     refine .inr ⟨hyI,fun hde=>?_⟩
     have:=h.one hyI hjI (hde.trans hd.symm)
     subst this
     have Bj:=jV h.Xf
     have Uy:n<I.length:=by
      rcases Nat.lt_or_ge n I.length with h | h
      ·exact h
      ·rw [List.getElem?_eq_none h] at hn;cases hn
     have e1:(I.map ey.dot)[k]? = (I.map ey.dot)[n]? := by rw [List.getElem?_map,List.getElem?_map,hk,hn]
     exact e ((List.getElem?_inj (by simpa using En) Bj).1 e1)
   ·rintro (rfl | ⟨hyI,hne⟩)
    ·exact ⟨k,by rw [List.getElem?_set,if_pos rfl,if_pos En]⟩
    ·obtain ⟨n,hn⟩:=List.mem_iff_getElem?.1 hyI
     refine ⟨n,?_⟩
     rw [List.getElem?_set,if_neg,hn]
     rintro rfl
     rw [hk] at hn
     obtain rfl:=Option.some.inj hn
     exact hne hd
  rw [hmem,h.mem]
  unfold aI.item
  rw [rL o,Ci o]
  cases Xg:y.gone with
  | true =>
   simp only
   constructor
   ·rintro (rfl | ⟨h1,h2⟩)
    ·exact ⟨by simp [hg,tM],hkey⟩
    ·exact ⟨by simp [h1.1],h1.2⟩
   ·rintro ⟨h1,h2⟩
    by_cases e:y.dot=i.dot
    ·left
     cases y;cases i
     simp only at e Xg h2 hkey hg
     rw [e,Xg,h2,hkey,hg]
    ·refine .inr ⟨⟨?_,h2⟩,e⟩
     simpa [e] using h1
  | false =>
   simp only
   constructor
   ·rintro (rfl | ⟨h1,h2⟩)
    ·rw [hg] at Xg;cases Xg
    ·rw [if_neg h2];exact h1
   ·intro h1
    by_cases e:y.dot=i.dot
    ·rw [if_pos e,if_pos hg] at h1;cases h1
    ·rw [if_neg e] at h1;exact .inr ⟨h1,e⟩
 ·rw [abf o,hc];rfl
 ·unfold aI.mg;rw [if_pos hc]
 ·unfold aI.mg;rw [if_pos hc]
theorem ZA {I:List ey} {k:Nat} {i y:ey}:y∈I.take k++i::I.drop k↔y=i∨y∈I:=by
 rw [List.mem_append,List.mem_cons]
 conv=>rhs;rhs;rw [← List.take_append_drop k I]
 rw [List.mem_append]
 constructor
 ·rintro (h | rfl | h)
  ·exact .inr (.inl h)
  ·exact .inl rfl
  ·exact .inr (.inr h)
 ·rintro (rfl | h | h)
  ·exact .inr (.inl rfl)
  ·exact .inl h
  ·exact .inr (.inr h)
theorem Items.ins {x:aI} {B:Nat} (o:oB x B) {I:List ey} (h:Items x I) {i:ey} (hi:i.may=true) (hh:x.has i.dot=false):Items (x.mg i).2 (I.take (pos (I.map ey.dot) i.dot)++i::I.drop (pos (I.map ey.dot) i.dot)):=by
 have hno:∀ y∈I,y.dot≠i.dot:=fun y hy e=>by
  have:=Zz o ((h.mem y).1 hy)
  rw [e,hh] at this;cases this
 have hlv:x.live i.dot=none:=by
  cases hq:x.live i.dot with
  | none=>rfl
  | some k=>rw [(o.lv _ _ hq).1] at hh;cases hh
 have htb:x.rK i.dot=false:=by
  cases hq:x.rK i.dot with
  | false=>rfl
  | true=>rw [(o.tb _ hq).1] at hh;cases hh
 refine ⟨?_,fun y=>?_⟩
 ·have:=h.Xf.ins (d:=i.dot) (by simpa using fun y hy=>hno y hy)
  rw [show (I.take (pos (I.map ey.dot) i.dot)++i::I.drop (pos (I.map ey.dot) i.dot)).map ey.dot=Go.au.ins (I.map ey.dot) i.dot by simp [Go.au.ins,List.map_take,List.map_drop]]
  exact this
 ·rw [ZA,h.mem]
  unfold aI.item
  rw [rL o,Ci o]
  cases Xg:y.gone with
  | true =>
   simp only
   constructor
   ·rintro (rfl | h1)
    ·refine ⟨by simp [Xg,hh],?_⟩
     simp only [ey.may,Bool.and_eq_true,Xg,if_true,decide_eq_true_eq] at hi
     exact hi.2
    ·exact ⟨by simp [h1.1],h1.2⟩
   ·rintro ⟨h1,h2⟩
    by_cases e:y.dot=i.dot
    ·left
     rw [e,htb] at h1
     simp [hlv,hh] at h1
     have hik:i.key=⟨[],[]⟩:=by
      simp only [ey.may,Bool.and_eq_true,h1,if_true,decide_eq_true_eq] at hi
      exact hi.2
     cases y;cases i
     simp only at e Xg h2 hik h1
     rw [e,Xg,h2,hik,h1]
    ·refine .inr ⟨?_,h2⟩
     simpa [e] using h1
  | false =>
   simp only
   constructor
   ·rintro (rfl | h1)
    ·rw [if_pos rfl,Xg,hh];simp
    ·by_cases e:y.dot=i.dot
     ·rw [e,hlv] at h1;cases h1
     ·rw [if_neg e];exact h1
   ·intro h1
    by_cases e:y.dot=i.dot
    ·rw [if_pos e] at h1
     left
     cases hgi:i.gone with
     | true=>rw [hgi] at h1;simp at h1
     | false =>
      rw [hgi,e,hh] at h1
      simp at h1
      cases y;cases i
      simp only at e Xg h1 hgi
      rw [e,Xg,hgi,h1]
    ·rw [if_neg e] at h1;exact .inr h1
end
end Go.Proofs.YtohgmogbabkkeaaGreat
end

section
namespace Go.Proofs.YtohgmogbabkkeaaGreat
open Go.Am Go.au Go.aC
theorem oB.afS {x:aI} {B:Nat} (o:oB x B):x.ex.length≤B:=by
 obtain ⟨U,hU,hm⟩:=o.sz
 have:=lO (jV o.ok.r) fun d hd=>hm d ?_
 ·omega
 ·exact .inl hd
theorem VT {α:Type} {f:α→List AV} {sz:Nat} (hf:∀ x,(f x).length=sz):∀ (l:List α) (k:Nat) (x:α),k<l.length→qJ (l.flatMap f) (k*sz) (f x)=(l.set k x).flatMap f:=by
 intro l k x hk
 have hsp:l.flatMap f=(l.take k).flatMap f++(f (l[k])++(l.drop (k+1)).flatMap f):=by
  conv=>lhs;rw [← List.take_append_drop k l,List.flatMap_append,List.drop_eq_getElem_cons hk,List.flatMap_cons]
 have hl:((l.take k).flatMap f).length=k*sz:=by rw [dS hf,List.length_take,Nat.min_eq_left (by omega)]
 have:=L6 ((l.take k).flatMap f) (f l[k]) (f x) ((l.drop (k+1)).flatMap f) (by rw [hf,hf])
 rw [hl] at this
 rw [hsp,← List.append_assoc,this,List.set_eq_take_append_cons_drop,if_pos hk,List.flatMap_append,List.flatMap_cons,List.append_assoc]
theorem abi {x:aI} {i:ey} (h1:¬ ((x.live i.dot).isSome=true∧i.gone=true)) (h2:x.has i.dot=true):x.mg i=(false,x):=by
 unfold aI.mg
 rw [if_neg (by simpa using h1),if_pos (show ff x.v x.ex i.dot=true from h2)]
theorem VU {x:aI} {i:ey} (h1:¬ ((x.live i.dot).isSome=true∧i.gone=true)) (h2:x.has i.dot=false):(x.mg i).1=true∧(x.mg i).2.v=(compact x.v (ins x.ex i.dot)).1∧(x.mg i).2.ex=(compact x.v (ins x.ex i.dot)).2:=by
 have Xd:¬ ff x.v x.ex i.dot=true:=by rw [show ff x.v x.ex i.dot=x.has i.dot from rfl,h2];simp
 unfold aI.mg
 rw [if_neg (by simpa using h1),if_neg Xd]
 split <;> exact ⟨rfl,rfl,rfl⟩
section
variable {F:List Nat} {s:AS} {q:Nat} {x:aI} {B:Nat}
theorem _root_.Go.Am.bt.there {α:Type} {f:α→List AV} {sz:Nat} {v:AV} {l:List α} (h:bt f sz s v l):∀ y∈ay v,s.h y≠none:=by
 intro y hy
 rcases h with ⟨_,b,rfl⟩ | ⟨la,rfl,ho⟩
 ·simp [ay] at hy
 ·obtain rfl:y=la:=by simpa [ay] using hy
  rw [ho];simp
theorem _root_.Go.Am.bt.ne {α:Type} {f:α→List AV} {sz:Nat} (hz:sz≠0) {v:AV} {l:List α} {cs:List AV} (h:bt f sz s v l) (hq:Am.Own s q cs):∀ y∈ay v,y ∉ [q]:=by
 intro y hy hm
 obtain rfl:=List.mem_singleton.1 hm
 rcases h with ⟨_,b,rfl⟩ | ⟨la,rfl,ho⟩
 ·simp [ay] at hy
 ·obtain rfl:y=la:=by simpa [ay] using hy
  rw [hq] at ho
  simp only [Option.some.injEq,AO.cells.injEq] at ho
  exact hz ho.2.1.symm
theorem SU (h:qd F s q x) (o:oB x B) (hB:B≤1000) (As:∀ y∈F,s.h y≠none) (i:ey) (hi:i.may=true) :
  aa Tryz.prog kX [.ptr (some (q,0)),.agg (bz i)] s fun r s'=>r=.bool (x.mg i).1∧bD [q] s s'∧∃ F',qd F' s' q (x.mg i).2∧(∀ y∈F',y∈F∨s.h y=none)∧∀ y∈F',s'.h y≠none:=by
 have QI:i.dot.may=true:=by simp only [ey.may,Bool.and_eq_true] at hi;exact hi.1
 refine aa.pre fun hw=>Gl _ _ _ _ ⟨rfl,aj.intro hw rfl fun l1 s2 F2=>?_⟩
 obtain ⟨ok,Ie,w,iw,I,a,⟨b1,b2,b3⟩,⟨c1,c2,c3⟩,hI,hqF,f,g⟩:=h.ext F2.ext
 have hlen:=hI.len o
 have ajV:=o.afS
 have hvl:=ok.v.len
 refine ⟨_,F2.own.at.aB (by simp [bz]),?_⟩
 refine aa.use (afQ a.at hvl (c3.sl bf) (by omega) i.dot) ?_
 rintro r s5 ⟨e5,n,rfl,EN⟩ w5
 have a5:=a.ext e5
 have c5:=c3.ext e5
 have b5:=b3.ext e5
 have o5:Am.Own s5 l1 (bz i):=F2.own.ext e5
 have E5:=F2.ext.trans e5
 have r17:av s5 q (0+17)=some iw:=by rw [a5.at.av];exact GX hvl w iw
 have SV:∀ y∈F,s5.h y≠none:=fun y hy hn=>As y hy (E5.none hn)
 refine ⟨_,rfl,fun vs s'=>s'=s5∧∃ t,vs=[.bool t]∧(t=true→∃ (k:Nat) (j:ey),n=k∧I[k]? = some j∧j.dot=i.dot∧j.gone=false∧i.gone=true)∧(t=false→¬ ((x.live i.dot).isSome=true∧i.gone=true)),?_,?_⟩
 rotate_left
 ·refine af.dec (fun hn=>?_) (fun hn=>⟨rfl,_,rfl,(fun h=>by cases h),fun _=>?_⟩)
  ·rcases EN with ⟨rfl,_⟩ | ⟨k,rfl,j,hj,hjd⟩
   ·omega
   ·obtain ⟨lj,oj,g8,g9⟩:=c5.sl bf |>.ix (by decide) bf cV pW hj
    refine ⟨iw,r17,lj,oj,g8 _,j.gone,(g9 _ (Ext.refl _)).1 4 (by decide),af.mk (fun hg=>⟨i.gone,by rw [o5.at.av];rfl,rfl,_,rfl,fun ht=>⟨k,j,rfl,hj,hjd,by simpa using hg,ht⟩,fun ht h=>by rw [ht] at h;cases h.2⟩) (fun hg=>⟨rfl,_,rfl,(fun h=>by cases h),fun _ h=>?_⟩)⟩
    have:=(hI.mem j).1 (List.mem_of_getElem? hj)
    unfold aI.item at this
    have hg':j.gone=true:=by simpa using hg
    rw [hg',hjd] at this
    rw [(o.tb _ this.1).2] at h
    cases h.1
  ·rcases EN with ⟨rfl,hno⟩ | ⟨k,rfl,_⟩
   ·rintro ⟨h1,h2⟩
    obtain ⟨k,hk⟩:=Option.isSome_iff_exists.1 h1
    exact hno ⟨i.dot,k,false⟩ ((hI.mem _).2 hk) rfl
   ·omega
 rintro t s9 ⟨rfl,t',ht,hyes,hno⟩
 simp only [List.cons.injEq,AV.bool.injEq,and_true] at ht
 subst ht
 refine af.mk (fun ht=>?_) (fun ht=>?_)
 ·
  obtain ⟨k,j,rfl,hj,hjd,hjg,hig⟩:=hyes ht
  have hkey:i.key=⟨[],[]⟩:=by
   simp only [ey.may,Bool.and_eq_true,hig,if_true,decide_eq_true_eq] at hi
   exact hi.2
  obtain ⟨hI',TJ,Yb,hs3⟩:=hI.set o hj hjg hjd hig hkey
  have En:k<I.length:=by
   rcases Nat.lt_or_ge k I.length with h | h
   ·exact h
   ·rw [List.getElem?_eq_none h] at hj;cases hj
  refine ⟨iw,r17,aT.kU fR bf jU w5 (aT.nil (M:=[])) (by simp) (c5.sl bf) (by simp;omega) cV fun JM jT lY Ze _=>?_⟩
  rw [List.nil_append] at lY
  have VC:=lY.eG.ext
  rcases lY.wq with ⟨h0,_⟩ | ⟨la,adV,ho⟩
  ·rw [h0] at En;simp at En
  have L_:ay JM=[la]:=by rw [adV];rfl
  have hla:s9.h la=none:=lY.new la (by simp [L_])
  have hlq:la≠q:=by rintro rfl;rw [a5] at hla;cases hla
  have Xp:ag T aH JM (.int .i64 (k:Nat))=some (.ptr (some (la,0+k*5))):=by
   rw [adV]
   have:(0:Int)≤(k:Int)∧(k:Int)<(I.length:Int):=by omega
   simp only [ag,cV,pW,Option.bind_some]
   rw [if_pos this];simp
  refine ⟨bz i,(o5.ext VC).at.aB (by simp [bz]),_,_,Xp,⟨rfl,rfl⟩,?_⟩
  rw [Nat.zero_add]
  have hfl:=dS bf I
  have hk5:k*5+5≤I.length*5:=by omega
  refine bu.cN Ze ho (by rw [hfl];simp [bz];omega) fun eC QY=>?_
  have afT:eC.h la=some (.cells ((I.set k i).flatMap bz) 5 false):=by
   have e3:qJ (I.flatMap bz) (k*5) (bz i)=(I.set k i).flatMap bz:=VT bf I k i En
   exact QY.at.trans (by rw [← e3])
  have a18:Am.Own eC q (x.v.map (.int .u64)++[w,iw]):=(a5.ext VC).mut QY.mut (by simpa using hlq.symm)
  have gI:bt bz 5 eC JM (I.set k i):=.inr ⟨la,by rw [List.length_set];exact adV,afT⟩
  refine cL lY.iW.2 OS (bu.own QY.wf a18 (by simp [hvl]) fun gn VQ=>?_)
  have M:bD [q] s gn:=by
   have e18:Ext s eC:=Ext.wr (E5.trans VC) (E5.none hla) QY.mut
   exact e18.mut.trans VQ.mut
  have a21:Am.Own gn q (x.v.map (.int .u64)++[w,JM]):=by
   have:=VQ.at
   rw [fk,List.set_append_right _ _ (by simp [hvl])] at this
   simp only [List.length_map,hvl,Nat.zero_add,Nat.reduceSub,List.set_cons_succ,List.set_cons_zero] at this
   exact this
  have YI:bt aN 2 gn w x.ex:=(((b5.ext VC).mut QY.mut fun y hy hm=>by
   obtain rfl:=List.mem_singleton.1 hm
   exact SV _ (f _ hy) hla)).mut VQ.mut ((b5.ext VC).mut QY.mut (fun y hy hm=>by
   obtain rfl:=List.mem_singleton.1 hm
   exact SV _ (f _ hy) hla) |>.ne (by decide) a18)
  have wC:=gI.mut VQ.mut (by simpa [L_] using hlq)
  rw [TJ]
  refine ⟨rfl,M,la::F,⟨by rw [Yb,hs3];exact ok,by rw [Yb,hs3];exact Ie,w,_,I.set k i,by rw [Yb];exact a21,⟨b1,b2,by rw [hs3];exact YI⟩,⟨lY.iW.2,lY.iW.1,wC⟩,hI',by simp [hqF],fun y hy=>by simp [f y hy],fun y hy=>by rw [L_] at hy;simp at hy;simp [hy]⟩,fun y hy=>?_,fun y hy=>?_⟩
  ·rcases List.mem_cons.1 hy with rfl | hy
   ·exact .inr (E5.none hla)
   ·exact .inl hy
  ·by_cases e1:y=q
   ·rw [e1,a21];simp
   ·rw [VQ.eq y e1]
    by_cases e2:y=la
    ·rw [e2,afT];simp
    ·rw [QY.eq y e2]
     rcases List.mem_cons.1 hy with rfl | hy
     ·exact absurd rfl e2
     ·exact fun hn=>SV y hy (VC.none hn)
 ·have hn1:=hno ht
  have hT:M9 s9 q [iw] x.v x.ex:=⟨hvl,fun y hy n=>by obtain rfl:=List.mem_singleton.1 hy;exact sG c5 n,w,a5,b1,b2,b5.sl bn⟩
  refine ⟨_,o5.at.aB (by simp [bz]),?_⟩
  refine aa.use (VM hT ok.v ok.r ok.m (by omega) QI) ?_
  rintro r pX ⟨rfl,YB,hold,hnew⟩ w26
  cases hh:ff x.v x.ex i.dot with
  | true =>
   have e26:=hold hh
   rw [abi hn1 hh]
   exact ⟨_,rfl,af.yes (by simp) ⟨rfl,(E5.trans e26).mut,F,h.ext (E5.trans e26),fun y hy=>.inl hy,fun y hy hn=>SV y hy (e26.none hn)⟩⟩
  | false =>
   obtain ⟨TJ,Yb,hs3⟩:=VU hn1 hh
   obtain ⟨IL,hnt,w',a26,d1,d2,d3,d4⟩:=hnew hh
   have c26:bt bz 5 pX iw I:=c5.mut YB (c5.ne (by decide) a5)
   have hlq:l1 ∉ [q]:=by
    simp only [List.mem_singleton]
    rintro rfl
    have:=a5.at.inj o5.at
    have:=congrArg List.length this
    simp [hvl,bz] at this
   have K6:Am.Own pX l1 (bz i):=o5.mut YB hlq
   have r26:∀ s',Ext pX s'→av s' q (0+17)=some iw:=fun s' e=>by rw [(a26.ext e).at.av];exact GX IL w' iw
   refine ⟨_,rfl,af.no (by simp) ⟨fun vs s'=>∃ left,vs=[left,.int .i64 (pos (I.map ey.dot) i.dot:Nat)]∧aM s'∧aT bz 5 [] pX s' left (I.take (pos (I.map ey.dot) i.dot)),?_,fun m vs s'=>∃ (k:Nat) (left:AV),vs=[left,.int .i64 (k:Nat)]∧k≤I.length∧m=I.length - k∧aM s'∧aT bz 5 [] pX s' left (I.take k)∧∀ (j:Nat) y,j<k→I[j]? = some y→y.dot.lt i.dot=true,I.length,⟨0,_,rfl,by omega,rfl,w26,by simpa using aT.nil,fun j y hj=>by omega⟩,?_⟩⟩
   ·rintro mb A4 nA ⟨left,hl,NS,Mr⟩
    simp only [List.cons.injEq,AV.int.injEq,true_and,and_true] at hl
    obtain ⟨rfl,rfl⟩:=hl
    have CW:pos (I.map ey.dot) i.dot≤I.length:=by have:=L0 (I.map ey.dot) i.dot;simpa using this
    have Zx:(I.take (pos (I.map ey.dot) i.dot)).length≤I.length:=by rw [List.length_take];omega
    refine ⟨_,(K6.ext Mr.eG.ext).at.aB (by simp [bz]),aT.iX fR bf jU NS Mr (by simp) i (by omega) fun QS k5 Kc w37 _=>?_⟩
    obtain ⟨Zj,k1,k2⟩:=((c26.ext Kc.eG.ext).sl bf).from bf cV pW c2 CW .i64
    refine ⟨iw,r26 _ Kc.eG.ext,Zj,k1,aT.kU fR bf jU w37 Kc (by simp) k2 (by simp;omega) cV fun y4 CR Dl w43 _=>?_⟩
    have Za:I.take (pos (I.map ey.dot) i.dot)++[i]++I.drop (pos (I.map ey.dot) i.dot)=I.take (pos (I.map ey.dot) i.dot)++i::I.drop (pos (I.map ey.dot) i.dot):=by simp
    rw [Za] at Dl
    have a43:=a26.ext Dl.eG.ext
    refine cL Dl.iW.2 OS (bu.own w43 a43 (by simp [IL]) fun qQ P=>?_)
    have a46:Am.Own qQ q ((compact x.v (ins x.ex i.dot)).1.map (.int .u64)++[w',y4]):=by
     have:=P.at
     rw [fk,List.set_append_right _ _ (by simp [IL])] at this
     simp only [List.length_map,IL,Nat.zero_add,Nat.reduceSub,List.set_cons_succ,List.set_cons_zero] at this
     exact this
    have afU:pX.h q≠none:=by rw [a26];simp
    have g46:=Dl.wq.mut P.mut fun y hy hm=>by
     obtain rfl:=List.mem_singleton.1 hm
     exact afU (Dl.new _ hy)
    have d46:=(d3.ext Dl.eG.ext).mut P.mut ((d3.ext Dl.eG.ext).ne (by decide) a43)
    have M:bD [q] s qQ:=E5.mut.trans (YB.trans (Dl.eG.ext.mut.trans P.mut))
    have ok2:=vF o hi
    have hnone:∀ y,pX.h y=none→s9.h y=none:=fun y hy=>by
     cases hq:s9.h y with
     | none=>rfl
     | some ob =>
      by_cases e:y=q
      ·subst e;exact absurd hy afU
      ·rw [YB.1 y ob (by simpa using e) hq] at hy;cases hy
    rw [TJ]
    refine ⟨rfl,M,ay w'++(ay y4++F),⟨ok2.ok,ok2.Ie,w',y4,_,by rw [Yb];exact a46,⟨d1,d2,by rw [hs3];exact d46⟩,⟨Dl.iW.2,Dl.iW.1,g46⟩,hI.ins o hi hh,by simp [hqF],fun y hy=>by simp [hy],fun y hy=>by simp [hy]⟩,fun y hy=>?_,fun y hy=>?_⟩
    ·rcases List.mem_append.1 hy with hy | hy
     ·exact .inr (E5.none (d4 y hy))
     ·rcases List.mem_append.1 hy with hy | hy
      ·exact .inr (E5.none (hnone y (Dl.new y hy)))
      ·exact .inl hy
    ·rcases List.mem_append.1 hy with hy | hy
     ·exact d46.there y hy
     ·rcases List.mem_append.1 hy with hy | hy
      ·exact g46.there y hy
      ·by_cases e:y=q
       ·rw [e,a46];simp
       ·rw [P.eq y e]
        intro hn
        exact SV y hy (hnone y (Dl.eG.ext.none hn))
   ·rintro m left n wv ⟨k,left',hk,h6,rfl,w52,JY,hlt⟩
    simp only [List.cons.injEq,AV.int.injEq,true_and,and_true] at hk
    obtain ⟨rfl,rfl⟩:=hk
    have c52:=c26.ext JY.eG.ext
    have Zx:(I.take k).length≤I.length:=by rw [List.length_take];omega
    have fin:(∀ y,I[k]? = some y→y.dot.lt i.dot=false)→pos (I.map ey.dot) i.dot=k:=fun hq=>by
     refine pos_eq (by simpa using h6) (fun j d hj hd=>?_) fun d hd=>?_
     ·rw [List.getElem?_map,Option.map_eq_some_iff] at hd
      obtain ⟨y,hy,rfl⟩:=hd
      exact hlt j y hj hy
     ·rw [List.getElem?_map,Option.map_eq_some_iff] at hd
      obtain ⟨y,hy,rfl⟩:=hd
      exact hq y hy
    refine ⟨iw,r26 _ JY.eG.ext,_,(c52.sl bf).cG cV _,af.dec (fun hl=>?_) (fun hge=>?_)⟩
    ·obtain ⟨y,hy⟩:=cW (l:=I) (i:=k) (by omega)
     obtain ⟨ly,oy,g8,g9⟩:=(c52.sl bf).ix (by decide) bf cV pW hy
     refine ⟨iw,r26 _ JY.eG.ext,ly,oy,g8 _,_,sF ((g9 _ (Ext.refl _)).2) (by decide),_,(K6.ext JY.eG.ext).at.aB (by simp [bz]),?_⟩
     refine aa.use (zD y.dot i.dot _) ?_
     rintro r s65 ⟨rfl,e65⟩ w65
     refine ⟨_,rfl,af.mk (fun hb=>?_) (fun hb=>?_)⟩
     ·have ht:I.take (k+1)=I.take k++[y]:=by rw [List.take_add_one,hy];rfl
      refine ⟨iw,r26 _ (JY.eG.ext.trans e65),ly,oy,g8 _,_,(g9 _ e65).2,aT.iX fR bf jU w65 (JY.step e65) (by simp) y (by omega) fun v' s' g' CV _=>?_⟩
      refine ⟨I.length - (k+1),by omega,k+1,v',by rw [aV (by omega)];rfl,by omega,rfl,CV,by rw [ht];exact g',fun j z hj hz=>?_⟩
      rcases Nat.lt_or_ge j k with h | h
      ·exact hlt j z h hz
      ·obtain rfl:j=k:=by omega
       rw [hy] at hz;obtain rfl:=Option.some.inj hz;exact hb
     ·have hp:=fin fun z hz=>by rw [hy] at hz;obtain rfl:=Option.some.inj hz;exact hb
      exact ⟨left,by rw [hp],w65,by rw [hp];exact JY.step e65⟩
    ·have hp:=fin fun z hz=>by rw [List.getElem?_eq_none (by omega)] at hz;cases hz
     exact ⟨left,by rw [hp],w52,by rw [hp];exact JY⟩
end
end Go.Proofs.YtohgmogbabkkeaaGreat
end

section
set_option maxRecDepth 100000
set_option maxHeartbeats 4000000
namespace Go.Proofs.YtohgmogbabkkeaaGreat
open Go.Am
end Go.Proofs.YtohgmogbabkkeaaGreat
end

section
namespace Go.Proofs.YtohgmogbabkkeaaGreat
open Go.Am Go.au Go.aC
def KD (x:aI) (k:Key) (l:List aK):Prop:=dR l∧∀ d,d∈l↔x.live d=some k
theorem KD.uniq {x:aI} {k:Key} {l l':List aK} (h:KD x k l) (h':KD x k l'):l=l':=PY h.1 h'.1 fun d=>by rw [h.2,h'.2]
theorem qG.kd {x:aI} {k:Key} {l:List aK} (h:qG x k l):KD x k l:=⟨h.Xf,h.mem⟩
theorem KD.has {x:aI} {B:Nat} (o:oB x B) {k:Key} {l:List aK} (h:KD x k l) {d:aK} (hd:d∈l):x.has d=true:=(o.lv d k ((h.2 d).1 hd)).1
theorem KD.len {x:aI} {B:Nat} (o:oB x B) {k:Key} {l:List aK} (h:KD x k l):l.length≤B:=by
 obtain ⟨U,hU,hm⟩:=o.sz
 have:=lO (jV h.1) fun d hd=>hm d (.inr (.inl (by rw [(h.2 d).1 hd];rfl)))
 omega
def qe (k:Key) (i:ey):Bool:=!i.gone&&decide (i.key=k)
theorem Li {x:aI} {I:List ey} (h:Items x I) (k:Key):KD x k ((I.filter (qe k)).map ey.dot):=by
 refine ⟨h.Xf.sub (List.Sublist.map _ List.filter_sublist),fun d=>?_⟩
 simp only [List.mem_map,List.mem_filter,qe,Bool.and_eq_true,Bool.not_eq_true',decide_eq_true_eq]
 constructor
 ·rintro ⟨i,⟨hi,hg,hk⟩,rfl⟩
  have:=(h.mem i).1 hi
  unfold aI.item at this
  rw [hg] at this
  rw [this,hk]
 ·intro hd
  exact ⟨⟨d,k,false⟩,⟨(h.mem _).2 hd,rfl,rfl⟩,rfl⟩
section
variable {F:List Nat} {s:AS} {q:Nat} {x:aI} {B:Nat}
theorem qd.open (h:qd F s q x):∃ w iw I,At s q (x.v.map (.int .u64)++[w,iw])∧iw≠.emp∧bt bz 5 s iw I∧Items x I∧(∀ s',Ext s s'→av s' q (0+17)=some iw)∧M9 s q [iw] x.v x.ex:=by
 obtain ⟨ok,Ie,w,iw,I,a,⟨b1,b2,b3⟩,⟨c1,c2,c3⟩,hI,hqF,f,g⟩:=h
 exact ⟨w,iw,I,a.at,c2,c3,hI,fun s' e=>by rw [(a.ext e).at.av];exact GX ok.v.len w iw,ok.v.len,fun y hy n=>by obtain rfl:=List.mem_singleton.1 hy;exact sG c3 n,w,a,b1,b2,b3.sl bn⟩
theorem PZ (h:qd F s q x) (o:oB x B) (hB:B≤1000) (k:Key):aa Tryz.prog dG [.ptr (some (q,0)),.agg (fY k)] s fun v s'=>∃ l,KD x k l∧aT bz 5 [] s s' v (l.map eV):=by
 obtain ⟨w,iw,I,a,c2,c3,hI,hr,_⟩:=h.open
 have hlen:=hI.len o
 refine aa.pre fun hw=>D5 _ _ _ _ ⟨rfl,aj.intro hw rfl fun l1 s2 F2=>⟨fun m vs s'=>∃ (i:Nat) (v:AV),vs=[v,.int .i64 (i:Nat)]∧i≤I.length∧m=I.length - i∧aM s'∧aT bz 5 [] s2 s' v ((((I.take i).filter (qe k)).map ey.dot).map eV),I.length,⟨0,_,rfl,by omega,rfl,F2.wf,by simpa using aT.nil⟩,?_⟩⟩
 rintro m v6 n s8 ⟨i,v',hi,h6,rfl,w8,g8⟩
 simp only [List.cons.injEq,AV.int.injEq,true_and,and_true] at hi
 obtain ⟨rfl,rfl⟩:=hi
 have E8:=F2.ext.trans g8.eG.ext
 have c8:=(c3.ext E8).sl bf
 refine ⟨iw,hr _ E8,_,c8.cG cV _,af.dec (fun hlt=>?_) (fun hge=>?_)⟩
 ·obtain ⟨y,hy⟩:=cW (l:=I) (i:=i) (by omega)
  obtain ⟨ly,oy,k8,k9⟩:=c8.ix (by decide) bf cV pW hy
  have hfl:=List.length_filter_le (qe k) (I.take i)
  have Zx:=List.length_take_le i I
  have ht:((((I.take (i+1)).filter (qe k)).map ey.dot).map eV)=((((I.take i).filter (qe k)).map ey.dot).map eV)++if qe k y=true then [eV y.dot] else []:=by
   rw [List.take_add_one,hy,List.filter_append,Option.toList_some,List.map_append,List.map_append]
   congr 1
   cases hq:qe k y <;> simp [List.filter_cons,hq]
  refine ⟨fun vs s'=>s'=s8∧vs=[.bool (qe k y)],?_,iw,hr _ E8,ly,oy,k8 _,y.gone,(k9 _ (Ext.refl _)).1 4 (by decide),af.mk (fun hg=>⟨iw,hr _ E8,ly,oy,k8 _,fY y.key,abh ((k9 _ (Ext.refl _)).2) 2 2 (by decide),_,(F2.own.ext g8.eG.ext).at.aB (by simp [fY]),_,Nl y.key k,rfl,by simp only [Bool.not_eq_true'] at hg;simp [qe,hg]⟩) (fun hg=>⟨rfl,by simp only [Bool.not_eq_false'] at hg;simp [qe,hg]⟩)⟩
  rintro b f_ ⟨rfl,hb⟩
  simp only [List.cons.injEq,AV.bool.injEq,and_true] at hb
  subst hb
  refine af.mk (fun hb=>?_) (fun hb=>?_)
  ·refine ⟨iw,hr _ E8,ly,oy,k8 _,_,sF ((k9 _ (Ext.refl _)).2) (by decide),_,IB y.dot,aT.iX fR bf jU w8 g8 (by simp) (eV y.dot) (by simp;omega) fun v' s' g' w' _=>?_⟩
   exact ⟨I.length - (i+1),by omega,i+1,v',by rw [aV (by omega)];rfl,by omega,rfl,w',by rw [ht,if_pos hb];exact g'⟩
  ·exact ⟨I.length - (i+1),by omega,i+1,v6,by rw [aV (by omega)];rfl,by omega,rfl,w8,by rw [ht,if_neg (by rw [hb];simp),List.append_nil];exact g8⟩
 ·rw [List.take_of_length_le (by omega)] at g8
  exact ⟨_,Li hI k,g8.wq,F2.ext.mut.trans g8.eG,fun la hla=>F2.ext.none (g8.new la hla)⟩
theorem qd.Zy {s':AS} {v:AV} {l:List ey} (h:qd F s q x) (hs:Sl bz 5 s v l) (m:bD [q] s s'):Sl bz 5 s' v l:=by
 obtain ⟨ok,Ie,w,iw,I,a,⟨b1,b2,b3⟩,⟨c1,c2,c3⟩,_⟩:=h
 refine IC a (fun c hc n=>?_) hs m
 rcases List.mem_append.1 hc with hc | hc
 ·obtain ⟨y,_,rfl⟩:=List.mem_map.1 hc;simp
 ·simp only [List.mem_cons,List.not_mem_nil,or_false] at hc
  rcases hc with rfl | rfl
  ·exact sG b3 n
  ·exact sG c3 n
theorem abj (hw : aM s) (h : qd F s q x) (o : oB x B) (As : ∀ y ∈ F, s.h y ≠ none) {v : AV} {L : List ey} (hv : Sl bz 5 s v L) (hB : B + L.length ≤ 1000) (hL : ∀ i ∈ L, i.may = true) {K : AS → Prop}
    (hK : ∀ s' F', qd F' s' q (x.er L).2 → (∀ y ∈ F', y ∈ F ∨ s.h y = none) → (∀ y ∈ F', s'.h y ≠ none) → bD [q] s s' → Sl bz 5 s' v L → aM s' → K s') :
    bC fun YA Mp => YA Mp [(.int .i64 0)] s ∧
     ∀ m24 : Nat, ∀ ql : Int, ∀ pX : AS, YA m24 [(.int .i64 ql)] pX →
     aW .i64 (aP T aH v pX) fun EG => af (decide ((ql : Int) < EG))
     (bH (ag T aH v (.int .i64 ql)) fun Dh Jy => aR (aB pX Dh Jy 5) fun z7 => aa Tryz.prog kX [(.ptr (some (q, 0))), (.agg z7)] pX fun wE lS => ∃ b33 : Bool, wE = .bool b33 ∧ (∃ m', m' < m24 ∧ YA m' [(.int .i64 (IntKind.wrap .i64 (ql + 1)))] lS))
     (K pX) := by
  have hstep : ∀ (i : Nat) y, L[i]? = some y → (x.er (L.take (i + 1))).2 = ((x.er (L.take i)).2.mg y).2 := by
    intro i y hy
    unfold aI.er
    rw [List.take_add_one, hy, Option.toList_some, List.foldl_append]
    rfl
  refine ⟨fun m vs s' => ∃ i : Nat, vs = [.int .i64 (i : Nat)] ∧ i ≤ L.length ∧ m = L.length - i ∧ aM s' ∧ bD [q] s s' ∧ Sl bz 5 s' v L ∧ ∃ F', qd F' s' q (x.er (L.take i)).2 ∧ (∀ y ∈ F', y ∈ F ∨ s.h y = none) ∧ ∀ y ∈ F', s'.h y ≠ none, L.length, ⟨0, rfl, by omega, rfl, hw, bD.refl _ _, hv, F, h, fun y hy => .inl hy, As⟩, ?_⟩
  rintro m n pX ⟨i, hi, h6, rfl, w26, YB, IL, F', hR, hn, ht⟩
  simp only [List.cons.injEq, AV.int.injEq, true_and, and_true] at hi
  subst hi
  refine ⟨_, IL.cG cV _, af.dec (fun hlt => ?_) (fun hge => ?_)⟩
  · obtain ⟨y, hy⟩ := cW (l := L) (i := i) (by omega)
    obtain ⟨ly, oy, k8, k9⟩ := IL.ix (by decide) bf cV pW hy
    have ok : oB (x.er (L.take i)).2 (B + (L.take i).length) := o.er _ fun j hj => hL j (List.mem_of_mem_take hj)
    have Zx := List.length_take_le i L
    have hti : (L.take i).length ≤ L.length := by rw [List.length_take]; omega
    refine ⟨ly, oy, k8 _, _, (k9 _ (Ext.refl _)).2, ?_⟩
    refine aa.use (SU hR ok (by omega) ht y (hL y (List.mem_of_getElem? hy))) ?_
    rintro r lS ⟨rfl, m32, F2, hR2, hn2, ht2⟩ YM
    refine ⟨_, rfl, L.length - (i + 1), by omega, i + 1, by rw [aV (by omega)]; rfl, by omega, rfl, YM, YB.trans m32, hR.Zy IL m32, F2, by rw [hstep i y hy]; exact hR2, fun z hz => ?_, ht2⟩
    have hqs : s.h q ≠ none := As q h.qF
    rcases hn2 z hz with h1 | h1
    · exact hn z h1
    · right
      cases hq : s.h z with
      | none => rfl
      | some ob =>
        by_cases e : z = q
        · subst e
          exact absurd h1 (ht _ hR.qF)
        · rw [YB.1 z ob (by simpa using e) hq] at h1; cases h1
  · rw [List.take_of_length_le (by omega)] at hR
    exact hK pX F' hR hn ht YB IL w26
theorem SW (h:qd F s q x) (o:oB x B) (As:∀ y∈F,s.h y≠none) (hB:B≤450) (k:Key) (d:aK) (hk:k.may=true) (hd:d.may=true) :
  aa Tryz.prog pQ [.ptr (some (q,0)),.agg (fY k),.agg (aN d)] s fun v s'=>∃ l,KD x k l∧Sl bz 5 s' v (⟨d,k,false⟩::l.map eV)∧bD [q] s s'∧∃ F',qd F' s' q (x.er (⟨d,k,false⟩::l.map eV)).2∧(∀ y∈F',y∈F∨s.h y=none)∧∀ y∈F',s'.h y≠none:=by
 refine aa.pre fun hw=>Gp _ _ _ _ _ ⟨rfl,aj.intro hw rfl fun l1 s2 F2=>⟨rfl,aj.intro F2.wf rfl fun l3 s4 F4=>?_⟩⟩
 have E4:=F2.ext.trans F4.ext
 have h4:=h.ext E4
 obtain ⟨w0,iw0,I0,_,_,_,hI0,_⟩:=h.open
 have ZB:=Li hI0 k
 generalize hl0:(I0.filter (qe k)).map ey.dot=l at ZB
 refine ⟨fun z _ v s'=>(z=3→∃ l,v=.slc (some (l,0)) 1 1 true∧At s' l (bz ⟨d,k,false⟩))∧(z=6→Sl bz 5 s' v (l.map eV)),fun z _ v=>z=3→∃ l,v=.slc (some (l,0)) 1 1 true,?_,_,F4.own.at.aB (by simp [aN]),_,(F2.own.ext F4.ext).at.aB (by simp [fY]),_,IF d k,fun s8 e8 w8 _=>?_,⟨.slc (some (0,0)) 1 1 true,fun _=>⟨0,rfl⟩⟩,fun i_ ajW=>⟨_,(F2.own.ext F4.ext).at.aB (by simp [fY]),fun jT VC Ze _=>?_,⟨.undef,(fun h=>by cases h)⟩,fun o_ _ eC e18 RX hS=>?_⟩⟩
 ·rintro z ks v s s' e ⟨h1,h2⟩
  refine ⟨fun hq=>?_,fun hq=>(h2 hq).ext e⟩
  obtain ⟨l,a,b⟩:=h1 hq
  exact ⟨l,a,b.ext e⟩
 ·exact ⟨_,kD fR (bf _) (jU _),aj.intro w8 rfl fun nB fI yO=>⟨yO.ext,⟨(fun _=>⟨nB,rfl,yO.own.at⟩),(fun h=>by cases h)⟩,fun _=>⟨nB,rfl⟩⟩⟩
 ·refine (PZ (h4.ext VC) o (by omega) k).mono ?_
  rintro yV kr ⟨l',kd',g⟩
  obtain rfl:=kd'.uniq ZB
  exact ⟨g.eG.ext,⟨(fun h=>by cases h),fun _=>g.sl bf⟩,(fun h=>by cases h)⟩
 obtain ⟨GO,rfl,hi⟩:=hS.1.1 rfl
 have hg:=hS.2.1.2 rfl
 have Rf:=ZB.len o
 refine IE RX hi hg (by simp;omega) fun v20 gn aiL w21 e21=>?_
 have E21:=E4.trans (e18.trans e21)
 have hmay:∀ i∈(⟨d,k,false⟩:ey)::l.map eV,i.may=true:=by
  intro i hi
  rcases List.mem_cons.1 hi with rfl | hi
  ·simp [ey.may,hk,hd]
  ·obtain ⟨y,hy,rfl⟩:=List.mem_map.1 hi
   exact yP (aI.vE (ZB.has o hy))
 refine abj w21 (h.ext E21) o (fun y hy hn=>As y hy (E21.none hn)) aiL (by simp;omega) hmay fun s' F' hR hn ht m hs w=>?_
 exact ⟨l,ZB,hs,E21.mut.trans m,F',hR,fun y hy=>(hn y hy).imp id fun h=>E21.none h,ht⟩
end
end Go.Proofs.YtohgmogbabkkeaaGreat
end

section
namespace Go.Proofs.YtohgmogbabkkeaaGreat
open Go.Am Go.au Go.aC
section
variable {F:List Nat} {s:AS} {p:Nat} {x:aI} {B:Nat}
end
/-! ### the reference's live items and keys -/
section
variable {F:List Nat} {s:AS} {q:Nat} {x:aI} {B:Nat}
def kh (I:List ey):List ey:=I.filter fun i=>!i.gone
theorem P0 (h:qd F s q x) (o:oB x B) (hB:B≤1000):aa Tryz.prog nS [.ptr (some (q,0))] s fun v s'=>∃ I,Items x I∧aT bz 5 [] s s' v (kh I):=by
 obtain ⟨w,iw,I,a,c2,c3,hI,hr,_⟩:=h.open
 have hlen:=hI.len o
 refine aa.pre fun hw=>D2 _ _ _ ⟨fun m vs s'=>∃ (i:Nat) (v:AV),vs=[v,.int .i64 (i:Nat)]∧i≤I.length∧m=I.length - i∧aM s'∧aT bz 5 [] s s' v (kh (I.take i)),I.length,⟨0,_,rfl,by omega,rfl,hw,by simpa [kh] using aT.nil⟩,?_⟩
 rintro m v4 n s6 ⟨i,v',hi,h6,rfl,w6,g6⟩
 simp only [List.cons.injEq,AV.int.injEq,true_and,and_true] at hi
 obtain ⟨rfl,rfl⟩:=hi
 have E6:=g6.eG.ext
 have c6:=(c3.ext E6).sl bf
 refine ⟨iw,hr _ E6,_,c6.cG cV _,af.dec (fun hlt=>?_) (fun hge=>?_)⟩
 ·obtain ⟨y,hy⟩:=cW (l:=I) (i:=i) (by omega)
  obtain ⟨ly,oy,k8,k9⟩:=c6.ix (by decide) bf cV pW hy
  have hfl:=List.length_filter_le (fun i:ey=>!i.gone) (I.take i)
  have Zx:=List.length_take_le i I
  have ht:kh (I.take (i+1))=kh (I.take i)++if y.gone=false then [y] else []:=by
   unfold kh
   rw [List.take_add_one,hy,List.filter_append,Option.toList_some]
   congr 1
   cases hq:y.gone <;> simp [List.filter_cons,hq]
  refine ⟨iw,hr _ E6,ly,oy,k8 _,y.gone,(k9 _ (Ext.refl _)).1 4 (by decide),af.mk (fun hg=>?_) (fun hg=>?_)⟩
  ·refine ⟨iw,hr _ E6,ly,oy,k8 _,_,(k9 _ (Ext.refl _)).2,aT.iX fR bf jU w6 g6 (by simp) y (by unfold kh;omega) fun v' s' g' w' _=>?_⟩
   exact ⟨I.length - (i+1),by omega,i+1,v',by rw [aV (by omega)];rfl,by omega,rfl,w',by rw [ht,if_pos (by simpa using hg)];exact g'⟩
  ·exact ⟨I.length - (i+1),by omega,i+1,v4,by rw [aV (by omega)];rfl,by omega,rfl,w6,by rw [ht,if_neg (by simpa using hg),List.append_nil];exact g6⟩
 ·rw [List.take_of_length_le (by omega)] at g6
  exact ⟨I,hI,g6⟩
theorem Lj {I:List ey} (h:Items x I) (i:ey):i∈kh I↔i.gone=false∧x.live i.dot=some i.key:=by
 unfold kh
 rw [List.mem_filter,h.mem]
 unfold aI.item
 cases i.gone <;> simp
end
end Go.Proofs.YtohgmogbabkkeaaGreat
end

section
set_option maxRecDepth 100000
set_option maxHeartbeats 4000000
namespace Go.Proofs.YtohgmogbabkkeaaGreat
open Go.Am
end Go.Proofs.YtohgmogbabkkeaaGreat
end

section
namespace Go.Proofs.YtohgmogbabkkeaaGreat
open Go.Am Go.au Go.aC
section
variable {s0 s s':AS} {p q:Nat} {x y:aI} {B:Nat}
end
end Go.Proofs.YtohgmogbabkkeaaGreat
end

section
namespace Go.Proofs.YtohgmogbabkkeaaGreat
open Go.Am Go.au Go.aC Go.ChangeShapes Go.WideShapes Go.ChangeAt Go.RowKit
end Go.Proofs.YtohgmogbabkkeaaGreat
end

section
namespace Go.Proofs.YtohgmogbabkkeaaGreat
open Go.Am Go.au Go.aC Go.ChangeShapes Go.WideShapes Go.ChangeAt Go.RowKit
end Go.Proofs.YtohgmogbabkkeaaGreat
end

section
namespace Go.Proofs.YtohgmogbabkkeaaGreat
open Go.Am Go.au Go.aC
section
variable {s0 s:AS} {p q:Nat} {x:aI} {B:Nat} {F G:List Nat}
end
end Go.Proofs.YtohgmogbabkkeaaGreat
end

section
namespace Go.Am
end Go.Am
namespace Go.Proofs.YtohgmogbabkkeaaGreat
open Go.Am Go.au Go.aC
section
variable {s0 s s':AS} {p q:Nat} {x y:aI} {B:Nat}
end
end Go.Proofs.YtohgmogbabkkeaaGreat
end

section
namespace Go.Proofs.YtohgmogbabkkeaaGreat
open Go.Am Go.au Go.aC
end Go.Proofs.YtohgmogbabkkeaaGreat
end

section
set_option maxRecDepth 100000
set_option maxHeartbeats 4000000
namespace Go.Proofs.YtohgmogbabkkeaaGreat
open Go.Am
end Go.Proofs.YtohgmogbabkkeaaGreat
end

section
namespace Go.Proofs.YtohgmogbabkkeaaGreat
open Go.Am Go.au Go.aC
/-! ### plainly -/
/-! ### at a set -/
section
variable {s0 s:AS} {F:List Nat} {p:Nat} {x:aI} {B:Nat}
end
end Go.Proofs.YtohgmogbabkkeaaGreat
end

section
namespace Go.Proofs.YtohgmogbabkkeaaGreat
open Go.Am Go.au Go.aC
/-! ### plainly -/
section
variable {v:List Int} {ex:List aK} {L:List ey} {x:aI}
end
/-! ### in memory -/
end Go.Proofs.YtohgmogbabkkeaaGreat
end

section
namespace Go.Proofs.YtohgmogbabkkeaaGreat
open Go.Am Go.au Go.aC
end Go.Proofs.YtohgmogbabkkeaaGreat
end

section
namespace Go.Proofs.YtohgmogbabkkeaaGreat.SI
open Go.Am Go.au Go.aC Go.au.SI
section
variable {s0 s:AS} {a:AV} {l:List ey} {g:FuncId} {cap:List AV} {P:ey→Bool}
end
end Go.Proofs.YtohgmogbabkkeaaGreat.SI
end

section
namespace Go.Proofs.YtohgmogbabkkeaaGreat
open Go.Am Go.au Go.aC
/-! ### buckets -/
section
variable {F G:List Nat} {s:AS} {p q:Nat} {x:aI} {B:Nat}
end
/-! ### dests -/
structure GY where
 dot:aK
 dev:List UInt8
 deriving DecidableEq
def rY (e:GY):List AV:=[.int .i64 e.dot.r,.int .u64 e.dot.c,.str e.dev]
theorem d_ (e:GY):(rY e).length=3:=rfl
theorem ux (e:GY):(rY e).all AV.one=true:=rfl
theorem uy:C5 T bR xO 3 32:=⟨fH,De,ac3,⟨_,_,aaP,rfl,rfl⟩,by decide,by decide⟩
theorem Lk (d:aK) (t:List UInt8):aU T xO [(0,.agg (aN d)),(1,.str t)]=some (.agg (rY ⟨d,t⟩)):=by kernel_rfl
structure sH (x:aI) (t:List UInt8) (L:List GY):Prop where
 Xf:dR (L.map GY.dot)
 mem:∀ e,e∈L↔x.live e.dot=some ⟨t,e.dev⟩
theorem VV (d:aK) (k:Key) {c:Nat} {t:List UInt8} {s:AS} (hc:At s c [.str t]):aa Tryz.prog kj [.agg (aN d),.agg (fY k),.ptr (some (c,0))] s fun v s'=>v=.bool (k.t==t)∧Ext s s':=by
 refine aa.pre fun hw=>zn _ _ _ _ _ ⟨rfl,aj.intro hw rfl fun l1 s2 F2=>⟨rfl,aj.intro F2.wf rfl fun l3 s4 F4=>?_⟩⟩
 have e4:=F2.ext.trans F4.ext
 exact ⟨k.t,by rw [F4.own.at.av];rfl,t,by rw [(hc.ext e4).av];rfl,rfl,e4⟩
section
variable {F G:List Nat} {s:AS} {p q:Nat} {x:aI} {B:Nat}
theorem aT.back {α:Type} {f:α→List AV} {sz:Nat} {s0 s1 s:AS} {v:AV} {l:List α} (h:aT f sz [] s1 s v l) (e:Ext s0 s1):aT f sz [] s0 s v l:=⟨h.wq,e.mut.trans h.eG,fun la hla=>e.none (h.new la hla)⟩
theorem ZC (h:gJ F s p x) (o:oB x B) (hB:B≤1000) (t:List UInt8) :
  aa Tryz.prog cQ [.ptr (some (p,0)),.str t] s fun v s'=>∃ L,sH x t L∧aT rY 3 [] s s' v L∧L.length≤x.nl:=by
 obtain ⟨Xm,Em⟩:=h.bnd o
 refine aa.pre fun hw=>Cl _ _ _ _ (aj.intro hw rfl fun l1 s2 F2=>?_)
 refine aa.use (pB (h.ext F2.ext)) ?_
 rintro v s4 ⟨rfl,rfl⟩ w4
 have c4:=F2.own.at
 refine ⟨_,rfl,af.no rfl ?_⟩
 refine aa.use (Ns (P:=fun _ k=>k.t==t) (h.ext F2.ext) (by omega) fun d k s' e w=>VV d k (c4.ext e)) ?_
 rintro v6 s7 ⟨D,g7,hris,hD,hDl⟩ w7
 have h7:=h.ext (F2.ext.trans g7.eG.ext)
 have s7D:=g7.sl bn
 have key:∀ d∈D,∃ k,x.live d=some k∧k.t=t:=by
  intro d hd
  have:=(hD d).1 hd
  unfold aI.held at this
  cases hx:x.live d with
  | none=>rw [hx] at this;cases this
  | some k=>rw [hx] at this;exact ⟨k,rfl,by simpa using this⟩
 let f:aK→GY:=fun d=>⟨d,((x.live d).getD ⟨[],[]⟩).d⟩
 refine ⟨_,s7D.cG bG _,fun m vs s'=>∃ (i:Nat) (v:AV),vs=[v,.int .i64 (i:Nat)]∧i≤D.length∧m=D.length - i∧aM s'∧aT rY 3 [] s7 s' v ((D.take i).map f),D.length,⟨0,_,rfl,by omega,rfl,w7,by simpa using aT.nil⟩,?_⟩
 rintro m i_ n jT ⟨i,v',hi,h6,rfl,Ze,lY⟩
 simp only [List.cons.injEq,AV.int.injEq,true_and,and_true] at hi
 obtain ⟨rfl,rfl⟩:=hi
 refine af.dec (fun hlt=>?_) (fun hge=>?_)
 ·obtain ⟨d,hx⟩:=cW (l:=D) (i:=i) (by omega)
  obtain ⟨la,oa,k8,k9⟩:=s7D.ix (by decide) bn bG jZ hx
  refine ⟨la,oa,k8 _,_,(k9 _ lY.eG.ext).2,lN Ze rfl rfl rfl fun GO fN NU=>?_⟩
  have E20:=lY.eG.ext.trans NU.ext
  obtain ⟨_,_,_,pc,lm,tm,a,_,_,_,_,_,⟨es,c,hm,hg,_⟩,_⟩:=h7.ext E20
  obtain ⟨k,hk,hkt⟩:=key d (List.mem_of_getElem? hx)
  have mA:dI T bY (.map (some lm)) (.agg (aN d)) false fN=some (.agg (fY k)):=by
   have:=hm.find vD d false
   rw [hg,hk] at this
   exact this
  have hfd:f d=⟨d,k.d⟩:=by simp [f,hk]
  have ht:(D.take (i+1)).map f=(D.take i).map f++[⟨d,k.d⟩]:=by rw [List.take_add_one,hx,Option.toList_some,List.map_append,← hfd];rfl
  have afV:=NU.own.at
  refine ⟨_,afV.aB (by simp [aN]),some lm,by rw [a.at.av];rfl,_,afV.aB (by simp [aN]),_,mA,k.d,rfl,_,Lk d k.d,?_⟩
  refine aT.iX uy d_ ux NU.wf (lY.step NU.ext) (by simp) ⟨d,k.d⟩ (by simp;omega) fun v' s' g' w' _=>?_
  exact ⟨D.length - (i+1),by omega,i+1,v',by rw [aV (by omega)];rfl,by omega,rfl,w',by rw [ht];exact g'⟩
 ·rw [List.take_of_length_le (by omega)] at lY
  refine ⟨D.map f,⟨?_,fun e=>?_⟩,aT.back lY (F2.ext.trans g7.eG.ext),by rw [List.length_map];omega⟩
  ·rw [List.map_map]
   have:D.map (GY.dot∘f)=D:=by
    conv=>rhs;rw [← List.map_id D]
    rfl
   rw [this];exact hris
  ·rw [List.mem_map]
   constructor
   ·rintro ⟨d,hd,rfl⟩
    obtain ⟨k,hk,hkt⟩:=key d hd
    simp only [f,hk]
    cases k;simp only at hkt;subst hkt;rfl
   ·intro he
    refine ⟨e.dot,(hD _).2 (by simp [aI.held,he]),?_⟩
    simp only [f,he]
    rfl
theorem Nt (h:qd G s q x) (o:oB x B) (hB:B≤1000) (t:List UInt8) :
  aa Tryz.prog cR [.ptr (some (q,0)),.str t] s fun v s'=>∃ L,sH x t L∧aT rY 3 [] s s' v L∧L.length≤B:=by
 refine Co _ _ _ _ ?_
 refine aa.use (P0 h o hB) ?_
 rintro v1 s2 ⟨I,hI,g2⟩ w2
 have hIl:=hI.len o
 have hLl:(kh I).length≤I.length:=List.length_filter_le _ _
 have s2I:=g2.sl bf
 let f:ey→List GY:=fun i=>if i.key.t=t then [⟨i.dot,i.key.d⟩] else []
 have ab_:∀ l:List ey,(l.flatMap f).length≤l.length:=by
  intro l
  induction l with
  | nil=>simp
  | cons a l ih =>
   have h1:(f a).length≤1:=by simp only [f];split <;> simp
   rw [List.flatMap_cons,List.length_append,List.length_cons]
   omega
 refine ⟨fun m vs s'=>∃ (i:Nat) (v:AV),vs=[v,.int .i64 (i:Nat)]∧i≤(kh I).length∧m=(kh I).length - i∧aM s'∧aT rY 3 [] s2 s' v (((kh I).take i).flatMap f),(kh I).length,⟨0,_,rfl,by omega,rfl,w2,by simpa using aT.nil⟩,?_⟩
 rintro m i_ n jT ⟨i,v',hi,h6,rfl,Ze,lY⟩
 simp only [List.cons.injEq,AV.int.injEq,true_and,and_true] at hi
 obtain ⟨rfl,rfl⟩:=hi
 refine ⟨_,s2I.cG cV _,af.dec (fun hlt=>?_) (fun hge=>?_)⟩
 ·obtain ⟨j,hx⟩:=cW (l:=kh I) (i:=i) (by omega)
  obtain ⟨la,oa,k8,k9⟩:=s2I.ix (by decide) bf cV pW hx
  have step:=List.take_add_one (l:=kh I) (i:=i)
  rw [hx,Option.toList_some] at step
  have hk:=k9 _ lY.eG.ext
  refine ⟨la,oa,k8 _,j.key.t,hk.1 2 (by decide),?_⟩
  have hfl:=ab_ ((kh I).take i)
  have Zx:=List.length_take_le i (kh I)
  refine af.mk (fun hb=>?_) (fun hb=>?_)
  ·have hb':j.key.t=t:=by simpa using hb
   refine ⟨la,oa,k8 _,_,sF hk.2 (by decide),la,oa,k8 _,j.key.d,hk.1 3 (by decide),_,Lk j.dot j.key.d,?_⟩
   refine aT.iX uy d_ ux Ze lY (by simp) ⟨j.dot,j.key.d⟩ (by omega) fun v' s' g' w' _=>?_
   refine ⟨(kh I).length - (i+1),by omega,i+1,v',by rw [aV (by omega)];rfl,by omega,rfl,w',?_⟩
   rw [step,List.flatMap_append]
   simpa [f,hb'] using g'
  ·have hb':¬ j.key.t=t:=by simpa using hb
   refine ⟨(kh I).length - (i+1),by omega,i+1,i_,by rw [aV (by omega)];rfl,by omega,rfl,Ze,?_⟩
   rw [step,List.flatMap_append]
   simpa [f,hb'] using lY
 ·rw [List.take_of_length_le (by omega)] at lY
  have hris:dR ((kh I).map ey.dot):=hI.Xf.sublist (List.Sublist.map _ List.filter_sublist)
  refine ⟨(kh I).flatMap f,⟨?_,fun e=>?_⟩,aT.back lY g2.eG.ext,Nat.le_trans (ab_ _) (Nat.le_trans hLl hIl)⟩
  ·have:∀ l:List ey,(((l.flatMap f)).map GY.dot).Sublist (l.map ey.dot):=by
    intro l
    induction l with
    | nil=>simp
    | cons a l ih =>
     simp only [List.flatMap_cons,List.map_append,List.map_cons,f] at ih ⊢
     split
     ·simpa using ih
     ·simpa using ih.trans (List.sublist_cons_self _ _)
   exact hris.sublist (this _)
  ·rw [List.mem_flatMap]
   constructor
   ·rintro ⟨j,hj,he⟩
    simp only [f] at he
    split at he
    ·rename_i hk
     obtain rfl:=List.mem_singleton.1 he
     rw [((Lj hI j).1 hj).2,← hk]
    ·cases he
   ·intro he
    exact ⟨⟨e.dot,⟨t,e.dev⟩,false⟩,(Lj hI _).2 ⟨rfl,he⟩,by simp [f]⟩
end
end Go.Proofs.YtohgmogbabkkeaaGreat
end

section
namespace Go.Proofs.YtohgmogbabkkeaaGreat
open Go.Am Go.au Go.aC
end Go.Proofs.YtohgmogbabkkeaaGreat
end

section
namespace Go.Am
section
variable {T:TT} {t el:TypeId} {sz qK:Nat} (ht:C5 T t el sz qK)
include ht
end
end Go.Am
namespace Go.Proofs.YtohgmogbabkkeaaGreat
open Go.Am Go.au Go.aC
def qH (n:Int):List AV:=[.int .u8 n]
theorem bT (n:Int):(qH n).length=1:=rfl
theorem Nu (n:Int):(qH n).all AV.one=true:=rfl
theorem gr:C5 T aq sr 1 1:=⟨aL,eu,Mg,⟨_,_,HR,rfl,rfl⟩,by decide,by decide⟩
theorem tD (l:List Int):(l.flatMap qH).length=l.length*1:=dS bT l
abbrev gx (s:AS) (v:AV) (l:List Int):Prop:=Sl qH 1 s v l
abbrev Av (s0 s:AS) (v:AV) (l:List Int):Prop:=aT qH 1 [] s0 s v l
def zE (s:AS) (v:AV) (n:Nat) (l:List Int) (lo:Option Nat):Prop :=
 match lo with
 | none=>v=.slc none 0 0 true∧n=0∧l=[]
 | some lo=>v=.slc (some (lo,0)) l.length n false∧l.length≤n∧∃ rest,s.h lo=some (.cells (l.flatMap qH++rest) 1 false)∧rest.length=(n - l.length)*1
theorem zE.app {s:AS} {v x:AV} {n:Nat} {l xs:List Int} {lo:Nat} (h:zE s v n l (some lo)) (hw:aM s) (hx:Sl qH 1 s x xs) (hn:l.length+xs.length≤n) (hb:n≤2 ^ 30)
  {K:AV→AS→Prop} (hk:∀ v' s',zE s' v' n (l++xs) (some lo)→aM s'→bD [lo] s s'→K v' s'):iG (aJ T aq aq v x s) K:=by
 obtain ⟨rfl,hle,rest,VW,hr⟩:=h
 obtain ⟨hsrc,hlen⟩:=bZ.src gr hx
 have e:=jN gr (base:=some (lo,0)) (len:=l.length) (cap:=n) (ex:=false) aL hlen hsrc (by rw [tD]) (by omega)
 rw [if_pos hn] at e
 by_cases h0:xs.flatMap qH=[]
 ·have hxs:xs=[]:=by
   have:=congrArg List.length h0
   rw [tD] at this
   exact List.length_eq_zero_iff.1 (by simp only [List.length_nil] at this;omega)
  subst hxs
  simp only [List.flatMap_nil,if_true] at e
  exact ⟨_,_,e,hk _ _ ⟨by simp,by simpa using hle,rest,by simpa using VW,by simpa using hr⟩ hw (bD.refl _ _)⟩
 ·simp only [if_neg h0] at e
  have hP:=hw.put VW (o:=.cells (qJ (l.flatMap qH++rest) (0+l.length*1) (xs.flatMap qH)) 1 false) rfl
  have ea:cN s lo (0+l.length*1) (xs.flatMap qH)=some (s.put lo (.cells (qJ (l.flatMap qH++rest) (0+l.length*1) (xs.flatMap qH)) 1 false)):=by
   simp only [cN,VW]
   rw [if_pos (by rw [List.length_append,tD,tD,hr];omega)]
  rw [ea] at e
  refine ⟨_,_,e,hk _ _ ⟨by simp,by simpa using hn,rest.drop (xs.flatMap qH).length,?_,?_⟩ hP.wf hP.mut⟩
  ·rw [hP.at,Nat.zero_add,← tD l,TX _ _ _ (by rw [tD,hr];omega),List.flatMap_append]
  ·rw [List.length_drop,tD,hr,List.length_append];omega
theorem zE.app' {s:AS} {v x:AV} {n:Nat} {l xs:List Int} {lo:Option Nat} (h:zE s v n l lo) (hw:aM s) (hx:Sl qH 1 s x xs) (hn:l.length+xs.length≤n) (hb:n≤2 ^ 30)
  {K:AV→AS→Prop} (hk:∀ v' s',zE s' v' n (l++xs) lo→aM s'→bD lo.toList s s'→K v' s'):iG (aJ T aq aq v x s) K:=by
 cases lo with
 | some lo=>exact zE.app h hw hx hn hb hk
 | none =>
  obtain ⟨rfl,rfl,rfl⟩:=h
  obtain rfl:xs=[]:=by simpa using hn
  obtain ⟨hsrc,hlen⟩:=bZ.src gr hx
  have e:=jN gr (base:=none) (len:=0) (cap:=0) (ex:=true) aL hlen hsrc (by simp) (by simp)
  simp only [List.length_nil,Nat.le_refl,if_true] at e
  exact ⟨_,_,e,hk _ _ ⟨rfl,rfl,rfl⟩ hw (bD.refl _ _)⟩
def P1 (t:List UInt8):List Int:=t.map fun c=>(c.toNat:Int)
theorem x_ (t:List UInt8):(P1 t).length=t.length:=by simp [P1]
theorem VX (t:List UInt8):(P1 t).flatMap qH=t.map fun c=>AV.int .u8 c.toNat:=by
 induction t with
 | nil=>rfl
 | cons a t ih=>simp only [P1,List.map_cons,List.flatMap_cons,qH] at ih ⊢;rw [ih];rfl
def toB (l:List Int):List UInt8:=l.map fun n=>UInt8.ofNat n.toNat
theorem P4 (l:List Int):zG (l.flatMap qH)=some (toB l):=by
 induction l with
 | nil=>rfl
 | cons a l ih =>
  simp only [List.flatMap_cons,qH,List.cons_append,List.nil_append,zG,ih,toB,List.map_cons,Option.map_some]
theorem ZD {s:AS} {v:AV} {l:List Int} (h:gx s v l) (hz:l≠[]):(cP T aq cq v s).map (·.1)=some (.str (toB l)):=by
 have hp:0<l.length:=List.length_pos_iff.2 hz
 rcases h with ⟨rfl,h2,h3⟩ | ⟨a,c,e,rfl,⟨h1,h2⟩,h3⟩
 ·omega
 ·rcases h3 with h3 | ⟨la,o,C,rfl,hC,h3⟩
  ·omega
  ·have hn:o+l.length≤C.length:=by
    have:=congrArg List.length h3
    rw [List.length_take,List.length_drop,h1] at this
    omega
   have hr:aB s la o l.length=some (l.flatMap qH):=by
    rw [hC.aB hn,← h3,Nat.mul_one]
   have hne:¬ l.length=0:=by omega
   simp [cP,aL,oZ,Bw,hr,P4,hz]
/-! ### numbers -/
def vH (n:Int) (sh:Nat):Int:=IntKind.wrap .u8 (Int.fdiv n (2 ^ min sh (IntKind.bits .u64)))
def yQ (n:Int) (k:Nat):List Int:=(List.range k).map fun i=>vH n (8*(k - 1 - i))
theorem jW (n:Int) (k:Nat):(yQ n k).length=k:=by simp [yQ]
theorem ya {M:List Nat} {s0 s:AS} (hw:aM s) {v:AV} {l:List Int} (h:aT qH 1 M s0 s v l) (hM:∀ x∈M,s.h x≠none) (n:Int) (hb:l.length+1≤2 ^ 30) {K:AV→AS→Prop} (hK:∀ v' s',aT qH 1 M s0 s' v' (l++[n])→aM s'→bD (ay v) s s'→K v' s'):aR (cZ T aq 1 [(0,.int .u8 n)]) fun g=>aj (.cells g 0 false) s fun la s1=>iG (aJ T aq aq v (.slc (some (la,0)) 1 1 true) s1) K :=
 aT.OB (f:=fun n:Int=>AV.int .u8 n) gr rfl (fun _=>rfl) hw h hM n hb hK
theorem yb {M:List Nat} {s0 s:AS} (hw:aM s) {v x:AV} {l xs:List Int} (h:aT qH 1 M s0 s v l) (hM:∀ x∈M,s.h x≠none) (hx:gx s x xs) (hb:l.length+xs.length≤2 ^ 30) {K:AV→AS→Prop} (hK:∀ v' s',aT qH 1 M s0 s' v' (l++xs)→aM s'→bD (ay v) s s'→K v' s'):iG (aJ T aq aq v x s) K :=
 aT.kU gr bT Nu hw h hM hx hb aL hK
theorem ZE (n:Int) (k:Nat) (hk:1≤k∧k≤8) (hn:k<8→Int.fdiv n (2 ^ min (8*k) (IntKind.bits .u64))=0) (s:AS) :
  aa Tryz.prog u7 [.int .u64 n,.int .i64 (k:Nat)] s fun r s'=>∃ v,r=.aQ [v,.int .i64 0]∧Av s s' v (yQ n k):=by
 refine aa.pre fun hw=>SM _ _ _ _ ⟨fun vs s'=>vs=[.bool false]∧s'=s,?_,af.dec (fun h=>absurd h (by omega)) (fun _=>af.dec (fun h=>absurd h (by omega)) (fun _=>af.dec (fun h=>⟨?_,?_,rfl⟩) (fun _=>⟨rfl,rfl⟩)))⟩
 ·rintro b s3 ⟨hb,rfl⟩
  obtain rfl:b=false:=by simpa using hb
  refine af.no rfl ⟨fun vs s'=>∃ v,vs=[v]∧Av s3 s' v (yQ n k),?_,fun m vs s'=>∃ (i:Nat) (v:AV),vs=[v,.int .i64 (i:Nat)]∧i≤k∧m=k - i∧aM s'∧Av s3 s' v ((List.range i).map fun j=>vH n (8*(k - 1 - j))),k,⟨0,_,rfl,by omega,rfl,hw,by simpa using aT.nil⟩,?_⟩
  ·rintro v5 s6 ⟨v,hv,g⟩
   obtain rfl:v5=v:=by simpa using hv
   exact ⟨_,rfl,g⟩
  ·rintro m v10 iN dg ⟨i,v',hin,hi,rfl,GV,K5⟩
   simp only [List.cons.injEq,AV.int.injEq,true_and,and_true] at hin
   obtain ⟨rfl,rfl⟩:=hin
   refine af.dec (fun hlt=>?_) (fun hge=>?_)
   ·have e1:IntKind.wrap .i64 (8*(IntKind.wrap .i64 ((IntKind.wrap .i64 ((k:Int) - 1)) - (i:Int))))=((8*(k - 1 - i):Nat):Int):=by
     rw [aV (n:=(k:Int) - 1) (by omega),aV (n:=(k:Int) - 1 - i) (by omega),aV (by omega)];omega
    rw [e1]
    refine ⟨by omega,?_⟩
    rw [Int.toNat_natCast]
    refine ya GV K5 (by simp) (vH n (8*(k - 1 - i))) (by simp;omega) fun v' s' g' w' _=>?_
    refine ⟨k - (i+1),by omega,i+1,v',by rw [aV (by omega)];rfl,by omega,rfl,w',?_⟩
    rw [List.range_succ,List.map_append]
    exact g'
   ·obtain rfl:i=k:=by omega
    exact ⟨v10,rfl,K5⟩
 ·rw [aV (by omega)];omega
 ·rw [show IntKind.wrap .i64 (8*(k:Int))=((8*k:Nat):Int) by rw [aV (by omega)];omega,Int.toNat_natCast,hn (by omega)]
  rfl
/-! ### dots,texts -/
def uz (t:List UInt8):List Int:=yQ (t.length:Nat) 2++P1 t
theorem VY (t:List UInt8):(uz t).length=2+t.length:=by simp [uz,jW,x_]
theorem P6 {n:Nat} (h:n<2 ^ 16):Int.fdiv (n:Int) (2 ^ min (8*2) (IntKind.bits .u64))=0:=by
 rw [show min (8*2) (IntKind.bits .u64)=16 from rfl]
 rw [Int.fdiv_eq_ediv_of_nonneg _ (by decide)]
 omega
theorem abk {s:AS} {v:AV} {l:List Int} (h:gx s v l) (hn:l.length≤65535):aa Tryz.prog xJ [v] s fun r s'=>∃ v,r=.aQ [v,.int .i64 0]∧Av s s' v (yQ (l.length:Nat) 2++l):=by
 refine aa.pre fun hw=>PG _ _ _ ⟨_,h.cG aL _,af.dec (fun hh=>absurd hh (by omega)) (fun _=>⟨_,h.cG aL _,?_⟩)⟩
 dsimp only
 rw [gq (by omega)]
 refine aa.use (ZE _ 2 (by omega) (fun _=>P6 (by omega)) s) ?_
 rintro r s4 ⟨v5,rfl,g4⟩ w4
 refine ⟨_,_,rfl,?_⟩
 exact yb w4 g4 (by simp) (h.ext g4.eG.ext) (by rw [jW];omega) fun v' s' g' w' _=>⟨v',rfl,g'⟩
end Go.Proofs.YtohgmogbabkkeaaGreat
end

section
namespace Go.Proofs.YtohgmogbabkkeaaGreat
open Go.Am Go.au Go.aC
theorem abl (N:Nat) (hN:N≤2 ^ 28) (s:AS):aa Tryz.prog fG [.slc none 0 0 true,.int .i64 (N:Nat)] s fun v s'=>∃ lo,zE s' v N [] lo∧Ext s s'∧∀ l∈lo.toList,s.h l=none:=by
 refine aa.pre fun hw=>rJ _ _ _ _ (af.dec (fun h=>absurd h (by omega)) (fun _=>?_))
 refine ⟨0,by simp [wW,aL],0,by simp [aP,aL],?_⟩
 have e1:IntKind.wrap .i64 ((N:Int) - (IntKind.wrap .i64 (0 - 0)))=(N:Nat):=by rw [show IntKind.wrap .i64 (0 - 0)=0 from rfl,aV (by omega)];omega
 dsimp only
 rw [e1]
 refine af.dec (fun hp=>?_) (fun hz=>?_)
 ·have hpos:0<N:=by omega
  have ha:aJ T aq ud (.slc none 0 0 true) (.int .i64 (N:Nat)) s=some (.slc (some (s.nl,0)) N N false,s.new (.cells (rep N [.int .u8 0]) 1 false)):=by
   simp only [aJ,aL,TO,if_true,tO,eu,Mg,HR,Option.bind_some,bJ,List.length_cons,List.length_nil,Int.toNat_natCast,Nat.zero_add]
   rw [show (if (AV.int IntKind.u8 0).cells.all AV.one=true then some (AV.int IntKind.u8 0).cells else none)=some [AV.int .u8 0] from rfl,Option.bind_some,if_neg (by simp only [List.length_cons,List.length_nil];omega)]
   simp [nH]
  have Fr:=hw.new (o:=.cells (rep N [.int .u8 0]) 1 false) rfl
  refine ⟨0,by simp [wW,aL],.slc none 0 0 true,by simp [aY,aL,eu,cO,tN,qg,gy],_,_,ha,0,by simp [aP,aL],.slc (some (s.nl,0)) 0 N false,?_,some s.nl,⟨rfl,by simp,rep N [.int .u8 0],by simpa using Fr.at,by simp [rep]⟩,Fr.ext,?_⟩
  ·have:¬ N=0:=by omega
   simp [aY,aL,eu,cO,tN,qg,gy,this]
  ·intro l hl
   obtain rfl:l=s.nl:=by simpa using hl
   exact hw.none
 ·obtain rfl:N=0:=by omega
  exact ⟨none,⟨rfl,rfl,rfl⟩,Ext.refl _,by simp⟩
abbrev prC:AV×List Int→List AV:=fun p=>[p.1]
theorem Nv (p:AV×List Int):(prC p).length=1:=rfl
def qI (L:List (AV×List Int)):Nat:=(L.map fun p=>p.2.length).sum
theorem Ll {L:List (AV×List Int)} {i:Nat} {p:AV×List Int} (h:L[i]? = some p):qI (L.take (i+1))=qI (L.take i)+p.2.length:=by
 unfold qI
 rw [List.take_add_one,h,Option.toList_some,List.map_append,List.sum_append];simp
theorem T9 (L:List (AV×List Int)) (i:Nat):qI (L.take i)≤qI L:=by
 have:qI L=qI (L.take i)+qI (L.drop i):=by
  unfold qI
  rw [← List.sum_append,← List.map_append,List.take_append_drop]
 omega
theorem yR (L:List (AV×List Int)):(L.flatMap Prod.snd).length=qI L:=by simp [qI,List.length_flatMap]
theorem VZ {s:AS} {a:AV} {L:List (AV×List Int)} (ha:Sl prC 1 s a L) (hL:∀ p∈L,gx s p.1 p.2) (hn:L.length≤2 ^ 20) (hb:qI L≤2 ^ 28):aa Tryz.prog eZ [a] s fun v s'=>Av s s' v (L.flatMap Prod.snd):=by
 refine aa.pre fun hw=>qc _ _ _ ⟨fun vs s'=>s'=s∧vs=[.int .i64 (qI L:Nat)],?_,_,ha.cG n_ _,fun m vs s'=>∃ i:Nat,vs=[.int .i64 (qI (L.take i):Nat),.int .i64 (i:Nat)]∧i≤L.length∧m=L.length - i∧s'=s,L.length,⟨0,by simp [qI],by omega,rfl,rfl⟩,?_⟩
 rotate_left
 ·rintro m QK uj qx ⟨i,hin,hi,rfl,rfl⟩
  simp only [List.cons.injEq,AV.int.injEq,true_and,and_true] at hin
  obtain ⟨rfl,rfl⟩:=hin
  refine af.dec (fun hlt=>?_) (fun hge=>?_)
  ·obtain ⟨p,hp⟩:=cW (l:=L) (i:=i) (by omega)
   obtain ⟨la,o,k8,k9⟩:=ha.ix (by decide) Nv n_ qP hp
   have hs:=Ll hp
   have hle:=T9 L (i+1)
   refine ⟨la,o,k8 _,p.1,(k9 _ (Ext.refl _)).1 0 (by decide),_,(hL p (List.mem_of_getElem? hp)).cG aL _,?_⟩
   dsimp only
   rw [aV (n:=(qI (L.take i):Int)+p.2.length) (by omega)]
   refine af.dec (fun h=>absurd h (by omega)) (fun _=>⟨L.length - (i+1),by omega,i+1,?_,by omega,rfl,rfl⟩)
   rw [aV (by omega),hs];rfl
  ·rw [List.take_of_length_le (by omega)]
   exact ⟨rfl,rfl⟩
 rintro n2 s3 ⟨rfl,hn2⟩
 obtain rfl:n2=(qI L:Nat):=by simpa using hn2
 refine aa.use (abl (qI L) hb s3) ?_
 rintro v4 s5 ⟨lo,hR,e5,hlo⟩ w5
 refine ⟨_,ha.cG n_ _,fun m vs s'=>∃ (i:Nat) (v:AV),vs=[v,.int .i64 (i:Nat)]∧i≤L.length∧m=L.length - i∧aM s'∧Ext s3 s'∧zE s' v (qI L) ((L.take i).flatMap Prod.snd) lo,L.length,⟨0,v4,rfl,by omega,rfl,w5,e5,by simpa using hR⟩,?_⟩
 rintro m v10 iN dg ⟨i,v',hin,hi,rfl,GV,Dy,abm⟩
 simp only [List.cons.injEq,AV.int.injEq,true_and,and_true] at hin
 obtain ⟨rfl,rfl⟩:=hin
 refine af.dec (fun hlt=>?_) (fun hge=>?_)
 ·obtain ⟨p,hp⟩:=cW (l:=L) (i:=i) (by omega)
  obtain ⟨la,o,k8,k9⟩:=ha.ix (by decide) Nv n_ qP hp
  have hs:=Ll hp
  have hle:=T9 L (i+1)
  have step:=List.take_add_one (l:=L) (i:=i)
  rw [hp,Option.toList_some] at step
  refine ⟨la,o,k8 _,p.1,(k9 _ Dy).1 0 (by decide),?_⟩
  refine zE.app' abm GV ((hL p (List.mem_of_getElem? hp)).ext Dy) (by rw [yR];omega) (by omega) fun v' s' hR' w' m'=>?_
  refine ⟨L.length - (i+1),by omega,i+1,v',by rw [aV (by omega)];rfl,by omega,rfl,w',Ext.wrL Dy hlo m',?_⟩
  rw [step,List.flatMap_append]
  simpa using hR'
 ·rw [List.take_of_length_le (by omega)] at abm
  cases lo with
  | none =>
   obtain ⟨rfl,hN,hl0⟩:=abm
   rw [hl0]
   exact ⟨bt.nil,Dy.mut,by simp [ay]⟩
  | some lo =>
   obtain ⟨rfl,_,rest,VW,hr⟩:=abm
   rw [yR,Nat.sub_self,Nat.zero_mul] at hr
   obtain rfl:=List.length_eq_zero_iff.1 hr
   rw [List.append_nil] at VW
   refine ⟨.inr ⟨lo,by rw [yR],VW⟩,Dy.mut,fun la hla=>?_⟩
   obtain rfl:la=lo:=by simpa [ay] using hla
   exact hlo la (by simp)
/-! ### a variable that holds a row of bytes of one's own -/
section
variable {s0 s s':AS} {c:Nat} {l:List Int}
end
theorem V0 (v:List Int) (hv:v.length=16) (s:AS):aa Tryz.prog sR [.agg (v.map (.int .u64))] s fun r s'=>Av s s' r (v.flatMap fun n=>yQ n 8):=by
 refine aa.pre fun hw=>Kj _ _ _ ⟨?_,aj.intro hw rfl fun l1 s2 F2=>⟨v.map (.int .u64),?_,fun m vs s'=>∃ (i:Nat) (r:AV),vs=[r,.int .i64 (i:Nat)]∧i≤16∧m=16 - i∧aM s'∧Av s2 s' r ((v.take i).flatMap fun n=>yQ n 8),16,⟨0,_,rfl,by omega,rfl,F2.wf,by simpa using aT.nil⟩,?_⟩⟩
 ·simp [List.all_eq_true,AV.one]
 ·rw [F2.own.at.aB (by simp [hv])]
  simp [hv,List.take_of_length_le]
 ·rintro m v7 n8 s9 ⟨i,r,hin,hi,rfl,w9,g9⟩
  simp only [List.cons.injEq,AV.int.injEq,true_and,and_true] at hin
  obtain ⟨rfl,rfl⟩:=hin
  refine af.dec (fun hlt=>?_) (fun hge=>?_)
  ·obtain ⟨n,hn⟩:=cW (l:=v) (i:=i) (by omega)
   have step:=List.take_add_one (l:=v) (i:=i)
   rw [hn,Option.toList_some] at step
   refine ⟨n,?_,?_⟩
   ·rw [aa1 hv (by omega),List.getD_eq_getElem?_getD,hn];rfl
   refine aa.use (ZE n 8 (by omega) (by omega) s9) ?_
   rintro q dg ⟨JM,rfl,K5⟩ GV
   have hlen:((v.take i).flatMap fun n=>yQ n 8).length≤16*8:=by
    rw [List.length_flatMap]
    have:(List.map (fun a=>(yQ a 8).length) (v.take i))=List.map (fun _=>8) (v.take i):=by simp [jW]
    rw [this,List.map_const',List.sum_replicate_nat,List.length_take]
    have:min i v.length≤16:=by omega
    omega
   refine ⟨_,_,rfl,yb GV (g9.step K5.eG.ext) (by simp) (K5.sl bT) (by rw [jW];omega) fun v' s' g' w' _=>?_⟩
   refine ⟨16 - (i+1),by omega,i+1,v',by rw [aV (by omega)];rfl,by omega,rfl,w',?_⟩
   rw [step,List.flatMap_append]
   simpa using g'
  ·rw [List.take_of_length_le (by omega)] at g9
   exact ⟨g9.wq,F2.ext.mut.trans g9.eG,fun la hla=>F2.ext.none (g9.new la hla)⟩
end Go.Proofs.YtohgmogbabkkeaaGreat
end
