/-
  A part of OQ proof: an abstract machine Be OQ model, and qc of qd of this program Be it.
-/
import Derived.Test.YtohgmogbabkkeaaGreatProg
import Derived.KernelRfl
import Derived.Test.YtohgmogbabkkeaaGreatP3
set_option linter.unusedVariables false
set_option linter.unusedSimpArgs false
set_option linter.unusedSectionVars false
section
namespace Go.Proofs.YtohgmogbabkkeaaGreat
open Go.Am
noncomputable def T:TT:=TT.of Tryz.prog
theorem hT:TT.Ok Tryz.prog T:=TT.VI _
theorem bW:Tryz.prog.follows .mixedOrders=true:=by kernel_rfl
end Go.Proofs.YtohgmogbabkkeaaGreat
end

section
namespace Go.Proofs.YtohgmogbabkkeaaGreat
open Go.Am
abbrev iQ:Nat:=3
abbrev nS:Nat:=12
abbrev kh:Nat:=13
abbrev dF:Nat:=14
abbrev ng:Nat:=15
abbrev gF:Nat:=16
abbrev cL:Nat:=17
abbrev dx:Nat:=18
abbrev eD:Nat:=19
abbrev e_:Nat:=20
abbrev eE:Nat:=21
abbrev fU:Nat:=22
abbrev ot:Nat:=24
abbrev oT:Nat:=25
abbrev pO:Nat:=27
abbrev kQ:Nat:=29
abbrev vV:Nat:=33
abbrev kI:Nat:=36
abbrev ki:Nat:=44
abbrev vW:Nat:=61
abbrev yx:Nat:=66
abbrev ni:Nat:=67
abbrev cX:Nat:=68
abbrev oU:Nat:=69
abbrev aS:Nat:=70
abbrev bI:Nat:=71
abbrev cO:Nat:=72
abbrev bE:Nat:=73
abbrev cP:Nat:=74
abbrev eU:Nat:=75
abbrev fO:Nat:=76
abbrev gX:Nat:=77
abbrev eV:Nat:=78
abbrev bY:Nat:=79
abbrev bK:Nat:=80
abbrev rS:Nat:=81
abbrev en:Nat:=82
abbrev fH:Nat:=83
abbrev ec:Nat:=84
abbrev gY:Nat:=87
abbrev ry:Nat:=88
abbrev ji:Nat:=89
abbrev di:Nat:=90
abbrev vX:Nat:=91
abbrev eL:Nat:=92
abbrev cq:Nat:=93
abbrev gG:Nat:=94
abbrev lS:Nat:=95
abbrev qw:Nat:=96
abbrev oV:Nat:=97
abbrev rz:Nat:=99
abbrev pP:Nat:=100
abbrev ue:Nat:=101
abbrev lT:Nat:=102
abbrev dW:Nat:=104
abbrev jV:Nat:=105
abbrev jk:Nat:=108
abbrev oW:Nat:=109
abbrev dg:Nat:=111
abbrev iz:Nat:=112
abbrev aF:Nat:=113
abbrev fV:Nat:=114
abbrev iH:Nat:=117
abbrev nj:Nat:=118
abbrev dz:Nat:=121
abbrev eM:Nat:=124
abbrev ax:Nat:=126
abbrev cJ:Nat:=127
abbrev Bu:Nat:=146
abbrev lU:Nat:=150
abbrev lV:Nat:=151
abbrev dG:Nat:=152
abbrev kJ:Nat:=153
abbrev jW:Nat:=154
abbrev nk:Nat:=155
abbrev a_:Nat:=156
abbrev bq:Nat:=157
abbrev fC:Nat:=158
abbrev nq:Nat:=159
abbrev vY:Nat:=160
abbrev rT:Nat:=161
abbrev gZ:Nat:=163
abbrev g_:Nat:=164
abbrev jl:Nat:=165
abbrev vZ:Nat:=166
abbrev yy:Nat:=167
abbrev eF:Nat:=168
abbrev v_:Nat:=169
abbrev bC:Nat:=170
abbrev lW:Nat:=172
abbrev we:Nat:=173
abbrev nr:Nat:=174
abbrev oX:Nat:=175
abbrev kK:Nat:=177
abbrev kj:Nat:=178
abbrev aP:Nat:=179
abbrev ez:Nat:=180
abbrev bT:Nat:=185
abbrev eo:Nat:=189
abbrev iJ:Nat:=191
abbrev ff:Nat:=192
abbrev pQ:Nat:=207
abbrev oY:Nat:=208
abbrev pR:Nat:=209
abbrev uf:Nat:=210
abbrev yz:Nat:=211
abbrev rU:Nat:=212
abbrev dX:Nat:=213
abbrev rV:Nat:=214
abbrev nu:Nat:=215
abbrev ug:Nat:=216
abbrev jq:Nat:=217
abbrev yA:Nat:=218
abbrev wg:Nat:=219
abbrev ct:Nat:=220
abbrev fW:Nat:=221
abbrev jr:Nat:=222
abbrev lX:Nat:=223
abbrev uh:Nat:=224
abbrev bw:Nat:=225
abbrev cI:Nat:=226
abbrev rW:Nat:=227
abbrev lY:Nat:=237
abbrev jL:Nat:=238
abbrev gC:Nat:=239
abbrev dh:Nat:=245
abbrev ov:Nat:=246
abbrev oZ:Nat:=247
abbrev fh:Nat:=248
abbrev jX:Nat:=255
abbrev eN:Nat:=256
abbrev nv:Nat:=257
abbrev uj:Nat:=258
abbrev qx:Nat:=259
abbrev wh:Nat:=260
abbrev lZ:Nat:=261
abbrev pH:Nat:=262
abbrev dY:Nat:=263
abbrev l_:Nat:=264
abbrev gJ:Nat:=266
abbrev h_:Nat:=267
abbrev kR:Nat:=272
abbrev ox:Nat:=273
abbrev kS:Nat:=274
abbrev mb:Nat:=275
abbrev lG:Nat:=276
abbrev iA:Nat:=277
abbrev kk:Nat:=278
abbrev ny:Nat:=279
abbrev fI:Nat:=280
abbrev qy:Nat:=291
abbrev uk:Nat:=292
abbrev nA:Nat:=293
abbrev yB:Nat:=294
abbrev rA:Nat:=295
abbrev rX:Nat:=296
abbrev fq:Nat:=297
abbrev aD:Nat:=298
abbrev gn:Nat:=299
abbrev mg:Nat:=300
abbrev qT:Nat:=301
abbrev oz:Nat:=303
abbrev ko:Nat:=304
abbrev pS:Nat:=305
abbrev fX:Nat:=306
abbrev rB:Nat:=307
abbrev pT:Nat:=313
end Go.Proofs.YtohgmogbabkkeaaGreat
end

section
namespace Go.Proofs.YtohgmogbabkkeaaGreat
open Go.Am
abbrev rC:Nat:=3
abbrev vr:Nat:=4
abbrev rD:Nat:=5
abbrev cE:Nat:=9
abbrev rY:Nat:=20
abbrev dZ:Nat:=22
abbrev xY:Nat:=28
abbrev aq:Nat:=30
abbrev fP:Nat:=32
abbrev jt:Nat:=33
abbrev bH:Nat:=37
abbrev kL:Nat:=40
abbrev xZ:Nat:=41
abbrev oA:Nat:=45
abbrev iB:Nat:=47
abbrev cZ:Nat:=48
abbrev bg:Nat:=49
abbrev bR:Nat:=50
abbrev ic:Nat:=52
abbrev oB:Nat:=69
abbrev wj:Nat:=71
abbrev Bv:Nat:=72
abbrev aG:Nat:=84
abbrev az:Nat:=85
abbrev oC:Nat:=87
abbrev rZ:Nat:=93
abbrev qz:Nat:=100
abbrev aJ:Nat:=128
abbrev rE:Nat:=130
abbrev bp:Nat:=138
abbrev mO:Nat:=140
abbrev qA:Nat:=144
abbrev fQ:Nat:=155
abbrev nT:Nat:=157
abbrev r7:Nat:=165
abbrev r8:Nat:=167
abbrev uW:Nat:=170
abbrev bU:Nat:=184
abbrev bL:Nat:=185
abbrev oD:Nat:=187
abbrev nB:Nat:=189
abbrev CS:Nat:=203
abbrev ee:Nat:=205
abbrev gq:Nat:=240
abbrev fj:Nat:=247
abbrev zN:Nat:=270
abbrev cg:Nat:=271
abbrev eG:Nat:=285
abbrev dn:Nat:=286
abbrev fY:Nat:=290
abbrev fD:Nat:=341
theorem Ol:T.cQ rC=some (.int .i64):=by kernel_rfl
theorem EG:T.eP rC=some 1:=by kernel_rfl
theorem Im:T.rO rC=some (.int .i64 0):=by kernel_rfl
theorem UQ:T.agg rC=some false:=by kernel_rfl
theorem Ur:T.cQ vr=some (.bool):=by kernel_rfl
theorem zO:T.cQ rD=some (.int .u8):=by kernel_rfl
theorem er:T.eP rD=some 1:=by kernel_rfl
theorem Io:T.FQ rD=some 1:=by kernel_rfl
theorem EH:T.rO rD=some (.int .u8 0):=by kernel_rfl
theorem qB:T.cQ cE=some (.string):=by kernel_rfl
theorem Ph:T.agg cE=some false:=by kernel_rfl
theorem iU:T.cQ dZ=some (.slice rC):=by kernel_rfl
theorem FV:T.cQ xY=some (.pointer rE):=by kernel_rfl
theorem aL:T.cQ aq=some (.slice rD):=by kernel_rfl
theorem qk:T.eP aq=some 1:=by kernel_rfl
theorem Pj:T.FQ aq=some 24:=by kernel_rfl
theorem EI:T.rO aq=some (.slc none 0 0 true):=by kernel_rfl
theorem Rh:T.cQ jt=some (.int .u64):=by kernel_rfl
theorem ju:T.eP jt=some 1:=by kernel_rfl
theorem Ri:T.FQ jt=some 8:=by kernel_rfl
theorem Pk:T.rO jt=some (.int .u64 0):=by kernel_rfl
theorem Bw:T.agg jt=some false:=by kernel_rfl
theorem c_:T.cQ bH=some (.slice ic):=by kernel_rfl
theorem xl:T.eP bH=some 1:=by kernel_rfl
theorem uX:T.cQ kL=some (.pointer r8):=by kernel_rfl
theorem FW:T.cQ xZ=some (.pointer oD):=by kernel_rfl
theorem jR:T.eP iB=some 2:=by kernel_rfl
theorem Un:T.FQ iB=some 16:=by kernel_rfl
theorem MT:T.rO iB=some (.agg [.int .i64 0,.int .u64 0]):=by kernel_rfl
theorem UR:T.agg iB=some true:=by kernel_rfl
theorem Ip:T.cQ cZ=some (.array 16 jt):=by kernel_rfl
theorem wk:T.cQ bg=some (.array 16 jt):=by kernel_rfl
theorem sN:T.eP bg=some 16:=by kernel_rfl
theorem Rj:T.FQ bg=some 128:=by kernel_rfl
theorem Pm:T.rO bg=some (.agg [.int .u64 0,.int .u64 0,.int .u64 0,.int .u64 0,.int .u64 0,.int .u64 0,.int .u64 0,.int .u64 0,.int .u64 0,.int .u64 0,.int .u64 0,.int .u64 0,.int .u64 0,.int .u64 0,.int .u64 0,.int .u64 0]):=by kernel_rfl
theorem fJ:T.cQ bR=some (.slice wj):=by kernel_rfl
theorem Rk:T.eP bR=some 1:=by kernel_rfl
theorem xo:T.eP ic=some 21:=by kernel_rfl
theorem Tg:T.FQ ic=some 208:=by kernel_rfl
theorem KN:T.rO ic=some (.agg [.int .i64 0,.int .u64 0,.str [],.slc none 0 0 true,.int .u64 0,.int .u64 0,.int .u64 0,.int .u64 0,.int .u64 0,.int .u64 0,.int .u64 0,.int .u64 0,.int .u64 0,.int .u64 0,.int .u64 0,.int .u64 0,.int .u64 0,.int .u64 0,.int .u64 0,.int .u64 0,.slc none 0 0 true]):=by kernel_rfl
theorem US:T.rO oB=some (.agg [.str [],.str []]):=by kernel_rfl
theorem Bx:T.eP wj=some 3:=by kernel_rfl
theorem UT:T.FQ wj=some 32:=by kernel_rfl
theorem Th:T.rO wj=some (.agg [.int .i64 0,.int .u64 0,.str []]):=by kernel_rfl
theorem cW:T.cQ aG=some (.slice qz):=by kernel_rfl
theorem KO:T.eP aG=some 1:=by kernel_rfl
theorem bF:T.cQ az=some (.slice iB):=by kernel_rfl
theorem zP:T.eP az=some 1:=by kernel_rfl
theorem Rl:T.agg az=some false:=by kernel_rfl
theorem wm:T.cQ oC=some (.pointer nB):=by kernel_rfl
theorem Iq:T.cQ rZ=some (.array 32 rD):=by kernel_rfl
theorem o_:T.eP qz=some 5:=by kernel_rfl
theorem UU:T.FQ qz=some 56:=by kernel_rfl
theorem Ti:T.rO qz=some (.agg [.int .i64 0,.int .u64 0,.str [],.str [],.bool false]):=by kernel_rfl
theorem kq:T.cQ aJ=some (.map cE fQ):=by kernel_rfl
theorem Ir:T.rO rE=some (.agg [.slc none 0 0 true,.map none]):=by kernel_rfl
theorem dA:T.cQ bp=some (.slice bg):=by kernel_rfl
theorem qC:T.eP bp=some 1:=by kernel_rfl
theorem uY:T.cQ fQ=some (.pointer nT):=by kernel_rfl
theorem By:T.rO fQ=some (.ptr none):=by kernel_rfl
theorem EJ:T.rO nT=some (.agg [.int .u64 0,.int .u64 0,.int .u64 0,.int .u64 0,.int .u64 0,.int .u64 0,.int .u64 0,.int .u64 0,.int .u64 0,.int .u64 0,.int .u64 0,.int .u64 0,.int .u64 0,.int .u64 0,.int .u64 0,.int .u64 0,.int .i64 0,.slc none 0 0 true]):=by kernel_rfl
theorem x4:T.cQ r7=some (.map iB ic):=by kernel_rfl
theorem CT:T.cQ uW=some (.pointer gq):=by kernel_rfl
theorem wo:T.cQ bU=some (.map iB oB):=by kernel_rfl
theorem Is:T.agg bU=some false:=by kernel_rfl
theorem jS:T.cQ bL=some (.map iB ee):=by kernel_rfl
theorem It:T.rO oD=some (.agg [.ptr none,.map none,.map none]):=by kernel_rfl
theorem MU:T.rO nB=some (.agg [.int .u64 0,.int .u64 0,.int .u64 0,.int .u64 0,.int .u64 0,.int .u64 0,.int .u64 0,.int .u64 0,.int .u64 0,.int .u64 0,.int .u64 0,.int .u64 0,.int .u64 0,.int .u64 0,.int .u64 0,.int .u64 0,.slc none 0 0 true,.bool false]):=by kernel_rfl
theorem wq:T.rO ee=some (.agg [.bool false]):=by kernel_rfl
theorem EK:T.rO gq=some (.agg [.slc none 0 0 true,.bool false,.bool false]):=by kernel_rfl
theorem jx:T.cQ fj=some (.slice jt):=by kernel_rfl
theorem EL:T.eP zN=some 1:=by kernel_rfl
theorem Pn:T.agg zN=some false:=by kernel_rfl
theorem Cz:T.cQ cg=some (.array 8 zN):=by kernel_rfl
theorem nC:T.cQ eG=some (.slice aq):=by kernel_rfl
theorem Iu:T.cQ dn=some (.array 64 zN):=by kernel_rfl
theorem rF:T.cQ fY=some (.array 64 rD):=by kernel_rfl
theorem KP:T.cQ fD=some (.array 2 jt):=by kernel_rfl
end Go.Proofs.YtohgmogbabkkeaaGreat
end

section
set_option maxRecDepth 100000
set_option maxHeartbeats 4000000
namespace Go.Proofs.YtohgmogbabkkeaaGreat
open Go.Am
def FY  (s:AS) (R:AV->AS->Prop):Prop :=
 aa Tryz.prog kh [] s fun v1 s2=>∃ d:Option (Nat×Nat),∃ b4:Bool,v1=.aQ [.ptr d,.bool b4]/\(af (!b4) (R (.bool false) s2) (aa Tryz.prog dF [.ptr d,(.str [116]),(.str [97])] s2 fun v5 s6=>∃ b7:Bool,v5=.bool b7/\(af (!b7) (R (.bool false) s6) (aa Tryz.prog cL [.ptr d,(.str [116])] s6 fun v8 s9=>∃ k:Bool,v8=.bool k/\(af (!k) (R (.bool false) s9) (aa Tryz.prog cL [.ptr d,(.str [116])] s9 fun v11 dw=>∃ l:Bool,v11=.bool l/\(af (!l)
 (R (.bool false) dw)
 (aa Tryz.prog gF [] dw fun y gr=>aa Tryz.prog ng [y] gr fun nD lH=>∃ c:Option (Nat×Nat),nD=.ptr c/\(aa Tryz.prog dx [.ptr c,(.str [97]),.slc none 0 0 true] lH fun z fN=>∃ m:Int,z=.int .i64 m/\(ai d fun A B=>pM (av fN A B) fun C=>ai d fun D F=>pM (av fN D (F+1)) fun G=>aa Tryz.prog eD [.ptr c,(.str [97]),.int .i64 5,.ptr C,.ptr G] fN fun H I=>∃ v30:AV,∃ n:Int,H=.aQ [v30,.int .i64 n]/\(aa Tryz.prog e_ [.ptr c,(.str [97]),.int .i64 1] I fun J K=>∃ e:AV,∃ o:Int,J=.aQ [e,.int .i64 o]/\(aa Tryz.prog eE [.ptr c,(.str [97])] K fun L mG=>∃ p:AV,∃ r:Int,L=.aQ [p,.int .i64 r]/\(aa Tryz.prog dx [.ptr c,(.str [97]),e] mG fun qU i=>∃ w:Int,qU=.int .i64 w/\(ai d fun M O=>pM (av i M O) fun Q=>ai d fun S U=>pM (av i S (U+1)) fun W=>aa Tryz.prog eD [.ptr c,(.str [97]),.int .i64 5,.ptr Q,.ptr W] i fun X b=>∃ j:AV,∃ x:Int,X=.aQ [j,.int .i64 x]/\(af ((m:Int)==0) (af ((n:Int)==0) (af ((o:Int)==0) (af ((r:Int)==0) (af ((w:Int)==0) (af ((x:Int)==0) (aU .i64 (aO T bH v30 b) fun Y=>af ((Y:Int)==2) (FN ((cN T aq cE e b).map (·.1)) fun Z=>FN ((cN T aq cE p b).map (·.1)) fun ab=>af ((Z:List UInt8)==ab) (aU .i64 (aO T bH j b) fun ad=>af ((ad:Int)==1) (bG (ag T bH j (.int .i64 0)) fun ae al=>aU .u64 (av b ae (al+1)) fun am=>R (.bool ((am:Int)==2)) b) (R (.bool false) b)) (R (.bool false) b)) (R (.bool false) b)) (R (.bool false) b)) (R (.bool false) b)) (R (.bool false) b)) (R (.bool false) b)) (R (.bool false) b)) (R (.bool false) b))))))))))))))))
def FZ:QA:=(.seq .leaf (.seq .leaf (.seq (.seq .leaf (.cond (.seq .leaf .leaf) .leaf)) (.seq .leaf (.seq .leaf (.seq .calm (.seq .leaf (.seq .leaf (.seq .leaf (.seq .calm (.seq .leaf .leaf)))))))))))
theorem F_  (s:AS) (R:AV->AS->Prop) (h:FY  s R):aa Tryz.prog nS [] s R :=
 aa.q (n:=125) (rs:=[.tmp 0]) (A:=FZ) hT bW Tryz.func12 (by kernel_rfl) rfl rfl rfl (by kernel_rfl) (by kernel_rfl) h
def Ga  (s:AS) (R:AV->AS->Prop):Prop :=
 aa Tryz.prog yx [.int .i64 3,.int .i64 1] s fun n s2=>∃ j:Option (Nat×Nat),∃ k:Int,n=.aQ [.ptr j,.int .i64 k]/\(aa Tryz.prog vW [] s2 fun o s6=>∃ l:Option (Nat×Nat),o=.ptr l/\(oR (aV T mO [(0,.int .i64 3),(1,.int .i64 1)]) fun m=>cH m (ak (.cells m 0 false) s6 fun p d=>oR (aV T qA []) fun b=>cH b (ak (.cells b 0 false) d fun qQ bQ=>oR (aV T oA [(0,.ptr j),(1,.ptr l),(2,(.ptr (some (p,0)))),(3,(.ptr (some (qQ,0))))]) fun c=>cH c (ak (.cells c 0 false) bQ fun e i=>R (.aQ [(.ptr (some (e,0))),(.bool ((k:Int)==0))]) i)))))
def Gb:QA:=(.seq .leaf (.seq .leaf (.seq .leaf .leaf)))
theorem Gc  (s:AS) (R:AV->AS->Prop) (h:Ga  s R):aa Tryz.prog kh [] s R :=
 aa.q (n:=18) (rs:=[.tmp 0,.tmp 1]) (A:=Gb) hT bW Tryz.func13 (by kernel_rfl) rfl rfl rfl (by kernel_rfl) (by kernel_rfl) h
def sO (a0:Option (Nat×Nat)) (a1:List UInt8) (a2:List UInt8) (s:AS) (R:AV->AS->Prop):Prop :=
 ai a0 fun l1 o2=>pM (av s l1 (o2+3)) fun Y=>ai Y fun Z o5=>aa Tryz.prog ni [(.ptr (some (Z,o5))),.int .i64 1] s fun v6 s7=>∃ U:Int,v6=.int .u64 U/\(oR (aV T iB [(0,.int .i64 1),(1,(.int .u64 (IntKind.wrap .u64 (U+1))))]) fun W=>ak (.cells [.int .i64 0,.int .u64 0] 0 false) s7 fun nU z=>fm (some 2) W (bz (cR z nU 0 W) fun dw=>sE dw fun X C c S V=>ai a0 fun lq m=>(∀ bQ:AS,X dw bQ->aM bQ->ai a0 fun qV A=>(((.ptr (some (qV,A))):AV)=(.ptr (some (lq,m)))))/\(pM (av dw lq (m+1)) fun b=>(∀ eC:AS,X dw eC->aM eC->pM (av eC lq (m+1)) fun B=>(((.ptr B):AV)=(.ptr b)))/\(oR (aV T oB [(0,.str a1),(1,.str a2)]) fun e=>aR (aC dw nU 0 2) fun d=>(∀ gh:AS,X dw gh->aM gh->aR (aC gh nU 0 2) fun D=>(((.agg D):AV)=(.agg d)))/\((∀ dM:AS,X dw dM->aM dM->(True)->c dM->aa Tryz.prog cX [.ptr b,.agg e,.agg d] dM fun F n=>∃ k:AV,∃ l:Int,F=.aQ [k,.int .i64 l]/\(((X dM n/\C 8 [(.func cX []),.ptr b,.agg e,.agg d] (.aQ [k,.int .i64 l]) n)/\S 8 [(.func cX []),.ptr b,.agg e,.agg d] (.aQ [k,.int .i64 l]) n/\V 8 [(.func cX []),.ptr b,.agg e,.agg d] (.aQ [k,.int .i64 l]))))/\(∃ v,V 8 [(.func cX []),.ptr b,.agg e,.agg d] v)/\∀ v30:AV,V 8 [(.func cX []),.ptr b,.agg e,.agg d] v30->∃ o:AV,∃ i:Int,v30=.aQ [o,.int .i64 i]/\(∀ j:AS,X dw j->aM j->(S 8 [(.func cX []),.ptr b,.agg e,.agg d] (.aQ [o,.int .i64 i]) j/\True)->C 8 [(.func cX []),.ptr b,.agg e,.agg d] (.aQ [o,.int .i64 i]) j->bt fun p =>
 (∀ r:Bool,∀ nV:AS,p [.bool r] nV ->
 af r
 (R (.bool ((i:Int)==2)) nV)
 (ai a0 fun G H=>pM (av nV G (H+3)) fun I=>oR (aV T oB [(0,.str a1),(1,.str a2)]) fun J=>aR (aC nV nU 0 2) fun K=>aa Tryz.prog oU [.ptr I,.agg J,.agg K] nV fun ab L=>R (.bool ((i:Int)==0)) L)) /\
 (aa Tryz.prog pO [.str a1] j fun M w=>∃ x:Bool,M=.bool x/\(af (!x) (p [.bool true] w) (aa Tryz.prog pO [.str a2] w fun O Q=>∃ y:Bool,O=.bool y/\(p [(.bool (!y))] Q))))))))))
def sP:QA:=(.seq .leaf (.seq .leaf (.seq (.uU [0,1,2,3,4,5,6,7,8,9,10,11,12] [13] [[],[],[],[],[],[],[],[],[],[],[],[],[]] [8] [8]) (.seq (.join [(38,.bool)] [(31,38)] .leaf (.cond (.seq .leaf .leaf) .leaf)) (.seq (.draw 8) (.seq .leaf .leaf))))))
theorem sQ (a0:Option (Nat×Nat)) (a1:List UInt8) (a2:List UInt8) (s:AS) (R:AV->AS->Prop) (h:sO a0 a1 a2 s R):aa Tryz.prog dF [.ptr a0,.str a1,.str a2] s R :=
 aa.q (n:=52) (rs:=[.tmp 6]) (A:=sP) hT bW Tryz.func14 (by kernel_rfl) rfl rfl rfl (by kernel_rfl) (by kernel_rfl) h
def EM  (s:AS) (R:AV->AS->Prop):Prop :=
 aR (cV T aq 10 [(0,.int .u8 98),(1,.int .u8 101),(2,.int .u8 116),(3,.int .u8 119),(4,.int .u8 101),(5,.int .u8 101),(6,.int .u8 110),(7,.int .u8 32),(8,.int .u8 117),(9,.int .u8 115)]) fun b=>ak (.cells b 1 false) s fun c s3=>iF (cN T aq aq (.slc (some (c,0)) 10 10 true) s3) fun d e=>R d e
def EN:QA:=(.seq .leaf (.seq .leaf .leaf))
theorem EO  (s:AS) (R:AV->AS->Prop) (h:EM  s R):aa Tryz.prog gF [] s R :=
 aa.q (n:=3) (rs:=[.tmp 0]) (A:=EN) hT bW Tryz.func16 (by kernel_rfl) rfl rfl rfl (by kernel_rfl) (by kernel_rfl) h
def u7 (a0:Option (Nat×Nat)) (a1:List UInt8) (s:AS) (R:AV->AS->Prop):Prop :=
 sE s fun X C c S V=>ai a0 fun l2 o3=>(∀ s1:AS,X s s1->aM s1->ai a0 fun l4 o5=>(((.ptr (some (l4,o5))):AV)=(.ptr (some (l2,o3)))))/\(pM (av s l2 o3) fun n=>(∀ s6:AS,X s s6->aM s6->pM (av s6 l2 o3) fun p8=>(((.ptr p8):AV)=(.ptr n)))/\(ai a0 fun nU B=>(∀ s9:AS,X s s9->aM s9->ai a0 fun qQ an=>(((.ptr (some (qQ,an))):AV)=(.ptr (some (nU,B)))))/\(pM (av s nU (B+1)) fun e=>(∀ D:AS,X s D->aM D->pM (av D nU (B+1)) fun ao=>(((.ptr ao):AV)=(.ptr e)))/\((∀ lH:AS,X s lH->aM lH->(True)->aa Tryz.prog cO [.ptr e,.str a1] lH fun Q iV=>(Ext lH iV/\S 10 [(.func cO []),.ptr e,.str a1] Q iV/\V 10 [(.func cO []),.ptr e,.str a1] Q))/\(∃ v,V 10 [(.func cO []),.ptr e,.str a1] v)/\∀ v20:AV,V 10 [(.func cO []),.ptr e,.str a1] v20->(∀ gu:AS,X s gu->aM gu->(S 10 [(.func cO []),.ptr e,.str a1] v20 gu/\True)->c gu->aa Tryz.prog bI [.ptr n,.str a1,.slc none 0 0 true,v20] gu fun ar tD=>∃ o:List AV,∃ p:Int,ar=.aQ [.agg o,.int .i64 p]/\(((X gu tD/\C 11 [(.func bI []),.ptr n,.str a1,.slc none 0 0 true,v20] (.aQ [.agg o,.int .i64 p]) tD)/\S 11 [(.func bI []),.ptr n,.str a1,.slc none 0 0 true,v20] (.aQ [.agg o,.int .i64 p]) tD/\V 11 [(.func bI []),.ptr n,.str a1,.slc none 0 0 true,v20] (.aQ [.agg o,.int .i64 p]))))/\(∃ v,V 11 [(.func bI []),.ptr n,.str a1,.slc none 0 0 true,v20] v)/\∀ U:AV,V 11 [(.func bI []),.ptr n,.str a1,.slc none 0 0 true,v20] U->∃ l:List AV,∃ r:Int,U=.aQ [.agg l,.int .i64 r]/\((∀ w:AS,X s w->aM w->(True)->ak (.cells [.int .i64 0,.int .u64 0,.str [],.slc none 0 0 true,.int .u64 0,.int .u64 0,.int .u64 0,.int .u64 0,.int .u64 0,.int .u64 0,.int .u64 0,.int .u64 0,.int .u64 0,.int .u64 0,.int .u64 0,.int .u64 0,.int .u64 0,.int .u64 0,.int .u64 0,.int .u64 0,.slc none 0 0 true] 0 false) w fun W mP=>(Ext w mP/\S 15 [] (.ptr (some (W,0))) mP/\V 15 [] (.ptr (some (W,0)))))/\(∃ v,V 15 [] v)/\∀ Y:AV,V 15 [] Y->∃ F:Option (Nat×Nat),Y=.ptr F/\(∀ j8:AS,X s j8->aM j8->(S 10 [(.func cO []),.ptr e,.str a1] v20 j8/\(S 11 [(.func bI []),.ptr n,.str a1,.slc none 0 0 true,v20] (.aQ [.agg l,.int .i64 r]) j8/\(S 15 [] (.ptr F) j8/\True)))->C 11 [(.func bI []),.ptr n,.str a1,.slc none 0 0 true,v20] (.aQ [.agg l,.int .i64 r]) j8->ai F fun aw a2=>fm (some 21) l (bz (cR j8 aw a2 l) fun mG=>sE mG fun X C c S V=>ai a0 fun G H=>(∀ Z:AS,X mG Z->aM Z->ai a0 fun a3 a4=>(((.ptr (some (a3,a4))):AV)=(.ptr (some (G,H)))))/\(pM (av mG G (H+2)) fun d=>(∀ I:AS,X mG I->aM I->pM (av I G (H+2)) fun a5=>(((.ptr a5):AV)=(.ptr d)))/\(ai a0 fun J K=>(∀ sR:AS,X mG sR->aM sR->ai a0 fun a6 a7=>(((.ptr (some (a6,a7))):AV)=(.ptr (some (J,K)))))/\(pM (av mG J (K+3)) fun i=>(∀ L:AS,X mG L->aM L->pM (av L J (K+3)) fun a8=>(((.ptr a8):AV)=(.ptr i)))/\((∀ x:AS,X mG x->aM x->(True)->aa Tryz.prog cP [.ptr i,.str a1] x fun ab ad=>(Ext x ad/\S 10 [(.func cP []),.ptr i,.str a1] ab ad/\V 10 [(.func cP []),.ptr i,.str a1] ab))/\(∃ v,V 10 [(.func cP []),.ptr i,.str a1] v)/\∀ b:AV,V 10 [(.func cP []),.ptr i,.str a1] b->(∀ k:AS,X mG k->aM k->(S 10 [(.func cP []),.ptr i,.str a1] b k/\True)->c k->aa Tryz.prog bE [.ptr d,.str a1,.slc none 0 0 true,b] k fun a9 M=>∃ y:List AV,∃ z:Bool,a9=.aQ [.agg y,.bool z]/\(((X k M/\C 11 [(.func bE []),.ptr d,.str a1,.slc none 0 0 true,b] (.aQ [.agg y,.bool z]) M)/\S 11 [(.func bE []),.ptr d,.str a1,.slc none 0 0 true,b] (.aQ [.agg y,.bool z]) M/\V 11 [(.func bE []),.ptr d,.str a1,.slc none 0 0 true,b] (.aQ [.agg y,.bool z]))))/\(∃ v,V 11 [(.func bE []),.ptr d,.str a1,.slc none 0 0 true,b] v)/\∀ ae:AV,V 11 [(.func bE []),.ptr d,.str a1,.slc none 0 0 true,b] ae->∃ m:List AV,∃ A:Bool,ae=.aQ [.agg m,.bool A]/\((∀ Iw:AS,X mG Iw->aM Iw->(True)->ak (.cells [.int .i64 0,.int .u64 0,.str [],.slc none 0 0 true,.int .u64 0,.int .u64 0,.int .u64 0,.int .u64 0,.int .u64 0,.int .u64 0,.int .u64 0,.int .u64 0,.int .u64 0,.int .u64 0,.int .u64 0,.int .u64 0,.int .u64 0,.int .u64 0,.int .u64 0,.int .u64 0,.slc none 0 0 true] 0 false) Iw fun al Rm=>(Ext Iw Rm/\S 15 [] (.ptr (some (al,0))) Rm/\V 15 [] (.ptr (some (al,0)))))/\(∃ v,V 15 [] v)/\∀ am:AV,V 15 [] am->∃ O:Option (Nat×Nat),am=.ptr O/\(∀ j:AS,X mG j->aM j->(S 10 [(.func cP []),.ptr i,.str a1] b j/\(S 11 [(.func bE []),.ptr d,.str a1,.slc none 0 0 true,b] (.aQ [.agg m,.bool A]) j/\(S 15 [] (.ptr O) j/\True)))->C 11 [(.func bE []),.ptr d,.str a1,.slc none 0 0 true,b] (.aQ [.agg m,.bool A]) j->ai O fun a' ba=>fm (some 21) m (bz (cR j a' ba m) fun Tj=>R (.bool ((A:Bool)==((r:Int)==0))) Tj))))))))))))))
def u9:QA:=(.seq .leaf (.seq (.uU [0,1,2,3,4,5,6,7,8,9,10,11,12,13,14,15] [16,17] [[],[],[],[],[],[],[],[],[],[],[],[10],[],[],[],[],[],[]] [10,11,15] [11]) (.seq (.uU [0,1,2,3,4,5,6,7,8,9,10,11,12,13,14,15] [16,17] [[],[],[],[],[],[],[],[],[],[],[],[10],[],[],[],[],[],[]] [10,11,15] [11]) (.seq .leaf .leaf))))
theorem u_ (a0:Option (Nat×Nat)) (a1:List UInt8) (s:AS) (R:AV->AS->Prop) (h:u7 a0 a1 s R):aa Tryz.prog cL [.ptr a0,.str a1] s R :=
 aa.q (n:=43) (rs:=[.tmp 4]) (A:=u9) hT bW Tryz.func17 (by kernel_rfl) rfl rfl rfl (by kernel_rfl) (by kernel_rfl) h
def zQ (a0:AV) (s:AS) (R:AV->AS->Prop):Prop :=
 aU .i64 (aO T dZ a0 s) fun n1=>af (decide ((n1:Int)>60))
 (aa Tryz.prog nS [] s fun v2 s3=>∃ b4:Bool,v2=.bool b4/\(R (.bool b4) s3))
 (aa Tryz.prog kh [] s fun v5 s6=>∃ F:Option (Nat×Nat),∃ b8:Bool,v5=.aQ [.ptr F,.bool b8]/\(af (!b8) (R (.bool false) s6) (aa Tryz.prog dF [.ptr F,(.str [116]),(.str [97])] s6 fun v9 G=>∃ H:Bool,v9=.bool H/\(af (!H)
 (R (.bool false) G)
 (aa Tryz.prog gF [] G fun ba bQ=>aa Tryz.prog ng [ba] bQ fun bb gr=>∃ I:Option (Nat×Nat),bb=.ptr I/\(aa Tryz.prog gF [] gr fun bc eC=>aa Tryz.prog ng [bc] eC fun bd fN=>∃ J:Option (Nat×Nat),bd=.ptr J/\(aR (cV T fP 2 [(0,.ptr I),(1,.ptr J)]) fun be=>ak (.cells be 0 false) fN fun bh bi=>bt fun K =>
 (∀ L:Int,∀ r:AS,K [.int .u64 L] r ->
 ai F fun bj bk=>pM (av r bj bk) fun bl=>aa Tryz.prog fU [.ptr bl] r fun bm M=>∃ O:Int,bm=.int .i64 O/\(af ((L:Int)==(IntKind.wrap .u64 ((IntKind.wrap .u64 O)+1))) (aa Tryz.prog nS [] M fun bo bs=>∃ Q:Bool,bo=.bool Q/\(R (.bool Q) bs)) (R (.bool false) M))) /\
 (bA fun j bx=>j bx [.slc none 0 0 true,.int .u64 1,.int .i64 0] bi /\
 ∀ w:Nat,∀ qU:AV,∀ k:Int,∀ b:Int,∀ c:AS,j w [qU,.int .u64 k,.int .i64 b] c ->
 aU .i64 (aO T dZ a0 c) fun b0=>af (decide ((b:Int)<=b0))
 (bt fun x =>
 (∀ l:Int,∀ d:AS,x [.int .i64 l] d ->
 af (decide ((l:Int)<0))
 (aa Tryz.prog cL [.ptr F,(.str [116])] d fun b1 wu=>∃ S:Bool,b1=.bool S/\(af (!S)
 (R (.bool false) wu)
 (∃ m',m'<w/\j m' [qU,.int .u64 k,(.int .i64 (IntKind.wrap .i64 (b+1)))] wu)))
 (NZ 2 (bG (ag T fP (.slc (some (bh,0)) 2 2 true) (.int .i64 (Int.tmod l 2))) fun b2 b3=>pM (av d b2 b3) fun m=>bt fun y =>
 (∀ U:Int,∀ W:AS,y [.int .i64 U] W ->
 aa Tryz.prog dx [.ptr m,(.str [97]),qU] W fun b5 X=>∃ Y:Int,b5=.int .i64 Y/\(af ((Y:Int) != 0)
 (R (.bool false) X)
 (bt fun Z =>
 (∀ ab:Int,∀ ad:AS,Z [.int .u64 ab] ad ->
 aa Tryz.prog eE [.ptr m,(.str [97])] ad fun b6 ae=>∃ al:AV,∃ am:Int,b6=.aQ [al,.int .i64 am]/\(af ((am:Int) != 0)
 (R (.bool false) ae)
 (∃ m',m'<w/\j m' [al,.int .u64 ab,(.int .i64 (IntKind.wrap .i64 (b+1)))] ae))) /\
 (bA fun z b7=>z b7 [.int .u64 k,.int .i64 U] X /\
 ∀ an:Nat,∀ A:Int,∀ B:Int,∀ i:AS,z an [.int .u64 A,.int .i64 B] i ->
 af (decide ((B:Int)>0))
 (NZ 16 (ai F fun b9 b'=>pM (av i b9 b') fun ca=>ai F fun cb cc=>pM (av i cb (cc+1)) fun cd=>aa Tryz.prog eD [.ptr m,(.str [97]),(.int .i64 (IntKind.wrap .i64 (1+(Int.tmod l 16)))),.ptr ca,.ptr cd] i fun ce ao=>∃ n:AV,∃ ar:Int,ce=.aQ [n,.int .i64 ar]/\(af ((ar:Int) != 0)
 (R (.bool false) ao)
 (bt fun aw =>
 (∀ a1:Int,∀ C:AS,aw [.int .u64 a1] C ->
 aU .i64 (aO T bH n C) fun cf=>aa Tryz.prog e_ [.ptr m,(.str [97]),.int .i64 cf] C fun ch a2=>∃ ci:AV,∃ a3:Int,ch=.aQ [ci,.int .i64 a3]/\(af ((a3:Int) != 0)
 (R (.bool false) a2)
 (∃ m',m'<an/\z m' [.int .u64 a1,(.int .i64 (IntKind.wrap .i64 (B - 1)))] a2))) /\
 (bA fun D ck=>D ck [.int .u64 A,.int .i64 0] ao /\
 ∀ a4:Nat,∀ o:Int,∀ p:Int,∀ e:AS,D a4 [.int .u64 o,.int .i64 p] e ->
 aU .i64 (aO T bH n e) fun cl=>af (decide ((p:Int)<cl))
 (bG (ag T bH n (.int .i64 p)) fun cm cn=>aU .u64 (av e cm (cn+1)) fun a5=>af ((a5:Int) != o)
 (R (.bool false) e)
 (∃ m',m'<a4/\D m' [(.int .u64 (IntKind.wrap .u64 (o+1))),(.int .i64 (IntKind.wrap .i64 (p+1)))] e))
 (aw [.int .u64 o] e))))))
 (Z [.int .u64 A] i))))) /\
 (aU .i64 (aO T dZ a0 d) fun a6=>af ((b:Int)==a6)
 (y [.int .i64 10] d)
 (y [.int .i64 1] d))))) /\
 (aU .i64 (aO T dZ a0 c) fun a7=>af (decide ((b:Int)<a7))
 (bG (ag T dZ a0 (.int .i64 b)) fun a8 a9=>aU .i64 (av c a8 a9) fun a'=>x [.int .i64 a'] c)
 (x [.int .i64 15] c)))
 (K [.int .u64 k] c)))))))))
def zR:QA:=(.seq .leaf (.seq (.seq .leaf (.cond (.seq .leaf .leaf) .leaf)) (.seq .leaf (.seq (.seq .leaf (.cond (.seq .leaf .leaf) .leaf)) (.seq .leaf (.seq .leaf (.seq .leaf (.join [(7,.int .u64)] [(2,2),(6,18),(39,125)] (.seq .leaf (.wrap (.loop [(6,.any),(7,.int .u64),(8,.int .i64)] [(2,2),(6,18),(39,125)] (.seq (.seq .leaf (.cond .leaf .leaf)) (.seq (.wrap (.seq .leaf (.join [(9,.int .i64)] [(9,9),(45,52)] (.seq .leaf (.cond .leaf .leaf)) (.seq (.seq .leaf (.cond (.seq (.seq .leaf (.cond (.seq .leaf .leaf) .leaf)) .leaf) .leaf)) (.seq .leaf (.seq .leaf (.join [(11,.int .i64)] [(11,11),(63,66)] (.seq .leaf (.cond .leaf .leaf)) (.seq (.seq .leaf (.cond (.seq .leaf .leaf) .leaf)) (.join [(7,.int .u64)] [(2,2),(7,7),(11,16),(71,117)] (.wrap (.loop [(7,.int .u64),(11,.int .i64)] [(2,2),(7,7),(11,16),(71,117)] (.seq (.seq .leaf (.cond .leaf .leaf)) (.seq (.wrap (.seq .calm (.seq (.seq .leaf (.cond (.seq .leaf .leaf) .leaf)) (.join [(7,.int .u64)] [(2,2),(7,7),(14,14),(93,108)] (.seq .leaf (.wrap (.loop [(7,.int .u64),(14,.int .i64)] [(2,2),(7,7),(14,14),(93,108)] (.seq (.seq .leaf (.cond .leaf .leaf)) (.seq (.wrap (.seq (.seq .leaf (.cond (.seq .leaf .leaf) .leaf)) .leaf)) .leaf))))) (.seq .leaf (.seq .leaf (.cond (.seq .leaf .leaf) .leaf))))))) .leaf)))) (.seq .leaf (.seq (.seq .leaf (.cond (.seq .leaf .leaf) .leaf)) .leaf))))))))))) .leaf))))) (.seq .leaf .leaf)))))))))
theorem zS (a0:AV) (s:AS) (R:AV->AS->Prop) (h:zQ a0 s R):aa Tryz.prog iQ [a0] s R :=
 aa.q (n:=138) (rs:=[.tmp 2]) (A:=zR) hT bW Tryz.func3 (by kernel_rfl) rfl rfl rfl (by kernel_rfl) (by kernel_rfl) h
end Go.Proofs.YtohgmogbabkkeaaGreat
end

section
set_option maxRecDepth 100000
set_option maxHeartbeats 4000000
namespace Go.Proofs.YtohgmogbabkkeaaGreat
open Go.Am
def yC (a0:Option (Nat×Nat)) (a1:List AV) (s:AS) (R:AV->AS->Prop):Prop :=
 cH a1 (ak (.cells a1 0 false) s fun l1 s2=>aR (aC s2 l1 0 2) fun g3=>aa Tryz.prog rz [.agg g3] s2 fun v4 o=>∃ b6:Bool,v4=.bool b6/\(af (!b6) (R (.bool false) o) (aU .i64 (av o l1 0) fun n7=>ai a0 fun l8 o9=>aU .i64 (av o l8 o9) fun A=>af (decide ((n7:Int)>A)) (R (.bool false) o) (FN (av o l1 2) fun B=>aa Tryz.prog pP [.str B] o fun C bQ=>∃ p:Bool,C=.bool p/\(af (!p) (R (.bool false) bQ) (dJ (av bQ l1 3) fun D=>aU .i64 (aO T aq D bQ) fun F=>af (decide ((F:Int)>512)) (R (.bool false) bQ) (dJ (av bQ l1 20) fun G=>aU .i64 (aO T bR G bQ) fun H=>af (decide ((H:Int)>1024)) (R (.bool false) bQ) (aU .i64 (av bQ l1 0) fun I=>bG (ag T bg (.ptr (some (l1,4))) (.int .i64 (IntKind.wrap .i64 (I - 1)))) fun J K=>aU .u64 (av bQ J K) fun L=>aU .u64 (av bQ l1 1) fun M=>af ((L:Int) != (IntKind.wrap .u64 (M - 1)))
 (R (.bool false) bQ)
 (bt fun r =>
 (∀ dM:AS,r [] dM ->
 bA fun j O=>j O [.int .i64 0] dM /\
 ∀ m:Nat,∀ b:Int,∀ d:AS,j m [.int .i64 b] d ->
 dJ (av d l1 20) fun Q=>aU .i64 (aO T bR Q d) fun S=>af (decide ((b:Int)<S))
 (dJ (av d l1 20) fun U=>bG (ag T bR U (.int .i64 b)) fun W X=>aR (aC d W X 2) fun Y=>aa Tryz.prog rz [.agg Y] d fun Z k=>∃ w:Bool,Z=.bool w/\(af (!w) (R (.bool false) k) (dJ (av k l1 20) fun qU=>bG (ag T bR qU (.int .i64 b)) fun ab ad=>FN (av k ab (ad+2)) fun ae=>aa Tryz.prog pP [.str ae] k fun al e=>∃ x:Bool,al=.bool x/\(af (!x) (R (.bool false) e) (af (decide ((b:Int)>0)) (dJ (av e l1 20) fun am=>bG (ag T bR am (.int .i64 (IntKind.wrap .i64 (b - 1)))) fun an ao=>aR (aC e an ao 2) fun ar=>dJ (av e l1 20) fun aw=>bG (ag T bR aw (.int .i64 b)) fun a2 a3=>aR (aC e a2 a3 2) fun a4=>aa Tryz.prog ue [.agg ar,.agg a4] e fun a5 y=>∃ z:Bool,a5=.bool z/\(af (!z)
 (R (.bool false) y)
 (∃ m',m'<m/\j m' [(.int .i64 (IntKind.wrap .i64 (b+1)))] y))) (∃ m',m'<m/\j m' [(.int .i64 (IntKind.wrap .i64 (b+1)))] e))))))
 (R (.bool true) d)) /\
 (bA fun l a6=>l a6 [.int .i64 0] bQ /\
 ∀ n:Nat,∀ i:Int,∀ c:AS,l n [.int .i64 i] c ->
 af (decide ((i:Int)<16))
 (bG (ag T bg (.ptr (some (l1,4))) (.int .i64 i)) fun a7 a8=>aU .u64 (av c a7 a8) fun a9=>af (decide ((a9:Int)>4611686018427387904)) (R (.bool false) c) (ai a0 fun a' ba=>aU .i64 (av c a' ba) fun bb=>af (decide ((i:Int)>=bb)) (bG (ag T bg (.ptr (some (l1,4))) (.int .i64 i)) fun bc bd=>aU .u64 (av c bc bd) fun be=>af ((be:Int) != 0)
 (R (.bool false) c)
 (∃ m',m'<n/\l m' [(.int .i64 (IntKind.wrap .i64 (i+1)))] c)) (∃ m',m'<n/\l m' [(.int .i64 (IntKind.wrap .i64 (i+1)))] c)))
 (r [] c)))))))))))
def yD:QA:=(.seq .leaf (.seq (.seq .calm (.cond (.seq .leaf .leaf) .leaf)) (.join [] [(4,5),(53,76)] (.seq .leaf (.wrap (.loop [(5,.int .i64)] [(4,5),(53,76)] (.seq (.seq .leaf (.cond .leaf .leaf)) (.seq (.wrap (.seq .leaf (.cond (.seq .leaf .leaf) .leaf))) .leaf))))) (.seq (.seq .leaf (.wrap (.loop [(6,.int .i64)] [(4,4),(6,6),(77,122)] (.seq (.seq .leaf (.cond .leaf .leaf)) (.seq (.wrap (.seq .calm (.cond (.seq .leaf .leaf) .leaf))) .leaf))))) (.seq .leaf .leaf)))))
theorem yE (a0:Option (Nat×Nat)) (a1:List AV) (s:AS) (R:AV->AS->Prop) (h:yC a0 a1 s R):aa Tryz.prog kQ [.ptr a0,.agg a1] s R :=
 aa.q (n:=123) (rs:=[.tmp 4]) (A:=yD) hT bW Tryz.func29 (by kernel_rfl) rfl rfl rfl (by kernel_rfl) (by kernel_rfl) h
def KQ (a0:List AV) (s:AS) (R:AV->AS->Prop):Prop :=
 cH a0 (ak (.cells a0 0 false) s fun l1 s2=>aU .i64 (av s2 l1 0) fun b=>af (decide ((b:Int)>=1)) (aU .i64 (av s2 l1 0) fun c=>af (decide ((c:Int)<=16)) (aU .u64 (av s2 l1 1) fun d=>af (decide ((d:Int)>=1)) (aU .u64 (av s2 l1 1) fun e=>R (.bool (decide ((e:Int)<=4611686018427387904))) s2) (R (.bool false) s2)) (R (.bool false) s2)) (R (.bool false) s2))
def KR:QA:=(.seq .leaf (.seq .leaf .leaf))
theorem KS (a0:List AV) (s:AS) (R:AV->AS->Prop) (h:KQ a0 s R):aa Tryz.prog rz [.agg a0] s R :=
 aa.q (n:=21) (rs:=[.tmp 2]) (A:=KR) hT bW Tryz.func99 (by kernel_rfl) rfl rfl rfl (by kernel_rfl) (by kernel_rfl) h
def Iy (a0:List UInt8) (s:AS) (R:AV->AS->Prop):Prop :=
 aU .i64 (aO T cE (.str a0) s) fun b=>af (decide ((b:Int)>=1)) (aU .i64 (aO T cE (.str a0) s) fun n2=>R (.bool (decide ((n2:Int)<=32))) s) (R (.bool false) s)
def Iz:QA:=(.seq .leaf (.seq .leaf .leaf))
theorem IA (a0:List UInt8) (s:AS) (R:AV->AS->Prop) (h:Iy a0 s R):aa Tryz.prog pP [.str a0] s R :=
 aa.q (n:=11) (rs:=[.tmp 2]) (A:=Iz) hT bW Tryz.func100 (by kernel_rfl) rfl rfl rfl (by kernel_rfl) (by kernel_rfl) h
def IB (a0:List AV) (a1:List AV) (s:AS) (R:AV->AS->Prop):Prop :=
 cH a0 (ak (.cells a0 0 false) s fun l1 s2=>cH a1 (ak (.cells a1 0 false) s2 fun l3 s4=>aU .i64 (av s4 l1 0) fun c=>aU .i64 (av s4 l3 0) fun d=>af (decide ((c:Int)<d)) (R (.bool true) s4) (aU .i64 (av s4 l1 0) fun e=>aU .i64 (av s4 l3 0) fun i=>af ((e:Int)==i) (aU .u64 (av s4 l1 1) fun j=>aU .u64 (av s4 l3 1) fun b=>R (.bool (decide ((j:Int)<b))) s4) (R (.bool false) s4))))
def IC:QA:=(.seq .leaf (.seq .leaf .leaf))
theorem ID (a0:List AV) (a1:List AV) (s:AS) (R:AV->AS->Prop) (h:IB a0 a1 s R):aa Tryz.prog ue [.agg a0,.agg a1] s R :=
 aa.q (n:=24) (rs:=[.tmp 4]) (A:=IC) hT bW Tryz.func101 (by kernel_rfl) rfl rfl rfl (by kernel_rfl) (by kernel_rfl) h
def um (a0:Option (Nat×Nat)) (a1:List UInt8) (a2:AV) (a3:AV) (s:AS) (R:AV->AS->Prop):Prop :=
 ak (.cells [.int .i64 0,.int .u64 0,.str [],.slc none 0 0 true,.int .u64 0,.int .u64 0,.int .u64 0,.int .u64 0,.int .u64 0,.int .u64 0,.int .u64 0,.int .u64 0,.int .u64 0,.int .u64 0,.int .u64 0,.int .u64 0,.int .u64 0,.int .u64 0,.int .u64 0,.int .u64 0,.slc none 0 0 true] 0 false) s fun l1 s2=>gx fun S V=>ai a0 fun l3 o4=>aU .i64 (av s2 l3 (o4+1)) fun n5=>ai a0 fun l6 o7=>aU .i64 (av s2 l6 (o7+1)) fun n8=>ai a0 fun l9 A=>bG (ag T cZ (.ptr (some (l9,(A+2)))) (.int .i64 (IntKind.wrap .i64 (n8 - 1)))) fun B C=>aU .u64 (av s2 B C) fun D=>oR (aV T iB [(0,.int .i64 n5),(1,(.int .u64 (IntKind.wrap .u64 (D+1))))]) fun F=>(∀ gr:AS,Ext s2 gr->aM gr->(True)->iF (aI T aq aq (.slc none 0 0 true) a2 gr) fun nD lH=>(Ext gr lH/\S 18 [.slc none 0 0 true,a2] nD lH/\V 18 [.slc none 0 0 true,a2] nD))/\(∃ v,V 18 [.slc none 0 0 true,a2] v)/\∀ d:AV,V 18 [.slc none 0 0 true,a2] d->ai a0 fun zl G=>aR (aC s2 zl (G+2) 16) fun H=>(∀ gh:AS,Ext s2 gh->aM gh->(S 18 [.slc none 0 0 true,a2] d gh/\True)->iF (aI T bR bR (.slc none 0 0 true) a3 gh) fun k l=>(Ext gh l/\S 24 [.slc none 0 0 true,a3] k l/\V 24 [.slc none 0 0 true,a3] k))/\(∃ v,V 24 [.slc none 0 0 true,a3] v)/\∀ i:AV,V 24 [.slc none 0 0 true,a3] i->oR (aV T ic [(0,.agg F),(1,.str a1),(2,d),(3,.agg H),(4,i)]) fun m=>(∀ e:AS,Ext s2 e->aM e->(True)->ak (.cells [.int .i64 0,.int .u64 0,.str [],.slc none 0 0 true,.int .u64 0,.int .u64 0,.int .u64 0,.int .u64 0,.int .u64 0,.int .u64 0,.int .u64 0,.int .u64 0,.int .u64 0,.int .u64 0,.int .u64 0,.int .u64 0,.int .u64 0,.int .u64 0,.int .u64 0,.int .u64 0,.slc none 0 0 true] 0 false) e fun n o=>(Ext e o/\S 26 [] (.ptr (some (n,0))) o/\V 26 [] (.ptr (some (n,0)))))/\(∃ v,V 26 [] v)/\∀ v30:AV,V 26 [] v30->∃ b:Option (Nat×Nat),v30=.ptr b/\(∀ c:AS,Ext s2 c->aM c->(S 18 [.slc none 0 0 true,a2] d c/\(S 24 [.slc none 0 0 true,a3] i c/\(S 26 [] (.ptr b) c/\True)))->ai b fun I J=>fm (some 21) m (bz (cR c I J m) fun nV=>ai b fun K L=>aR (aC nV K L 21) fun M=>aa Tryz.prog kQ [.ptr a0,.agg M] nV fun qU j=>∃ p:Bool,qU=.bool p/\(af (!p)
 (oR (aV T ic []) fun r=>fm (some 21) r (bz (cR j l1 0 r) fun w=>aR (aC w l1 0 21) fun O=>R (.aQ [.agg O,.bool false]) w))
 (ai b fun Q U=>aR (aC j Q U 21) fun W=>aa Tryz.prog jk [.ptr a0,.agg W] j fun X x=>X=.aQ []/\(ai b fun Y Z=>aR (aC x Y Z 21) fun y=>fm (some 21) y (bz (cR x l1 0 y) fun z=>aR (aC z l1 0 21) fun ab=>R (.aQ [.agg ab,.bool true]) z))))))
def uo:QA:=(.seq .leaf (.seq (.gN 27 [[],[],[],[],[],[],[],[],[],[],[],[],[],[],[],[],[],[],[],[],[],[],[],[],[18],[],[]] [18,24,26]) (.seq (.seq .leaf (.cond (.seq .leaf .leaf) .leaf)) (.seq .leaf (.seq .leaf .leaf)))))
theorem uq (a0:Option (Nat×Nat)) (a1:List UInt8) (a2:AV) (a3:AV) (s:AS) (R:AV->AS->Prop) (h:um a0 a1 a2 a3 s R):aa Tryz.prog bE [.ptr a0,.str a1,a2,a3] s R :=
 aa.q (n:=46) (rs:=[.cell 8 52,.tmp 9]) (A:=uo) hT bW Tryz.func73 (by kernel_rfl) rfl rfl rfl (by kernel_rfl) (by kernel_rfl) h
def wv (a0:Option (Nat×Nat)) (a1:List AV) (s:AS) (R:AV->AS->Prop):Prop :=
 cH a1 (ak (.cells a1 0 false) s fun l1 s2=>aU .i64 (av s2 l1 0) fun n3=>ai a0 fun l4 o5=>bG (ag T cZ (.ptr (some (l4,(o5+2)))) (.int .i64 (IntKind.wrap .i64 (n3 - 1)))) fun l6 o7=>aU .u64 (av s2 l6 o7) fun n8=>ai a0 fun l9 U=>bG (ag T cZ (.ptr (some (l9,(U+2)))) (.int .i64 (IntKind.wrap .i64 (n3 - 1)))) fun W Y=>bz (cR s2 W Y [(.int .u64 (IntKind.wrap .u64 (n8+1)))]) fun bQ=>sE bQ fun X C c S V=>ai a0 fun r w=>(∀ J:AS,X bQ J->aM J->ai a0 fun Z ab=>(((.ptr (some (Z,ab))):AV)=(.ptr (some (r,w)))))/\(dJ (av bQ r (w+18)) fun v20=>(∀ iV:AS,X bQ iV->aM iV->dJ (av iV r (w+18)) fun ad=>((ad:AV)=v20))/\(aR (aC bQ l1 0 21) fun i=>(∀ gh:AS,X bQ gh->aM gh->aR (aC gh l1 0 21) fun ae=>(((.agg ae):AV)=(.agg i)))/\((∀ dM:AS,X bQ dM->aM dM->(True)->aR (cV T bH 1 [(0,.agg i)]) fun al=>ak (.cells al 0 false) dM fun K L=>(Ext dM L/\S 6 [.agg i] (.slc (some (K,0)) 1 1 true) L/\V 6 [.agg i] (.slc (some (K,0)) 1 1 true)))/\(∃ v,V 6 [.agg i] v)/\∀ b:AV,V 6 [.agg i] b->(∀ k:AS,X bQ k->aM k->(S 6 [.agg i] b k/\True)->c k->iF (aI T bH bH v20 b k) fun x y=>((X k y/\C 7 [v20,b] x y)/\S 7 [v20,b] x y/\V 7 [v20,b] x))/\(∃ v,V 7 [v20,b] v)/\∀ n:AV,V 7 [v20,b] n->∀ j8:AS,X bQ j8->aM j8->(S 6 [.agg i] b j8/\(S 7 [v20,b] n j8/\True))->C 7 [v20,b] n j8->ai a0 fun am an=>fG T bH j8 am (an+18) n fun mG=>sE mG fun X C c S V=>ai a0 fun z A=>(∀ M:AS,X mG M->aM M->ai a0 fun ao ar=>(((.ptr (some (ao,ar))):AV)=(.ptr (some (z,A)))))/\(dJ (av mG z (A+19)) fun e=>(∀ B:AS,X mG B->aM B->dJ (av B z (A+19)) fun aw=>((aw:AV)=e))/\(ai a0 fun D F=>(∀ sR:AS,X mG sR->aM sR->ai a0 fun a2 a3=>(((.ptr (some (a2,a3))):AV)=(.ptr (some (D,F)))))/\(aR (aC mG D (F+2) 16) fun j=>(∀ G:AS,X mG G->aM G->aR (aC G D (F+2) 16) fun a4=>(((.agg a4):AV)=(.agg j)))/\((∀ o:AS,X mG o->aM o->(True)->aR (cV T bp 1 [(0,.agg j)]) fun a5=>ak (.cells a5 0 false) o fun O Q=>(Ext o Q/\S 9 [.agg j] (.slc (some (O,0)) 1 1 true) Q/\V 9 [.agg j] (.slc (some (O,0)) 1 1 true)))/\(∃ v,V 9 [.agg j] v)/\∀ d:AV,V 9 [.agg j] d->(∀ l:AS,X mG l->aM l->(S 9 [.agg j] d l/\True)->c l->iF (aI T bp bp e d l) fun H I=>((X l I/\C 10 [e,d] H I)/\S 10 [e,d] H I/\V 10 [e,d] H))/\(∃ v,V 10 [e,d] v)/\∀ p:AV,V 10 [e,d] p->∀ m:AS,X mG m->aM m->(S 9 [.agg j] d m/\(S 10 [e,d] p m/\True))->C 10 [e,d] p m->ai a0 fun a6 a7=>fG T bp m a6 (a7+19) p fun Iw=>R (.aQ []) Iw))))))))
def wz:QA:=(.seq .leaf (.seq (.draw 12) (.seq (.uU [0,1,2,3,4,5,6,7] [8,9,10] [[],[],[],[],[],[],[],[6]] [6,7] [7]) (.uU [0,1,2,3,4,5,6,7,8,9,10] [11,12,13] [[],[],[],[],[],[],[],[],[],[],[9]] [9,10] [10]))))
theorem wA (a0:Option (Nat×Nat)) (a1:List AV) (s:AS) (R:AV->AS->Prop) (h:wv a0 a1 s R):aa Tryz.prog jk [.ptr a0,.agg a1] s R :=
 aa.q (n:=40) (rs:=[]) (A:=wz) hT bW Tryz.func108 (by kernel_rfl) rfl rfl rfl (by kernel_rfl) (by kernel_rfl) h
def Bz (a0:Option (Nat×Nat)) (a1:Int) (s:AS) (R:AV->AS->Prop):Prop :=
 ai a0 fun l1 o2=>bG (ag T cZ (.ptr (some (l1,o2))) (.int .i64 (IntKind.wrap .i64 (a1 - 1)))) fun l3 L=>aU .u64 (av s l3 L) fun M=>bA fun i O=>i O [.int .u64 M,.int .i64 0] s /\
 ∀ k:Nat,∀ j:Int,∀ c:Int,∀ b:AS,i k [.int .u64 j,.int .i64 c] b ->
 ai a0 fun qQ l=>dJ (av b qQ (l+16)) fun m=>aU .i64 (aO T az m b) fun n=>af (decide ((c:Int)<n))
 (bt fun d =>
 (∀ e:Bool,∀ eC:AS,d [.bool e] eC ->
 af e
 (ai a0 fun zl o=>dJ (av eC zl (o+16)) fun p=>bG (ag T az p (.int .i64 c)) fun r w=>aU .u64 (av eC r (w+1)) fun x=>∃ m',m'<k/\i m' [.int .u64 x,(.int .i64 (IntKind.wrap .i64 (c+1)))] eC)
 (∃ m',m'<k/\i m' [.int .u64 j,(.int .i64 (IntKind.wrap .i64 (c+1)))] eC)) /\
 (ai a0 fun y z=>dJ (av b y (z+16)) fun A=>bG (ag T az A (.int .i64 c)) fun B C=>aU .i64 (av b B C) fun D=>af ((D:Int)==a1) (ai a0 fun F G=>dJ (av b F (G+16)) fun H=>bG (ag T az H (.int .i64 c)) fun I J=>aU .u64 (av b I (J+1)) fun K=>d [(.bool (decide ((K:Int)>j)))] b) (d [.bool false] b)))
 (R (.int .u64 j) b)
def BA:QA:=(.seq .leaf (.seq .leaf (.seq (.seq .leaf (.wrap (.loop [(5,.int .u64),(6,.int .i64)] [(5,6),(14,52)] (.seq (.seq .leaf (.cond .leaf .leaf)) (.seq (.wrap (.join [(44,.bool)] [(23,44)] .leaf (.cond .leaf .leaf))) .leaf))))) (.seq .leaf .leaf))))
theorem BB (a0:Option (Nat×Nat)) (a1:Int) (s:AS) (R:AV->AS->Prop) (h:Bz a0 a1 s R):aa Tryz.prog ni [.ptr a0,.int .i64 a1] s R :=
 aa.q (n:=54) (rs:=[.tmp 4]) (A:=BA) hT bW Tryz.func67 (by kernel_rfl) rfl rfl rfl (by kernel_rfl) (by kernel_rfl) h
end Go.Proofs.YtohgmogbabkkeaaGreat
end

section
set_option maxRecDepth 100000
set_option maxHeartbeats 4000000
namespace Go.Proofs.YtohgmogbabkkeaaGreat
open Go.Am
def MV (a0:Int) (a1:Int) (s:AS) (R:AV->AS->Prop):Prop :=
 bt fun b =>
 (∀ c:Bool,∀ s3:AS,b [.bool c] s3 ->
 af c
 (R (.aQ [.ptr none,.int .i64 2]) s3)
 (ak (.map [] 0 false) s3 fun e i=>oR (aV T r8 [(0,.int .i64 a0),(1,.int .i64 a1),(5,(.map (some e)))]) fun d=>cH d (ak (.cells d 0 false) i fun j s8=>R (.aQ [(.ptr (some (j,0))),.int .i64 0]) s8))) /\
 (af (decide ((a0:Int)<1)) (b [.bool true] s) (af (decide ((a0:Int)>16)) (b [.bool true] s) (af (decide ((a1:Int)<1)) (b [.bool true] s) (b [(.bool (decide ((a1:Int)>a0)))] s))))
def MX:QA:=(.seq .leaf (.seq (.join [(20,.bool)] [(6,20)] .leaf (.cond (.seq .leaf .leaf) .leaf)) (.seq .leaf .leaf)))
theorem MY (a0:Int) (a1:Int) (s:AS) (R:AV->AS->Prop) (h:MV a0 a1 s R):aa Tryz.prog yx [.int .i64 a0,.int .i64 a1] s R :=
 aa.q (n:=26) (rs:=[.tmp 4,.tmp 5]) (A:=MX) hT bW Tryz.func66 (by kernel_rfl) rfl rfl rfl (by kernel_rfl) (by kernel_rfl) h
def va (a0:Option (Nat×Nat)) (a1:List UInt8) (a2:AV) (a3:AV) (s:AS) (R:AV->AS->Prop):Prop :=
 ak (.cells [.int .i64 0,.int .u64 0,.str [],.slc none 0 0 true,.int .u64 0,.int .u64 0,.int .u64 0,.int .u64 0,.int .u64 0,.int .u64 0,.int .u64 0,.int .u64 0,.int .u64 0,.int .u64 0,.int .u64 0,.int .u64 0,.int .u64 0,.int .u64 0,.int .u64 0,.int .u64 0,.slc none 0 0 true] 0 false) s fun l1 s2=>aa Tryz.prog ec [.ptr a0] s2 fun v3 s4=>∃ b5:Bool,v3=.bool b5/\(af (!b5)
 (oR (aV T ic []) fun g6=>fm (some 21) g6 (bz (cR s4 l1 0 g6) fun s7=>aR (aC s7 l1 0 21) fun g8=>R (.aQ [.agg g8,.int .i64 1]) s7))
 (gx fun S V=>ai a0 fun l9 H=>aU .i64 (av s4 l9 (H+1)) fun I=>ai a0 fun qQ J=>aU .i64 (av s4 qQ (J+1)) fun K=>ai a0 fun L M=>bG (ag T bg (.ptr (some (L,(M+2)))) (.int .i64 (IntKind.wrap .i64 (K - 1)))) fun O Q=>aU .u64 (av s4 O Q) fun U=>oR (aV T iB [(0,.int .i64 I),(1,(.int .u64 (IntKind.wrap .u64 (U+1))))]) fun W=>ai a0 fun X Y=>aR (aC s4 X (Y+2) 16) fun Z=>oR (aV T ic [(0,.agg W),(1,.str a1),(2,a2),(3,.agg Z),(4,a3)]) fun o=>(∀ dM:AS,Ext s4 dM->aM dM->(True)->ak (.cells [.int .i64 0,.int .u64 0,.str [],.slc none 0 0 true,.int .u64 0,.int .u64 0,.int .u64 0,.int .u64 0,.int .u64 0,.int .u64 0,.int .u64 0,.int .u64 0,.int .u64 0,.int .u64 0,.int .u64 0,.int .u64 0,.int .u64 0,.int .u64 0,.int .u64 0,.int .u64 0,.slc none 0 0 true] 0 false) dM fun p r=>(Ext dM r/\S 24 [] (.ptr (some (p,0))) r/\V 24 [] (.ptr (some (p,0)))))/\(∃ v,V 24 [] v)/\∀ w:AV,V 24 [] w->∃ b:Option (Nat×Nat),w=.ptr b/\(∀ e:AS,Ext s4 e->aM e->(S 24 [] (.ptr b) e/\True)->ai b fun ab ad=>fm (some 21) o (bz (cR e ab ad o) fun j8=>ai b fun ae al=>aU .u64 (av j8 ae (al+1)) fun x=>bt fun l =>
 (∀ m:AS,l [] m ->
 ai b fun am an=>aR (aC m am an 21) fun ao=>aa Tryz.prog lT [.ptr a0,.agg ao] m fun ar i=>∃ y:Bool,ar=.bool y/\(af (!y)
 (oR (aV T ic []) fun z=>fm (some 21) z (bz (cR i l1 0 z) fun A=>aR (aC A l1 0 21) fun aw=>R (.aQ [.agg aw,.int .i64 2]) A))
 (af (decide ((x:Int)>4611686018427387904))
 (oR (aV T ic []) fun B=>fm (some 21) B (bz (cR i l1 0 B) fun C=>aR (aC C l1 0 21) fun a4=>R (.aQ [.agg a4,.int .i64 5]) C))
 (ai b fun a5 a6=>aR (aC i a5 a6 21) fun a7=>aa Tryz.prog dW [.agg a7] i fun a8 a9=>∃ D:List AV,a8=.agg D/\(aa Tryz.prog jV [.ptr a0,.agg D] a9 fun a' F=>a'=.aQ []/\(ai b fun ba bb=>aR (aC F ba bb 21) fun bc=>aa Tryz.prog dW [.agg bc] F fun bd be=>∃ n:List AV,bd=.agg n/\(fm (some 21) n (bz (cR be l1 0 n) fun Iw=>aR (aC Iw l1 0 21) fun bh=>R (.aQ [.agg bh,.int .i64 0]) Iw)))))))) /\
 (af (decide ((x:Int)>4611686018427387904))
 (gx fun S V=>ai a0 fun bi bj=>aU .i64 (av j8 bi (bj+1)) fun bk=>ai b fun c d=>(∀ j:AS,Ext j8 j->aM j->(True)->bz (cR j c (d+1) [.int .u64 1]) fun Tj=>(Ext j Tj/\S 7 [(.ptr (some (c,(d+1)))),.int .u64 1] (.aQ []) Tj/\V 7 [(.ptr (some (c,(d+1)))),.int .u64 1] (.aQ [])))/\(∃ v,V 7 [(.ptr (some (c,(d+1)))),.int .u64 1] v)/\∀ G:AV,V 7 [(.ptr (some (c,(d+1)))),.int .u64 1] G->G=.aQ []/\(ai b fun bl bm=>∀ k:AS,Ext j8 k->aM k->(S 7 [(.ptr (some (c,(d+1)))),.int .u64 1] (.aQ []) k/\True)->bG (ag T bg (.ptr (some (bl,(bm+4)))) (.int .i64 (IntKind.wrap .i64 (bk - 1)))) fun bo bs=>bz (cR k bo bs [.int .u64 0]) fun bx=>l [] bx))
 (l [] j8))))))
def ve:QA:=(.seq .leaf (.seq (.seq .leaf (.cond (.seq .leaf .leaf) .leaf)) (.seq (.gN 25 [[],[],[],[],[],[],[],[],[],[],[],[],[],[],[],[],[],[],[],[],[],[],[],[],[]] [24]) (.seq .leaf (.join [] [(44,53)] (.seq .leaf (.cond (.gN 9 [[],[],[],[],[],[],[],[],[]] [7]) .leaf)) (.seq (.wrap (.seq .leaf (.cond (.seq .leaf .leaf) (.seq .leaf (.cond (.seq .leaf .leaf) .leaf))))) (.seq .leaf (.seq .leaf .leaf))))))))
theorem vg (a0:Option (Nat×Nat)) (a1:List UInt8) (a2:AV) (a3:AV) (s:AS) (R:AV->AS->Prop) (h:va a0 a1 a2 a3 s R):aa Tryz.prog bI [.ptr a0,.str a1,a2,a3] s R :=
 aa.q (n:=69) (rs:=[.cell 8 52,.tmp 9]) (A:=ve) hT bW Tryz.func71 (by kernel_rfl) rfl rfl rfl (by kernel_rfl) (by kernel_rfl) h
def yF (a0:Option (Nat×Nat)) (s:AS) (R:AV->AS->Prop):Prop :=
 aa Tryz.prog ec [.ptr a0] s fun F s2=>∃ C:Bool,F=.bool C/\(af (!C)
 (R (.ptr none) s2)
 (ai a0 fun G H=>aR (aC s2 G H 21) fun D=>ak (.cells [.int .i64 0,.int .i64 0,.int .u64 0,.int .u64 0,.int .u64 0,.int .u64 0,.int .u64 0,.int .u64 0,.int .u64 0,.int .u64 0,.int .u64 0,.int .u64 0,.int .u64 0,.int .u64 0,.int .u64 0,.int .u64 0,.int .u64 0,.int .u64 0,.slc none 0 0 true,.slc none 0 0 true,.map none] 0 false) s2 fun j s8=>fm (some 21) D (bz (cR s8 j 0 D) fun i=>gx fun S V=>ai a0 fun nU n=>dJ (av i nU (n+18)) fun b=>(∀ bQ:AS,Ext i bQ->aM bQ->(True)->aa Tryz.prog a_ [b] bQ fun k gr=>(Ext bQ gr/\S 4 [(.func a_ []),b] k gr/\V 4 [(.func a_ []),b] k))/\(∃ v,V 4 [(.func a_ []),b] v)/\∀ nD:AV,V 4 [(.func a_ []),b] nD->ai a0 fun o p=>dJ (av i o (p+19)) fun c=>(∀ fN:AS,Ext i fN->aM fN->(S 4 [(.func a_ []),b] nD fN/\True)->aa Tryz.prog bq [c] fN fun l gh=>(Ext fN gh/\S 9 [(.func bq []),c] l gh/\V 9 [(.func bq []),c] l))/\(∃ v,V 9 [(.func bq []),c] v)/\∀ e:AV,V 9 [(.func bq []),c] e->ai a0 fun r w=>zk (av i r (w+20)) fun x=>∀ d:AS,Ext i d->aM d->(S 4 [(.func a_ []),b] nD d/\(S 9 [(.func bq []),c] e d/\True))->aa Tryz.prog fC [.map x] d fun y z=>∃ m:Option Nat,y=.map m/\(fG T bH z j 18 nD fun A=>fG T bp A j 19 e fun B=>bz (cR B j 20 [.map m]) fun j8=>R (.ptr (some (j,0))) j8))))
def yG:QA:=(.seq .leaf (.seq (.seq .leaf (.cond (.seq .leaf .leaf) .leaf)) (.seq .leaf (.seq (.gN 14 [[],[],[],[],[],[],[],[],[],[4],[],[],[],[]] [4,9]) (.seq .leaf .leaf)))))
theorem yH (a0:Option (Nat×Nat)) (s:AS) (R:AV->AS->Prop) (h:yF a0 s R):aa Tryz.prog gX [.ptr a0] s R :=
 aa.q (n:=28) (rs:=[.tmp 2]) (A:=yG) hT bW Tryz.func77 (by kernel_rfl) rfl rfl rfl (by kernel_rfl) (by kernel_rfl) h
def xz (a0:Option (Nat×Nat)) (s:AS) (R:AV->AS->Prop):Prop :=
 uT (iY T 100 kL (.ptr a0) (.ptr none)) fun b=>af (!b) (ai a0 fun c d=>zk (av s c (d+20)) fun e=>uT (iY T 100 r7 (.map e) (.map none)) fun i=>R (.bool (!i)) s) (R (.bool false) s)
def xA:QA:=(.seq .leaf (.seq .leaf .leaf))
theorem xB (a0:Option (Nat×Nat)) (s:AS) (R:AV->AS->Prop) (h:xz a0 s R):aa Tryz.prog ec [.ptr a0] s R :=
 aa.q (n:=12) (rs:=[.tmp 2]) (A:=xA) hT bW Tryz.func84 (by kernel_rfl) rfl rfl rfl (by kernel_rfl) (by kernel_rfl) h
def zT (a0:Option (Nat×Nat)) (s:AS) (R:AV->AS->Prop):Prop :=
 aa Tryz.prog ec [.ptr a0] s fun c s2=>∃ b:Bool,c=.bool b/\(af (!b)
 (R (.int .i64 0) s2)
 (ai a0 fun d e=>dJ (av s2 d (e+18)) fun i=>aU .i64 (aO T bH i s2) fun j=>R (.int .i64 j) s2))
def zU:QA:=(.seq .leaf (.seq (.seq .leaf (.cond (.seq .leaf .leaf) .leaf)) (.seq .leaf .leaf)))
theorem zV (a0:Option (Nat×Nat)) (s:AS) (R:AV->AS->Prop) (h:zT a0 s R):aa Tryz.prog fU [.ptr a0] s R :=
 aa.q (n:=11) (rs:=[.tmp 2]) (A:=zU) hT bW Tryz.func22 (by kernel_rfl) rfl rfl rfl (by kernel_rfl) (by kernel_rfl) h
def zW (a0:Option (Nat×Nat)) (a1:List AV) (s:AS) (R:AV->AS->Prop):Prop :=
 cH a1 (ak (.cells a1 0 false) s fun l1 s2=>aR (aC s2 l1 0 21) fun B=>aa Tryz.prog v_ [.agg B] s2 fun C b=>∃ A:Bool,C=.bool A/\(af (!A) (R (.bool false) b) (aU .i64 (av b l1 0) fun D=>ai a0 fun F G=>aU .i64 (av b F G) fun j=>af (decide ((D:Int)>j)) (R (.bool false) b) (aU .i64 (av b l1 0) fun k=>bG (ag T bg (.ptr (some (l1,4))) (.int .i64 (IntKind.wrap .i64 (k - 1)))) fun qQ l=>aU .u64 (av b qQ l) fun m=>aU .u64 (av b l1 1) fun n=>af ((m:Int) != (IntKind.wrap .u64 (n - 1)))
 (R (.bool false) b)
 (ai a0 fun qV o=>aU .i64 (av b qV o) fun p=>dJ (aZ T bg (.ptr (some (l1,4))) (some (.int .i64 p)) none none) fun e=>aU .i64 (aO T fj e b) fun r=>bA fun d w=>d w [.int .i64 0] b /\
 ∀ i:Nat,∀ c:Int,∀ dM:AS,d i [.int .i64 c] dM ->
 af (decide ((c:Int)<r))
 (bG (ag T fj e (.int .i64 c)) fun x y=>aU .u64 (av dM x y) fun z=>af ((z:Int) != 0)
 (R (.bool false) dM)
 (∃ m',m'<i/\d m' [(.int .i64 (IntKind.wrap .i64 (c+1)))] dM))
 (R (.bool true) dM))))))
def zX:QA:=(.seq .leaf (.seq (.seq .calm (.cond (.seq .leaf .leaf) .leaf)) (.seq (.seq .leaf (.wrap (.loop [(41,.int .i64)] [(4,4),(6,6),(41,47)] (.seq .leaf (.seq (.cond .leaf .leaf) (.seq (.wrap (.seq .leaf (.seq .leaf (.cond (.seq .leaf .leaf) .leaf)))) .leaf)))))) (.seq .leaf .leaf))))
theorem zY (a0:Option (Nat×Nat)) (a1:List AV) (s:AS) (R:AV->AS->Prop) (h:zW a0 a1 s R):aa Tryz.prog lT [.ptr a0,.agg a1] s R :=
 aa.q (n:=48) (rs:=[.tmp 4]) (A:=zX) hT bW Tryz.func102 (by kernel_rfl) rfl rfl rfl (by kernel_rfl) (by kernel_rfl) h
def IE (a0:List AV) (s:AS) (R:AV->AS->Prop):Prop :=
 cH a0 (ak (.cells a0 0 false) s fun l1 s2=>ak (.cells [.int .i64 0,.int .u64 0,.str [],.slc none 0 0 true,.int .u64 0,.int .u64 0,.int .u64 0,.int .u64 0,.int .u64 0,.int .u64 0,.int .u64 0,.int .u64 0,.int .u64 0,.int .u64 0,.int .u64 0,.int .u64 0,.int .u64 0,.int .u64 0,.int .u64 0,.int .u64 0,.slc none 0 0 true] 0 false) s2 fun l3 s4=>gx fun S V=>dJ (av s4 l1 3) fun c=>(∀ s6:AS,Ext s4 s6->aM s6->(True)->aa Tryz.prog aS [c] s6 fun l s8=>(Ext s6 s8/\S 2 [(.func aS []),c] l s8/\V 2 [(.func aS []),c] l))/\(∃ v,V 2 [(.func aS []),c] v)/\∀ j:AV,V 2 [(.func aS []),c] j->dJ (av s4 l1 20) fun v10=>(∀ b:AS,Ext s4 b->aM b->(S 2 [(.func aS []),c] j b/\True)->aa Tryz.prog bC [v10] b fun e bQ=>(Ext b bQ/\S 5 [(.func bC []),v10] e bQ/\V 5 [(.func bC []),v10] e))/\(∃ v,V 5 [(.func bC []),v10] v)/\∀ d:AV,V 5 [(.func bC []),v10] d->∀ gr:AS,Ext s4 gr->aM gr->(S 2 [(.func aS []),c] j gr/\(S 5 [(.func bC []),v10] d gr/\True))->fG T aq gr l1 3 j fun lH=>fG T bR lH l1 20 d fun eC=>aR (aC eC l1 0 21) fun i=>fm (some 21) i (bz (cR eC l3 0 i) fun fN=>aR (aC fN l3 0 21) fun k=>R (.agg k) fN))
def IF:QA:=(.seq .leaf (.seq (.gN 7 [[],[],[],[],[],[2],[]] [2,5]) (.seq .leaf .leaf)))
theorem IG (a0:List AV) (s:AS) (R:AV->AS->Prop) (h:IE a0 s R):aa Tryz.prog dW [.agg a0] s R :=
 aa.q (n:=12) (rs:=[.cell 2 52]) (A:=IF) hT bW Tryz.func104 (by kernel_rfl) rfl rfl rfl (by kernel_rfl) (by kernel_rfl) h
def xC (a0:Option (Nat×Nat)) (a1:List AV) (s:AS) (R:AV->AS->Prop):Prop :=
 cH a1 (ak (.cells a1 0 false) s fun l1 s2=>aU .i64 (av s2 l1 0) fun n3=>ai a0 fun l4 o5=>bG (ag T bg (.ptr (some (l4,(o5+2)))) (.int .i64 (IntKind.wrap .i64 (n3 - 1)))) fun l6 o7=>aU .u64 (av s2 l6 o7) fun n8=>ai a0 fun l9 W=>bG (ag T bg (.ptr (some (l9,(W+2)))) (.int .i64 (IntKind.wrap .i64 (n3 - 1)))) fun Y Z=>bz (cR s2 Y Z [(.int .u64 (IntKind.wrap .u64 (n8+1)))]) fun bQ=>sE bQ fun X C c S V=>ai a0 fun p r=>(∀ I:AS,X bQ I->aM I->ai a0 fun ab ad=>(((.ptr (some (ab,ad))):AV)=(.ptr (some (p,r)))))/\(dJ (av bQ p (r+18)) fun v20=>(∀ iV:AS,X bQ iV->aM iV->dJ (av iV p (r+18)) fun ae=>((ae:AV)=v20))/\(aR (aC bQ l1 0 21) fun e=>(∀ gh:AS,X bQ gh->aM gh->aR (aC gh l1 0 21) fun al=>(((.agg al):AV)=(.agg e)))/\((∀ dM:AS,X bQ dM->aM dM->(True)->aR (cV T bH 1 [(0,.agg e)]) fun am=>ak (.cells am 0 false) dM fun J K=>(Ext dM K/\S 7 [.agg e] (.slc (some (J,0)) 1 1 true) K/\V 7 [.agg e] (.slc (some (J,0)) 1 1 true)))/\(∃ v,V 7 [.agg e] v)/\∀ b:AV,V 7 [.agg e] b->(∀ l:AS,X bQ l->aM l->(S 7 [.agg e] b l/\True)->c l->iF (aI T bH bH v20 b l) fun w x=>((X l x/\C 8 [v20,b] w x)/\S 8 [v20,b] w x/\V 8 [v20,b] w))/\(∃ v,V 8 [v20,b] v)/\∀ m:AV,V 8 [v20,b] m->ai a0 fun y z=>(∀ j8:AS,X bQ j8->aM j8->ai a0 fun an ao=>(((.ptr (some (an,ao))):AV)=(.ptr (some (y,z)))))/\(dJ (av bQ y (z+19)) fun qU=>(∀ A:AS,X bQ A->aM A->dJ (av A y (z+19)) fun ar=>((ar:AV)=qU))/\(ai a0 fun B D=>(∀ L:AS,X bQ L->aM L->ai a0 fun aw a2=>(((.ptr (some (aw,a2))):AV)=(.ptr (some (B,D)))))/\(aR (aC bQ B (D+2) 16) fun i=>(∀ F:AS,X bQ F->aM F->aR (aC F B (D+2) 16) fun a3=>(((.agg a3):AV)=(.agg i)))/\((∀ n:AS,X bQ n->aM n->(True)->aR (cV T bp 1 [(0,.agg i)]) fun a4=>ak (.cells a4 0 false) n fun M Hj=>(Ext n Hj/\S 17 [.agg i] (.slc (some (M,0)) 1 1 true) Hj/\V 17 [.agg i] (.slc (some (M,0)) 1 1 true)))/\(∃ v,V 17 [.agg i] v)/\∀ d:AV,V 17 [.agg i] d->(∀ j:AS,X bQ j->aM j->(S 7 [.agg e] b j/\(S 8 [v20,b] m j/\(S 17 [.agg i] d j/\True)))->C 8 [v20,b] m j->iF (aI T bp bp qU d j) fun G H=>((X j H/\C 18 [qU,d] G H)/\S 18 [qU,d] G H/\V 18 [qU,d] G))/\(∃ v,V 18 [qU,d] v)/\∀ o:AV,V 18 [qU,d] o->ai a0 fun O Q=>(∀ U:AS,X bQ U->aM U->ai a0 fun a5 a6=>(((.ptr (some (a5,a6))):AV)=(.ptr (some (O,Q)))))/\(∀ k:AS,X bQ k->aM k->(S 7 [.agg e] b k/\(S 8 [v20,b] m k/\(S 17 [.agg i] d k/\(S 18 [qU,d] o k/\True))))->C 18 [qU,d] o k->fG T bH k O (Q+18) m fun a7=>ai a0 fun a8 a9=>fG T bp a7 a8 (a9+19) o fun Rm=>R (.aQ []) Rm)))))))))
def xD:QA:=(.seq .leaf (.seq (.draw 12) (.uU [0,1,2,3,4,5,6,7,8,9,10,11,12,13,14,15,16,17,18,19,20] [21,22,23,24] [[],[],[],[],[],[],[],[],[7],[],[],[],[],[],[],[],[],[],[7,8,17],[],[],[],[],[],[]] [7,8,17,18] [8,18])))
theorem xE (a0:Option (Nat×Nat)) (a1:List AV) (s:AS) (R:AV->AS->Prop) (h:xC a0 a1 s R):aa Tryz.prog jV [.ptr a0,.agg a1] s R :=
 aa.q (n:=40) (rs:=[]) (A:=xD) hT bW Tryz.func105 (by kernel_rfl) rfl rfl rfl (by kernel_rfl) (by kernel_rfl) h
def BC (a0:Option (Nat×Nat)) (a1:Int) (s:AS) (R:AV->AS->Prop):Prop :=
 ak (.cells [.int .i64 0,.int .u64 0,.str [],.slc none 0 0 true,.int .u64 0,.int .u64 0,.int .u64 0,.int .u64 0,.int .u64 0,.int .u64 0,.int .u64 0,.int .u64 0,.int .u64 0,.int .u64 0,.int .u64 0,.int .u64 0,.int .u64 0,.int .u64 0,.int .u64 0,.int .u64 0,.slc none 0 0 true] 0 false) s fun l1 s2=>ak (.cells [.int .u64 0,.int .u64 0,.int .u64 0,.int .u64 0,.int .u64 0,.int .u64 0,.int .u64 0,.int .u64 0,.int .u64 0,.int .u64 0,.int .u64 0,.int .u64 0,.int .u64 0,.int .u64 0,.int .u64 0,.int .u64 0] 0 false) s2 fun l3 s4=>bt fun O =>
 (∀ b6:Bool,∀ s7:AS,O [.bool b6] s7 ->
 af b6
 (oR (aV T ic []) fun g8=>oR (aV T bg []) fun g9=>fm (some 21) g8 (bz (cR s7 l1 0 g8) fun Q=>fm (some 16) g9 (bz (cR Q l3 0 g9) fun j=>aR (aC j l1 0 21) fun U=>aR (aC j l3 0 16) fun W=>R (.aQ [.agg U,.agg W,.bool false]) j)))
 (sE s7 fun X C c S V=>ai a0 fun k l=>(∀ A:AS,X s7 A->aM A->ai a0 fun Y Z=>(((.ptr (some (Y,Z))):AV)=(.ptr (some (k,l)))))/\(dJ (av s7 k (l+18)) fun v20=>(∀ iV:AS,X s7 iV->aM iV->dJ (av iV k (l+18)) fun ab=>((ab:AV)=v20))/\(bG (ag T bH v20 (.int .i64 a1)) fun B D=>aR (aC s7 B D 21) fun d=>(∀ m:AS,X s7 m->aM m->aR (aC m B D 21) fun ad=>(((.agg ad):AV)=(.agg d)))/\((∀ i:AS,X s7 i->aM i->(True)->aa Tryz.prog dW [.agg d] i fun ae F=>∃ n:List AV,ae=.agg n/\((Ext i F/\S 7 [(.func dW []),.agg d] (.agg n) F/\V 7 [(.func dW []),.agg d] (.agg n))))/\(∃ v,V 7 [(.func dW []),.agg d] v)/\∀ G:AV,V 7 [(.func dW []),.agg d] G->∃ b:List AV,G=.agg b/\(ai a0 fun o p=>(∀ H:AS,X s7 H->aM H->ai a0 fun al am=>(((.ptr (some (al,am))):AV)=(.ptr (some (o,p)))))/\(dJ (av s7 o (p+19)) fun I=>(∀ r:AS,X s7 r->aM r->dJ (av r o (p+19)) fun qU=>((qU:AV)=I))/\(bG (ag T bp I (.int .i64 a1)) fun J K=>aR (aC s7 J K 16) fun w=>(∀ x:AS,X s7 x->aM x->aR (aC x J K 16) fun an=>(((.agg an):AV)=(.agg w)))/\((∀ sR:AS,X s7 sR->aM sR->(S 7 [(.func dW []),.agg d] (.agg b) sR/\True)->c sR->fm (some 21) b (bz (cR sR l1 0 b) fun y=>((X sR y/\C 15 [(.ptr (some (l1,0))),.agg b] (.aQ []) y)/\S 15 [(.ptr (some (l1,0))),.agg b] (.aQ []) y/\V 15 [(.ptr (some (l1,0))),.agg b] (.aQ []))))/\(∃ v,V 15 [(.ptr (some (l1,0))),.agg b] v)/\∀ L:AV,V 15 [(.ptr (some (l1,0))),.agg b] L->L=.aQ []/\(∀ wu:AS,X s7 wu->aM wu->(S 7 [(.func dW []),.agg d] (.agg b) wu/\(S 15 [(.ptr (some (l1,0))),.agg b] (.aQ []) wu/\True))->C 15 [(.ptr (some (l1,0))),.agg b] (.aQ []) wu->fm (some 16) w (bz (cR wu l3 0 w) fun z=>aR (aC z l1 0 21) fun ao=>aR (aC z l3 0 16) fun ar=>R (.aQ [.agg ao,.agg ar,.bool true]) z))))))))))) /\
 (aa Tryz.prog ec [.ptr a0] s4 fun aw e=>∃ M:Bool,aw=.bool M/\(af (!M) (O [.bool true] e) (af (decide ((a1:Int)<0)) (O [.bool true] e) (ai a0 fun a2 a3=>dJ (av e a2 (a3+18)) fun a4=>aU .i64 (aO T bH a4 e) fun a5=>O [(.bool (decide ((a1:Int)>=a5)))] e))))
def BD:QA:=(.seq .leaf (.seq (.join [(22,.bool)] [(7,22)] .leaf (.cond (.seq .leaf .leaf) .leaf)) (.seq (.uU [0,1,2,3,4,5,6,7,8,9,10,11,12,13,14,15] [16,17] [[],[],[],[],[],[],[],[],[],[],[],[],[],[],[],[7]] [7,15] [15]) .leaf)))
theorem BE (a0:Option (Nat×Nat)) (a1:Int) (s:AS) (R:AV->AS->Prop) (h:BC a0 a1 s R):aa Tryz.prog nq [.ptr a0,.int .i64 a1] s R :=
 aa.q (n:=40) (rs:=[.cell 4 52,.cell 5 49,.tmp 6]) (A:=BD) hT bW Tryz.func159 (by kernel_rfl) rfl rfl rfl (by kernel_rfl) (by kernel_rfl) h
def pe (a0:AV) (s:AS) (R:AV->AS->Prop):Prop :=
 aU .i64 (aO T bH a0 s) fun b=>aU .i64 (aO T bH a0 s) fun n2=>dJ (aZ T bH a0 none (some (.int .i64 b)) (some (.int .i64 n2))) fun c=>R c s
def pg:QA:=(.seq .leaf (.seq .leaf .leaf))
theorem pn (a0:AV) (s:AS) (R:AV->AS->Prop) (h:pe a0 s R):aa Tryz.prog a_ [a0] s R :=
 aa.q (n:=9) (rs:=[.tmp 2]) (A:=pg) hT bW Tryz.func156 (by kernel_rfl) rfl rfl rfl (by kernel_rfl) (by kernel_rfl) h
def nE (a0:AV) (s:AS) (R:AV->AS->Prop):Prop :=
 aU .i64 (aO T bp a0 s) fun b=>aU .i64 (aO T bp a0 s) fun n2=>dJ (aZ T bp a0 none (some (.int .i64 b)) (some (.int .i64 n2))) fun c=>R c s
def nH:QA:=(.seq .leaf (.seq .leaf .leaf))
theorem nI (a0:AV) (s:AS) (R:AV->AS->Prop) (h:nE a0 s R):aa Tryz.prog bq [a0] s R :=
 aa.q (n:=9) (rs:=[.tmp 2]) (A:=nH) hT bW Tryz.func157 (by kernel_rfl) rfl rfl rfl (by kernel_rfl) (by kernel_rfl) h
def pU (a0:AV) (s:AS) (R:AV->AS->Prop):Prop :=
 uT (Qi T bR true a0 (.slc none 0 0 true)) fun b=>af b
 (R (.slc none 0 0 true) s)
 (aR (cV T bR 0 []) fun c=>ak (.cells c 0 false) s fun l3 s4=>iF (aI T bR bR (.slc (some (l3,0)) 0 0 true) a0 s4) fun d s6=>R d s6)
def pV:QA:=(.seq .leaf (.seq (.seq .leaf (.cond (.seq .leaf .leaf) .leaf)) (.seq .leaf .leaf)))
theorem pW (a0:AV) (s:AS) (R:AV->AS->Prop) (h:pU a0 s R):aa Tryz.prog bC [a0] s R :=
 aa.q (n:=8) (rs:=[.tmp 2]) (A:=pV) hT bW Tryz.func170 (by kernel_rfl) rfl rfl rfl (by kernel_rfl) (by kernel_rfl) h
end Go.Proofs.YtohgmogbabkkeaaGreat
end

section
set_option maxRecDepth 100000
set_option maxHeartbeats 4000000
namespace Go.Proofs.YtohgmogbabkkeaaGreat
open Go.Am
def II  (s:AS) (R:AV->AS->Prop):Prop :=
 ak (.cells [.int .u64 0] 0 false) s fun l1 s2=>bz (cR s2 l1 0 [.int .u64 2]) fun s3=>bA fun l G=>l G [.slc none 0 0 true,(.ptr (some (l1,0)))] s3 /\
 ∀ F:Nat,∀ d:AV,∀ j:Option (Nat×Nat),∀ k:AS,l F [d,.ptr j] k ->
 aU .i64 (aO T fj d k) fun m=>af (decide ((m:Int)<64))
 (bt fun c =>
 (∀ e:AV,∀ bQ:AS,c [e] bQ ->
 ai j fun lq n=>aU .u64 (av bQ lq n) fun o=>ak (.cells [.int .u64 0] 0 false) bQ fun b eC=>bz (cR eC b 0 [.int .u64 o]) fun iV=>aU .u64 (av iV b 0) fun p=>bz (cR iV b 0 [(.int .u64 (IntKind.wrap .u64 (p+1)))]) fun gu=>∃ m',m'<F/\l m' [e,(.ptr (some (b,0)))] gu) /\
 (aa Tryz.prog bT [d,(.func qy [.ptr j])] k fun r tD=>∃ i:Bool,r=.bool i/\(af (!i)
 (ai j fun w x=>aU .u64 (av tD w x) fun y=>aR (cV T fj 1 [(0,.int .u64 y)]) fun z=>ak (.cells z 0 false) tD fun A B=>iF (aI T fj fj d (.slc (some (A,0)) 1 1 true) B) fun C D=>c [C] D)
 (c [d] tD))))
 (R d k)
def IJ:QA:=(.seq .leaf (.seq .leaf (.seq (.seq .leaf (.wrap (.loop [(1,.any),(2,.ptr)] [(1,16)] (.seq (.seq .leaf (.cond .leaf .leaf)) (.join [(1,.any)] [(1,1),(8,15)] (.wrap (.seq .leaf (.cond .leaf .leaf))) (.seq (.seq .leaf .leaf) .leaf)))))) (.seq .leaf .leaf))))
theorem IK  (s:AS) (R:AV->AS->Prop) (h:II  s R):aa Tryz.prog uj [] s R :=
 aa.q (n:=18) (rs:=[.tmp 0]) (A:=IJ) hT bW Tryz.func258 (by kernel_rfl) rfl rfl rfl (by kernel_rfl) (by kernel_rfl) h
def EP (a0:Int) (c0:Option (Nat×Nat)) (s:AS) (R:AV->AS->Prop):Prop :=
 ai c0 fun l1 o2=>aU .u64 (av s l1 o2) fun b=>NZ a0 (R (.bool ((Int.tmod b a0:Int)==0)) s)
def ER:QA:=(.seq .leaf (.seq .leaf .leaf))
theorem ES (a0:Int) (c0:Option (Nat×Nat)) (s:AS) (R:AV->AS->Prop) (h:EP a0 c0 s R):aa Tryz.prog qy [.int .u64 a0,.ptr c0] s R :=
 aa.q (n:=8) (rs:=[.tmp 3]) (A:=ER) hT bW Tryz.func291 (by kernel_rfl) rfl rfl rfl (by kernel_rfl) (by kernel_rfl) h
def IL (a0:Int) (s:AS) (R:AV->AS->Prop):Prop :=
 ak (.cells [.int .u64 0,.int .u64 0] 0 false) s fun l1 s2=>aa Tryz.prog fX [.int .u64 a0,.int .u64 a0] s2 fun e s4=>∃ b:Int,∃ c:Int,e=.aQ [.int .u64 b,.int .u64 c]/\(oR (aV T fD [(0,.int .u64 b),(1,.int .u64 c)]) fun d=>fm (some 2) d (bz (cR s4 l1 0 d) fun s8=>aR (aC s8 l1 0 2) fun i=>R (.agg i) s8))
def IM:QA:=(.seq .leaf (.seq .leaf (.seq .leaf .leaf)))
theorem IN (a0:Int) (s:AS) (R:AV->AS->Prop) (h:IL a0 s R):aa Tryz.prog fq [.int .u64 a0] s R :=
 aa.q (n:=14) (rs:=[.cell 2 341]) (A:=IM) hT bW Tryz.func297 (by kernel_rfl) rfl rfl rfl (by kernel_rfl) (by kernel_rfl) h
def MZ (a0:Int) (s:AS) (R:AV->AS->Prop):Prop :=
 ak (.cells [.int .u64 0,.int .u64 0] 0 false) s fun l1 s2=>aa Tryz.prog fq [.int .u64 a0] s2 fun F s4=>∃ m:List AV,F=.agg m/\(ak (.cells [.int .u64 0,.int .u64 0] 0 false) s4 fun n s7=>fm (some 2) m (bz (cR s7 n 0 m) fun s8=>bG (ag T fD (.ptr (some (n,0))) (.int .i64 1)) fun G o=>aU .u64 (av s8 G o) fun p=>aa Tryz.prog fX [.int .u64 p,.int .u64 a0] s8 fun r bQ=>∃ d:Int,∃ b:Int,r=.aQ [.int .u64 d,.int .u64 b]/\(bG (ag T fD (.ptr (some (n,0))) (.int .i64 0)) fun qV w=>aU .u64 (av bQ qV w) fun x=>aa Tryz.prog fX [.int .u64 x,.int .u64 a0] bQ fun y fN=>∃ e:Int,∃ i:Int,y=.aQ [.int .u64 e,.int .u64 i]/\(aa Tryz.prog rB [.int .u64 i,.int .u64 d,.int .u64 0] fN fun z A=>∃ c:Int,∃ j:Int,z=.aQ [.int .u64 c,.int .u64 j]/\(NN 32 (NN 32 (aU .u64 (bB .or .u64 (IntKind.wrap .u64 ((IntKind.wrap .u64 (e+j))*2 ^ min (Int.toNat 32) (IntKind.bits .u64))) (Int.fdiv c (2 ^ min (Int.toNat 32) (IntKind.bits .u64)))) fun B=>NN 32 (NN 32 (aU .u64 (bB .or .u64 (IntKind.wrap .u64 (c*2 ^ min (Int.toNat 32) (IntKind.bits .u64))) (Int.fdiv b (2 ^ min (Int.toNat 32) (IntKind.bits .u64)))) fun C=>oR (aV T fD [(0,.int .u64 B),(1,.int .u64 C)]) fun k=>NN 32 (fm (some 2) k (bz (cR A l1 0 k) fun l=>aR (aC l l1 0 2) fun D=>R (.aQ [.agg D,(.bool ((IntKind.wrap .u64 (b*2 ^ min (Int.toNat 32) (IntKind.bits .u64)):Int) != 0))]) l)))))))))))
def M4:QA:=(.seq .leaf (.seq .leaf (.seq .leaf (.seq .leaf (.seq .leaf (.seq .leaf (.seq .leaf .leaf)))))))
theorem M5 (a0:Int) (s:AS) (R:AV->AS->Prop) (h:MZ a0 s R):aa Tryz.prog yB [.int .u64 a0] s R :=
 aa.q (n:=50) (rs:=[.cell 2 341,.tmp 3]) (A:=M4) hT bW Tryz.func294 (by kernel_rfl) rfl rfl rfl (by kernel_rfl) (by kernel_rfl) h
def KU (a0:List AV) (a1:Bool) (a2:Int) (s:AS) (R:AV->AS->Prop):Prop :=
 cH a0 (ak (.cells a0 0 false) s fun l1 s2=>bG (ag T fD (.ptr (some (l1,0))) (.int .i64 0)) fun l3 d=>aU .u64 (av s2 l3 d) fun e=>af (decide ((e:Int)>a2)) (R (.bool true) s2) (bG (ag T fD (.ptr (some (l1,0))) (.int .i64 0)) fun i j=>aU .u64 (av s2 i j) fun k=>af ((k:Int)==a2) (bG (ag T fD (.ptr (some (l1,0))) (.int .i64 1)) fun l b=>aU .u64 (av s2 l b) fun c=>af (decide ((c:Int)>0)) (R (.bool true) s2) (R (.bool a1) s2)) (R (.bool false) s2)))
def KV:QA:=(.seq .leaf (.seq .leaf .leaf))
theorem KW (a0:List AV) (a1:Bool) (a2:Int) (s:AS) (R:AV->AS->Prop) (h:KU a0 a1 a2 s R):aa Tryz.prog rA [.agg a0,.bool a1,.int .u64 a2] s R :=
 aa.q (n:=25) (rs:=[.tmp 6]) (A:=KV) hT bW Tryz.func295 (by kernel_rfl) rfl rfl rfl (by kernel_rfl) (by kernel_rfl) h
def M6 (a0:AV) (s:AS) (R:AV->AS->Prop):Prop :=
 bt fun l =>
 (∀ n2:Int,∀ s3:AS,l [.int .u64 n2] s3 ->
 R (.int .u32 (IntKind.wrap .u32 n2)) s3) /\
 (bA fun e m=>e m [.int .u64 0,.int .i64 0] s /\
 ∀ j:Nat,∀ i:Int,∀ b:Int,∀ k:AS,e j [.int .u64 i,.int .i64 b] k ->
 af (decide ((b:Int)<38))
 (NN (IntKind.wrap .i64 (37 - b)) (aU .u64 (bB .or .u64 i (IntKind.wrap .u64 (1*2 ^ min (Int.toNat (IntKind.wrap .i64 (37 - b))) (IntKind.bits .u64)))) fun c=>ek Tryz.prog a0 [.int .u64 c] k fun v11 dw=>∃ d:Bool,v11=.bool d/\(af (!d)
 (∃ m',m'<j/\e m' [.int .u64 c,(.int .i64 (IntKind.wrap .i64 (b+1)))] dw)
 (∃ m',m'<j/\e m' [.int .u64 i,(.int .i64 (IntKind.wrap .i64 (b+1)))] dw))))
 (l [.int .u64 i] k))
def M7:QA:=(.seq .leaf (.seq .leaf (.join [(3,.int .u64)] [(3,19)] (.seq .leaf (.wrap (.loop [(3,.int .u64),(6,.int .i64)] [(3,19)] (.seq .leaf (.seq (.cond .leaf .leaf) (.seq (.wrap (.seq .leaf (.seq .leaf (.seq .leaf (.cond .leaf .leaf))))) .leaf)))))) (.seq .leaf .leaf))))
theorem M9 (a0:AV) (s:AS) (R:AV->AS->Prop) (h:M6 a0 s R):aa Tryz.prog uk [a0] s R :=
 aa.q (n:=22) (rs:=[.tmp 2]) (A:=M7) hT bW Tryz.func292 (by kernel_rfl) rfl rfl rfl (by kernel_rfl) (by kernel_rfl) h
def ET (a0:Int) (s:AS) (R:AV->AS->Prop):Prop :=
 ak (.cells [.int .u64 a0] 0 false) s fun l1 s2=>aa Tryz.prog uk [(.func nA [(.ptr (some (l1,0)))])] s2 fun c s4=>∃ b:Int,c=.int .u32 b/\(R (.int .u32 b) s4)
def EU:QA:=(.seq .leaf (.seq .leaf .leaf))
theorem EV (a0:Int) (s:AS) (R:AV->AS->Prop) (h:ET a0 s R):aa Tryz.prog qx [.int .u64 a0] s R :=
 aa.q (n:=5) (rs:=[.tmp 2]) (A:=EU) hT bW Tryz.func259 (by kernel_rfl) rfl rfl rfl (by kernel_rfl) (by kernel_rfl) h
def BF (a0:Int) (c0:Option (Nat×Nat)) (s:AS) (R:AV->AS->Prop):Prop :=
 aa Tryz.prog yB [.int .u64 a0] s fun l s2=>∃ c:List AV,∃ j:Bool,l=.aQ [.agg c,.bool j]/\(ak (.cells [.int .u64 0,.int .u64 0] 0 false) s2 fun k s6=>fm (some 2) c (bz (cR s6 k 0 c) fun s7=>aR (aC s7 k 0 2) fun m=>ai c0 fun n d=>aU .u64 (av s7 n d) fun e=>aa Tryz.prog rA [.agg m,.bool j,.int .u64 e] s7 fun i bQ=>∃ b:Bool,i=.bool b/\(R (.bool b) bQ)))
def BG:QA:=(.seq .leaf (.seq .leaf (.seq .leaf .leaf)))
theorem BH (a0:Int) (c0:Option (Nat×Nat)) (s:AS) (R:AV->AS->Prop) (h:BF a0 c0 s R):aa Tryz.prog nA [.int .u64 a0,.ptr c0] s R :=
 aa.q (n:=15) (rs:=[.tmp 3]) (A:=BG) hT bW Tryz.func293 (by kernel_rfl) rfl rfl rfl (by kernel_rfl) (by kernel_rfl) h
def KX (a0:Int) (s:AS) (R:AV->AS->Prop):Prop :=
 ak (.cells [.int .u64 a0] 0 false) s fun l1 s2=>aa Tryz.prog uk [(.func rX [(.ptr (some (l1,0)))])] s2 fun c s4=>∃ b:Int,c=.int .u32 b/\(R (.int .u32 b) s4)
def KY:QA:=(.seq .leaf (.seq .leaf .leaf))
theorem KZ (a0:Int) (s:AS) (R:AV->AS->Prop) (h:KX a0 s R):aa Tryz.prog wh [.int .u64 a0] s R :=
 aa.q (n:=5) (rs:=[.tmp 2]) (A:=KY) hT bW Tryz.func260 (by kernel_rfl) rfl rfl rfl (by kernel_rfl) (by kernel_rfl) h
def Gf (a0:Int) (c0:Option (Nat×Nat)) (s:AS) (R:AV->AS->Prop):Prop :=
 gx fun S V=>(∀ s1:AS,Ext s s1->aM s1->(True)->aa Tryz.prog fq [.int .u64 a0] s1 fun k s3=>∃ d:List AV,k=.agg d/\((Ext s1 s3/\S 1 [(.func fq []),.int .u64 a0] (.agg d) s3/\V 1 [(.func fq []),.int .u64 a0] (.agg d))))/\(∃ v,V 1 [(.func fq []),.int .u64 a0] v)/\∀ j:AV,V 1 [(.func fq []),.int .u64 a0] j->∃ e:List AV,j=.agg e/\(ai c0 fun l m=>aU .u64 (av s l m) fun n=>∀ b:AS,Ext s b->aM b->(S 1 [(.func fq []),.int .u64 a0] (.agg e) b/\True)->aa Tryz.prog rA [.agg e,.bool false,.int .u64 n] b fun i bQ=>∃ c:Bool,i=.bool c/\(R (.bool c) bQ))
def Gg:QA:=(.seq .leaf (.seq (.gN 3 [[],[],[]] [1]) .leaf))
theorem Gh (a0:Int) (c0:Option (Nat×Nat)) (s:AS) (R:AV->AS->Prop) (h:Gf a0 c0 s R):aa Tryz.prog rX [.int .u64 a0,.ptr c0] s R :=
 aa.q (n:=8) (rs:=[.tmp 3]) (A:=Gg) hT bW Tryz.func296 (by kernel_rfl) rfl rfl rfl (by kernel_rfl) (by kernel_rfl) h
def K0  (s:AS) (R:AV->AS->Prop):Prop :=
 ak (.cells (List.replicate 72 (.int .u32 0)) 0 false) s fun l1 s2=>ak (.cells (List.replicate 72 (.int .u32 0)) 0 false) s2 fun l3 s4=>aa Tryz.prog uj [] s4 fun z s6=>aU .i64 (aO T fj z s6) fun A=>bA fun l B=>l B [.int .i64 0] s6 /\
 ∀ c:Nat,∀ b:Int,∀ dw:AS,l c [.int .i64 b] dw ->
 af (decide ((b:Int)<A))
 (bG (ag T fj z (.int .i64 b)) fun m n=>aU .u64 (av dw m n) fun d=>aa Tryz.prog qx [.int .u64 d] dw fun nD lH=>∃ e:Int,nD=.int .u32 e/\(bG (ag T dn (.ptr (some (l3,8))) (.int .i64 b)) fun zl o=>bz (cR lH zl o [.int .u32 e]) fun gu=>af (decide ((b:Int)<8))
 (aa Tryz.prog wh [.int .u64 d] gu fun p tD=>∃ i:Int,p=.int .u32 i/\(bG (ag T cg (.ptr (some (l3,0))) (.int .i64 b)) fun r w=>bz (cR tD r w [.int .u32 i]) fun x=>∃ m',m'<c/\l m' [(.int .i64 (IntKind.wrap .i64 (b+1)))] x))
 (∃ m',m'<c/\l m' [(.int .i64 (IntKind.wrap .i64 (b+1)))] gu)))
 (aR (aC dw l3 0 72) fun j=>fm (some 72) j (bz (cR dw l1 0 j) fun k=>aR (aC k l1 0 72) fun y=>R (.agg y) k))
def K3:QA:=(.seq .leaf (.seq .leaf (.seq (.seq .leaf (.wrap (.loop [(6,.int .i64)] [(2,3),(6,23)] (.seq .leaf (.seq (.cond .leaf .leaf) (.seq (.wrap (.seq .leaf (.seq .leaf (.seq .leaf (.cond .leaf .leaf))))) .leaf)))))) (.seq .leaf .leaf))))
theorem K4  (s:AS) (R:AV->AS->Prop) (h:K0  s R):aa Tryz.prog wg [] s R :=
 aa.q (n:=25) (rs:=[.cell 0 288]) (A:=K3) hT bW Tryz.func219 (by kernel_rfl) rfl rfl rfl (by kernel_rfl) (by kernel_rfl) h
def zZ (a0:Option (Nat×Nat)) (a1:AV) (s:AS) (R:AV->AS->Prop):Prop :=
 ak (.cells (List.replicate 64 (.int .u32 0)) 0 false) s fun l1 s2=>bt fun J3 =>
 (∀ s4:AS,J3 [] s4 ->
 bt fun J5 =>
 (∀ s6:AS,J5 [] s6 ->
 ai a0 fun l7 o8=>bG (ag T cg (.ptr (some (l7,o8))) (.int .i64 0)) fun l9 ds=>aU .u32 (av s6 l9 ds) fun dt=>ai a0 fun qQ du=>bG (ag T cg (.ptr (some (qQ,du))) (.int .i64 1)) fun lq dv=>aU .u32 (av s6 lq dv) fun dy=>ai a0 fun dC dE=>bG (ag T cg (.ptr (some (dC,dE))) (.int .i64 2)) fun zl dT=>aU .u32 (av s6 zl dT) fun d'=>ai a0 fun ea eb=>bG (ag T cg (.ptr (some (ea,eb))) (.int .i64 3)) fun ed eg=>aU .u32 (av s6 ed eg) fun eh=>ai a0 fun ei ej=>bG (ag T cg (.ptr (some (ei,ej))) (.int .i64 4)) fun em et=>aU .u32 (av s6 em et) fun ev=>ai a0 fun eA eB=>bG (ag T cg (.ptr (some (eA,eB))) (.int .i64 5)) fun eI eQ=>aU .u32 (av s6 eI eQ) fun e0=>ai a0 fun e1 e2=>bG (ag T cg (.ptr (some (e1,e2))) (.int .i64 6)) fun e3 e4=>aU .u32 (av s6 e3 e4) fun e5=>ai a0 fun e6 e7=>bG (ag T cg (.ptr (some (e6,e7))) (.int .i64 7)) fun e8 e9=>aU .u32 (av s6 e8 e9) fun e'=>bt fun be =>
 (∀ bh:Int,∀ bi:Int,∀ bj:Int,∀ bk:Int,∀ bl:Int,∀ bm:Int,∀ bo:Int,∀ bs:Int,∀ bx:AS,be [.int .u32 bh,.int .u32 bi,.int .u32 bj,.int .u32 bk,.int .u32 bl,.int .u32 bm,.int .u32 bo,.int .u32 bs] bx ->
 oR (aV T cg [(0,.int .u32 bh),(1,.int .u32 bi),(2,.int .u32 bj),(3,.int .u32 bk),(4,.int .u32 bl),(5,.int .u32 bm),(6,.int .u32 bo),(7,.int .u32 bs)]) fun fa=>bA fun ba fb=>ba fb [.int .i64 0] bx /\
 ∀ b0:Nat,∀ D:Int,∀ W:AS,ba b0 [.int .i64 D] W ->
 af (decide ((D:Int)<8))
 (aU .u32 (i_ T cg (.agg fa) (.int .i64 D)) fun fc=>ai a0 fun fe fg=>bG (ag T cg (.ptr (some (fe,fg))) (.int .i64 D)) fun fi fp=>aU .u32 (av W fi fp) fun fr=>ai a0 fun fs ft=>bG (ag T cg (.ptr (some (fs,ft))) (.int .i64 D)) fun fv fw=>bz (cR W fv fw [(.int .u32 (IntKind.wrap .u32 (fr+fc)))]) fun fx=>∃ m',m'<b0/\ba m' [(.int .i64 (IntKind.wrap .i64 (D+1)))] fx)
 (R (.aQ []) W)) /\
 (bA fun bb fz=>bb fz [.int .u32 dt,.int .u32 dy,.int .u32 d',.int .u32 eh,.int .u32 ev,.int .u32 e0,.int .u32 e5,.int .u32 e',.int .i64 0] s6 /\
 ∀ b1:Nat,∀ F:Int,∀ G:Int,∀ H:Int,∀ bc:Int,∀ j:Int,∀ X:Int,∀ Y:Int,∀ Z:Int,∀ I:Int,∀ x:AS,bb b1 [.int .u32 F,.int .u32 G,.int .u32 H,.int .u32 bc,.int .u32 j,.int .u32 X,.int .u32 Y,.int .u32 Z,.int .i64 I] x ->
 af (decide ((I:Int)<64))
 (gx fun S V=>(∀ ab:AS,Ext x ab->aM ab->(True)->aR (cV T dZ 3 [(0,.int .i64 6),(1,.int .i64 11),(2,.int .i64 25)]) fun f'=>ak (.cells f' 0 false) ab fun b2 b3=>(Ext ab b3/\S 3 [.int .i64 6,.int .i64 11,.int .i64 25] (.slc (some (b2,0)) 3 3 true) b3/\V 3 [.int .i64 6,.int .i64 11,.int .i64 25] (.slc (some (b2,0)) 3 3 true)))/\(∃ v,V 3 [.int .i64 6,.int .i64 11,.int .i64 25] v)/\∀ o:AV,V 3 [.int .i64 6,.int .i64 11,.int .i64 25] o->(∀ J:AS,Ext x J->aM J->(S 3 [.int .i64 6,.int .i64 11,.int .i64 25] o J/\True)->aa Tryz.prog aD [.int .u32 j,o] J fun ga b4=>∃ bd:Int,ga=.int .u32 bd/\((Ext J b4/\S 4 [(.func aD []),.int .u32 j,o] (.int .u32 bd) b4/\V 4 [(.func aD []),.int .u32 j,o] (.int .u32 bd))))/\(∃ v,V 4 [(.func aD []),.int .u32 j,o] v)/\∀ b5:AV,V 4 [(.func aD []),.int .u32 j,o] b5->∃ ad:Int,b5=.int .u32 ad/\(aU .u32 (bB .and .u32 j X) fun gb=>aU .u32 (Ud .xor (.int .u32 j)) fun gf=>aU .u32 (bB .and .u32 gf Y) fun b6=>aU .u32 (bB .xor .u32 gb b6) fun ae=>ai a0 fun b7 b8=>bG (ag T dn (.ptr (some (b7,(b8+8)))) (.int .i64 I)) fun b9 b'=>aU .u32 (av x b9 b') fun al=>bG (ag T dn (.ptr (some (l1,0))) (.int .i64 I)) fun ca cb=>aU .u32 (av x ca cb) fun am=>∀ p:AS,Ext x p->aM p->(S 3 [.int .i64 6,.int .i64 11,.int .i64 25] o p/\(S 4 [(.func aD []),.int .u32 j,o] (.int .u32 ad) p/\True))->aR (cV T dZ 3 [(0,.int .i64 2),(1,.int .i64 13),(2,.int .i64 22)]) fun cc=>ak (.cells cc 0 false) p fun cd ce=>aa Tryz.prog aD [.int .u32 F,(.slc (some (cd,0)) 3 3 true)] ce fun cf ch=>∃ an:Int,cf=.int .u32 an/\(aU .u32 (bB .and .u32 F G) fun ci=>aU .u32 (bB .and .u32 F H) fun ck=>aU .u32 (bB .xor .u32 ci ck) fun cl=>aU .u32 (bB .and .u32 G H) fun cm=>aU .u32 (bB .xor .u32 cl cm) fun cn=>∃ m',m'<b1/\bb m' [(.int .u32 (IntKind.wrap .u32 ((IntKind.wrap .u32 ((IntKind.wrap .u32 ((IntKind.wrap .u32 ((IntKind.wrap .u32 (Z+ad))+ae))+al))+am))+(IntKind.wrap .u32 (an+cn))))),.int .u32 F,.int .u32 G,.int .u32 H,(.int .u32 (IntKind.wrap .u32 (bc+(IntKind.wrap .u32 ((IntKind.wrap .u32 ((IntKind.wrap .u32 ((IntKind.wrap .u32 (Z+ad))+ae))+al))+am))))),.int .u32 j,.int .u32 X,.int .u32 Y,(.int .i64 (IntKind.wrap .i64 (I+1)))] ch)))
 (be [.int .u32 F,.int .u32 G,.int .u32 H,.int .u32 bc,.int .u32 j,.int .u32 X,.int .u32 Y,.int .u32 Z] x))) /\
 (bA fun K cp=>K cp [.int .i64 16] s4 /\
 ∀ ao:Nat,∀ e:Int,∀ b:AS,K ao [.int .i64 e] b ->
 af (decide ((e:Int)<64))
 (bG (ag T dn (.ptr (some (l1,0))) (.int .i64 (IntKind.wrap .i64 (e - 15)))) fun cr cs=>aU .u32 (av b cr cs) fun i=>bG (ag T dn (.ptr (some (l1,0))) (.int .i64 (IntKind.wrap .i64 (e - 2)))) fun cu cv=>aU .u32 (av b cu cv) fun k=>gx fun S V=>bG (ag T dn (.ptr (some (l1,0))) (.int .i64 (IntKind.wrap .i64 (e - 16)))) fun cw cx=>aU .u32 (av b cw cx) fun cy=>(∀ y:AS,Ext b y->aM y->(True)->aR (cV T dZ 2 [(0,.int .i64 7),(1,.int .i64 18)]) fun cz=>ak (.cells cz 0 false) y fun ar aw=>(Ext y aw/\S 7 [.int .i64 7,.int .i64 18] (.slc (some (ar,0)) 2 2 true) aw/\V 7 [.int .i64 7,.int .i64 18] (.slc (some (ar,0)) 2 2 true)))/\(∃ v,V 7 [.int .i64 7,.int .i64 18] v)/\∀ c:AV,V 7 [.int .i64 7,.int .i64 18] c->(∀ r:AS,Ext b r->aM r->(S 7 [.int .i64 7,.int .i64 18] c r/\True)->aa Tryz.prog aD [.int .u32 i,c] r fun cA a2=>∃ L:Int,cA=.int .u32 L/\((Ext r a2/\S 8 [(.func aD []),.int .u32 i,c] (.int .u32 L) a2/\V 8 [(.func aD []),.int .u32 i,c] (.int .u32 L))))/\(∃ v,V 8 [(.func aD []),.int .u32 i,c] v)/\∀ a3:AV,V 8 [(.func aD []),.int .u32 i,c] a3->∃ z:Int,a3=.int .u32 z/\(NN 3 (aU .u32 (bB .xor .u32 z (Int.fdiv i (2 ^ min (Int.toNat 3) (IntKind.bits .u32)))) fun cB=>bG (ag T dn (.ptr (some (l1,0))) (.int .i64 (IntKind.wrap .i64 (e - 7)))) fun cC c0=>aU .u32 (av b cC c0) fun c1=>(∀ A:AS,Ext b A->aM A->(True)->aR (cV T dZ 2 [(0,.int .i64 17),(1,.int .i64 19)]) fun c2=>ak (.cells c2 0 false) A fun a4 a5=>(Ext A a5/\S 20 [.int .i64 17,.int .i64 19] (.slc (some (a4,0)) 2 2 true) a5/\V 20 [.int .i64 17,.int .i64 19] (.slc (some (a4,0)) 2 2 true)))/\(∃ v,V 20 [.int .i64 17,.int .i64 19] v)/\∀ d:AV,V 20 [.int .i64 17,.int .i64 19] d->(∀ l:AS,Ext b l->aM l->(S 7 [.int .i64 7,.int .i64 18] c l/\(S 8 [(.func aD []),.int .u32 i,c] (.int .u32 z) l/\(S 20 [.int .i64 17,.int .i64 19] d l/\True)))->aa Tryz.prog aD [.int .u32 k,d] l fun c3 a6=>∃ M:Int,c3=.int .u32 M/\((Ext l a6/\S 21 [(.func aD []),.int .u32 k,d] (.int .u32 M) a6/\V 21 [(.func aD []),.int .u32 k,d] (.int .u32 M))))/\(∃ v,V 21 [(.func aD []),.int .u32 k,d] v)/\∀ a7:AV,V 21 [(.func aD []),.int .u32 k,d] a7->∃ O:Int,a7=.int .u32 O/\(NN 10 (aU .u32 (bB .xor .u32 O (Int.fdiv k (2 ^ min (Int.toNat 10) (IntKind.bits .u32)))) fun c4=>∀ m:AS,Ext b m->aM m->(S 7 [.int .i64 7,.int .i64 18] c m/\(S 8 [(.func aD []),.int .u32 i,c] (.int .u32 z) m/\(S 20 [.int .i64 17,.int .i64 19] d m/\(S 21 [(.func aD []),.int .u32 k,d] (.int .u32 O) m/\True))))->bG (ag T dn (.ptr (some (l1,0))) (.int .i64 e)) fun c5 c6=>bz (cR m c5 c6 [(.int .u32 (IntKind.wrap .u32 ((IntKind.wrap .u32 ((IntKind.wrap .u32 (cy+cB))+c1))+c4)))]) fun c7=>∃ m',m'<ao/\K m' [(.int .i64 (IntKind.wrap .i64 (e+1)))] c7)))))
 (J5 [] b))) /\
 (bA fun Q c8=>Q c8 [.int .i64 0] s2 /\
 ∀ a8:Nat,∀ n:Int,∀ B:AS,Q a8 [.int .i64 n] B ->
 af (decide ((n:Int)<16))
 (dJ (aZ T aq a1 (some (.int .i64 (IntKind.wrap .i64 (4*n)))) (some (.int .i64 (IntKind.wrap .i64 ((IntKind.wrap .i64 (4*n))+4)))) none) fun a9=>aU .i64 (aO T aq a9 B) fun c9=>bA fun U c'=>U c' [.int .i64 0] B /\
 ∀ a':Nat,∀ C:Int,∀ w:AS,U a' [.int .i64 C] w ->
 af (decide ((C:Int)<c9))
 (bG (ag T aq a9 (.int .i64 C)) fun da db=>aU .u8 (av w da db) fun dc=>bG (ag T dn (.ptr (some (l1,0))) (.int .i64 n)) fun dd df=>aU .u32 (av w dd df) fun dk=>NN 8 (aU .u32 (bB .or .u32 (IntKind.wrap .u32 (dk*2 ^ min (Int.toNat 8) (IntKind.bits .u32))) (IntKind.wrap .u32 dc)) fun dl=>bG (ag T dn (.ptr (some (l1,0))) (.int .i64 n)) fun dm dp=>bz (cR w dm dp [.int .u32 dl]) fun dr=>∃ m',m'<a'/\U m' [(.int .i64 (IntKind.wrap .i64 (C+1)))] dr))
 (∃ m',m'<a8/\Q m' [(.int .i64 (IntKind.wrap .i64 (n+1)))] w))
 (J3 [] B))
def z0:QA:=(.seq .leaf (.seq .leaf (.join [] [(6,6),(8,8),(25,50)] (.seq .leaf (.wrap (.loop [(25,.int .i64)] [(6,6),(8,8),(25,50)] (.seq .leaf (.seq (.cond .leaf .leaf) (.seq (.wrap (.seq .leaf (.seq .leaf (.wrap (.loop [(36,.int .i64)] [(8,8),(36,49)] (.seq .leaf (.seq (.cond .leaf .leaf) (.seq (.wrap (.seq .leaf .leaf)) .leaf)))))))) .leaf)))))) (.join [] [(9,11),(51,89)] (.seq .leaf (.wrap (.loop [(9,.int .i64)] [(9,11),(51,89)] (.seq (.seq .leaf (.cond .leaf .leaf)) (.seq (.wrap (.seq (.draw 9) (.gN 26 [[],[],[],[],[],[],[],[],[7],[],[],[],[],[],[],[],[],[],[],[],[],[7,8,20],[],[],[],[]] [7,8,20,21]))) .leaf))))) (.seq (.draw 47) (.join [(12,.int .u32),(13,.int .u32),(14,.int .u32),(15,.int .u32),(16,.int .u32),(17,.int .u32),(18,.int .u32),(19,.int .u32)] [(12,22),(130,187)] (.seq .leaf (.wrap (.loop [(12,.int .u32),(13,.int .u32),(14,.int .u32),(15,.int .u32),(16,.int .u32),(17,.int .u32),(18,.int .u32),(19,.int .u32),(130,.int .i64)] [(12,22),(130,187)] (.seq .leaf (.seq (.cond .leaf .leaf) (.seq (.wrap (.seq .leaf (.seq (.gN 25 [[],[],[],[],[3],[],[],[],[],[],[],[],[],[],[],[],[],[],[],[],[],[],[],[],[]] [3,4]) (.seq .leaf .leaf)))) .leaf)))))) (.seq .leaf (.wrap (.loop [(197,.int .i64)] [(23,24),(197,212)] (.seq .leaf (.seq (.cond .leaf .leaf) (.seq (.wrap (.seq .leaf (.draw 10))) .leaf))))))))))))
theorem z1 (a0:Option (Nat×Nat)) (a1:AV) (s:AS) (R:AV->AS->Prop) (h:zZ a0 a1 s R):aa Tryz.prog lZ [.ptr a0,a1] s R :=
 aa.q (n:=213) (rs:=[]) (A:=z0) hT bW Tryz.func261 (by kernel_rfl) rfl rfl rfl (by kernel_rfl) (by kernel_rfl) h
def xF (a0:Int) (a1:AV) (s:AS) (R:AV->AS->Prop):Prop :=
 aU .i64 (aO T dZ a1 s) fun l=>bA fun d m=>d m [.int .u32 0,.int .i64 0] s /\
 ∀ k:Nat,∀ e:Int,∀ c:Int,∀ s7:AS,d k [.int .u32 e,.int .i64 c] s7 ->
 af (decide ((c:Int)<l))
 (bG (ag T dZ a1 (.int .i64 c)) fun n o=>aU .i64 (av s7 n o) fun i=>aa Tryz.prog gn [.int .u32 a0,(.int .i64 (IntKind.wrap .i64 (0 - i)))] s7 fun v11 dw=>∃ b:Int,v11=.int .u32 b/\(aU .u32 (bB .xor .u32 e b) fun j=>∃ m',m'<k/\d m' [.int .u32 j,(.int .i64 (IntKind.wrap .i64 (c+1)))] dw))
 (R (.int .u32 e) s7)
def xG:QA:=(.seq .leaf (.seq .leaf (.seq (.seq .leaf (.wrap (.loop [(5,.int .u32),(10,.int .i64)] [(5,5),(7,7),(10,20)] (.seq .leaf (.seq (.cond .leaf .leaf) (.seq (.wrap (.seq .leaf .leaf)) .leaf)))))) (.seq .leaf .leaf))))
theorem xH (a0:Int) (a1:AV) (s:AS) (R:AV->AS->Prop) (h:xF a0 a1 s R):aa Tryz.prog aD [.int .u32 a0,a1] s R :=
 aa.q (n:=22) (rs:=[.tmp 4]) (A:=xG) hT bW Tryz.func298 (by kernel_rfl) rfl rfl rfl (by kernel_rfl) (by kernel_rfl) h
def r_ (a0:Int) (a1:Int) (s:AS) (R:AV->AS->Prop):Prop :=
 aU .u64 (bB .and .u64 (IntKind.wrap .u64 a1) 31) fun b=>NN b (NN (IntKind.wrap .u64 (32 - b)) (aU .u32 (bB .or .u32 (IntKind.wrap .u32 (a0*2 ^ min (Int.toNat b) (IntKind.bits .u32))) (Int.fdiv a0 (2 ^ min (Int.toNat (IntKind.wrap .u64 (32 - b))) (IntKind.bits .u32)))) fun n2=>R (.int .u32 n2) s))
def sg:QA:=(.seq .leaf (.seq .leaf (.seq .leaf .leaf)))
theorem si (a0:Int) (a1:Int) (s:AS) (R:AV->AS->Prop) (h:r_ a0 a1 s R):aa Tryz.prog gn [.int .u32 a0,.int .i64 a1] s R :=
 aa.q (n:=17) (rs:=[.tmp 4]) (A:=sg) hT bW Tryz.func299 (by kernel_rfl) rfl rfl rfl (by kernel_rfl) (by kernel_rfl) h
def z2 (a0:Int) (a1:Int) (s:AS) (R:AV->AS->Prop):Prop :=
 aU .u64 (bB .and .u64 a0 4294967295) fun b=>NN 32 (aU .u64 (bB .and .u64 a1 4294967295) fun n2=>NN 32 (NN 32 (aU .u64 (bB .and .u64 (IntKind.wrap .u64 ((IntKind.wrap .u64 ((Int.fdiv a0 (2 ^ min (Int.toNat 32) (IntKind.bits .u64)))*n2))+(Int.fdiv (IntKind.wrap .u64 (b*n2)) (2 ^ min (Int.toNat 32) (IntKind.bits .u64))))) 4294967295) fun c=>NN 32 (NN 32 (R (.aQ [(.int .u64 (IntKind.wrap .u64 ((IntKind.wrap .u64 ((IntKind.wrap .u64 ((Int.fdiv a0 (2 ^ min (Int.toNat 32) (IntKind.bits .u64)))*(Int.fdiv a1 (2 ^ min (Int.toNat 32) (IntKind.bits .u64)))))+(Int.fdiv (IntKind.wrap .u64 ((IntKind.wrap .u64 ((Int.fdiv a0 (2 ^ min (Int.toNat 32) (IntKind.bits .u64)))*n2))+(Int.fdiv (IntKind.wrap .u64 (b*n2)) (2 ^ min (Int.toNat 32) (IntKind.bits .u64))))) (2 ^ min (Int.toNat 32) (IntKind.bits .u64)))))+(Int.fdiv (IntKind.wrap .u64 (c+(IntKind.wrap .u64 (b*(Int.fdiv a1 (2 ^ min (Int.toNat 32) (IntKind.bits .u64))))))) (2 ^ min (Int.toNat 32) (IntKind.bits .u64)))))),(.int .u64 (IntKind.wrap .u64 (a0*a1)))]) s)))))
def z3:QA:=(.seq .leaf (.seq .leaf (.seq .leaf (.seq .leaf (.seq .leaf (.seq .leaf (.seq .leaf (.seq .leaf (.seq .leaf (.seq .leaf (.seq .leaf (.seq .leaf .leaf))))))))))))
theorem z4 (a0:Int) (a1:Int) (s:AS) (R:AV->AS->Prop) (h:z2 a0 a1 s R):aa Tryz.prog fX [.int .u64 a0,.int .u64 a1] s R :=
 aa.q (n:=51) (rs:=[.tmp 4,.tmp 5]) (A:=z3) hT bW Tryz.func306 (by kernel_rfl) rfl rfl rfl (by kernel_rfl) (by kernel_rfl) h
def z5 (a0:List AV) (a1:AV) (s:AS) (R:AV->AS->Prop):Prop :=
 cH a0 (ak (.cells a0 0 false) s fun l1 s2=>ak (.cells (List.replicate 32 (.int .u8 0)) 0 false) s2 fun l3 s4=>aa Tryz.prog fh [a1] s4 fun v5 s6=>aU .i64 (aO T aq v5 s6) fun n7=>aR (cV T aq 1 [(0,.int .u8 128)]) fun g8=>ak (.cells g8 0 false) s6 fun l9 A=>iF (aI T aq aq v5 (.slc (some (l9,0)) 1 1 true) A) fun v11 dw=>aU .i64 (aO T aq v11 dw) fun B=>NZ 64 (NZ 64 (iF (aI T aq rC v11 (.int .i64 (Int.tmod (IntKind.wrap .i64 (120 - (Int.tmod B 64))) 64)) dw) fun C gr=>bt fun n =>
 (∀ o:AV,∀ eC:AS,n [o] eC ->
 bt fun p =>
 (∀ fN:AS,p [] fN ->
 bA fun i D=>i D [.int .i64 0] fN /\
 ∀ r:Nat,∀ b:Int,∀ dM:AS,i r [.int .i64 b] dM ->
 af (decide ((b:Int)<32))
 (NZ 4 (bG (ag T cg (.ptr (some (l1,0))) (.int .i64 (IntKind.wrap .i64 (Int.tdiv b 4)))) fun F G=>aU .u32 (av dM F G) fun H=>NZ 4 (NN (IntKind.wrap .i64 (24 - (IntKind.wrap .i64 (8*(Int.tmod b 4))))) (bG (ag T rZ (.ptr (some (l3,0))) (.int .i64 b)) fun I J=>bz (cR dM I J [(.int .u8 (IntKind.wrap .u8 (Int.fdiv H (2 ^ min (Int.toNat (IntKind.wrap .i64 (24 - (IntKind.wrap .i64 (8*(Int.tmod b 4)))))) (IntKind.bits .u32)))))]) fun mP=>∃ m',m'<r/\i m' [(.int .i64 (IntKind.wrap .i64 (b+1)))] mP))))
 (aR (aC dM l3 0 32) fun w=>fm (some 32) w (bz (cR dM l3 0 w) fun x=>aR (aC x l3 0 32) fun K=>R (.agg K) x))) /\
 (bA fun j L=>j L [o] eC /\
 ∀ y:Nat,∀ d:AV,∀ e:AS,j y [d] e ->
 aU .i64 (aO T aq d e) fun M=>af (decide ((M:Int)>0))
 (dJ (aZ T aq d none (some (.int .i64 64)) none) fun O=>aa Tryz.prog lZ [(.ptr (some (l1,0))),O] e fun Q S=>Q=.aQ []/\(dJ (aZ T aq d (some (.int .i64 64)) none none) fun U=>∃ m',m'<y/\j m' [U] S))
 (p [] e))) /\
 (bA fun k W=>k W [C,.int .i64 0] gr /\
 ∀ z:Nat,∀ l:AV,∀ c:Int,∀ m:AS,k z [l,.int .i64 c] m ->
 af (decide ((c:Int)<8))
 (NN (IntKind.wrap .i64 (56 - (IntKind.wrap .i64 (8*c)))) (aR (cV T aq 1 [(0,(.int .u8 (IntKind.wrap .u8 (Int.fdiv (IntKind.wrap .u64 ((IntKind.wrap .u64 n7)*8)) (2 ^ min (Int.toNat (IntKind.wrap .i64 (56 - (IntKind.wrap .i64 (8*c))))) (IntKind.bits .u64))))))]) fun X=>ak (.cells X 0 false) m fun Y Hj=>iF (aI T aq aq l (.slc (some (Y,0)) 1 1 true) Hj) fun Z ab=>∃ m',m'<z/\k m' [Z,(.int .i64 (IntKind.wrap .i64 (c+1)))] ab))
 (n [l] m)))))
def z6:QA:=(.seq .leaf (.seq .leaf (.seq .leaf (.seq .leaf (.seq .leaf (.join [(5,.any)] [(5,5),(7,7),(25,37)] (.seq .leaf (.wrap (.loop [(5,.any),(25,.int .i64)] [(5,5),(7,7),(25,37)] (.seq .leaf (.seq (.cond .leaf .leaf) (.seq (.wrap (.seq .leaf .leaf)) .leaf)))))) (.join [] [(5,5),(38,45)] (.wrap (.loop [(5,.any)] [(5,5),(38,45)] (.seq (.seq .leaf (.cond .leaf .leaf)) (.seq (.wrap .leaf) .leaf)))) (.seq (.seq .leaf (.wrap (.loop [(46,.int .i64)] [(8,8),(46,62)] (.seq .leaf (.seq (.cond .leaf .leaf) (.seq (.wrap (.seq .leaf .leaf)) .leaf)))))) (.seq .leaf .leaf)))))))))
theorem z7 (a0:List AV) (a1:AV) (s:AS) (R:AV->AS->Prop) (h:z5 a0 a1 s R):aa Tryz.prog ct [.agg a0,a1] s R :=
 aa.q (n:=64) (rs:=[.cell 4 93]) (A:=z6) hT bW Tryz.func220 (by kernel_rfl) rfl rfl rfl (by kernel_rfl) (by kernel_rfl) h
def M_ (a0:AV) (a1:AV) (s:AS) (R:AV->AS->Prop):Prop :=
 ak (.cells (List.replicate 32 (.int .u8 0)) 0 false) s fun l1 s2=>aa Tryz.prog wg [] s2 fun v3 s4=>∃ g5:List AV,v3=.agg g5/\(ak (.cells (List.replicate 72 (.int .u32 0)) 0 false) s4 fun l6 s7=>fm (some 72) g5 (bz (cR s7 l6 0 g5) fun s8=>bt fun J9 =>
 (∀ v10:AV,∀ C:AS,J9 [v10] C ->
 ak (.cells (List.replicate 64 (.int .u8 0)) 0 false) C fun qQ bQ=>ak (.cells (List.replicate 64 (.int .u8 0)) 0 false) bQ fun lq gr=>dJ (aZ T fY (.ptr (some (qQ,0))) none none none) fun nD=>iF (qm T aq nD v10 gr) fun b1 eC=>aR (aC eC qQ 0 64) fun D=>fm (some 64) D (bz (cR eC lq 0 D) fun fN=>bt fun F =>
 (∀ gh:AS,F [] gh ->
 gx fun S V=>aR (aC gh l6 0 72) fun j=>dJ (aZ T fY (.ptr (some (qQ,0))) none none none) fun d=>(∀ dM:AS,Ext gh dM->aM dM->(True)->aR (cV T eG 1 [(0,d)]) fun ab=>ak (.cells ab 0 false) dM fun G H=>(Ext dM H/\S 2 [d] (.slc (some (G,0)) 1 1 true) H/\V 2 [d] (.slc (some (G,0)) 1 1 true)))/\(∃ v,V 2 [d] v)/\∀ b:AV,V 2 [d] b->(∀ m:AS,Ext gh m->aM m->(S 2 [d] b m/\True)->iF (aI T eG eG b a1 m) fun I J=>(Ext m J/\S 4 [b,a1] I J/\V 4 [b,a1] I))/\(∃ v,V 4 [b,a1] v)/\∀ c:AV,V 4 [b,a1] c->(∀ j8:AS,Ext gh j8->aM j8->(S 2 [d] b j8/\(S 4 [b,a1] c j8/\True))->aa Tryz.prog ct [.agg j,c] j8 fun ad nV=>∃ x:List AV,ad=.agg x/\((Ext j8 nV/\S 5 [(.func ct []),.agg j,c] (.agg x) nV/\V 5 [(.func ct []),.agg j,c] (.agg x))))/\(∃ v,V 5 [(.func ct []),.agg j,c] v)/\∀ K:AV,V 5 [(.func ct []),.agg j,c] K->∃ n:List AV,K=.agg n/\((∀ o:AS,Ext gh o->aM o->(True)->ak (.cells (List.replicate 32 (.int .u8 0)) 0 false) o fun L M=>(Ext o M/\S 6 [] (.ptr (some (L,0))) M/\V 6 [] (.ptr (some (L,0)))))/\(∃ v,V 6 [] v)/\∀ O:AV,V 6 [] O->∃ p:Option (Nat×Nat),O=.ptr p/\(∀ e:AS,Ext gh e->aM e->(S 2 [d] b e/\(S 4 [b,a1] c e/\(S 5 [(.func ct []),.agg j,c] (.agg n) e/\(S 6 [] (.ptr p) e/\True))))->ai p fun ae al=>fm (some 32) n (bz (cR e ae al n) fun wu=>gx fun S V=>aR (aC wu l6 0 72) fun am=>dJ (aZ T fY (.ptr (some (lq,0))) none none none) fun k=>dJ (aZ T rZ (.ptr p) none none none) fun l=>(∀ Hj:AS,Ext wu Hj->aM Hj->(True)->aR (cV T eG 2 [(0,k),(1,l)]) fun an=>ak (.cells an 0 false) Hj fun Q U=>(Ext Hj U/\S 3 [k,l] (.slc (some (Q,0)) 2 2 true) U/\V 3 [k,l] (.slc (some (Q,0)) 2 2 true)))/\(∃ v,V 3 [k,l] v)/\∀ y:AV,V 3 [k,l] y->∀ r:AS,Ext wu r->aM r->(S 3 [k,l] y r/\True)->aa Tryz.prog ct [.agg am,y] r fun ao ar=>∃ z:List AV,ao=.agg z/\(fm (some 32) z (bz (cR ar l1 0 z) fun W=>aR (aC W l1 0 32) fun aw=>R (.agg aw) W)))))) /\
 (bA fun A a2=>A a2 [.int .i64 0] fN /\
 ∀ X:Nat,∀ i:Int,∀ w:AS,A X [.int .i64 i] w ->
 af (decide ((i:Int)<64))
 (bG (ag T fY (.ptr (some (qQ,0))) (.int .i64 i)) fun a3 a4=>aU .u8 (av w a3 a4) fun a5=>aU .u8 (bB .xor .u8 a5 54) fun a6=>bG (ag T fY (.ptr (some (qQ,0))) (.int .i64 i)) fun a7 a8=>bz (cR w a7 a8 [.int .u8 a6]) fun Y=>bG (ag T fY (.ptr (some (lq,0))) (.int .i64 i)) fun a9 a'=>aU .u8 (av Y a9 a') fun ba=>aU .u8 (bB .xor .u8 ba 92) fun bb=>bG (ag T fY (.ptr (some (lq,0))) (.int .i64 i)) fun bc bd=>bz (cR Y bc bd [.int .u8 bb]) fun be=>∃ m',m'<X/\A m' [(.int .i64 (IntKind.wrap .i64 (i+1)))] be)
 (F [] w)))) /\
 (aU .i64 (aO T aq a0 s8) fun bh=>af (decide ((bh:Int)>64))
 (aR (aC s8 l6 0 72) fun bi=>aR (cV T eG 1 [(0,a0)]) fun bj=>ak (.cells bj 0 false) s8 fun bk bl=>aa Tryz.prog ct [.agg bi,(.slc (some (bk,0)) 1 1 true)] bl fun bm bo=>∃ B:List AV,bm=.agg B/\(ak (.cells (List.replicate 32 (.int .u8 0)) 0 false) bo fun Z bs=>fm (some 32) B (bz (cR bs Z 0 B) fun bx=>dJ (aZ T rZ (.ptr (some (Z,0))) none none none) fun b0=>J9 [b0] bx)))
 (J9 [a0] s8))))
def Na:QA:=(.seq .leaf (.seq .leaf (.join [(0,.any)] [(0,0),(6,6),(12,19)] (.seq .leaf (.cond (.seq .leaf .leaf) .leaf)) (.seq .leaf (.seq .leaf (.seq .leaf (.join [] [(9,9),(24,37)] (.seq .leaf (.wrap (.loop [(24,.int .i64)] [(9,9),(24,37)] (.seq .leaf (.seq (.cond .leaf .leaf) (.seq (.wrap (.seq .leaf (.seq .leaf .leaf))) .leaf)))))) (.seq (.gN 7 [[],[],[],[],[2],[2,4],[]] [2,4,5,6]) (.seq (.gN 4 [[],[],[],[]] [3]) .leaf)))))))))
theorem Nb (a0:AV) (a1:AV) (s:AS) (R:AV->AS->Prop) (h:M_ a0 a1 s R):aa Tryz.prog yy [a0,a1] s R :=
 aa.q (n:=49) (rs:=[.cell 4 93]) (A:=Na) hT bW Tryz.func167 (by kernel_rfl) rfl rfl rfl (by kernel_rfl) (by kernel_rfl) h
def K5 (a0:List AV) (a1:List AV) (s:AS) (R:AV->AS->Prop):Prop :=
 cH a0 (ak (.cells a0 0 false) s fun l1 s2=>cH a1 (ak (.cells a1 0 false) s2 fun l3 s4=>bt fun p =>
 (∀ r:Int,∀ s7:AS,p [.int .u8 r] s7 ->
 R (.bool ((r:Int)==0)) s7) /\
 (bA fun e w=>e w [.int .u8 0,.int .i64 0] s4 /\
 ∀ d:Nat,∀ c:Int,∀ b:Int,∀ bQ:AS,e d [.int .u8 c,.int .i64 b] bQ ->
 af (decide ((b:Int)<32))
 (bG (ag T rZ (.ptr (some (l1,0))) (.int .i64 b)) fun lq i=>aU .u8 (av bQ lq i) fun j=>bG (ag T rZ (.ptr (some (l3,0))) (.int .i64 b)) fun k l=>aU .u8 (av bQ k l) fun m=>aU .u8 (bB .xor .u8 j m) fun n=>aU .u8 (bB .or .u8 c n) fun o=>∃ m',m'<d/\e m' [.int .u8 o,(.int .i64 (IntKind.wrap .i64 (b+1)))] bQ)
 (p [.int .u8 c] bQ))))
def K6:QA:=(.seq .leaf (.seq .leaf (.join [(5,.int .u8)] [(5,19)] (.seq .leaf (.wrap (.loop [(5,.int .u8),(7,.int .i64)] [(5,19)] (.seq .leaf (.seq (.cond .leaf .leaf) (.seq (.wrap (.seq .leaf (.draw 8))) .leaf)))))) (.seq .leaf .leaf))))
theorem K7 (a0:List AV) (a1:List AV) (s:AS) (R:AV->AS->Prop) (h:K5 a0 a1 s R):aa Tryz.prog vX [.agg a0,.agg a1] s R :=
 aa.q (n:=22) (rs:=[.tmp 4]) (A:=K6) hT bW Tryz.func91 (by kernel_rfl) rfl rfl rfl (by kernel_rfl) (by kernel_rfl) h
end Go.Proofs.YtohgmogbabkkeaaGreat
end

section
set_option maxRecDepth 100000
set_option maxHeartbeats 4000000
namespace Go.Proofs.YtohgmogbabkkeaaGreat
open Go.Am
def CU (a0:List UInt8) (s:AS) (R:AV->AS->Prop):Prop :=
 aU .i64 (aO T cE (.str a0) s) fun b=>af (decide ((b:Int)>=1)) (aU .i64 (aO T cE (.str a0) s) fun n2=>R (.bool (decide ((n2:Int)<=32))) s) (R (.bool false) s)
def CV:QA:=(.seq .leaf (.seq .leaf .leaf))
theorem CW (a0:List UInt8) (s:AS) (R:AV->AS->Prop) (h:CU a0 s R):aa Tryz.prog fO [.str a0] s R :=
 aa.q (n:=11) (rs:=[.tmp 2]) (A:=CV) hT bW Tryz.func76 (by kernel_rfl) rfl rfl rfl (by kernel_rfl) (by kernel_rfl) h
def EW (a0:List AV) (s:AS) (R:AV->AS->Prop):Prop :=
 cH a0 (ak (.cells a0 0 false) s fun l1 s2=>aU .i64 (av s2 l1 0) fun b=>af (decide ((b:Int)>=1)) (aU .i64 (av s2 l1 0) fun c=>af (decide ((c:Int)<=16)) (aU .u64 (av s2 l1 1) fun d=>af (decide ((d:Int)>=1)) (aU .u64 (av s2 l1 1) fun e=>R (.bool (decide ((e:Int)<=4611686018427387904))) s2) (R (.bool false) s2)) (R (.bool false) s2)) (R (.bool false) s2))
def EX:QA:=(.seq .leaf (.seq .leaf .leaf))
theorem EY (a0:List AV) (s:AS) (R:AV->AS->Prop) (h:EW a0 s R):aa Tryz.prog jr [.agg a0] s R :=
 aa.q (n:=21) (rs:=[.tmp 2]) (A:=EX) hT bW Tryz.func222 (by kernel_rfl) rfl rfl rfl (by kernel_rfl) (by kernel_rfl) h
def IP (a0:List AV) (a1:List AV) (s:AS) (R:AV->AS->Prop):Prop :=
 cH a0 (ak (.cells a0 0 false) s fun l1 s2=>cH a1 (ak (.cells a1 0 false) s2 fun l3 s4=>gx fun S V=>aU .i64 (av s4 l1 0) fun d=>aU .i64 (av s4 l3 0) fun e=>(∀ s7:AS,Ext s4 s7->aM s7->(True)->aa Tryz.prog aP [.int .i64 d,.int .i64 e] s7 fun x w=>∃ b:Int,x=.int .i64 b/\((Ext s7 w/\S 4 [(.func aP []),.int .i64 d,.int .i64 e] (.int .i64 b) w/\V 4 [(.func aP []),.int .i64 d,.int .i64 e] (.int .i64 b))))/\(∃ v,V 4 [(.func aP []),.int .i64 d,.int .i64 e] v)/\∀ v11:AV,V 4 [(.func aP []),.int .i64 d,.int .i64 e] v11->∃ c:Int,v11=.int .i64 c/\(aU .u64 (av s4 l1 1) fun k=>aU .u64 (av s4 l3 1) fun l=>∀ gr:AS,Ext s4 gr->aM gr->(S 4 [(.func aP []),.int .i64 d,.int .i64 e] (.int .i64 c) gr/\True)->aa Tryz.prog ez [.int .u64 k,.int .u64 l] gr fun m eC=>∃ i:Int,m=.int .i64 i/\(aR (cV T dZ 2 [(0,.int .i64 c),(1,.int .i64 i)]) fun n=>ak (.cells n 0 false) eC fun o gh=>aa Tryz.prog kj [(.slc (some (o,0)) 2 2 true)] gh fun p r=>∃ j:Int,p=.int .i64 j/\(R (.bool (decide ((j:Int)<0))) r)))))
def IQ:QA:=(.seq .leaf (.seq (.gN 9 [[],[],[],[],[],[],[],[],[]] [4]) .leaf))
theorem IS (a0:List AV) (a1:List AV) (s:AS) (R:AV->AS->Prop) (h:IP a0 a1 s R):aa Tryz.prog uh [.agg a0,.agg a1] s R :=
 aa.q (n:=18) (rs:=[.tmp 4]) (A:=IQ) hT bW Tryz.func224 (by kernel_rfl) rfl rfl rfl (by kernel_rfl) (by kernel_rfl) h
def z8 (a0:List AV) (s:AS) (R:AV->AS->Prop):Prop :=
 cH a0 (ak (.cells a0 0 false) s fun l1 s2=>dJ (aZ T bg (.ptr (some (l1,0))) none none none) fun c=>aa Tryz.prog bT [c,(.func pH [])] s2 fun d e=>∃ b:Bool,d=.bool b/\(R (.bool (!b)) e))
def z9:QA:=(.seq .leaf (.seq .leaf .leaf))
theorem z_ (a0:List AV) (s:AS) (R:AV->AS->Prop) (h:z8 a0 s R):aa Tryz.prog lX [.agg a0] s R :=
 aa.q (n:=6) (rs:=[.tmp 2]) (A:=z9) hT bW Tryz.func223 (by kernel_rfl) rfl rfl rfl (by kernel_rfl) (by kernel_rfl) h
def xI (a0:Int) (s:AS) (R:AV->AS->Prop):Prop :=
 R (.bool (decide ((a0:Int)>4611686018427387904))) s
def xJ:QA:=(.seq .leaf (.seq .leaf .leaf))
theorem xK (a0:Int) (s:AS) (R:AV->AS->Prop) (h:xI a0 s R):aa Tryz.prog pH [.int .u64 a0] s R :=
 aa.q (n:=5) (rs:=[.tmp 2]) (A:=xJ) hT bW Tryz.func262 (by kernel_rfl) rfl rfl rfl (by kernel_rfl) (by kernel_rfl) h
def K8 (a0:List AV) (s:AS) (R:AV->AS->Prop):Prop :=
 cH a0 (ak (.cells a0 0 false) s fun l1 s2=>aR (aC s2 l1 0 2) fun g3=>aa Tryz.prog jr [.agg g3] s2 fun v4 B=>∃ b6:Bool,v4=.bool b6/\(af (!b6) (R (.bool false) B) (aR (aC B l1 4 16) fun g7=>aa Tryz.prog lX [.agg g7] B fun v8 j=>∃ n:Bool,v8=.bool n/\(af (!n) (R (.bool false) j) (aU .i64 (av j l1 0) fun C=>bG (ag T bg (.ptr (some (l1,4))) (.int .i64 (IntKind.wrap .i64 (C - 1)))) fun qQ D=>aU .u64 (av j qQ D) fun F=>aU .u64 (av j l1 1) fun G=>af ((F:Int) != (IntKind.wrap .u64 (G - 1)))
 (R (.bool false) j)
 (FN (av j l1 2) fun H=>aa Tryz.prog fO [.str H] j fun I eC=>∃ o:Bool,I=.bool o/\(af (!o) (R (.bool false) eC) (dJ (av eC l1 3) fun v20=>aU .i64 (aO T aq v20 eC) fun J=>af (decide ((J:Int)>512)) (R (.bool false) eC) (dJ (av eC l1 20) fun K=>aU .i64 (aO T bR K eC) fun L=>af (decide ((L:Int)>1024))
 (R (.bool false) eC)
 (dJ (av eC l1 20) fun p=>aU .i64 (aO T bR p eC) fun M=>bA fun k O=>k O [.bool true,.int .i64 0] eC /\
 ∀ r:Nat,∀ w:Bool,∀ b:Int,∀ mP:AS,k r [.bool w,.int .i64 b] mP ->
 af (decide ((b:Int)<M))
 (bG (ag T bR p (.int .i64 b)) fun Q S=>aR (aC mP Q S 3) fun x=>ak (.cells [.int .i64 0,.int .u64 0,.str []] 0 false) mP fun e nV=>fm (some 3) x (bz (cR nV e 0 x) fun mG=>bt fun d =>
 (∀ i:Bool,∀ l:AS,d [.bool i] l ->
 af (!i)
 (R (.bool i) l)
 (∃ m',m'<r/\k m' [.bool i,(.int .i64 (IntKind.wrap .i64 (b+1)))] l)) /\
 (aR (aC mG e 0 2) fun U=>aa Tryz.prog jr [.agg U] mG fun W m=>∃ y:Bool,W=.bool y/\(af y (FN (av m e 2) fun X=>aa Tryz.prog fO [.str X] m fun Y c=>∃ z:Bool,Y=.bool z/\(af z (af ((b:Int)==0) (d [.bool true] c) (dJ (av c l1 20) fun Z=>bG (ag T bR Z (.int .i64 (IntKind.wrap .i64 (b - 1)))) fun ab ad=>aR (aC c ab ad 2) fun ae=>aR (aC c e 0 2) fun al=>aa Tryz.prog uh [.agg ae,.agg al] c fun am an=>∃ A:Bool,am=.bool A/\(d [.bool A] an))) (d [.bool false] c))) (d [.bool false] m)))))
 (R (.bool w) mP)))))))))))
def K9:QA:=(.seq .leaf (.wrap (.seq (.seq .calm (.cond (.seq .leaf .leaf) .leaf)) (.seq (.seq .leaf (.cond (.seq .leaf .leaf) .leaf)) (.seq .leaf (.seq .leaf (.seq (.seq .leaf (.wrap (.loop [(3,.bool),(49,.int .i64)] [(3,5),(49,80)] (.seq .leaf (.seq (.cond .leaf .leaf) (.seq (.wrap (.seq .leaf (.join [(3,.bool)] [(3,3),(54,77)] .calm (.seq .leaf (.cond .leaf .leaf))))) .leaf)))))) (.seq .leaf .leaf))))))))
theorem K_ (a0:List AV) (s:AS) (R:AV->AS->Prop) (h:K8 a0 s R):aa Tryz.prog v_ [.agg a0] s R :=
 aa.q (n:=82) (rs:=[.tmp 2]) (A:=K9) hT bW Tryz.func169 (by kernel_rfl) rfl rfl rfl (by kernel_rfl) (by kernel_rfl) h
def Nc (a0:List AV) (a1:List UInt8) (s:AS) (R:AV->AS->Prop):Prop :=
 cH a0 (ak (.cells a0 0 false) s fun l1 s2=>dJ (av s2 l1 20) fun x=>aU .i64 (aO T bR x s2) fun y=>bA fun i z=>i z [.slc none 0 0 true,.int .i64 0] s2 /\
 ∀ k:Nat,∀ j:AV,∀ d:Int,∀ b:AS,i k [j,.int .i64 d] b ->
 af (decide ((d:Int)<y))
 (bG (ag T bR x (.int .i64 d)) fun l m=>aR (aC b l m 3) fun e=>ak (.cells [.int .i64 0,.int .u64 0,.str []] 0 false) b fun lq gr=>fm (some 3) e (bz (cR gr lq 0 e) fun c=>FN (av c lq 2) fun n=>af ((n:List UInt8)==a1)
 (aR (aC c lq 0 2) fun o=>aR (cV T az 1 [(0,.agg o)]) fun p=>ak (.cells p 0 false) c fun r gu=>iF (aI T az az j (.slc (some (r,0)) 1 1 true) gu) fun w tD=>∃ m',m'<k/\i m' [w,(.int .i64 (IntKind.wrap .i64 (d+1)))] tD)
 (∃ m',m'<k/\i m' [j,(.int .i64 (IntKind.wrap .i64 (d+1)))] c)))
 (R j b))
def Nd:QA:=(.seq .leaf (.seq .leaf (.seq (.seq .leaf (.wrap (.loop [(5,.any),(11,.int .i64)] [(5,5),(7,7),(11,24)] (.seq .leaf (.seq (.cond .leaf .leaf) (.seq (.wrap (.seq .leaf (.seq .leaf (.cond .leaf .leaf)))) .leaf)))))) (.seq .leaf .leaf))))
theorem Nf (a0:List AV) (a1:List UInt8) (s:AS) (R:AV->AS->Prop) (h:Nc a0 a1 s R):aa Tryz.prog yz [.agg a0,.str a1] s R :=
 aa.q (n:=26) (rs:=[.tmp 4]) (A:=Nd) hT bW Tryz.func211 (by kernel_rfl) rfl rfl rfl (by kernel_rfl) (by kernel_rfl) h
def Gi (a0:List AV) (a1:List AV) (s:AS) (R:AV->AS->Prop):Prop :=
 cH a0 (ak (.cells a0 0 false) s fun l1 s2=>cH a1 (ak (.cells a1 0 false) s2 fun l3 s4=>aR (aC s4 l3 0 2) fun i=>aa Tryz.prog jr [.agg i] s4 fun j s7=>∃ e:Bool,j=.bool e/\(af e (aU .i64 (av s7 l3 0) fun k=>bG (ag T bg (.ptr (some (l1,0))) (.int .i64 (IntKind.wrap .i64 (k - 1)))) fun nU b=>aU .u64 (av s7 nU b) fun c=>aU .u64 (av s7 l3 1) fun d=>R (.bool (decide ((c:Int)>=d))) s7) (R (.bool false) s7))))
def Gj:QA:=(.seq .leaf (.seq .calm .leaf))
theorem Gk (a0:List AV) (a1:List AV) (s:AS) (R:AV->AS->Prop) (h:Gi a0 a1 s R):aa Tryz.prog rU [.agg a0,.agg a1] s R :=
 aa.q (n:=17) (rs:=[.tmp 4]) (A:=Gj) hT bW Tryz.func212 (by kernel_rfl) rfl rfl rfl (by kernel_rfl) (by kernel_rfl) h
def jz (a0:AV) (a1:AV) (s:AS) (R:AV->AS->Prop):Prop :=
 aa Tryz.prog dh [a0,a1] s fun c s2=>∃ b:Int,c=.int .i64 b/\(R (.bool (decide ((b:Int)>=0))) s2)
def jA:QA:=(.seq .leaf (.seq .leaf .leaf))
theorem jB (a0:AV) (a1:AV) (s:AS) (R:AV->AS->Prop) (h:jz a0 a1 s R):aa Tryz.prog bT [a0,a1] s R :=
 aa.q (n:=9) (rs:=[.tmp 4]) (A:=jA) hT bW Tryz.func185 (by kernel_rfl) rfl rfl rfl (by kernel_rfl) (by kernel_rfl) h
def ku (a0:AV) (a1:AV) (s:AS) (R:AV->AS->Prop):Prop :=
 aU .i64 (aO T fj a0 s) fun j=>bA fun e k=>e k [.int .i64 0] s /\
 ∀ i:Nat,∀ b:Int,∀ s6:AS,e i [.int .i64 b] s6 ->
 af (decide ((b:Int)<j))
 (bG (ag T fj a0 (.int .i64 b)) fun l m=>aU .u64 (av s6 l m) fun n=>ek Tryz.prog a1 [.int .u64 n] s6 fun v10 c=>∃ d:Bool,v10=.bool d/\(af d
 (R (.int .i64 b) c)
 (∃ m',m'<i/\e m' [(.int .i64 (IntKind.wrap .i64 (b+1)))] c)))
 (R (.int .i64 (-1)) s6)
def kz:QA:=(.seq .leaf (.seq (.seq .leaf (.wrap (.loop [(8,.int .i64)] [(4,5),(8,18)] (.seq .leaf (.seq (.cond .leaf .leaf) (.seq (.wrap (.seq .leaf (.seq .leaf (.cond (.seq .leaf .leaf) .leaf)))) .leaf)))))) (.seq .leaf .leaf)))
theorem kC (a0:AV) (a1:AV) (s:AS) (R:AV->AS->Prop) (h:ku a0 a1 s R):aa Tryz.prog dh [a0,a1] s R :=
 aa.q (n:=19) (rs:=[.tmp 4]) (A:=kz) hT bW Tryz.func245 (by kernel_rfl) rfl rfl rfl (by kernel_rfl) (by kernel_rfl) h
def mh (a0:AV) (a1:AV) (s:AS) (R:AV->AS->Prop):Prop :=
 aa Tryz.prog eN [a0,a1] s fun c s2=>∃ b:Int,c=.int .i64 b/\(R (.bool (decide ((b:Int)>=0))) s2)
def mj:QA:=(.seq .leaf (.seq .leaf .leaf))
theorem mq (a0:AV) (a1:AV) (s:AS) (R:AV->AS->Prop) (h:mh a0 a1 s R):aa Tryz.prog dX [a0,a1] s R :=
 aa.q (n:=9) (rs:=[.tmp 4]) (A:=mj) hT bW Tryz.func213 (by kernel_rfl) rfl rfl rfl (by kernel_rfl) (by kernel_rfl) h
def oE (a0:AV) (a1:AV) (s:AS) (R:AV->AS->Prop):Prop :=
 aU .i64 (aO T az a0 s) fun j=>bA fun e k=>e k [.int .i64 0] s /\
 ∀ i:Nat,∀ b:Int,∀ s6:AS,e i [.int .i64 b] s6 ->
 af (decide ((b:Int)<j))
 (bG (ag T az a0 (.int .i64 b)) fun l m=>aR (aC s6 l m 2) fun n=>ek Tryz.prog a1 [.agg n] s6 fun v10 c=>∃ d:Bool,v10=.bool d/\(af d
 (R (.int .i64 b) c)
 (∃ m',m'<i/\e m' [(.int .i64 (IntKind.wrap .i64 (b+1)))] c)))
 (R (.int .i64 (-1)) s6)
def oF:QA:=(.seq .leaf (.seq (.seq .leaf (.wrap (.loop [(8,.int .i64)] [(4,5),(8,18)] (.seq .leaf (.seq (.cond .leaf .leaf) (.seq (.wrap (.seq .leaf (.seq .leaf (.cond (.seq .leaf .leaf) .leaf)))) .leaf)))))) (.seq .leaf .leaf)))
theorem oG (a0:AV) (a1:AV) (s:AS) (R:AV->AS->Prop) (h:oE a0 a1 s R):aa Tryz.prog eN [a0,a1] s R :=
 aa.q (n:=19) (rs:=[.tmp 4]) (A:=oF) hT bW Tryz.func256 (by kernel_rfl) rfl rfl rfl (by kernel_rfl) (by kernel_rfl) h
end Go.Proofs.YtohgmogbabkkeaaGreat
end

section
set_option maxRecDepth 100000
set_option maxHeartbeats 4000000
namespace Go.Proofs.YtohgmogbabkkeaaGreat
open Go.Am
def CX (a0:Int) (s:AS) (R:AV->AS->Prop):Prop :=
 aa Tryz.prog lY [.int .u64 a0] s fun c s2=>∃ b:Int,c=.int .i64 b/\(R (.int .i64 b) s2)
def CY:QA:=(.seq .leaf (.seq (.cond (.seq .leaf .leaf) .leaf) (.seq .leaf .leaf)))
theorem CZ (a0:Int) (s:AS) (R:AV->AS->Prop) (h:CX a0 s R):aa Tryz.prog kK [.int .u64 a0] s R :=
 aa.q (n:=8) (rs:=[.tmp 2]) (A:=CY) hT bW Tryz.func177 (by kernel_rfl) rfl rfl rfl (by kernel_rfl) (by kernel_rfl) h
def Aa (a0:Int) (s:AS) (R:AV->AS->Prop):Prop :=
 bt fun e =>
 (∀ n2:Int,∀ i:Int,∀ s4:AS,e [.int .u64 n2,.int .i64 i] s4 ->
 bt fun j =>
 (∀ d:Int,∀ k:Int,∀ s8:AS,j [.int .u64 d,.int .i64 k] s8 ->
 bt fun l =>
 (∀ b:Int,∀ c:Int,∀ dw:AS,l [.int .u64 b,.int .i64 c] dw ->
 aU .u8 (i_ T cE (.str [0,1,2,2,3,3,3,3,4,4,4,4,4,4,4,4,5,5,5,5,5,5,5,5,5,5,5,5,5,5,5,5,6,6,6,6,6,6,6,6,6,6,6,6,6,6,6,6,6,6,6,6,6,6,6,6,6,6,6,6,6,6,6,6,7,7,7,7,7,7,7,7,7,7,7,7,7,7,7,7,7,7,7,7,7,7,7,7,7,7,7,7,7,7,7,7,7,7,7,7,7,7,7,7,7,7,7,7,7,7,7,7,7,7,7,7,7,7,7,7,7,7,7,7,7,7,7,7,8,8,8,8,8,8,8,8,8,8,8,8,8,8,8,8,8,8,8,8,8,8,8,8,8,8,8,8,8,8,8,8,8,8,8,8,8,8,8,8,8,8,8,8,8,8,8,8,8,8,8,8,8,8,8,8,8,8,8,8,8,8,8,8,8,8,8,8,8,8,8,8,8,8,8,8,8,8,8,8,8,8,8,8,8,8,8,8,8,8,8,8,8,8,8,8,8,8,8,8,8,8,8,8,8,8,8,8,8,8,8,8,8,8,8,8,8,8,8,8,8,8,8,8,8,8,8,8]) (.int .u8 (IntKind.wrap .u8 b))) fun m=>R (.int .i64 (IntKind.wrap .i64 (c+(IntKind.wrap .i64 m)))) dw) /\
 (af (decide ((d:Int)>=256))
 (NN 8 (l [(.int .u64 (Int.fdiv d (2 ^ min (Int.toNat 8) (IntKind.bits .u64)))),(.int .i64 (IntKind.wrap .i64 (k+8)))] s8))
 (l [.int .u64 d,.int .i64 k] s8))) /\
 (af (decide ((n2:Int)>=65536))
 (NN 16 (j [(.int .u64 (Int.fdiv n2 (2 ^ min (Int.toNat 16) (IntKind.bits .u64)))),(.int .i64 (IntKind.wrap .i64 (i+16)))] s4))
 (j [.int .u64 n2,.int .i64 i] s4))) /\
 (af (decide ((a0:Int)>=4294967296))
 (NN 32 (e [(.int .u64 (Int.fdiv a0 (2 ^ min (Int.toNat 32) (IntKind.bits .u64)))),.int .i64 32] s))
 (e [.int .u64 a0,.int .i64 0] s))
def Ab:QA:=(.seq .leaf (.join [(0,.int .u64),(2,.int .i64)] [(0,0),(2,6)] (.seq .leaf (.cond (.seq .leaf .leaf) .leaf)) (.join [(0,.int .u64),(2,.int .i64)] [(0,0),(2,2),(7,12)] (.seq .leaf (.cond (.seq .leaf .leaf) .leaf)) (.join [(0,.int .u64),(2,.int .i64)] [(0,0),(2,2),(13,18)] (.seq .leaf (.cond (.seq .leaf .leaf) .leaf)) (.seq .leaf .leaf)))))
theorem Ac (a0:Int) (s:AS) (R:AV->AS->Prop) (h:Aa a0 s R):aa Tryz.prog lY [.int .u64 a0] s R :=
 aa.q (n:=25) (rs:=[.tmp 2]) (A:=Ab) hT bW Tryz.func237 (by kernel_rfl) rfl rfl rfl (by kernel_rfl) (by kernel_rfl) h
end Go.Proofs.YtohgmogbabkkeaaGreat
end

section
set_option maxRecDepth 100000
set_option maxHeartbeats 4000000
namespace Go.Proofs.YtohgmogbabkkeaaGreat
open Go.Am
def pq (a0:AV) (s:AS) (R:AV->AS->Prop):Prop :=
 bt fun z =>
 (∀ n2:Int,∀ s3:AS,z [.int .i64 n2] s3 ->
 aa Tryz.prog fI [.slc none 0 0 true,.int .i64 n2] s3 fun C A=>aU .i64 (aO T eG a0 A) fun D=>bA fun l F=>l F [C,.int .i64 0] A /\
 ∀ B:Nat,∀ v10:AV,∀ c:Int,∀ dw:AS,l B [v10,.int .i64 c] dw ->
 af (decide ((c:Int)<D))
 (bG (ag T eG a0 (.int .i64 c)) fun m n=>dJ (av dw m n) fun o=>iF (aI T aq aq v10 o dw) fun nD lH=>∃ m',m'<B/\l m' [nD,(.int .i64 (IntKind.wrap .i64 (c+1)))] lH)
 (R v10 dw)) /\
 (aU .i64 (aO T eG a0 s) fun p=>bA fun i r=>i r [.int .i64 0,.int .i64 0] s /\
 ∀ j:Nat,∀ d:Int,∀ e:Int,∀ b:AS,i j [.int .i64 d,.int .i64 e] b ->
 af (decide ((e:Int)<p))
 (bG (ag T eG a0 (.int .i64 e)) fun w x=>dJ (av b w x) fun y=>aU .i64 (aO T aq y b) fun k=>af (decide ((IntKind.wrap .i64 (d+k):Int)<0))
 (False)
 (∃ m',m'<j/\i m' [(.int .i64 (IntKind.wrap .i64 (d+k))),(.int .i64 (IntKind.wrap .i64 (e+1)))] b))
 (z [.int .i64 d] b))
def pz:QA:=(.seq .leaf (.seq .leaf (.join [(3,.int .i64)] [(3,3),(5,5),(9,22)] (.seq .leaf (.wrap (.loop [(3,.int .i64),(11,.int .i64)] [(3,3),(5,5),(11,22)] (.seq .leaf (.seq (.cond .leaf .leaf) (.seq (.wrap (.seq .leaf (.seq .leaf (.seq .leaf (.cond .leaf .leaf))))) .leaf)))))) (.seq .leaf (.seq (.seq .leaf (.wrap (.loop [(6,.any),(27,.int .i64)] [(6,6),(8,8),(27,34)] (.seq .leaf (.seq (.cond .leaf .leaf) (.seq (.wrap (.seq .leaf .leaf)) .leaf)))))) (.seq .leaf .leaf))))))
theorem pA (a0:AV) (s:AS) (R:AV->AS->Prop) (h:pq a0 s R):aa Tryz.prog fh [a0] s R :=
 aa.q (n:=36) (rs:=[.tmp 2]) (A:=pz) hT bW Tryz.func248 (by kernel_rfl) rfl rfl rfl (by kernel_rfl) (by kernel_rfl) h
def qD (a0:AV) (a1:Int) (s:AS) (R:AV->AS->Prop):Prop :=
 af (decide ((a1:Int)<0))
 (False)
 (aU .i64 (vu T aq a0) fun b=>aU .i64 (aO T aq a0 s) fun n2=>af (decide ((IntKind.wrap .i64 (a1 - (IntKind.wrap .i64 (b - n2))):Int)>0))
 (aU .i64 (vu T aq a0) fun c=>dJ (aZ T aq a0 none (some (.int .i64 c)) none) fun d=>iF (aI T aq rC d (.int .i64 (IntKind.wrap .i64 (a1 - (IntKind.wrap .i64 (b - n2))))) s) fun e s6=>aU .i64 (aO T aq a0 s6) fun i=>dJ (aZ T aq e none (some (.int .i64 i)) none) fun j=>R j s6)
 (R a0 s))
def qE:QA:=(.seq .leaf (.seq (.seq .leaf (.cond .leaf .leaf)) (.seq (.seq .leaf (.seq .leaf (.cond .leaf .leaf))) (.seq .leaf .leaf))))
theorem qG (a0:AV) (a1:Int) (s:AS) (R:AV->AS->Prop) (h:qD a0 a1 s R):aa Tryz.prog fI [a0,.int .i64 a1] s R :=
 aa.q (n:=27) (rs:=[.tmp 4]) (A:=qE) hT bW Tryz.func280 (by kernel_rfl) rfl rfl rfl (by kernel_rfl) (by kernel_rfl) h
def pX (a0:AV) (s:AS) (R:AV->AS->Prop):Prop :=
 uT (Qi T aq true a0 (.slc none 0 0 true)) fun b=>af b
 (R (.slc none 0 0 true) s)
 (aR (cV T aq 0 []) fun c=>ak (.cells c 0 false) s fun l3 s4=>iF (aI T aq aq (.slc (some (l3,0)) 0 0 true) a0 s4) fun d s6=>R d s6)
def pY:QA:=(.seq .leaf (.seq (.seq .leaf (.cond (.seq .leaf .leaf) .leaf)) (.seq .leaf .leaf)))
theorem pZ (a0:AV) (s:AS) (R:AV->AS->Prop) (h:pX a0 s R):aa Tryz.prog aS [a0] s R :=
 aa.q (n:=8) (rs:=[.tmp 2]) (A:=pY) hT bW Tryz.func70 (by kernel_rfl) rfl rfl rfl (by kernel_rfl) (by kernel_rfl) h
def Ng (a0:Int) (a1:Int) (s:AS) (R:AV->AS->Prop):Prop :=
 bt fun c =>
 (∀ i:Bool,∀ s3:AS,c [.bool i] s3 ->
 af i
 (R (.aQ [.slc none 0 0 true,.int .i64 2]) s3)
 (bt fun j =>
 (∀ k:AV,∀ s6:AS,j [k] s6 ->
 R (.aQ [k,.int .i64 0]) s6) /\
 (bA fun d m=>d m [.slc none 0 0 true,.int .i64 0] s3 /\
 ∀ l:Nat,∀ v10:AV,∀ b:Int,∀ dw:AS,d l [v10,.int .i64 b] dw ->
 af (decide ((b:Int)<a1))
 (NN (IntKind.wrap .i64 (8*(IntKind.wrap .i64 ((IntKind.wrap .i64 (a1 - 1)) - b)))) (aR (cV T aq 1 [(0,(.int .u8 (IntKind.wrap .u8 (Int.fdiv a0 (2 ^ min (Int.toNat (IntKind.wrap .i64 (8*(IntKind.wrap .i64 ((IntKind.wrap .i64 (a1 - 1)) - b))))) (IntKind.bits .u64))))))]) fun e=>ak (.cells e 0 false) dw fun lq gr=>iF (aI T aq aq v10 (.slc (some (lq,0)) 1 1 true) gr) fun nD lH=>∃ m',m'<l/\d m' [nD,(.int .i64 (IntKind.wrap .i64 (b+1)))] lH))
 (j [v10] dw)))) /\
 (af (decide ((a1:Int)<1)) (c [.bool true] s) (af (decide ((a1:Int)>8)) (c [.bool true] s) (af (decide ((a1:Int)<8)) (NN (IntKind.wrap .i64 (8*a1)) (c [(.bool ((Int.fdiv a0 (2 ^ min (Int.toNat (IntKind.wrap .i64 (8*a1))) (IntKind.bits .u64)):Int) != 0))] s)) (c [.bool false] s))))
def Nh:QA:=(.seq .leaf (.seq (.join [(24,.bool)] [(8,24)] .leaf (.cond (.seq .leaf .leaf) .leaf)) (.seq .leaf (.join [(6,.any)] [(6,7),(25,40)] (.seq .leaf (.wrap (.loop [(6,.any),(26,.int .i64)] [(6,7),(26,40)] (.seq .leaf (.seq (.cond .leaf .leaf) (.seq (.wrap (.seq .leaf .leaf)) .leaf)))))) (.seq .leaf .leaf)))))
theorem Ni (a0:Int) (a1:Int) (s:AS) (R:AV->AS->Prop) (h:Ng a0 a1 s R):aa Tryz.prog ug [.int .u64 a0,.int .i64 a1] s R :=
 aa.q (n:=42) (rs:=[.tmp 4,.tmp 5]) (A:=Nh) hT bW Tryz.func216 (by kernel_rfl) rfl rfl rfl (by kernel_rfl) (by kernel_rfl) h
def Gl (a0:List AV) (s:AS) (R:AV->AS->Prop):Prop :=
 cH a0 (ak (.cells a0 0 false) s fun l1 s2=>aR (aC s2 l1 0 16) fun o=>bA fun d p=>d p [.slc none 0 0 true,.int .i64 0] s2 /\
 ∀ n:Nat,∀ e:AV,∀ c:Int,∀ i:AS,d n [e,.int .i64 c] i ->
 af (decide ((c:Int)<16))
 (aU .u64 (i_ T bg (.agg o) (.int .i64 c)) fun j=>aa Tryz.prog ug [.int .u64 j,.int .i64 8] i fun v11 dw=>∃ b:AV,∃ k:Int,v11=.aQ [b,.int .i64 k]/\(iF (aI T aq aq e b dw) fun l m=>∃ m',m'<n/\d m' [l,(.int .i64 (IntKind.wrap .i64 (c+1)))] m))
 (R e i))
def Gm:QA:=(.seq .leaf (.seq .leaf (.seq (.seq .leaf (.wrap (.loop [(3,.any),(9,.int .i64)] [(3,3),(5,7),(9,20)] (.seq .leaf (.seq (.cond .leaf .leaf) (.seq (.wrap (.seq .leaf (.seq .leaf .leaf))) .leaf)))))) (.seq .leaf .leaf))))
theorem Gn (a0:List AV) (s:AS) (R:AV->AS->Prop) (h:Gl a0 s R):aa Tryz.prog rT [.agg a0] s R :=
 aa.q (n:=22) (rs:=[.tmp 2]) (A:=Gm) hT bW Tryz.func161 (by kernel_rfl) rfl rfl rfl (by kernel_rfl) (by kernel_rfl) h
def La (a0:AV) (s:AS) (R:AV->AS->Prop):Prop :=
 aU .i64 (aO T aq a0 s) fun c=>af (decide ((c:Int)>65535))
 (R (.aQ [.slc none 0 0 true,.int .i64 3]) s)
 (aU .i64 (aO T aq a0 s) fun n2=>aa Tryz.prog ug [(.int .u64 (IntKind.wrap .u64 n2)),.int .i64 2] s fun d s4=>∃ b:AV,∃ e:Int,d=.aQ [b,.int .i64 e]/\(iF (aI T aq aq b a0 s4) fun i s8=>R (.aQ [i,.int .i64 0]) s8))
def Lb:QA:=(.seq .leaf (.seq (.seq .leaf (.cond (.seq .leaf .leaf) .leaf)) (.seq .leaf (.seq .leaf .leaf))))
theorem Lc (a0:AV) (s:AS) (R:AV->AS->Prop) (h:La a0 s R):aa Tryz.prog vZ [a0] s R :=
 aa.q (n:=19) (rs:=[.tmp 2,.tmp 3]) (A:=Lb) hT bW Tryz.func166 (by kernel_rfl) rfl rfl rfl (by kernel_rfl) (by kernel_rfl) h
end Go.Proofs.YtohgmogbabkkeaaGreat
end

section
set_option maxRecDepth 100000
set_option maxHeartbeats 4000000
namespace Go.Proofs.YtohgmogbabkkeaaGreat
open Go.Am
def lz (a0:Int) (s:AS) (R:AV->AS->Prop):Prop :=
 aa Tryz.prog kK [(.int .u64 (IntKind.wrap .u64 a0))] s fun c s2=>∃ b:Int,c=.int .i64 b/\(NN b (R (.int .u64 (IntKind.wrap .u64 (1*2 ^ min (Int.toNat b) (IntKind.bits .u64)))) s2))
def sS:QA:=(.seq .leaf (.seq .leaf .leaf))
theorem sU (a0:Int) (s:AS) (R:AV->AS->Prop) (h:lz a0 s R):aa Tryz.prog gJ [.int .i64 a0] s R :=
 aa.q (n:=7) (rs:=[.tmp 2]) (A:=sS) hT bW Tryz.func266 (by kernel_rfl) rfl rfl rfl (by kernel_rfl) (by kernel_rfl) h
def ur (a0:Option (Nat×Nat)) (s:AS) (R:AV->AS->Prop):Prop :=
 ai a0 fun l1 o2=>aU .u64 (av s l1 o2) fun G=>ai a0 fun H I=>aU .u64 (av s H I) fun J=>NN 13 (aU .u64 (bB .xor .u64 G (IntKind.wrap .u64 (J*2 ^ min (Int.toNat 13) (IntKind.bits .u64)))) fun K=>ai a0 fun L M=>bz (cR s L M [.int .u64 K]) fun b=>ai a0 fun d e=>aU .u64 (av b d e) fun i=>ai a0 fun lq j=>aU .u64 (av b lq j) fun k=>NN 7 (aU .u64 (bB .xor .u64 i (Int.fdiv k (2 ^ min (Int.toNat 7) (IntKind.bits .u64)))) fun l=>ai a0 fun m n=>bz (cR b m n [.int .u64 l]) fun fN=>ai a0 fun o p=>aU .u64 (av fN o p) fun r=>ai a0 fun w x=>aU .u64 (av fN w x) fun y=>NN 17 (aU .u64 (bB .xor .u64 r (IntKind.wrap .u64 (y*2 ^ min (Int.toNat 17) (IntKind.bits .u64)))) fun z=>ai a0 fun A B=>bz (cR fN A B [.int .u64 z]) fun c=>ai a0 fun C D=>aU .u64 (av c C D) fun F=>R (.int .u64 F) c)))
def uu:QA:=(.seq .leaf (.seq (.draw 7) (.seq (.draw 7) (.seq (.draw 7) (.seq .leaf .leaf)))))
theorem uv (a0:Option (Nat×Nat)) (s:AS) (R:AV->AS->Prop) (h:ur a0 s R):aa Tryz.prog h_ [.ptr a0] s R :=
 aa.q (n:=33) (rs:=[.tmp 2]) (A:=uu) hT bW Tryz.func267 (by kernel_rfl) rfl rfl rfl (by kernel_rfl) (by kernel_rfl) h
end Go.Proofs.YtohgmogbabkkeaaGreat
end

section
set_option maxRecDepth 100000
set_option maxHeartbeats 4000000
namespace Go.Proofs.YtohgmogbabkkeaaGreat.SG
open Go.Am Go.au.SG
structure SE where
 O:OE
 cC:El O->List AV
 w:Nat
 len:∀ x,(cC x).length=w
 one:∀ x,(cC x).all AV.one=true
 ys:TypeId
 ye:TypeId
 us:T.cQ ys=some (.slice ye)
 zs:T.eP ye=some w
 uw:FuncId
 fE:FuncId
 fu:FuncId
 mu:FuncId
 jC:FuncId
 iK:FuncId
 eO:FuncId
 gK:FuncId
 kT:FuncId
 iW:FuncId
 dH:FuncId
 kM:FuncId
 iC:FuncId
 ie:FuncId
variable (E:SE)
def Nj (a0:AV) (a1:AV) (s:AS) (R:AV->AS->Prop):Prop :=
 aU .i64 (aO T E.ys a0 s) fun b=>aa Tryz.prog kK [(.int .u64 (IntKind.wrap .u64 b))] s fun d s3=>∃ c:Int,d=.int .i64 c/\(aa Tryz.prog E.fE [a0,.int .i64 0,.int .i64 b,.int .i64 c,a1] s3 fun e s6=>e=.aQ []/\(R (.aQ []) s6))
def Nk:QA:=(.seq .leaf .leaf)
def BI (a0:AV) (a1:Int) (a2:Int) (a3:Int) (a4:AV) (s:AS) (R:AV->AS->Prop):Prop :=
 bA fun B m2=>B m2 [.int .i64 a1,.int .i64 a2,.int .i64 a3,.bool true,.bool true] s /\
 ∀ M:Nat,∀ b:Int,∀ d:Int,∀ O:Int,∀ Q:Bool,∀ S:Bool,∀ C:AS,B M [.int .i64 b,.int .i64 d,.int .i64 O,.bool Q,.bool S] C ->
 af (decide ((IntKind.wrap .i64 (d - b):Int)<=12))
 (aa Tryz.prog E.fu [a0,.int .i64 b,.int .i64 d,a4] C fun v10 U=>v10=.aQ []/\(R (.aQ []) U))
 (af ((O:Int)==0)
 (aa Tryz.prog E.mu [a0,.int .i64 b,.int .i64 d,a4] C fun W bQ=>W=.aQ []/\(R (.aQ []) bQ))
 (bt fun m =>
 (∀ e:Int,∀ D:AS,m [.int .i64 e] D ->
 aa Tryz.prog E.jC [a0,.int .i64 b,.int .i64 d,a4] D fun X eC=>∃ n:Int,∃ o:Int,X=.aQ [.int .i64 n,.int .i64 o]/\(bt fun p =>
 (∀ j:Int,∀ F:Int,∀ k:AS,p [.int .i64 j,.int .i64 F] k ->
 bt fun r =>
 (∀ i:AS,r [] i ->
 bt fun x =>
 (∀ G:Bool,∀ y:AS,x [.bool G] y ->
 af G
 (aa Tryz.prog E.gK [a0,.int .i64 b,.int .i64 d,.int .i64 j,a4] y fun v30 mP=>∃ H:Int,v30=.int .i64 H/\(∃ m',m'<M/\B m' [.int .i64 H,.int .i64 d,.int .i64 e,.bool Q,.bool S] mP))
 (aa Tryz.prog E.kT [a0,.int .i64 b,.int .i64 d,.int .i64 j,a4] y fun Y j8=>∃ c:Int,∃ z:Bool,Y=.aQ [.int .i64 c,.bool z]/\(NZ 8 (af (decide ((IntKind.wrap .i64 (c - b):Int)<(IntKind.wrap .i64 (d - c))))
 (aa Tryz.prog E.fE [a0,.int .i64 b,.int .i64 c,.int .i64 e,a4] j8 fun Z ab=>Z=.aQ []/\(∃ m',m'<M/\B m' [(.int .i64 (IntKind.wrap .i64 (c+1))),.int .i64 d,.int .i64 e,(.bool (decide ((IntKind.wrap .i64 (c - b):Int)>=(IntKind.wrap .i64 (Int.tdiv (IntKind.wrap .i64 (d - b)) 8))))),.bool z] ab))
 (aa Tryz.prog E.fE [a0,(.int .i64 (IntKind.wrap .i64 (c+1))),.int .i64 d,.int .i64 e,a4] j8 fun ad ae=>ad=.aQ []/\(∃ m',m'<M/\B m' [.int .i64 b,.int .i64 c,.int .i64 e,(.bool (decide ((IntKind.wrap .i64 (d - c):Int)>=(IntKind.wrap .i64 (Int.tdiv (IntKind.wrap .i64 (d - b)) 8))))),.bool z] ae)))))) /\
 (af (decide ((b:Int)>0)) (bG (ag T E.ys a0 (.int .i64 (IntKind.wrap .i64 (b - 1)))) fun al am=>aR (aC i al am E.w) fun an=>bG (ag T E.ys a0 (.int .i64 j)) fun ao ar=>aR (aC i ao ar E.w) fun aw=>ek Tryz.prog a4 [.agg an,.agg aw] i fun a5 a6=>∃ I:Int,a5=.int .i64 I/\(x [(.bool (!(decide ((I:Int)<0))))] a6)) (x [.bool false] i))) /\
 (bt fun l =>
 (∀ J:Bool,∀ A:AS,l [.bool J] A ->
 af J
 (aa Tryz.prog E.eO [a0,.int .i64 b,.int .i64 d,a4] A fun a7 K=>∃ L:Bool,a7=.bool L/\(af L
 (R (.aQ []) K)
 (r [] K)))
 (r [] A)) /\
 (af Q (af S (l [(.bool ((F:Int)==1))] k) (l [.bool false] k)) (l [.bool false] k)))) /\
 (af ((o:Int)==2)
 (aa Tryz.prog E.iK [a0,.int .i64 b,.int .i64 d,a4] eC fun a8 a9=>a8=.aQ []/\(p [(.int .i64 (IntKind.wrap .i64 ((IntKind.wrap .i64 (d - 1)) - (IntKind.wrap .i64 (n - b))))),.int .i64 1] a9))
 (p [.int .i64 n,.int .i64 o] eC)))) /\
 (af (!Q)
 (aa Tryz.prog E.ie [a0,.int .i64 b,.int .i64 d,a4] C fun a' ba=>a'=.aQ []/\(m [(.int .i64 (IntKind.wrap .i64 (O - 1)))] ba))
 (m [.int .i64 O] C))))
def BJ:QA:=(.seq .leaf (.seq .leaf (.wrap (.loop [(1,.int .i64),(2,.int .i64),(3,.int .i64),(10,.bool),(11,.bool)] [(1,3),(10,147)] (.wrap (.seq .leaf (.seq (.seq .leaf (.cond (.seq .leaf .leaf) .leaf)) (.seq (.seq .leaf (.cond (.seq .leaf .leaf) .leaf)) (.join [(3,.int .i64)] [(3,3),(38,46)] (.seq .leaf (.cond (.seq .leaf .leaf) .leaf)) (.seq .leaf (.join [(13,.int .i64),(14,.int .i64)] [(13,14),(55,67)] (.seq .leaf (.cond (.seq .leaf (.seq .leaf .leaf)) .leaf)) (.join [] [(68,80)] (.join [(75,.bool)] [(68,75)] .leaf (.cond (.seq .leaf (.cond .leaf .leaf)) .leaf)) (.seq (.join [(97,.bool)] [(81,97)] (.draw 13) (.cond (.seq .leaf (.seq .leaf .leaf)) .leaf)) (.seq .leaf (.seq .leaf (.seq .leaf (.seq .leaf (.seq .leaf (.cond (.seq .leaf (.seq .leaf .leaf)) (.seq .leaf (.seq .leaf .leaf)))))))))))))))))))))
def ux (a0:AV) (a1:Int) (a2:Int) (a3:AV) (s:AS) (R:AV->AS->Prop):Prop :=
 bA fun k m2=>k m2 [(.int .i64 (IntKind.wrap .i64 (a1+1)))] s /\
 ∀ l:Nat,∀ d:Int,∀ m:AS,k l [.int .i64 d] m ->
 af (decide ((d:Int)<a2))
 (bA fun n L=>n L [.int .i64 d] m /\
 ∀ K:Nat,∀ c:Int,∀ b:AS,n K [.int .i64 c] b ->
 af (decide ((c:Int)>a1)) (bG (ag T E.ys a0 (.int .i64 c)) fun o p=>aR (aC b o p E.w) fun r=>bG (ag T E.ys a0 (.int .i64 (IntKind.wrap .i64 (c - 1)))) fun lq x=>aR (aC b lq x E.w) fun y=>ek Tryz.prog a3 [.agg r,.agg y] b fun z eC=>∃ e:Int,z=.int .i64 e/\(af (decide ((e:Int)<0))
 (bG (ag T E.ys a0 (.int .i64 (IntKind.wrap .i64 (c - 1)))) fun A B=>aR (aC eC A B E.w) fun i=>bG (ag T E.ys a0 (.int .i64 c)) fun C D=>aR (aC eC C D E.w) fun j=>bG (ag T E.ys a0 (.int .i64 c)) fun F G=>fm (some E.w) i (bz (cR eC F G i) fun H=>bG (ag T E.ys a0 (.int .i64 (IntKind.wrap .i64 (c - 1)))) fun I J=>fm (some E.w) j (bz (cR H I J j) fun mP=>∃ m',m'<K/\n m' [(.int .i64 (IntKind.wrap .i64 (c - 1)))] mP)))
 (∃ m',m'<l/\k m' [(.int .i64 (IntKind.wrap .i64 (d+1)))] eC))) (∃ m',m'<l/\k m' [(.int .i64 (IntKind.wrap .i64 (d+1)))] b))
 (R (.aQ []) m)
def uy:QA:=(.seq .leaf (.wrap (.loop [(8,.int .i64)] [(8,9),(12,52)] (.seq (.seq .leaf (.cond .leaf .leaf)) (.seq (.wrap (.seq .leaf (.wrap (.loop [(9,.int .i64)] [(9,9),(18,52)] (.seq (.seq (.draw 14) (.cond .leaf .leaf)) (.seq (.wrap .calm) .leaf)))))) .leaf)))))
def Ad (a0:AV) (a1:Int) (a2:Int) (a3:AV) (s:AS) (R:AV->AS->Prop):Prop :=
 bt fun B =>
 (∀ s2:AS,B [] s2 ->
 bA fun l D=>l D [(.int .i64 (IntKind.wrap .i64 ((IntKind.wrap .i64 (a2 - a1)) - 1)))] s2 /\
 ∀ C:Nat,∀ e:Int,∀ s7:AS,l C [.int .i64 e] s7 ->
 af (decide ((e:Int)>=0))
 (bG (ag T E.ys a0 (.int .i64 (IntKind.wrap .i64 (a1+e)))) fun F G=>aR (aC s7 F G E.w) fun i=>bG (ag T E.ys a0 (.int .i64 a1)) fun m n=>aR (aC s7 m n E.w) fun j=>bG (ag T E.ys a0 (.int .i64 a1)) fun lq o=>fm (some E.w) i (bz (cR s7 lq o i) fun p=>bG (ag T E.ys a0 (.int .i64 (IntKind.wrap .i64 (a1+e)))) fun r x=>fm (some E.w) j (bz (cR p r x j) fun iV=>aa Tryz.prog E.iW [a0,.int .i64 0,.int .i64 e,.int .i64 a1,a3] iV fun v20 gu=>v20=.aQ []/\(∃ m',m'<C/\l m' [(.int .i64 (IntKind.wrap .i64 (e - 1)))] gu))))
 (R (.aQ []) s7)) /\
 (NZ 2 (bA fun c y=>c y [(.int .i64 (IntKind.wrap .i64 (Int.tdiv (IntKind.wrap .i64 ((IntKind.wrap .i64 (a2 - a1)) - 1)) 2)))] s /\
 ∀ k:Nat,∀ b:Int,∀ d:AS,c k [.int .i64 b] d ->
 af (decide ((b:Int)>=0))
 (aa Tryz.prog E.iW [a0,.int .i64 b,(.int .i64 (IntKind.wrap .i64 (a2 - a1))),.int .i64 a1,a3] d fun z A=>z=.aQ []/\(∃ m',m'<k/\c m' [(.int .i64 (IntKind.wrap .i64 (b - 1)))] A))
 (B [] d)))
def Ae:QA:=(.seq .leaf (.seq .leaf (.seq .leaf (.join [] [(11,11),(17,29)] (.seq .leaf (.wrap (.loop [(11,.int .i64)] [(11,11),(20,29)] (.seq (.seq .leaf (.cond .leaf .leaf)) (.seq (.wrap .leaf) .leaf))))) (.seq .leaf (.wrap (.loop [(12,.int .i64)] [(12,12),(32,59)] (.seq (.seq .leaf (.cond .leaf .leaf)) (.seq (.wrap (.seq .calm .leaf)) .leaf)))))))))
def wB (a0:AV) (a1:Int) (a2:Int) (a3:AV) (s:AS) (R:AV->AS->Prop):Prop :=
 ak (.cells [.int .i64 0] 0 false) s fun l1 s2=>NZ 4 (NZ 4 (NZ 4 (bt fun m =>
 (∀ l:Int,∀ b:AS,m [.int .i64 l] b ->
 aU .i64 (av b l1 0) fun y=>af ((y:Int)==0)
 (R (.aQ [.int .i64 l,.int .i64 1]) b)
 (af ((y:Int)==12)
 (R (.aQ [.int .i64 l,.int .i64 2]) b)
 (R (.aQ [.int .i64 l,.int .i64 0]) b))) /\
 (af (decide ((IntKind.wrap .i64 (a2 - a1):Int)>=8))
 (bt fun n =>
 (∀ z:Int,∀ A:Int,∀ c:Int,∀ d:AS,n [.int .i64 z,.int .i64 A,.int .i64 c] d ->
 aa Tryz.prog E.kM [a0,.int .i64 z,.int .i64 A,.int .i64 c,(.ptr (some (l1,0))),a3] d fun o bQ=>∃ e:Int,o=.int .i64 e/\(m [.int .i64 e] bQ)) /\
 (af (decide ((IntKind.wrap .i64 (a2 - a1):Int)>=50))
 (aa Tryz.prog E.dH [a0,(.int .i64 (IntKind.wrap .i64 (a1+(IntKind.wrap .i64 ((IntKind.wrap .i64 (Int.tdiv (IntKind.wrap .i64 (a2 - a1)) 4))*1))))),(.ptr (some (l1,0))),a3] s2 fun p r=>∃ i:Int,p=.int .i64 i/\(aa Tryz.prog E.dH [a0,(.int .i64 (IntKind.wrap .i64 (a1+(IntKind.wrap .i64 ((IntKind.wrap .i64 (Int.tdiv (IntKind.wrap .i64 (a2 - a1)) 4))*2))))),(.ptr (some (l1,0))),a3] r fun w iV=>∃ j:Int,w=.int .i64 j/\(aa Tryz.prog E.dH [a0,(.int .i64 (IntKind.wrap .i64 (a1+(IntKind.wrap .i64 ((IntKind.wrap .i64 (Int.tdiv (IntKind.wrap .i64 (a2 - a1)) 4))*3))))),(.ptr (some (l1,0))),a3] iV fun x gh=>∃ k:Int,x=.int .i64 k/\(n [.int .i64 i,.int .i64 j,.int .i64 k] gh))))
 (n [(.int .i64 (IntKind.wrap .i64 (a1+(IntKind.wrap .i64 ((IntKind.wrap .i64 (Int.tdiv (IntKind.wrap .i64 (a2 - a1)) 4))*1))))),(.int .i64 (IntKind.wrap .i64 (a1+(IntKind.wrap .i64 ((IntKind.wrap .i64 (Int.tdiv (IntKind.wrap .i64 (a2 - a1)) 4))*2))))),(.int .i64 (IntKind.wrap .i64 (a1+(IntKind.wrap .i64 ((IntKind.wrap .i64 (Int.tdiv (IntKind.wrap .i64 (a2 - a1)) 4))*3)))))] s2)))
 (m [(.int .i64 (IntKind.wrap .i64 (a1+(IntKind.wrap .i64 ((IntKind.wrap .i64 (Int.tdiv (IntKind.wrap .i64 (a2 - a1)) 4))*2)))))] s2)))))
def wC:QA:=(.seq .leaf (.seq .leaf (.seq .leaf (.seq .leaf (.seq .leaf (.seq .leaf (.join [(13,.int .i64)] [(12,14),(33,54)] (.seq .leaf (.cond (.join [(12,.int .i64),(13,.int .i64),(14,.int .i64)] [(12,14),(35,48)] (.seq .leaf (.cond (.seq .leaf (.seq .leaf .leaf)) .leaf)) .leaf) .leaf)) (.seq .leaf (.wrap (.seq .leaf (.cond (.seq .leaf .leaf) (.seq .leaf (.cond (.seq .leaf .leaf) (.seq .leaf .leaf))))))))))))))
def vi (a0:AV) (a1:Int) (a2:Int) (a3:AV) (s:AS) (R:AV->AS->Prop):Prop :=
 bA fun e m2=>e m2 [.int .i64 a1,(.int .i64 (IntKind.wrap .i64 (a2 - 1)))] s /\
 ∀ m:Nat,∀ b:Int,∀ c:Int,∀ s6:AS,e m [.int .i64 b,.int .i64 c] s6 ->
 af (decide ((b:Int)<c))
 (bG (ag T E.ys a0 (.int .i64 c)) fun o p=>aR (aC s6 o p E.w) fun n=>bG (ag T E.ys a0 (.int .i64 b)) fun nU i=>aR (aC s6 nU i E.w) fun d=>bG (ag T E.ys a0 (.int .i64 b)) fun j k=>fm (some E.w) n (bz (cR s6 j k n) fun gr=>bG (ag T E.ys a0 (.int .i64 c)) fun qV l=>fm (some E.w) d (bz (cR gr qV l d) fun eC=>∃ m',m'<m/\e m' [(.int .i64 (IntKind.wrap .i64 (b+1))),(.int .i64 (IntKind.wrap .i64 (c - 1)))] eC)))
 (R (.aQ []) s6)
def vj:QA:=(.seq .leaf (.seq .leaf (.wrap (.loop [(8,.int .i64),(9,.int .i64)] [(8,9),(13,33)] (.seq (.seq .leaf (.cond .leaf .leaf)) (.wrap (.seq .calm (.seq .leaf .leaf))))))))
def gP (a0:AV) (a1:Int) (a2:Int) (a3:AV) (s:AS) (R:AV->AS->Prop):Prop :=
 bA fun x m2=>x m2 [(.int .i64 (IntKind.wrap .i64 (a1+1))),.int .i64 0] s /\
 ∀ O:Nat,∀ n4:Int,∀ y:Int,∀ s6:AS,x O [.int .i64 n4,.int .i64 y] s6 ->
 af (decide ((y:Int)<5))
 (bt fun Q =>
 (∀ e:Int,∀ r:AS,Q [.int .i64 e] r ->
 af ((e:Int)==a2)
 (R (.bool true) r)
 (af (decide ((IntKind.wrap .i64 (a2 - a1):Int)<50))
 (R (.bool false) r)
 (bG (ag T E.ys a0 (.int .i64 (IntKind.wrap .i64 (e - 1)))) fun nU S=>aR (aC r nU S E.w) fun z=>bG (ag T E.ys a0 (.int .i64 e)) fun U W=>aR (aC r U W E.w) fun A=>bG (ag T E.ys a0 (.int .i64 e)) fun qV X=>fm (some E.w) z (bz (cR r qV X z) fun eC=>bG (ag T E.ys a0 (.int .i64 (IntKind.wrap .i64 (e - 1)))) fun zl Y=>fm (some E.w) A (bz (cR eC zl Y A) fun gu=>bt fun l =>
 (∀ tD:AS,l [] tD ->
 af (decide ((IntKind.wrap .i64 (a2 - e):Int)>=2))
 (bA fun n Z=>n Z [(.int .i64 (IntKind.wrap .i64 (e+1)))] tD /\
 ∀ B:Nat,∀ b:Int,∀ i:AS,n B [.int .i64 b] i ->
 af (decide ((b:Int)<a2))
 (bG (ag T E.ys a0 (.int .i64 b)) fun ab ad=>aR (aC i ab ad E.w) fun ae=>bG (ag T E.ys a0 (.int .i64 (IntKind.wrap .i64 (b - 1)))) fun al am=>aR (aC i al am E.w) fun an=>ek Tryz.prog a3 [.agg ae,.agg an] i fun ao nV=>∃ C:Int,ao=.int .i64 C/\(af (!(decide ((C:Int)<0)))
 (∃ m',m'<O/\x m' [.int .i64 e,(.int .i64 (IntKind.wrap .i64 (y+1)))] nV)
 (bG (ag T E.ys a0 (.int .i64 (IntKind.wrap .i64 (b - 1)))) fun ar aw=>aR (aC nV ar aw E.w) fun D=>bG (ag T E.ys a0 (.int .i64 b)) fun a4 a5=>aR (aC nV a4 a5 E.w) fun F=>bG (ag T E.ys a0 (.int .i64 b)) fun a6 a7=>fm (some E.w) D (bz (cR nV a6 a7 D) fun sR=>bG (ag T E.ys a0 (.int .i64 (IntKind.wrap .i64 (b - 1)))) fun a8 a9=>fm (some E.w) F (bz (cR sR a8 a9 F) fun wu=>∃ m',m'<B/\n m' [(.int .i64 (IntKind.wrap .i64 (b+1)))] wu)))))
 (∃ m',m'<O/\x m' [.int .i64 e,(.int .i64 (IntKind.wrap .i64 (y+1)))] i))
 (∃ m',m'<O/\x m' [.int .i64 e,(.int .i64 (IntKind.wrap .i64 (y+1)))] tD)) /\
 (af (decide ((IntKind.wrap .i64 (e - a1):Int)>=2))
 (bA fun o a'=>o a' [(.int .i64 (IntKind.wrap .i64 (e - 1)))] gu /\
 ∀ G:Nat,∀ c:Int,∀ j:AS,o G [.int .i64 c] j ->
 af (decide ((c:Int)>=1))
 (bG (ag T E.ys a0 (.int .i64 c)) fun ba bb=>aR (aC j ba bb E.w) fun bc=>bG (ag T E.ys a0 (.int .i64 (IntKind.wrap .i64 (c - 1)))) fun bd be=>aR (aC j bd be E.w) fun bh=>ek Tryz.prog a3 [.agg bc,.agg bh] j fun bi m=>∃ H:Int,bi=.int .i64 H/\(af (!(decide ((H:Int)<0)))
 (l [] m)
 (bG (ag T E.ys a0 (.int .i64 (IntKind.wrap .i64 (c - 1)))) fun bj bk=>aR (aC m bj bk E.w) fun I=>bG (ag T E.ys a0 (.int .i64 c)) fun bl bm=>aR (aC m bl bm E.w) fun J=>bG (ag T E.ys a0 (.int .i64 c)) fun bo bs=>fm (some E.w) I (bz (cR m bo bs I) fun bx=>bG (ag T E.ys a0 (.int .i64 (IntKind.wrap .i64 (c - 1)))) fun b0 b1=>fm (some E.w) J (bz (cR bx b0 b1 J) fun b2=>∃ m',m'<G/\o m' [(.int .i64 (IntKind.wrap .i64 (c - 1)))] b2)))))
 (l [] j))
 (l [] gu))))))) /\
 (bA fun p b3=>p b3 [.int .i64 n4] s6 /\
 ∀ K:Nat,∀ d:Int,∀ k:AS,p K [.int .i64 d] k ->
 af (decide ((d:Int)<a2)) (bG (ag T E.ys a0 (.int .i64 d)) fun b4 b5=>aR (aC k b4 b5 E.w) fun b6=>bG (ag T E.ys a0 (.int .i64 (IntKind.wrap .i64 (d - 1)))) fun b7 b8=>aR (aC k b7 b8 E.w) fun b9=>ek Tryz.prog a3 [.agg b6,.agg b9] k fun b' L=>∃ M:Int,b'=.int .i64 M/\(af (!(decide ((M:Int)<0)))
 (∃ m',m'<K/\p m' [(.int .i64 (IntKind.wrap .i64 (d+1)))] L)
 (Q [.int .i64 d] L))) (Q [.int .i64 d] k)))
 (R (.bool false) s6)
def oH:QA:=(.seq .leaf (.seq .leaf (.seq (.seq .leaf (.wrap (.loop [(9,.int .i64),(10,.int .i64)] [(8,12),(15,140)] (.seq (.seq .leaf (.cond .leaf .leaf)) (.seq (.wrap (.join [(9,.int .i64)] [(9,9),(19,38)] (.wrap (.loop [(9,.int .i64)] [(9,9),(19,38)] (.seq (.seq (.draw 14) (.cond .leaf .leaf)) (.wrap .leaf)))) (.seq (.seq .leaf (.cond (.seq .leaf .leaf) .leaf)) (.seq (.seq .leaf (.cond (.seq .leaf .leaf) .leaf)) (.seq .calm (.join [] [(11,11),(62,100)] (.seq .leaf (.cond (.seq .leaf (.wrap (.loop [(11,.int .i64)] [(11,11),(68,100)] (.seq (.seq .leaf (.cond .leaf .leaf)) (.seq (.wrap (.seq (.seq (.draw 10) (.cond .leaf .leaf)) .calm)) .leaf))))) .leaf)) (.seq .leaf (.cond (.seq .leaf (.wrap (.loop [(12,.int .i64)] [(12,12),(107,140)] (.seq (.seq .leaf (.cond .leaf .leaf)) (.seq (.wrap (.seq (.seq (.draw 10) (.cond .leaf .leaf)) .calm)) .leaf))))) .leaf)))))))) .leaf))))) (.seq .leaf .leaf))))
def sV (a0:AV) (a1:Int) (a2:Int) (a3:Int) (a4:AV) (s:AS) (R:AV->AS->Prop):Prop :=
 bG (ag T E.ys a0 (.int .i64 a3)) fun l1 o2=>aR (aC s l1 o2 E.w) fun g3=>bG (ag T E.ys a0 (.int .i64 a1)) fun l4 o5=>aR (aC s l4 o5 E.w) fun g6=>bG (ag T E.ys a0 (.int .i64 a1)) fun l7 o8=>fm (some E.w) g3 (bz (cR s l7 o8 g3) fun s9=>bG (ag T E.ys a0 (.int .i64 a3)) fun nU H=>fm (some E.w) g6 (bz (cR s9 nU H g6) fun dw=>bA fun l I=>l I [(.int .i64 (IntKind.wrap .i64 (a1+1))),(.int .i64 (IntKind.wrap .i64 (a2 - 1)))] dw /\
 ∀ x:Nat,∀ y:Int,∀ m:Int,∀ eC:AS,l x [.int .i64 y,.int .i64 m] eC ->
 bt fun n =>
 (∀ b:Int,∀ gu:AS,n [.int .i64 b] gu ->
 bt fun o =>
 (∀ e:Int,∀ i:AS,o [.int .i64 e] i ->
 af (decide ((b:Int)>e))
 (R (.int .i64 b) i)
 (bG (ag T E.ys a0 (.int .i64 e)) fun J K=>aR (aC i J K E.w) fun z=>bG (ag T E.ys a0 (.int .i64 b)) fun L M=>aR (aC i L M E.w) fun A=>bG (ag T E.ys a0 (.int .i64 b)) fun O Q=>fm (some E.w) z (bz (cR i O Q z) fun S=>bG (ag T E.ys a0 (.int .i64 e)) fun U W=>fm (some E.w) A (bz (cR S U W A) fun nV=>∃ m',m'<x/\l m' [(.int .i64 (IntKind.wrap .i64 (b+1))),(.int .i64 (IntKind.wrap .i64 (e - 1)))] nV)))) /\
 (bA fun p X=>p X [.int .i64 m] gu /\
 ∀ B:Nat,∀ c:Int,∀ j:AS,p B [.int .i64 c] j ->
 af (decide ((b:Int)<=c)) (bG (ag T E.ys a0 (.int .i64 a1)) fun Y Z=>aR (aC j Y Z E.w) fun ab=>bG (ag T E.ys a0 (.int .i64 c)) fun ad ae=>aR (aC j ad ae E.w) fun al=>ek Tryz.prog a4 [.agg ab,.agg al] j fun am wu=>∃ C:Int,am=.int .i64 C/\(af (decide ((C:Int)<0))
 (∃ m',m'<B/\p m' [(.int .i64 (IntKind.wrap .i64 (c - 1)))] wu)
 (o [.int .i64 c] wu))) (o [.int .i64 c] j))) /\
 (bA fun r an=>r an [.int .i64 y] eC /\
 ∀ D:Nat,∀ d:Int,∀ k:AS,r D [.int .i64 d] k ->
 af (decide ((d:Int)<=m)) (bG (ag T E.ys a0 (.int .i64 a1)) fun ao ar=>aR (aC k ao ar E.w) fun aw=>bG (ag T E.ys a0 (.int .i64 d)) fun a5 a6=>aR (aC k a5 a6 E.w) fun a7=>ek Tryz.prog a4 [.agg aw,.agg a7] k fun a8 F=>∃ G:Int,a8=.int .i64 G/\(af (!(decide ((G:Int)<0)))
 (∃ m',m'<D/\r m' [(.int .i64 (IntKind.wrap .i64 (d+1)))] F)
 (n [.int .i64 d] F))) (n [.int .i64 d] k))))
def sX:QA:=(.seq .leaf (.seq .calm (.seq .leaf (.seq (.wrap (.loop [(11,.int .i64),(12,.int .i64)] [(11,12),(31,88)] (.wrap (.join [(11,.int .i64)] [(11,11),(31,49)] (.wrap (.loop [(11,.int .i64)] [(11,11),(31,49)] (.seq (.seq (.draw 13) (.cond .leaf .leaf)) (.wrap .leaf)))) (.join [(12,.int .i64)] [(12,12),(50,67)] (.wrap (.loop [(12,.int .i64)] [(12,12),(50,67)] (.seq (.seq (.draw 13) (.cond .leaf .leaf)) (.wrap .leaf)))) (.seq (.seq .leaf (.cond .leaf .leaf)) (.seq .calm (.seq .leaf .leaf)))))))) (.seq .leaf .leaf)))))
def yI (a0:AV) (a1:Int) (a2:Int) (a3:Int) (a4:AV) (s:AS) (R:AV->AS->Prop):Prop :=
 bG (ag T E.ys a0 (.int .i64 a3)) fun l1 o2=>aR (aC s l1 o2 E.w) fun g3=>bG (ag T E.ys a0 (.int .i64 a1)) fun l4 o5=>aR (aC s l4 o5 E.w) fun g6=>bG (ag T E.ys a0 (.int .i64 a1)) fun l7 o8=>fm (some E.w) g3 (bz (cR s l7 o8 g3) fun s9=>bG (ag T E.ys a0 (.int .i64 a3)) fun nU b7=>fm (some E.w) g6 (bz (cR s9 nU b7 g6) fun dw=>bt fun K =>
 (∀ k:Int,∀ gr:AS,K [.int .i64 k] gr ->
 bt fun L =>
 (∀ d:Int,∀ eC:AS,L [.int .i64 d] eC ->
 af (decide ((k:Int)>d))
 (bG (ag T E.ys a0 (.int .i64 a1)) fun zl b8=>aR (aC eC zl b8 E.w) fun X=>bG (ag T E.ys a0 (.int .i64 d)) fun b9 b'=>aR (aC eC b9 b' E.w) fun Y=>bG (ag T E.ys a0 (.int .i64 d)) fun ca cb=>fm (some E.w) X (bz (cR eC ca cb X) fun cc=>bG (ag T E.ys a0 (.int .i64 a1)) fun cd ce=>fm (some E.w) Y (bz (cR cc cd ce Y) fun cf=>R (.aQ [.int .i64 d,.bool true]) cf)))
 (bG (ag T E.ys a0 (.int .i64 d)) fun ch ci=>aR (aC eC ch ci E.w) fun Z=>bG (ag T E.ys a0 (.int .i64 k)) fun ck cl=>aR (aC eC ck cl E.w) fun ab=>bG (ag T E.ys a0 (.int .i64 k)) fun cm cn=>fm (some E.w) Z (bz (cR eC cm cn Z) fun cp=>bG (ag T E.ys a0 (.int .i64 d)) fun cr cs=>fm (some E.w) ab (bz (cR cp cr cs ab) fun cu=>bt fun ad =>
 (∀ z:Int,∀ A:AS,ad [.int .i64 z] A ->
 bG (ag T E.ys a0 (.int .i64 a1)) fun cv cw=>aR (aC A cv cw E.w) fun ae=>bG (ag T E.ys a0 (.int .i64 z)) fun cx cy=>aR (aC A cx cy E.w) fun al=>bG (ag T E.ys a0 (.int .i64 z)) fun cz cA=>fm (some E.w) ae (bz (cR A cz cA ae) fun cB=>bG (ag T E.ys a0 (.int .i64 a1)) fun cC c0=>fm (some E.w) al (bz (cR cB cC c0 al) fun c1=>R (.aQ [.int .i64 z,.bool false]) c1))) /\
 (bA fun M c2=>M c2 [(.int .i64 (IntKind.wrap .i64 (k+1))),(.int .i64 (IntKind.wrap .i64 (d - 1)))] cu /\
 ∀ am:Nat,∀ an:Int,∀ O:Int,∀ ao:AS,M am [.int .i64 an,.int .i64 O] ao ->
 bt fun Q =>
 (∀ l:Int,∀ Iw:AS,Q [.int .i64 l] Iw ->
 bt fun S =>
 (∀ m:Int,∀ p:AS,S [.int .i64 m] p ->
 af (decide ((l:Int)>m))
 (ad [.int .i64 m] p)
 (bG (ag T E.ys a0 (.int .i64 m)) fun c3 c4=>aR (aC p c3 c4 E.w) fun ar=>bG (ag T E.ys a0 (.int .i64 l)) fun c5 c6=>aR (aC p c5 c6 E.w) fun aw=>bG (ag T E.ys a0 (.int .i64 l)) fun c7 c8=>fm (some E.w) ar (bz (cR p c7 c8 ar) fun c9=>bG (ag T E.ys a0 (.int .i64 m)) fun c' da=>fm (some E.w) aw (bz (cR c9 c' da aw) fun db=>∃ m',m'<am/\M m' [(.int .i64 (IntKind.wrap .i64 (l+1))),(.int .i64 (IntKind.wrap .i64 (m - 1)))] db)))) /\
 (bA fun U dc=>U dc [.int .i64 O] Iw /\
 ∀ a5:Nat,∀ n:Int,∀ r:AS,U a5 [.int .i64 n] r ->
 af (decide ((l:Int)<=n)) (bG (ag T E.ys a0 (.int .i64 n)) fun dd df=>aR (aC r dd df E.w) fun dk=>bG (ag T E.ys a0 (.int .i64 a1)) fun dl dm=>aR (aC r dl dm E.w) fun dp=>ek Tryz.prog a4 [.agg dk,.agg dp] r fun dr a6=>∃ a7:Int,dr=.int .i64 a7/\(af (!(decide ((a7:Int)<0)))
 (∃ m',m'<a5/\U m' [(.int .i64 (IntKind.wrap .i64 (n - 1)))] a6)
 (S [.int .i64 n] a6))) (S [.int .i64 n] r))) /\
 (bA fun W ds=>W ds [.int .i64 an] ao /\
 ∀ a8:Nat,∀ o:Int,∀ e:AS,W a8 [.int .i64 o] e ->
 af (decide ((o:Int)<=O)) (bG (ag T E.ys a0 (.int .i64 o)) fun a9 a'=>aR (aC e a9 a' E.w) fun ba=>bG (ag T E.ys a0 (.int .i64 a1)) fun bb bc=>aR (aC e bb bc E.w) fun bd=>ek Tryz.prog a4 [.agg ba,.agg bd] e fun be B=>∃ C:Int,be=.int .i64 C/\(af (decide ((C:Int)<0))
 (∃ m',m'<a8/\W m' [(.int .i64 (IntKind.wrap .i64 (o+1)))] B)
 (Q [.int .i64 o] B))) (Q [.int .i64 o] e))))))) /\
 (bA fun x bh=>x bh [(.int .i64 (IntKind.wrap .i64 (a2 - 1)))] gr /\
 ∀ D:Nat,∀ b:Int,∀ i:AS,x D [.int .i64 b] i ->
 af (decide ((k:Int)<=b)) (bG (ag T E.ys a0 (.int .i64 b)) fun bi bj=>aR (aC i bi bj E.w) fun bk=>bG (ag T E.ys a0 (.int .i64 a1)) fun bl bm=>aR (aC i bl bm E.w) fun bo=>ek Tryz.prog a4 [.agg bk,.agg bo] i fun bs F=>∃ G:Int,bs=.int .i64 G/\(af (!(decide ((G:Int)<0)))
 (∃ m',m'<D/\x m' [(.int .i64 (IntKind.wrap .i64 (b - 1)))] F)
 (L [.int .i64 b] F))) (L [.int .i64 b] i))) /\
 (bA fun y bx=>y bx [(.int .i64 (IntKind.wrap .i64 (a1+1)))] dw /\
 ∀ H:Nat,∀ c:Int,∀ j:AS,y H [.int .i64 c] j ->
 af (decide ((c:Int)<=(IntKind.wrap .i64 (a2 - 1)))) (bG (ag T E.ys a0 (.int .i64 c)) fun b0 b1=>aR (aC j b0 b1 E.w) fun b2=>bG (ag T E.ys a0 (.int .i64 a1)) fun b3 b4=>aR (aC j b3 b4 E.w) fun b5=>ek Tryz.prog a4 [.agg b2,.agg b5] j fun b6 I=>∃ J:Int,b6=.int .i64 J/\(af (decide ((J:Int)<0))
 (∃ m',m'<H/\y m' [(.int .i64 (IntKind.wrap .i64 (c+1)))] I)
 (K [.int .i64 c] I))) (K [.int .i64 c] j))))
def yJ:QA:=(.seq .leaf (.seq .calm (.seq .leaf (.join [(12,.int .i64)] [(12,12),(32,49)] (.wrap (.loop [(12,.int .i64)] [(12,12),(32,49)] (.seq (.seq (.draw 13) (.cond .leaf .leaf)) (.wrap .leaf)))) (.join [(13,.int .i64)] [(13,13),(50,68)] (.wrap (.loop [(13,.int .i64)] [(13,13),(50,68)] (.seq (.seq (.draw 13) (.cond .leaf .leaf)) (.wrap .leaf)))) (.seq (.seq .leaf (.cond (.seq .calm (.seq .leaf .leaf)) .leaf)) (.seq .calm (.seq .leaf (.seq .leaf (.join [(13,.int .i64)] [(12,13),(105,162)] (.wrap (.loop [(12,.int .i64),(13,.int .i64)] [(12,13),(105,162)] (.wrap (.join [(12,.int .i64)] [(12,12),(105,122)] (.wrap (.loop [(12,.int .i64)] [(12,12),(105,122)] (.seq (.seq (.draw 13) (.cond .leaf .leaf)) (.wrap .leaf)))) (.join [(13,.int .i64)] [(13,13),(123,141)] (.wrap (.loop [(13,.int .i64)] [(13,13),(123,141)] (.seq (.seq (.draw 13) (.cond .leaf .leaf)) (.wrap .leaf)))) (.seq (.seq .leaf (.cond .leaf .leaf)) (.seq .calm (.seq .leaf .leaf)))))))) (.seq .calm (.seq .leaf .leaf))))))))))))
def Ag (a0:AV) (a1:Int) (a2:Int) (a3:Int) (a4:AV) (s:AS) (R:AV->AS->Prop):Prop :=
 bA fun p m2=>p m2 [.int .i64 a1] s /\
 ∀ m3:Nat,∀ b:Int,∀ i:AS,p m3 [.int .i64 b] i ->
 af (decide ((IntKind.wrap .i64 ((IntKind.wrap .i64 (2*b))+1):Int)>=a2))
 (R (.aQ []) i)
 (bt fun r =>
 (∀ j:Int,∀ s8:AS,r [.int .i64 j] s8 ->
 bG (ag T E.ys a0 (.int .i64 (IntKind.wrap .i64 (a3+b)))) fun l9 x=>aR (aC s8 l9 x E.w) fun y=>bG (ag T E.ys a0 (.int .i64 (IntKind.wrap .i64 (a3+j)))) fun qQ z=>aR (aC s8 qQ z E.w) fun A=>ek Tryz.prog a4 [.agg y,.agg A] s8 fun B c=>∃ k:Int,B=.int .i64 k/\(af (!(decide ((k:Int)<0)))
 (R (.aQ []) c)
 (bG (ag T E.ys a0 (.int .i64 (IntKind.wrap .i64 (a3+j)))) fun C D=>aR (aC c C D E.w) fun l=>bG (ag T E.ys a0 (.int .i64 (IntKind.wrap .i64 (a3+b)))) fun F G=>aR (aC c F G E.w) fun m=>bG (ag T E.ys a0 (.int .i64 (IntKind.wrap .i64 (a3+b)))) fun H I=>fm (some E.w) l (bz (cR c H I l) fun J=>bG (ag T E.ys a0 (.int .i64 (IntKind.wrap .i64 (a3+j)))) fun K L=>fm (some E.w) m (bz (cR J K L m) fun M=>∃ m',m'<m3/\p m' [.int .i64 j] M))))) /\
 (bt fun d =>
 (∀ n:Bool,∀ e:AS,d [.bool n] e ->
 af n
 (r [(.int .i64 (IntKind.wrap .i64 ((IntKind.wrap .i64 ((IntKind.wrap .i64 (2*b))+1))+1)))] e)
 (r [(.int .i64 (IntKind.wrap .i64 ((IntKind.wrap .i64 (2*b))+1)))] e)) /\
 (af (decide ((IntKind.wrap .i64 ((IntKind.wrap .i64 ((IntKind.wrap .i64 (2*b))+1))+1):Int)<a2)) (bG (ag T E.ys a0 (.int .i64 (IntKind.wrap .i64 (a3+(IntKind.wrap .i64 ((IntKind.wrap .i64 (2*b))+1)))))) fun O Q=>aR (aC i O Q E.w) fun S=>bG (ag T E.ys a0 (.int .i64 (IntKind.wrap .i64 ((IntKind.wrap .i64 (a3+(IntKind.wrap .i64 ((IntKind.wrap .i64 (2*b))+1))))+1)))) fun U W=>aR (aC i U W E.w) fun X=>ek Tryz.prog a4 [.agg S,.agg X] i fun Y Z=>∃ o:Int,Y=.int .i64 o/\(d [(.bool (decide ((o:Int)<0)))] Z)) (d [.bool false] i))))
def Ah:QA:=(.seq .leaf (.wrap (.loop [(10,.int .i64)] [(10,11),(13,81)] (.wrap (.seq .leaf (.seq (.seq .leaf (.cond .leaf .leaf)) (.join [(11,.int .i64)] [(11,11),(19,42)] (.join [(40,.bool)] [(19,40)] (.draw 19) (.cond .leaf .leaf)) (.seq (.seq (.draw 13) (.cond .leaf .leaf)) (.seq .calm .leaf)))))))))
def lA (a0:AV) (a1:Int) (a2:Option (Nat×Nat)) (a3:AV) (s:AS) (R:AV->AS->Prop):Prop :=
 aa Tryz.prog E.kM [a0,(.int .i64 (IntKind.wrap .i64 (a1 - 1))),.int .i64 a1,(.int .i64 (IntKind.wrap .i64 (a1+1))),.ptr a2,a3] s fun c s2=>∃ b:Int,c=.int .i64 b/\(R (.int .i64 b) s2)
def sY:QA:=(.seq .leaf (.seq .leaf .leaf))
def C0 (a0:AV) (a1:Int) (a2:Int) (a3:Int) (a4:Option (Nat×Nat)) (a5:AV) (s:AS) (R:AV->AS->Prop):Prop :=
 aa Tryz.prog E.iC [a0,.int .i64 a1,.int .i64 a2,.ptr a4,a5] s fun k s2=>∃ e:Int,∃ i:Int,k=.aQ [.int .i64 e,.int .i64 i]/\(aa Tryz.prog E.iC [a0,.int .i64 i,.int .i64 a3,.ptr a4,a5] s2 fun l s6=>∃ j:Int,∃ m:Int,l=.aQ [.int .i64 j,.int .i64 m]/\(aa Tryz.prog E.iC [a0,.int .i64 e,.int .i64 j,.ptr a4,a5] s6 fun n c=>∃ d:Int,∃ b:Int,n=.aQ [.int .i64 d,.int .i64 b]/\(R (.int .i64 b) c)))
def C1:QA:=(.seq .leaf (.seq .leaf (.seq .leaf (.seq .leaf (.seq .leaf .leaf)))))
def C2 (a0:AV) (a1:Int) (a2:Int) (a3:Option (Nat×Nat)) (a4:AV) (s:AS) (R:AV->AS->Prop):Prop :=
 bG (ag T E.ys a0 (.int .i64 a2)) fun l1 o2=>aR (aC s l1 o2 E.w) fun j=>bG (ag T E.ys a0 (.int .i64 a1)) fun k l=>aR (aC s k l E.w) fun m=>ek Tryz.prog a4 [.agg j,.agg m] s fun n s8=>∃ i:Int,n=.int .i64 i/\(af (decide ((i:Int)<0))
 (ai a3 fun nU b=>aU .i64 (av s8 nU b) fun c=>ai a3 fun d e=>bz (cR s8 d e [(.int .i64 (IntKind.wrap .i64 (c+1)))]) fun gr=>R (.aQ [.int .i64 a2,.int .i64 a1]) gr)
 (R (.aQ [.int .i64 a1,.int .i64 a2]) s8))
def C3:QA:=(.seq .leaf (.seq (.seq (.draw 9) (.cond (.seq .leaf (.seq .leaf .leaf)) .leaf)) (.seq .leaf .leaf)))
def mw (a0:AV) (a1:Int) (a2:Int) (a3:AV) (s:AS) (R:AV->AS->Prop):Prop :=
 af (decide ((IntKind.wrap .i64 (a2 - a1):Int)>=8))
 (ak (.cells [.int .u64 0] 0 false) s fun l1 s2=>bz (cR s2 l1 0 [(.int .u64 (IntKind.wrap .u64 (IntKind.wrap .i64 (a2 - a1))))]) fun s3=>aa Tryz.prog gJ [(.int .i64 (IntKind.wrap .i64 (a2 - a1)))] s3 fun G H=>∃ D:Int,G=.int .u64 D/\(NZ 4 (bA fun m I=>m I [(.int .i64 (IntKind.wrap .i64 ((IntKind.wrap .i64 (a1+(IntKind.wrap .i64 ((IntKind.wrap .i64 (Int.tdiv (IntKind.wrap .i64 (a2 - a1)) 4))*2)))) - 1)))] H /\
 ∀ F:Nat,∀ b:Int,∀ c:AS,m F [.int .i64 b] c ->
 NZ 4 (af (decide ((b:Int)<=(IntKind.wrap .i64 ((IntKind.wrap .i64 (a1+(IntKind.wrap .i64 ((IntKind.wrap .i64 (Int.tdiv (IntKind.wrap .i64 (a2 - a1)) 4))*2))))+1))))
 (aa Tryz.prog h_ [(.ptr (some (l1,0)))] c fun n bQ=>∃ j:Int,n=.int .u64 j/\(aU .u64 (bB .and .u64 j (IntKind.wrap .u64 (D - 1))) fun d=>bt fun e =>
 (∀ i:Int,∀ iV:AS,e [.int .i64 i] iV ->
 bG (ag T E.ys a0 (.int .i64 (IntKind.wrap .i64 (a1+i)))) fun o p=>aR (aC iV o p E.w) fun k=>bG (ag T E.ys a0 (.int .i64 b)) fun r x=>aR (aC iV r x E.w) fun l=>bG (ag T E.ys a0 (.int .i64 b)) fun y z=>fm (some E.w) k (bz (cR iV y z k) fun A=>bG (ag T E.ys a0 (.int .i64 (IntKind.wrap .i64 (a1+i)))) fun B C=>fm (some E.w) l (bz (cR A B C l) fun mP=>∃ m',m'<F/\m m' [(.int .i64 (IntKind.wrap .i64 (b+1)))] mP))) /\
 (af (decide ((IntKind.wrap .i64 d:Int)>=(IntKind.wrap .i64 (a2 - a1))))
 (e [(.int .i64 (IntKind.wrap .i64 ((IntKind.wrap .i64 d) - (IntKind.wrap .i64 (a2 - a1)))))] bQ)
 (e [(.int .i64 (IntKind.wrap .i64 d))] bQ))))
 (R (.aQ []) c)))))
 (R (.aQ []) s)
def uz:QA:=(.seq .leaf (.seq .leaf (.cond (.seq .leaf (.seq .leaf (.seq .leaf (.wrap (.loop [(11,.int .i64)] [(11,12),(28,66)] (.seq (.seq .leaf (.cond .leaf .leaf)) (.seq (.wrap (.seq .leaf (.join [(12,.int .i64)] [(12,12),(43,48)] (.seq .leaf (.cond .leaf .leaf)) .calm))) .leaf))))))) .leaf)))
class SQ (E:SE):Prop where
 yK:∀ (a0:AV) (a1:AV) (s:AS) (R:AV->AS->Prop),Nj E a0 a1 s R->aa Tryz.prog E.uw [a0,a1] s R
 nJ:∀ (a0:AV) (a1:Int) (a2:Int) (a3:Int) (a4:AV) (s:AS) (R:AV->AS->Prop),BI E a0 a1 a2 a3 a4 s R->aa Tryz.prog E.fE [a0,.int .i64 a1,.int .i64 a2,.int .i64 a3,a4] s R
 ig:∀ (a0:AV) (a1:Int) (a2:Int) (a3:AV) (s:AS) (R:AV->AS->Prop),ux E a0 a1 a2 a3 s R->aa Tryz.prog E.fu [a0,.int .i64 a1,.int .i64 a2,a3] s R
 rG:∀ (a0:AV) (a1:Int) (a2:Int) (a3:AV) (s:AS) (R:AV->AS->Prop),Ad E a0 a1 a2 a3 s R->aa Tryz.prog E.mu [a0,.int .i64 a1,.int .i64 a2,a3] s R
 oI:∀ (a0:AV) (a1:Int) (a2:Int) (a3:AV) (s:AS) (R:AV->AS->Prop),wB E a0 a1 a2 a3 s R->aa Tryz.prog E.jC [a0,.int .i64 a1,.int .i64 a2,a3] s R
 mQ:∀ (a0:AV) (a1:Int) (a2:Int) (a3:AV) (s:AS) (R:AV->AS->Prop),vi E a0 a1 a2 a3 s R->aa Tryz.prog E.iK [a0,.int .i64 a1,.int .i64 a2,a3] s R
 gQ:∀ (a0:AV) (a1:Int) (a2:Int) (a3:AV) (s:AS) (R:AV->AS->Prop),gP E a0 a1 a2 a3 s R->aa Tryz.prog E.eO [a0,.int .i64 a1,.int .i64 a2,a3] s R
 lC:∀ (a0:AV) (a1:Int) (a2:Int) (a3:Int) (a4:AV) (s:AS) (R:AV->AS->Prop),sV E a0 a1 a2 a3 a4 s R->aa Tryz.prog E.gK [a0,.int .i64 a1,.int .i64 a2,.int .i64 a3,a4] s R
 qH:∀ (a0:AV) (a1:Int) (a2:Int) (a3:Int) (a4:AV) (s:AS) (R:AV->AS->Prop),yI E a0 a1 a2 a3 a4 s R->aa Tryz.prog E.kT [a0,.int .i64 a1,.int .i64 a2,.int .i64 a3,a4] s R
 rH:∀ (a0:AV) (a1:Int) (a2:Int) (a3:Int) (a4:AV) (s:AS) (R:AV->AS->Prop),Ag E a0 a1 a2 a3 a4 s R->aa Tryz.prog E.iW [a0,.int .i64 a1,.int .i64 a2,.int .i64 a3,a4] s R
 lD:∀ (a0:AV) (a1:Int) (a2:Option (Nat×Nat)) (a3:AV) (s:AS) (R:AV->AS->Prop),lA E a0 a1 a2 a3 s R->aa Tryz.prog E.dH [a0,.int .i64 a1,.ptr a2,a3] s R
 uZ:∀ (a0:AV) (a1:Int) (a2:Int) (a3:Int) (a4:Option (Nat×Nat)) (a5:AV) (s:AS) (R:AV->AS->Prop),C0 E a0 a1 a2 a3 a4 a5 s R->aa Tryz.prog E.kM [a0,.int .i64 a1,.int .i64 a2,.int .i64 a3,.ptr a4,a5] s R
 u0:∀ (a0:AV) (a1:Int) (a2:Int) (a3:Option (Nat×Nat)) (a4:AV) (s:AS) (R:AV->AS->Prop),C2 E a0 a1 a2 a3 a4 s R->aa Tryz.prog E.iC [a0,.int .i64 a1,.int .i64 a2,.ptr a3,a4] s R
 mz:∀ (a0:AV) (a1:Int) (a2:Int) (a3:AV) (s:AS) (R:AV->AS->Prop),mw E a0 a1 a2 a3 s R->aa Tryz.prog E.ie [a0,.int .i64 a1,.int .i64 a2,a3] s R
end Go.Proofs.YtohgmogbabkkeaaGreat.SG
end

section
set_option maxRecDepth 100000
set_option maxHeartbeats 4000000
namespace Go.Proofs.YtohgmogbabkkeaaGreat
open Go.Am
def Po  (s:AS) (R:AV->AS->Prop):Prop :=
 oR (aV T nB [(2,.bool true)]) fun b=>cH b (ak (.cells b 0 false) s fun c s3=>R (.ptr (some (c,0))) s3)
def Pp:QA:=(.seq .leaf (.seq .leaf .leaf))
theorem Pq  (s:AS) (R:AV->AS->Prop) (h:Po  s R):aa Tryz.prog Bu [] s R :=
 aa.q (n:=3) (rs:=[.tmp 0]) (A:=Pp) hT bW Tryz.func146 (by kernel_rfl) rfl rfl rfl (by kernel_rfl) (by kernel_rfl) h
def Gp (a0:Option (Nat×Nat)) (a1:List AV) (s:AS) (R:AV->AS->Prop):Prop :=
 cH a1 (ak (.cells a1 0 false) s fun l1 s2=>aa Tryz.prog iz [.ptr a0] s2 fun v3 s4=>∃ b5:Bool,v3=.bool b5/\(af (!b5)
 (R (.aQ [.bool false,.int .i64 1]) s4)
 (aR (aC s4 l1 0 2) fun g6=>aa Tryz.prog nj [.agg g6] s4 fun v7 s8=>∃ b9:Bool,v7=.bool b9/\(af (!b9)
 (R (.aQ [.bool false,.int .i64 2]) s8)
 (aR (aC s8 l1 0 2) fun H=>aa Tryz.prog ki [.ptr a0,.agg H] s8 fun v11 dw=>∃ w:Bool,v11=.bool w/\(af w
 (R (.aQ [.bool false,.int .i64 0]) dw)
 (ai a0 fun lq I=>aR (aC dw lq I 18) fun x=>ak (.cells [.int .u64 0,.int .u64 0,.int .u64 0,.int .u64 0,.int .u64 0,.int .u64 0,.int .u64 0,.int .u64 0,.int .u64 0,.int .u64 0,.int .u64 0,.int .u64 0,.int .u64 0,.int .u64 0,.int .u64 0,.int .u64 0,.slc none 0 0 true,.bool false] 0 false) dw fun j eC=>fm (some 18) x (bz (cR eC j 0 x) fun iV=>gx fun S V=>ai a0 fun J K=>dJ (av iV J (K+16)) fun c=>aR (aC iV l1 0 2) fun d=>(∀ l:AS,Ext iV l->aM l->(True)->aa Tryz.prog ax [c,.agg d,(.func cJ [])] l fun L y=>∃ n:Int,∃ o:Bool,L=.aQ [.int .i64 n,.bool o]/\((Ext l y/\S 5 [(.func ax []),c,.agg d,(.func cJ [])] (.aQ [.int .i64 n,.bool o]) y/\V 5 [(.func ax []),c,.agg d,(.func cJ [])] (.aQ [.int .i64 n,.bool o]))))/\(∃ v,V 5 [(.func ax []),c,.agg d,(.func cJ [])] v)/\∀ z:AV,V 5 [(.func ax []),c,.agg d,(.func cJ [])] z->∃ p:Int,∃ A:Bool,z=.aQ [.int .i64 p,.bool A]/\(∀ b:AS,Ext iV b->aM b->(S 5 [(.func ax []),c,.agg d,(.func cJ [])] (.aQ [.int .i64 p,.bool A]) b/\True)->gx fun S V=>ai a0 fun M O=>dJ (av b M (O+16)) fun e=>(∀ mG:AS,Ext b mG->aM mG->(True)->aa Tryz.prog aF [e] mG fun B C=>(Ext mG C/\S 4 [(.func aF []),e] B C/\V 4 [(.func aF []),e] B))/\(∃ v,V 4 [(.func aF []),e] v)/\∀ qU:AV,V 4 [(.func aF []),e] qU->aR (aC b l1 0 2) fun i=>(∀ m:AS,Ext b m->aM m->(True)->aR (cV T az 1 [(0,.agg i)]) fun Q=>ak (.cells Q 0 false) m fun D F=>(Ext m F/\S 7 [.agg i] (.slc (some (D,0)) 1 1 true) F/\V 7 [.agg i] (.slc (some (D,0)) 1 1 true)))/\(∃ v,V 7 [.agg i] v)/\∀ r:AV,V 7 [.agg i] r->∀ k:AS,Ext b k->aM k->(S 4 [(.func aF []),e] qU k/\(S 7 [.agg i] r k/\True))->aa Tryz.prog dY [qU,.int .i64 p,r] k fun U W=>fG T az W j 16 U fun X=>aa Tryz.prog l_ [(.ptr (some (j,0)))] X fun Y Hj=>Y=.aQ []/\(dJ (av Hj j 16) fun Z=>aU .i64 (aO T az Z Hj) fun ab=>af (decide ((ab:Int)>4096))
 (R (.aQ [.bool false,.int .i64 5]) Hj)
 (aR (aC Hj j 0 18) fun G=>ai a0 fun ad ae=>fm (some 18) G (bz (cR Hj ad ae G) fun al=>R (.aQ [.bool true,.int .i64 0]) al))))))))))))
def Gq:QA:=(.seq .leaf (.seq (.wrap (.seq .leaf (.cond (.seq .leaf .leaf) (.seq .leaf (.cond (.seq .leaf .leaf) (.seq .leaf (.cond (.seq .leaf .leaf) .leaf))))))) (.seq .leaf (.seq (.gN 10 [[],[],[],[],[],[],[],[],[],[]] [5]) (.seq (.gN 8 [[],[],[],[],[],[],[],[]] [4,7]) (.seq .leaf (.seq (.seq .leaf (.cond (.seq .leaf .leaf) .leaf)) (.seq .leaf (.seq .leaf .leaf)))))))))
theorem Gr (a0:Option (Nat×Nat)) (a1:List AV) (s:AS) (R:AV->AS->Prop) (h:Gp a0 a1 s R):aa Tryz.prog rW [.ptr a0,.agg a1] s R :=
 aa.q (n:=51) (rs:=[.tmp 4,.tmp 5]) (A:=Gq) hT bW Tryz.func227 (by kernel_rfl) rfl rfl rfl (by kernel_rfl) (by kernel_rfl) h
def Ld (a0:List AV) (s:AS) (R:AV->AS->Prop):Prop :=
 cH a0 (ak (.cells a0 0 false) s fun l1 s2=>aU .i64 (av s2 l1 0) fun b=>af (decide ((b:Int)>=1)) (aU .i64 (av s2 l1 0) fun c=>af (decide ((c:Int)<=16)) (aU .u64 (av s2 l1 1) fun d=>af (decide ((d:Int)>=1)) (aU .u64 (av s2 l1 1) fun e=>R (.bool (decide ((e:Int)<=4611686018427387904))) s2) (R (.bool false) s2)) (R (.bool false) s2)) (R (.bool false) s2))
def Le:QA:=(.seq .leaf (.seq .leaf .leaf))
theorem Lf (a0:List AV) (s:AS) (R:AV->AS->Prop) (h:Ld a0 s R):aa Tryz.prog vV [.agg a0] s R :=
 aa.q (n:=21) (rs:=[.tmp 2]) (A:=Le) hT bW Tryz.func33 (by kernel_rfl) rfl rfl rfl (by kernel_rfl) (by kernel_rfl) h
def Pr (a0:List AV) (s:AS) (R:AV->AS->Prop):Prop :=
 cH a0 (ak (.cells a0 0 false) s fun l1 s2=>aU .i64 (av s2 l1 0) fun b=>af (decide ((b:Int)>=1)) (aU .i64 (av s2 l1 0) fun c=>af (decide ((c:Int)<=16)) (aU .u64 (av s2 l1 1) fun d=>af (decide ((d:Int)>=1)) (aU .u64 (av s2 l1 1) fun e=>R (.bool (decide ((e:Int)<=4611686018427387904))) s2) (R (.bool false) s2)) (R (.bool false) s2)) (R (.bool false) s2))
def Pt:QA:=(.seq .leaf (.seq .leaf .leaf))
theorem Pu (a0:List AV) (s:AS) (R:AV->AS->Prop) (h:Pr a0 s R):aa Tryz.prog nj [.agg a0] s R :=
 aa.q (n:=21) (rs:=[.tmp 2]) (A:=Pt) hT bW Tryz.func118 (by kernel_rfl) rfl rfl rfl (by kernel_rfl) (by kernel_rfl) h
def Gt (a0:Option (Nat×Nat)) (a1:List AV) (s:AS) (R:AV->AS->Prop):Prop :=
 cH a1 (ak (.cells a1 0 false) s fun l1 s2=>aa Tryz.prog iz [.ptr a0] s2 fun D s4=>∃ B:Bool,D=.bool B/\(af (!B) (R (.bool false) s4) (aR (aC s4 l1 0 2) fun F=>aa Tryz.prog nj [.agg F] s4 fun G s8=>∃ C:Bool,G=.bool C/\(af (!C)
 (R (.bool false) s8)
 (gx fun S V=>ai a0 fun nU n=>dJ (av s8 nU (n+16)) fun b=>aR (aC s8 l1 0 2) fun c=>(∀ d:AS,Ext s8 d->aM d->(True)->aa Tryz.prog ax [b,.agg c,(.func cJ [])] d fun o k=>∃ e:Int,∃ i:Bool,o=.aQ [.int .i64 e,.bool i]/\((Ext d k/\S 5 [(.func ax []),b,.agg c,(.func cJ [])] (.aQ [.int .i64 e,.bool i]) k/\V 5 [(.func ax []),b,.agg c,(.func cJ [])] (.aQ [.int .i64 e,.bool i]))))/\(∃ v,V 5 [(.func ax []),b,.agg c,(.func cJ [])] v)/\∀ l:AV,V 5 [(.func ax []),b,.agg c,(.func cJ [])] l->∃ m:Int,∃ j:Bool,l=.aQ [.int .i64 m,.bool j]/\(∀ gh:AS,Ext s8 gh->aM gh->(S 5 [(.func ax []),b,.agg c,(.func cJ [])] (.aQ [.int .i64 m,.bool j]) gh/\True)->af j (R (.bool true) gh) (aU .u64 (av gh l1 1) fun p=>aU .i64 (av gh l1 0) fun r=>ai a0 fun w x=>bG (ag T bg (.ptr (some (w,x))) (.int .i64 (IntKind.wrap .i64 (r - 1)))) fun y z=>aU .u64 (av gh y z) fun A=>R (.bool (decide ((p:Int)<=A))) gh)))))))
def Gu:QA:=(.seq .leaf (.seq (.seq .leaf (.cond (.seq .leaf .leaf) .leaf)) (.seq (.gN 10 [[],[],[],[],[],[],[],[],[],[]] [5]) (.seq (.draw 12) .leaf))))
theorem Gv (a0:Option (Nat×Nat)) (a1:List AV) (s:AS) (R:AV->AS->Prop) (h:Gt a0 a1 s R):aa Tryz.prog ki [.ptr a0,.agg a1] s R :=
 aa.q (n:=38) (rs:=[.tmp 4]) (A:=Gu) hT bW Tryz.func44 (by kernel_rfl) rfl rfl rfl (by kernel_rfl) (by kernel_rfl) h
def EZ (a0:Option (Nat×Nat)) (s:AS) (R:AV->AS->Prop):Prop :=
 aa Tryz.prog iz [.ptr a0] s fun l s2=>∃ k:Bool,l=.bool k/\(af (!k)
 (R (.ptr none) s2)
 (gx fun S V=>ai a0 fun m n=>aR (aC s2 m n 16) fun o=>ai a0 fun p r=>dJ (av s2 p (r+16)) fun e=>(∀ b:AS,Ext s2 b->aM b->(True)->aa Tryz.prog aF [e] b fun v11 dw=>(Ext b dw/\S 8 [(.func aF []),e] v11 dw/\V 8 [(.func aF []),e] v11))/\(∃ v,V 8 [(.func aF []),e] v)/\∀ d:AV,V 8 [(.func aF []),e] d->∀ c:AS,Ext s2 c->aM c->(S 8 [(.func aF []),e] d c/\True)->oR (aV T nB [(0,.agg o),(1,d),(2,.bool true)]) fun i=>cH i (ak (.cells i 0 false) c fun j eC=>R (.ptr (some (j,0))) eC)))
def E0:QA:=(.seq .leaf (.seq (.seq .leaf (.cond (.seq .leaf .leaf) .leaf)) (.seq (.gN 9 [[],[],[],[],[],[],[],[],[]] [8]) .leaf)))
theorem E1 (a0:Option (Nat×Nat)) (s:AS) (R:AV->AS->Prop) (h:EZ a0 s R):aa Tryz.prog dg [.ptr a0] s R :=
 aa.q (n:=17) (rs:=[.tmp 2]) (A:=E0) hT bW Tryz.func111 (by kernel_rfl) rfl rfl rfl (by kernel_rfl) (by kernel_rfl) h
def u5 (a0:Option (Nat×Nat)) (s:AS) (R:AV->AS->Prop):Prop :=
 uT (iY T 100 oC (.ptr a0) (.ptr none)) fun b=>af (!b) (ai a0 fun c d=>Oc (av s c (d+17)) fun e=>R (.bool e) s) (R (.bool false) s)
def C4:QA:=(.seq .leaf (.seq .leaf .leaf))
theorem C5 (a0:Option (Nat×Nat)) (s:AS) (R:AV->AS->Prop) (h:u5 a0 s R):aa Tryz.prog iz [.ptr a0] s R :=
 aa.q (n:=11) (rs:=[.tmp 2]) (A:=C4) hT bW Tryz.func112 (by kernel_rfl) rfl rfl rfl (by kernel_rfl) (by kernel_rfl) h
def iL (a0:AV) (a1:List AV) (a2:AV) (s:AS) (R:AV->AS->Prop):Prop :=
 cH a1 (ak (.cells a1 0 false) s fun l1 s2=>aU .i64 (aO T az a0 s2) fun F=>bt fun G =>
 (∀ o:Int,∀ s6:AS,G [.int .i64 o] s6 ->
 gx fun S V=>af (decide ((o:Int)<F)) (bG (ag T az a0 (.int .i64 o)) fun H I=>aR (aC s6 H I 2) fun n=>aR (aC s6 l1 0 2) fun c=>(∀ i:AS,Ext s6 i->aM i->(True)->ek Tryz.prog a2 [.agg n,.agg c] i fun x bQ=>∃ k:Int,x=.int .i64 k/\((Ext i bQ/\S 11 [a2,.agg n,.agg c] (.int .i64 k) bQ/\V 11 [a2,.agg n,.agg c] (.int .i64 k))))/\(∃ v,V 11 [a2,.agg n,.agg c] v)/\∀ p:AV,V 11 [a2,.agg n,.agg c] p->∃ l:Int,p=.int .i64 l/\(∀ lH:AS,Ext s6 lH->aM lH->(S 11 [a2,.agg n,.agg c] (.int .i64 l) lH/\True)->R (.aQ [.int .i64 o,(.bool ((l:Int)==0))]) lH)) (∀ iV:AS,Ext s6 iV->aM iV->(True)->R (.aQ [.int .i64 o,.bool false]) iV)) /\
 (bA fun j y=>j y [.int .i64 0,.int .i64 F] s2 /\
 ∀ m:Nat,∀ b:Int,∀ d:Int,∀ e:AS,j m [.int .i64 b,.int .i64 d] e ->
 af (decide ((b:Int)<d))
 (NN 1 (bG (ag T az a0 (.int .i64 (IntKind.wrap .i64 (Int.fdiv (IntKind.wrap .u64 (IntKind.wrap .i64 (b+d))) (2 ^ min (Int.toNat 1) (IntKind.bits .u64)))))) fun z A=>aR (aC e z A 2) fun B=>aR (aC e l1 0 2) fun C=>ek Tryz.prog a2 [.agg B,.agg C] e fun D r=>∃ w:Int,D=.int .i64 w/\(af (decide ((w:Int)<0))
 (∃ m',m'<m/\j m' [(.int .i64 (IntKind.wrap .i64 ((IntKind.wrap .i64 (Int.fdiv (IntKind.wrap .u64 (IntKind.wrap .i64 (b+d))) (2 ^ min (Int.toNat 1) (IntKind.bits .u64))))+1))),.int .i64 d] r)
 (∃ m',m'<m/\j m' [.int .i64 b,(.int .i64 (IntKind.wrap .i64 (Int.fdiv (IntKind.wrap .u64 (IntKind.wrap .i64 (b+d))) (2 ^ min (Int.toNat 1) (IntKind.bits .u64)))))] r))))
 (G [.int .i64 b] e)))
def iM:QA:=(.seq .leaf (.seq .leaf (.seq .leaf (.join [(9,.int .i64)] [(9,11),(15,34)] (.wrap (.loop [(9,.int .i64),(10,.int .i64)] [(9,11),(15,34)] (.seq (.seq .leaf (.cond .leaf .leaf)) (.wrap (.seq .leaf (.seq (.draw 6) (.cond .leaf .leaf))))))) (.seq (.gN 15 [[],[],[],[],[],[],[],[],[],[],[],[],[],[],[]] [11]) .leaf)))))
theorem iN (a0:AV) (a1:List AV) (a2:AV) (s:AS) (R:AV->AS->Prop) (h:iL a0 a1 a2 s R):aa Tryz.prog ax [a0,.agg a1,a2] s R :=
 aa.q (n:=49) (rs:=[.tmp 6,.tmp 7]) (A:=iM) hT bW Tryz.func126 (by kernel_rfl) rfl rfl rfl (by kernel_rfl) (by kernel_rfl) h
def Lg (a0:List AV) (a1:List AV) (s:AS) (R:AV->AS->Prop):Prop :=
 cH a0 (ak (.cells a0 0 false) s fun l1 s2=>cH a1 (ak (.cells a1 0 false) s2 fun l3 s4=>gx fun S V=>aU .i64 (av s4 l1 0) fun d=>aU .i64 (av s4 l3 0) fun e=>(∀ s7:AS,Ext s4 s7->aM s7->(True)->aa Tryz.prog aP [.int .i64 d,.int .i64 e] s7 fun x w=>∃ b:Int,x=.int .i64 b/\((Ext s7 w/\S 4 [(.func aP []),.int .i64 d,.int .i64 e] (.int .i64 b) w/\V 4 [(.func aP []),.int .i64 d,.int .i64 e] (.int .i64 b))))/\(∃ v,V 4 [(.func aP []),.int .i64 d,.int .i64 e] v)/\∀ v11:AV,V 4 [(.func aP []),.int .i64 d,.int .i64 e] v11->∃ c:Int,v11=.int .i64 c/\(aU .u64 (av s4 l1 1) fun k=>aU .u64 (av s4 l3 1) fun l=>∀ gr:AS,Ext s4 gr->aM gr->(S 4 [(.func aP []),.int .i64 d,.int .i64 e] (.int .i64 c) gr/\True)->aa Tryz.prog ez [.int .u64 k,.int .u64 l] gr fun m eC=>∃ i:Int,m=.int .i64 i/\(aR (cV T dZ 2 [(0,.int .i64 c),(1,.int .i64 i)]) fun n=>ak (.cells n 0 false) eC fun o gh=>aa Tryz.prog kj [(.slc (some (o,0)) 2 2 true)] gh fun p r=>∃ j:Int,p=.int .i64 j/\(R (.int .i64 j) r)))))
def Lh:QA:=(.seq .leaf (.seq (.gN 9 [[],[],[],[],[],[],[],[],[]] [4]) .leaf))
theorem Li (a0:List AV) (a1:List AV) (s:AS) (R:AV->AS->Prop) (h:Lg a0 a1 s R):aa Tryz.prog cJ [.agg a0,.agg a1] s R :=
 aa.q (n:=17) (rs:=[.tmp 4]) (A:=Lh) hT bW Tryz.func127 (by kernel_rfl) rfl rfl rfl (by kernel_rfl) (by kernel_rfl) h
def qI (a0:AV) (a1:Int) (a2:AV) (s:AS) (R:AV->AS->Prop):Prop :=
 dJ (aZ T az a0 (some (.int .i64 a1)) none none) fun I=>aU .i64 (aO T az a2 s) fun n2=>af ((n2:Int)==0)
 (R a0 s)
 (aU .i64 (aO T az a0 s) fun c=>af ((a1:Int)==c)
 (iF (aI T az az a0 a2 s) fun z A=>R z A)
 (aU .i64 (vu T az a0) fun B=>af (decide ((IntKind.wrap .i64 (c+n2):Int)>B))
 (dJ (aZ T az a0 none (some (.int .i64 a1)) none) fun C=>iF (aI T az rC C (.int .i64 (IntKind.wrap .i64 ((IntKind.wrap .i64 (c+n2)) - a1))) s) fun e D=>dJ (aZ T az e (some (.int .i64 a1)) none none) fun v10=>iF (qm T az v10 a2 D) fun v11 dw=>dJ (aZ T az e (some (.int .i64 (IntKind.wrap .i64 (a1+n2)))) none none) fun i=>dJ (aZ T az a0 (some (.int .i64 a1)) none none) fun j=>iF (qm T az i j dw) fun F k=>R e k)
 (dJ (aZ T az a0 none (some (.int .i64 (IntKind.wrap .i64 (c+n2)))) none) fun b=>dJ (aZ T az b (some (.int .i64 (IntKind.wrap .i64 (a1+n2)))) none none) fun l=>aa Tryz.prog mg [a2,l] s fun m fN=>∃ d:Bool,m=.bool d/\(af (!d)
 (dJ (aZ T az b (some (.int .i64 (IntKind.wrap .i64 (a1+n2)))) none none) fun n=>dJ (aZ T az b (some (.int .i64 a1)) none none) fun o=>iF (qm T az n o fN) fun G dM=>dJ (aZ T az b (some (.int .i64 a1)) none none) fun p=>iF (qm T az p a2 dM) fun H r=>R b r)
 (dJ (aZ T az b (some (.int .i64 c)) none none) fun w=>iF (qm T az w a2 fN) fun v30 mP=>dJ (aZ T az b (some (.int .i64 a1)) none none) fun x=>aa Tryz.prog qT [x,.int .i64 n2] mP fun y j8=>y=.aQ []/\(R b j8))))))
def qJ:QA:=(.seq .leaf (.seq .leaf (.seq .leaf (.seq (.seq .leaf (.cond (.seq .leaf .leaf) .leaf)) (.seq .leaf (.seq (.seq .leaf (.cond (.seq .leaf .leaf) .leaf)) (.seq (.seq .leaf (.cond (.seq .leaf (.seq .leaf (.seq (.draw 8) (.seq .leaf .leaf)))) .leaf)) (.seq .leaf (.seq (.seq .leaf (.cond (.seq (.draw 8) (.seq .leaf (.seq .leaf .leaf))) .leaf)) (.seq .leaf (.seq .leaf (.seq .leaf .leaf))))))))))))
theorem jD (a0:AV) (a1:Int) (a2:AV) (s:AS) (R:AV->AS->Prop) (h:qI a0 a1 a2 s R):aa Tryz.prog dY [a0,.int .i64 a1,a2] s R :=
 aa.q (n:=95) (rs:=[.tmp 6]) (A:=qJ) hT bW Tryz.func263 (by kernel_rfl) rfl rfl rfl (by kernel_rfl) (by kernel_rfl) h
def qW (a0:AV) (s:AS) (R:AV->AS->Prop):Prop :=
 uT (Qi T az true a0 (.slc none 0 0 true)) fun b=>af b
 (R (.slc none 0 0 true) s)
 (aR (cV T az 0 []) fun c=>ak (.cells c 0 false) s fun l3 s4=>iF (aI T az az (.slc (some (l3,0)) 0 0 true) a0 s4) fun d s6=>R d s6)
def qX:QA:=(.seq .leaf (.seq (.seq .leaf (.cond (.seq .leaf .leaf) .leaf)) (.seq .leaf .leaf)))
theorem qY (a0:AV) (s:AS) (R:AV->AS->Prop) (h:qW a0 s R):aa Tryz.prog aF [a0] s R :=
 aa.q (n:=8) (rs:=[.tmp 2]) (A:=qX) hT bW Tryz.func113 (by kernel_rfl) rfl rfl rfl (by kernel_rfl) (by kernel_rfl) h
def Ai (a0:Option (Nat×Nat)) (s:AS) (R:AV->AS->Prop):Prop :=
 bt fun L =>
 (∀ M:AV,∀ s3:AS,L [M] s3 ->
 ai a0 fun Q S=>fG T az s3 Q (S+16) M fun s6=>R (.aQ []) s6) /\
 (ai a0 fun U W=>dJ (av s U (W+16)) fun O=>aU .i64 (aO T az O s) fun n=>bA fun d o=>d o [.slc none 0 0 true,.int .i64 0] s /\
 ∀ i:Nat,∀ e:AV,∀ b:Int,∀ j:AS,d i [e,.int .i64 b] j ->
 af (decide ((b:Int)<n))
 (bG (ag T az O (.int .i64 b)) fun p r=>aR (aC j p r 2) fun m=>ak (.cells [.int .i64 0,.int .u64 0] 0 false) j fun c gu=>fm (some 2) m (bz (cR gu c 0 m) fun gh=>aU .i64 (av gh c 0) fun w=>ai a0 fun x y=>bG (ag T bg (.ptr (some (x,y))) (.int .i64 (IntKind.wrap .i64 (w - 1)))) fun k l=>aU .u64 (av gh c 1) fun z=>aU .u64 (av gh k l) fun A=>af (decide ((z:Int)<=A))
 (∃ m',m'<i/\d m' [e,(.int .i64 (IntKind.wrap .i64 (b+1)))] gh)
 (aU .u64 (av gh c 1) fun B=>aU .u64 (av gh k l) fun C=>af ((B:Int)==(IntKind.wrap .u64 (C+1)))
 (aU .u64 (av gh c 1) fun D=>bz (cR gh k l [.int .u64 D]) fun F=>∃ m',m'<i/\d m' [e,(.int .i64 (IntKind.wrap .i64 (b+1)))] F)
 (aR (aC gh c 0 2) fun G=>aR (cV T az 1 [(0,.agg G)]) fun H=>ak (.cells H 0 false) gh fun I mG=>iF (aI T az az e (.slc (some (I,0)) 1 1 true) mG) fun J K=>∃ m',m'<i/\d m' [J,(.int .i64 (IntKind.wrap .i64 (b+1)))] K))))
 (L [e] j))
def Aj:QA:=(.wrap (.seq .leaf (.seq .leaf (.join [(2,.any)] [(2,2),(4,45)] (.seq .leaf (.wrap (.loop [(2,.any),(11,.int .i64)] [(2,2),(4,5),(11,45)] (.seq .leaf (.seq (.cond .leaf .leaf) (.seq (.wrap (.seq .leaf (.seq (.seq (.draw 6) (.wrap (.seq (.draw 5) (.cond .leaf (.seq (.draw 6) (.cond (.seq .leaf .leaf) .leaf)))))) .leaf))) .leaf)))))) .leaf))))
theorem Ak (a0:Option (Nat×Nat)) (s:AS) (R:AV->AS->Prop) (h:Ai a0 s R):aa Tryz.prog l_ [.ptr a0] s R :=
 aa.q (n:=50) (rs:=[]) (A:=Aj) hT bW Tryz.func264 (by kernel_rfl) rfl rfl rfl (by kernel_rfl) (by kernel_rfl) h
def Gw (a0:AV) (s:AS) (R:AV->AS->Prop):Prop :=
 aU .i64 (aO T dZ a0 s) fun i=>bA fun c j=>c j [.int .i64 0] s /\
 ∀ d:Nat,∀ b:Int,∀ s6:AS,c d [.int .i64 b] s6 ->
 af (decide ((b:Int)<i))
 (bG (ag T dZ a0 (.int .i64 b)) fun k l=>aU .i64 (av s6 k l) fun e=>af ((e:Int) != 0)
 (R (.int .i64 e) s6)
 (∃ m',m'<d/\c m' [(.int .i64 (IntKind.wrap .i64 (b+1)))] s6))
 (R (.int .i64 0) s6)
def Gx:QA:=(.seq .leaf (.seq .leaf (.seq (.seq .leaf (.wrap (.loop [(8,.int .i64)] [(2,2),(5,5),(8,16)] (.seq .leaf (.seq (.cond .leaf .leaf) (.seq (.wrap (.seq .leaf (.seq .leaf (.cond (.seq .leaf .leaf) .leaf)))) .leaf)))))) (.seq .leaf .leaf))))
theorem Gy (a0:AV) (s:AS) (R:AV->AS->Prop) (h:Gw a0 s R):aa Tryz.prog kj [a0] s R :=
 aa.q (n:=18) (rs:=[.tmp 2]) (A:=Gx) hT bW Tryz.func178 (by kernel_rfl) rfl rfl rfl (by kernel_rfl) (by kernel_rfl) h
def yL (a0:Int) (a1:Int) (s:AS) (R:AV->AS->Prop):Prop :=
 aa Tryz.prog jL [.int .i64 a0] s fun e s2=>∃ d:Bool,e=.bool d/\(aa Tryz.prog jL [.int .i64 a1] s2 fun i b=>∃ c:Bool,i=.bool c/\(af d
 (af c
 (R (.int .i64 0) b)
 (R (.int .i64 (-1)) b))
 (af c
 (R (.int .i64 1) b)
 (af (decide ((a0:Int)<a1))
 (R (.int .i64 (-1)) b)
 (af (decide ((a0:Int)>a1))
 (R (.int .i64 1) b)
 (R (.int .i64 0) b))))))
def yM:QA:=(.seq .leaf (.seq .leaf (.seq .leaf (.seq (.seq .leaf (.cond (.seq (.seq .leaf (.cond (.seq .leaf .leaf) .leaf)) (.seq .leaf .leaf)) .leaf)) (.seq (.seq .leaf (.cond (.seq .leaf .leaf) .leaf)) (.seq (.seq .leaf (.cond (.seq .leaf .leaf) .leaf)) (.seq (.seq .leaf (.cond (.seq .leaf .leaf) .leaf)) (.seq .leaf .leaf))))))))
theorem yN (a0:Int) (a1:Int) (s:AS) (R:AV->AS->Prop) (h:yL a0 a1 s R):aa Tryz.prog aP [.int .i64 a0,.int .i64 a1] s R :=
 aa.q (n:=20) (rs:=[.tmp 4]) (A:=yM) hT bW Tryz.func179 (by kernel_rfl) rfl rfl rfl (by kernel_rfl) (by kernel_rfl) h
def vk (a0:Int) (a1:Int) (s:AS) (R:AV->AS->Prop):Prop :=
 aa Tryz.prog gC [.int .u64 a0] s fun e s2=>∃ d:Bool,e=.bool d/\(aa Tryz.prog gC [.int .u64 a1] s2 fun i b=>∃ c:Bool,i=.bool c/\(af d
 (af c
 (R (.int .i64 0) b)
 (R (.int .i64 (-1)) b))
 (af c
 (R (.int .i64 1) b)
 (af (decide ((a0:Int)<a1))
 (R (.int .i64 (-1)) b)
 (af (decide ((a0:Int)>a1))
 (R (.int .i64 1) b)
 (R (.int .i64 0) b))))))
def vl:QA:=(.seq .leaf (.seq .leaf (.seq .leaf (.seq (.seq .leaf (.cond (.seq (.seq .leaf (.cond (.seq .leaf .leaf) .leaf)) (.seq .leaf .leaf)) .leaf)) (.seq (.seq .leaf (.cond (.seq .leaf .leaf) .leaf)) (.seq (.seq .leaf (.cond (.seq .leaf .leaf) .leaf)) (.seq (.seq .leaf (.cond (.seq .leaf .leaf) .leaf)) (.seq .leaf .leaf))))))))
theorem vn (a0:Int) (a1:Int) (s:AS) (R:AV->AS->Prop) (h:vk a0 a1 s R):aa Tryz.prog ez [.int .u64 a0,.int .u64 a1] s R :=
 aa.q (n:=20) (rs:=[.tmp 4]) (A:=vl) hT bW Tryz.func180 (by kernel_rfl) rfl rfl rfl (by kernel_rfl) (by kernel_rfl) h
def sZ (a0:Int) (s:AS) (R:AV->AS->Prop):Prop :=
 R (.bool ((a0:Int) != a0)) s
def BK:QA:=(.seq .leaf (.seq .leaf .leaf))
theorem BL (a0:Int) (s:AS) (R:AV->AS->Prop) (h:sZ a0 s R):aa Tryz.prog jL [.int .i64 a0] s R :=
 aa.q (n:=6) (rs:=[.tmp 2]) (A:=BK) hT bW Tryz.func238 (by kernel_rfl) rfl rfl rfl (by kernel_rfl) (by kernel_rfl) h
def pI (a0:Int) (s:AS) (R:AV->AS->Prop):Prop :=
 R (.bool ((a0:Int) != a0)) s
def xL:QA:=(.seq .leaf (.seq .leaf .leaf))
theorem xM (a0:Int) (s:AS) (R:AV->AS->Prop) (h:pI a0 s R):aa Tryz.prog gC [.int .u64 a0] s R :=
 aa.q (n:=6) (rs:=[.tmp 2]) (A:=xL) hT bW Tryz.func239 (by kernel_rfl) rfl rfl rfl (by kernel_rfl) (by kernel_rfl) h
end Go.Proofs.YtohgmogbabkkeaaGreat
end

section
namespace Go.Proofs.YtohgmogbabkkeaaGreat
open Go.Am Go.au
def aN (d:aK):List AV:=[.int .i64 d.r,.int .u64 d.c]
theorem bn (d:aK):(aN d).length=2:=rfl
theorem mA (d:aK):(aN d).all AV.one=true:=rfl
theorem rI (a:Int) (s:AS):aa Tryz.prog jL [.int .i64 a] s fun v s'=>v=.bool false/\s'=s:=by
 refine BL _ _ _ ?_;simp [sZ]
theorem oJ (a:Int) (s:AS):aa Tryz.prog gC [.int .u64 a] s fun v s'=>v=.bool false/\s'=s:=by
 refine xM _ _ _ ?_;simp [pI]
theorem jY (a b:Int) (s:AS):aa Tryz.prog aP [.int .i64 a,.int .i64 b] s fun v s'=>v=.int .i64 (sJ a b)/\s'=s:=by
 refine yN _ _ _ _ ?_;refine (rI _ _).mono ?_;rintro v s1 ⟨rfl,rfl⟩;refine ⟨_,rfl,?_⟩;refine (rI _ _).mono ?_;rintro v s1 ⟨rfl,rfl⟩;refine ⟨_,rfl,?_⟩;simp only [gj,sJ]
 grind
theorem iq (a b:Int) (s:AS):aa Tryz.prog ez [.int .u64 a,.int .u64 b] s fun v s'=>v=.int .i64 (sJ a b)/\s'=s:=by
 refine vn _ _ _ _ ?_;refine (oJ _ _).mono ?_;rintro v s1 ⟨rfl,rfl⟩;refine ⟨_,rfl,?_⟩;refine (oJ _ _).mono ?_;rintro v s1 ⟨rfl,rfl⟩;refine ⟨_,rfl,?_⟩;simp only [gj,sJ]
 grind
theorem qK (d:aK) (s:AS):aa Tryz.prog nj [.agg (aN d)] s fun v s'=>v=.bool d.may/\Ext s s':=by
 refine aa.pre fun b=>Pu _ _ _ ⟨rfl,ak.intro b rfl fun l s1 F=>?_⟩;simp only [F.own.at.av,aN,List.getElem?_cons_zero,List.getElem?_cons_succ,go_sem,gj,F.ext,and_true,aK.may]
 grind
theorem IT (d:aK) (s:AS):aa Tryz.prog vV [.agg (aN d)] s fun v s'=>v=.bool d.may/\Ext s s':=by
 refine aa.pre fun b=>Lf _ _ _ ⟨rfl,ak.intro b rfl fun l s1 F=>?_⟩;simp only [F.own.at.av,aN,List.getElem?_cons_zero,List.getElem?_cons_succ,go_sem,gj,F.ext,and_true,aK.may]
 grind
end Go.Proofs.YtohgmogbabkkeaaGreat
end

section
namespace Go.Proofs.YtohgmogbabkkeaaGreat
open Go.Am Go.au
theorem iD:Bn T az iB 2 16:=⟨bF,jR,Un,⟨_,_,MT,rfl,rfl⟩,by decide,by decide⟩
abbrev Gz:=Sl aN 2
theorem aW {n:Int} (h:0<=n/\n<=4611686018427387904):IntKind.wrap .i64 n=n:=IntWalk.i64_in _ (by omega)
theorem rJ {n:Int} (h : -4611686018427387904<=n/\n<=4611686018427387904):IntKind.wrap .i64 n=n:=IntWalk.i64_in _ (by omega)
theorem fy {n:Int} (h:0<=n/\n<=18446744073709551615):IntKind.wrap .u64 n=n:=IntWalk.u64_in _ (by omega)
theorem Pv {i j:Nat} (h:i+j<=4611686018427387904):IntKind.wrap .i64 (Int.fdiv (IntKind.wrap .u64 (IntKind.wrap .i64 ((i:Int)+(j:Int)))) (2 ^ min (Int.toNat 1) (IntKind.bits .u64)))=(((i+j) / 2:Nat):Int):=by
 rw [show IntKind.wrap .i64 ((i:Int)+(j:Int))=(i:Int)+(j:Int) from aW (by omega),fy (by omega)];have:(2:Int) ^ min (Int.toNat 1) (IntKind.bits .u64)=2:=by decide
 rw [this,Int.fdiv_eq_ediv_of_nonneg _ (by omega),aW (by omega)];omega
theorem pB (a b:Int) {s:AS} {l:Nat} (h:At s l [.int .i64 a,.int .i64 b]):aa Tryz.prog kj [.slc (some (l,0)) 2 2 true] s fun v s'=>v=.int .i64 (if a≠0 then a else b)/\s'=s:=by
 have hs:Sl (fun n:Int=>[AV.int .i64 n]) 1 s (.slc (some (l,0)) 2 2 true) [a,b]:=bX.mk h rfl rfl;refine Gy _ _ _ ⟨_,hs.cj iU s,fun m vs s'=>∃ i:Nat,vs=[.int .i64 i]/\s'=s/\i<=2/\m=2 - i/\(0<i->a=0)/\(1<i->b=0),2,⟨0,by simp⟩,?_⟩;rintro m n s' ⟨i,hi,rfl,h2,rfl,h3,h4⟩;simp only [List.cons.injEq,AV.int.injEq,true_and,and_true] at hi;subst hi;refine af.dec (fun j=>?_) (fun k=>?_)
 ·simp only [List.length_cons,List.length_nil] at j;have p:i<2:=by omega
  obtain ⟨x,c⟩:∃ x,[a,b][i]? = some x:=⟨_,List.getElem?_eq_getElem (by simpa using p)⟩;obtain ⟨la,o,w,y⟩:=hs.ix (sz:=1) (by decide) (fun _=>rfl) iU EG c;refine ⟨la,o,w _,x,(y _ (Ext.refl _)).1 0 (by decide),af.mk (fun r=>?_) (fun heq=>?_)⟩
  ·refine ⟨?_,rfl⟩;have d:x≠0:=by simpa using r
   rcases (show i=0\/i=1 by omega) with rfl | rfl
   ·simp at c;subst c;rw [if_pos d]
   ·simp at c;subst c;rw [if_neg (by simp [h3])]
  ·have e:x=0:=by simpa using heq
   subst e;refine ⟨2 - (i+1),by omega,i+1,by rw [aW (by omega)];rfl,rfl,by omega,rfl,fun _=>?_,fun z=>?_⟩
   ·rcases (show i=0\/i=1 by omega) with rfl | rfl
    ·simpa using c
    ·exact h3 (by decide)
   ·rcases (show i=0\/i=1 by omega) with rfl | rfl
    ·omega
    ·simpa using c
 ·simp only [List.length_cons,List.length_nil] at k;obtain rfl:i=2:=by omega
  refine ⟨?_,rfl⟩;rw [if_neg (by simp [h3]),h4 (by decide)]
theorem uA (a b:aK) (s:AS):aa Tryz.prog cJ [.agg (aN a),.agg (aN b)] s fun v s'=>v=.int .i64 (a.cmp b)/\Ext s s':=by
 refine aa.pre fun n=>Li _ _ _ _ ⟨rfl,ak.intro n rfl fun l s1 F=>⟨rfl,ak.intro F.wf rfl fun o s2 i=>?_⟩⟩;have e:=F.ext.trans i.ext;refine ⟨fun _ _ _ _=>True,fun _ _ v=>v=.int .i64 (sJ a.r b.r),fun _ _ _ _ _ _ _=>trivial,?_⟩;simp only [(F.own.ext i.ext).at.av,i.own.at.av,aN,List.getElem?_cons_zero,List.getElem?_cons_succ,go_sem];refine ⟨fun s7 _ _ _=>?_,⟨_,rfl⟩,?_⟩
 ·refine (jY _ _ _).mono ?_;rintro v s' ⟨rfl,rfl⟩;exact ⟨_,rfl,Ext.refl _,trivial,rfl⟩
 ·rintro v rfl;refine ⟨_,rfl,fun gr j _ _=>?_⟩;refine aa.use (iq _ _ _) ?_;rintro v s' ⟨rfl,rfl⟩ k;refine ⟨_,rfl,?_⟩;have d:cV T dZ 2 [(0,.int .i64 (sJ a.r b.r)),(1,.int .i64 (sJ a.c b.c))]=some [.int .i64 (sJ a.r b.r),.int .i64 (sJ a.c b.c)]:=by
   simp only [cV,iU,EG,Im,Option.bind_some,tU];rfl
  rw [d];simp only [go_sem];refine ak.intro k rfl fun l3 s3 m=>?_;refine (pB _ _ m.own.at).mono ?_;rintro v s' ⟨rfl,rfl⟩;refine ⟨_,rfl,?_,e.trans (j.trans m.ext)⟩;simp only [aK.cmp]
structure wD (s:AS) (p:Nat) (v:List Int) (ex:List aK):Prop where
 len:v.length=16
 mem:∃ w,Am.Own s p (v.map (.int .u64)++[w,.bool true])/\w.one=true/\Gz s w ex
theorem wD.ext {s s':AS} {p:Nat} {v:List Int} {ex:List aK} (h:wD s p v ex) (e:Ext s s'):wD s' p v ex:=by
 obtain ⟨b,w,h2,h3,h4⟩:=h;exact ⟨b,w,h2.ext e,h3,h4.ext e⟩
theorem uB {s:AS} {p:Nat} {v:List Int} {ex:List aK} (h:wD s p v ex):aa Tryz.prog iz [.ptr (some (p,0))] s fun v s'=>v=.bool true/\s'=s:=by
 obtain ⟨b,w,h2,h3,h4⟩:=h;refine C5 _ _ _ ?_;unfold u5;rw [iG wm];have:(v.map (AV.int .u64)++[w,.bool true])[0+17]? = some (.bool true):=by
  rw [List.getElem?_append_right (by simp [b])];simp [b]
 simp only [go_sem,Option.isNone_some,Bool.not_false,h2.at.av,this,and_self]
end Go.Proofs.YtohgmogbabkkeaaGreat
end

section
namespace Go.Proofs.YtohgmogbabkkeaaGreat
open Go.Am Go.au
theorem E2 {s:AS} {v:AV} {l:List aK} (D:Gz s v l) (hlen:l.length<=2 ^ 40) (hr:dS l) (d:aK):aa Tryz.prog ax [v,.agg (aN d),.func cJ []] s
  fun r s'=>r=.aQ [.int .i64 (pos l d:Nat),.bool (decide (d∈l))]/\Ext s s':=by
 refine aa.pre fun W=>iN _ _ _ _ _ ⟨rfl,ak.intro W rfl fun la s2 F=>?_⟩;refine ⟨_,D.cj bF s2,fun vs s'=>∃ i:Nat,vs=[.int .i64 (i:Nat)]/\i<=l.length/\Ext s2 s'/\(∀ (k:Nat) x,k<i->l[k]? = some x->x.lt d=true)/\(∀ (k:Nat) x,i<=k->l[k]? = some x->x.lt d=false),?_,?_⟩
 ·rintro n5 s6 ⟨i,hi,G,w,R,h2⟩;simp only [List.cons.injEq,AV.int.injEq,true_and,and_true] at hi;subst hi;have X:pos l d=i:=pos_eq G R fun x c=>h2 i x (Nat.le_refl _) c;have n:=hr.mem d;rw [X] at n ⊢;refine ⟨fun _ _ _ _=>True,fun _ _ v=>∃ x,l[i]? = some x/\v=.int .i64 (x.cmp d),fun _ _ _ _ _ _ _=>trivial,af.dec (fun H=>?_) (fun I=>?_)⟩
  ·have A:i<l.length:=by omega
   have c:l[i]? = some l[i]:=List.getElem?_eq_getElem A;obtain ⟨y,o,J,K⟩:=(D.ext (F.ext.trans w)).ix (by decide) bn bF jR c;refine ⟨y,o,J _,_,(K _ (Ext.refl _)).2,_,(F.own.ext w).at.aC (by simp [aN]),fun Y Z _ _=>?_,⟨_,_,c,rfl⟩,?_⟩
   ·refine (uA _ _ _).mono ?_;rintro v s' ⟨rfl,e⟩;exact ⟨_,rfl,e,trivial,_,c,rfl⟩
   ·rintro v ⟨x,b,rfl⟩;rw [c] at b;obtain rfl:=Option.some.inj b;refine ⟨_,rfl,fun lH L _ _=>⟨?_,F.ext.trans (w.trans L)⟩⟩;congr 4;rw [Bool.eq_iff_iff,beq_iff_eq,decide_eq_true_eq,aK.UH,<- n,c];simp
  ·have:l[i]? = none:=List.getElem?_eq_none (by omega);rw [this] at n;have hn:¬ d∈l:=by rw [<- n];simp
   intro iV M _ _;refine ⟨?_,F.ext.trans (w.trans M)⟩;simp [hn]
 ·refine ⟨fun m vs s'=>∃ i j:Nat,vs=[.int .i64 (i:Nat),.int .i64 (j:Nat)]/\i<=j/\j<=l.length/\m=j - i/\Ext s2 s'/\(∀ (k:Nat) x,k<i->l[k]? = some x->x.lt d=true)/\(∀ (k:Nat) x,j<=k->l[k]? = some x->x.lt d=false),l.length,?_,?_⟩
  ·refine ⟨0,l.length,rfl,by omega,by omega,rfl,Ext.refl _,fun k x B=>by omega,fun k x B c=>?_⟩;rw [List.getElem?_eq_none B] at c;cases c
  ·rintro m ab ad ae ⟨i,j,C,R,h2,rfl,w,h3,h4⟩;simp only [List.cons.injEq,AV.int.injEq,true_and,and_true] at C;obtain ⟨rfl,rfl⟩:=C;refine af.dec (fun H=>?_) (fun I=>?_)
   ·rw [Pv (by omega)];have O:(i+j) / 2<j:=by omega
    have Q:i<=(i+j) / 2:=by omega
    generalize S:(i+j) / 2=mid at O Q;have c:l[mid]? = some l[mid]:=List.getElem?_eq_getElem (by omega);obtain ⟨y,o,J,K⟩:=(D.ext (F.ext.trans w)).ix (by decide) bn bF jR c;refine ⟨by decide,y,o,J _,_,(K _ (Ext.refl _)).2,_,(F.own.ext w).at.aC (by simp [aN]),?_⟩;refine (uA _ _ _).mono ?_;rintro v s' ⟨rfl,e⟩;refine ⟨_,rfl,af.dec (fun z=>?_) (fun z=>?_)⟩
    ·rw [aK.fM] at z;refine ⟨j - (mid+1),by omega,mid+1,j,by rw [aW (by omega)];rfl,by omega,h2,rfl,w.trans e,fun k x B b=>?_,h4⟩;rcases Nat.lt_or_ge k mid with p | p
     ·exact aK.lt_trans (hr.lt p b c) z
     ·obtain rfl:k=mid:=by omega
      rw [c] at b;obtain rfl:=Option.some.inj b;exact z
    ·rw [aK.fM] at z;refine ⟨mid - i,by omega,i,mid,rfl,by omega,by omega,rfl,w.trans e,h3,fun k x B b=>?_⟩;cases U:x.lt d with
     | false=>rfl
     | true =>
      exfalso;rcases Nat.eq_or_lt_of_le B with p | p
      ·subst p;rw [c] at b;obtain rfl:=Option.some.inj b;exact z U
      ·exact z (aK.lt_trans (hr.lt p c b) U)
   ·obtain rfl:i=j:=by omega
    exact ⟨i,rfl,by omega,w,h3,h4⟩
end Go.Proofs.YtohgmogbabkkeaaGreat
end

section
namespace Go.Proofs.YtohgmogbabkkeaaGreat.SG
open Go.Am Go.au.SG
variable {E:SE} [SQ E]
section
class qL (E:SE) (cf:FuncId):Prop where
 ok:∀ (a b:El E.O) (s:AS),aa Tryz.prog cf [.agg (E.cC a),.agg (E.cC b)] s fun v s'=>v=.int .i64 (a.cmp b)/\Ext s s'
variable {cf:FuncId} [qL E cf]
structure jG (s:AS) (a:AV) (lo:Nat) (l:List (El E.O)) (rest:List AV):Prop where
 val:∃ c e,a=.slc (some (lo,0)) l.length c e
 obj:∃ g,s.h lo=some (.cells (l.flatMap E.cC++rest) g false)
section
variable {s:AS} {a:AV} {lo:Nat} {l:List (El E.O)} {rest:List AV}
theorem qM (l:List (El E.O)):(l.flatMap E.cC).length=l.length*E.w:=dU E.len l
theorem VV {i n w:Nat} (h:i<n):i*w+w<=n*w:=by have:=Nat.mul_le_mul_right w h;rw [Nat.succ_mul] at this;exact this
theorem jG.mut {L:List Nat} {s':AS} (h:jG s a lo l rest) (m:bD L s s') (b:lo ∉ L):jG s' a lo l rest:=by
 obtain ⟨c,g,h2⟩:=h;exact ⟨c,g,m.1 _ _ b h2⟩
theorem jG.ext {s':AS} (h:jG s a lo l rest) (e:Ext s s'):jG s' a lo l rest:=h.mut (L:=[]) e.mut (by simp)
theorem jG.ix (h:jG s a lo l rest) {i:Nat} (hi:i<l.length):ag T E.ys a (.int .i64 (i:Nat))=some (.ptr (some (lo,i*E.w))):=by
 obtain ⟨⟨c,e,rfl⟩,_⟩:=h;have:(0:Int)<=(i:Int)/\(i:Int)<(l.length:Int):=by omega
 simp only [ag,E.us,E.zs,Option.bind_some];rw [if_pos this];simp
theorem jG.rd (h:jG s a lo l rest) {i:Nat} (hi:i<l.length):aC s lo (i*E.w) E.w=some (E.cC (el l i)):=by
 have c:=VV (w:=E.w) hi;obtain ⟨_,g,h2⟩:=h;have b:At s lo (l.flatMap E.cC++rest):=⟨_,_,h2⟩;rw [b.aC (by rw [List.length_append,qM];omega)];rw [List.drop_append_of_le_length (by rw [qM];omega),List.take_append_of_le_length (by rw [List.length_drop,qM];omega),Bm E.len (yp hi)]
theorem Rn (l:List (El E.O)) (k:Nat) (x:El E.O) (rest:List AV) (c:k<l.length):qe (l.flatMap E.cC++rest) (k*E.w) (E.cC x)=(l.set k x).flatMap E.cC++rest:=by
 have b:l.flatMap E.cC=(l.take k).flatMap E.cC++(E.cC (l[k])++(l.drop (k+1)).flatMap E.cC):=by
  conv=>lhs;rw [<- List.take_append_drop k l,List.flatMap_append,List.drop_eq_getElem_cons c,List.flatMap_cons]
 have d:((l.take k).flatMap E.cC).length=k*E.w:=by rw [dU E.len,List.length_take,Nat.min_eq_left (by omega)]
 have:=Ic ((l.take k).flatMap E.cC) (E.cC l[k]) (E.cC x) ((l.drop (k+1)).flatMap E.cC++rest) (by rw [E.len,E.len]);rw [d] at this;rw [b,List.append_assoc,List.append_assoc,<- List.append_assoc,this,List.set_eq_take_append_cons_drop,if_pos c,List.flatMap_append,List.flatMap_cons,List.append_assoc,List.append_assoc,List.append_assoc]
theorem jG.wr (h:jG s a lo l rest) (b:aM s) {i:Nat} (hi:i<l.length) (x:El E.O) {K:AS->Prop} (c:∀ s',jG s' a lo (l.set i x) rest->aM s'->bD [lo] s s'->K s'):fm (some E.w) (E.cC x) (bz (cR s lo (i*E.w) (E.cC x)) K):=by
 have d:=VV (w:=E.w) hi;obtain ⟨e,g,h2⟩:=h;refine ⟨⟨E.one _,by rw [E.len]⟩,bz.cR b h2 (by rw [List.length_append,qM,E.len];omega) fun s' P=>c s' ⟨?_,g,?_⟩ P.wf P.mut⟩
 ·rw [List.length_set];exact e
 ·rw [P.at,Rn l i x rest hi]
theorem jG.swap (h:jG s a lo l rest) (z:aM s) {i j:Nat} (hi:i<l.length) (hj:j<l.length) {K:AS->Prop} (A:∀ s',jG s' a lo (A_ l i j) rest->aM s'->bD [lo] s s'->K s') :
  bG (ag T E.ys a (.int .i64 (j:Nat))) fun d e=>aR (aC s d e E.w) fun b=>bG (ag T E.ys a (.int .i64 (i:Nat))) fun k m=>aR (aC s k m E.w) fun c=>bG (ag T E.ys a (.int .i64 (i:Nat))) fun n o=>fm (some E.w) b (bz (cR s n o b) fun p=>bG (ag T E.ys a (.int .i64 (j:Nat))) fun r x=>fm (some E.w) c (bz (cR p r x c) fun mP=>K mP)) :=
 ⟨_,_,h.ix hj,_,h.rd hj,_,_,h.ix hi,_,h.rd hi,_,_,h.ix hi,h.wr z hi _ fun s1 y w1 B =>
  ⟨_,_,y.ix (by simpa using hj),y.wr w1 (by simpa using hj) _ fun s2 h2 w2 m2=>A s2 h2 w2 (B.trans m2)⟩⟩
theorem jG.cmp (h:jG s a lo l rest) {i j:Nat} (hi:i<l.length) (hj:j<l.length) {K:Int->AS->Prop} (p:∀ s',jG s' a lo l rest->aM s'->bD [lo] s s'->K ((el l i).cmp (el l j)) s') :
  bG (ag T E.ys a (.int .i64 (i:Nat))) fun c d=>aR (aC s c d E.w) fun k=>bG (ag T E.ys a (.int .i64 (j:Nat))) fun lq m=>aR (aC s lq m E.w) fun n=>ek Tryz.prog (.func cf []) [.agg k,.agg n] s fun o eC=>∃ b:Int,o=.int .i64 b/\K b eC:=by
 refine ⟨_,_,h.ix hi,_,h.rd hi,_,_,h.ix hj,_,h.rd hj,?_⟩;refine aa.use (qL.ok (E:=E) _ _ _) ?_;rintro v s' ⟨rfl,e⟩ r;exact ⟨_,rfl,p s' (h.ext e) r e.mut⟩
end
theorem Nl {s:AS} {a:AV} {lo:Nat} {l:List (El E.O)} {rest:List AV} {x y:Nat} (h:jG s a lo l rest) (Q:x<=y) (hy:y<=l.length) (hn:l.length<=2 ^ 40) :
  aa Tryz.prog E.fu [a,.int .i64 (x:Nat),.int .i64 (y:Nat),.func cf []] s fun r s'=>r=.aQ []/\∃ l',jG s' a lo l' rest/\Sw x y l l'/\Cv l' x y/\bD [lo] s s':=by
 refine aa.pre fun R=>SQ.ig _ _ _ _ _ _ ⟨fun m vs s'=>∃ (i:Nat) (l':List (El E.O)),vs=[.int .i64 (i:Nat)]/\x+1<=i/\(i<=y\/i=x+1)/\m=y - i/\jG s' a lo l' rest/\aM s'/\Sw x y l l'/\Cv l' x i/\bD [lo] s s',y - (x+1),⟨x+1,l,by rw [aW (by omega)];rfl,by omega,.inr rfl,rfl,h,R,.refl _,fun p q w h2 h3=>by omega,bD.refl _ _⟩,?_⟩;rintro m n s5 ⟨i,l1,hi,S,U,rfl,a5,W,d,z,L⟩;simp only [List.cons.injEq,AV.int.injEq,true_and,and_true] at hi;subst hi;have X:=d.len;refine af.dec (fun Y=>?_) (fun Z=>⟨rfl,l1,a5,d,fun p q w h2 h3=>z p q w h2 (by omega),L⟩);have fin:∀ s' l',jG s' a lo l' rest->aM s'->Sw x y l l'->Cv l' x (i+1)->bD [lo] s s'->∃ m',m'<y - i/\∃ (k:Nat) (l':List (El E.O)),[AV.int .i64 (IntKind.wrap .i64 ((i:Int)+1))]=[.int .i64 (k:Nat)]/\x+1<=k/\(k<=y\/k=x+1)/\m'=y - k/\jG s' a lo l' rest/\aM s'/\Sw x y l l'/\Cv l' x k/\bD [lo] s s' :=
  fun s' l' w h2 h3 h4 h5=>⟨y - (i+1),by omega,i+1,l',by rw [aW (by omega)];rfl,by omega,.inl (by omega),rfl,w,h2,h3,h4,h5⟩
 refine ⟨fun m vs s'=>∃ (j:Nat) (l':List (El E.O)),vs=[.int .i64 (j:Nat)]/\x<=j/\j<=i/\m=j - x/\jG s' a lo l' rest/\aM s'/\Sw x y l l'/\(∀ p q,x<=p->p<q->q<=i->q≠j->(el l' p).le (el l' q))/\bD [lo] s s',i - x,⟨i,l1,rfl,by omega,by omega,rfl,a5,W,d,fun p q w h2 h3 h4=>z p q w h2 (by omega),L⟩,?_⟩;rintro m n ab ⟨j,M,hj,A,e,rfl,B,H,b,c,o⟩;simp only [List.cons.injEq,AV.int.injEq,true_and,and_true] at hj;subst hj;have ad:=b.len;refine af.dec (fun ae=>?_) (fun hle=>fin _ M B H b (H_ A e (.inl (by omega)) c) o);rw [aW (by omega),show (j:Int) - 1=((j - 1:Nat):Int) by omega];refine B.cmp (by omega) (by omega) fun eC C D F=>af.dec (fun G=>?_) (fun G=>fin _ M C D b (H_ A e (.inr (El.vL (by rw [<- El.fM];exact G))) c) (o.trans F));rw [El.fM] at G;refine C.swap D (by omega) (by omega) fun mP I J K=>⟨j - 1 - x,by omega,j - 1,_,rfl,by omega,by omega,rfl,I,J,.step b ⟨by omega,by omega⟩ ⟨by omega,by omega⟩ (by omega),Ku (by omega) (by omega) e G c,(o.trans F).trans K⟩
end
section
variable {cf:FuncId} [qL E cf]
theorem Nm {x y:Nat} (h:x+y<=4611686018427387904):IntKind.wrap .i64 ((x:Int)+(y:Int))=((x+y:Nat):Int):=by rw [aW (by omega)];omega
theorem jT {x:Nat} (h:x+1<=4611686018427387904):IntKind.wrap .i64 ((x:Int)+1)=((x+1:Nat):Int):=by rw [aW (by omega)];omega
theorem C6 {x y:Nat} (h:y<=x) (b:x<=4611686018427387904):IntKind.wrap .i64 ((x:Int) - (y:Int))=((x - y:Nat):Int):=by rw [aW (by omega)];omega
theorem kD {x:Nat} (h:1<=x) (b:x<=4611686018427387904):IntKind.wrap .i64 ((x:Int) - 1)=((x - 1:Nat):Int):=by rw [aW (by omega)];omega
theorem VW {x:Nat} (h:2*x<=4611686018427387904):IntKind.wrap .i64 (2*(x:Int))=((2*x:Nat):Int):=by rw [aW (by omega)];omega
theorem Ro (x k:Nat):Int.tdiv (x:Int) (k:Int)=((x / k:Nat):Int):=rfl
theorem wid {x:Nat} (h:x<=4611686018427387904):IntKind.wrap .i64 (x:Int)=(x:Int):=aW (by omega)
theorem CA {s:AS} {a:AV} {lo:Nat} {l:List (El E.O)} {rest:List AV} {k n f:Nat} (h:jG s a lo l rest) (hl:f+n<=l.length) (hn:l.length<=2 ^ 40) (hk:k<=2 ^ 40) (R:CL l f n (k+1)) :
  aa Tryz.prog E.iW [a,.int .i64 (k:Nat),.int .i64 (n:Nat),.int .i64 (f:Nat),.func cf []] s fun r s'=>r=.aQ []/\∃ l',jG s' a lo l' rest/\Sw f (f+n) l l'/\CL l' f n k/\bD [lo] s s':=by
 refine aa.pre fun S=>SQ.rH _ _ _ _ _ _ _ ⟨fun m vs s'=>∃ (root:Nat) (l':List (El E.O)),vs=[.int .i64 (root:Nat)]/\root<=n+k/\m=n+k - root/\jG s' a lo l' rest/\aM s'/\Sw f (f+n) l l'/\MJ l' f n k root/\bD [lo] s s',n+k - k,⟨k,l,rfl,by omega,rfl,h,S,.refl _,R.Wr,bD.refl _ _⟩,?_⟩;rintro m n4 s5 ⟨root,l1,hi,U,rfl,a5,W,e,o,B⟩;simp only [List.cons.injEq,AV.int.injEq,true_and,and_true] at hi;subst hi;have X:=e.len;rw [VW (by omega),jT (by omega)];refine af.dec (fun C=>⟨rfl,l1,a5,e,o.done fun c z d A=>by omega,B⟩) (fun Y=>?_);refine ⟨fun vs s'=>∃ child:Nat,vs=[.int .i64 (child:Nat)]/\(child=2*root+1\/child=2*root+2)/\child<n/\jG s' a lo l1 rest/\aM s'/\bD [lo] s s'/\(∀ c,0<c->c<n->(c - 1) / 2=root->(el l1 (f+c)).le (el l1 (f+child))),?_,?_⟩
 ·rintro n7 s8 ⟨child,d,D,F,Z,w8,Q,i⟩;simp only [List.cons.injEq,AV.int.injEq,true_and,and_true] at d;subst d;rw [Nm (by omega),Nm (by omega)];refine Z.cmp (by omega) (by omega) fun ab p G w=>?_;refine af.mk (fun d=>?_) (fun d=>?_)
  ·have hle:=El.vL (show ¬ (el l1 (f+root)).lt (el l1 (f+child))=true by rw [<- El.fM];simpa using d);exact ⟨rfl,l1,p,e,o.done fun c z d A=>El.le_trans (i c z d A) hle,Q.trans w⟩
  ·have j:(el l1 (f+root)).lt (el l1 (f+child))=true:=by rw [<- El.fM];simpa using d
   refine p.swap G (by omega) (by omega) fun ad H I J=>⟨n+k - child,by omega,child,_,rfl,by omega,rfl,H,I,.step e ⟨by omega,by omega⟩ ⟨by omega,by omega⟩ (by omega),o.step (by omega) D F j i,(Q.trans w).trans J⟩
 ·refine ⟨fun vs s'=>∃ t,vs=[.bool t]/\jG s' a lo l1 rest/\aM s'/\bD [lo] s s'/\(t=true->2*root+2<n/\(el l1 (f+(2*root+1))).lt (el l1 (f+(2*root+2)))=true)/\(t=false->2*root+2<n->(el l1 (f+(2*root+2))).le (el l1 (f+(2*root+1)))),?_,?_⟩
  ·rintro b ae ⟨t,ht,x,y,m32,h1,h2⟩;simp only [List.cons.injEq,AV.bool.injEq,and_true] at ht;subst ht;refine af.mk (fun hb=>?_) (fun hb=>?_)
   ·obtain ⟨h3,h4⟩:=h1 hb;rw [jT (by omega)];refine ⟨2*root+2,rfl,.inr rfl,h3,x,y,m32,fun c z d A=>?_⟩;rcases (show c=2*root+1\/c=2*root+2 by omega) with rfl | rfl
    ·exact El.zF h4
    ·exact El.le_refl _
   ·refine ⟨2*root+1,rfl,.inl rfl,by omega,x,y,m32,fun c z d A=>?_⟩;rcases (show c=2*root+1\/c=2*root+2 by omega) with rfl | rfl
    ·exact El.le_refl _
    ·exact h2 hb d
  ·rw [jT (by omega)];refine af.dec (fun j=>?_) (fun C=>⟨false,rfl,a5,W,B,by simp,fun _ h=>by omega⟩);rw [Nm (by omega),jT (by omega)];refine a5.cmp (by omega) (by omega) fun al K L M=>⟨_,rfl,K,L,B.trans M,fun h=>⟨by omega,?_⟩,fun h _=>?_⟩
   ·have:=of_decide_eq_true h;rw [El.fM] at this;exact this
   ·have:=of_decide_eq_false h;rw [El.fM] at this;exact El.vL this
theorem Lj {s:AS} {a:AV} {lo:Nat} {l:List (El E.O)} {rest:List AV} {x y:Nat} (h:jG s a lo l rest) (ad:x<y) (hy:y<=l.length) (hn:l.length<=2 ^ 40) :
  aa Tryz.prog E.mu [a,.int .i64 (x:Nat),.int .i64 (y:Nat),.func cf []] s fun r s'=>r=.aQ []/\∃ l',jG s' a lo l' rest/\Sw x y l l'/\Cv l' x y/\bD [lo] s s':=by
 refine aa.pre fun hw=>SQ.rG _ _ _ _ _ _ ⟨fun vs s'=>∃ l',jG s' a lo l' rest/\aM s'/\Sw x y l l'/\CL l' x (y - x) 0/\bD [lo] s s',?_,by decide,?_⟩
 ·rintro s2 ⟨l1,a2,w2,z,I,m2⟩;have ae:=z.len;rw [C6 (by omega) (by omega),kD (by omega) (by omega)];refine ⟨fun m vs s'=>∃ (i:Nat) (l':List (El E.O)),vs=[.int .i64 ((i:Int) - 1)]/\i<=y - x/\m=2*i/\jG s' a lo l' rest/\aM s'/\Sw x y l l'/\CL l' x i 0/\MK l' x y i/\bD [lo] s s',2*(y - x),⟨y - x,l1,by congr 2;omega,by omega,rfl,a2,w2,z,I,fun p q _ _ _ _=>by omega,m2⟩,?_⟩;rintro m n6 s7 ⟨i,H,hi,J,rfl,a7,w7,w,K,A,m7⟩;simp only [List.cons.injEq,AV.int.injEq,true_and,and_true] at hi;subst hi;have L:=w.len;refine af.dec (fun M=>?_) (fun Q=>?_)
  ·obtain ⟨j,rfl⟩:∃ j,i=j+1:=⟨i - 1,by omega⟩;rw [show (((j+1:Nat):Int) - 1)=(j:Int) by omega,Nm (by omega)];obtain ⟨t1,t2⟩:=A.swap (n:=j) (by omega) (by omega) K;refine a7.swap w7 (by omega) (by omega) fun tD R al S=>?_;have B:Sw x y l (A_ H x (x+j)):=.step w ⟨by omega,by omega⟩ ⟨by omega,by omega⟩ (by omega);refine aa.use (CA (k:=0) (n:=j) (f:=x) R (by rw [DO];omega) (by rw [DO];omega) (by omega) t2) ?_;rintro r dM ⟨rfl,l3,U,d,C,W⟩ X;refine ⟨rfl,2*j,by omega,j,l3,by rw [rJ (by omega)],by omega,rfl,U,X,B.trans (d.Ui (Nat.le_refl _) (by omega) (by rw [DO];omega)),C,t1.sw d,(m7.trans S).trans W⟩
  ·obtain rfl:i=0:=by omega
   exact ⟨rfl,H,a7,w,fun p q h1 h2 h3=>A p q h1 h2 h3 (by omega),m7⟩
 ·rw [C6 (by omega) (by omega),kD (by omega) (by omega),show (2:Int)=((2:Nat):Int) by rfl,Ro,wid (by omega)];refine ⟨fun m vs s'=>∃ (i:Nat) (l':List (El E.O)),vs=[.int .i64 ((i:Int) - 1)]/\i<=y - x/\m=2*i/\jG s' a lo l' rest/\aM s'/\Sw x y l l'/\CL l' x (y - x) i/\bD [lo] s s',2*((y - x - 1) / 2+1),⟨(y - x - 1) / 2+1,l,by congr 2;omega,by omega,rfl,h,hw,.refl _,fun c _ _ _=>by omega,bD.refl _ _⟩,?_⟩;rintro m am an ⟨i,H,hi,J,rfl,D,Y,b,e,F⟩;simp only [List.cons.injEq,AV.int.injEq,true_and,and_true] at hi;subst hi;have L:=b.len;refine af.dec (fun M=>?_) (fun Q=>?_)
  ·obtain ⟨j,rfl⟩:∃ j,i=j+1:=⟨i - 1,by omega⟩;rw [show (((j+1:Nat):Int) - 1)=(j:Int) by omega];refine aa.use (CA (k:=j) (n:=y - x) (f:=x) D (by omega) (by omega) (by omega) e) ?_;rintro r ao ⟨rfl,l3,Z,o,G,m32⟩ ab;refine ⟨rfl,2*j,by omega,j,l3,by rw [rJ (by omega)],by omega,rfl,Z,ab,b.trans (by rw [show x+(y - x)=y by omega] at o;exact o),G,F.trans m32⟩
  ·obtain rfl:i=0:=by omega
   exact ⟨H,D,Y,b,e,F⟩
end
section
variable {cf:FuncId} [qL E cf]
theorem Nn {s:AS} {a:AV} {lo:Nat} {l:List (El E.O)} {rest:List AV} {x y:Nat} (h:jG s a lo l rest) (p:x<y) (D:y<=l.length) (F:l.length<=2 ^ 40) :
  aa Tryz.prog E.iK [a,.int .i64 (x:Nat),.int .i64 (y:Nat),.func cf []] s fun r s'=>r=.aQ []/\∃ l',jG s' a lo l' rest/\Sw x y l l'/\bD [lo] s s':=by
 refine aa.pre fun w=>SQ.mQ _ _ _ _ _ _ ⟨fun m vs s'=>∃ (i j:Nat) (l':List (El E.O)),vs=[.int .i64 (i:Nat),.int .i64 (j:Nat)]/\x<=i/\j<y/\i<=j+1/\m=j+1 - i/\jG s' a lo l' rest/\aM s'/\Sw x y l l'/\bD [lo] s s',y - 1+1 - x,⟨x,y - 1,l,by rw [kD (by omega) (by omega)],by omega,by omega,by omega,rfl,h,w,.refl _,bD.refl _ _⟩,?_⟩;rintro m G H s6 ⟨i,j,l1,c,I,hj,hle,rfl,n,z,b,o⟩;simp only [List.cons.injEq,AV.int.injEq,true_and,and_true] at c;obtain ⟨rfl,rfl⟩:=c;have A:=b.len;refine af.dec (fun B=>?_) (fun C=>⟨rfl,l1,n,b,o⟩);refine n.swap z (by omega) (by omega) fun eC d e k=>?_;rw [jT (by omega),kD (by omega) (by omega)];exact ⟨j - 1+1 - (i+1),by omega,i+1,j - 1,_,rfl,by omega,by omega,by omega,rfl,d,e,.step b ⟨by omega,by omega⟩ ⟨by omega,by omega⟩ (by omega),o.trans k⟩
structure Hl (L G:El E.O->El E.O->Prop) (s:AS) (a:AV) (lo:Nat) (rest:List AV) (l:List (El E.O)) (x y:Nat) (s':AS) (l':List (El E.O)) (i j:Nat):Prop where
 arr:jG s' a lo l' rest
 wf:aM s'
 sw:Sw x y l l'
 qR:Ia L G l' x y i j
 ew:bD [lo] s s'
theorem Hl.to {L G:El E.O->El E.O->Prop} {s:AS} {a:AV} {lo:Nat} {rest:List AV} {l:List (El E.O)} {x y:Nat} {s' s'':AS} {l':List (El E.O)} {i j i' j':Nat} (h:Hl L G s a lo rest l x y s' l' i j) (b:jG s'' a lo l' rest) (c:aM s'') (m:bD [lo] s' s'') (d:Ia L G l' x y i' j'):Hl L G s a lo rest l x y s'' l' i' j' :=
 ⟨b,c,h.sw,d,h.ew.trans m⟩
theorem IU {s:AS} {a:AV} {lo:Nat} {l:List (El E.O)} {rest:List AV} {x y p:Nat} (h:jG s a lo l rest) (hp:x<=p/\p<y) (hy:y<=l.length) (hn:l.length<=2 ^ 40) :
  aa Tryz.prog E.kT [a,.int .i64 (x:Nat),.int .i64 (y:Nat),.int .i64 (p:Nat),.func cf []] s fun r s'=>∃ (m:Nat) (b:Bool) (l':List (El E.O)),r=.aQ [.int .i64 (m:Nat),.bool b]/\jG s' a lo l' rest/\Sw x y l l'/\Ew l' x y m/\bD [lo] s s':=by
 refine aa.pre fun hw=>SQ.qH _ _ _ _ _ _ _ ?_;refine h.swap hw (by omega) (by omega) fun dw a8 a9 a'=>?_;have al:Sw x y l (A_ l x p):=.step (.refl _) ⟨by omega,by omega⟩ hp hy;have fin:∀ s' l' i j,Hl Lt Ge s a lo rest l x y s' l' i j->j<i->∀ s'' ,jG s'' a lo (A_ l' j x) rest->bD [lo] s' s''->∀ b:Bool,∃ (m:Nat) (b':Bool) (l':List (El E.O)),AV.aQ [.int .i64 (j:Nat),.bool b]=.aQ [.int .i64 (m:Nat),.bool b']/\jG s'' a lo l' rest/\Sw x y l l'/\Ew l' x y m/\bD [lo] s s'':=by
  intro s' l' i j st am s'' a2 m2 b;have:=st.qR.ij;have:=st.qR.xi;have:=st.qR.jy;have b9:=st.sw.len;exact ⟨j,b,_,rfl,a2,.step st.sw ⟨by omega,by omega⟩ ⟨by omega,by omega⟩ (by omega),st.qR.fin (by omega) am,st.ew.trans m2⟩
 have L:∀ {u v:El E.O},¬ u.cmp v<0->Ge u v:=fun h=>El.vL (by rw [<- El.fM];exact h);have M:∀ {u v:El E.O},u.cmp v<0->Lt u v:=fun h=>El.fM.1 h;refine ⟨fun vs s'=>∃ (i:Nat) (l':List (El E.O)),vs=[.int .i64 (i:Nat)]/\Hl Lt Ge s a lo rest l x y s' l' i (y - 1)/\(i<=y - 1->Ge (el l' i) (el l' x)),?_,?_⟩
 ·rintro ca gr ⟨i,l1,hi,F,an⟩;simp only [List.cons.injEq,AV.int.injEq,true_and,and_true] at hi;subst hi;have cb:=F.sw.len;have cc:=F.qR.xi;have cd:=F.qR.ij;refine ⟨fun vs s'=>∃ j:Nat,vs=[.int .i64 (j:Nat)]/\Hl Lt Ge s a lo rest l x y s' l1 i j/\(i<=j->Lt (el l1 j) (el l1 x)),?_,?_⟩
  ·rintro ce eC ⟨j,hj,d,ao⟩;simp only [List.cons.injEq,AV.int.injEq,true_and,and_true] at hj;subst hj;have ch:=d.qR.jy;have am:=d.qR.ij;refine af.dec (fun G=>?_) (fun hle=>?_)
   ·refine d.arr.swap d.wf (by omega) (by omega) fun ci ba ck bb=>fin _ _ _ _ d (by omega) _ ba bb true
   ·have bc:i≠j:=by
     rintro rfl;have h1:=an (by omega);have h2:=ao (by omega);rw [Lt] at h2;rw [Ge,El.le] at h1;rw [h1] at h2;cases h2
    refine d.arr.swap d.wf (by omega) (by omega) fun bd be bh bi=>?_;have ar:Hl Lt Ge s a lo rest l x y bd (A_ l1 i j) (i+1) (j - 1):=⟨be,bh,.step d.sw ⟨by omega,by omega⟩ ⟨by omega,by omega⟩ (by omega),d.qR.swap (by omega) (by omega) (ao (by omega)) (an (by omega)),d.ew.trans bi⟩;refine ⟨fun vs s'=>∃ (i j:Nat) (l':List (El E.O)),vs=[.int .i64 (j:Nat)]/\j<i/\Hl Lt Ge s a lo rest l x y s' l' i j,?_,?_⟩
    ·rintro cl cm ⟨i',j',l',aw,a0,w⟩;simp only [List.cons.injEq,AV.int.injEq,true_and,and_true] at aw;subst aw;have:=w.qR.jy;have:=w.qR.xi;have:=w.sw.len;refine w.arr.swap w.wf (by omega) (by omega) fun cn bj cp bk=>fin _ _ _ _ w a0 _ bj bk false
    ·rw [jT (by omega),kD (by omega) (by omega)];refine ⟨fun m vs s'=>∃ (i j:Nat) (l':List (El E.O)),vs=[.int .i64 (i:Nat),.int .i64 (j:Nat)]/\m=j+1 - i/\Hl Lt Ge s a lo rest l x y s' l' i j,_,⟨i+1,j - 1,_,rfl,rfl,ar⟩,?_⟩;rintro m cr cs cu ⟨i2,j2,Q,H,rfl,z⟩;simp only [List.cons.injEq,AV.int.injEq,true_and,and_true] at H;obtain ⟨rfl,rfl⟩:=H;have cv:=z.sw.len;have cw:=z.qR.xi;have bs:=z.qR.jy;have H:=z.qR.ij;refine ⟨fun vs s'=>∃ (i:Nat),vs=[.int .i64 (i:Nat)]/\i2<=i/\Hl Lt Ge s a lo rest l x y s' Q i j2/\(i<=j2->Ge (el Q i) (el Q x)),?_,?_⟩
     ·rintro cx Iw ⟨i3,A,I,J,a1⟩;simp only [List.cons.injEq,AV.int.injEq,true_and,and_true] at A;subst A;have a3:=J.qR.xi;have bx:=J.qR.ij;refine ⟨fun vs s'=>∃ j:Nat,vs=[.int .i64 (j:Nat)]/\j<=j2/\Hl Lt Ge s a lo rest l x y s' Q i3 j/\(i3<=j->Lt (el Q j) (el Q x)),?_,?_⟩
      ·rintro cy cz ⟨j3,B,K,n,a4⟩;simp only [List.cons.injEq,AV.int.injEq,true_and,and_true] at B;subst B;have R:=n.qR.jy;have b0:=n.qR.ij;refine af.dec (fun G=>⟨i3,j3,Q,rfl,by omega,n⟩) (fun hle=>?_);have bc:i3≠j3:=by
        rintro rfl;have h1:=a1 (by omega);have h2:=a4 (by omega);rw [Lt] at h2;rw [Ge,El.le] at h1;rw [h1] at h2;cases h2
       refine n.arr.swap n.wf (by omega) (by omega) fun cA bl bm bo=>?_;rw [jT (by omega),kD (by omega) (by omega)];exact ⟨j3 - 1+1 - (i3+1),by omega,i3+1,j3 - 1,_,rfl,rfl,bl,bm,.step n.sw ⟨by omega,by omega⟩ ⟨by omega,by omega⟩ (by omega),n.qR.swap (by omega) (by omega) (a4 (by omega)) (a1 (by omega)),n.ew.trans bo⟩
      ·refine ⟨fun m vs s'=>∃ j:Nat,vs=[.int .i64 (j:Nat)]/\j<=j2/\m=2*j/\Hl Lt Ge s a lo rest l x y s' Q i3 j,2*j2,⟨j2,rfl,by omega,rfl,J⟩,?_⟩;rintro m cB cC ⟨j3,B,K,rfl,o⟩;simp only [List.cons.injEq,AV.int.injEq,true_and,and_true] at B;subst B;have R:=o.qR.jy;refine af.dec (fun hle=>?_) (fun G=>⟨j3,rfl,K,o,fun h=>by omega⟩);refine o.arr.cmp (by omega) (by omega) fun c0 a5 a6 a7=>af.mk (fun C=>?_) (fun C=>?_)
       ·have D:=L (by simpa using C);rw [kD (by omega) (by omega)];exact ⟨2*(j3 - 1),by omega,j3 - 1,rfl,by omega,rfl,o.to a5 a6 a7 (o.qR.right (by omega) D)⟩
       ·have D:=M (by simpa using C);exact ⟨j3,rfl,K,o.to a5 a6 a7 o.qR,fun _=>D⟩
     ·refine ⟨fun m vs s'=>∃ i:Nat,vs=[.int .i64 (i:Nat)]/\i2<=i/\m=y - i/\Hl Lt Ge s a lo rest l x y s' Q i j2,y - i2,⟨i2,rfl,by omega,rfl,z⟩,?_⟩;rintro m c1 b1 ⟨i3,A,I,rfl,e⟩;simp only [List.cons.injEq,AV.int.injEq,true_and,and_true] at A;subst A;have a3:=e.qR.xi;refine af.dec (fun hle=>?_) (fun G=>⟨i3,rfl,I,e,fun h=>by omega⟩);refine e.arr.cmp (by omega) (by omega) fun b2 S U W=>af.dec (fun C=>?_) (fun C=>?_)
      ·rw [jT (by omega)];exact ⟨y - (i3+1),by omega,i3+1,rfl,by omega,rfl,e.to S U W (e.qR.left (by omega) (M C))⟩
      ·exact ⟨i3,rfl,I,e.to S U W e.qR,fun _=>L C⟩
  ·rw [kD (by omega) (by omega)];refine ⟨fun m vs s'=>∃ j:Nat,vs=[.int .i64 (j:Nat)]/\m=2*j/\Hl Lt Ge s a lo rest l x y s' l1 i j,2*(y - 1),⟨y - 1,rfl,rfl,F⟩,?_⟩;rintro m b3 b4 ⟨j3,B,rfl,k⟩;simp only [List.cons.injEq,AV.int.injEq,true_and,and_true] at B;subst B;have R:=k.qR.jy;refine af.dec (fun hle=>?_) (fun G=>⟨j3,rfl,k,fun h=>by omega⟩);refine k.arr.cmp (by omega) (by omega) fun b5 X Y Z=>af.mk (fun C=>?_) (fun C=>?_)
   ·have D:=L (by simpa using C);rw [kD (by omega) (by omega)];exact ⟨2*(j3 - 1),by omega,j3 - 1,rfl,rfl,k.to X Y Z (k.qR.right (by omega) D)⟩
   ·have D:=M (by simpa using C);exact ⟨j3,rfl,k.to X Y Z k.qR,fun _=>D⟩
 ·rw [jT (by omega),kD (by omega) (by omega)];refine ⟨fun m vs s'=>∃ i:Nat,vs=[.int .i64 (i:Nat)]/\m=y - i/\Hl Lt Ge s a lo rest l x y s' (A_ l x p) i (y - 1),y - (x+1),⟨x+1,rfl,rfl,a8,a9,al,Ia.start (by omega),a'⟩,?_⟩;rintro m b6 b7 ⟨i3,A,rfl,c⟩;simp only [List.cons.injEq,AV.int.injEq,true_and,and_true] at A;subst A;have a3:=c.qR.xi;have c2:=c.sw.len;refine af.dec (fun hle=>?_) (fun G=>⟨i3,_,rfl,c,fun h=>by omega⟩);refine c.arr.cmp (by omega) (by omega) fun b8 ab ad ae=>af.dec (fun C=>?_) (fun C=>?_)
  ·rw [jT (by omega)];exact ⟨y - (i3+1),by omega,i3+1,rfl,rfl,c.to ab ad ae (c.qR.left (by omega) (M C))⟩
  ·exact ⟨i3,_,rfl,c.to ab ad ae c.qR,fun _=>L C⟩
end
section
variable {cf:FuncId} [qL E cf]
theorem Pw {s:AS} {a:AV} {lo:Nat} {l:List (El E.O)} {rest:List AV} {x y p:Nat} (h:jG s a lo l rest) (hp:x<=p/\p<y) (hy:y<=l.length) (hn:l.length<=2 ^ 40) :
  aa Tryz.prog E.gK [a,.int .i64 (x:Nat),.int .i64 (y:Nat),.int .i64 (p:Nat),.func cf []] s fun r s'=>∃ (i j:Nat) (l':List (El E.O)),r=.int .i64 (i:Nat)/\jG s' a lo l' rest/\Sw x y l l'/\Ia SJ SL l' x y i j/\j<i/\el l' x=el l p/\bD [lo] s s':=by
 refine aa.pre fun hw=>SQ.lC _ _ _ _ _ _ _ ?_;refine h.swap hw (by omega) (by omega) fun dw ad ae al=>?_;have I:Sw x y l (A_ l x p):=.step (.refl _) ⟨by omega,by omega⟩ hp hy;have J:el (A_ l x p) x=el l p:=by
  rw [lQ (by omega) (by omega)];split
  ·rename_i e;rw [e]
  ·rw [if_pos rfl]
 have K:∀ {u v:El E.O},¬ u.cmp v<0->SJ v u:=fun h=>El.vL (by rw [<- El.fM];exact h);have L:∀ {u v:El E.O},u.cmp v<0->SL v u:=fun h=>El.fM.1 h;rw [jT (by omega),kD (by omega) (by omega)];refine ⟨fun m vs s'=>∃ (i j:Nat) (l':List (El E.O)),vs=[.int .i64 (i:Nat),.int .i64 (j:Nat)]/\m=j+1 - i/\Hl SJ SL s a lo rest l x y s' l' i j/\el l' x=el l p,_,⟨x+1,y - 1,_,rfl,rfl,⟨ad,ae,I,Ia.start (by omega),al⟩,J⟩,?_⟩;rintro m a2 a3 eC ⟨i2,F,C,n,rfl,k,D⟩;simp only [List.cons.injEq,AV.int.injEq,true_and,and_true] at n;obtain ⟨rfl,rfl⟩:=n;have a4:=k.sw.len;have a5:=k.qR.xi;have aw:=k.qR.jy;have n:=k.qR.ij;refine ⟨fun vs s'=>∃ (i:Nat),vs=[.int .i64 (i:Nat)]/\i2<=i/\Hl SJ SL s a lo rest l x y s' C i F/\(i<=F->SL (el C i) (el C x)),?_,?_⟩
 ·rintro a6 gu ⟨i3,o,w,z,M⟩;simp only [List.cons.injEq,AV.int.injEq,true_and,and_true] at o;subst o;have am:=z.qR.xi;have a0:=z.qR.ij;refine ⟨fun vs s'=>∃ j:Nat,vs=[.int .i64 (j:Nat)]/\j<=F/\Hl SJ SL s a lo rest l x y s' C i3 j/\(i3<=j->SJ (el C j) (el C x)),?_,?_⟩
  ·rintro a7 a8 ⟨j3,A,B,b,Q⟩;simp only [List.cons.injEq,AV.int.injEq,true_and,and_true] at A;subst A;have R:=b.qR.jy;have a1:=b.qR.ij;refine af.dec (fun S=>⟨i3,j3,C,rfl,b.arr,b.sw,b.qR,by omega,D,b.ew⟩) (fun hle=>?_);have a9:i3≠j3:=by
    rintro rfl;have h1:=M (by omega);have h2:=Q (by omega);rw [SL] at h1;rw [SJ,El.le] at h2;rw [h2] at h1;cases h1
   refine b.arr.swap b.wf (by omega) (by omega) fun nV an ao ar=>?_;rw [jT (by omega),kD (by omega) (by omega)];exact ⟨j3 - 1+1 - (i3+1),by omega,i3+1,j3 - 1,_,rfl,rfl,⟨an,ao,.step b.sw ⟨by omega,by omega⟩ ⟨by omega,by omega⟩ (by omega),b.qR.swap (by omega) (by omega) (Q (by omega)) (M (by omega)),b.ew.trans ar⟩,by rw [lQ (by omega) (by omega),if_neg (by omega),if_neg (by omega)];exact D⟩
  ·refine ⟨fun m vs s'=>∃ j:Nat,vs=[.int .i64 (j:Nat)]/\j<=F/\m=2*j/\Hl SJ SL s a lo rest l x y s' C i3 j,2*F,⟨F,rfl,by omega,rfl,z⟩,?_⟩;rintro m a' ba ⟨j3,A,B,rfl,c⟩;simp only [List.cons.injEq,AV.int.injEq,true_and,and_true] at A;subst A;have R:=c.qR.jy;refine af.dec (fun hle=>?_) (fun S=>⟨j3,rfl,B,c,fun h=>by omega⟩);refine c.arr.cmp (by omega) (by omega) fun wu U W X=>af.dec (fun G=>?_) (fun G=>?_)
   ·rw [kD (by omega) (by omega)];exact ⟨2*(j3 - 1),by omega,j3 - 1,rfl,by omega,rfl,c.to U W X (c.qR.right (by omega) (L G))⟩
   ·exact ⟨j3,rfl,B,c.to U W X c.qR,fun _=>K G⟩
 ·refine ⟨fun m vs s'=>∃ i:Nat,vs=[.int .i64 (i:Nat)]/\i2<=i/\m=y - i/\Hl SJ SL s a lo rest l x y s' C i F,y - i2,⟨i2,rfl,by omega,rfl,k⟩,?_⟩;rintro m bb bc ⟨i3,o,w,rfl,d⟩;simp only [List.cons.injEq,AV.int.injEq,true_and,and_true] at o;subst o;have am:=d.qR.xi;refine af.dec (fun hle=>?_) (fun S=>⟨i3,rfl,w,d,fun h=>by omega⟩);refine d.arr.cmp (by omega) (by omega) fun bd Y Z ab=>af.mk (fun G=>?_) (fun G=>?_)
  ·have H:=K (by simpa using G);rw [jT (by omega)];exact ⟨y - (i3+1),by omega,i3+1,rfl,by omega,rfl,d.to Y Z ab (d.qR.left (by omega) H)⟩
  ·have H:=L (by simpa using G);exact ⟨i3,rfl,w,d.to Y Z ab d.qR,fun _=>H⟩
structure DV (s:AS) (a:AV) (lo:Nat) (rest:List AV) (l:List (El E.O)) (x y:Nat) (s':AS) (l':List (El E.O)):Prop where
 arr:jG s' a lo l' rest
 wf:aM s'
 sw:Sw x y l l'
 ew:bD [lo] s s'
theorem DV.to {s:AS} {a:AV} {lo:Nat} {rest:List AV} {l:List (El E.O)} {x y:Nat} {s' s'':AS} {l':List (El E.O)} (h:DV s a lo rest l x y s' l') (b:jG s'' a lo l' rest) (c:aM s'') (m:bD [lo] s' s''):DV s a lo rest l x y s'' l':=⟨b,c,h.sw,h.ew.trans m⟩
theorem DV.swap {s:AS} {a:AV} {lo:Nat} {rest:List AV} {l:List (El E.O)} {x y:Nat} {s' s'':AS} {l':List (El E.O)} {i j:Nat} (h:DV s a lo rest l x y s' l') (b:y<=l.length) (hi:x<=i/\i<y) (hj:x<=j/\j<y) (c:jG s'' a lo (A_ l' i j) rest) (d:aM s'') (m:bD [lo] s' s''):DV s a lo rest l x y s'' (A_ l' i j) :=
 ⟨c,d,.step h.sw hi hj (by rw [h.sw.len];exact b),h.ew.trans m⟩
theorem Rp {l:List (El E.O)} {x i:Nat} (h:Cv l x i) (c:x<i) (hle:(el l (i - 1)).le (el l i)):Cv l x (i+1):=by
 intro p q b h2 h3;by_cases e:q=i
 ·subst e;by_cases e2:p=q - 1
  ·rw [e2];exact hle
  ·exact El.le_trans (h p (q - 1) b (by omega) (by omega)) hle
 ·exact h p q b h2 (by omega)
theorem Rq {l l':List (El E.O)} {x y:Nat} (h:Sw x y l l') (b:0<x->∀ q,x<=q->q<y->(el l (x - 1)).le (el l q)):0<x->∀ q,x<=q->q<y->(el l' (x - 1)).le (el l' q):=by
 intro c q d h2;obtain ⟨j,hj,e⟩:=h.mem (k:=q) ⟨d,h2⟩;rw [h.out (.inl (by omega)),e];exact b c j hj.1 hj.2
theorem No {s:AS} {a:AV} {lo:Nat} {l:List (El E.O)} {rest:List AV} {x y:Nat} (h:jG s a lo l rest) (bd:x<y) (hy:y<=l.length) (hn:l.length<=2 ^ 40) (R:0<x->∀ q,x<=q->q<y->(el l (x - 1)).le (el l q)) :
  aa Tryz.prog E.eO [a,.int .i64 (x:Nat),.int .i64 (y:Nat),.func cf []] s fun r s'=>∃ (b:Bool) (l':List (El E.O)),r=.bool b/\DV s a lo rest l x y s' l'/\(b=true->Cv l' x y):=by
 have w0:aM s->DV s a lo rest l x y s l:=fun hw=>⟨h,hw,.refl _,bD.refl _ _⟩;refine aa.pre fun hw=>SQ.gQ _ _ _ _ _ _ ?_;rw [gP,jT (by omega)];refine ⟨fun m vs s'=>∃ (i k:Nat) (l':List (El E.O)),vs=[.int .i64 (i:Nat),.int .i64 (k:Nat)]/\k<=5/\m=5 - k/\x+1<=i/\i<=y/\DV s a lo rest l x y s' l'/\Cv l' x i,5,⟨x+1,0,l,rfl,by omega,rfl,by omega,by omega,w0 hw,fun p q _ _ _=>by omega⟩,?_⟩;rintro m n4 n5 s6 ⟨i0,k,l1,S,hk,rfl,an,ao,U,ar⟩;simp only [List.cons.injEq,AV.int.injEq,true_and,and_true] at S;obtain ⟨rfl,rfl⟩:=S;refine af.dec (fun bc=>?_) (fun _=>⟨false,l1,rfl,U,by simp⟩);refine ⟨fun vs s'=>∃ (i:Nat) (l':List (El E.O)),vs=[.int .i64 (i:Nat)]/\x+1<=i/\i<=y/\DV s a lo rest l x y s' l'/\Cv l' x i/\(i<y->(el l' i).lt (el l' (i - 1))=true),?_,?_⟩
 ·rintro n8 s9 ⟨i,l2,hi,F,G,n,W,g9⟩;simp only [List.cons.injEq,AV.int.injEq,true_and,and_true] at hi;subst hi;have be:=n.sw.len;refine af.mk (fun he=>?_) (fun aw=>?_)
  ·have:i=y:=by simp at he;omega
   subst this;exact ⟨true,l2,rfl,n,fun _=>W⟩
  have a0:i<y:=by simp at aw;omega
  rw [C6 (by omega) (by omega)];refine af.dec (fun _=>⟨false,l2,rfl,n,by simp⟩) (fun _=>?_);rw [kD (by omega) (by omega)];refine n.arr.swap n.wf (by omega) (by omega) fun gu a1 a2 a3=>?_;have z:=n.swap hy ⟨by omega,by omega⟩ ⟨by omega,by omega⟩ a1 a2 a3;have X:∀ p q,x<=p->p<q->q<=i - 1->q≠i - 1->(el (A_ l2 i (i - 1)) p).le (el (A_ l2 i (i - 1)) q):=by
   intro p q A h2 h3 h4;rw [lQ (by omega) (by omega),lQ (by omega) (by omega),if_neg (by omega),if_neg (by omega),if_neg (by omega),if_neg (by omega)];exact W p q A h2 (by omega)
  have next:∀ s' l',DV s a lo rest l x y s' l'->Cv l' x i->∃ m',m'<5 - k/\∃ (i' k':Nat) (l':List (El E.O)),[AV.int .i64 (i:Nat),.int .i64 (IntKind.wrap .i64 ((k:Int)+1))]=[.int .i64 (i':Nat),.int .i64 (k':Nat)]/\k'<=5/\m'=5 - k'/\x+1<=i'/\i'<=y/\DV s a lo rest l x y s' l'/\Cv l' x i' :=
   fun s' l' A h2=>⟨5 - (k+1),by omega,i,k+1,l',by rw [jT (by omega)],by omega,rfl,by omega,by omega,A,h2⟩
  refine ⟨fun vs s'=>∃ l',DV s a lo rest l x y s' l'/\Cv l' x i,?_,?_⟩
  ·rintro tD ⟨l3,B,C⟩;rw [C6 (by omega) (by omega)];refine af.dec (fun _=>?_) (fun _=>next _ _ B C);rw [jT (by omega)];refine ⟨fun m vs s'=>∃ (j:Nat) (l':List (El E.O)),vs=[.int .i64 (j:Nat)]/\i+1<=j/\m=y - j/\DV s a lo rest l x y s' l'/\Cv l' x i,y - (i+1),⟨i+1,l3,rfl,by omega,rfl,B,C⟩,?_⟩;rintro m bh bi ⟨j,H,hj,bj,rfl,d,o⟩;simp only [List.cons.injEq,AV.int.injEq,true_and,and_true] at hj;subst hj;have a4:=d.sw.len;refine af.dec (fun bk=>?_) (fun _=>next _ _ d o);rw [kD (by omega) (by omega)];refine d.arr.cmp (by omega) (by omega) fun nV I J Y=>af.mk (fun _=>next _ _ (d.to I J Y) o) (fun _=>?_);refine I.swap J (by omega) (by omega) fun wu a5 a6 a7=>?_;rw [jT (by omega)];refine ⟨y - (j+1),by omega,j+1,_,rfl,by omega,rfl,(d.to I J Y).swap hy ⟨by omega,by omega⟩ ⟨by omega,by omega⟩ a5 a6 a7,fun p q A h2 h3=>?_⟩;rw [lQ (by omega) (by omega),lQ (by omega) (by omega),if_neg (by omega),if_neg (by omega),if_neg (by omega),if_neg (by omega)];exact o p q A h2 h3
  ·rw [C6 (by omega) (by omega)];refine af.dec (fun h2=>?_) (fun h2=>⟨_,z,fun p q A h2 h3=>by omega⟩);refine ⟨fun m vs s'=>∃ (j:Nat) (l':List (El E.O)),vs=[.int .i64 (j:Nat)]/\x<=j/\j<=i - 1/\m=2*j/\DV s a lo rest l x y s' l'/\(∀ p q,x<=p->p<q->q<=i - 1->q≠j->(el l' p).le (el l' q)),2*(i - 1),⟨i - 1,_,rfl,by omega,by omega,rfl,z,X⟩,?_⟩;rintro m bl bm ⟨j,H,hj,a8,Z,rfl,c,D⟩;simp only [List.cons.injEq,AV.int.injEq,true_and,and_true] at hj;subst hj;have a4:=c.sw.len;have fin:∀ s',DV s a lo rest l x y s' H->(j=x\/(el H (j - 1)).le (el H j))->∃ l',DV s a lo rest l x y s' l'/\Cv l' x i:=by
    intro s' A h2;have:=H_ a8 Z h2 D;rw [show i - 1+1=i by omega] at this;exact ⟨H,A,this⟩
   refine af.dec (fun a9=>?_) (fun a9=>fin _ c (.inl (by omega)));rw [kD (by omega) (by omega)];refine c.arr.cmp (by omega) (by omega) fun bo K L ab=>af.mk (fun M=>fin _ (c.to K L ab) (.inr (El.vL (by rw [<- El.fM];simpa using M)))) (fun M=>?_);have Q:(el H j).lt (el H (j - 1))=true:=by rw [<- El.fM];simpa using M
   have ad:x<j:=by
    rcases Nat.lt_or_ge x j with h' | h'
    ·exact h'
    ·exfalso;obtain rfl:x=j:=by omega
     have:=Rq c.sw R (by omega) x (by omega) (by omega);rw [El.le] at this;rw [this] at Q;cases Q
   refine K.swap L (by omega) (by omega) fun bs a' ba bb=>?_;exact ⟨2*(j - 1),by omega,j - 1,_,rfl,by omega,by omega,rfl,(c.to K L ab).swap hy ⟨by omega,by omega⟩ ⟨by omega,by omega⟩ a' ba bb,Ku (by omega) ad Z Q D⟩
 ·refine ⟨fun m vs s'=>∃ (i:Nat),vs=[.int .i64 (i:Nat)]/\x+1<=i/\i<=y/\m=y - i/\DV s a lo rest l x y s' l1/\Cv l1 x i,y - i0,⟨i0,rfl,an,ao,rfl,U,ar⟩,?_⟩;rintro m bx b0 ⟨i,hi,F,G,rfl,e,w⟩;simp only [List.cons.injEq,AV.int.injEq,true_and,and_true] at hi;subst hi;have b1:=e.sw.len;refine af.dec (fun a0=>?_) (fun b2=>⟨i,l1,rfl,F,G,e,w,fun h=>by omega⟩);rw [kD (by omega) (by omega)];refine e.arr.cmp (by omega) (by omega) fun b3 ae al am=>af.mk (fun M=>?_) (fun M=>?_)
  ·rw [jT (by omega)];exact ⟨y - (i+1),by omega,i+1,rfl,by omega,by omega,rfl,e.to ae al am,Rp w (by omega) (El.vL (by rw [<- El.fM];simpa using M))⟩
  ·exact ⟨i,l1,rfl,F,G,e.to ae al am,w,fun _=>by rw [<- El.fM];simpa using M⟩
end
section
variable {cf:FuncId} [qL E cf]
noncomputable def Om (x:Nat):Bool:=match i_ T cE (.str [0,1,2,2,3,3,3,3,4,4,4,4,4,4,4,4,5,5,5,5,5,5,5,5,5,5,5,5,5,5,5,5,6,6,6,6,6,6,6,6,6,6,6,6,6,6,6,6,6,6,6,6,6,6,6,6,6,6,6,6,6,6,6,6,7,7,7,7,7,7,7,7,7,7,7,7,7,7,7,7,7,7,7,7,7,7,7,7,7,7,7,7,7,7,7,7,7,7,7,7,7,7,7,7,7,7,7,7,7,7,7,7,7,7,7,7,7,7,7,7,7,7,7,7,7,7,7,7,8,8,8,8,8,8,8,8,8,8,8,8,8,8,8,8,8,8,8,8,8,8,8,8,8,8,8,8,8,8,8,8,8,8,8,8,8,8,8,8,8,8,8,8,8,8,8,8,8,8,8,8,8,8,8,8,8,8,8,8,8,8,8,8,8,8,8,8,8,8,8,8,8,8,8,8,8,8,8,8,8,8,8,8,8,8,8,8,8,8,8,8,8,8,8,8,8,8,8,8,8,8,8,8,8,8,8,8,8,8,8,8,8,8,8,8,8,8,8,8,8,8,8,8,8,8,8,8]) (.int .u8 (IntKind.wrap .u8 (x:Nat))) with
 | some (.int .u8 k)=>decide (0<=k/\k<=8/\(x=0\/(x<2 ^ k.toNat/\2 ^ k.toNat<=2*x)))
 | _=>false
theorem Rr:(List.range 256).all Om=true:=by kernel_rfl
theorem Rt {x:Nat} (h:x<256):∃ k:Nat,i_ T cE (.str [0,1,2,2,3,3,3,3,4,4,4,4,4,4,4,4,5,5,5,5,5,5,5,5,5,5,5,5,5,5,5,5,6,6,6,6,6,6,6,6,6,6,6,6,6,6,6,6,6,6,6,6,6,6,6,6,6,6,6,6,6,6,6,6,7,7,7,7,7,7,7,7,7,7,7,7,7,7,7,7,7,7,7,7,7,7,7,7,7,7,7,7,7,7,7,7,7,7,7,7,7,7,7,7,7,7,7,7,7,7,7,7,7,7,7,7,7,7,7,7,7,7,7,7,7,7,7,7,8,8,8,8,8,8,8,8,8,8,8,8,8,8,8,8,8,8,8,8,8,8,8,8,8,8,8,8,8,8,8,8,8,8,8,8,8,8,8,8,8,8,8,8,8,8,8,8,8,8,8,8,8,8,8,8,8,8,8,8,8,8,8,8,8,8,8,8,8,8,8,8,8,8,8,8,8,8,8,8,8,8,8,8,8,8,8,8,8,8,8,8,8,8,8,8,8,8,8,8,8,8,8,8,8,8,8,8,8,8,8,8,8,8,8,8,8,8,8,8,8,8,8,8,8,8,8,8]) (.int .u8 (IntKind.wrap .u8 (x:Nat)))=some (.int .u8 (k:Nat))/\k<=8/\(x=0\/(x<2 ^ k/\2 ^ k<=2*x)):=by
 have:=List.all_eq_true.1 Rr x (List.mem_range.2 h);unfold Om at this;split at this
 ·rename_i k b;obtain ⟨c,h2,h3⟩:=of_decide_eq_true this;refine ⟨k.toNat,?_,by omega,h3⟩;rw [b,Int.toNat_of_nonneg c]
 ·cases this
theorem Np {x:Nat} (m:x<65536) (s:AS):aa Tryz.prog kK [.int .u64 (x:Nat)] s fun r s'=>∃ k:Nat,r=.int .i64 (k:Nat)/\k<=16/\(0<x->x<2 ^ k/\2 ^ k<=2*x)/\s'=s:=by
 refine CZ _ _ _ ?_
 suffices h:aa Tryz.prog lY [.int .u64 (x:Nat)] s fun r s'=>∃ k:Nat,r=.int .i64 (k:Nat)/\k<=16/\(0<x->x<2 ^ k/\2 ^ k<=2*x)/\s'=s from
  h.mono (by rintro r s' ⟨k,rfl,c,h2,rfl⟩;exact ⟨_,rfl,k,rfl,c,h2,rfl⟩)
 refine Ac _ _ _ ⟨fun vs s'=>vs=[.int .u64 (x:Nat),.int .i64 0]/\s'=s,?_,af.dec (fun h=>by omega) (fun _=>⟨rfl,rfl⟩)⟩;rintro n2 o s4 ⟨hv,rfl⟩;simp only [List.cons.injEq,AV.int.injEq,true_and,and_true] at hv;obtain ⟨rfl,rfl⟩:=hv;refine ⟨fun vs s'=>vs=[.int .u64 (x:Nat),.int .i64 0]/\s'=s4,?_,af.dec (fun h=>by omega) (fun _=>⟨rfl,rfl⟩)⟩;rintro p z s8 ⟨hv,rfl⟩;simp only [List.cons.injEq,AV.int.injEq,true_and,and_true] at hv;obtain ⟨rfl,rfl⟩:=hv;refine ⟨fun vs s'=>∃ y b:Nat,vs=[.int .u64 (y:Nat),.int .i64 (b:Nat)]/\y<256/\((b=0/\y=x)\/(b=8/\y=x / 256/\0<y))/\s'=s8,?_,af.dec (fun h=>⟨by decide,x / 256,8,?_,by omega,.inr ⟨rfl,rfl,by omega⟩,rfl⟩) (fun h=>⟨x,0,rfl,by omega,.inl ⟨rfl,rfl⟩,rfl⟩)⟩
 ·rintro d e dw ⟨y,b,hv,i,hb,rfl⟩;simp only [List.cons.injEq,AV.int.injEq,true_and,and_true] at hv;obtain ⟨rfl,rfl⟩:=hv;obtain ⟨k,j,c,h2⟩:=Rt i;refine ⟨_,j,b+k,?_,by omega,fun A=>?_,rfl⟩
  ·rw [aW (n:=(k:Int)) (by omega),aW (by omega)];rfl
  ·rcases hb with ⟨rfl,rfl⟩ | ⟨rfl,l,h3⟩
   ·rw [Nat.zero_add];omega
   ·rw [Nat.pow_add];rcases h2 with h2 | ⟨h2,h4⟩
    ·omega
    ·generalize 2 ^ k=w at h2 h4 ⊢;omega
 ·have:Int.fdiv (x:Int) (2 ^ min (Int.toNat 8) (IntKind.bits .u64))=((x / 256:Nat):Int):=by
   show Int.fdiv (x:Int) ((256:Nat):Int)=_;rw [Int.fdiv_eq_ediv_of_nonneg _ (by omega)];rfl
  rw [this];rfl
theorem Tk {x:Nat} (c:x<65536) (d:0<x) (s:AS):aa Tryz.prog gJ [.int .i64 (x:Nat)] s fun r s'=>∃ k:Nat,r=.int .u64 ((2 ^ k:Nat):Int)/\k<=16/\x<2 ^ k/\2 ^ k<=2*x/\s'=s:=by
 refine sU _ _ _ ?_;rw [lz,fy (by omega)];refine (Np c s).mono ?_;rintro r s' ⟨k,rfl,b,h2,rfl⟩;obtain ⟨h3,h4⟩:=h2 d;refine ⟨_,rfl,by omega,k,?_,b,h3,h4,rfl⟩;have e:min (Int.toNat (k:Int)) (IntKind.bits .u64)=k:=by
  rw [Int.toNat_natCast];exact Nat.min_eq_left (Nat.le_trans b (by decide))
 rw [e,Int.one_mul,fy]
 ·rw [Int.natCast_pow];rfl
 ·have:(2:Int) ^ k=((2 ^ k:Nat):Int):=by rw [Int.natCast_pow];rfl
  rw [this];omega
theorem Ru (n m:Int):∃ w:Int,bB .xor .u64 n m=some (.int .u64 w):=⟨_,rfl⟩
theorem aU.xor {n m:Int} {K:Int->Prop} (h:∀ w:Int,K w):aU .u64 (bB .xor .u64 n m) K:=⟨_,(Ru n m).choose_spec,h _⟩
theorem Rv {s:AS} {q:Nat} {b:AV} {w:Int} {K:AS->Prop} (c:aM s) (d:Am.Own s q [b]) (h:∀ s',Am.Own s' q [.int .u64 w]->aM s'->bD [q] s s'->K s'):ai (some (q,0)) fun l o=>bz (cR s l o [.int .u64 w]) K :=
 bz.own c d (by simp) fun s' P=>h s' P.at P.wf P.mut
theorem UW {s:AS} {q:Nat} {n:Int} {K:Int->Prop} (b:Am.Own s q [.int .u64 n]) (h:K n):ai (some (q,0)) fun l o=>aU .u64 (av s l o) K:=⟨n,by rw [b.at.av];rfl,h⟩
set_option maxRecDepth 100000 in
theorem Rw {s:AS} {q:Nat} {n:Int} (h:Am.Own s q [.int .u64 n]):aa Tryz.prog h_ [.ptr (some (q,0))] s fun r s'=>∃ m m':Int,r=.int .u64 m/\Am.Own s' q [.int .u64 m']/\bD [q] s s':=by
 refine aa.pre fun o=>uv _ _ _ ?_;refine UW h ?_;refine UW h ?_;refine ⟨by decide,?_⟩;refine aU.xor fun w=>?_
 try dsimp only
 refine Rv (w:=w) o h fun p b e i=>?_;refine UW b ?_;refine UW b ?_;refine ⟨by decide,?_⟩;refine aU.xor fun w=>?_
 try dsimp only
 refine Rv (w:=w) e b fun fN c j k=>?_;refine UW c ?_;refine UW c ?_;refine ⟨by decide,?_⟩;refine aU.xor fun w=>?_
 try dsimp only
 refine Rv (w:=w) j c fun x d y l=>?_;exact UW d ⟨_,_,rfl,d,(i.trans k).trans l⟩
theorem Px {n:Int} {k:Nat} (b:k<=16):∃ w:Nat,bB .and .u64 n (IntKind.wrap .u64 (((2 ^ k:Nat):Int) - 1))=some (.int .u64 (w:Nat))/\w<2 ^ k:=by
 have c:0<2 ^ k:=Nat.pow_pos (by omega);have h2:2 ^ k<=65536:=Nat.le_trans (Nat.pow_le_pow_right (by omega) b) (by decide);refine ⟨(BitVec.ofInt 64 n &&& BitVec.ofInt 64 (((2 ^ k - 1:Nat):Int))).toNat,?_,?_⟩
 ·rw [fy (by omega)];rw [show (((2 ^ k:Nat):Int) - 1)=((2 ^ k - 1:Nat):Int) by omega];have key:∀ z:BitVec 64,IntKind.wrap .u64 (z.toNat:Int)=(z.toNat:Int):=fun z=>fy ⟨by omega,by have:=z.isLt;omega⟩;exact congrArg (fun u=>some (AV.int .u64 u)) (key (BitVec.ofInt 64 n &&& BitVec.ofInt 64 (((2 ^ k - 1:Nat):Int))))
 ·rw [BitVec.toNat_and];have h3:=@Nat.and_le_right (BitVec.ofInt 64 n).toNat (BitVec.ofInt 64 (((2 ^ k - 1:Nat):Int))).toNat;have h4:(BitVec.ofInt 64 (((2 ^ k - 1:Nat):Int))).toNat=2 ^ k - 1:=by
   rw [BitVec.ofInt_natCast,BitVec.toNat_ofNat];exact Nat.mod_eq_of_lt (by omega)
  omega
theorem Rx {s:AS} {a:AV} {lo:Nat} {l:List (El E.O)} {rest:List AV} {x y:Nat} (h:jG s a lo l rest) (U:x<y) (W:y<=l.length) (hn:l.length<65536) :
  aa Tryz.prog E.ie [a,.int .i64 (x:Nat),.int .i64 (y:Nat),.func cf []] s fun r s'=>r=.aQ []/\∃ l',DV s a lo rest l x y s' l':=by
 refine aa.pre fun R=>SQ.mz _ _ _ _ _ _ ?_;have C:s.h lo≠none:=by obtain ⟨_,g,h2⟩:=h;rw [h2];simp
 rw [mw,C6 (by omega) (by omega)];refine af.dec (fun h8=>?_) (fun _=>⟨rfl,l,h,R,.refl _,bD.refl _ _⟩);refine ak.intro R rfl fun q s2 F=>bz.own F.wf F.own (by simp) fun s3 P=>?_;have X:Am.Own s3 q [_]:=P.at;have D:q≠lo:=by rintro rfl;exact C F.no
 have a3:jG s3 a lo l rest:=(h.ext F.ext).mut P.mut (by simp;exact fun e=>D e.symm);have Y:bD [lo] s s3:=⟨fun z o S j=>by
  have:=F.ext.1 z o j;exact P.mut.1 z o (by simp;rintro rfl;rw [F.no] at j;cases j) this,Nat.le_trans F.ext.2 P.mut.2⟩
 refine aa.use (Tk (x:=y - x) (by omega) (by omega) s3) ?_;rintro r s5 ⟨k,rfl,Z,ab,ad,rfl⟩ G;refine ⟨_,rfl,by decide,?_⟩;rw [show (4:Int)=((4:Nat):Int) by rfl,Ro,wid (by omega),show (((y - x) / 4:Nat):Int)*2=(((y - x) / 4*2:Nat):Int) by omega,wid (by omega),Nm (by omega),kD (by omega) (by omega),jT (by omega)];generalize hd:x+(y - x) / 4*2=d;refine ⟨fun m vs s'=>∃ (i:Nat) (l':List (El E.O)) (v:Int),vs=[.int .i64 (i:Nat)]/\d - 1<=i/\m=d+2 - i/\Am.Own s' q [.int .u64 v]/\DV s a lo rest l x y s' l',d+2 - (d - 1),⟨d - 1,l,_,rfl,by omega,rfl,X,a3,G,.refl _,Y⟩,?_⟩;rintro m ae al ⟨i,l1,v,hi,am,rfl,H,b⟩;simp only [List.cons.injEq,AV.int.injEq,true_and,and_true] at hi;subst hi;have an:=b.sw.len;refine ⟨by decide,af.dec (fun hle=>?_) (fun _=>⟨rfl,l1,b⟩)⟩;refine aa.use (Rw H) ?_;rintro r bQ ⟨w1,w2,rfl,I,p⟩ A;have J:jG bQ a lo l1 rest:=b.arr.mut p (by simp;exact fun e=>D e.symm);have K:bD [lo] s bQ:=⟨fun z o S j=>p.1 z o (by simp;rintro rfl;rw [F.no] at j;cases j) (b.ew.1 z o S j),Nat.le_trans b.ew.2 p.2⟩;have c:DV s a lo rest l x y bQ l1:=⟨J,A,b.sw,K⟩;obtain ⟨w,L,ao⟩:=Px (n:=w1) Z;refine ⟨_,rfl,_,L,?_⟩;show bt _;rw [wid (by omega)];refine ⟨fun vs s'=>s'=bQ/\∃ t:Nat,vs=[.int .i64 (t:Nat)]/\t<y - x,?_,af.dec (fun ar=>⟨rfl,w - (y - x),by rw [C6 (by omega) (by omega)],by omega⟩) (fun aw=>⟨rfl,w,rfl,by omega⟩)⟩;rintro a0 iV ⟨rfl,t,ht,a1⟩;simp only [List.cons.injEq,AV.int.injEq,true_and,and_true] at ht;subst ht;rw [Nm (by omega)];refine c.arr.swap c.wf (by omega) (by omega) fun mP M Q B=>?_;rw [jT (by omega)];exact ⟨d+2 - (i+1),by omega,i+1,_,_,rfl,by omega,rfl,I.mut B (by simpa using D),c.swap W ⟨by omega,by omega⟩ ⟨by omega,by omega⟩ M Q B⟩
end
section
variable {cf:FuncId} [qL E cf]
theorem On {L b:List Nat} {s s':AS} (h:bD L s s') (hs:∀ x∈L,x∈b):bD b s s':=⟨fun x o c d=>h.1 x o (fun hm=>c (hs x hm)) d,h.2⟩
structure Ct (s:AS) (a:AV) (lo:Nat) (l:List (El E.O)) (rest:List AV) (q:Nat) (s':AS):Prop where
 ne:q≠lo
 own:∃ c:Int,Am.Own s' q [.int .i64 c]
 arr:jG s' a lo l rest
 wf:aM s'
 ew:bD [q,lo] s s'
section
variable {s s0:AS} {a:AV} {lo:Nat} {l:List (El E.O)} {rest:List AV} {q:Nat}
theorem BM (h:Ct s0 a lo l rest q s) {x y:Nat} (m:x<l.length) (n:y<l.length) :
  aa Tryz.prog E.iC [a,.int .i64 (x:Nat),.int .i64 (y:Nat),.ptr (some (q,0)),.func cf []] s fun r s'=>∃ u v:Nat,r=.aQ [.int .i64 (u:Nat),.int .i64 (v:Nat)]/\(u=x\/u=y)/\(v=x\/v=y)/\Ct s0 a lo l rest q s':=by
 refine SQ.u0 _ _ _ _ _ _ _ ?_;refine h.arr.cmp n m fun s8 d i j=>?_;obtain ⟨c,o⟩:=h.own;have b:Am.Own s8 q _:=o.mut j (by simpa using h.ne);have k:bD [q,lo] s0 s8:=h.ew.trans (On j (by simp));refine af.dec (fun _=>?_) (fun _=>⟨x,y,rfl,.inl rfl,.inr rfl,h.ne,⟨c,b⟩,d,i,k⟩);refine ⟨c,by rw [b.at.av];rfl,bz.own i b (by simp) fun gr P=>⟨y,x,rfl,.inr rfl,.inl rfl,h.ne,⟨_,P.at⟩,d.mut P.mut (by simp;exact fun e=>h.ne e.symm),P.wf,k.trans (On P.mut (by simp))⟩⟩
theorem Ho (h:Ct s0 a lo l rest q s) {x y z:Nat} (c:x<l.length) (d:y<l.length) (e:z<l.length) :
  aa Tryz.prog E.kM [a,.int .i64 (x:Nat),.int .i64 (y:Nat),.int .i64 (z:Nat),.ptr (some (q,0)),.func cf []] s fun r s'=>∃ u:Nat,r=.int .i64 (u:Nat)/\(u=x\/u=y\/u=z)/\Ct s0 a lo l rest q s':=by
 refine SQ.uZ _ _ _ _ _ _ _ _ ?_;refine (BM h c d).mono ?_;rintro r s2 ⟨B,C,rfl,i,j,h2⟩;refine ⟨_,_,rfl,(BM h2 (by omega) e).mono ?_⟩;rintro r s6 ⟨D,F,rfl,k,m,n⟩;refine ⟨_,_,rfl,(BM n (by omega) (by omega)).mono ?_⟩;rintro r o ⟨G,p,rfl,w,A,b⟩;exact ⟨_,_,rfl,p,rfl,by omega,b⟩
theorem BN (h:Ct s0 a lo l rest q s) {x:Nat} (c:1<=x) (d:x+1<l.length) (e:l.length<65536) :
  aa Tryz.prog E.dH [a,.int .i64 (x:Nat),.ptr (some (q,0)),.func cf []] s fun r s'=>∃ u:Nat,r=.int .i64 (u:Nat)/\(x<=u+1/\u<=x+1)/\Ct s0 a lo l rest q s':=by
 refine SQ.lD _ _ _ _ _ _ ?_;rw [lA,kD (by omega) (by omega),jT (by omega)];refine (Ho h (by omega) (by omega) (by omega)).mono ?_;rintro r s' ⟨u,rfl,hu,b⟩;exact ⟨_,rfl,u,rfl,by omega,b⟩
theorem Py {x y:Nat} (h:jG s a lo l rest) (K:x<y) (W:y<=l.length) (e:l.length<65536) :
  aa Tryz.prog E.jC [a,.int .i64 (x:Nat),.int .i64 (y:Nat),.func cf []] s fun r s'=>∃ (p:Nat) (t:Int),r=.aQ [.int .i64 (p:Nat),.int .i64 t]/\(x<=p/\p<y)/\jG s' a lo l rest/\bD [lo] s s':=by
 have m:s.h lo≠none:=by obtain ⟨_,g,h2⟩:=h;rw [h2];simp
 refine aa.pre fun L=>SQ.oI _ _ _ _ _ _ (ak.intro L rfl fun q s2 F=>⟨by decide,by decide,by decide,?_⟩);have M:q≠lo:=by rintro rfl;exact m F.no
 have c2:Ct s2 a lo l rest q s2:=⟨M,⟨_,F.own⟩,h.ext F.ext,F.wf,bD.refl _ _⟩;have back:∀ s',Ct s2 a lo l rest q s'->bD [lo] s s':=fun s' c=>⟨fun z o O n=>c.ew.1 z o (by
  simp only [List.mem_cons,List.not_mem_nil,or_false,not_or];exact ⟨(by rintro rfl;rw [F.no] at n;cases n),by simpa using O⟩) (F.ext.1 z o n),Nat.le_trans F.ext.2 c.ew.2⟩
 have w:∀ k:Nat,k<=3->IntKind.wrap .i64 ((x:Int)+IntKind.wrap .i64 (IntKind.wrap .i64 (Int.tdiv (IntKind.wrap .i64 ((y:Int) - (x:Int))) 4)*((k:Nat):Int)))=((x+(y - x) / 4*k:Nat):Int):=by
  intro k A;have hm:(y - x) / 4*k<=(y - x) / 4*3:=Nat.mul_le_mul_left _ A;rw [C6 (by omega) (by omega),show (4:Int)=((4:Nat):Int) by rfl,Ro,wid (by omega),<- Int.natCast_mul,wid (by omega),Nm (by omega)]
 have w1:=w 1 (by omega);have w2:=w 2 (by omega);have I:=w 3 (by omega);simp only [Int.natCast_one,show ((2:Nat):Int)=2 by rfl,show ((3:Nat):Int)=3 by rfl] at w1 w2 I;rw [w1,w2,I,C6 (by omega) (by omega)];refine ⟨fun vs s'=>∃ p:Nat,vs=[.int .i64 (p:Nat)]/\(x<=p/\p<y)/\Ct s2 a lo l rest q s',?_,af.dec (fun X=>?_) (fun _=>⟨_,rfl,by omega,c2⟩)⟩
 ·rintro Y Z ⟨p,J,b,d⟩;simp only [List.cons.injEq,AV.int.injEq,true_and,and_true] at J;subst J;obtain ⟨c,o⟩:=d.own;refine ⟨c,by rw [o.at.av];rfl,?_⟩;refine af.mk (fun _=>⟨p,_,rfl,b,d.arr,back _ d⟩) (fun _=>af.mk (fun _=>⟨p,_,rfl,b,d.arr,back _ d⟩) (fun _=>⟨p,_,rfl,b,d.arr,back _ d⟩))
 ·refine ⟨fun vs s'=>∃ i j k:Nat,vs=[.int .i64 (i:Nat),.int .i64 (j:Nat),.int .i64 (k:Nat)]/\(x<=i/\i<y)/\(x<=j/\j<y)/\(x<=k/\k<y)/\Ct s2 a lo l rest q s',?_,af.dec (fun Q=>?_) (fun _=>⟨_,_,_,rfl,by omega,by omega,by omega,c2⟩)⟩
  ·rintro n8 n9 R S ⟨i,j,k,hv,hi,hj,A,B⟩;simp only [List.cons.injEq,AV.int.injEq,true_and,and_true] at hv;obtain ⟨rfl,rfl,rfl⟩:=hv;refine (Ho B (by omega) (by omega) (by omega)).mono ?_;rintro r bQ ⟨u,rfl,hu,C⟩;exact ⟨_,rfl,u,rfl,by omega,C⟩
  ·refine (BN c2 (by omega) (by omega) e).mono ?_;rintro r U ⟨i,rfl,hi,D⟩;refine ⟨_,rfl,(BN D (by omega) (by omega) e).mono ?_⟩;rintro r iV ⟨j,rfl,hj,G⟩;refine ⟨_,rfl,(BN G (by omega) (by omega) e).mono ?_⟩;rintro r gh ⟨k,rfl,A,H⟩;exact ⟨_,rfl,i,j,k,rfl,by omega,by omega,by omega,H⟩
end
end
section
variable {cf:FuncId} [qL E cf]
structure Gd (s:AS) (a:AV) (lo:Nat) (rest:List AV) (l:List (El E.O)) (x y:Nat) (s':AS) (l':List (El E.O)) (c d:Nat):Prop where
 st:DV s a lo rest l x y s' l'
 ar:iI l' x y c d
 xc:x<=c
 cd:c<=d
 dy:d<=y
section
variable {s:AS} {a:AV} {lo:Nat} {rest:List AV} {l:List (El E.O)} {x y:Nat}
theorem Gd.sub {s' s'':AS} {l' l'':List (El E.O)} {c d c' b:Nat} (h:Gd s a lo rest l x y s' l' c d) (e:y<=l.length) (i:jG s'' a lo l'' rest) (j:aM s'') (hs:Sw c' b l' l'') (m:bD [lo] s' s'') (k:c<=c') (hd:b<=d):DV s a lo rest l x y s'' l'' :=
 ⟨i,j,h.st.sw.trans (hs.Ui (Nat.le_trans h.xc k) (Nat.le_trans hd h.dy) (by rw [h.st.sw.len];exact e)),h.st.ew.trans m⟩
theorem Gd.perm {s' s'':AS} {l' l'':List (El E.O)} {c d:Nat} (h:Gd s a lo rest l x y s' l' c d) (b:y<=l.length) (e:jG s'' a lo l'' rest) (i:aM s'') (hs:Sw c d l' l'') (m:bD [lo] s' s''):Gd s a lo rest l x y s'' l'' c d :=
 ⟨h.sub b e i hs m (Nat.le_refl _) (Nat.le_refl _),h.ar.sw h.xc h.dy hs,h.xc,h.cd,h.dy⟩
theorem Gd.to {s' s'':AS} {l':List (El E.O)} {c d:Nat} (h:Gd s a lo rest l x y s' l' c d) (b:jG s'' a lo l' rest) (e:aM s'') (m:bD [lo] s' s''):Gd s a lo rest l x y s'' l' c d :=
 ⟨h.st.to b e m,h.ar,h.xc,h.cd,h.dy⟩
theorem Gd.low {s':AS} {l':List (El E.O)} {c d:Nat} (h:Gd s a lo rest l x y s' l' c d) (b:0<x->∀ q,x<=q->q<y->(el l (x - 1)).le (el l q)):0<c->∀ q,c<=q->q<d->(el l' (c - 1)).le (el l' q):=by
 intro i q j h2;have:=h.xc;have:=h.dy;by_cases e:c=x
 ·subst e;exact Rq h.st.sw b i q j (by omega)
 ·exact h.ar (c - 1) q (by omega) (by omega) (by omega) (.inl (by omega))
end
theorem UX {a:AV} {lo:Nat} {rest:List AV}:∀ (n:Nat) {s:AS} {l:List (El E.O)} {x y:Nat} (U:Int),y - x=n->jG s a lo l rest->x<=y->y<=l.length->l.length<65536->(0<x->∀ q,x<=q->q<y->(el l (x - 1)).le (el l q)) ->
  aa Tryz.prog E.fE [a,.int .i64 (x:Nat),.int .i64 (y:Nat),.int .i64 U,.func cf []] s fun r s'=>r=.aQ []/\∃ l',DV s a lo rest l x y s' l'/\Cv l' x y:=by
 intro n
 induction n using Nat.strongRecOn with
 | _ n IH =>
 intro s l x y U hn h b9 L hl B;refine aa.pre fun hw=>SQ.nJ _ _ _ _ _ _ _ ⟨fun m vs s'=>∃ (c d:Nat) (li:Int) (b1 b2:Bool) (l':List (El E.O)),vs=[.int .i64 (c:Nat),.int .i64 (d:Nat),.int .i64 li,.bool b1,.bool b2]/\m=d - c/\Gd s a lo rest l x y s' l' c d,y - x,⟨x,y,U,true,true,l,rfl,rfl,⟨h,hw,.refl _,bD.refl _ _⟩,iI.start _ _ _,by omega,by omega,by omega⟩,?_⟩;rintro m n4 n5 n6 b7 b8 s9 ⟨c,d,li,b1,b2,l1,hv,rfl,C⟩;simp only [List.cons.injEq,AV.int.injEq,AV.bool.injEq,true_and,and_true] at hv;obtain ⟨rfl,rfl,rfl,rfl,rfl⟩:=hv;have W:=C.xc;have a5:=C.cd;have X:=C.dy;have b':=C.st.sw.len;rw [C6 (by omega) (by omega)];refine af.dec (fun a6=>?_) (fun a6=>af.mk (fun _=>?_) (fun _=>?_))
 ·refine aa.use (Nl C.st.arr a5 (by omega) (by omega)) ?_;rintro r a7 ⟨rfl,Y,Z,D,F,ab⟩ ad;have G:=C.perm L Z ad D ab;exact ⟨rfl,rfl,Y,G.st,G.ar.VO F⟩
 ·refine aa.use (Lj C.st.arr (by omega) (by omega) (by omega)) ?_;rintro r a7 ⟨rfl,Y,Z,D,F,ab⟩ ad;have G:=C.perm L Z ad D ab;exact ⟨rfl,rfl,Y,G.st,G.ar.VO F⟩
 have w:c<d:=by omega
 refine ⟨fun vs s'=>∃ (li:Int) (l':List (El E.O)),vs=[.int .i64 li]/\Gd s a lo rest l x y s' l' c d,?_,af.mk (fun _=>?_) (fun _=>⟨_,l1,rfl,C⟩)⟩
 ·rintro ca cb ⟨cc,Y,hv,ae⟩;simp only [List.cons.injEq,AV.int.injEq,true_and,and_true] at hv;subst hv;have ce:=ae.st.sw.len;refine aa.use (Py ae.st.arr w (by omega) (by omega)) ?_;rintro r eC ⟨p,t,rfl,hp,a8,a9⟩ a';have al:=ae.to a8 a' a9;refine ⟨_,_,rfl,fun vs s'=>∃ (p:Nat) (t:Int) (l':List (El E.O)),vs=[.int .i64 (p:Nat),.int .i64 t]/\(c<=p/\p<d)/\Gd s a lo rest l x y s' l' c d,?_,af.mk (fun _=>?_) (fun _=>⟨p,t,Y,rfl,hp,al⟩)⟩
  ·rintro ch ci ba ⟨p,t,l3,hv,hp,H⟩;simp only [List.cons.injEq,AV.int.injEq,true_and,and_true] at hv;obtain ⟨rfl,rfl⟩:=hv;refine ⟨fun vs s'=>∃ l',Gd s a lo rest l x y s' l' c d,?_,?_⟩
   ·rintro ck ⟨l4,M⟩;have cl:=M.st.sw.len;refine ⟨fun vs s'=>∃ b,vs=[.bool b]/\Gd s a lo rest l x y s' l4 c d/\(b=true->0<c/\(el l4 p).le (el l4 (c - 1))),?_,?_⟩
    ·rintro cm cn ⟨b,hv,Q,hb⟩;simp only [List.cons.injEq,AV.bool.injEq,and_true] at hv;subst hv;refine af.mk (fun bc=>?_) (fun _=>?_)
     ·obtain ⟨a1,hle⟩:=hb bc;refine aa.use (Pw Q.st.arr hp (by omega) (by omega)) ?_;rintro r mP ⟨i,j,l5,rfl,bd,R,z,be,a2,bh⟩ bi;have am:=Q.perm L bd bi R bh;have cp:=z.xi;have cr:=z.jy;have cs:=z.ij;refine ⟨_,rfl,d - i,by omega,i,d,_,_,_,l5,rfl,rfl,am.st,am.ar.equal W X z be (fun k h1 h2=>?_),by omega,by omega,by omega⟩;rw [a2];refine El.le_trans hle ?_;have:=am.low B a1 k h1 h2;rw [R.out (.inl (by omega))] at this;exact this
     ·refine aa.use (IU Q.st.arr hp (by omega) (by omega)) ?_;rintro r j8 ⟨S,bb,l5,rfl,an,a3,o,bj⟩ bk;have A:=Q.perm L an bk a3 bj;have bl:=o.xm;have cu:=o.my;have cv:=A.st.sw.len;have ao:=A.low B;refine ⟨_,_,rfl,by decide,?_⟩;rw [jT (by omega)];refine af.mk (fun _=>?_) (fun _=>?_)
      ·refine aa.use (IH (S - c) (by omega) (s:=j8) (l:=l5) (x:=c) (y:=S) _ rfl an bl (by omega) (by omega) (fun h0 q h1 h2=>ao h0 q h1 (by omega))) ?_;rintro r bm ⟨rfl,l6,e,I⟩ aw;refine ⟨rfl,d - (S+1),by omega,S+1,d,_,_,_,l6,rfl,rfl,A.sub L e.arr aw e.sw e.ew (Nat.le_refl _) (by omega),A.ar.right W X o e.sw I,by omega,by omega,by omega⟩
      ·refine aa.use (IH (d - (S+1)) (by omega) (s:=j8) (l:=l5) (x:=S+1) (y:=d) _ rfl an (by omega) (by omega) (by omega) (fun h0 q h1 h2=>by
        rw [Nat.add_sub_cancel];exact o.ge q (by omega) h2)) ?_
       rintro r bm ⟨rfl,l6,e,I⟩ aw;refine ⟨rfl,S - c,by omega,c,S,_,_,_,l6,rfl,rfl,A.sub L e.arr aw e.sw e.ew (by omega) (Nat.le_refl _),A.ar.left W X o e.sw I,by omega,by omega,by omega⟩
    ·refine af.dec (fun a1=>?_) (fun _=>⟨false,rfl,M,by simp⟩);rw [kD (by omega) (by omega)];refine M.st.arr.cmp (by omega) (by omega) fun cw bo bs bx=>⟨_,rfl,M.to bo bs bx,fun hb=>⟨by omega,?_⟩⟩;exact El.vL (by rw [<- El.fM];simpa using hb)
   ·refine ⟨fun vs s'=>∃ b,vs=[.bool b]/\s'=ba,?_,af.mk (fun _=>af.mk (fun _=>⟨_,rfl,rfl⟩) (fun _=>⟨_,rfl,rfl⟩)) (fun _=>⟨_,rfl,rfl⟩)⟩;rintro cx cy ⟨b,hv,rfl⟩;simp only [List.cons.injEq,AV.bool.injEq,and_true] at hv;subst hv;have cz:=H.st.sw.len;refine af.mk (fun _=>?_) (fun _=>⟨l3,H⟩);refine aa.use (No H.st.arr w (by omega) (by omega) (H.low B)) ?_;rintro r cA ⟨b,l4,rfl,J,hs⟩ b0;have a0:=H.perm L J.arr b0 J.sw J.ew;exact ⟨_,rfl,af.mk (fun hb=>⟨rfl,l4,a0.st,a0.ar.VO (hs hb)⟩) (fun _=>⟨l4,a0⟩)⟩
  ·refine aa.use (Nn al.st.arr w (by omega) (by omega)) ?_;rintro r cB ⟨rfl,l3,b3,a4,b4⟩ b5;rw [kD (by omega) (by omega),C6 (by omega) (by omega),C6 (by omega) (by omega)];exact ⟨rfl,d - 1 - (p - c),1,l3,rfl,by omega,al.perm L b3 b5 a4 b4⟩
 ·refine aa.use (Rx C.st.arr w (by omega) (by omega)) ?_;rintro r cC ⟨rfl,Y,K⟩ b6;exact ⟨rfl,_,Y,rfl,C.perm L K.arr b6 K.sw K.ew⟩
theorem Tm {s:AS} {a:AV} {lo:Nat} {rest:List AV} {l:List (El E.O)} (h:jG s a lo l rest) (b:l.length<65536) :
  aa Tryz.prog E.uw [a,.func cf []] s fun r s'=>r=.aQ []/\∃ l',jG s' a lo l' rest/\l'.Perm l/\Cv l' 0 l'.length/\bD [lo] s s':=by
 refine SQ.yK _ _ _ _ ?_;have hlen:aO T E.ys a s=some (.int .i64 (l.length:Nat)):=by
  obtain ⟨⟨c,e,rfl⟩,_⟩:=h;simp [aO,E.us]
 refine ⟨_,hlen,?_⟩;dsimp only;rw [fy (by omega)];refine aa.use (Np b s) ?_;rintro r s3 ⟨k,rfl,_,_,rfl⟩ i;refine ⟨_,rfl,?_⟩;refine (UX (l.length - 0) (x:=0) (y:=l.length) k rfl h (by omega) (by omega) b (by omega)).mono ?_;rintro r s6 ⟨rfl,l',st,d⟩;exact ⟨rfl,rfl,l',st.arr,st.sw.perm,by rw [st.sw.len];exact d,st.ew⟩
end
section
theorem Nq {cf:FuncId} {a:Option (Nat×Nat)} (s:AS):aa Tryz.prog E.fu [.slc a 0 0 true,.int .i64 0,.int .i64 0,.func cf []] s fun r s'=>r=.aQ []/\s'=s:=by
 refine SQ.ig _ _ _ _ _ _ ⟨fun m vs s'=>vs=[.int .i64 1]/\s'=s,0,⟨rfl,rfl⟩,?_⟩;rintro m n b ⟨hi,rfl⟩;simp only [List.cons.injEq,AV.int.injEq,true_and,and_true] at hi;subst hi;exact af.no (by decide) ⟨rfl,rfl⟩
theorem Nr {cf:FuncId} {a:Option (Nat×Nat)} (s:AS) (b:Int):aa Tryz.prog E.fE [.slc a 0 0 true,.int .i64 0,.int .i64 0,.int .i64 b,.func cf []] s fun r s'=>r=.aQ []/\s'=s:=by
 refine SQ.nJ _ _ _ _ _ _ _ ⟨fun m vs s'=>vs=[.int .i64 0,.int .i64 0,.int .i64 b,.bool true,.bool true]/\s'=s,0,⟨rfl,rfl⟩,?_⟩;rintro m d e i j k c ⟨hi,rfl⟩;simp only [List.cons.injEq,AV.int.injEq,AV.bool.injEq,true_and,and_true] at hi;obtain ⟨rfl,rfl,rfl,rfl,rfl⟩:=hi;refine af.yes (by decide) ?_;refine aa.use (Nq c) ?_;rintro r s' ⟨rfl,rfl⟩ _;exact ⟨rfl,rfl,rfl⟩
theorem Lk {cf:FuncId} {a:Option (Nat×Nat)} (s:AS):aa Tryz.prog E.uw [.slc a 0 0 true,.func cf []] s fun r s'=>r=.aQ []/\s'=s:=by
 refine SQ.yK _ _ _ _ ?_;have hlen:aO T E.ys (.slc a 0 0 true) s=some (.int .i64 0):=by simp [aO,E.us]
 refine ⟨_,hlen,?_⟩;dsimp only;rw [show IntKind.wrap .u64 (0:Int)=((0:Nat):Int) from fy (by omega)];refine aa.use (Np (by omega) s) ?_;rintro r s3 ⟨k,rfl,_,_,rfl⟩ b;refine ⟨_,rfl,?_⟩;refine aa.use (Nr _ _) ?_;rintro r s6 ⟨rfl,rfl⟩ _;exact ⟨rfl,rfl,rfl⟩
def Ns (s0 s:AS) (v:AV) (l:List (El E.O)):Prop:=Ext s0 s/\((l=[]/\∃ a,v=.slc a 0 0 true)\/∃ la,v=.slc (some (la,0)) l.length l.length false/\jG s v la l []/\s0.h la=none)
variable {cf:FuncId} [qL E cf]
theorem yO {s0 s:AS} {v:AV} {l:List (El E.O)} {sz:Nat} (g:aT E.cC sz [] s0 s v l) (m:l.length<65536) :
  aa Tryz.prog E.uw [v,.func cf []] s fun r s'=>r=.aQ []/\∃ l',l'.Perm l/\Cv l' 0 l'.length/\Ns s0 s' v l':=by
 have b:Ext s0 s:=g.ew.ext;rcases g.u6 with ⟨rfl,a,rfl⟩ | ⟨la,rfl,n⟩
 ·refine (Lk s).mono ?_;rintro r s' ⟨rfl,rfl⟩;exact ⟨rfl,[],.refl _,fun i j w h2 h3=>by simp at h3,b,.inl ⟨rfl,a,rfl⟩⟩
 ·have p:jG s (.slc (some (la,0)) l.length l.length false) la l []:=⟨⟨_,_,rfl⟩,sz,by simpa using n⟩;have e:s0.h la=none:=g.new la (by simp [ay]);refine (Tm p m).mono ?_;rintro r s' ⟨rfl,l',c,k,hs,m'⟩;refine ⟨rfl,l',k,hs,⟨fun x o d=>m'.1 x o (by simp only [List.mem_singleton];rintro rfl;rw [e] at d;cases d) (b.1 x o d),Nat.le_trans b.2 m'.2⟩,.inr ⟨la,by rw [k.length_eq],c,e⟩⟩
end
end Go.Proofs.YtohgmogbabkkeaaGreat.SG
end
