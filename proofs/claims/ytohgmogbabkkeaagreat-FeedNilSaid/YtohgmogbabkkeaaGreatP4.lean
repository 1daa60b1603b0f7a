/-
  A part of O4 proof: an abstract machine Bo O4 model, and qi of qj of this program Bo it.
-/
import Derived.Test.YtohgmogbabkkeaaGreatProg
import Derived.KernelRfl
import Derived.Test.YtohgmogbabkkeaaGreatP3
set_option linter.unusedVariables false
set_option linter.unusedSimpArgs false
set_option linter.unusedSectionVars false
section
namespace Go.Proofs.YtohgmogbabkkeaaGreat
open Go.Am
noncomputable def T:TT:=TT.of Tryz.prog
theorem hT:TT.Ok Tryz.prog T:=TT.VQ _
theorem bW:Tryz.prog.follows .mixedOrders=true:=by kernel_rfl
end Go.Proofs.YtohgmogbabkkeaaGreat
end

section
namespace Go.Proofs.YtohgmogbabkkeaaGreat
open Go.Am
abbrev oT:Nat:=11
abbrev r8:Nat:=12
abbrev ki:Nat:=13
abbrev eY:Nat:=14
abbrev nu:Nat:=15
abbrev lU:Nat:=16
abbrev dw:Nat:=17
abbrev dL:Nat:=18
abbrev cZ:Nat:=19
abbrev fQ:Nat:=20
abbrev eF:Nat:=21
abbrev lV:Nat:=22
abbrev oC:Nat:=24
abbrev oZ:Nat:=25
abbrev pU:Nat:=27
abbrev gK:Nat:=28
abbrev kR:Nat:=29
abbrev wz:Nat:=33
abbrev fR:Nat:=36
abbrev kj:Nat:=44
abbrev wA:Nat:=61
abbrev kS:Nat:=63
abbrev jV:Nat:=64
abbrev nv:Nat:=65
abbrev yN:Nat:=66
abbrev ny:Nat:=67
abbrev cX:Nat:=68
abbrev o_:Nat:=69
abbrev aT:Nat:=70
abbrev bH:Nat:=71
abbrev cP:Nat:=72
abbrev bE:Nat:=73
abbrev cQ:Nat:=74
abbrev bX:Nat:=75
abbrev fS:Nat:=76
abbrev eG:Nat:=77
abbrev di:Nat:=78
abbrev bQ:Nat:=79
abbrev bJ:Nat:=80
abbrev r_:Nat:=81
abbrev cT:Nat:=82
abbrev fI:Nat:=83
abbrev dg:Nat:=84
abbrev g_:Nat:=87
abbrev rG:Nat:=88
abbrev jl:Nat:=89
abbrev dF:Nat:=90
abbrev wB:Nat:=91
abbrev eO:Nat:=92
abbrev bY:Nat:=93
abbrev gL:Nat:=94
abbrev lW:Nat:=95
abbrev qC:Nat:=96
abbrev pe:Nat:=97
abbrev yO:Nat:=98
abbrev rH:Nat:=99
abbrev pV:Nat:=100
abbrev uz:Nat:=101
abbrev lX:Nat:=102
abbrev ee:Nat:=104
abbrev jW:Nat:=105
abbrev jq:Nat:=108
abbrev pg:Nat:=109
abbrev dA:Nat:=111
abbrev iE:Nat:=112
abbrev aF:Nat:=113
abbrev fW:Nat:=114
abbrev iN:Nat:=117
abbrev nA:Nat:=118
abbrev dM:Nat:=121
abbrev eP:Nat:=124
abbrev ax:Nat:=126
abbrev cL:Nat:=127
abbrev BE:Nat:=146
abbrev s_:Nat:=148
abbrev eR:Nat:=149
abbrev lY:Nat:=150
abbrev lZ:Nat:=151
abbrev dQ:Nat:=152
abbrev kL:Nat:=153
abbrev jX:Nat:=154
abbrev nB:Nat:=155
abbrev bf:Nat:=156
abbrev bp:Nat:=157
abbrev fE:Nat:=158
abbrev nC:Nat:=159
abbrev wC:Nat:=160
abbrev sg:Nat:=161
abbrev h_:Nat:=163
abbrev ic:Nat:=164
abbrev jr:Nat:=165
abbrev wD:Nat:=166
abbrev yP:Nat:=167
abbrev eH:Nat:=168
abbrev wE:Nat:=169
abbrev bC:Nat:=170
abbrev l_:Nat:=172
abbrev wF:Nat:=173
abbrev nD:Nat:=174
abbrev pn:Nat:=175
abbrev kM:Nat:=177
abbrev kk:Nat:=178
abbrev aO:Nat:=179
abbrev eD:Nat:=180
abbrev bZ:Nat:=185
abbrev eu:Nat:=189
abbrev iP:Nat:=191
abbrev fj:Nat:=192
abbrev pW:Nat:=207
abbrev pq:Nat:=208
abbrev pX:Nat:=209
abbrev uA:Nat:=210
abbrev yQ:Nat:=211
abbrev si:Nat:=212
abbrev ef:Nat:=213
abbrev sj:Nat:=214
abbrev nE:Nat:=215
abbrev uB:Nat:=216
abbrev jt:Nat:=217
abbrev yR:Nat:=218
abbrev wG:Nat:=219
abbrev ct:Nat:=220
abbrev fX:Nat:=221
abbrev ju:Nat:=222
abbrev mb:Nat:=223
abbrev uC:Nat:=224
abbrev bw:Nat:=225
abbrev cJ:Nat:=226
abbrev sk:Nat:=227
abbrev mg:Nat:=237
abbrev jL:Nat:=238
abbrev gF:Nat:=239
abbrev dB:Nat:=245
abbrev oD:Nat:=246
abbrev pz:Nat:=247
abbrev fk:Nat:=248
abbrev jY:Nat:=255
abbrev eS:Nat:=256
abbrev nH:Nat:=257
abbrev uD:Nat:=258
abbrev qD:Nat:=259
abbrev wH:Nat:=260
abbrev mh:Nat:=261
abbrev pO:Nat:=262
abbrev ek:Nat:=263
abbrev mj:Nat:=264
abbrev gM:Nat:=266
abbrev ie:Nat:=267
abbrev kT:Nat:=272
abbrev oE:Nat:=273
abbrev kU:Nat:=274
abbrev mo:Nat:=275
abbrev lJ:Nat:=276
abbrev iF:Nat:=277
abbrev ko:Nat:=278
abbrev nI:Nat:=279
abbrev fJ:Nat:=280
abbrev qE:Nat:=291
abbrev uE:Nat:=292
abbrev nJ:Nat:=293
abbrev yS:Nat:=294
abbrev rI:Nat:=295
abbrev sn:Nat:=296
abbrev fA:Nat:=297
abbrev aE:Nat:=298
abbrev gn:Nat:=299
abbrev mq:Nat:=300
abbrev q9:Nat:=301
abbrev oF:Nat:=303
abbrev kq:Nat:=304
abbrev pY:Nat:=305
abbrev fY:Nat:=306
abbrev rJ:Nat:=307
abbrev pZ:Nat:=313
end Go.Proofs.YtohgmogbabkkeaaGreat
end

section
namespace Go.Proofs.YtohgmogbabkkeaaGreat
open Go.Am
abbrev tg:Nat:=3
abbrev vM:Nat:=4
abbrev rK:Nat:=5
abbrev cE:Nat:=9
abbrev sq:Nat:=20
abbrev gG:Nat:=22
abbrev nZ:Nat:=28
abbrev aq:Nat:=30
abbrev dG:Nat:=32
abbrev jx:Nat:=33
abbrev bS:Nat:=37
abbrev iG:Nat:=40
abbrev yp:Nat:=41
abbrev oG:Nat:=45
abbrev iH:Nat:=47
abbrev c_:Nat:=48
abbrev aY:Nat:=49
abbrev bR:Nat:=50
abbrev ig:Nat:=52
abbrev oH:Nat:=69
abbrev wI:Nat:=71
abbrev BF:Nat:=72
abbrev aG:Nat:=84
abbrev az:Nat:=85
abbrev lA:Nat:=87
abbrev sr:Nat:=93
abbrev qG:Nat:=100
abbrev aB:Nat:=128
abbrev rL:Nat:=130
abbrev MZ:Nat:=133
abbrev a_:Nat:=138
abbrev mT:Nat:=140
abbrev qH:Nat:=144
abbrev fl:Nat:=155
abbrev n_:Nat:=157
abbrev su:Nat:=165
abbrev sx:Nat:=167
abbrev vi:Nat:=170
abbrev b_:Nat:=184
abbrev bK:Nat:=185
abbrev oI:Nat:=187
abbrev nK:Nat:=189
abbrev C4:Nat:=203
abbrev eo:Nat:=205
abbrev gq:Nat:=240
abbrev fm:Nat:=247
abbrev z3:Nat:=270
abbrev cj:Nat:=271
abbrev eJ:Nat:=285
abbrev dH:Nat:=286
abbrev fZ:Nat:=290
abbrev fF:Nat:=341
theorem OA:T.cR tg=some (.int .i64):=by kernel_rfl
theorem Hs:T.eU tg=some 1:=by kernel_rfl
theorem Io:T.rY tg=some (.int .i64 0):=by kernel_rfl
theorem UU:T.agg tg=some false:=by kernel_rfl
theorem Ux:T.cR vM=some (.bool):=by kernel_rfl
theorem z4:T.cR rK=some (.int .u8):=by kernel_rfl
theorem ey:T.eU rK=some 1:=by kernel_rfl
theorem Ip:T.Gb rK=some 1:=by kernel_rfl
theorem EU:T.rY rK=some (.int .u8 0):=by kernel_rfl
theorem qI:T.cR cE=some (.string):=by kernel_rfl
theorem Pv:T.agg cE=some false:=by kernel_rfl
theorem rM:T.cR gG=some (.slice tg):=by kernel_rfl
theorem og:T.cR nZ=some (.pointer rL):=by kernel_rfl
theorem aL:T.cR aq=some (.slice rK):=by kernel_rfl
theorem qq:T.eU aq=some 1:=by kernel_rfl
theorem Pw:T.Gb aq=some 24:=by kernel_rfl
theorem EV:T.rY aq=some (.slc none 0 0 true):=by kernel_rfl
theorem C5:T.cR dG=some (.slice nZ):=by kernel_rfl
theorem Ru:T.cR jx=some (.int .u64):=by kernel_rfl
theorem jz:T.eU jx=some 1:=by kernel_rfl
theorem Rv:T.Gb jx=some 8:=by kernel_rfl
theorem Px:T.rY jx=some (.int .u64 0):=by kernel_rfl
theorem BG:T.agg jx=some false:=by kernel_rfl
theorem eK:T.cR bS=some (.slice ig):=by kernel_rfl
theorem xH:T.eU bS=some 1:=by kernel_rfl
theorem iI:T.cR iG=some (.pointer sx):=by kernel_rfl
theorem yq:T.cR yp=some (.pointer oI):=by kernel_rfl
theorem jR:T.eU iH=some 2:=by kernel_rfl
theorem Us:T.Gb iH=some 16:=by kernel_rfl
theorem M4:T.rY iH=some (.agg [.int .i64 0,.int .u64 0]):=by kernel_rfl
theorem UW:T.agg iH=some true:=by kernel_rfl
theorem Iq:T.cR c_=some (.array 16 jx):=by kernel_rfl
theorem wJ:T.cR aY=some (.array 16 jx):=by kernel_rfl
theorem tj:T.eU aY=some 16:=by kernel_rfl
theorem Rw:T.Gb aY=some 128:=by kernel_rfl
theorem Py:T.rY aY=some (.agg [.int .u64 0,.int .u64 0,.int .u64 0,.int .u64 0,.int .u64 0,.int .u64 0,.int .u64 0,.int .u64 0,.int .u64 0,.int .u64 0,.int .u64 0,.int .u64 0,.int .u64 0,.int .u64 0,.int .u64 0,.int .u64 0]):=by kernel_rfl
theorem fK:T.cR bR=some (.slice wI):=by kernel_rfl
theorem Rx:T.eU bR=some 1:=by kernel_rfl
theorem z5:T.eU ig=some 21:=by kernel_rfl
theorem Tt:T.Gb ig=some 208:=by kernel_rfl
theorem KJ:T.rY ig=some (.agg [.int .i64 0,.int .u64 0,.str [],.slc none 0 0 true,.int .u64 0,.int .u64 0,.int .u64 0,.int .u64 0,.int .u64 0,.int .u64 0,.int .u64 0,.int .u64 0,.int .u64 0,.int .u64 0,.int .u64 0,.int .u64 0,.int .u64 0,.int .u64 0,.int .u64 0,.int .u64 0,.slc none 0 0 true]):=by kernel_rfl
theorem UX:T.rY oH=some (.agg [.str [],.str []]):=by kernel_rfl
theorem BH:T.eU wI=some 3:=by kernel_rfl
theorem UY:T.Gb wI=some 32:=by kernel_rfl
theorem Tu:T.rY wI=some (.agg [.int .i64 0,.int .u64 0,.str []]):=by kernel_rfl
theorem cW:T.cR aG=some (.slice qG):=by kernel_rfl
theorem KK:T.eU aG=some 1:=by kernel_rfl
theorem bF:T.cR az=some (.slice iH):=by kernel_rfl
theorem z6:T.eU az=some 1:=by kernel_rfl
theorem Ry:T.agg az=some false:=by kernel_rfl
theorem rN:T.cR lA=some (.pointer nK):=by kernel_rfl
theorem Ir:T.cR sr=some (.array 32 rK):=by kernel_rfl
theorem pA:T.eU qG=some 5:=by kernel_rfl
theorem UZ:T.Gb qG=some 56:=by kernel_rfl
theorem Tv:T.rY qG=some (.agg [.int .i64 0,.int .u64 0,.str [],.str [],.bool false]):=by kernel_rfl
theorem gr:T.cR aB=some (.map cE fl):=by kernel_rfl
theorem Is:T.rY rL=some (.agg [.slc none 0 0 true,.map none]):=by kernel_rfl
theorem dN:T.cR a_=some (.slice aY):=by kernel_rfl
theorem qJ:T.eU a_=some 1:=by kernel_rfl
theorem vj:T.cR fl=some (.pointer n_):=by kernel_rfl
theorem BI:T.rY fl=some (.ptr none):=by kernel_rfl
theorem EW:T.rY n_=some (.agg [.int .u64 0,.int .u64 0,.int .u64 0,.int .u64 0,.int .u64 0,.int .u64 0,.int .u64 0,.int .u64 0,.int .u64 0,.int .u64 0,.int .u64 0,.int .u64 0,.int .u64 0,.int .u64 0,.int .u64 0,.int .u64 0,.int .i64 0,.slc none 0 0 true]):=by kernel_rfl
theorem yu:T.cR su=some (.map iH ig):=by kernel_rfl
theorem C6:T.cR vi=some (.pointer gq):=by kernel_rfl
theorem wK:T.cR b_=some (.map iH oH):=by kernel_rfl
theorem It:T.agg b_=some false:=by kernel_rfl
theorem jS:T.cR bK=some (.map iH eo):=by kernel_rfl
theorem Iu:T.rY oI=some (.agg [.ptr none,.map none,.map none]):=by kernel_rfl
theorem M5:T.rY nK=some (.agg [.int .u64 0,.int .u64 0,.int .u64 0,.int .u64 0,.int .u64 0,.int .u64 0,.int .u64 0,.int .u64 0,.int .u64 0,.int .u64 0,.int .u64 0,.int .u64 0,.int .u64 0,.int .u64 0,.int .u64 0,.int .u64 0,.slc none 0 0 true,.bool false]):=by kernel_rfl
theorem wL:T.rY eo=some (.agg [.bool false]):=by kernel_rfl
theorem EX:T.rY gq=some (.agg [.slc none 0 0 true,.bool false,.bool false]):=by kernel_rfl
theorem jA:T.cR fm=some (.slice jx):=by kernel_rfl
theorem EY:T.eU z3=some 1:=by kernel_rfl
theorem Pz:T.agg z3=some false:=by kernel_rfl
theorem CO:T.cR cj=some (.array 8 z3):=by kernel_rfl
theorem nL:T.cR eJ=some (.slice aq):=by kernel_rfl
theorem Iw:T.cR dH=some (.array 64 z3):=by kernel_rfl
theorem rO:T.cR fZ=some (.array 64 rK):=by kernel_rfl
theorem KL:T.cR fF=some (.array 2 jx):=by kernel_rfl
end Go.Proofs.YtohgmogbabkkeaaGreat
end

section
set_option maxRecDepth 100000
set_option maxHeartbeats 4000000
namespace Go.Proofs.YtohgmogbabkkeaaGreat
open Go.Am
def Gh  (s:AS) (R:AV->AS->Prop):Prop :=
 aa Tryz.prog ki [] s fun v1 s2=>∃ d:Option (Nat×Nat),∃ b4:Bool,v1=.aP [.ptr d,.bool b4]/\(af (!b4) (R (.bool false) s2) (aa Tryz.prog eY [.ptr d,(.str [116]),(.str [97])] s2 fun v5 s6=>∃ b7:Bool,v5=.bool b7/\(af (!b7) (R (.bool false) s6) (aa Tryz.prog dw [.ptr d,(.str [116])] s6 fun v8 s9=>∃ k:Bool,v8=.bool k/\(af (!k) (R (.bool false) s9) (aa Tryz.prog dw [.ptr d,(.str [116])] s9 fun v11 dI=>∃ l:Bool,v11=.bool l/\(af (!l)
 (R (.bool false) dI)
 (aa Tryz.prog lU [] dI fun y gu=>aa Tryz.prog nu [y] gu fun nM lK=>∃ c:Option (Nat×Nat),nM=.ptr c/\(aa Tryz.prog dL [.ptr c,(.str [97]),.slc none 0 0 true] lK fun z gi=>∃ m:Int,z=.int .i64 m/\(ah d fun A B=>ng (av gi A B) fun C=>ah d fun D F=>ng (av gi D (F+1)) fun G=>aa Tryz.prog cZ [.ptr c,(.str [97]),.int .i64 5,.ptr C,.ptr G] gi fun H I=>∃ v30:AV,∃ n:Int,H=.aP [v30,.int .i64 n]/\(aa Tryz.prog fQ [.ptr c,(.str [97]),.int .i64 1] I fun J K=>∃ e:AV,∃ o:Int,J=.aP [e,.int .i64 o]/\(aa Tryz.prog eF [.ptr c,(.str [97])] K fun L mK=>∃ p:AV,∃ r:Int,L=.aP [p,.int .i64 r]/\(aa Tryz.prog dL [.ptr c,(.str [97]),e] mK fun xN i=>∃ w:Int,xN=.int .i64 w/\(ah d fun M O=>ng (av i M O) fun Q=>ah d fun S U=>ng (av i S (U+1)) fun W=>aa Tryz.prog cZ [.ptr c,(.str [97]),.int .i64 5,.ptr Q,.ptr W] i fun X b=>∃ j:AV,∃ x:Int,X=.aP [j,.int .i64 x]/\(af ((m:Int)==0) (af ((n:Int)==0) (af ((o:Int)==0) (af ((r:Int)==0) (af ((w:Int)==0) (af ((x:Int)==0) (aV .i64 (aQ T bS v30 b) fun Y=>af ((Y:Int)==2) (FY ((cO T aq cE e b).map (·.1)) fun Z=>FY ((cO T aq cE p b).map (·.1)) fun ab=>af ((Z:List UInt8)==ab) (aV .i64 (aQ T bS j b) fun ad=>af ((ad:Int)==1) (bG (ag T bS j (.int .i64 0)) fun ae al=>aV .u64 (av b ae (al+1)) fun am=>R (.bool ((am:Int)==2)) b) (R (.bool false) b)) (R (.bool false) b)) (R (.bool false) b)) (R (.bool false) b)) (R (.bool false) b)) (R (.bool false) b)) (R (.bool false) b)) (R (.bool false) b)) (R (.bool false) b))))))))))))))))
def Gi:QA:=(.seq .leaf (.seq .leaf (.seq (.seq .leaf (.cond (.seq .leaf .leaf) .leaf)) (.seq .leaf (.seq .leaf (.seq .calm (.seq .leaf (.seq .leaf (.seq .leaf (.seq .calm (.seq .leaf .leaf)))))))))))
theorem Gj  (s:AS) (R:AV->AS->Prop) (h:Gh  s R):aa Tryz.prog r8 [] s R :=
 aa.q (n:=125) (rs:=[.tmp 0]) (A:=Gi) hT bW Tryz.func12 (by kernel_rfl) rfl rfl rfl (by kernel_rfl) (by kernel_rfl) h
def Gk  (s:AS) (R:AV->AS->Prop):Prop :=
 aa Tryz.prog yN [.int .i64 3,.int .i64 1] s fun n s2=>∃ j:Option (Nat×Nat),∃ k:Int,n=.aP [.ptr j,.int .i64 k]/\(aa Tryz.prog wA [] s2 fun o s6=>∃ l:Option (Nat×Nat),o=.ptr l/\(oS (aS T mT [(0,.int .i64 3),(1,.int .i64 1)]) fun m=>cH m (aj (.cells m 0 false) s6 fun p d=>oS (aS T qH []) fun b=>cH b (aj (.cells b 0 false) d fun qZ bP=>oS (aS T oG [(0,.ptr j),(1,.ptr l),(2,(.ptr (some (p,0)))),(3,(.ptr (some (qZ,0))))]) fun c=>cH c (aj (.cells c 0 false) bP fun e i=>R (.aP [(.ptr (some (e,0))),(.bool ((k:Int)==0))]) i)))))
def Gl:QA:=(.seq .leaf (.seq .leaf (.seq .leaf .leaf)))
theorem Gm  (s:AS) (R:AV->AS->Prop) (h:Gk  s R):aa Tryz.prog ki [] s R :=
 aa.q (n:=18) (rs:=[.tmp 0,.tmp 1]) (A:=Gl) hT bW Tryz.func13 (by kernel_rfl) rfl rfl rfl (by kernel_rfl) (by kernel_rfl) h
def tn (a0:Option (Nat×Nat)) (a1:List UInt8) (a2:List UInt8) (s:AS) (R:AV->AS->Prop):Prop :=
 ah a0 fun l1 o2=>ng (av s l1 (o2+3)) fun Y=>ah Y fun Z o5=>aa Tryz.prog ny [(.ptr (some (Z,o5))),.int .i64 1] s fun v6 s7=>∃ U:Int,v6=.int .u64 U/\(oS (aS T iH [(0,.int .i64 1),(1,(.int .u64 (IntKind.wrap .u64 (U+1))))]) fun W=>aj (.cells [.int .i64 0,.int .u64 0] 0 false) s7 fun mL z=>fh (some 2) W (bt (cK z mL 0 W) fun dI=>sR dI fun X C c S V=>ah a0 fun lC m=>(∀ bP:AS,X dI bP->aM bP->ah a0 fun q_ A=>(((.ptr (some (q_,A))):AV)=(.ptr (some (lC,m)))))/\(ng (av dI lC (m+1)) fun b=>(∀ eE:AS,X dI eE->aM eE->ng (av eE lC (m+1)) fun B=>(((.ptr B):AV)=(.ptr b)))/\(oS (aS T oH [(0,.str a1),(1,.str a2)]) fun e=>aR (aD dI mL 0 2) fun d=>(∀ fP:AS,X dI fP->aM fP->aR (aD fP mL 0 2) fun D=>(((.agg D):AV)=(.agg d)))/\((∀ dW:AS,X dI dW->aM dW->(True)->c dW->aa Tryz.prog cX [.ptr b,.agg e,.agg d] dW fun F n=>∃ k:AV,∃ l:Int,F=.aP [k,.int .i64 l]/\(((X dW n/\C 8 [(.func cX []),.ptr b,.agg e,.agg d] (.aP [k,.int .i64 l]) n)/\S 8 [(.func cX []),.ptr b,.agg e,.agg d] (.aP [k,.int .i64 l]) n/\V 8 [(.func cX []),.ptr b,.agg e,.agg d] (.aP [k,.int .i64 l]))))/\(∃ v,V 8 [(.func cX []),.ptr b,.agg e,.agg d] v)/\∀ v30:AV,V 8 [(.func cX []),.ptr b,.agg e,.agg d] v30->∃ o:AV,∃ i:Int,v30=.aP [o,.int .i64 i]/\(∀ j:AS,X dI j->aM j->(S 8 [(.func cX []),.ptr b,.agg e,.agg d] (.aP [o,.int .i64 i]) j/\True)->C 8 [(.func cX []),.ptr b,.agg e,.agg d] (.aP [o,.int .i64 i]) j->bz fun p =>
 (∀ r:Bool,∀ jZ:AS,p [.bool r] jZ ->
 af r
 (R (.bool ((i:Int)==2)) jZ)
 (ah a0 fun G H=>ng (av jZ G (H+3)) fun I=>oS (aS T oH [(0,.str a1),(1,.str a2)]) fun J=>aR (aD jZ mL 0 2) fun K=>aa Tryz.prog o_ [.ptr I,.agg J,.agg K] jZ fun ab L=>R (.bool ((i:Int)==0)) L)) /\
 (aa Tryz.prog pU [.str a1] j fun M w=>∃ x:Bool,M=.bool x/\(af (!x) (p [.bool true] w) (aa Tryz.prog pU [.str a2] w fun O Q=>∃ y:Bool,O=.bool y/\(p [(.bool (!y))] Q))))))))))
def tr:QA:=(.seq .leaf (.seq .leaf (.seq (.ve [0,1,2,3,4,5,6,7,8,9,10,11,12] [13] [[],[],[],[],[],[],[],[],[],[],[],[],[]] [8] [8]) (.seq (.join [(38,.bool)] [(31,38)] .leaf (.cond (.seq .leaf .leaf) .leaf)) (.seq (.draw 8) (.seq .leaf .leaf))))))
theorem tu (a0:Option (Nat×Nat)) (a1:List UInt8) (a2:List UInt8) (s:AS) (R:AV->AS->Prop) (h:tn a0 a1 a2 s R):aa Tryz.prog eY [.ptr a0,.str a1,.str a2] s R :=
 aa.q (n:=52) (rs:=[.tmp 6]) (A:=tr) hT bW Tryz.func14 (by kernel_rfl) rfl rfl rfl (by kernel_rfl) (by kernel_rfl) h
def EZ  (s:AS) (R:AV->AS->Prop):Prop :=
 aR (cV T aq 10 [(0,.int .u8 98),(1,.int .u8 101),(2,.int .u8 116),(3,.int .u8 119),(4,.int .u8 101),(5,.int .u8 101),(6,.int .u8 110),(7,.int .u8 32),(8,.int .u8 117),(9,.int .u8 115)]) fun b=>aj (.cells b 1 false) s fun c s3=>iD (cO T aq aq (.slc (some (c,0)) 10 10 true) s3) fun d e=>R d e
def E0:QA:=(.seq .leaf (.seq .leaf .leaf))
theorem E1  (s:AS) (R:AV->AS->Prop) (h:EZ  s R):aa Tryz.prog lU [] s R :=
 aa.q (n:=3) (rs:=[.tmp 0]) (A:=E0) hT bW Tryz.func16 (by kernel_rfl) rfl rfl rfl (by kernel_rfl) (by kernel_rfl) h
def vr (a0:Option (Nat×Nat)) (a1:List UInt8) (s:AS) (R:AV->AS->Prop):Prop :=
 sR s fun X C c S V=>ah a0 fun l2 o3=>(∀ s1:AS,X s s1->aM s1->ah a0 fun l4 o5=>(((.ptr (some (l4,o5))):AV)=(.ptr (some (l2,o3)))))/\(ng (av s l2 o3) fun n=>(∀ s6:AS,X s s6->aM s6->ng (av s6 l2 o3) fun p8=>(((.ptr p8):AV)=(.ptr n)))/\(ah a0 fun mL B=>(∀ s9:AS,X s s9->aM s9->ah a0 fun qZ an=>(((.ptr (some (qZ,an))):AV)=(.ptr (some (mL,B)))))/\(ng (av s mL (B+1)) fun e=>(∀ D:AS,X s D->aM D->ng (av D mL (B+1)) fun ao=>(((.ptr ao):AV)=(.ptr e)))/\((∀ lK:AS,X s lK->aM lK->(True)->aa Tryz.prog cP [.ptr e,.str a1] lK fun Q gz=>(Ext lK gz/\S 10 [(.func cP []),.ptr e,.str a1] Q gz/\V 10 [(.func cP []),.ptr e,.str a1] Q))/\(∃ v,V 10 [(.func cP []),.ptr e,.str a1] v)/\∀ v20:AV,V 10 [(.func cP []),.ptr e,.str a1] v20->(∀ fL:AS,X s fL->aM fL->(S 10 [(.func cP []),.ptr e,.str a1] v20 fL/\True)->c fL->aa Tryz.prog bH [.ptr n,.str a1,.slc none 0 0 true,v20] fL fun ap tW=>∃ o:List AV,∃ p:Int,ap=.aP [.agg o,.int .i64 p]/\(((X fL tW/\C 11 [(.func bH []),.ptr n,.str a1,.slc none 0 0 true,v20] (.aP [.agg o,.int .i64 p]) tW)/\S 11 [(.func bH []),.ptr n,.str a1,.slc none 0 0 true,v20] (.aP [.agg o,.int .i64 p]) tW/\V 11 [(.func bH []),.ptr n,.str a1,.slc none 0 0 true,v20] (.aP [.agg o,.int .i64 p]))))/\(∃ v,V 11 [(.func bH []),.ptr n,.str a1,.slc none 0 0 true,v20] v)/\∀ U:AV,V 11 [(.func bH []),.ptr n,.str a1,.slc none 0 0 true,v20] U->∃ l:List AV,∃ r:Int,U=.aP [.agg l,.int .i64 r]/\((∀ w:AS,X s w->aM w->(True)->aj (.cells [.int .i64 0,.int .u64 0,.str [],.slc none 0 0 true,.int .u64 0,.int .u64 0,.int .u64 0,.int .u64 0,.int .u64 0,.int .u64 0,.int .u64 0,.int .u64 0,.int .u64 0,.int .u64 0,.int .u64 0,.int .u64 0,.int .u64 0,.int .u64 0,.int .u64 0,.int .u64 0,.slc none 0 0 true] 0 false) w fun W mu=>(Ext w mu/\S 15 [] (.ptr (some (W,0))) mu/\V 15 [] (.ptr (some (W,0)))))/\(∃ v,V 15 [] v)/\∀ Y:AV,V 15 [] Y->∃ F:Option (Nat×Nat),Y=.ptr F/\(∀ kr:AS,X s kr->aM kr->(S 10 [(.func cP []),.ptr e,.str a1] v20 kr/\(S 11 [(.func bH []),.ptr n,.str a1,.slc none 0 0 true,v20] (.aP [.agg l,.int .i64 r]) kr/\(S 15 [] (.ptr F) kr/\True)))->C 11 [(.func bH []),.ptr n,.str a1,.slc none 0 0 true,v20] (.aP [.agg l,.int .i64 r]) kr->ah F fun ar aw=>fh (some 21) l (bt (cK kr ar aw l) fun mK=>sR mK fun X C c S V=>ah a0 fun G H=>(∀ Z:AS,X mK Z->aM Z->ah a0 fun a2 a3=>(((.ptr (some (a2,a3))):AV)=(.ptr (some (G,H)))))/\(ng (av mK G (H+2)) fun d=>(∀ I:AS,X mK I->aM I->ng (av I G (H+2)) fun a4=>(((.ptr a4):AV)=(.ptr d)))/\(ah a0 fun J K=>(∀ tw:AS,X mK tw->aM tw->ah a0 fun a5 a6=>(((.ptr (some (a5,a6))):AV)=(.ptr (some (J,K)))))/\(ng (av mK J (K+3)) fun i=>(∀ L:AS,X mK L->aM L->ng (av L J (K+3)) fun a7=>(((.ptr a7):AV)=(.ptr i)))/\((∀ x:AS,X mK x->aM x->(True)->aa Tryz.prog cQ [.ptr i,.str a1] x fun ab ad=>(Ext x ad/\S 10 [(.func cQ []),.ptr i,.str a1] ab ad/\V 10 [(.func cQ []),.ptr i,.str a1] ab))/\(∃ v,V 10 [(.func cQ []),.ptr i,.str a1] v)/\∀ b:AV,V 10 [(.func cQ []),.ptr i,.str a1] b->(∀ k:AS,X mK k->aM k->(S 10 [(.func cQ []),.ptr i,.str a1] b k/\True)->c k->aa Tryz.prog bE [.ptr d,.str a1,.slc none 0 0 true,b] k fun a8 M=>∃ y:List AV,∃ z:Bool,a8=.aP [.agg y,.bool z]/\(((X k M/\C 11 [(.func bE []),.ptr d,.str a1,.slc none 0 0 true,b] (.aP [.agg y,.bool z]) M)/\S 11 [(.func bE []),.ptr d,.str a1,.slc none 0 0 true,b] (.aP [.agg y,.bool z]) M/\V 11 [(.func bE []),.ptr d,.str a1,.slc none 0 0 true,b] (.aP [.agg y,.bool z]))))/\(∃ v,V 11 [(.func bE []),.ptr d,.str a1,.slc none 0 0 true,b] v)/\∀ ae:AV,V 11 [(.func bE []),.ptr d,.str a1,.slc none 0 0 true,b] ae->∃ m:List AV,∃ A:Bool,ae=.aP [.agg m,.bool A]/\((∀ FZ:AS,X mK FZ->aM FZ->(True)->aj (.cells [.int .i64 0,.int .u64 0,.str [],.slc none 0 0 true,.int .u64 0,.int .u64 0,.int .u64 0,.int .u64 0,.int .u64 0,.int .u64 0,.int .u64 0,.int .u64 0,.int .u64 0,.int .u64 0,.int .u64 0,.int .u64 0,.int .u64 0,.int .u64 0,.int .u64 0,.int .u64 0,.slc none 0 0 true] 0 false) FZ fun al Rz=>(Ext FZ Rz/\S 15 [] (.ptr (some (al,0))) Rz/\V 15 [] (.ptr (some (al,0)))))/\(∃ v,V 15 [] v)/\∀ am:AV,V 15 [] am->∃ O:Option (Nat×Nat),am=.ptr O/\(∀ j:AS,X mK j->aM j->(S 10 [(.func cQ []),.ptr i,.str a1] b j/\(S 11 [(.func bE []),.ptr d,.str a1,.slc none 0 0 true,b] (.aP [.agg m,.bool A]) j/\(S 15 [] (.ptr O) j/\True)))->C 11 [(.func bE []),.ptr d,.str a1,.slc none 0 0 true,b] (.aP [.agg m,.bool A]) j->ah O fun a9 a'=>fh (some 21) m (bt (cK j a9 a' m) fun S2=>R (.bool ((A:Bool)==((r:Int)==0))) S2))))))))))))))
def vt:QA:=(.seq .leaf (.seq (.ve [0,1,2,3,4,5,6,7,8,9,10,11,12,13,14,15] [16,17] [[],[],[],[],[],[],[],[],[],[],[],[10],[],[],[],[],[],[]] [10,11,15] [11]) (.seq (.ve [0,1,2,3,4,5,6,7,8,9,10,11,12,13,14,15] [16,17] [[],[],[],[],[],[],[],[],[],[],[],[10],[],[],[],[],[],[]] [10,11,15] [11]) (.seq .leaf .leaf))))
theorem vu (a0:Option (Nat×Nat)) (a1:List UInt8) (s:AS) (R:AV->AS->Prop) (h:vr a0 a1 s R):aa Tryz.prog dw [.ptr a0,.str a1] s R :=
 aa.q (n:=43) (rs:=[.tmp 4]) (A:=vt) hT bW Tryz.func17 (by kernel_rfl) rfl rfl rfl (by kernel_rfl) (by kernel_rfl) h
def C7  (s:AS) (R:AV->AS->Prop):Prop :=
 aj (.cells [.slc none 0 0 true,.map none] 0 false) s fun l1 s2=>aR (cV T dG 2 [(0,.ptr none),(1,(.ptr (some (l1,0))))]) fun g3=>aj (.cells g3 0 false) s2 fun l4 s5=>aa Tryz.prog ki [] s5 fun v6 s7=>∃ i:Option (Nat×Nat),∃ b9:Bool,v6=.aP [.ptr i,.bool b9]/\(bz fun o =>
 (∀ p:AS,o [] p ->
 aa Tryz.prog nu [.slc none 0 0 true] p fun I bP=>∃ j:Option (Nat×Nat),I=.ptr j/\(ah i fun J K=>ng (av bP J (K+1)) fun L=>aa Tryz.prog cZ [.ptr j,(.str [97]),.int .i64 1,.ptr none,.ptr L] bP fun M gz=>∃ v20:AV,∃ r:Int,M=.aP [v20,.int .i64 r]/\(ah i fun O Q=>ng (av gz O Q) fun S=>aa Tryz.prog gK [.ptr j,(.str [97]),.ptr S,.ptr none] gz fun U d=>∃ W:Int,∃ w:Int,U=.aP [.int .i64 W,.int .i64 w]/\(af b9 (af ((r:Int)==1) (af ((w:Int)==1) (aa Tryz.prog r8 [] d fun X Y=>∃ x:Bool,X=.bool x/\(R (.bool x) Y)) (R (.bool false) d)) (R (.bool false) d)) (R (.bool false) d))))) /\
 (bB fun k Z=>k Z [.int .i64 0] s7 /\
 ∀ y:Nat,∀ e:Int,∀ jZ:AS,k y [.int .i64 e] jZ ->
 aV .i64 (aQ T dG (.slc (some (l4,0)) 2 2 true) jZ) fun ab=>af (decide ((e:Int)<ab))
 (bG (ag T dG (.slc (some (l4,0)) 2 2 true) (.int .i64 e)) fun ad ae=>ng (av jZ ad ae) fun b=>ah i fun al am=>ng (av jZ al am) fun an=>ah i fun ao ap=>ng (av jZ ao (ap+1)) fun ar=>aa Tryz.prog cZ [.ptr b,(.str [97]),.int .i64 1,.ptr an,.ptr ar] jZ fun aw a0=>∃ a1:AV,∃ z:Int,aw=.aP [a1,.int .i64 z]/\(aa Tryz.prog fQ [.ptr b,(.str [97]),.int .i64 1] a0 fun a2 a3=>∃ a4:AV,∃ A:Int,a2=.aP [a4,.int .i64 A]/\(aa Tryz.prog eF [.ptr b,(.str [97])] a3 fun a5 l=>∃ a6:AV,∃ B:Int,a5=.aP [a6,.int .i64 B]/\(ah i fun a7 a8=>ng (av l a7 a8) fun a9=>ah i fun a' ba=>ng (av l a' (ba+1)) fun bb=>aa Tryz.prog gK [.ptr b,(.str [97]),.ptr a9,.ptr bb] l fun bc FZ=>∃ bd:Int,∃ C:Int,bc=.aP [.int .i64 bd,.int .i64 C]/\(aa Tryz.prog kS [.ptr b,(.str [97])] FZ fun be bh=>∃ m:List AV,∃ D:Bool,be=.aP [.agg m,.bool D]/\(aj (.cells [.int .u64 0,.int .u64 0,.int .u64 0,.int .u64 0,.int .u64 0,.int .u64 0,.int .u64 0,.int .u64 0,.int .u64 0,.int .u64 0,.int .u64 0,.int .u64 0,.int .u64 0,.int .u64 0,.int .u64 0,.int .u64 0] 0 false) bh fun bi S2=>fh (some 16) m (bt (cK S2 bi 0 m) fun Ut=>aa Tryz.prog dL [.ptr b,(.str [97]),.slc none 0 0 true] Ut fun bj c=>∃ F:Int,bj=.int .i64 F/\(af ((F:Int) != 1) (R (.bool false) c) (af ((z:Int) != 1) (R (.bool false) c) (af ((A:Int) != 1) (R (.bool false) c) (af ((B:Int) != 1) (R (.bool false) c) (af ((C:Int) != 1) (R (.bool false) c) (af D (R (.bool false) c) (aa Tryz.prog jV [.ptr b] c fun bk n=>aV .i64 (aQ T MZ bk n) fun bl=>af (decide ((bl:Int)>0)) (R (.bool false) n) (aa Tryz.prog nv [.ptr b] n fun bm G=>∃ H:Option (Nat×Nat),bm=.ptr H/\(sJ (iB T 100 nZ (.ptr H) (.ptr none)) fun bo=>af (!bo)
 (R (.bool false) G)
 (∃ m',m'<y/\k m' [(.int .i64 (IntKind.wrap .i64 (e+1)))] G)))))))))))))))))
 (o [] jZ)))
def C8:QA:=(.seq .leaf (.seq .leaf (.seq .leaf (.seq .leaf (.join [] [(0,0),(5,16),(27,110)] (.seq .leaf (.wrap (.loop [(5,.int .i64)] [(0,0),(5,16),(27,110)] (.seq (.seq .leaf (.cond .leaf .leaf)) (.seq (.wrap (.seq .leaf (.seq .calm (.seq .leaf (.seq .leaf (.seq .calm (.seq .leaf (.seq .leaf (.cond (.seq .leaf .leaf) .leaf))))))))) .leaf))))) (.seq .leaf (.seq .leaf (.seq .leaf (.seq .leaf .leaf)))))))))
theorem C9  (s:AS) (R:AV->AS->Prop) (h:C7  s R):aa Tryz.prog oT [] s R :=
 aa.q (n:=142) (rs:=[.tmp 0]) (A:=C8) hT bW Tryz.func11 (by kernel_rfl) rfl rfl rfl (by kernel_rfl) (by kernel_rfl) h
end Go.Proofs.YtohgmogbabkkeaaGreat
end

section
set_option maxRecDepth 100000
set_option maxHeartbeats 4000000
namespace Go.Proofs.YtohgmogbabkkeaaGreat
open Go.Am
def yT (a0:Option (Nat×Nat)) (a1:List AV) (s:AS) (R:AV->AS->Prop):Prop :=
 cH a1 (aj (.cells a1 0 false) s fun l1 s2=>aR (aD s2 l1 0 2) fun g3=>aa Tryz.prog rH [.agg g3] s2 fun v4 o=>∃ b6:Bool,v4=.bool b6/\(af (!b6) (R (.bool false) o) (aV .i64 (av o l1 0) fun n7=>ah a0 fun l8 o9=>aV .i64 (av o l8 o9) fun A=>af (decide ((n7:Int)>A)) (R (.bool false) o) (FY (av o l1 2) fun B=>aa Tryz.prog pV [.str B] o fun C bP=>∃ p:Bool,C=.bool p/\(af (!p) (R (.bool false) bP) (dS (av bP l1 3) fun D=>aV .i64 (aQ T aq D bP) fun F=>af (decide ((F:Int)>512)) (R (.bool false) bP) (dS (av bP l1 20) fun G=>aV .i64 (aQ T bR G bP) fun H=>af (decide ((H:Int)>1024)) (R (.bool false) bP) (aV .i64 (av bP l1 0) fun I=>bG (ag T aY (.ptr (some (l1,4))) (.int .i64 (IntKind.wrap .i64 (I - 1)))) fun J K=>aV .u64 (av bP J K) fun L=>aV .u64 (av bP l1 1) fun M=>af ((L:Int) != (IntKind.wrap .u64 (M - 1)))
 (R (.bool false) bP)
 (bz fun r =>
 (∀ dW:AS,r [] dW ->
 bB fun j O=>j O [.int .i64 0] dW /\
 ∀ m:Nat,∀ b:Int,∀ d:AS,j m [.int .i64 b] d ->
 dS (av d l1 20) fun Q=>aV .i64 (aQ T bR Q d) fun S=>af (decide ((b:Int)<S))
 (dS (av d l1 20) fun U=>bG (ag T bR U (.int .i64 b)) fun W X=>aR (aD d W X 2) fun Y=>aa Tryz.prog rH [.agg Y] d fun Z k=>∃ w:Bool,Z=.bool w/\(af (!w) (R (.bool false) k) (dS (av k l1 20) fun xN=>bG (ag T bR xN (.int .i64 b)) fun ab ad=>FY (av k ab (ad+2)) fun ae=>aa Tryz.prog pV [.str ae] k fun al e=>∃ x:Bool,al=.bool x/\(af (!x) (R (.bool false) e) (af (decide ((b:Int)>0)) (dS (av e l1 20) fun am=>bG (ag T bR am (.int .i64 (IntKind.wrap .i64 (b - 1)))) fun an ao=>aR (aD e an ao 2) fun ap=>dS (av e l1 20) fun ar=>bG (ag T bR ar (.int .i64 b)) fun aw a2=>aR (aD e aw a2 2) fun a3=>aa Tryz.prog uz [.agg ap,.agg a3] e fun a4 y=>∃ z:Bool,a4=.bool z/\(af (!z)
 (R (.bool false) y)
 (∃ m',m'<m/\j m' [(.int .i64 (IntKind.wrap .i64 (b+1)))] y))) (∃ m',m'<m/\j m' [(.int .i64 (IntKind.wrap .i64 (b+1)))] e))))))
 (R (.bool true) d)) /\
 (bB fun l a5=>l a5 [.int .i64 0] bP /\
 ∀ n:Nat,∀ i:Int,∀ c:AS,l n [.int .i64 i] c ->
 af (decide ((i:Int)<16))
 (bG (ag T aY (.ptr (some (l1,4))) (.int .i64 i)) fun a6 a7=>aV .u64 (av c a6 a7) fun a8=>af (decide ((a8:Int)>4611686018427387904)) (R (.bool false) c) (ah a0 fun a9 a'=>aV .i64 (av c a9 a') fun ba=>af (decide ((i:Int)>=ba)) (bG (ag T aY (.ptr (some (l1,4))) (.int .i64 i)) fun bb bc=>aV .u64 (av c bb bc) fun bd=>af ((bd:Int) != 0)
 (R (.bool false) c)
 (∃ m',m'<n/\l m' [(.int .i64 (IntKind.wrap .i64 (i+1)))] c)) (∃ m',m'<n/\l m' [(.int .i64 (IntKind.wrap .i64 (i+1)))] c)))
 (r [] c)))))))))))
def yU:QA:=(.seq .leaf (.seq (.seq .calm (.cond (.seq .leaf .leaf) .leaf)) (.join [] [(4,5),(53,76)] (.seq .leaf (.wrap (.loop [(5,.int .i64)] [(4,5),(53,76)] (.seq (.seq .leaf (.cond .leaf .leaf)) (.seq (.wrap (.seq .leaf (.cond (.seq .leaf .leaf) .leaf))) .leaf))))) (.seq (.seq .leaf (.wrap (.loop [(6,.int .i64)] [(4,4),(6,6),(77,122)] (.seq (.seq .leaf (.cond .leaf .leaf)) (.seq (.wrap (.seq .calm (.cond (.seq .leaf .leaf) .leaf))) .leaf))))) (.seq .leaf .leaf)))))
theorem yV (a0:Option (Nat×Nat)) (a1:List AV) (s:AS) (R:AV->AS->Prop) (h:yT a0 a1 s R):aa Tryz.prog kR [.ptr a0,.agg a1] s R :=
 aa.q (n:=123) (rs:=[.tmp 4]) (A:=yU) hT bW Tryz.func29 (by kernel_rfl) rfl rfl rfl (by kernel_rfl) (by kernel_rfl) h
def KM (a0:List AV) (s:AS) (R:AV->AS->Prop):Prop :=
 cH a0 (aj (.cells a0 0 false) s fun l1 s2=>aV .i64 (av s2 l1 0) fun b=>af (decide ((b:Int)>=1)) (aV .i64 (av s2 l1 0) fun c=>af (decide ((c:Int)<=16)) (aV .u64 (av s2 l1 1) fun d=>af (decide ((d:Int)>=1)) (aV .u64 (av s2 l1 1) fun e=>R (.bool (decide ((e:Int)<=4611686018427387904))) s2) (R (.bool false) s2)) (R (.bool false) s2)) (R (.bool false) s2))
def KN:QA:=(.seq .leaf (.seq .leaf .leaf))
theorem KO (a0:List AV) (s:AS) (R:AV->AS->Prop) (h:KM a0 s R):aa Tryz.prog rH [.agg a0] s R :=
 aa.q (n:=21) (rs:=[.tmp 2]) (A:=KN) hT bW Tryz.func99 (by kernel_rfl) rfl rfl rfl (by kernel_rfl) (by kernel_rfl) h
def Iy (a0:List UInt8) (s:AS) (R:AV->AS->Prop):Prop :=
 aV .i64 (aQ T cE (.str a0) s) fun b=>af (decide ((b:Int)>=1)) (aV .i64 (aQ T cE (.str a0) s) fun n2=>R (.bool (decide ((n2:Int)<=32))) s) (R (.bool false) s)
def Iz:QA:=(.seq .leaf (.seq .leaf .leaf))
theorem IA (a0:List UInt8) (s:AS) (R:AV->AS->Prop) (h:Iy a0 s R):aa Tryz.prog pV [.str a0] s R :=
 aa.q (n:=11) (rs:=[.tmp 2]) (A:=Iz) hT bW Tryz.func100 (by kernel_rfl) rfl rfl rfl (by kernel_rfl) (by kernel_rfl) h
def IB (a0:List AV) (a1:List AV) (s:AS) (R:AV->AS->Prop):Prop :=
 cH a0 (aj (.cells a0 0 false) s fun l1 s2=>cH a1 (aj (.cells a1 0 false) s2 fun l3 s4=>aV .i64 (av s4 l1 0) fun c=>aV .i64 (av s4 l3 0) fun d=>af (decide ((c:Int)<d)) (R (.bool true) s4) (aV .i64 (av s4 l1 0) fun e=>aV .i64 (av s4 l3 0) fun i=>af ((e:Int)==i) (aV .u64 (av s4 l1 1) fun j=>aV .u64 (av s4 l3 1) fun b=>R (.bool (decide ((j:Int)<b))) s4) (R (.bool false) s4))))
def IC:QA:=(.seq .leaf (.seq .leaf .leaf))
theorem ID (a0:List AV) (a1:List AV) (s:AS) (R:AV->AS->Prop) (h:IB a0 a1 s R):aa Tryz.prog uz [.agg a0,.agg a1] s R :=
 aa.q (n:=24) (rs:=[.tmp 4]) (A:=IC) hT bW Tryz.func101 (by kernel_rfl) rfl rfl rfl (by kernel_rfl) (by kernel_rfl) h
def uF (a0:Option (Nat×Nat)) (a1:List UInt8) (a2:AV) (a3:AV) (s:AS) (R:AV->AS->Prop):Prop :=
 aj (.cells [.int .i64 0,.int .u64 0,.str [],.slc none 0 0 true,.int .u64 0,.int .u64 0,.int .u64 0,.int .u64 0,.int .u64 0,.int .u64 0,.int .u64 0,.int .u64 0,.int .u64 0,.int .u64 0,.int .u64 0,.int .u64 0,.int .u64 0,.int .u64 0,.int .u64 0,.int .u64 0,.slc none 0 0 true] 0 false) s fun l1 s2=>gy fun S V=>ah a0 fun l3 o4=>aV .i64 (av s2 l3 (o4+1)) fun n5=>ah a0 fun l6 o7=>aV .i64 (av s2 l6 (o7+1)) fun n8=>ah a0 fun l9 A=>bG (ag T c_ (.ptr (some (l9,(A+2)))) (.int .i64 (IntKind.wrap .i64 (n8 - 1)))) fun B C=>aV .u64 (av s2 B C) fun D=>oS (aS T iH [(0,.int .i64 n5),(1,(.int .u64 (IntKind.wrap .u64 (D+1))))]) fun F=>(∀ gu:AS,Ext s2 gu->aM gu->(True)->iD (aI T aq aq (.slc none 0 0 true) a2 gu) fun nM lK=>(Ext gu lK/\S 18 [.slc none 0 0 true,a2] nM lK/\V 18 [.slc none 0 0 true,a2] nM))/\(∃ v,V 18 [.slc none 0 0 true,a2] v)/\∀ d:AV,V 18 [.slc none 0 0 true,a2] d->ah a0 fun zF G=>aR (aD s2 zF (G+2) 16) fun H=>(∀ fP:AS,Ext s2 fP->aM fP->(S 18 [.slc none 0 0 true,a2] d fP/\True)->iD (aI T bR bR (.slc none 0 0 true) a3 fP) fun k l=>(Ext fP l/\S 24 [.slc none 0 0 true,a3] k l/\V 24 [.slc none 0 0 true,a3] k))/\(∃ v,V 24 [.slc none 0 0 true,a3] v)/\∀ i:AV,V 24 [.slc none 0 0 true,a3] i->oS (aS T ig [(0,.agg F),(1,.str a1),(2,d),(3,.agg H),(4,i)]) fun m=>(∀ e:AS,Ext s2 e->aM e->(True)->aj (.cells [.int .i64 0,.int .u64 0,.str [],.slc none 0 0 true,.int .u64 0,.int .u64 0,.int .u64 0,.int .u64 0,.int .u64 0,.int .u64 0,.int .u64 0,.int .u64 0,.int .u64 0,.int .u64 0,.int .u64 0,.int .u64 0,.int .u64 0,.int .u64 0,.int .u64 0,.int .u64 0,.slc none 0 0 true] 0 false) e fun n o=>(Ext e o/\S 26 [] (.ptr (some (n,0))) o/\V 26 [] (.ptr (some (n,0)))))/\(∃ v,V 26 [] v)/\∀ v30:AV,V 26 [] v30->∃ b:Option (Nat×Nat),v30=.ptr b/\(∀ c:AS,Ext s2 c->aM c->(S 18 [.slc none 0 0 true,a2] d c/\(S 24 [.slc none 0 0 true,a3] i c/\(S 26 [] (.ptr b) c/\True)))->ah b fun I J=>fh (some 21) m (bt (cK c I J m) fun jZ=>ah b fun K L=>aR (aD jZ K L 21) fun M=>aa Tryz.prog kR [.ptr a0,.agg M] jZ fun xN j=>∃ p:Bool,xN=.bool p/\(af (!p)
 (oS (aS T ig []) fun r=>fh (some 21) r (bt (cK j l1 0 r) fun w=>aR (aD w l1 0 21) fun O=>R (.aP [.agg O,.bool false]) w))
 (ah b fun Q U=>aR (aD j Q U 21) fun W=>aa Tryz.prog jq [.ptr a0,.agg W] j fun X x=>X=.aP []/\(ah b fun Y Z=>aR (aD x Y Z 21) fun y=>fh (some 21) y (bt (cK x l1 0 y) fun z=>aR (aD z l1 0 21) fun ab=>R (.aP [.agg ab,.bool true]) z))))))
def uG:QA:=(.seq .leaf (.seq (.gR 27 [[],[],[],[],[],[],[],[],[],[],[],[],[],[],[],[],[],[],[],[],[],[],[],[],[18],[],[]] [18,24,26]) (.seq (.seq .leaf (.cond (.seq .leaf .leaf) .leaf)) (.seq .leaf (.seq .leaf .leaf)))))
theorem uH (a0:Option (Nat×Nat)) (a1:List UInt8) (a2:AV) (a3:AV) (s:AS) (R:AV->AS->Prop) (h:uF a0 a1 a2 a3 s R):aa Tryz.prog bE [.ptr a0,.str a1,a2,a3] s R :=
 aa.q (n:=46) (rs:=[.cell 8 52,.tmp 9]) (A:=uG) hT bW Tryz.func73 (by kernel_rfl) rfl rfl rfl (by kernel_rfl) (by kernel_rfl) h
def wM (a0:Option (Nat×Nat)) (a1:List AV) (s:AS) (R:AV->AS->Prop):Prop :=
 cH a1 (aj (.cells a1 0 false) s fun l1 s2=>aV .i64 (av s2 l1 0) fun n3=>ah a0 fun l4 o5=>bG (ag T c_ (.ptr (some (l4,(o5+2)))) (.int .i64 (IntKind.wrap .i64 (n3 - 1)))) fun l6 o7=>aV .u64 (av s2 l6 o7) fun n8=>ah a0 fun l9 U=>bG (ag T c_ (.ptr (some (l9,(U+2)))) (.int .i64 (IntKind.wrap .i64 (n3 - 1)))) fun W Y=>bt (cK s2 W Y [(.int .u64 (IntKind.wrap .u64 (n8+1)))]) fun bP=>sR bP fun X C c S V=>ah a0 fun r w=>(∀ J:AS,X bP J->aM J->ah a0 fun Z ab=>(((.ptr (some (Z,ab))):AV)=(.ptr (some (r,w)))))/\(dS (av bP r (w+18)) fun v20=>(∀ gz:AS,X bP gz->aM gz->dS (av gz r (w+18)) fun ad=>((ad:AV)=v20))/\(aR (aD bP l1 0 21) fun i=>(∀ fP:AS,X bP fP->aM fP->aR (aD fP l1 0 21) fun ae=>(((.agg ae):AV)=(.agg i)))/\((∀ dW:AS,X bP dW->aM dW->(True)->aR (cV T bS 1 [(0,.agg i)]) fun al=>aj (.cells al 0 false) dW fun K L=>(Ext dW L/\S 6 [.agg i] (.slc (some (K,0)) 1 1 true) L/\V 6 [.agg i] (.slc (some (K,0)) 1 1 true)))/\(∃ v,V 6 [.agg i] v)/\∀ b:AV,V 6 [.agg i] b->(∀ k:AS,X bP k->aM k->(S 6 [.agg i] b k/\True)->c k->iD (aI T bS bS v20 b k) fun x y=>((X k y/\C 7 [v20,b] x y)/\S 7 [v20,b] x y/\V 7 [v20,b] x))/\(∃ v,V 7 [v20,b] v)/\∀ n:AV,V 7 [v20,b] n->∀ kr:AS,X bP kr->aM kr->(S 6 [.agg i] b kr/\(S 7 [v20,b] n kr/\True))->C 7 [v20,b] n kr->ah a0 fun am an=>fu T bS kr am (an+18) n fun mK=>sR mK fun X C c S V=>ah a0 fun z A=>(∀ M:AS,X mK M->aM M->ah a0 fun ao ap=>(((.ptr (some (ao,ap))):AV)=(.ptr (some (z,A)))))/\(dS (av mK z (A+19)) fun e=>(∀ B:AS,X mK B->aM B->dS (av B z (A+19)) fun ar=>((ar:AV)=e))/\(ah a0 fun D F=>(∀ tw:AS,X mK tw->aM tw->ah a0 fun aw a2=>(((.ptr (some (aw,a2))):AV)=(.ptr (some (D,F)))))/\(aR (aD mK D (F+2) 16) fun j=>(∀ G:AS,X mK G->aM G->aR (aD G D (F+2) 16) fun a3=>(((.agg a3):AV)=(.agg j)))/\((∀ o:AS,X mK o->aM o->(True)->aR (cV T a_ 1 [(0,.agg j)]) fun a4=>aj (.cells a4 0 false) o fun O Q=>(Ext o Q/\S 9 [.agg j] (.slc (some (O,0)) 1 1 true) Q/\V 9 [.agg j] (.slc (some (O,0)) 1 1 true)))/\(∃ v,V 9 [.agg j] v)/\∀ d:AV,V 9 [.agg j] d->(∀ l:AS,X mK l->aM l->(S 9 [.agg j] d l/\True)->c l->iD (aI T a_ a_ e d l) fun H I=>((X l I/\C 10 [e,d] H I)/\S 10 [e,d] H I/\V 10 [e,d] H))/\(∃ v,V 10 [e,d] v)/\∀ p:AV,V 10 [e,d] p->∀ m:AS,X mK m->aM m->(S 9 [.agg j] d m/\(S 10 [e,d] p m/\True))->C 10 [e,d] p m->ah a0 fun a5 a6=>fu T a_ m a5 (a6+19) p fun FZ=>R (.aP []) FZ))))))))
def wN:QA:=(.seq .leaf (.seq (.draw 12) (.seq (.ve [0,1,2,3,4,5,6,7] [8,9,10] [[],[],[],[],[],[],[],[6]] [6,7] [7]) (.ve [0,1,2,3,4,5,6,7,8,9,10] [11,12,13] [[],[],[],[],[],[],[],[],[],[],[9]] [9,10] [10]))))
theorem wO (a0:Option (Nat×Nat)) (a1:List AV) (s:AS) (R:AV->AS->Prop) (h:wM a0 a1 s R):aa Tryz.prog jq [.ptr a0,.agg a1] s R :=
 aa.q (n:=40) (rs:=[]) (A:=wN) hT bW Tryz.func108 (by kernel_rfl) rfl rfl rfl (by kernel_rfl) (by kernel_rfl) h
def BJ (a0:Option (Nat×Nat)) (a1:Int) (s:AS) (R:AV->AS->Prop):Prop :=
 ah a0 fun l1 o2=>bG (ag T c_ (.ptr (some (l1,o2))) (.int .i64 (IntKind.wrap .i64 (a1 - 1)))) fun l3 L=>aV .u64 (av s l3 L) fun M=>bB fun i O=>i O [.int .u64 M,.int .i64 0] s /\
 ∀ k:Nat,∀ j:Int,∀ c:Int,∀ b:AS,i k [.int .u64 j,.int .i64 c] b ->
 ah a0 fun qZ l=>dS (av b qZ (l+16)) fun m=>aV .i64 (aQ T az m b) fun n=>af (decide ((c:Int)<n))
 (bz fun d =>
 (∀ e:Bool,∀ eE:AS,d [.bool e] eE ->
 af e
 (ah a0 fun zF o=>dS (av eE zF (o+16)) fun p=>bG (ag T az p (.int .i64 c)) fun r w=>aV .u64 (av eE r (w+1)) fun x=>∃ m',m'<k/\i m' [.int .u64 x,(.int .i64 (IntKind.wrap .i64 (c+1)))] eE)
 (∃ m',m'<k/\i m' [.int .u64 j,(.int .i64 (IntKind.wrap .i64 (c+1)))] eE)) /\
 (ah a0 fun y z=>dS (av b y (z+16)) fun A=>bG (ag T az A (.int .i64 c)) fun B C=>aV .i64 (av b B C) fun D=>af ((D:Int)==a1) (ah a0 fun F G=>dS (av b F (G+16)) fun H=>bG (ag T az H (.int .i64 c)) fun I J=>aV .u64 (av b I (J+1)) fun K=>d [(.bool (decide ((K:Int)>j)))] b) (d [.bool false] b)))
 (R (.int .u64 j) b)
def BK:QA:=(.seq .leaf (.seq .leaf (.seq (.seq .leaf (.wrap (.loop [(5,.int .u64),(6,.int .i64)] [(5,6),(14,52)] (.seq (.seq .leaf (.cond .leaf .leaf)) (.seq (.wrap (.join [(44,.bool)] [(23,44)] .leaf (.cond .leaf .leaf))) .leaf))))) (.seq .leaf .leaf))))
theorem BL (a0:Option (Nat×Nat)) (a1:Int) (s:AS) (R:AV->AS->Prop) (h:BJ a0 a1 s R):aa Tryz.prog ny [.ptr a0,.int .i64 a1] s R :=
 aa.q (n:=54) (rs:=[.tmp 4]) (A:=BK) hT bW Tryz.func67 (by kernel_rfl) rfl rfl rfl (by kernel_rfl) (by kernel_rfl) h
end Go.Proofs.YtohgmogbabkkeaaGreat
end

section
set_option maxRecDepth 100000
set_option maxHeartbeats 4000000
namespace Go.Proofs.YtohgmogbabkkeaaGreat
open Go.Am
def M6 (a0:Int) (a1:Int) (s:AS) (R:AV->AS->Prop):Prop :=
 bz fun b =>
 (∀ c:Bool,∀ s3:AS,b [.bool c] s3 ->
 af c
 (R (.aP [.ptr none,.int .i64 2]) s3)
 (aj (.map [] 0 false) s3 fun e i=>oS (aS T sx [(0,.int .i64 a0),(1,.int .i64 a1),(5,(.map (some e)))]) fun d=>cH d (aj (.cells d 0 false) i fun j s8=>R (.aP [(.ptr (some (j,0))),.int .i64 0]) s8))) /\
 (af (decide ((a0:Int)<1)) (b [.bool true] s) (af (decide ((a0:Int)>16)) (b [.bool true] s) (af (decide ((a1:Int)<1)) (b [.bool true] s) (b [(.bool (decide ((a1:Int)>a0)))] s))))
def M7:QA:=(.seq .leaf (.seq (.join [(20,.bool)] [(6,20)] .leaf (.cond (.seq .leaf .leaf) .leaf)) (.seq .leaf .leaf)))
theorem M9 (a0:Int) (a1:Int) (s:AS) (R:AV->AS->Prop) (h:M6 a0 a1 s R):aa Tryz.prog yN [.int .i64 a0,.int .i64 a1] s R :=
 aa.q (n:=26) (rs:=[.tmp 4,.tmp 5]) (A:=M7) hT bW Tryz.func66 (by kernel_rfl) rfl rfl rfl (by kernel_rfl) (by kernel_rfl) h
def vz (a0:Option (Nat×Nat)) (a1:List UInt8) (a2:AV) (a3:AV) (s:AS) (R:AV->AS->Prop):Prop :=
 aj (.cells [.int .i64 0,.int .u64 0,.str [],.slc none 0 0 true,.int .u64 0,.int .u64 0,.int .u64 0,.int .u64 0,.int .u64 0,.int .u64 0,.int .u64 0,.int .u64 0,.int .u64 0,.int .u64 0,.int .u64 0,.int .u64 0,.int .u64 0,.int .u64 0,.int .u64 0,.int .u64 0,.slc none 0 0 true] 0 false) s fun l1 s2=>aa Tryz.prog dg [.ptr a0] s2 fun v3 s4=>∃ b5:Bool,v3=.bool b5/\(af (!b5)
 (oS (aS T ig []) fun g6=>fh (some 21) g6 (bt (cK s4 l1 0 g6) fun s7=>aR (aD s7 l1 0 21) fun g8=>R (.aP [.agg g8,.int .i64 1]) s7))
 (gy fun S V=>ah a0 fun l9 H=>aV .i64 (av s4 l9 (H+1)) fun I=>ah a0 fun qZ J=>aV .i64 (av s4 qZ (J+1)) fun K=>ah a0 fun L M=>bG (ag T aY (.ptr (some (L,(M+2)))) (.int .i64 (IntKind.wrap .i64 (K - 1)))) fun O Q=>aV .u64 (av s4 O Q) fun U=>oS (aS T iH [(0,.int .i64 I),(1,(.int .u64 (IntKind.wrap .u64 (U+1))))]) fun W=>ah a0 fun X Y=>aR (aD s4 X (Y+2) 16) fun Z=>oS (aS T ig [(0,.agg W),(1,.str a1),(2,a2),(3,.agg Z),(4,a3)]) fun o=>(∀ dW:AS,Ext s4 dW->aM dW->(True)->aj (.cells [.int .i64 0,.int .u64 0,.str [],.slc none 0 0 true,.int .u64 0,.int .u64 0,.int .u64 0,.int .u64 0,.int .u64 0,.int .u64 0,.int .u64 0,.int .u64 0,.int .u64 0,.int .u64 0,.int .u64 0,.int .u64 0,.int .u64 0,.int .u64 0,.int .u64 0,.int .u64 0,.slc none 0 0 true] 0 false) dW fun p r=>(Ext dW r/\S 24 [] (.ptr (some (p,0))) r/\V 24 [] (.ptr (some (p,0)))))/\(∃ v,V 24 [] v)/\∀ w:AV,V 24 [] w->∃ b:Option (Nat×Nat),w=.ptr b/\(∀ e:AS,Ext s4 e->aM e->(S 24 [] (.ptr b) e/\True)->ah b fun ab ad=>fh (some 21) o (bt (cK e ab ad o) fun kr=>ah b fun ae al=>aV .u64 (av kr ae (al+1)) fun x=>bz fun l =>
 (∀ m:AS,l [] m ->
 ah b fun am an=>aR (aD m am an 21) fun ao=>aa Tryz.prog lX [.ptr a0,.agg ao] m fun ap i=>∃ y:Bool,ap=.bool y/\(af (!y)
 (oS (aS T ig []) fun z=>fh (some 21) z (bt (cK i l1 0 z) fun A=>aR (aD A l1 0 21) fun ar=>R (.aP [.agg ar,.int .i64 2]) A))
 (af (decide ((x:Int)>4611686018427387904))
 (oS (aS T ig []) fun B=>fh (some 21) B (bt (cK i l1 0 B) fun C=>aR (aD C l1 0 21) fun aw=>R (.aP [.agg aw,.int .i64 5]) C))
 (ah b fun a4 a5=>aR (aD i a4 a5 21) fun a6=>aa Tryz.prog ee [.agg a6] i fun a7 a8=>∃ D:List AV,a7=.agg D/\(aa Tryz.prog jW [.ptr a0,.agg D] a8 fun a9 F=>a9=.aP []/\(ah b fun a' ba=>aR (aD F a' ba 21) fun bb=>aa Tryz.prog ee [.agg bb] F fun bc bd=>∃ n:List AV,bc=.agg n/\(fh (some 21) n (bt (cK bd l1 0 n) fun FZ=>aR (aD FZ l1 0 21) fun be=>R (.aP [.agg be,.int .i64 0]) FZ)))))))) /\
 (af (decide ((x:Int)>4611686018427387904))
 (gy fun S V=>ah a0 fun bh bi=>aV .i64 (av kr bh (bi+1)) fun bj=>ah b fun c d=>(∀ j:AS,Ext kr j->aM j->(True)->bt (cK j c (d+1) [.int .u64 1]) fun S2=>(Ext j S2/\S 7 [(.ptr (some (c,(d+1)))),.int .u64 1] (.aP []) S2/\V 7 [(.ptr (some (c,(d+1)))),.int .u64 1] (.aP [])))/\(∃ v,V 7 [(.ptr (some (c,(d+1)))),.int .u64 1] v)/\∀ G:AV,V 7 [(.ptr (some (c,(d+1)))),.int .u64 1] G->G=.aP []/\(ah b fun bk bl=>∀ k:AS,Ext kr k->aM k->(S 7 [(.ptr (some (c,(d+1)))),.int .u64 1] (.aP []) k/\True)->bG (ag T aY (.ptr (some (bk,(bl+4)))) (.int .i64 (IntKind.wrap .i64 (bj - 1)))) fun bm bo=>bt (cK k bm bo [.int .u64 0]) fun bs=>l [] bs))
 (l [] kr))))))
def vA:QA:=(.seq .leaf (.seq (.seq .leaf (.cond (.seq .leaf .leaf) .leaf)) (.seq (.gR 25 [[],[],[],[],[],[],[],[],[],[],[],[],[],[],[],[],[],[],[],[],[],[],[],[],[]] [24]) (.seq .leaf (.join [] [(44,53)] (.seq .leaf (.cond (.gR 9 [[],[],[],[],[],[],[],[],[]] [7]) .leaf)) (.seq (.wrap (.seq .leaf (.cond (.seq .leaf .leaf) (.seq .leaf (.cond (.seq .leaf .leaf) .leaf))))) (.seq .leaf (.seq .leaf .leaf))))))))
theorem vB (a0:Option (Nat×Nat)) (a1:List UInt8) (a2:AV) (a3:AV) (s:AS) (R:AV->AS->Prop) (h:vz a0 a1 a2 a3 s R):aa Tryz.prog bH [.ptr a0,.str a1,a2,a3] s R :=
 aa.q (n:=69) (rs:=[.cell 8 52,.tmp 9]) (A:=vA) hT bW Tryz.func71 (by kernel_rfl) rfl rfl rfl (by kernel_rfl) (by kernel_rfl) h
def yW (a0:Option (Nat×Nat)) (s:AS) (R:AV->AS->Prop):Prop :=
 aa Tryz.prog dg [.ptr a0] s fun F s2=>∃ C:Bool,F=.bool C/\(af (!C)
 (R (.ptr none) s2)
 (ah a0 fun G H=>aR (aD s2 G H 21) fun D=>aj (.cells [.int .i64 0,.int .i64 0,.int .u64 0,.int .u64 0,.int .u64 0,.int .u64 0,.int .u64 0,.int .u64 0,.int .u64 0,.int .u64 0,.int .u64 0,.int .u64 0,.int .u64 0,.int .u64 0,.int .u64 0,.int .u64 0,.int .u64 0,.int .u64 0,.slc none 0 0 true,.slc none 0 0 true,.map none] 0 false) s2 fun j s8=>fh (some 21) D (bt (cK s8 j 0 D) fun i=>gy fun S V=>ah a0 fun mL n=>dS (av i mL (n+18)) fun b=>(∀ bP:AS,Ext i bP->aM bP->(True)->aa Tryz.prog bf [b] bP fun k gu=>(Ext bP gu/\S 4 [(.func bf []),b] k gu/\V 4 [(.func bf []),b] k))/\(∃ v,V 4 [(.func bf []),b] v)/\∀ nM:AV,V 4 [(.func bf []),b] nM->ah a0 fun o p=>dS (av i o (p+19)) fun c=>(∀ gi:AS,Ext i gi->aM gi->(S 4 [(.func bf []),b] nM gi/\True)->aa Tryz.prog bp [c] gi fun l fP=>(Ext gi fP/\S 9 [(.func bp []),c] l fP/\V 9 [(.func bp []),c] l))/\(∃ v,V 9 [(.func bp []),c] v)/\∀ e:AV,V 9 [(.func bp []),c] e->ah a0 fun r w=>vL (av i r (w+20)) fun x=>∀ d:AS,Ext i d->aM d->(S 4 [(.func bf []),b] nM d/\(S 9 [(.func bp []),c] e d/\True))->aa Tryz.prog fE [.map x] d fun y z=>∃ m:Option Nat,y=.map m/\(fu T bS z j 18 nM fun A=>fu T a_ A j 19 e fun B=>bt (cK B j 20 [.map m]) fun kr=>R (.ptr (some (j,0))) kr))))
def yX:QA:=(.seq .leaf (.seq (.seq .leaf (.cond (.seq .leaf .leaf) .leaf)) (.seq .leaf (.seq (.gR 14 [[],[],[],[],[],[],[],[],[],[4],[],[],[],[]] [4,9]) (.seq .leaf .leaf)))))
theorem qK (a0:Option (Nat×Nat)) (s:AS) (R:AV->AS->Prop) (h:yW a0 s R):aa Tryz.prog eG [.ptr a0] s R :=
 aa.q (n:=28) (rs:=[.tmp 2]) (A:=yX) hT bW Tryz.func77 (by kernel_rfl) rfl rfl rfl (by kernel_rfl) (by kernel_rfl) h
def xO (a0:Option (Nat×Nat)) (s:AS) (R:AV->AS->Prop):Prop :=
 sJ (iB T 100 iG (.ptr a0) (.ptr none)) fun b=>af (!b) (ah a0 fun c d=>vL (av s c (d+20)) fun e=>sJ (iB T 100 su (.map e) (.map none)) fun i=>R (.bool (!i)) s) (R (.bool false) s)
def xP:QA:=(.seq .leaf (.seq .leaf .leaf))
theorem pP (a0:Option (Nat×Nat)) (s:AS) (R:AV->AS->Prop) (h:xO a0 s R):aa Tryz.prog dg [.ptr a0] s R :=
 aa.q (n:=12) (rs:=[.tmp 2]) (A:=xP) hT bW Tryz.func84 (by kernel_rfl) rfl rfl rfl (by kernel_rfl) (by kernel_rfl) h
def z7 (a0:Option (Nat×Nat)) (s:AS) (R:AV->AS->Prop):Prop :=
 aa Tryz.prog dg [.ptr a0] s fun c s2=>∃ b:Bool,c=.bool b/\(af (!b)
 (R (.int .i64 0) s2)
 (ah a0 fun d e=>dS (av s2 d (e+18)) fun i=>aV .i64 (aQ T bS i s2) fun j=>R (.int .i64 j) s2))
def z8:QA:=(.seq .leaf (.seq (.seq .leaf (.cond (.seq .leaf .leaf) .leaf)) (.seq .leaf .leaf)))
theorem z9 (a0:Option (Nat×Nat)) (s:AS) (R:AV->AS->Prop) (h:z7 a0 s R):aa Tryz.prog lV [.ptr a0] s R :=
 aa.q (n:=11) (rs:=[.tmp 2]) (A:=z8) hT bW Tryz.func22 (by kernel_rfl) rfl rfl rfl (by kernel_rfl) (by kernel_rfl) h
def z_ (a0:Option (Nat×Nat)) (a1:List AV) (s:AS) (R:AV->AS->Prop):Prop :=
 cH a1 (aj (.cells a1 0 false) s fun l1 s2=>aR (aD s2 l1 0 21) fun B=>aa Tryz.prog wE [.agg B] s2 fun C b=>∃ A:Bool,C=.bool A/\(af (!A) (R (.bool false) b) (aV .i64 (av b l1 0) fun D=>ah a0 fun F G=>aV .i64 (av b F G) fun j=>af (decide ((D:Int)>j)) (R (.bool false) b) (aV .i64 (av b l1 0) fun k=>bG (ag T aY (.ptr (some (l1,4))) (.int .i64 (IntKind.wrap .i64 (k - 1)))) fun qZ l=>aV .u64 (av b qZ l) fun m=>aV .u64 (av b l1 1) fun n=>af ((m:Int) != (IntKind.wrap .u64 (n - 1)))
 (R (.bool false) b)
 (ah a0 fun q_ o=>aV .i64 (av b q_ o) fun p=>dS (aZ T aY (.ptr (some (l1,4))) (some (.int .i64 p)) none none) fun e=>aV .i64 (aQ T fm e b) fun r=>bB fun d w=>d w [.int .i64 0] b /\
 ∀ i:Nat,∀ c:Int,∀ dW:AS,d i [.int .i64 c] dW ->
 af (decide ((c:Int)<r))
 (bG (ag T fm e (.int .i64 c)) fun x y=>aV .u64 (av dW x y) fun z=>af ((z:Int) != 0)
 (R (.bool false) dW)
 (∃ m',m'<i/\d m' [(.int .i64 (IntKind.wrap .i64 (c+1)))] dW))
 (R (.bool true) dW))))))
def Aa:QA:=(.seq .leaf (.seq (.seq .calm (.cond (.seq .leaf .leaf) .leaf)) (.seq (.seq .leaf (.wrap (.loop [(41,.int .i64)] [(4,4),(6,6),(41,47)] (.seq .leaf (.seq (.cond .leaf .leaf) (.seq (.wrap (.seq .leaf (.seq .leaf (.cond (.seq .leaf .leaf) .leaf)))) .leaf)))))) (.seq .leaf .leaf))))
theorem Ab (a0:Option (Nat×Nat)) (a1:List AV) (s:AS) (R:AV->AS->Prop) (h:z_ a0 a1 s R):aa Tryz.prog lX [.ptr a0,.agg a1] s R :=
 aa.q (n:=48) (rs:=[.tmp 4]) (A:=Aa) hT bW Tryz.func102 (by kernel_rfl) rfl rfl rfl (by kernel_rfl) (by kernel_rfl) h
def IE (a0:List AV) (s:AS) (R:AV->AS->Prop):Prop :=
 cH a0 (aj (.cells a0 0 false) s fun l1 s2=>aj (.cells [.int .i64 0,.int .u64 0,.str [],.slc none 0 0 true,.int .u64 0,.int .u64 0,.int .u64 0,.int .u64 0,.int .u64 0,.int .u64 0,.int .u64 0,.int .u64 0,.int .u64 0,.int .u64 0,.int .u64 0,.int .u64 0,.int .u64 0,.int .u64 0,.int .u64 0,.int .u64 0,.slc none 0 0 true] 0 false) s2 fun l3 s4=>gy fun S V=>dS (av s4 l1 3) fun c=>(∀ s6:AS,Ext s4 s6->aM s6->(True)->aa Tryz.prog aT [c] s6 fun l s8=>(Ext s6 s8/\S 2 [(.func aT []),c] l s8/\V 2 [(.func aT []),c] l))/\(∃ v,V 2 [(.func aT []),c] v)/\∀ j:AV,V 2 [(.func aT []),c] j->dS (av s4 l1 20) fun v10=>(∀ b:AS,Ext s4 b->aM b->(S 2 [(.func aT []),c] j b/\True)->aa Tryz.prog bC [v10] b fun e bP=>(Ext b bP/\S 5 [(.func bC []),v10] e bP/\V 5 [(.func bC []),v10] e))/\(∃ v,V 5 [(.func bC []),v10] v)/\∀ d:AV,V 5 [(.func bC []),v10] d->∀ gu:AS,Ext s4 gu->aM gu->(S 2 [(.func aT []),c] j gu/\(S 5 [(.func bC []),v10] d gu/\True))->fu T aq gu l1 3 j fun lK=>fu T bR lK l1 20 d fun eE=>aR (aD eE l1 0 21) fun i=>fh (some 21) i (bt (cK eE l3 0 i) fun gi=>aR (aD gi l3 0 21) fun k=>R (.agg k) gi))
def IF:QA:=(.seq .leaf (.seq (.gR 7 [[],[],[],[],[],[2],[]] [2,5]) (.seq .leaf .leaf)))
theorem IG (a0:List AV) (s:AS) (R:AV->AS->Prop) (h:IE a0 s R):aa Tryz.prog ee [.agg a0] s R :=
 aa.q (n:=12) (rs:=[.cell 2 52]) (A:=IF) hT bW Tryz.func104 (by kernel_rfl) rfl rfl rfl (by kernel_rfl) (by kernel_rfl) h
def xQ (a0:Option (Nat×Nat)) (a1:List AV) (s:AS) (R:AV->AS->Prop):Prop :=
 cH a1 (aj (.cells a1 0 false) s fun l1 s2=>aV .i64 (av s2 l1 0) fun n3=>ah a0 fun l4 o5=>bG (ag T aY (.ptr (some (l4,(o5+2)))) (.int .i64 (IntKind.wrap .i64 (n3 - 1)))) fun l6 o7=>aV .u64 (av s2 l6 o7) fun n8=>ah a0 fun l9 W=>bG (ag T aY (.ptr (some (l9,(W+2)))) (.int .i64 (IntKind.wrap .i64 (n3 - 1)))) fun Y Z=>bt (cK s2 Y Z [(.int .u64 (IntKind.wrap .u64 (n8+1)))]) fun bP=>sR bP fun X C c S V=>ah a0 fun p r=>(∀ I:AS,X bP I->aM I->ah a0 fun ab ad=>(((.ptr (some (ab,ad))):AV)=(.ptr (some (p,r)))))/\(dS (av bP p (r+18)) fun v20=>(∀ gz:AS,X bP gz->aM gz->dS (av gz p (r+18)) fun ae=>((ae:AV)=v20))/\(aR (aD bP l1 0 21) fun e=>(∀ fP:AS,X bP fP->aM fP->aR (aD fP l1 0 21) fun al=>(((.agg al):AV)=(.agg e)))/\((∀ dW:AS,X bP dW->aM dW->(True)->aR (cV T bS 1 [(0,.agg e)]) fun am=>aj (.cells am 0 false) dW fun J K=>(Ext dW K/\S 7 [.agg e] (.slc (some (J,0)) 1 1 true) K/\V 7 [.agg e] (.slc (some (J,0)) 1 1 true)))/\(∃ v,V 7 [.agg e] v)/\∀ b:AV,V 7 [.agg e] b->(∀ l:AS,X bP l->aM l->(S 7 [.agg e] b l/\True)->c l->iD (aI T bS bS v20 b l) fun w x=>((X l x/\C 8 [v20,b] w x)/\S 8 [v20,b] w x/\V 8 [v20,b] w))/\(∃ v,V 8 [v20,b] v)/\∀ m:AV,V 8 [v20,b] m->ah a0 fun y z=>(∀ kr:AS,X bP kr->aM kr->ah a0 fun an ao=>(((.ptr (some (an,ao))):AV)=(.ptr (some (y,z)))))/\(dS (av bP y (z+19)) fun xN=>(∀ A:AS,X bP A->aM A->dS (av A y (z+19)) fun ap=>((ap:AV)=xN))/\(ah a0 fun B D=>(∀ L:AS,X bP L->aM L->ah a0 fun ar aw=>(((.ptr (some (ar,aw))):AV)=(.ptr (some (B,D)))))/\(aR (aD bP B (D+2) 16) fun i=>(∀ F:AS,X bP F->aM F->aR (aD F B (D+2) 16) fun a2=>(((.agg a2):AV)=(.agg i)))/\((∀ n:AS,X bP n->aM n->(True)->aR (cV T a_ 1 [(0,.agg i)]) fun a3=>aj (.cells a3 0 false) n fun M Ht=>(Ext n Ht/\S 17 [.agg i] (.slc (some (M,0)) 1 1 true) Ht/\V 17 [.agg i] (.slc (some (M,0)) 1 1 true)))/\(∃ v,V 17 [.agg i] v)/\∀ d:AV,V 17 [.agg i] d->(∀ j:AS,X bP j->aM j->(S 7 [.agg e] b j/\(S 8 [v20,b] m j/\(S 17 [.agg i] d j/\True)))->C 8 [v20,b] m j->iD (aI T a_ a_ xN d j) fun G H=>((X j H/\C 18 [xN,d] G H)/\S 18 [xN,d] G H/\V 18 [xN,d] G))/\(∃ v,V 18 [xN,d] v)/\∀ o:AV,V 18 [xN,d] o->ah a0 fun O Q=>(∀ U:AS,X bP U->aM U->ah a0 fun a4 a5=>(((.ptr (some (a4,a5))):AV)=(.ptr (some (O,Q)))))/\(∀ k:AS,X bP k->aM k->(S 7 [.agg e] b k/\(S 8 [v20,b] m k/\(S 17 [.agg i] d k/\(S 18 [xN,d] o k/\True))))->C 18 [xN,d] o k->fu T bS k O (Q+18) m fun a6=>ah a0 fun a7 a8=>fu T a_ a6 a7 (a8+19) o fun Rz=>R (.aP []) Rz)))))))))
def xR:QA:=(.seq .leaf (.seq (.draw 12) (.ve [0,1,2,3,4,5,6,7,8,9,10,11,12,13,14,15,16,17,18,19,20] [21,22,23,24] [[],[],[],[],[],[],[],[],[7],[],[],[],[],[],[],[],[],[],[7,8,17],[],[],[],[],[],[]] [7,8,17,18] [8,18])))
theorem xS (a0:Option (Nat×Nat)) (a1:List AV) (s:AS) (R:AV->AS->Prop) (h:xQ a0 a1 s R):aa Tryz.prog jW [.ptr a0,.agg a1] s R :=
 aa.q (n:=40) (rs:=[]) (A:=xR) hT bW Tryz.func105 (by kernel_rfl) rfl rfl rfl (by kernel_rfl) (by kernel_rfl) h
def BM (a0:Option (Nat×Nat)) (a1:Int) (s:AS) (R:AV->AS->Prop):Prop :=
 aj (.cells [.int .i64 0,.int .u64 0,.str [],.slc none 0 0 true,.int .u64 0,.int .u64 0,.int .u64 0,.int .u64 0,.int .u64 0,.int .u64 0,.int .u64 0,.int .u64 0,.int .u64 0,.int .u64 0,.int .u64 0,.int .u64 0,.int .u64 0,.int .u64 0,.int .u64 0,.int .u64 0,.slc none 0 0 true] 0 false) s fun l1 s2=>aj (.cells [.int .u64 0,.int .u64 0,.int .u64 0,.int .u64 0,.int .u64 0,.int .u64 0,.int .u64 0,.int .u64 0,.int .u64 0,.int .u64 0,.int .u64 0,.int .u64 0,.int .u64 0,.int .u64 0,.int .u64 0,.int .u64 0] 0 false) s2 fun l3 s4=>bz fun O =>
 (∀ b6:Bool,∀ s7:AS,O [.bool b6] s7 ->
 af b6
 (oS (aS T ig []) fun g8=>oS (aS T aY []) fun g9=>fh (some 21) g8 (bt (cK s7 l1 0 g8) fun Q=>fh (some 16) g9 (bt (cK Q l3 0 g9) fun j=>aR (aD j l1 0 21) fun U=>aR (aD j l3 0 16) fun W=>R (.aP [.agg U,.agg W,.bool false]) j)))
 (sR s7 fun X C c S V=>ah a0 fun k l=>(∀ A:AS,X s7 A->aM A->ah a0 fun Y Z=>(((.ptr (some (Y,Z))):AV)=(.ptr (some (k,l)))))/\(dS (av s7 k (l+18)) fun v20=>(∀ gz:AS,X s7 gz->aM gz->dS (av gz k (l+18)) fun ab=>((ab:AV)=v20))/\(bG (ag T bS v20 (.int .i64 a1)) fun B D=>aR (aD s7 B D 21) fun d=>(∀ m:AS,X s7 m->aM m->aR (aD m B D 21) fun ad=>(((.agg ad):AV)=(.agg d)))/\((∀ i:AS,X s7 i->aM i->(True)->aa Tryz.prog ee [.agg d] i fun ae F=>∃ n:List AV,ae=.agg n/\((Ext i F/\S 7 [(.func ee []),.agg d] (.agg n) F/\V 7 [(.func ee []),.agg d] (.agg n))))/\(∃ v,V 7 [(.func ee []),.agg d] v)/\∀ G:AV,V 7 [(.func ee []),.agg d] G->∃ b:List AV,G=.agg b/\(ah a0 fun o p=>(∀ H:AS,X s7 H->aM H->ah a0 fun al am=>(((.ptr (some (al,am))):AV)=(.ptr (some (o,p)))))/\(dS (av s7 o (p+19)) fun I=>(∀ r:AS,X s7 r->aM r->dS (av r o (p+19)) fun xN=>((xN:AV)=I))/\(bG (ag T a_ I (.int .i64 a1)) fun J K=>aR (aD s7 J K 16) fun w=>(∀ x:AS,X s7 x->aM x->aR (aD x J K 16) fun an=>(((.agg an):AV)=(.agg w)))/\((∀ tw:AS,X s7 tw->aM tw->(S 7 [(.func ee []),.agg d] (.agg b) tw/\True)->c tw->fh (some 21) b (bt (cK tw l1 0 b) fun y=>((X tw y/\C 15 [(.ptr (some (l1,0))),.agg b] (.aP []) y)/\S 15 [(.ptr (some (l1,0))),.agg b] (.aP []) y/\V 15 [(.ptr (some (l1,0))),.agg b] (.aP []))))/\(∃ v,V 15 [(.ptr (some (l1,0))),.agg b] v)/\∀ L:AV,V 15 [(.ptr (some (l1,0))),.agg b] L->L=.aP []/\(∀ yY:AS,X s7 yY->aM yY->(S 7 [(.func ee []),.agg d] (.agg b) yY/\(S 15 [(.ptr (some (l1,0))),.agg b] (.aP []) yY/\True))->C 15 [(.ptr (some (l1,0))),.agg b] (.aP []) yY->fh (some 16) w (bt (cK yY l3 0 w) fun z=>aR (aD z l1 0 21) fun ao=>aR (aD z l3 0 16) fun ap=>R (.aP [.agg ao,.agg ap,.bool true]) z))))))))))) /\
 (aa Tryz.prog dg [.ptr a0] s4 fun ar e=>∃ M:Bool,ar=.bool M/\(af (!M) (O [.bool true] e) (af (decide ((a1:Int)<0)) (O [.bool true] e) (ah a0 fun aw a2=>dS (av e aw (a2+18)) fun a3=>aV .i64 (aQ T bS a3 e) fun a4=>O [(.bool (decide ((a1:Int)>=a4)))] e))))
def BN:QA:=(.seq .leaf (.seq (.join [(22,.bool)] [(7,22)] .leaf (.cond (.seq .leaf .leaf) .leaf)) (.seq (.ve [0,1,2,3,4,5,6,7,8,9,10,11,12,13,14,15] [16,17] [[],[],[],[],[],[],[],[],[],[],[],[],[],[],[],[7]] [7,15] [15]) .leaf)))
theorem BO (a0:Option (Nat×Nat)) (a1:Int) (s:AS) (R:AV->AS->Prop) (h:BM a0 a1 s R):aa Tryz.prog nC [.ptr a0,.int .i64 a1] s R :=
 aa.q (n:=40) (rs:=[.cell 4 52,.cell 5 49,.tmp 6]) (A:=BN) hT bW Tryz.func159 (by kernel_rfl) rfl rfl rfl (by kernel_rfl) (by kernel_rfl) h
def pB (a0:AV) (s:AS) (R:AV->AS->Prop):Prop :=
 aV .i64 (aQ T bS a0 s) fun b=>aV .i64 (aQ T bS a0 s) fun n2=>dS (aZ T bS a0 none (some (.int .i64 b)) (some (.int .i64 n2))) fun c=>R c s
def pC:QA:=(.seq .leaf (.seq .leaf .leaf))
theorem pD (a0:AV) (s:AS) (R:AV->AS->Prop) (h:pB a0 s R):aa Tryz.prog bf [a0] s R :=
 aa.q (n:=9) (rs:=[.tmp 2]) (A:=pC) hT bW Tryz.func156 (by kernel_rfl) rfl rfl rfl (by kernel_rfl) (by kernel_rfl) h
def nN (a0:AV) (s:AS) (R:AV->AS->Prop):Prop :=
 aV .i64 (aQ T a_ a0 s) fun b=>aV .i64 (aQ T a_ a0 s) fun n2=>dS (aZ T a_ a0 none (some (.int .i64 b)) (some (.int .i64 n2))) fun c=>R c s
def nO:QA:=(.seq .leaf (.seq .leaf .leaf))
theorem nP (a0:AV) (s:AS) (R:AV->AS->Prop) (h:nN a0 s R):aa Tryz.prog bp [a0] s R :=
 aa.q (n:=9) (rs:=[.tmp 2]) (A:=nO) hT bW Tryz.func157 (by kernel_rfl) rfl rfl rfl (by kernel_rfl) (by kernel_rfl) h
def p0 (a0:AV) (s:AS) (R:AV->AS->Prop):Prop :=
 sJ (Qu T bR true a0 (.slc none 0 0 true)) fun b=>af b
 (R (.slc none 0 0 true) s)
 (aR (cV T bR 0 []) fun c=>aj (.cells c 0 false) s fun l3 s4=>iD (aI T bR bR (.slc (some (l3,0)) 0 0 true) a0 s4) fun d s6=>R d s6)
def p_:QA:=(.seq .leaf (.seq (.seq .leaf (.cond (.seq .leaf .leaf) .leaf)) (.seq .leaf .leaf)))
theorem qa (a0:AV) (s:AS) (R:AV->AS->Prop) (h:p0 a0 s R):aa Tryz.prog bC [a0] s R :=
 aa.q (n:=8) (rs:=[.tmp 2]) (A:=p_) hT bW Tryz.func170 (by kernel_rfl) rfl rfl rfl (by kernel_rfl) (by kernel_rfl) h
end Go.Proofs.YtohgmogbabkkeaaGreat
end

section
set_option maxRecDepth 100000
set_option maxHeartbeats 4000000
namespace Go.Proofs.YtohgmogbabkkeaaGreat
open Go.Am
def II  (s:AS) (R:AV->AS->Prop):Prop :=
 aj (.cells [.int .u64 0] 0 false) s fun l1 s2=>bt (cK s2 l1 0 [.int .u64 2]) fun s3=>bB fun l G=>l G [.slc none 0 0 true,(.ptr (some (l1,0)))] s3 /\
 ∀ F:Nat,∀ d:AV,∀ j:Option (Nat×Nat),∀ k:AS,l F [d,.ptr j] k ->
 aV .i64 (aQ T fm d k) fun m=>af (decide ((m:Int)<64))
 (bz fun c =>
 (∀ e:AV,∀ bP:AS,c [e] bP ->
 ah j fun lC n=>aV .u64 (av bP lC n) fun o=>aj (.cells [.int .u64 0] 0 false) bP fun b eE=>bt (cK eE b 0 [.int .u64 o]) fun gz=>aV .u64 (av gz b 0) fun p=>bt (cK gz b 0 [(.int .u64 (IntKind.wrap .u64 (p+1)))]) fun fL=>∃ m',m'<F/\l m' [e,(.ptr (some (b,0)))] fL) /\
 (aa Tryz.prog bZ [d,(.func qE [.ptr j])] k fun r tW=>∃ i:Bool,r=.bool i/\(af (!i)
 (ah j fun w x=>aV .u64 (av tW w x) fun y=>aR (cV T fm 1 [(0,.int .u64 y)]) fun z=>aj (.cells z 0 false) tW fun A B=>iD (aI T fm fm d (.slc (some (A,0)) 1 1 true) B) fun C D=>c [C] D)
 (c [d] tW))))
 (R d k)
def IJ:QA:=(.seq .leaf (.seq .leaf (.seq (.seq .leaf (.wrap (.loop [(1,.any),(2,.ptr)] [(1,16)] (.seq (.seq .leaf (.cond .leaf .leaf)) (.join [(1,.any)] [(1,1),(8,15)] (.wrap (.seq .leaf (.cond .leaf .leaf))) (.seq (.seq .leaf .leaf) .leaf)))))) (.seq .leaf .leaf))))
theorem IK  (s:AS) (R:AV->AS->Prop) (h:II  s R):aa Tryz.prog uD [] s R :=
 aa.q (n:=18) (rs:=[.tmp 0]) (A:=IJ) hT bW Tryz.func258 (by kernel_rfl) rfl rfl rfl (by kernel_rfl) (by kernel_rfl) h
def E2 (a0:Int) (c0:Option (Nat×Nat)) (s:AS) (R:AV->AS->Prop):Prop :=
 ah c0 fun l1 o2=>aV .u64 (av s l1 o2) fun b=>NZ a0 (R (.bool ((Int.tmod b a0:Int)==0)) s)
def E3:QA:=(.seq .leaf (.seq .leaf .leaf))
theorem E_ (a0:Int) (c0:Option (Nat×Nat)) (s:AS) (R:AV->AS->Prop) (h:E2 a0 c0 s R):aa Tryz.prog qE [.int .u64 a0,.ptr c0] s R :=
 aa.q (n:=8) (rs:=[.tmp 3]) (A:=E3) hT bW Tryz.func291 (by kernel_rfl) rfl rfl rfl (by kernel_rfl) (by kernel_rfl) h
def IL (a0:Int) (s:AS) (R:AV->AS->Prop):Prop :=
 aj (.cells [.int .u64 0,.int .u64 0] 0 false) s fun l1 s2=>aa Tryz.prog fY [.int .u64 a0,.int .u64 a0] s2 fun e s4=>∃ b:Int,∃ c:Int,e=.aP [.int .u64 b,.int .u64 c]/\(oS (aS T fF [(0,.int .u64 b),(1,.int .u64 c)]) fun d=>fh (some 2) d (bt (cK s4 l1 0 d) fun s8=>aR (aD s8 l1 0 2) fun i=>R (.agg i) s8))
def IM:QA:=(.seq .leaf (.seq .leaf (.seq .leaf .leaf)))
theorem IN (a0:Int) (s:AS) (R:AV->AS->Prop) (h:IL a0 s R):aa Tryz.prog fA [.int .u64 a0] s R :=
 aa.q (n:=14) (rs:=[.cell 2 341]) (A:=IM) hT bW Tryz.func297 (by kernel_rfl) rfl rfl rfl (by kernel_rfl) (by kernel_rfl) h
def M_ (a0:Int) (s:AS) (R:AV->AS->Prop):Prop :=
 aj (.cells [.int .u64 0,.int .u64 0] 0 false) s fun l1 s2=>aa Tryz.prog fA [.int .u64 a0] s2 fun F s4=>∃ m:List AV,F=.agg m/\(aj (.cells [.int .u64 0,.int .u64 0] 0 false) s4 fun n s7=>fh (some 2) m (bt (cK s7 n 0 m) fun s8=>bG (ag T fF (.ptr (some (n,0))) (.int .i64 1)) fun G o=>aV .u64 (av s8 G o) fun p=>aa Tryz.prog fY [.int .u64 p,.int .u64 a0] s8 fun r bP=>∃ d:Int,∃ b:Int,r=.aP [.int .u64 d,.int .u64 b]/\(bG (ag T fF (.ptr (some (n,0))) (.int .i64 0)) fun q_ w=>aV .u64 (av bP q_ w) fun x=>aa Tryz.prog fY [.int .u64 x,.int .u64 a0] bP fun y gi=>∃ e:Int,∃ i:Int,y=.aP [.int .u64 e,.int .u64 i]/\(aa Tryz.prog rJ [.int .u64 i,.int .u64 d,.int .u64 0] gi fun z A=>∃ c:Int,∃ j:Int,z=.aP [.int .u64 c,.int .u64 j]/\(NN 32 (NN 32 (aV .u64 (bA .or .u64 (IntKind.wrap .u64 ((IntKind.wrap .u64 (e+j))*2 ^ min (Int.toNat 32) (IntKind.bits .u64))) (Int.fdiv c (2 ^ min (Int.toNat 32) (IntKind.bits .u64)))) fun B=>NN 32 (NN 32 (aV .u64 (bA .or .u64 (IntKind.wrap .u64 (c*2 ^ min (Int.toNat 32) (IntKind.bits .u64))) (Int.fdiv b (2 ^ min (Int.toNat 32) (IntKind.bits .u64)))) fun C=>oS (aS T fF [(0,.int .u64 B),(1,.int .u64 C)]) fun k=>NN 32 (fh (some 2) k (bt (cK A l1 0 k) fun l=>aR (aD l l1 0 2) fun D=>R (.aP [.agg D,(.bool ((IntKind.wrap .u64 (b*2 ^ min (Int.toNat 32) (IntKind.bits .u64)):Int) != 0))]) l)))))))))))
def Na:QA:=(.seq .leaf (.seq .leaf (.seq .leaf (.seq .leaf (.seq .leaf (.seq .leaf (.seq .leaf .leaf)))))))
theorem Nb (a0:Int) (s:AS) (R:AV->AS->Prop) (h:M_ a0 s R):aa Tryz.prog yS [.int .u64 a0] s R :=
 aa.q (n:=50) (rs:=[.cell 2 341,.tmp 3]) (A:=Na) hT bW Tryz.func294 (by kernel_rfl) rfl rfl rfl (by kernel_rfl) (by kernel_rfl) h
def KP (a0:List AV) (a1:Bool) (a2:Int) (s:AS) (R:AV->AS->Prop):Prop :=
 cH a0 (aj (.cells a0 0 false) s fun l1 s2=>bG (ag T fF (.ptr (some (l1,0))) (.int .i64 0)) fun l3 d=>aV .u64 (av s2 l3 d) fun e=>af (decide ((e:Int)>a2)) (R (.bool true) s2) (bG (ag T fF (.ptr (some (l1,0))) (.int .i64 0)) fun i j=>aV .u64 (av s2 i j) fun k=>af ((k:Int)==a2) (bG (ag T fF (.ptr (some (l1,0))) (.int .i64 1)) fun l b=>aV .u64 (av s2 l b) fun c=>af (decide ((c:Int)>0)) (R (.bool true) s2) (R (.bool a1) s2)) (R (.bool false) s2)))
def KQ:QA:=(.seq .leaf (.seq .leaf .leaf))
theorem KR (a0:List AV) (a1:Bool) (a2:Int) (s:AS) (R:AV->AS->Prop) (h:KP a0 a1 a2 s R):aa Tryz.prog rI [.agg a0,.bool a1,.int .u64 a2] s R :=
 aa.q (n:=25) (rs:=[.tmp 6]) (A:=KQ) hT bW Tryz.func295 (by kernel_rfl) rfl rfl rfl (by kernel_rfl) (by kernel_rfl) h
def Nc (a0:AV) (s:AS) (R:AV->AS->Prop):Prop :=
 bz fun l =>
 (∀ n2:Int,∀ s3:AS,l [.int .u64 n2] s3 ->
 R (.int .u32 (IntKind.wrap .u32 n2)) s3) /\
 (bB fun e m=>e m [.int .u64 0,.int .i64 0] s /\
 ∀ j:Nat,∀ i:Int,∀ b:Int,∀ k:AS,e j [.int .u64 i,.int .i64 b] k ->
 af (decide ((b:Int)<38))
 (NN (IntKind.wrap .i64 (37 - b)) (aV .u64 (bA .or .u64 i (IntKind.wrap .u64 (1*2 ^ min (Int.toNat (IntKind.wrap .i64 (37 - b))) (IntKind.bits .u64)))) fun c=>er Tryz.prog a0 [.int .u64 c] k fun v11 dI=>∃ d:Bool,v11=.bool d/\(af (!d)
 (∃ m',m'<j/\e m' [.int .u64 c,(.int .i64 (IntKind.wrap .i64 (b+1)))] dI)
 (∃ m',m'<j/\e m' [.int .u64 i,(.int .i64 (IntKind.wrap .i64 (b+1)))] dI))))
 (l [.int .u64 i] k))
def Nd:QA:=(.seq .leaf (.seq .leaf (.join [(3,.int .u64)] [(3,19)] (.seq .leaf (.wrap (.loop [(3,.int .u64),(6,.int .i64)] [(3,19)] (.seq .leaf (.seq (.cond .leaf .leaf) (.seq (.wrap (.seq .leaf (.seq .leaf (.seq .leaf (.cond .leaf .leaf))))) .leaf)))))) (.seq .leaf .leaf))))
theorem Nf (a0:AV) (s:AS) (R:AV->AS->Prop) (h:Nc a0 s R):aa Tryz.prog uE [a0] s R :=
 aa.q (n:=22) (rs:=[.tmp 2]) (A:=Nd) hT bW Tryz.func292 (by kernel_rfl) rfl rfl rfl (by kernel_rfl) (by kernel_rfl) h
def Fa (a0:Int) (s:AS) (R:AV->AS->Prop):Prop :=
 aj (.cells [.int .u64 a0] 0 false) s fun l1 s2=>aa Tryz.prog uE [(.func nJ [(.ptr (some (l1,0)))])] s2 fun c s4=>∃ b:Int,c=.int .u32 b/\(R (.int .u32 b) s4)
def Fb:QA:=(.seq .leaf (.seq .leaf .leaf))
theorem Fe (a0:Int) (s:AS) (R:AV->AS->Prop) (h:Fa a0 s R):aa Tryz.prog qD [.int .u64 a0] s R :=
 aa.q (n:=5) (rs:=[.tmp 2]) (A:=Fb) hT bW Tryz.func259 (by kernel_rfl) rfl rfl rfl (by kernel_rfl) (by kernel_rfl) h
def BP (a0:Int) (c0:Option (Nat×Nat)) (s:AS) (R:AV->AS->Prop):Prop :=
 aa Tryz.prog yS [.int .u64 a0] s fun l s2=>∃ c:List AV,∃ j:Bool,l=.aP [.agg c,.bool j]/\(aj (.cells [.int .u64 0,.int .u64 0] 0 false) s2 fun k s6=>fh (some 2) c (bt (cK s6 k 0 c) fun s7=>aR (aD s7 k 0 2) fun m=>ah c0 fun n d=>aV .u64 (av s7 n d) fun e=>aa Tryz.prog rI [.agg m,.bool j,.int .u64 e] s7 fun i bP=>∃ b:Bool,i=.bool b/\(R (.bool b) bP)))
def BQ:QA:=(.seq .leaf (.seq .leaf (.seq .leaf .leaf)))
theorem BR (a0:Int) (c0:Option (Nat×Nat)) (s:AS) (R:AV->AS->Prop) (h:BP a0 c0 s R):aa Tryz.prog nJ [.int .u64 a0,.ptr c0] s R :=
 aa.q (n:=15) (rs:=[.tmp 3]) (A:=BQ) hT bW Tryz.func293 (by kernel_rfl) rfl rfl rfl (by kernel_rfl) (by kernel_rfl) h
def KS (a0:Int) (s:AS) (R:AV->AS->Prop):Prop :=
 aj (.cells [.int .u64 a0] 0 false) s fun l1 s2=>aa Tryz.prog uE [(.func sn [(.ptr (some (l1,0)))])] s2 fun c s4=>∃ b:Int,c=.int .u32 b/\(R (.int .u32 b) s4)
def KU:QA:=(.seq .leaf (.seq .leaf .leaf))
theorem KV (a0:Int) (s:AS) (R:AV->AS->Prop) (h:KS a0 s R):aa Tryz.prog wH [.int .u64 a0] s R :=
 aa.q (n:=5) (rs:=[.tmp 2]) (A:=KU) hT bW Tryz.func260 (by kernel_rfl) rfl rfl rfl (by kernel_rfl) (by kernel_rfl) h
def Gn (a0:Int) (c0:Option (Nat×Nat)) (s:AS) (R:AV->AS->Prop):Prop :=
 gy fun S V=>(∀ s1:AS,Ext s s1->aM s1->(True)->aa Tryz.prog fA [.int .u64 a0] s1 fun k s3=>∃ d:List AV,k=.agg d/\((Ext s1 s3/\S 1 [(.func fA []),.int .u64 a0] (.agg d) s3/\V 1 [(.func fA []),.int .u64 a0] (.agg d))))/\(∃ v,V 1 [(.func fA []),.int .u64 a0] v)/\∀ j:AV,V 1 [(.func fA []),.int .u64 a0] j->∃ e:List AV,j=.agg e/\(ah c0 fun l m=>aV .u64 (av s l m) fun n=>∀ b:AS,Ext s b->aM b->(S 1 [(.func fA []),.int .u64 a0] (.agg e) b/\True)->aa Tryz.prog rI [.agg e,.bool false,.int .u64 n] b fun i bP=>∃ c:Bool,i=.bool c/\(R (.bool c) bP))
def Gp:QA:=(.seq .leaf (.seq (.gR 3 [[],[],[]] [1]) .leaf))
theorem Gq (a0:Int) (c0:Option (Nat×Nat)) (s:AS) (R:AV->AS->Prop) (h:Gn a0 c0 s R):aa Tryz.prog sn [.int .u64 a0,.ptr c0] s R :=
 aa.q (n:=8) (rs:=[.tmp 3]) (A:=Gp) hT bW Tryz.func296 (by kernel_rfl) rfl rfl rfl (by kernel_rfl) (by kernel_rfl) h
def KW  (s:AS) (R:AV->AS->Prop):Prop :=
 aj (.cells (List.replicate 72 (.int .u32 0)) 0 false) s fun l1 s2=>aj (.cells (List.replicate 72 (.int .u32 0)) 0 false) s2 fun l3 s4=>aa Tryz.prog uD [] s4 fun z s6=>aV .i64 (aQ T fm z s6) fun A=>bB fun l B=>l B [.int .i64 0] s6 /\
 ∀ c:Nat,∀ b:Int,∀ dI:AS,l c [.int .i64 b] dI ->
 af (decide ((b:Int)<A))
 (bG (ag T fm z (.int .i64 b)) fun m n=>aV .u64 (av dI m n) fun d=>aa Tryz.prog qD [.int .u64 d] dI fun nM lK=>∃ e:Int,nM=.int .u32 e/\(bG (ag T dH (.ptr (some (l3,8))) (.int .i64 b)) fun zF o=>bt (cK lK zF o [.int .u32 e]) fun fL=>af (decide ((b:Int)<8))
 (aa Tryz.prog wH [.int .u64 d] fL fun p tW=>∃ i:Int,p=.int .u32 i/\(bG (ag T cj (.ptr (some (l3,0))) (.int .i64 b)) fun r w=>bt (cK tW r w [.int .u32 i]) fun x=>∃ m',m'<c/\l m' [(.int .i64 (IntKind.wrap .i64 (b+1)))] x))
 (∃ m',m'<c/\l m' [(.int .i64 (IntKind.wrap .i64 (b+1)))] fL)))
 (aR (aD dI l3 0 72) fun j=>fh (some 72) j (bt (cK dI l1 0 j) fun k=>aR (aD k l1 0 72) fun y=>R (.agg y) k))
def KX:QA:=(.seq .leaf (.seq .leaf (.seq (.seq .leaf (.wrap (.loop [(6,.int .i64)] [(2,3),(6,23)] (.seq .leaf (.seq (.cond .leaf .leaf) (.seq (.wrap (.seq .leaf (.seq .leaf (.seq .leaf (.cond .leaf .leaf))))) .leaf)))))) (.seq .leaf .leaf))))
theorem KY  (s:AS) (R:AV->AS->Prop) (h:KW  s R):aa Tryz.prog wG [] s R :=
 aa.q (n:=25) (rs:=[.cell 0 288]) (A:=KX) hT bW Tryz.func219 (by kernel_rfl) rfl rfl rfl (by kernel_rfl) (by kernel_rfl) h
def Ac (a0:Option (Nat×Nat)) (a1:AV) (s:AS) (R:AV->AS->Prop):Prop :=
 aj (.cells (List.replicate 64 (.int .u32 0)) 0 false) s fun l1 s2=>bz fun J3 =>
 (∀ s4:AS,J3 [] s4 ->
 bz fun J5 =>
 (∀ s6:AS,J5 [] s6 ->
 ah a0 fun l7 o8=>bG (ag T cj (.ptr (some (l7,o8))) (.int .i64 0)) fun l9 dr=>aV .u32 (av s6 l9 dr) fun ds=>ah a0 fun qZ dt=>bG (ag T cj (.ptr (some (qZ,dt))) (.int .i64 1)) fun lC du=>aV .u32 (av s6 lC du) fun dv=>ah a0 fun dy dC=>bG (ag T cj (.ptr (some (dy,dC))) (.int .i64 2)) fun zF dE=>aV .u32 (av s6 zF dE) fun dT=>ah a0 fun d' ea=>bG (ag T cj (.ptr (some (d',ea))) (.int .i64 3)) fun eb ed=>aV .u32 (av s6 eb ed) fun eg=>ah a0 fun eh ei=>bG (ag T cj (.ptr (some (eh,ei))) (.int .i64 4)) fun ej em=>aV .u32 (av s6 ej em) fun et=>ah a0 fun ev eA=>bG (ag T cj (.ptr (some (ev,eA))) (.int .i64 5)) fun eB eI=>aV .u32 (av s6 eB eI) fun eQ=>ah a0 fun e0 e1=>bG (ag T cj (.ptr (some (e0,e1))) (.int .i64 6)) fun e2 e3=>aV .u32 (av s6 e2 e3) fun e4=>ah a0 fun e5 e6=>bG (ag T cj (.ptr (some (e5,e6))) (.int .i64 7)) fun e7 e8=>aV .u32 (av s6 e7 e8) fun e9=>bz fun bd =>
 (∀ be:Int,∀ bh:Int,∀ bi:Int,∀ bj:Int,∀ bk:Int,∀ bl:Int,∀ bm:Int,∀ bo:Int,∀ bs:AS,bd [.int .u32 be,.int .u32 bh,.int .u32 bi,.int .u32 bj,.int .u32 bk,.int .u32 bl,.int .u32 bm,.int .u32 bo] bs ->
 oS (aS T cj [(0,.int .u32 be),(1,.int .u32 bh),(2,.int .u32 bi),(3,.int .u32 bj),(4,.int .u32 bk),(5,.int .u32 bl),(6,.int .u32 bm),(7,.int .u32 bo)]) fun e'=>bB fun a' fa=>a' fa [.int .i64 0] bs /\
 ∀ bx:Nat,∀ D:Int,∀ W:AS,a' bx [.int .i64 D] W ->
 af (decide ((D:Int)<8))
 (aV .u32 (jd T cj (.agg e') (.int .i64 D)) fun fb=>ah a0 fun fc fe=>bG (ag T cj (.ptr (some (fc,fe))) (.int .i64 D)) fun fg fi=>aV .u32 (av W fg fi) fun fp=>ah a0 fun fr fs=>bG (ag T cj (.ptr (some (fr,fs))) (.int .i64 D)) fun ft fv=>bt (cK W ft fv [(.int .u32 (IntKind.wrap .u32 (fp+fb)))]) fun fw=>∃ m',m'<bx/\a' m' [(.int .i64 (IntKind.wrap .i64 (D+1)))] fw)
 (R (.aP []) W)) /\
 (bB fun ba fx=>ba fx [.int .u32 ds,.int .u32 dv,.int .u32 dT,.int .u32 eg,.int .u32 et,.int .u32 eQ,.int .u32 e4,.int .u32 e9,.int .i64 0] s6 /\
 ∀ b0:Nat,∀ F:Int,∀ G:Int,∀ H:Int,∀ bb:Int,∀ j:Int,∀ X:Int,∀ Y:Int,∀ Z:Int,∀ I:Int,∀ x:AS,ba b0 [.int .u32 F,.int .u32 G,.int .u32 H,.int .u32 bb,.int .u32 j,.int .u32 X,.int .u32 Y,.int .u32 Z,.int .i64 I] x ->
 af (decide ((I:Int)<64))
 (gy fun S V=>(∀ ab:AS,Ext x ab->aM ab->(True)->aR (cV T gG 3 [(0,.int .i64 6),(1,.int .i64 11),(2,.int .i64 25)]) fun fz=>aj (.cells fz 0 false) ab fun b1 b2=>(Ext ab b2/\S 3 [.int .i64 6,.int .i64 11,.int .i64 25] (.slc (some (b1,0)) 3 3 true) b2/\V 3 [.int .i64 6,.int .i64 11,.int .i64 25] (.slc (some (b1,0)) 3 3 true)))/\(∃ v,V 3 [.int .i64 6,.int .i64 11,.int .i64 25] v)/\∀ o:AV,V 3 [.int .i64 6,.int .i64 11,.int .i64 25] o->(∀ J:AS,Ext x J->aM J->(S 3 [.int .i64 6,.int .i64 11,.int .i64 25] o J/\True)->aa Tryz.prog aE [.int .u32 j,o] J fun f' b3=>∃ bc:Int,f'=.int .u32 bc/\((Ext J b3/\S 4 [(.func aE []),.int .u32 j,o] (.int .u32 bc) b3/\V 4 [(.func aE []),.int .u32 j,o] (.int .u32 bc))))/\(∃ v,V 4 [(.func aE []),.int .u32 j,o] v)/\∀ b4:AV,V 4 [(.func aE []),.int .u32 j,o] b4->∃ ad:Int,b4=.int .u32 ad/\(aV .u32 (bA .and .u32 j X) fun ga=>aV .u32 (Uk .xor (.int .u32 j)) fun gb=>aV .u32 (bA .and .u32 gb Y) fun b5=>aV .u32 (bA .xor .u32 ga b5) fun ae=>ah a0 fun b6 b7=>bG (ag T dH (.ptr (some (b6,(b7+8)))) (.int .i64 I)) fun b8 b9=>aV .u32 (av x b8 b9) fun al=>bG (ag T dH (.ptr (some (l1,0))) (.int .i64 I)) fun b' ca=>aV .u32 (av x b' ca) fun am=>∀ p:AS,Ext x p->aM p->(S 3 [.int .i64 6,.int .i64 11,.int .i64 25] o p/\(S 4 [(.func aE []),.int .u32 j,o] (.int .u32 ad) p/\True))->aR (cV T gG 3 [(0,.int .i64 2),(1,.int .i64 13),(2,.int .i64 22)]) fun cb=>aj (.cells cb 0 false) p fun cc cd=>aa Tryz.prog aE [.int .u32 F,(.slc (some (cc,0)) 3 3 true)] cd fun ce cf=>∃ an:Int,ce=.int .u32 an/\(aV .u32 (bA .and .u32 F G) fun ch=>aV .u32 (bA .and .u32 F H) fun ci=>aV .u32 (bA .xor .u32 ch ci) fun ck=>aV .u32 (bA .and .u32 G H) fun cl=>aV .u32 (bA .xor .u32 ck cl) fun cm=>∃ m',m'<b0/\ba m' [(.int .u32 (IntKind.wrap .u32 ((IntKind.wrap .u32 ((IntKind.wrap .u32 ((IntKind.wrap .u32 ((IntKind.wrap .u32 (Z+ad))+ae))+al))+am))+(IntKind.wrap .u32 (an+cm))))),.int .u32 F,.int .u32 G,.int .u32 H,(.int .u32 (IntKind.wrap .u32 (bb+(IntKind.wrap .u32 ((IntKind.wrap .u32 ((IntKind.wrap .u32 ((IntKind.wrap .u32 (Z+ad))+ae))+al))+am))))),.int .u32 j,.int .u32 X,.int .u32 Y,(.int .i64 (IntKind.wrap .i64 (I+1)))] cf)))
 (bd [.int .u32 F,.int .u32 G,.int .u32 H,.int .u32 bb,.int .u32 j,.int .u32 X,.int .u32 Y,.int .u32 Z] x))) /\
 (bB fun K cn=>K cn [.int .i64 16] s4 /\
 ∀ ao:Nat,∀ e:Int,∀ b:AS,K ao [.int .i64 e] b ->
 af (decide ((e:Int)<64))
 (bG (ag T dH (.ptr (some (l1,0))) (.int .i64 (IntKind.wrap .i64 (e - 15)))) fun cp cr=>aV .u32 (av b cp cr) fun i=>bG (ag T dH (.ptr (some (l1,0))) (.int .i64 (IntKind.wrap .i64 (e - 2)))) fun cs cu=>aV .u32 (av b cs cu) fun k=>gy fun S V=>bG (ag T dH (.ptr (some (l1,0))) (.int .i64 (IntKind.wrap .i64 (e - 16)))) fun cv cw=>aV .u32 (av b cv cw) fun cx=>(∀ y:AS,Ext b y->aM y->(True)->aR (cV T gG 2 [(0,.int .i64 7),(1,.int .i64 18)]) fun cy=>aj (.cells cy 0 false) y fun ap ar=>(Ext y ar/\S 7 [.int .i64 7,.int .i64 18] (.slc (some (ap,0)) 2 2 true) ar/\V 7 [.int .i64 7,.int .i64 18] (.slc (some (ap,0)) 2 2 true)))/\(∃ v,V 7 [.int .i64 7,.int .i64 18] v)/\∀ c:AV,V 7 [.int .i64 7,.int .i64 18] c->(∀ r:AS,Ext b r->aM r->(S 7 [.int .i64 7,.int .i64 18] c r/\True)->aa Tryz.prog aE [.int .u32 i,c] r fun cz aw=>∃ L:Int,cz=.int .u32 L/\((Ext r aw/\S 8 [(.func aE []),.int .u32 i,c] (.int .u32 L) aw/\V 8 [(.func aE []),.int .u32 i,c] (.int .u32 L))))/\(∃ v,V 8 [(.func aE []),.int .u32 i,c] v)/\∀ a2:AV,V 8 [(.func aE []),.int .u32 i,c] a2->∃ z:Int,a2=.int .u32 z/\(NN 3 (aV .u32 (bA .xor .u32 z (Int.fdiv i (2 ^ min (Int.toNat 3) (IntKind.bits .u32)))) fun cA=>bG (ag T dH (.ptr (some (l1,0))) (.int .i64 (IntKind.wrap .i64 (e - 7)))) fun cB cC=>aV .u32 (av b cB cC) fun c0=>(∀ A:AS,Ext b A->aM A->(True)->aR (cV T gG 2 [(0,.int .i64 17),(1,.int .i64 19)]) fun c1=>aj (.cells c1 0 false) A fun a3 a4=>(Ext A a4/\S 20 [.int .i64 17,.int .i64 19] (.slc (some (a3,0)) 2 2 true) a4/\V 20 [.int .i64 17,.int .i64 19] (.slc (some (a3,0)) 2 2 true)))/\(∃ v,V 20 [.int .i64 17,.int .i64 19] v)/\∀ d:AV,V 20 [.int .i64 17,.int .i64 19] d->(∀ l:AS,Ext b l->aM l->(S 7 [.int .i64 7,.int .i64 18] c l/\(S 8 [(.func aE []),.int .u32 i,c] (.int .u32 z) l/\(S 20 [.int .i64 17,.int .i64 19] d l/\True)))->aa Tryz.prog aE [.int .u32 k,d] l fun c2 a5=>∃ M:Int,c2=.int .u32 M/\((Ext l a5/\S 21 [(.func aE []),.int .u32 k,d] (.int .u32 M) a5/\V 21 [(.func aE []),.int .u32 k,d] (.int .u32 M))))/\(∃ v,V 21 [(.func aE []),.int .u32 k,d] v)/\∀ a6:AV,V 21 [(.func aE []),.int .u32 k,d] a6->∃ O:Int,a6=.int .u32 O/\(NN 10 (aV .u32 (bA .xor .u32 O (Int.fdiv k (2 ^ min (Int.toNat 10) (IntKind.bits .u32)))) fun c3=>∀ m:AS,Ext b m->aM m->(S 7 [.int .i64 7,.int .i64 18] c m/\(S 8 [(.func aE []),.int .u32 i,c] (.int .u32 z) m/\(S 20 [.int .i64 17,.int .i64 19] d m/\(S 21 [(.func aE []),.int .u32 k,d] (.int .u32 O) m/\True))))->bG (ag T dH (.ptr (some (l1,0))) (.int .i64 e)) fun c4 c5=>bt (cK m c4 c5 [(.int .u32 (IntKind.wrap .u32 ((IntKind.wrap .u32 ((IntKind.wrap .u32 (cx+cA))+c0))+c3)))]) fun c6=>∃ m',m'<ao/\K m' [(.int .i64 (IntKind.wrap .i64 (e+1)))] c6)))))
 (J5 [] b))) /\
 (bB fun Q c7=>Q c7 [.int .i64 0] s2 /\
 ∀ a7:Nat,∀ n:Int,∀ B:AS,Q a7 [.int .i64 n] B ->
 af (decide ((n:Int)<16))
 (dS (aZ T aq a1 (some (.int .i64 (IntKind.wrap .i64 (4*n)))) (some (.int .i64 (IntKind.wrap .i64 ((IntKind.wrap .i64 (4*n))+4)))) none) fun a8=>aV .i64 (aQ T aq a8 B) fun c8=>bB fun U c9=>U c9 [.int .i64 0] B /\
 ∀ a9:Nat,∀ C:Int,∀ w:AS,U a9 [.int .i64 C] w ->
 af (decide ((C:Int)<c8))
 (bG (ag T aq a8 (.int .i64 C)) fun c' da=>aV .u8 (av w c' da) fun db=>bG (ag T dH (.ptr (some (l1,0))) (.int .i64 n)) fun dc dd=>aV .u32 (av w dc dd) fun df=>NN 8 (aV .u32 (bA .or .u32 (IntKind.wrap .u32 (df*2 ^ min (Int.toNat 8) (IntKind.bits .u32))) (IntKind.wrap .u32 db)) fun dk=>bG (ag T dH (.ptr (some (l1,0))) (.int .i64 n)) fun dl dm=>bt (cK w dl dm [.int .u32 dk]) fun dp=>∃ m',m'<a9/\U m' [(.int .i64 (IntKind.wrap .i64 (C+1)))] dp))
 (∃ m',m'<a7/\Q m' [(.int .i64 (IntKind.wrap .i64 (n+1)))] w))
 (J3 [] B))
def Ad:QA:=(.seq .leaf (.seq .leaf (.join [] [(6,6),(8,8),(25,50)] (.seq .leaf (.wrap (.loop [(25,.int .i64)] [(6,6),(8,8),(25,50)] (.seq .leaf (.seq (.cond .leaf .leaf) (.seq (.wrap (.seq .leaf (.seq .leaf (.wrap (.loop [(36,.int .i64)] [(8,8),(36,49)] (.seq .leaf (.seq (.cond .leaf .leaf) (.seq (.wrap (.seq .leaf .leaf)) .leaf)))))))) .leaf)))))) (.join [] [(9,11),(51,89)] (.seq .leaf (.wrap (.loop [(9,.int .i64)] [(9,11),(51,89)] (.seq (.seq .leaf (.cond .leaf .leaf)) (.seq (.wrap (.seq (.draw 9) (.gR 26 [[],[],[],[],[],[],[],[],[7],[],[],[],[],[],[],[],[],[],[],[],[],[7,8,20],[],[],[],[]] [7,8,20,21]))) .leaf))))) (.seq (.draw 47) (.join [(12,.int .u32),(13,.int .u32),(14,.int .u32),(15,.int .u32),(16,.int .u32),(17,.int .u32),(18,.int .u32),(19,.int .u32)] [(12,22),(130,187)] (.seq .leaf (.wrap (.loop [(12,.int .u32),(13,.int .u32),(14,.int .u32),(15,.int .u32),(16,.int .u32),(17,.int .u32),(18,.int .u32),(19,.int .u32),(130,.int .i64)] [(12,22),(130,187)] (.seq .leaf (.seq (.cond .leaf .leaf) (.seq (.wrap (.seq .leaf (.seq (.gR 25 [[],[],[],[],[3],[],[],[],[],[],[],[],[],[],[],[],[],[],[],[],[],[],[],[],[]] [3,4]) (.seq .leaf .leaf)))) .leaf)))))) (.seq .leaf (.wrap (.loop [(197,.int .i64)] [(23,24),(197,212)] (.seq .leaf (.seq (.cond .leaf .leaf) (.seq (.wrap (.seq .leaf (.draw 10))) .leaf))))))))))))
theorem Ae (a0:Option (Nat×Nat)) (a1:AV) (s:AS) (R:AV->AS->Prop) (h:Ac a0 a1 s R):aa Tryz.prog mh [.ptr a0,a1] s R :=
 aa.q (n:=213) (rs:=[]) (A:=Ad) hT bW Tryz.func261 (by kernel_rfl) rfl rfl rfl (by kernel_rfl) (by kernel_rfl) h
def xT (a0:Int) (a1:AV) (s:AS) (R:AV->AS->Prop):Prop :=
 aV .i64 (aQ T gG a1 s) fun l=>bB fun d m=>d m [.int .u32 0,.int .i64 0] s /\
 ∀ k:Nat,∀ e:Int,∀ c:Int,∀ s7:AS,d k [.int .u32 e,.int .i64 c] s7 ->
 af (decide ((c:Int)<l))
 (bG (ag T gG a1 (.int .i64 c)) fun n o=>aV .i64 (av s7 n o) fun i=>aa Tryz.prog gn [.int .u32 a0,(.int .i64 (IntKind.wrap .i64 (0 - i)))] s7 fun v11 dI=>∃ b:Int,v11=.int .u32 b/\(aV .u32 (bA .xor .u32 e b) fun j=>∃ m',m'<k/\d m' [.int .u32 j,(.int .i64 (IntKind.wrap .i64 (c+1)))] dI))
 (R (.int .u32 e) s7)
def xU:QA:=(.seq .leaf (.seq .leaf (.seq (.seq .leaf (.wrap (.loop [(5,.int .u32),(10,.int .i64)] [(5,5),(7,7),(10,20)] (.seq .leaf (.seq (.cond .leaf .leaf) (.seq (.wrap (.seq .leaf .leaf)) .leaf)))))) (.seq .leaf .leaf))))
theorem xV (a0:Int) (a1:AV) (s:AS) (R:AV->AS->Prop) (h:xT a0 a1 s R):aa Tryz.prog aE [.int .u32 a0,a1] s R :=
 aa.q (n:=22) (rs:=[.tmp 4]) (A:=xU) hT bW Tryz.func298 (by kernel_rfl) rfl rfl rfl (by kernel_rfl) (by kernel_rfl) h
def sy (a0:Int) (a1:Int) (s:AS) (R:AV->AS->Prop):Prop :=
 aV .u64 (bA .and .u64 (IntKind.wrap .u64 a1) 31) fun b=>NN b (NN (IntKind.wrap .u64 (32 - b)) (aV .u32 (bA .or .u32 (IntKind.wrap .u32 (a0*2 ^ min (Int.toNat b) (IntKind.bits .u32))) (Int.fdiv a0 (2 ^ min (Int.toNat (IntKind.wrap .u64 (32 - b))) (IntKind.bits .u32)))) fun n2=>R (.int .u32 n2) s))
def sA:QA:=(.seq .leaf (.seq .leaf (.seq .leaf .leaf)))
theorem sB (a0:Int) (a1:Int) (s:AS) (R:AV->AS->Prop) (h:sy a0 a1 s R):aa Tryz.prog gn [.int .u32 a0,.int .i64 a1] s R :=
 aa.q (n:=17) (rs:=[.tmp 4]) (A:=sA) hT bW Tryz.func299 (by kernel_rfl) rfl rfl rfl (by kernel_rfl) (by kernel_rfl) h
def Ag (a0:Int) (a1:Int) (s:AS) (R:AV->AS->Prop):Prop :=
 aV .u64 (bA .and .u64 a0 4294967295) fun b=>NN 32 (aV .u64 (bA .and .u64 a1 4294967295) fun n2=>NN 32 (NN 32 (aV .u64 (bA .and .u64 (IntKind.wrap .u64 ((IntKind.wrap .u64 ((Int.fdiv a0 (2 ^ min (Int.toNat 32) (IntKind.bits .u64)))*n2))+(Int.fdiv (IntKind.wrap .u64 (b*n2)) (2 ^ min (Int.toNat 32) (IntKind.bits .u64))))) 4294967295) fun c=>NN 32 (NN 32 (R (.aP [(.int .u64 (IntKind.wrap .u64 ((IntKind.wrap .u64 ((IntKind.wrap .u64 ((Int.fdiv a0 (2 ^ min (Int.toNat 32) (IntKind.bits .u64)))*(Int.fdiv a1 (2 ^ min (Int.toNat 32) (IntKind.bits .u64)))))+(Int.fdiv (IntKind.wrap .u64 ((IntKind.wrap .u64 ((Int.fdiv a0 (2 ^ min (Int.toNat 32) (IntKind.bits .u64)))*n2))+(Int.fdiv (IntKind.wrap .u64 (b*n2)) (2 ^ min (Int.toNat 32) (IntKind.bits .u64))))) (2 ^ min (Int.toNat 32) (IntKind.bits .u64)))))+(Int.fdiv (IntKind.wrap .u64 (c+(IntKind.wrap .u64 (b*(Int.fdiv a1 (2 ^ min (Int.toNat 32) (IntKind.bits .u64))))))) (2 ^ min (Int.toNat 32) (IntKind.bits .u64)))))),(.int .u64 (IntKind.wrap .u64 (a0*a1)))]) s)))))
def Ah:QA:=(.seq .leaf (.seq .leaf (.seq .leaf (.seq .leaf (.seq .leaf (.seq .leaf (.seq .leaf (.seq .leaf (.seq .leaf (.seq .leaf (.seq .leaf (.seq .leaf .leaf))))))))))))
theorem Ai (a0:Int) (a1:Int) (s:AS) (R:AV->AS->Prop) (h:Ag a0 a1 s R):aa Tryz.prog fY [.int .u64 a0,.int .u64 a1] s R :=
 aa.q (n:=51) (rs:=[.tmp 4,.tmp 5]) (A:=Ah) hT bW Tryz.func306 (by kernel_rfl) rfl rfl rfl (by kernel_rfl) (by kernel_rfl) h
def Aj (a0:List AV) (a1:AV) (s:AS) (R:AV->AS->Prop):Prop :=
 cH a0 (aj (.cells a0 0 false) s fun l1 s2=>aj (.cells (List.replicate 32 (.int .u8 0)) 0 false) s2 fun l3 s4=>aa Tryz.prog fk [a1] s4 fun v5 s6=>aV .i64 (aQ T aq v5 s6) fun n7=>aR (cV T aq 1 [(0,.int .u8 128)]) fun g8=>aj (.cells g8 0 false) s6 fun l9 A=>iD (aI T aq aq v5 (.slc (some (l9,0)) 1 1 true) A) fun v11 dI=>aV .i64 (aQ T aq v11 dI) fun B=>NZ 64 (NZ 64 (iD (aI T aq tg v11 (.int .i64 (Int.tmod (IntKind.wrap .i64 (120 - (Int.tmod B 64))) 64)) dI) fun C gu=>bz fun n =>
 (∀ o:AV,∀ eE:AS,n [o] eE ->
 bz fun p =>
 (∀ gi:AS,p [] gi ->
 bB fun i D=>i D [.int .i64 0] gi /\
 ∀ r:Nat,∀ b:Int,∀ dW:AS,i r [.int .i64 b] dW ->
 af (decide ((b:Int)<32))
 (NZ 4 (bG (ag T cj (.ptr (some (l1,0))) (.int .i64 (IntKind.wrap .i64 (Int.tdiv b 4)))) fun F G=>aV .u32 (av dW F G) fun H=>NZ 4 (NN (IntKind.wrap .i64 (24 - (IntKind.wrap .i64 (8*(Int.tmod b 4))))) (bG (ag T sr (.ptr (some (l3,0))) (.int .i64 b)) fun I J=>bt (cK dW I J [(.int .u8 (IntKind.wrap .u8 (Int.fdiv H (2 ^ min (Int.toNat (IntKind.wrap .i64 (24 - (IntKind.wrap .i64 (8*(Int.tmod b 4)))))) (IntKind.bits .u32)))))]) fun mu=>∃ m',m'<r/\i m' [(.int .i64 (IntKind.wrap .i64 (b+1)))] mu))))
 (aR (aD dW l3 0 32) fun w=>fh (some 32) w (bt (cK dW l3 0 w) fun x=>aR (aD x l3 0 32) fun K=>R (.agg K) x))) /\
 (bB fun j L=>j L [o] eE /\
 ∀ y:Nat,∀ d:AV,∀ e:AS,j y [d] e ->
 aV .i64 (aQ T aq d e) fun M=>af (decide ((M:Int)>0))
 (dS (aZ T aq d none (some (.int .i64 64)) none) fun O=>aa Tryz.prog mh [(.ptr (some (l1,0))),O] e fun Q S=>Q=.aP []/\(dS (aZ T aq d (some (.int .i64 64)) none none) fun U=>∃ m',m'<y/\j m' [U] S))
 (p [] e))) /\
 (bB fun k W=>k W [C,.int .i64 0] gu /\
 ∀ z:Nat,∀ l:AV,∀ c:Int,∀ m:AS,k z [l,.int .i64 c] m ->
 af (decide ((c:Int)<8))
 (NN (IntKind.wrap .i64 (56 - (IntKind.wrap .i64 (8*c)))) (aR (cV T aq 1 [(0,(.int .u8 (IntKind.wrap .u8 (Int.fdiv (IntKind.wrap .u64 ((IntKind.wrap .u64 n7)*8)) (2 ^ min (Int.toNat (IntKind.wrap .i64 (56 - (IntKind.wrap .i64 (8*c))))) (IntKind.bits .u64))))))]) fun X=>aj (.cells X 0 false) m fun Y Ht=>iD (aI T aq aq l (.slc (some (Y,0)) 1 1 true) Ht) fun Z ab=>∃ m',m'<z/\k m' [Z,(.int .i64 (IntKind.wrap .i64 (c+1)))] ab))
 (n [l] m)))))
def Ak:QA:=(.seq .leaf (.seq .leaf (.seq .leaf (.seq .leaf (.seq .leaf (.join [(5,.any)] [(5,5),(7,7),(25,37)] (.seq .leaf (.wrap (.loop [(5,.any),(25,.int .i64)] [(5,5),(7,7),(25,37)] (.seq .leaf (.seq (.cond .leaf .leaf) (.seq (.wrap (.seq .leaf .leaf)) .leaf)))))) (.join [] [(5,5),(38,45)] (.wrap (.loop [(5,.any)] [(5,5),(38,45)] (.seq (.seq .leaf (.cond .leaf .leaf)) (.seq (.wrap .leaf) .leaf)))) (.seq (.seq .leaf (.wrap (.loop [(46,.int .i64)] [(8,8),(46,62)] (.seq .leaf (.seq (.cond .leaf .leaf) (.seq (.wrap (.seq .leaf .leaf)) .leaf)))))) (.seq .leaf .leaf)))))))))
theorem Al (a0:List AV) (a1:AV) (s:AS) (R:AV->AS->Prop) (h:Aj a0 a1 s R):aa Tryz.prog ct [.agg a0,a1] s R :=
 aa.q (n:=64) (rs:=[.cell 4 93]) (A:=Ak) hT bW Tryz.func220 (by kernel_rfl) rfl rfl rfl (by kernel_rfl) (by kernel_rfl) h
def Ng (a0:AV) (a1:AV) (s:AS) (R:AV->AS->Prop):Prop :=
 aj (.cells (List.replicate 32 (.int .u8 0)) 0 false) s fun l1 s2=>aa Tryz.prog wG [] s2 fun v3 s4=>∃ g5:List AV,v3=.agg g5/\(aj (.cells (List.replicate 72 (.int .u32 0)) 0 false) s4 fun l6 s7=>fh (some 72) g5 (bt (cK s7 l6 0 g5) fun s8=>bz fun J9 =>
 (∀ v10:AV,∀ C:AS,J9 [v10] C ->
 aj (.cells (List.replicate 64 (.int .u8 0)) 0 false) C fun qZ bP=>aj (.cells (List.replicate 64 (.int .u8 0)) 0 false) bP fun lC gu=>dS (aZ T fZ (.ptr (some (qZ,0))) none none none) fun nM=>iD (qt T aq nM v10 gu) fun b0 eE=>aR (aD eE qZ 0 64) fun D=>fh (some 64) D (bt (cK eE lC 0 D) fun gi=>bz fun F =>
 (∀ fP:AS,F [] fP ->
 gy fun S V=>aR (aD fP l6 0 72) fun j=>dS (aZ T fZ (.ptr (some (qZ,0))) none none none) fun d=>(∀ dW:AS,Ext fP dW->aM dW->(True)->aR (cV T eJ 1 [(0,d)]) fun ab=>aj (.cells ab 0 false) dW fun G H=>(Ext dW H/\S 2 [d] (.slc (some (G,0)) 1 1 true) H/\V 2 [d] (.slc (some (G,0)) 1 1 true)))/\(∃ v,V 2 [d] v)/\∀ b:AV,V 2 [d] b->(∀ m:AS,Ext fP m->aM m->(S 2 [d] b m/\True)->iD (aI T eJ eJ b a1 m) fun I J=>(Ext m J/\S 4 [b,a1] I J/\V 4 [b,a1] I))/\(∃ v,V 4 [b,a1] v)/\∀ c:AV,V 4 [b,a1] c->(∀ kr:AS,Ext fP kr->aM kr->(S 2 [d] b kr/\(S 4 [b,a1] c kr/\True))->aa Tryz.prog ct [.agg j,c] kr fun ad jZ=>∃ x:List AV,ad=.agg x/\((Ext kr jZ/\S 5 [(.func ct []),.agg j,c] (.agg x) jZ/\V 5 [(.func ct []),.agg j,c] (.agg x))))/\(∃ v,V 5 [(.func ct []),.agg j,c] v)/\∀ K:AV,V 5 [(.func ct []),.agg j,c] K->∃ n:List AV,K=.agg n/\((∀ o:AS,Ext fP o->aM o->(True)->aj (.cells (List.replicate 32 (.int .u8 0)) 0 false) o fun L M=>(Ext o M/\S 6 [] (.ptr (some (L,0))) M/\V 6 [] (.ptr (some (L,0)))))/\(∃ v,V 6 [] v)/\∀ O:AV,V 6 [] O->∃ p:Option (Nat×Nat),O=.ptr p/\(∀ e:AS,Ext fP e->aM e->(S 2 [d] b e/\(S 4 [b,a1] c e/\(S 5 [(.func ct []),.agg j,c] (.agg n) e/\(S 6 [] (.ptr p) e/\True))))->ah p fun ae al=>fh (some 32) n (bt (cK e ae al n) fun yY=>gy fun S V=>aR (aD yY l6 0 72) fun am=>dS (aZ T fZ (.ptr (some (lC,0))) none none none) fun k=>dS (aZ T sr (.ptr p) none none none) fun l=>(∀ Ht:AS,Ext yY Ht->aM Ht->(True)->aR (cV T eJ 2 [(0,k),(1,l)]) fun an=>aj (.cells an 0 false) Ht fun Q U=>(Ext Ht U/\S 3 [k,l] (.slc (some (Q,0)) 2 2 true) U/\V 3 [k,l] (.slc (some (Q,0)) 2 2 true)))/\(∃ v,V 3 [k,l] v)/\∀ y:AV,V 3 [k,l] y->∀ r:AS,Ext yY r->aM r->(S 3 [k,l] y r/\True)->aa Tryz.prog ct [.agg am,y] r fun ao ap=>∃ z:List AV,ao=.agg z/\(fh (some 32) z (bt (cK ap l1 0 z) fun W=>aR (aD W l1 0 32) fun ar=>R (.agg ar) W)))))) /\
 (bB fun A aw=>A aw [.int .i64 0] gi /\
 ∀ X:Nat,∀ i:Int,∀ w:AS,A X [.int .i64 i] w ->
 af (decide ((i:Int)<64))
 (bG (ag T fZ (.ptr (some (qZ,0))) (.int .i64 i)) fun a2 a3=>aV .u8 (av w a2 a3) fun a4=>aV .u8 (bA .xor .u8 a4 54) fun a5=>bG (ag T fZ (.ptr (some (qZ,0))) (.int .i64 i)) fun a6 a7=>bt (cK w a6 a7 [.int .u8 a5]) fun Y=>bG (ag T fZ (.ptr (some (lC,0))) (.int .i64 i)) fun a8 a9=>aV .u8 (av Y a8 a9) fun a'=>aV .u8 (bA .xor .u8 a' 92) fun ba=>bG (ag T fZ (.ptr (some (lC,0))) (.int .i64 i)) fun bb bc=>bt (cK Y bb bc [.int .u8 ba]) fun bd=>∃ m',m'<X/\A m' [(.int .i64 (IntKind.wrap .i64 (i+1)))] bd)
 (F [] w)))) /\
 (aV .i64 (aQ T aq a0 s8) fun be=>af (decide ((be:Int)>64))
 (aR (aD s8 l6 0 72) fun bh=>aR (cV T eJ 1 [(0,a0)]) fun bi=>aj (.cells bi 0 false) s8 fun bj bk=>aa Tryz.prog ct [.agg bh,(.slc (some (bj,0)) 1 1 true)] bk fun bl bm=>∃ B:List AV,bl=.agg B/\(aj (.cells (List.replicate 32 (.int .u8 0)) 0 false) bm fun Z bo=>fh (some 32) B (bt (cK bo Z 0 B) fun bs=>dS (aZ T sr (.ptr (some (Z,0))) none none none) fun bx=>J9 [bx] bs)))
 (J9 [a0] s8))))
def Nh:QA:=(.seq .leaf (.seq .leaf (.join [(0,.any)] [(0,0),(6,6),(12,19)] (.seq .leaf (.cond (.seq .leaf .leaf) .leaf)) (.seq .leaf (.seq .leaf (.seq .leaf (.join [] [(9,9),(24,37)] (.seq .leaf (.wrap (.loop [(24,.int .i64)] [(9,9),(24,37)] (.seq .leaf (.seq (.cond .leaf .leaf) (.seq (.wrap (.seq .leaf (.seq .leaf .leaf))) .leaf)))))) (.seq (.gR 7 [[],[],[],[],[2],[2,4],[]] [2,4,5,6]) (.seq (.gR 4 [[],[],[],[]] [3]) .leaf)))))))))
theorem Ni (a0:AV) (a1:AV) (s:AS) (R:AV->AS->Prop) (h:Ng a0 a1 s R):aa Tryz.prog yP [a0,a1] s R :=
 aa.q (n:=49) (rs:=[.cell 4 93]) (A:=Nh) hT bW Tryz.func167 (by kernel_rfl) rfl rfl rfl (by kernel_rfl) (by kernel_rfl) h
def KZ (a0:List AV) (a1:List AV) (s:AS) (R:AV->AS->Prop):Prop :=
 cH a0 (aj (.cells a0 0 false) s fun l1 s2=>cH a1 (aj (.cells a1 0 false) s2 fun l3 s4=>bz fun p =>
 (∀ r:Int,∀ s7:AS,p [.int .u8 r] s7 ->
 R (.bool ((r:Int)==0)) s7) /\
 (bB fun e w=>e w [.int .u8 0,.int .i64 0] s4 /\
 ∀ d:Nat,∀ c:Int,∀ b:Int,∀ bP:AS,e d [.int .u8 c,.int .i64 b] bP ->
 af (decide ((b:Int)<32))
 (bG (ag T sr (.ptr (some (l1,0))) (.int .i64 b)) fun lC i=>aV .u8 (av bP lC i) fun j=>bG (ag T sr (.ptr (some (l3,0))) (.int .i64 b)) fun k l=>aV .u8 (av bP k l) fun m=>aV .u8 (bA .xor .u8 j m) fun n=>aV .u8 (bA .or .u8 c n) fun o=>∃ m',m'<d/\e m' [.int .u8 o,(.int .i64 (IntKind.wrap .i64 (b+1)))] bP)
 (p [.int .u8 c] bP))))
def K0:QA:=(.seq .leaf (.seq .leaf (.join [(5,.int .u8)] [(5,19)] (.seq .leaf (.wrap (.loop [(5,.int .u8),(7,.int .i64)] [(5,19)] (.seq .leaf (.seq (.cond .leaf .leaf) (.seq (.wrap (.seq .leaf (.draw 8))) .leaf)))))) (.seq .leaf .leaf))))
theorem K3 (a0:List AV) (a1:List AV) (s:AS) (R:AV->AS->Prop) (h:KZ a0 a1 s R):aa Tryz.prog wB [.agg a0,.agg a1] s R :=
 aa.q (n:=22) (rs:=[.tmp 4]) (A:=K0) hT bW Tryz.func91 (by kernel_rfl) rfl rfl rfl (by kernel_rfl) (by kernel_rfl) h
end Go.Proofs.YtohgmogbabkkeaaGreat
end

section
set_option maxRecDepth 100000
set_option maxHeartbeats 4000000
namespace Go.Proofs.YtohgmogbabkkeaaGreat
open Go.Am
def C_ (a0:List UInt8) (s:AS) (R:AV->AS->Prop):Prop :=
 aV .i64 (aQ T cE (.str a0) s) fun b=>af (decide ((b:Int)>=1)) (aV .i64 (aQ T cE (.str a0) s) fun n2=>R (.bool (decide ((n2:Int)<=32))) s) (R (.bool false) s)
def Da:QA:=(.seq .leaf (.seq .leaf .leaf))
theorem Db (a0:List UInt8) (s:AS) (R:AV->AS->Prop) (h:C_ a0 s R):aa Tryz.prog fS [.str a0] s R :=
 aa.q (n:=11) (rs:=[.tmp 2]) (A:=Da) hT bW Tryz.func76 (by kernel_rfl) rfl rfl rfl (by kernel_rfl) (by kernel_rfl) h
def Ff (a0:List AV) (s:AS) (R:AV->AS->Prop):Prop :=
 cH a0 (aj (.cells a0 0 false) s fun l1 s2=>aV .i64 (av s2 l1 0) fun b=>af (decide ((b:Int)>=1)) (aV .i64 (av s2 l1 0) fun c=>af (decide ((c:Int)<=16)) (aV .u64 (av s2 l1 1) fun d=>af (decide ((d:Int)>=1)) (aV .u64 (av s2 l1 1) fun e=>R (.bool (decide ((e:Int)<=4611686018427387904))) s2) (R (.bool false) s2)) (R (.bool false) s2)) (R (.bool false) s2))
def Fg:QA:=(.seq .leaf (.seq .leaf .leaf))
theorem Fh (a0:List AV) (s:AS) (R:AV->AS->Prop) (h:Ff a0 s R):aa Tryz.prog ju [.agg a0] s R :=
 aa.q (n:=21) (rs:=[.tmp 2]) (A:=Fg) hT bW Tryz.func222 (by kernel_rfl) rfl rfl rfl (by kernel_rfl) (by kernel_rfl) h
def IP (a0:List AV) (a1:List AV) (s:AS) (R:AV->AS->Prop):Prop :=
 cH a0 (aj (.cells a0 0 false) s fun l1 s2=>cH a1 (aj (.cells a1 0 false) s2 fun l3 s4=>gy fun S V=>aV .i64 (av s4 l1 0) fun d=>aV .i64 (av s4 l3 0) fun e=>(∀ s7:AS,Ext s4 s7->aM s7->(True)->aa Tryz.prog aO [.int .i64 d,.int .i64 e] s7 fun x w=>∃ b:Int,x=.int .i64 b/\((Ext s7 w/\S 4 [(.func aO []),.int .i64 d,.int .i64 e] (.int .i64 b) w/\V 4 [(.func aO []),.int .i64 d,.int .i64 e] (.int .i64 b))))/\(∃ v,V 4 [(.func aO []),.int .i64 d,.int .i64 e] v)/\∀ v11:AV,V 4 [(.func aO []),.int .i64 d,.int .i64 e] v11->∃ c:Int,v11=.int .i64 c/\(aV .u64 (av s4 l1 1) fun k=>aV .u64 (av s4 l3 1) fun l=>∀ gu:AS,Ext s4 gu->aM gu->(S 4 [(.func aO []),.int .i64 d,.int .i64 e] (.int .i64 c) gu/\True)->aa Tryz.prog eD [.int .u64 k,.int .u64 l] gu fun m eE=>∃ i:Int,m=.int .i64 i/\(aR (cV T gG 2 [(0,.int .i64 c),(1,.int .i64 i)]) fun n=>aj (.cells n 0 false) eE fun o fP=>aa Tryz.prog kk [(.slc (some (o,0)) 2 2 true)] fP fun p r=>∃ j:Int,p=.int .i64 j/\(R (.bool (decide ((j:Int)<0))) r)))))
def IQ:QA:=(.seq .leaf (.seq (.gR 9 [[],[],[],[],[],[],[],[],[]] [4]) .leaf))
theorem IS (a0:List AV) (a1:List AV) (s:AS) (R:AV->AS->Prop) (h:IP a0 a1 s R):aa Tryz.prog uC [.agg a0,.agg a1] s R :=
 aa.q (n:=18) (rs:=[.tmp 4]) (A:=IQ) hT bW Tryz.func224 (by kernel_rfl) rfl rfl rfl (by kernel_rfl) (by kernel_rfl) h
def An (a0:List AV) (s:AS) (R:AV->AS->Prop):Prop :=
 cH a0 (aj (.cells a0 0 false) s fun l1 s2=>dS (aZ T aY (.ptr (some (l1,0))) none none none) fun c=>aa Tryz.prog bZ [c,(.func pO [])] s2 fun d e=>∃ b:Bool,d=.bool b/\(R (.bool (!b)) e))
def Ao:QA:=(.seq .leaf (.seq .leaf .leaf))
theorem Aq (a0:List AV) (s:AS) (R:AV->AS->Prop) (h:An a0 s R):aa Tryz.prog mb [.agg a0] s R :=
 aa.q (n:=6) (rs:=[.tmp 2]) (A:=Ao) hT bW Tryz.func223 (by kernel_rfl) rfl rfl rfl (by kernel_rfl) (by kernel_rfl) h
def xW (a0:Int) (s:AS) (R:AV->AS->Prop):Prop :=
 R (.bool (decide ((a0:Int)>4611686018427387904))) s
def xX:QA:=(.seq .leaf (.seq .leaf .leaf))
theorem xY (a0:Int) (s:AS) (R:AV->AS->Prop) (h:xW a0 s R):aa Tryz.prog pO [.int .u64 a0] s R :=
 aa.q (n:=5) (rs:=[.tmp 2]) (A:=xX) hT bW Tryz.func262 (by kernel_rfl) rfl rfl rfl (by kernel_rfl) (by kernel_rfl) h
def K4 (a0:List AV) (s:AS) (R:AV->AS->Prop):Prop :=
 cH a0 (aj (.cells a0 0 false) s fun l1 s2=>aR (aD s2 l1 0 2) fun g3=>aa Tryz.prog ju [.agg g3] s2 fun v4 B=>∃ b6:Bool,v4=.bool b6/\(af (!b6) (R (.bool false) B) (aR (aD B l1 4 16) fun g7=>aa Tryz.prog mb [.agg g7] B fun v8 j=>∃ n:Bool,v8=.bool n/\(af (!n) (R (.bool false) j) (aV .i64 (av j l1 0) fun C=>bG (ag T aY (.ptr (some (l1,4))) (.int .i64 (IntKind.wrap .i64 (C - 1)))) fun qZ D=>aV .u64 (av j qZ D) fun F=>aV .u64 (av j l1 1) fun G=>af ((F:Int) != (IntKind.wrap .u64 (G - 1)))
 (R (.bool false) j)
 (FY (av j l1 2) fun H=>aa Tryz.prog fS [.str H] j fun I eE=>∃ o:Bool,I=.bool o/\(af (!o) (R (.bool false) eE) (dS (av eE l1 3) fun v20=>aV .i64 (aQ T aq v20 eE) fun J=>af (decide ((J:Int)>512)) (R (.bool false) eE) (dS (av eE l1 20) fun K=>aV .i64 (aQ T bR K eE) fun L=>af (decide ((L:Int)>1024))
 (R (.bool false) eE)
 (dS (av eE l1 20) fun p=>aV .i64 (aQ T bR p eE) fun M=>bB fun k O=>k O [.bool true,.int .i64 0] eE /\
 ∀ r:Nat,∀ w:Bool,∀ b:Int,∀ mu:AS,k r [.bool w,.int .i64 b] mu ->
 af (decide ((b:Int)<M))
 (bG (ag T bR p (.int .i64 b)) fun Q S=>aR (aD mu Q S 3) fun x=>aj (.cells [.int .i64 0,.int .u64 0,.str []] 0 false) mu fun e jZ=>fh (some 3) x (bt (cK jZ e 0 x) fun mK=>bz fun d =>
 (∀ i:Bool,∀ l:AS,d [.bool i] l ->
 af (!i)
 (R (.bool i) l)
 (∃ m',m'<r/\k m' [.bool i,(.int .i64 (IntKind.wrap .i64 (b+1)))] l)) /\
 (aR (aD mK e 0 2) fun U=>aa Tryz.prog ju [.agg U] mK fun W m=>∃ y:Bool,W=.bool y/\(af y (FY (av m e 2) fun X=>aa Tryz.prog fS [.str X] m fun Y c=>∃ z:Bool,Y=.bool z/\(af z (af ((b:Int)==0) (d [.bool true] c) (dS (av c l1 20) fun Z=>bG (ag T bR Z (.int .i64 (IntKind.wrap .i64 (b - 1)))) fun ab ad=>aR (aD c ab ad 2) fun ae=>aR (aD c e 0 2) fun al=>aa Tryz.prog uC [.agg ae,.agg al] c fun am an=>∃ A:Bool,am=.bool A/\(d [.bool A] an))) (d [.bool false] c))) (d [.bool false] m)))))
 (R (.bool w) mu)))))))))))
def K5:QA:=(.seq .leaf (.wrap (.seq (.seq .calm (.cond (.seq .leaf .leaf) .leaf)) (.seq (.seq .leaf (.cond (.seq .leaf .leaf) .leaf)) (.seq .leaf (.seq .leaf (.seq (.seq .leaf (.wrap (.loop [(3,.bool),(49,.int .i64)] [(3,5),(49,80)] (.seq .leaf (.seq (.cond .leaf .leaf) (.seq (.wrap (.seq .leaf (.join [(3,.bool)] [(3,3),(54,77)] .calm (.seq .leaf (.cond .leaf .leaf))))) .leaf)))))) (.seq .leaf .leaf))))))))
theorem K6 (a0:List AV) (s:AS) (R:AV->AS->Prop) (h:K4 a0 s R):aa Tryz.prog wE [.agg a0] s R :=
 aa.q (n:=82) (rs:=[.tmp 2]) (A:=K5) hT bW Tryz.func169 (by kernel_rfl) rfl rfl rfl (by kernel_rfl) (by kernel_rfl) h
def Nj (a0:List AV) (a1:List UInt8) (s:AS) (R:AV->AS->Prop):Prop :=
 cH a0 (aj (.cells a0 0 false) s fun l1 s2=>dS (av s2 l1 20) fun x=>aV .i64 (aQ T bR x s2) fun y=>bB fun i z=>i z [.slc none 0 0 true,.int .i64 0] s2 /\
 ∀ k:Nat,∀ j:AV,∀ d:Int,∀ b:AS,i k [j,.int .i64 d] b ->
 af (decide ((d:Int)<y))
 (bG (ag T bR x (.int .i64 d)) fun l m=>aR (aD b l m 3) fun e=>aj (.cells [.int .i64 0,.int .u64 0,.str []] 0 false) b fun lC gu=>fh (some 3) e (bt (cK gu lC 0 e) fun c=>FY (av c lC 2) fun n=>af ((n:List UInt8)==a1)
 (aR (aD c lC 0 2) fun o=>aR (cV T az 1 [(0,.agg o)]) fun p=>aj (.cells p 0 false) c fun r fL=>iD (aI T az az j (.slc (some (r,0)) 1 1 true) fL) fun w tW=>∃ m',m'<k/\i m' [w,(.int .i64 (IntKind.wrap .i64 (d+1)))] tW)
 (∃ m',m'<k/\i m' [j,(.int .i64 (IntKind.wrap .i64 (d+1)))] c)))
 (R j b))
def Nk:QA:=(.seq .leaf (.seq .leaf (.seq (.seq .leaf (.wrap (.loop [(5,.any),(11,.int .i64)] [(5,5),(7,7),(11,24)] (.seq .leaf (.seq (.cond .leaf .leaf) (.seq (.wrap (.seq .leaf (.seq .leaf (.cond .leaf .leaf)))) .leaf)))))) (.seq .leaf .leaf))))
theorem Nl (a0:List AV) (a1:List UInt8) (s:AS) (R:AV->AS->Prop) (h:Nj a0 a1 s R):aa Tryz.prog yQ [.agg a0,.str a1] s R :=
 aa.q (n:=26) (rs:=[.tmp 4]) (A:=Nk) hT bW Tryz.func211 (by kernel_rfl) rfl rfl rfl (by kernel_rfl) (by kernel_rfl) h
def Gr (a0:List AV) (a1:List AV) (s:AS) (R:AV->AS->Prop):Prop :=
 cH a0 (aj (.cells a0 0 false) s fun l1 s2=>cH a1 (aj (.cells a1 0 false) s2 fun l3 s4=>aR (aD s4 l3 0 2) fun i=>aa Tryz.prog ju [.agg i] s4 fun j s7=>∃ e:Bool,j=.bool e/\(af e (aV .i64 (av s7 l3 0) fun k=>bG (ag T aY (.ptr (some (l1,0))) (.int .i64 (IntKind.wrap .i64 (k - 1)))) fun mL b=>aV .u64 (av s7 mL b) fun c=>aV .u64 (av s7 l3 1) fun d=>R (.bool (decide ((c:Int)>=d))) s7) (R (.bool false) s7))))
def Gt:QA:=(.seq .leaf (.seq .calm .leaf))
theorem Gu (a0:List AV) (a1:List AV) (s:AS) (R:AV->AS->Prop) (h:Gr a0 a1 s R):aa Tryz.prog si [.agg a0,.agg a1] s R :=
 aa.q (n:=17) (rs:=[.tmp 4]) (A:=Gt) hT bW Tryz.func212 (by kernel_rfl) rfl rfl rfl (by kernel_rfl) (by kernel_rfl) h
def jB (a0:AV) (a1:AV) (s:AS) (R:AV->AS->Prop):Prop :=
 aa Tryz.prog dB [a0,a1] s fun c s2=>∃ b:Int,c=.int .i64 b/\(R (.bool (decide ((b:Int)>=0))) s2)
def jC:QA:=(.seq .leaf (.seq .leaf .leaf))
theorem jD (a0:AV) (a1:AV) (s:AS) (R:AV->AS->Prop) (h:jB a0 a1 s R):aa Tryz.prog bZ [a0,a1] s R :=
 aa.q (n:=9) (rs:=[.tmp 4]) (A:=jC) hT bW Tryz.func185 (by kernel_rfl) rfl rfl rfl (by kernel_rfl) (by kernel_rfl) h
def ku (a0:AV) (a1:AV) (s:AS) (R:AV->AS->Prop):Prop :=
 aV .i64 (aQ T fm a0 s) fun j=>bB fun e k=>e k [.int .i64 0] s /\
 ∀ i:Nat,∀ b:Int,∀ s6:AS,e i [.int .i64 b] s6 ->
 af (decide ((b:Int)<j))
 (bG (ag T fm a0 (.int .i64 b)) fun l m=>aV .u64 (av s6 l m) fun n=>er Tryz.prog a1 [.int .u64 n] s6 fun v10 c=>∃ d:Bool,v10=.bool d/\(af d
 (R (.int .i64 b) c)
 (∃ m',m'<i/\e m' [(.int .i64 (IntKind.wrap .i64 (b+1)))] c)))
 (R (.int .i64 (-1)) s6)
def kz:QA:=(.seq .leaf (.seq (.seq .leaf (.wrap (.loop [(8,.int .i64)] [(4,5),(8,18)] (.seq .leaf (.seq (.cond .leaf .leaf) (.seq (.wrap (.seq .leaf (.seq .leaf (.cond (.seq .leaf .leaf) .leaf)))) .leaf)))))) (.seq .leaf .leaf)))
theorem kC (a0:AV) (a1:AV) (s:AS) (R:AV->AS->Prop) (h:ku a0 a1 s R):aa Tryz.prog dB [a0,a1] s R :=
 aa.q (n:=19) (rs:=[.tmp 4]) (A:=kz) hT bW Tryz.func245 (by kernel_rfl) rfl rfl rfl (by kernel_rfl) (by kernel_rfl) h
def mw (a0:AV) (a1:AV) (s:AS) (R:AV->AS->Prop):Prop :=
 aa Tryz.prog eS [a0,a1] s fun c s2=>∃ b:Int,c=.int .i64 b/\(R (.bool (decide ((b:Int)>=0))) s2)
def mz:QA:=(.seq .leaf (.seq .leaf .leaf))
theorem mA (a0:AV) (a1:AV) (s:AS) (R:AV->AS->Prop) (h:mw a0 a1 s R):aa Tryz.prog ef [a0,a1] s R :=
 aa.q (n:=9) (rs:=[.tmp 4]) (A:=mz) hT bW Tryz.func213 (by kernel_rfl) rfl rfl rfl (by kernel_rfl) (by kernel_rfl) h
def oJ (a0:AV) (a1:AV) (s:AS) (R:AV->AS->Prop):Prop :=
 aV .i64 (aQ T az a0 s) fun j=>bB fun e k=>e k [.int .i64 0] s /\
 ∀ i:Nat,∀ b:Int,∀ s6:AS,e i [.int .i64 b] s6 ->
 af (decide ((b:Int)<j))
 (bG (ag T az a0 (.int .i64 b)) fun l m=>aR (aD s6 l m 2) fun n=>er Tryz.prog a1 [.agg n] s6 fun v10 c=>∃ d:Bool,v10=.bool d/\(af d
 (R (.int .i64 b) c)
 (∃ m',m'<i/\e m' [(.int .i64 (IntKind.wrap .i64 (b+1)))] c)))
 (R (.int .i64 (-1)) s6)
def oK:QA:=(.seq .leaf (.seq (.seq .leaf (.wrap (.loop [(8,.int .i64)] [(4,5),(8,18)] (.seq .leaf (.seq (.cond .leaf .leaf) (.seq (.wrap (.seq .leaf (.seq .leaf (.cond (.seq .leaf .leaf) .leaf)))) .leaf)))))) (.seq .leaf .leaf)))
theorem oL (a0:AV) (a1:AV) (s:AS) (R:AV->AS->Prop) (h:oJ a0 a1 s R):aa Tryz.prog eS [a0,a1] s R :=
 aa.q (n:=19) (rs:=[.tmp 4]) (A:=oK) hT bW Tryz.func256 (by kernel_rfl) rfl rfl rfl (by kernel_rfl) (by kernel_rfl) h
end Go.Proofs.YtohgmogbabkkeaaGreat
end

section
set_option maxRecDepth 100000
set_option maxHeartbeats 4000000
namespace Go.Proofs.YtohgmogbabkkeaaGreat
open Go.Am
def Dc (a0:Int) (s:AS) (R:AV->AS->Prop):Prop :=
 aa Tryz.prog mg [.int .u64 a0] s fun c s2=>∃ b:Int,c=.int .i64 b/\(R (.int .i64 b) s2)
def Dd:QA:=(.seq .leaf (.seq (.cond (.seq .leaf .leaf) .leaf) (.seq .leaf .leaf)))
theorem De (a0:Int) (s:AS) (R:AV->AS->Prop) (h:Dc a0 s R):aa Tryz.prog kM [.int .u64 a0] s R :=
 aa.q (n:=8) (rs:=[.tmp 2]) (A:=Dd) hT bW Tryz.func177 (by kernel_rfl) rfl rfl rfl (by kernel_rfl) (by kernel_rfl) h
def Ar (a0:Int) (s:AS) (R:AV->AS->Prop):Prop :=
 bz fun e =>
 (∀ n2:Int,∀ i:Int,∀ s4:AS,e [.int .u64 n2,.int .i64 i] s4 ->
 bz fun j =>
 (∀ d:Int,∀ k:Int,∀ s8:AS,j [.int .u64 d,.int .i64 k] s8 ->
 bz fun l =>
 (∀ b:Int,∀ c:Int,∀ dI:AS,l [.int .u64 b,.int .i64 c] dI ->
 aV .u8 (jd T cE (.str [0,1,2,2,3,3,3,3,4,4,4,4,4,4,4,4,5,5,5,5,5,5,5,5,5,5,5,5,5,5,5,5,6,6,6,6,6,6,6,6,6,6,6,6,6,6,6,6,6,6,6,6,6,6,6,6,6,6,6,6,6,6,6,6,7,7,7,7,7,7,7,7,7,7,7,7,7,7,7,7,7,7,7,7,7,7,7,7,7,7,7,7,7,7,7,7,7,7,7,7,7,7,7,7,7,7,7,7,7,7,7,7,7,7,7,7,7,7,7,7,7,7,7,7,7,7,7,7,8,8,8,8,8,8,8,8,8,8,8,8,8,8,8,8,8,8,8,8,8,8,8,8,8,8,8,8,8,8,8,8,8,8,8,8,8,8,8,8,8,8,8,8,8,8,8,8,8,8,8,8,8,8,8,8,8,8,8,8,8,8,8,8,8,8,8,8,8,8,8,8,8,8,8,8,8,8,8,8,8,8,8,8,8,8,8,8,8,8,8,8,8,8,8,8,8,8,8,8,8,8,8,8,8,8,8,8,8,8,8,8,8,8,8,8,8,8,8,8,8,8,8,8,8,8,8,8]) (.int .u8 (IntKind.wrap .u8 b))) fun m=>R (.int .i64 (IntKind.wrap .i64 (c+(IntKind.wrap .i64 m)))) dI) /\
 (af (decide ((d:Int)>=256))
 (NN 8 (l [(.int .u64 (Int.fdiv d (2 ^ min (Int.toNat 8) (IntKind.bits .u64)))),(.int .i64 (IntKind.wrap .i64 (k+8)))] s8))
 (l [.int .u64 d,.int .i64 k] s8))) /\
 (af (decide ((n2:Int)>=65536))
 (NN 16 (j [(.int .u64 (Int.fdiv n2 (2 ^ min (Int.toNat 16) (IntKind.bits .u64)))),(.int .i64 (IntKind.wrap .i64 (i+16)))] s4))
 (j [.int .u64 n2,.int .i64 i] s4))) /\
 (af (decide ((a0:Int)>=4294967296))
 (NN 32 (e [(.int .u64 (Int.fdiv a0 (2 ^ min (Int.toNat 32) (IntKind.bits .u64)))),.int .i64 32] s))
 (e [.int .u64 a0,.int .i64 0] s))
def As:QA:=(.seq .leaf (.join [(0,.int .u64),(2,.int .i64)] [(0,0),(2,6)] (.seq .leaf (.cond (.seq .leaf .leaf) .leaf)) (.join [(0,.int .u64),(2,.int .i64)] [(0,0),(2,2),(7,12)] (.seq .leaf (.cond (.seq .leaf .leaf) .leaf)) (.join [(0,.int .u64),(2,.int .i64)] [(0,0),(2,2),(13,18)] (.seq .leaf (.cond (.seq .leaf .leaf) .leaf)) (.seq .leaf .leaf)))))
theorem Au (a0:Int) (s:AS) (R:AV->AS->Prop) (h:Ar a0 s R):aa Tryz.prog mg [.int .u64 a0] s R :=
 aa.q (n:=25) (rs:=[.tmp 2]) (A:=As) hT bW Tryz.func237 (by kernel_rfl) rfl rfl rfl (by kernel_rfl) (by kernel_rfl) h
end Go.Proofs.YtohgmogbabkkeaaGreat
end

section
set_option maxRecDepth 100000
set_option maxHeartbeats 4000000
namespace Go.Proofs.YtohgmogbabkkeaaGreat
open Go.Am
def pE (a0:AV) (s:AS) (R:AV->AS->Prop):Prop :=
 bz fun z =>
 (∀ n2:Int,∀ s3:AS,z [.int .i64 n2] s3 ->
 aa Tryz.prog fJ [.slc none 0 0 true,.int .i64 n2] s3 fun C A=>aV .i64 (aQ T eJ a0 A) fun D=>bB fun l F=>l F [C,.int .i64 0] A /\
 ∀ B:Nat,∀ v10:AV,∀ c:Int,∀ dI:AS,l B [v10,.int .i64 c] dI ->
 af (decide ((c:Int)<D))
 (bG (ag T eJ a0 (.int .i64 c)) fun m n=>dS (av dI m n) fun o=>iD (aI T aq aq v10 o dI) fun nM lK=>∃ m',m'<B/\l m' [nM,(.int .i64 (IntKind.wrap .i64 (c+1)))] lK)
 (R v10 dI)) /\
 (aV .i64 (aQ T eJ a0 s) fun p=>bB fun i r=>i r [.int .i64 0,.int .i64 0] s /\
 ∀ j:Nat,∀ d:Int,∀ e:Int,∀ b:AS,i j [.int .i64 d,.int .i64 e] b ->
 af (decide ((e:Int)<p))
 (bG (ag T eJ a0 (.int .i64 e)) fun w x=>dS (av b w x) fun y=>aV .i64 (aQ T aq y b) fun k=>af (decide ((IntKind.wrap .i64 (d+k):Int)<0))
 (False)
 (∃ m',m'<j/\i m' [(.int .i64 (IntKind.wrap .i64 (d+k))),(.int .i64 (IntKind.wrap .i64 (e+1)))] b))
 (z [.int .i64 d] b))
def pG:QA:=(.seq .leaf (.seq .leaf (.join [(3,.int .i64)] [(3,3),(5,5),(9,22)] (.seq .leaf (.wrap (.loop [(3,.int .i64),(11,.int .i64)] [(3,3),(5,5),(11,22)] (.seq .leaf (.seq (.cond .leaf .leaf) (.seq (.wrap (.seq .leaf (.seq .leaf (.seq .leaf (.cond .leaf .leaf))))) .leaf)))))) (.seq .leaf (.seq (.seq .leaf (.wrap (.loop [(6,.any),(27,.int .i64)] [(6,6),(8,8),(27,34)] (.seq .leaf (.seq (.cond .leaf .leaf) (.seq (.wrap (.seq .leaf .leaf)) .leaf)))))) (.seq .leaf .leaf))))))
theorem pH (a0:AV) (s:AS) (R:AV->AS->Prop) (h:pE a0 s R):aa Tryz.prog fk [a0] s R :=
 aa.q (n:=36) (rs:=[.tmp 2]) (A:=pG) hT bW Tryz.func248 (by kernel_rfl) rfl rfl rfl (by kernel_rfl) (by kernel_rfl) h
def qL (a0:AV) (a1:Int) (s:AS) (R:AV->AS->Prop):Prop :=
 af (decide ((a1:Int)<0))
 (False)
 (aV .i64 (vP T aq a0) fun b=>aV .i64 (aQ T aq a0 s) fun n2=>af (decide ((IntKind.wrap .i64 (a1 - (IntKind.wrap .i64 (b - n2))):Int)>0))
 (aV .i64 (vP T aq a0) fun c=>dS (aZ T aq a0 none (some (.int .i64 c)) none) fun d=>iD (aI T aq tg d (.int .i64 (IntKind.wrap .i64 (a1 - (IntKind.wrap .i64 (b - n2))))) s) fun e s6=>aV .i64 (aQ T aq a0 s6) fun i=>dS (aZ T aq e none (some (.int .i64 i)) none) fun j=>R j s6)
 (R a0 s))
def qM:QA:=(.seq .leaf (.seq (.seq .leaf (.cond .leaf .leaf)) (.seq (.seq .leaf (.seq .leaf (.cond .leaf .leaf))) (.seq .leaf .leaf))))
theorem qN (a0:AV) (a1:Int) (s:AS) (R:AV->AS->Prop) (h:qL a0 a1 s R):aa Tryz.prog fJ [a0,.int .i64 a1] s R :=
 aa.q (n:=27) (rs:=[.tmp 4]) (A:=qM) hT bW Tryz.func280 (by kernel_rfl) rfl rfl rfl (by kernel_rfl) (by kernel_rfl) h
def qb (a0:AV) (s:AS) (R:AV->AS->Prop):Prop :=
 sJ (Qu T aq true a0 (.slc none 0 0 true)) fun b=>af b
 (R (.slc none 0 0 true) s)
 (aR (cV T aq 0 []) fun c=>aj (.cells c 0 false) s fun l3 s4=>iD (aI T aq aq (.slc (some (l3,0)) 0 0 true) a0 s4) fun d s6=>R d s6)
def qc:QA:=(.seq .leaf (.seq (.seq .leaf (.cond (.seq .leaf .leaf) .leaf)) (.seq .leaf .leaf)))
theorem qd (a0:AV) (s:AS) (R:AV->AS->Prop) (h:qb a0 s R):aa Tryz.prog aT [a0] s R :=
 aa.q (n:=8) (rs:=[.tmp 2]) (A:=qc) hT bW Tryz.func70 (by kernel_rfl) rfl rfl rfl (by kernel_rfl) (by kernel_rfl) h
def Nm (a0:Int) (a1:Int) (s:AS) (R:AV->AS->Prop):Prop :=
 bz fun c =>
 (∀ i:Bool,∀ s3:AS,c [.bool i] s3 ->
 af i
 (R (.aP [.slc none 0 0 true,.int .i64 2]) s3)
 (bz fun j =>
 (∀ k:AV,∀ s6:AS,j [k] s6 ->
 R (.aP [k,.int .i64 0]) s6) /\
 (bB fun d m=>d m [.slc none 0 0 true,.int .i64 0] s3 /\
 ∀ l:Nat,∀ v10:AV,∀ b:Int,∀ dI:AS,d l [v10,.int .i64 b] dI ->
 af (decide ((b:Int)<a1))
 (NN (IntKind.wrap .i64 (8*(IntKind.wrap .i64 ((IntKind.wrap .i64 (a1 - 1)) - b)))) (aR (cV T aq 1 [(0,(.int .u8 (IntKind.wrap .u8 (Int.fdiv a0 (2 ^ min (Int.toNat (IntKind.wrap .i64 (8*(IntKind.wrap .i64 ((IntKind.wrap .i64 (a1 - 1)) - b))))) (IntKind.bits .u64))))))]) fun e=>aj (.cells e 0 false) dI fun lC gu=>iD (aI T aq aq v10 (.slc (some (lC,0)) 1 1 true) gu) fun nM lK=>∃ m',m'<l/\d m' [nM,(.int .i64 (IntKind.wrap .i64 (b+1)))] lK))
 (j [v10] dI)))) /\
 (af (decide ((a1:Int)<1)) (c [.bool true] s) (af (decide ((a1:Int)>8)) (c [.bool true] s) (af (decide ((a1:Int)<8)) (NN (IntKind.wrap .i64 (8*a1)) (c [(.bool ((Int.fdiv a0 (2 ^ min (Int.toNat (IntKind.wrap .i64 (8*a1))) (IntKind.bits .u64)):Int) != 0))] s)) (c [.bool false] s))))
def Nn:QA:=(.seq .leaf (.seq (.join [(24,.bool)] [(8,24)] .leaf (.cond (.seq .leaf .leaf) .leaf)) (.seq .leaf (.join [(6,.any)] [(6,7),(25,40)] (.seq .leaf (.wrap (.loop [(6,.any),(26,.int .i64)] [(6,7),(26,40)] (.seq .leaf (.seq (.cond .leaf .leaf) (.seq (.wrap (.seq .leaf .leaf)) .leaf)))))) (.seq .leaf .leaf)))))
theorem No (a0:Int) (a1:Int) (s:AS) (R:AV->AS->Prop) (h:Nm a0 a1 s R):aa Tryz.prog uB [.int .u64 a0,.int .i64 a1] s R :=
 aa.q (n:=42) (rs:=[.tmp 4,.tmp 5]) (A:=Nn) hT bW Tryz.func216 (by kernel_rfl) rfl rfl rfl (by kernel_rfl) (by kernel_rfl) h
def Gv (a0:List AV) (s:AS) (R:AV->AS->Prop):Prop :=
 cH a0 (aj (.cells a0 0 false) s fun l1 s2=>aR (aD s2 l1 0 16) fun o=>bB fun d p=>d p [.slc none 0 0 true,.int .i64 0] s2 /\
 ∀ n:Nat,∀ e:AV,∀ c:Int,∀ i:AS,d n [e,.int .i64 c] i ->
 af (decide ((c:Int)<16))
 (aV .u64 (jd T aY (.agg o) (.int .i64 c)) fun j=>aa Tryz.prog uB [.int .u64 j,.int .i64 8] i fun v11 dI=>∃ b:AV,∃ k:Int,v11=.aP [b,.int .i64 k]/\(iD (aI T aq aq e b dI) fun l m=>∃ m',m'<n/\d m' [l,(.int .i64 (IntKind.wrap .i64 (c+1)))] m))
 (R e i))
def Gw:QA:=(.seq .leaf (.seq .leaf (.seq (.seq .leaf (.wrap (.loop [(3,.any),(9,.int .i64)] [(3,3),(5,7),(9,20)] (.seq .leaf (.seq (.cond .leaf .leaf) (.seq (.wrap (.seq .leaf (.seq .leaf .leaf))) .leaf)))))) (.seq .leaf .leaf))))
theorem Gx (a0:List AV) (s:AS) (R:AV->AS->Prop) (h:Gv a0 s R):aa Tryz.prog sg [.agg a0] s R :=
 aa.q (n:=22) (rs:=[.tmp 2]) (A:=Gw) hT bW Tryz.func161 (by kernel_rfl) rfl rfl rfl (by kernel_rfl) (by kernel_rfl) h
def K7 (a0:AV) (s:AS) (R:AV->AS->Prop):Prop :=
 aV .i64 (aQ T aq a0 s) fun c=>af (decide ((c:Int)>65535))
 (R (.aP [.slc none 0 0 true,.int .i64 3]) s)
 (aV .i64 (aQ T aq a0 s) fun n2=>aa Tryz.prog uB [(.int .u64 (IntKind.wrap .u64 n2)),.int .i64 2] s fun d s4=>∃ b:AV,∃ e:Int,d=.aP [b,.int .i64 e]/\(iD (aI T aq aq b a0 s4) fun i s8=>R (.aP [i,.int .i64 0]) s8))
def K8:QA:=(.seq .leaf (.seq (.seq .leaf (.cond (.seq .leaf .leaf) .leaf)) (.seq .leaf (.seq .leaf .leaf))))
theorem K9 (a0:AV) (s:AS) (R:AV->AS->Prop) (h:K7 a0 s R):aa Tryz.prog wD [a0] s R :=
 aa.q (n:=19) (rs:=[.tmp 2,.tmp 3]) (A:=K8) hT bW Tryz.func166 (by kernel_rfl) rfl rfl rfl (by kernel_rfl) (by kernel_rfl) h
end Go.Proofs.YtohgmogbabkkeaaGreat
end

section
set_option maxRecDepth 100000
set_option maxHeartbeats 4000000
namespace Go.Proofs.YtohgmogbabkkeaaGreat
open Go.Am
def lD (a0:Int) (s:AS) (R:AV->AS->Prop):Prop :=
 aa Tryz.prog kM [(.int .u64 (IntKind.wrap .u64 a0))] s fun c s2=>∃ b:Int,c=.int .i64 b/\(NN b (R (.int .u64 (IntKind.wrap .u64 (1*2 ^ min (Int.toNat b) (IntKind.bits .u64)))) s2))
def tC:QA:=(.seq .leaf (.seq .leaf .leaf))
theorem tD (a0:Int) (s:AS) (R:AV->AS->Prop) (h:lD a0 s R):aa Tryz.prog gM [.int .i64 a0] s R :=
 aa.q (n:=7) (rs:=[.tmp 2]) (A:=tC) hT bW Tryz.func266 (by kernel_rfl) rfl rfl rfl (by kernel_rfl) (by kernel_rfl) h
def uI (a0:Option (Nat×Nat)) (s:AS) (R:AV->AS->Prop):Prop :=
 ah a0 fun l1 o2=>aV .u64 (av s l1 o2) fun G=>ah a0 fun H I=>aV .u64 (av s H I) fun J=>NN 13 (aV .u64 (bA .xor .u64 G (IntKind.wrap .u64 (J*2 ^ min (Int.toNat 13) (IntKind.bits .u64)))) fun K=>ah a0 fun L M=>bt (cK s L M [.int .u64 K]) fun b=>ah a0 fun d e=>aV .u64 (av b d e) fun i=>ah a0 fun lC j=>aV .u64 (av b lC j) fun k=>NN 7 (aV .u64 (bA .xor .u64 i (Int.fdiv k (2 ^ min (Int.toNat 7) (IntKind.bits .u64)))) fun l=>ah a0 fun m n=>bt (cK b m n [.int .u64 l]) fun gi=>ah a0 fun o p=>aV .u64 (av gi o p) fun r=>ah a0 fun w x=>aV .u64 (av gi w x) fun y=>NN 17 (aV .u64 (bA .xor .u64 r (IntKind.wrap .u64 (y*2 ^ min (Int.toNat 17) (IntKind.bits .u64)))) fun z=>ah a0 fun A B=>bt (cK gi A B [.int .u64 z]) fun c=>ah a0 fun C D=>aV .u64 (av c C D) fun F=>R (.int .u64 F) c)))
def uJ:QA:=(.seq .leaf (.seq (.draw 7) (.seq (.draw 7) (.seq (.draw 7) (.seq .leaf .leaf)))))
theorem uK (a0:Option (Nat×Nat)) (s:AS) (R:AV->AS->Prop) (h:uI a0 s R):aa Tryz.prog ie [.ptr a0] s R :=
 aa.q (n:=33) (rs:=[.tmp 2]) (A:=uJ) hT bW Tryz.func267 (by kernel_rfl) rfl rfl rfl (by kernel_rfl) (by kernel_rfl) h
end Go.Proofs.YtohgmogbabkkeaaGreat
end

section
set_option maxRecDepth 100000
set_option maxHeartbeats 4000000
namespace Go.Proofs.YtohgmogbabkkeaaGreat.SG
open Go.Am Go.au.SG
structure SE where
 O:OE
 cC:El O->List AV
 w:Nat
 len:∀ x,(cC x).length=w
 one:∀ x,(cC x).all AV.one=true
 ys:TypeId
 ye:TypeId
 us:T.cR ys=some (.slice ye)
 zs:T.eU ye=some w
 uL:FuncId
 fG:FuncId
 fB:FuncId
 mB:FuncId
 jE:FuncId
 iQ:FuncId
 eT:FuncId
 gN:FuncId
 kW:FuncId
 iZ:FuncId
 dR:FuncId
 kN:FuncId
 iJ:FuncId
 iq:FuncId
variable (E:SE)
def Np (a0:AV) (a1:AV) (s:AS) (R:AV->AS->Prop):Prop :=
 aV .i64 (aQ T E.ys a0 s) fun b=>aa Tryz.prog kM [(.int .u64 (IntKind.wrap .u64 b))] s fun d s3=>∃ c:Int,d=.int .i64 c/\(aa Tryz.prog E.fG [a0,.int .i64 0,.int .i64 b,.int .i64 c,a1] s3 fun e s6=>e=.aP []/\(R (.aP []) s6))
def Nq:QA:=(.seq .leaf .leaf)
def BS (a0:AV) (a1:Int) (a2:Int) (a3:Int) (a4:AV) (s:AS) (R:AV->AS->Prop):Prop :=
 bB fun B m2=>B m2 [.int .i64 a1,.int .i64 a2,.int .i64 a3,.bool true,.bool true] s /\
 ∀ M:Nat,∀ b:Int,∀ d:Int,∀ O:Int,∀ Q:Bool,∀ S:Bool,∀ C:AS,B M [.int .i64 b,.int .i64 d,.int .i64 O,.bool Q,.bool S] C ->
 af (decide ((IntKind.wrap .i64 (d - b):Int)<=12))
 (aa Tryz.prog E.fB [a0,.int .i64 b,.int .i64 d,a4] C fun v10 U=>v10=.aP []/\(R (.aP []) U))
 (af ((O:Int)==0)
 (aa Tryz.prog E.mB [a0,.int .i64 b,.int .i64 d,a4] C fun W bP=>W=.aP []/\(R (.aP []) bP))
 (bz fun m =>
 (∀ e:Int,∀ D:AS,m [.int .i64 e] D ->
 aa Tryz.prog E.jE [a0,.int .i64 b,.int .i64 d,a4] D fun X eE=>∃ n:Int,∃ o:Int,X=.aP [.int .i64 n,.int .i64 o]/\(bz fun p =>
 (∀ j:Int,∀ F:Int,∀ k:AS,p [.int .i64 j,.int .i64 F] k ->
 bz fun r =>
 (∀ i:AS,r [] i ->
 bz fun x =>
 (∀ G:Bool,∀ y:AS,x [.bool G] y ->
 af G
 (aa Tryz.prog E.gN [a0,.int .i64 b,.int .i64 d,.int .i64 j,a4] y fun v30 mu=>∃ H:Int,v30=.int .i64 H/\(∃ m',m'<M/\B m' [.int .i64 H,.int .i64 d,.int .i64 e,.bool Q,.bool S] mu))
 (aa Tryz.prog E.kW [a0,.int .i64 b,.int .i64 d,.int .i64 j,a4] y fun Y kr=>∃ c:Int,∃ z:Bool,Y=.aP [.int .i64 c,.bool z]/\(NZ 8 (af (decide ((IntKind.wrap .i64 (c - b):Int)<(IntKind.wrap .i64 (d - c))))
 (aa Tryz.prog E.fG [a0,.int .i64 b,.int .i64 c,.int .i64 e,a4] kr fun Z ab=>Z=.aP []/\(∃ m',m'<M/\B m' [(.int .i64 (IntKind.wrap .i64 (c+1))),.int .i64 d,.int .i64 e,(.bool (decide ((IntKind.wrap .i64 (c - b):Int)>=(IntKind.wrap .i64 (Int.tdiv (IntKind.wrap .i64 (d - b)) 8))))),.bool z] ab))
 (aa Tryz.prog E.fG [a0,(.int .i64 (IntKind.wrap .i64 (c+1))),.int .i64 d,.int .i64 e,a4] kr fun ad ae=>ad=.aP []/\(∃ m',m'<M/\B m' [.int .i64 b,.int .i64 c,.int .i64 e,(.bool (decide ((IntKind.wrap .i64 (d - c):Int)>=(IntKind.wrap .i64 (Int.tdiv (IntKind.wrap .i64 (d - b)) 8))))),.bool z] ae)))))) /\
 (af (decide ((b:Int)>0)) (bG (ag T E.ys a0 (.int .i64 (IntKind.wrap .i64 (b - 1)))) fun al am=>aR (aD i al am E.w) fun an=>bG (ag T E.ys a0 (.int .i64 j)) fun ao ap=>aR (aD i ao ap E.w) fun ar=>er Tryz.prog a4 [.agg an,.agg ar] i fun aw a5=>∃ I:Int,aw=.int .i64 I/\(x [(.bool (!(decide ((I:Int)<0))))] a5)) (x [.bool false] i))) /\
 (bz fun l =>
 (∀ J:Bool,∀ A:AS,l [.bool J] A ->
 af J
 (aa Tryz.prog E.eT [a0,.int .i64 b,.int .i64 d,a4] A fun a6 K=>∃ L:Bool,a6=.bool L/\(af L
 (R (.aP []) K)
 (r [] K)))
 (r [] A)) /\
 (af Q (af S (l [(.bool ((F:Int)==1))] k) (l [.bool false] k)) (l [.bool false] k)))) /\
 (af ((o:Int)==2)
 (aa Tryz.prog E.iQ [a0,.int .i64 b,.int .i64 d,a4] eE fun a7 a8=>a7=.aP []/\(p [(.int .i64 (IntKind.wrap .i64 ((IntKind.wrap .i64 (d - 1)) - (IntKind.wrap .i64 (n - b))))),.int .i64 1] a8))
 (p [.int .i64 n,.int .i64 o] eE)))) /\
 (af (!Q)
 (aa Tryz.prog E.iq [a0,.int .i64 b,.int .i64 d,a4] C fun a9 a'=>a9=.aP []/\(m [(.int .i64 (IntKind.wrap .i64 (O - 1)))] a'))
 (m [.int .i64 O] C))))
def BT:QA:=(.seq .leaf (.seq .leaf (.wrap (.loop [(1,.int .i64),(2,.int .i64),(3,.int .i64),(10,.bool),(11,.bool)] [(1,3),(10,147)] (.wrap (.seq .leaf (.seq (.seq .leaf (.cond (.seq .leaf .leaf) .leaf)) (.seq (.seq .leaf (.cond (.seq .leaf .leaf) .leaf)) (.join [(3,.int .i64)] [(3,3),(38,46)] (.seq .leaf (.cond (.seq .leaf .leaf) .leaf)) (.seq .leaf (.join [(13,.int .i64),(14,.int .i64)] [(13,14),(55,67)] (.seq .leaf (.cond (.seq .leaf (.seq .leaf .leaf)) .leaf)) (.join [] [(68,80)] (.join [(75,.bool)] [(68,75)] .leaf (.cond (.seq .leaf (.cond .leaf .leaf)) .leaf)) (.seq (.join [(97,.bool)] [(81,97)] (.draw 13) (.cond (.seq .leaf (.seq .leaf .leaf)) .leaf)) (.seq .leaf (.seq .leaf (.seq .leaf (.seq .leaf (.seq .leaf (.cond (.seq .leaf (.seq .leaf .leaf)) (.seq .leaf (.seq .leaf .leaf)))))))))))))))))))))
def uM (a0:AV) (a1:Int) (a2:Int) (a3:AV) (s:AS) (R:AV->AS->Prop):Prop :=
 bB fun k m2=>k m2 [(.int .i64 (IntKind.wrap .i64 (a1+1)))] s /\
 ∀ l:Nat,∀ d:Int,∀ m:AS,k l [.int .i64 d] m ->
 af (decide ((d:Int)<a2))
 (bB fun n L=>n L [.int .i64 d] m /\
 ∀ K:Nat,∀ c:Int,∀ b:AS,n K [.int .i64 c] b ->
 af (decide ((c:Int)>a1)) (bG (ag T E.ys a0 (.int .i64 c)) fun o p=>aR (aD b o p E.w) fun r=>bG (ag T E.ys a0 (.int .i64 (IntKind.wrap .i64 (c - 1)))) fun lC x=>aR (aD b lC x E.w) fun y=>er Tryz.prog a3 [.agg r,.agg y] b fun z eE=>∃ e:Int,z=.int .i64 e/\(af (decide ((e:Int)<0))
 (bG (ag T E.ys a0 (.int .i64 (IntKind.wrap .i64 (c - 1)))) fun A B=>aR (aD eE A B E.w) fun i=>bG (ag T E.ys a0 (.int .i64 c)) fun C D=>aR (aD eE C D E.w) fun j=>bG (ag T E.ys a0 (.int .i64 c)) fun F G=>fh (some E.w) i (bt (cK eE F G i) fun H=>bG (ag T E.ys a0 (.int .i64 (IntKind.wrap .i64 (c - 1)))) fun I J=>fh (some E.w) j (bt (cK H I J j) fun mu=>∃ m',m'<K/\n m' [(.int .i64 (IntKind.wrap .i64 (c - 1)))] mu)))
 (∃ m',m'<l/\k m' [(.int .i64 (IntKind.wrap .i64 (d+1)))] eE))) (∃ m',m'<l/\k m' [(.int .i64 (IntKind.wrap .i64 (d+1)))] b))
 (R (.aP []) m)
def uN:QA:=(.seq .leaf (.wrap (.loop [(8,.int .i64)] [(8,9),(12,52)] (.seq (.seq .leaf (.cond .leaf .leaf)) (.seq (.wrap (.seq .leaf (.wrap (.loop [(9,.int .i64)] [(9,9),(18,52)] (.seq (.seq (.draw 14) (.cond .leaf .leaf)) (.seq (.wrap .calm) .leaf)))))) .leaf)))))
def Av (a0:AV) (a1:Int) (a2:Int) (a3:AV) (s:AS) (R:AV->AS->Prop):Prop :=
 bz fun B =>
 (∀ s2:AS,B [] s2 ->
 bB fun l D=>l D [(.int .i64 (IntKind.wrap .i64 ((IntKind.wrap .i64 (a2 - a1)) - 1)))] s2 /\
 ∀ C:Nat,∀ e:Int,∀ s7:AS,l C [.int .i64 e] s7 ->
 af (decide ((e:Int)>=0))
 (bG (ag T E.ys a0 (.int .i64 (IntKind.wrap .i64 (a1+e)))) fun F G=>aR (aD s7 F G E.w) fun i=>bG (ag T E.ys a0 (.int .i64 a1)) fun m n=>aR (aD s7 m n E.w) fun j=>bG (ag T E.ys a0 (.int .i64 a1)) fun lC o=>fh (some E.w) i (bt (cK s7 lC o i) fun p=>bG (ag T E.ys a0 (.int .i64 (IntKind.wrap .i64 (a1+e)))) fun r x=>fh (some E.w) j (bt (cK p r x j) fun gz=>aa Tryz.prog E.iZ [a0,.int .i64 0,.int .i64 e,.int .i64 a1,a3] gz fun v20 fL=>v20=.aP []/\(∃ m',m'<C/\l m' [(.int .i64 (IntKind.wrap .i64 (e - 1)))] fL))))
 (R (.aP []) s7)) /\
 (NZ 2 (bB fun c y=>c y [(.int .i64 (IntKind.wrap .i64 (Int.tdiv (IntKind.wrap .i64 ((IntKind.wrap .i64 (a2 - a1)) - 1)) 2)))] s /\
 ∀ k:Nat,∀ b:Int,∀ d:AS,c k [.int .i64 b] d ->
 af (decide ((b:Int)>=0))
 (aa Tryz.prog E.iZ [a0,.int .i64 b,(.int .i64 (IntKind.wrap .i64 (a2 - a1))),.int .i64 a1,a3] d fun z A=>z=.aP []/\(∃ m',m'<k/\c m' [(.int .i64 (IntKind.wrap .i64 (b - 1)))] A))
 (B [] d)))
def Aw:QA:=(.seq .leaf (.seq .leaf (.seq .leaf (.join [] [(11,11),(17,29)] (.seq .leaf (.wrap (.loop [(11,.int .i64)] [(11,11),(20,29)] (.seq (.seq .leaf (.cond .leaf .leaf)) (.seq (.wrap .leaf) .leaf))))) (.seq .leaf (.wrap (.loop [(12,.int .i64)] [(12,12),(32,59)] (.seq (.seq .leaf (.cond .leaf .leaf)) (.seq (.wrap (.seq .calm .leaf)) .leaf)))))))))
def wP (a0:AV) (a1:Int) (a2:Int) (a3:AV) (s:AS) (R:AV->AS->Prop):Prop :=
 aj (.cells [.int .i64 0] 0 false) s fun l1 s2=>NZ 4 (NZ 4 (NZ 4 (bz fun m =>
 (∀ l:Int,∀ b:AS,m [.int .i64 l] b ->
 aV .i64 (av b l1 0) fun y=>af ((y:Int)==0)
 (R (.aP [.int .i64 l,.int .i64 1]) b)
 (af ((y:Int)==12)
 (R (.aP [.int .i64 l,.int .i64 2]) b)
 (R (.aP [.int .i64 l,.int .i64 0]) b))) /\
 (af (decide ((IntKind.wrap .i64 (a2 - a1):Int)>=8))
 (bz fun n =>
 (∀ z:Int,∀ A:Int,∀ c:Int,∀ d:AS,n [.int .i64 z,.int .i64 A,.int .i64 c] d ->
 aa Tryz.prog E.kN [a0,.int .i64 z,.int .i64 A,.int .i64 c,(.ptr (some (l1,0))),a3] d fun o bP=>∃ e:Int,o=.int .i64 e/\(m [.int .i64 e] bP)) /\
 (af (decide ((IntKind.wrap .i64 (a2 - a1):Int)>=50))
 (aa Tryz.prog E.dR [a0,(.int .i64 (IntKind.wrap .i64 (a1+(IntKind.wrap .i64 ((IntKind.wrap .i64 (Int.tdiv (IntKind.wrap .i64 (a2 - a1)) 4))*1))))),(.ptr (some (l1,0))),a3] s2 fun p r=>∃ i:Int,p=.int .i64 i/\(aa Tryz.prog E.dR [a0,(.int .i64 (IntKind.wrap .i64 (a1+(IntKind.wrap .i64 ((IntKind.wrap .i64 (Int.tdiv (IntKind.wrap .i64 (a2 - a1)) 4))*2))))),(.ptr (some (l1,0))),a3] r fun w gz=>∃ j:Int,w=.int .i64 j/\(aa Tryz.prog E.dR [a0,(.int .i64 (IntKind.wrap .i64 (a1+(IntKind.wrap .i64 ((IntKind.wrap .i64 (Int.tdiv (IntKind.wrap .i64 (a2 - a1)) 4))*3))))),(.ptr (some (l1,0))),a3] gz fun x fP=>∃ k:Int,x=.int .i64 k/\(n [.int .i64 i,.int .i64 j,.int .i64 k] fP))))
 (n [(.int .i64 (IntKind.wrap .i64 (a1+(IntKind.wrap .i64 ((IntKind.wrap .i64 (Int.tdiv (IntKind.wrap .i64 (a2 - a1)) 4))*1))))),(.int .i64 (IntKind.wrap .i64 (a1+(IntKind.wrap .i64 ((IntKind.wrap .i64 (Int.tdiv (IntKind.wrap .i64 (a2 - a1)) 4))*2))))),(.int .i64 (IntKind.wrap .i64 (a1+(IntKind.wrap .i64 ((IntKind.wrap .i64 (Int.tdiv (IntKind.wrap .i64 (a2 - a1)) 4))*3)))))] s2)))
 (m [(.int .i64 (IntKind.wrap .i64 (a1+(IntKind.wrap .i64 ((IntKind.wrap .i64 (Int.tdiv (IntKind.wrap .i64 (a2 - a1)) 4))*2)))))] s2)))))
def wQ:QA:=(.seq .leaf (.seq .leaf (.seq .leaf (.seq .leaf (.seq .leaf (.seq .leaf (.join [(13,.int .i64)] [(12,14),(33,54)] (.seq .leaf (.cond (.join [(12,.int .i64),(13,.int .i64),(14,.int .i64)] [(12,14),(35,48)] (.seq .leaf (.cond (.seq .leaf (.seq .leaf .leaf)) .leaf)) .leaf) .leaf)) (.seq .leaf (.wrap (.seq .leaf (.cond (.seq .leaf .leaf) (.seq .leaf (.cond (.seq .leaf .leaf) (.seq .leaf .leaf))))))))))))))
def vC (a0:AV) (a1:Int) (a2:Int) (a3:AV) (s:AS) (R:AV->AS->Prop):Prop :=
 bB fun e m2=>e m2 [.int .i64 a1,(.int .i64 (IntKind.wrap .i64 (a2 - 1)))] s /\
 ∀ m:Nat,∀ b:Int,∀ c:Int,∀ s6:AS,e m [.int .i64 b,.int .i64 c] s6 ->
 af (decide ((b:Int)<c))
 (bG (ag T E.ys a0 (.int .i64 c)) fun o p=>aR (aD s6 o p E.w) fun n=>bG (ag T E.ys a0 (.int .i64 b)) fun mL i=>aR (aD s6 mL i E.w) fun d=>bG (ag T E.ys a0 (.int .i64 b)) fun j k=>fh (some E.w) n (bt (cK s6 j k n) fun gu=>bG (ag T E.ys a0 (.int .i64 c)) fun q_ l=>fh (some E.w) d (bt (cK gu q_ l d) fun eE=>∃ m',m'<m/\e m' [(.int .i64 (IntKind.wrap .i64 (b+1))),(.int .i64 (IntKind.wrap .i64 (c - 1)))] eE)))
 (R (.aP []) s6)
def vD:QA:=(.seq .leaf (.seq .leaf (.wrap (.loop [(8,.int .i64),(9,.int .i64)] [(8,9),(13,33)] (.seq (.seq .leaf (.cond .leaf .leaf)) (.wrap (.seq .calm (.seq .leaf .leaf))))))))
def gS (a0:AV) (a1:Int) (a2:Int) (a3:AV) (s:AS) (R:AV->AS->Prop):Prop :=
 bB fun x m2=>x m2 [(.int .i64 (IntKind.wrap .i64 (a1+1))),.int .i64 0] s /\
 ∀ O:Nat,∀ n4:Int,∀ y:Int,∀ s6:AS,x O [.int .i64 n4,.int .i64 y] s6 ->
 af (decide ((y:Int)<5))
 (bz fun Q =>
 (∀ e:Int,∀ r:AS,Q [.int .i64 e] r ->
 af ((e:Int)==a2)
 (R (.bool true) r)
 (af (decide ((IntKind.wrap .i64 (a2 - a1):Int)<50))
 (R (.bool false) r)
 (bG (ag T E.ys a0 (.int .i64 (IntKind.wrap .i64 (e - 1)))) fun mL S=>aR (aD r mL S E.w) fun z=>bG (ag T E.ys a0 (.int .i64 e)) fun U W=>aR (aD r U W E.w) fun A=>bG (ag T E.ys a0 (.int .i64 e)) fun q_ X=>fh (some E.w) z (bt (cK r q_ X z) fun eE=>bG (ag T E.ys a0 (.int .i64 (IntKind.wrap .i64 (e - 1)))) fun zF Y=>fh (some E.w) A (bt (cK eE zF Y A) fun fL=>bz fun l =>
 (∀ tW:AS,l [] tW ->
 af (decide ((IntKind.wrap .i64 (a2 - e):Int)>=2))
 (bB fun n Z=>n Z [(.int .i64 (IntKind.wrap .i64 (e+1)))] tW /\
 ∀ B:Nat,∀ b:Int,∀ i:AS,n B [.int .i64 b] i ->
 af (decide ((b:Int)<a2))
 (bG (ag T E.ys a0 (.int .i64 b)) fun ab ad=>aR (aD i ab ad E.w) fun ae=>bG (ag T E.ys a0 (.int .i64 (IntKind.wrap .i64 (b - 1)))) fun al am=>aR (aD i al am E.w) fun an=>er Tryz.prog a3 [.agg ae,.agg an] i fun ao jZ=>∃ C:Int,ao=.int .i64 C/\(af (!(decide ((C:Int)<0)))
 (∃ m',m'<O/\x m' [.int .i64 e,(.int .i64 (IntKind.wrap .i64 (y+1)))] jZ)
 (bG (ag T E.ys a0 (.int .i64 (IntKind.wrap .i64 (b - 1)))) fun ap ar=>aR (aD jZ ap ar E.w) fun D=>bG (ag T E.ys a0 (.int .i64 b)) fun aw a4=>aR (aD jZ aw a4 E.w) fun F=>bG (ag T E.ys a0 (.int .i64 b)) fun a5 a6=>fh (some E.w) D (bt (cK jZ a5 a6 D) fun tw=>bG (ag T E.ys a0 (.int .i64 (IntKind.wrap .i64 (b - 1)))) fun a7 a8=>fh (some E.w) F (bt (cK tw a7 a8 F) fun yY=>∃ m',m'<B/\n m' [(.int .i64 (IntKind.wrap .i64 (b+1)))] yY)))))
 (∃ m',m'<O/\x m' [.int .i64 e,(.int .i64 (IntKind.wrap .i64 (y+1)))] i))
 (∃ m',m'<O/\x m' [.int .i64 e,(.int .i64 (IntKind.wrap .i64 (y+1)))] tW)) /\
 (af (decide ((IntKind.wrap .i64 (e - a1):Int)>=2))
 (bB fun o a9=>o a9 [(.int .i64 (IntKind.wrap .i64 (e - 1)))] fL /\
 ∀ G:Nat,∀ c:Int,∀ j:AS,o G [.int .i64 c] j ->
 af (decide ((c:Int)>=1))
 (bG (ag T E.ys a0 (.int .i64 c)) fun a' ba=>aR (aD j a' ba E.w) fun bb=>bG (ag T E.ys a0 (.int .i64 (IntKind.wrap .i64 (c - 1)))) fun bc bd=>aR (aD j bc bd E.w) fun be=>er Tryz.prog a3 [.agg bb,.agg be] j fun bh m=>∃ H:Int,bh=.int .i64 H/\(af (!(decide ((H:Int)<0)))
 (l [] m)
 (bG (ag T E.ys a0 (.int .i64 (IntKind.wrap .i64 (c - 1)))) fun bi bj=>aR (aD m bi bj E.w) fun I=>bG (ag T E.ys a0 (.int .i64 c)) fun bk bl=>aR (aD m bk bl E.w) fun J=>bG (ag T E.ys a0 (.int .i64 c)) fun bm bo=>fh (some E.w) I (bt (cK m bm bo I) fun bs=>bG (ag T E.ys a0 (.int .i64 (IntKind.wrap .i64 (c - 1)))) fun bx b0=>fh (some E.w) J (bt (cK bs bx b0 J) fun Ut=>∃ m',m'<G/\o m' [(.int .i64 (IntKind.wrap .i64 (c - 1)))] Ut)))))
 (l [] j))
 (l [] fL))))))) /\
 (bB fun p b1=>p b1 [.int .i64 n4] s6 /\
 ∀ K:Nat,∀ d:Int,∀ k:AS,p K [.int .i64 d] k ->
 af (decide ((d:Int)<a2)) (bG (ag T E.ys a0 (.int .i64 d)) fun b2 b3=>aR (aD k b2 b3 E.w) fun b4=>bG (ag T E.ys a0 (.int .i64 (IntKind.wrap .i64 (d - 1)))) fun b5 b6=>aR (aD k b5 b6 E.w) fun b7=>er Tryz.prog a3 [.agg b4,.agg b7] k fun b8 L=>∃ M:Int,b8=.int .i64 M/\(af (!(decide ((M:Int)<0)))
 (∃ m',m'<K/\p m' [(.int .i64 (IntKind.wrap .i64 (d+1)))] L)
 (Q [.int .i64 d] L))) (Q [.int .i64 d] k)))
 (R (.bool false) s6)
def oM:QA:=(.seq .leaf (.seq .leaf (.seq (.seq .leaf (.wrap (.loop [(9,.int .i64),(10,.int .i64)] [(8,12),(15,140)] (.seq (.seq .leaf (.cond .leaf .leaf)) (.seq (.wrap (.join [(9,.int .i64)] [(9,9),(19,38)] (.wrap (.loop [(9,.int .i64)] [(9,9),(19,38)] (.seq (.seq (.draw 14) (.cond .leaf .leaf)) (.wrap .leaf)))) (.seq (.seq .leaf (.cond (.seq .leaf .leaf) .leaf)) (.seq (.seq .leaf (.cond (.seq .leaf .leaf) .leaf)) (.seq .calm (.join [] [(11,11),(62,100)] (.seq .leaf (.cond (.seq .leaf (.wrap (.loop [(11,.int .i64)] [(11,11),(68,100)] (.seq (.seq .leaf (.cond .leaf .leaf)) (.seq (.wrap (.seq (.seq (.draw 10) (.cond .leaf .leaf)) .calm)) .leaf))))) .leaf)) (.seq .leaf (.cond (.seq .leaf (.wrap (.loop [(12,.int .i64)] [(12,12),(107,140)] (.seq (.seq .leaf (.cond .leaf .leaf)) (.seq (.wrap (.seq (.seq (.draw 10) (.cond .leaf .leaf)) .calm)) .leaf))))) .leaf)))))))) .leaf))))) (.seq .leaf .leaf))))
def tE (a0:AV) (a1:Int) (a2:Int) (a3:Int) (a4:AV) (s:AS) (R:AV->AS->Prop):Prop :=
 bG (ag T E.ys a0 (.int .i64 a3)) fun l1 o2=>aR (aD s l1 o2 E.w) fun g3=>bG (ag T E.ys a0 (.int .i64 a1)) fun l4 o5=>aR (aD s l4 o5 E.w) fun g6=>bG (ag T E.ys a0 (.int .i64 a1)) fun l7 o8=>fh (some E.w) g3 (bt (cK s l7 o8 g3) fun s9=>bG (ag T E.ys a0 (.int .i64 a3)) fun mL H=>fh (some E.w) g6 (bt (cK s9 mL H g6) fun dI=>bB fun l I=>l I [(.int .i64 (IntKind.wrap .i64 (a1+1))),(.int .i64 (IntKind.wrap .i64 (a2 - 1)))] dI /\
 ∀ x:Nat,∀ y:Int,∀ m:Int,∀ eE:AS,l x [.int .i64 y,.int .i64 m] eE ->
 bz fun n =>
 (∀ b:Int,∀ fL:AS,n [.int .i64 b] fL ->
 bz fun o =>
 (∀ e:Int,∀ i:AS,o [.int .i64 e] i ->
 af (decide ((b:Int)>e))
 (R (.int .i64 b) i)
 (bG (ag T E.ys a0 (.int .i64 e)) fun J K=>aR (aD i J K E.w) fun z=>bG (ag T E.ys a0 (.int .i64 b)) fun L M=>aR (aD i L M E.w) fun A=>bG (ag T E.ys a0 (.int .i64 b)) fun O Q=>fh (some E.w) z (bt (cK i O Q z) fun S=>bG (ag T E.ys a0 (.int .i64 e)) fun U W=>fh (some E.w) A (bt (cK S U W A) fun jZ=>∃ m',m'<x/\l m' [(.int .i64 (IntKind.wrap .i64 (b+1))),(.int .i64 (IntKind.wrap .i64 (e - 1)))] jZ)))) /\
 (bB fun p X=>p X [.int .i64 m] fL /\
 ∀ B:Nat,∀ c:Int,∀ j:AS,p B [.int .i64 c] j ->
 af (decide ((b:Int)<=c)) (bG (ag T E.ys a0 (.int .i64 a1)) fun Y Z=>aR (aD j Y Z E.w) fun ab=>bG (ag T E.ys a0 (.int .i64 c)) fun ad ae=>aR (aD j ad ae E.w) fun al=>er Tryz.prog a4 [.agg ab,.agg al] j fun am yY=>∃ C:Int,am=.int .i64 C/\(af (decide ((C:Int)<0))
 (∃ m',m'<B/\p m' [(.int .i64 (IntKind.wrap .i64 (c - 1)))] yY)
 (o [.int .i64 c] yY))) (o [.int .i64 c] j))) /\
 (bB fun r an=>r an [.int .i64 y] eE /\
 ∀ D:Nat,∀ d:Int,∀ k:AS,r D [.int .i64 d] k ->
 af (decide ((d:Int)<=m)) (bG (ag T E.ys a0 (.int .i64 a1)) fun ao ap=>aR (aD k ao ap E.w) fun ar=>bG (ag T E.ys a0 (.int .i64 d)) fun aw a5=>aR (aD k aw a5 E.w) fun a6=>er Tryz.prog a4 [.agg ar,.agg a6] k fun a7 F=>∃ G:Int,a7=.int .i64 G/\(af (!(decide ((G:Int)<0)))
 (∃ m',m'<D/\r m' [(.int .i64 (IntKind.wrap .i64 (d+1)))] F)
 (n [.int .i64 d] F))) (n [.int .i64 d] k))))
def tF:QA:=(.seq .leaf (.seq .calm (.seq .leaf (.seq (.wrap (.loop [(11,.int .i64),(12,.int .i64)] [(11,12),(31,88)] (.wrap (.join [(11,.int .i64)] [(11,11),(31,49)] (.wrap (.loop [(11,.int .i64)] [(11,11),(31,49)] (.seq (.seq (.draw 13) (.cond .leaf .leaf)) (.wrap .leaf)))) (.join [(12,.int .i64)] [(12,12),(50,67)] (.wrap (.loop [(12,.int .i64)] [(12,12),(50,67)] (.seq (.seq (.draw 13) (.cond .leaf .leaf)) (.wrap .leaf)))) (.seq (.seq .leaf (.cond .leaf .leaf)) (.seq .calm (.seq .leaf .leaf)))))))) (.seq .leaf .leaf)))))
def yZ (a0:AV) (a1:Int) (a2:Int) (a3:Int) (a4:AV) (s:AS) (R:AV->AS->Prop):Prop :=
 bG (ag T E.ys a0 (.int .i64 a3)) fun l1 o2=>aR (aD s l1 o2 E.w) fun g3=>bG (ag T E.ys a0 (.int .i64 a1)) fun l4 o5=>aR (aD s l4 o5 E.w) fun g6=>bG (ag T E.ys a0 (.int .i64 a1)) fun l7 o8=>fh (some E.w) g3 (bt (cK s l7 o8 g3) fun s9=>bG (ag T E.ys a0 (.int .i64 a3)) fun mL b6=>fh (some E.w) g6 (bt (cK s9 mL b6 g6) fun dI=>bz fun K =>
 (∀ k:Int,∀ gu:AS,K [.int .i64 k] gu ->
 bz fun L =>
 (∀ d:Int,∀ eE:AS,L [.int .i64 d] eE ->
 af (decide ((k:Int)>d))
 (bG (ag T E.ys a0 (.int .i64 a1)) fun zF b7=>aR (aD eE zF b7 E.w) fun X=>bG (ag T E.ys a0 (.int .i64 d)) fun b8 b9=>aR (aD eE b8 b9 E.w) fun Y=>bG (ag T E.ys a0 (.int .i64 d)) fun b' ca=>fh (some E.w) X (bt (cK eE b' ca X) fun cb=>bG (ag T E.ys a0 (.int .i64 a1)) fun cc cd=>fh (some E.w) Y (bt (cK cb cc cd Y) fun ce=>R (.aP [.int .i64 d,.bool true]) ce)))
 (bG (ag T E.ys a0 (.int .i64 d)) fun cf ch=>aR (aD eE cf ch E.w) fun Z=>bG (ag T E.ys a0 (.int .i64 k)) fun ci ck=>aR (aD eE ci ck E.w) fun ab=>bG (ag T E.ys a0 (.int .i64 k)) fun cl cm=>fh (some E.w) Z (bt (cK eE cl cm Z) fun cn=>bG (ag T E.ys a0 (.int .i64 d)) fun cp cr=>fh (some E.w) ab (bt (cK cn cp cr ab) fun cs=>bz fun ad =>
 (∀ z:Int,∀ A:AS,ad [.int .i64 z] A ->
 bG (ag T E.ys a0 (.int .i64 a1)) fun cu cv=>aR (aD A cu cv E.w) fun ae=>bG (ag T E.ys a0 (.int .i64 z)) fun cw cx=>aR (aD A cw cx E.w) fun al=>bG (ag T E.ys a0 (.int .i64 z)) fun cy cz=>fh (some E.w) ae (bt (cK A cy cz ae) fun cA=>bG (ag T E.ys a0 (.int .i64 a1)) fun cB cC=>fh (some E.w) al (bt (cK cA cB cC al) fun c0=>R (.aP [.int .i64 z,.bool false]) c0))) /\
 (bB fun M c1=>M c1 [(.int .i64 (IntKind.wrap .i64 (k+1))),(.int .i64 (IntKind.wrap .i64 (d - 1)))] cs /\
 ∀ am:Nat,∀ an:Int,∀ O:Int,∀ ao:AS,M am [.int .i64 an,.int .i64 O] ao ->
 bz fun Q =>
 (∀ l:Int,∀ FZ:AS,Q [.int .i64 l] FZ ->
 bz fun S =>
 (∀ m:Int,∀ p:AS,S [.int .i64 m] p ->
 af (decide ((l:Int)>m))
 (ad [.int .i64 m] p)
 (bG (ag T E.ys a0 (.int .i64 m)) fun c2 c3=>aR (aD p c2 c3 E.w) fun ap=>bG (ag T E.ys a0 (.int .i64 l)) fun c4 c5=>aR (aD p c4 c5 E.w) fun ar=>bG (ag T E.ys a0 (.int .i64 l)) fun c6 c7=>fh (some E.w) ap (bt (cK p c6 c7 ap) fun c8=>bG (ag T E.ys a0 (.int .i64 m)) fun c9 c'=>fh (some E.w) ar (bt (cK c8 c9 c' ar) fun da=>∃ m',m'<am/\M m' [(.int .i64 (IntKind.wrap .i64 (l+1))),(.int .i64 (IntKind.wrap .i64 (m - 1)))] da)))) /\
 (bB fun U db=>U db [.int .i64 O] FZ /\
 ∀ aw:Nat,∀ n:Int,∀ r:AS,U aw [.int .i64 n] r ->
 af (decide ((l:Int)<=n)) (bG (ag T E.ys a0 (.int .i64 n)) fun dc dd=>aR (aD r dc dd E.w) fun df=>bG (ag T E.ys a0 (.int .i64 a1)) fun dk dl=>aR (aD r dk dl E.w) fun dm=>er Tryz.prog a4 [.agg df,.agg dm] r fun dp a5=>∃ a6:Int,dp=.int .i64 a6/\(af (!(decide ((a6:Int)<0)))
 (∃ m',m'<aw/\U m' [(.int .i64 (IntKind.wrap .i64 (n - 1)))] a5)
 (S [.int .i64 n] a5))) (S [.int .i64 n] r))) /\
 (bB fun W dr=>W dr [.int .i64 an] ao /\
 ∀ a7:Nat,∀ o:Int,∀ e:AS,W a7 [.int .i64 o] e ->
 af (decide ((o:Int)<=O)) (bG (ag T E.ys a0 (.int .i64 o)) fun a8 a9=>aR (aD e a8 a9 E.w) fun a'=>bG (ag T E.ys a0 (.int .i64 a1)) fun ba bb=>aR (aD e ba bb E.w) fun bc=>er Tryz.prog a4 [.agg a',.agg bc] e fun bd B=>∃ C:Int,bd=.int .i64 C/\(af (decide ((C:Int)<0))
 (∃ m',m'<a7/\W m' [(.int .i64 (IntKind.wrap .i64 (o+1)))] B)
 (Q [.int .i64 o] B))) (Q [.int .i64 o] e))))))) /\
 (bB fun x be=>x be [(.int .i64 (IntKind.wrap .i64 (a2 - 1)))] gu /\
 ∀ D:Nat,∀ b:Int,∀ i:AS,x D [.int .i64 b] i ->
 af (decide ((k:Int)<=b)) (bG (ag T E.ys a0 (.int .i64 b)) fun bh bi=>aR (aD i bh bi E.w) fun bj=>bG (ag T E.ys a0 (.int .i64 a1)) fun bk bl=>aR (aD i bk bl E.w) fun bm=>er Tryz.prog a4 [.agg bj,.agg bm] i fun bo F=>∃ G:Int,bo=.int .i64 G/\(af (!(decide ((G:Int)<0)))
 (∃ m',m'<D/\x m' [(.int .i64 (IntKind.wrap .i64 (b - 1)))] F)
 (L [.int .i64 b] F))) (L [.int .i64 b] i))) /\
 (bB fun y bs=>y bs [(.int .i64 (IntKind.wrap .i64 (a1+1)))] dI /\
 ∀ H:Nat,∀ c:Int,∀ j:AS,y H [.int .i64 c] j ->
 af (decide ((c:Int)<=(IntKind.wrap .i64 (a2 - 1)))) (bG (ag T E.ys a0 (.int .i64 c)) fun bx b0=>aR (aD j bx b0 E.w) fun b1=>bG (ag T E.ys a0 (.int .i64 a1)) fun b2 b3=>aR (aD j b2 b3 E.w) fun b4=>er Tryz.prog a4 [.agg b1,.agg b4] j fun b5 I=>∃ J:Int,b5=.int .i64 J/\(af (decide ((J:Int)<0))
 (∃ m',m'<H/\y m' [(.int .i64 (IntKind.wrap .i64 (c+1)))] I)
 (K [.int .i64 c] I))) (K [.int .i64 c] j))))
def y4:QA:=(.seq .leaf (.seq .calm (.seq .leaf (.join [(12,.int .i64)] [(12,12),(32,49)] (.wrap (.loop [(12,.int .i64)] [(12,12),(32,49)] (.seq (.seq (.draw 13) (.cond .leaf .leaf)) (.wrap .leaf)))) (.join [(13,.int .i64)] [(13,13),(50,68)] (.wrap (.loop [(13,.int .i64)] [(13,13),(50,68)] (.seq (.seq (.draw 13) (.cond .leaf .leaf)) (.wrap .leaf)))) (.seq (.seq .leaf (.cond (.seq .calm (.seq .leaf .leaf)) .leaf)) (.seq .calm (.seq .leaf (.seq .leaf (.join [(13,.int .i64)] [(12,13),(105,162)] (.wrap (.loop [(12,.int .i64),(13,.int .i64)] [(12,13),(105,162)] (.wrap (.join [(12,.int .i64)] [(12,12),(105,122)] (.wrap (.loop [(12,.int .i64)] [(12,12),(105,122)] (.seq (.seq (.draw 13) (.cond .leaf .leaf)) (.wrap .leaf)))) (.join [(13,.int .i64)] [(13,13),(123,141)] (.wrap (.loop [(13,.int .i64)] [(13,13),(123,141)] (.seq (.seq (.draw 13) (.cond .leaf .leaf)) (.wrap .leaf)))) (.seq (.seq .leaf (.cond .leaf .leaf)) (.seq .calm (.seq .leaf .leaf)))))))) (.seq .calm (.seq .leaf .leaf))))))))))))
def Ax (a0:AV) (a1:Int) (a2:Int) (a3:Int) (a4:AV) (s:AS) (R:AV->AS->Prop):Prop :=
 bB fun p m2=>p m2 [.int .i64 a1] s /\
 ∀ m3:Nat,∀ b:Int,∀ i:AS,p m3 [.int .i64 b] i ->
 af (decide ((IntKind.wrap .i64 ((IntKind.wrap .i64 (2*b))+1):Int)>=a2))
 (R (.aP []) i)
 (bz fun r =>
 (∀ j:Int,∀ s8:AS,r [.int .i64 j] s8 ->
 bG (ag T E.ys a0 (.int .i64 (IntKind.wrap .i64 (a3+b)))) fun l9 x=>aR (aD s8 l9 x E.w) fun y=>bG (ag T E.ys a0 (.int .i64 (IntKind.wrap .i64 (a3+j)))) fun qZ z=>aR (aD s8 qZ z E.w) fun A=>er Tryz.prog a4 [.agg y,.agg A] s8 fun B c=>∃ k:Int,B=.int .i64 k/\(af (!(decide ((k:Int)<0)))
 (R (.aP []) c)
 (bG (ag T E.ys a0 (.int .i64 (IntKind.wrap .i64 (a3+j)))) fun C D=>aR (aD c C D E.w) fun l=>bG (ag T E.ys a0 (.int .i64 (IntKind.wrap .i64 (a3+b)))) fun F G=>aR (aD c F G E.w) fun m=>bG (ag T E.ys a0 (.int .i64 (IntKind.wrap .i64 (a3+b)))) fun H I=>fh (some E.w) l (bt (cK c H I l) fun J=>bG (ag T E.ys a0 (.int .i64 (IntKind.wrap .i64 (a3+j)))) fun K L=>fh (some E.w) m (bt (cK J K L m) fun M=>∃ m',m'<m3/\p m' [.int .i64 j] M))))) /\
 (bz fun d =>
 (∀ n:Bool,∀ e:AS,d [.bool n] e ->
 af n
 (r [(.int .i64 (IntKind.wrap .i64 ((IntKind.wrap .i64 ((IntKind.wrap .i64 (2*b))+1))+1)))] e)
 (r [(.int .i64 (IntKind.wrap .i64 ((IntKind.wrap .i64 (2*b))+1)))] e)) /\
 (af (decide ((IntKind.wrap .i64 ((IntKind.wrap .i64 ((IntKind.wrap .i64 (2*b))+1))+1):Int)<a2)) (bG (ag T E.ys a0 (.int .i64 (IntKind.wrap .i64 (a3+(IntKind.wrap .i64 ((IntKind.wrap .i64 (2*b))+1)))))) fun O Q=>aR (aD i O Q E.w) fun S=>bG (ag T E.ys a0 (.int .i64 (IntKind.wrap .i64 ((IntKind.wrap .i64 (a3+(IntKind.wrap .i64 ((IntKind.wrap .i64 (2*b))+1))))+1)))) fun U W=>aR (aD i U W E.w) fun X=>er Tryz.prog a4 [.agg S,.agg X] i fun Y Z=>∃ o:Int,Y=.int .i64 o/\(d [(.bool (decide ((o:Int)<0)))] Z)) (d [.bool false] i))))
def Ay:QA:=(.seq .leaf (.wrap (.loop [(10,.int .i64)] [(10,11),(13,81)] (.wrap (.seq .leaf (.seq (.seq .leaf (.cond .leaf .leaf)) (.join [(11,.int .i64)] [(11,11),(19,42)] (.join [(40,.bool)] [(19,40)] (.draw 19) (.cond .leaf .leaf)) (.seq (.seq (.draw 13) (.cond .leaf .leaf)) (.seq .calm .leaf)))))))))
def lE (a0:AV) (a1:Int) (a2:Option (Nat×Nat)) (a3:AV) (s:AS) (R:AV->AS->Prop):Prop :=
 aa Tryz.prog E.kN [a0,(.int .i64 (IntKind.wrap .i64 (a1 - 1))),.int .i64 a1,(.int .i64 (IntKind.wrap .i64 (a1+1))),.ptr a2,a3] s fun c s2=>∃ b:Int,c=.int .i64 b/\(R (.int .i64 b) s2)
def tH:QA:=(.seq .leaf (.seq .leaf .leaf))
def Df (a0:AV) (a1:Int) (a2:Int) (a3:Int) (a4:Option (Nat×Nat)) (a5:AV) (s:AS) (R:AV->AS->Prop):Prop :=
 aa Tryz.prog E.iJ [a0,.int .i64 a1,.int .i64 a2,.ptr a4,a5] s fun k s2=>∃ e:Int,∃ i:Int,k=.aP [.int .i64 e,.int .i64 i]/\(aa Tryz.prog E.iJ [a0,.int .i64 i,.int .i64 a3,.ptr a4,a5] s2 fun l s6=>∃ j:Int,∃ m:Int,l=.aP [.int .i64 j,.int .i64 m]/\(aa Tryz.prog E.iJ [a0,.int .i64 e,.int .i64 j,.ptr a4,a5] s6 fun n c=>∃ d:Int,∃ b:Int,n=.aP [.int .i64 d,.int .i64 b]/\(R (.int .i64 b) c)))
def Dg:QA:=(.seq .leaf (.seq .leaf (.seq .leaf (.seq .leaf (.seq .leaf .leaf)))))
def Dh (a0:AV) (a1:Int) (a2:Int) (a3:Option (Nat×Nat)) (a4:AV) (s:AS) (R:AV->AS->Prop):Prop :=
 bG (ag T E.ys a0 (.int .i64 a2)) fun l1 o2=>aR (aD s l1 o2 E.w) fun j=>bG (ag T E.ys a0 (.int .i64 a1)) fun k l=>aR (aD s k l E.w) fun m=>er Tryz.prog a4 [.agg j,.agg m] s fun n s8=>∃ i:Int,n=.int .i64 i/\(af (decide ((i:Int)<0))
 (ah a3 fun mL b=>aV .i64 (av s8 mL b) fun c=>ah a3 fun d e=>bt (cK s8 d e [(.int .i64 (IntKind.wrap .i64 (c+1)))]) fun gu=>R (.aP [.int .i64 a2,.int .i64 a1]) gu)
 (R (.aP [.int .i64 a1,.int .i64 a2]) s8))
def Di:QA:=(.seq .leaf (.seq (.seq (.draw 9) (.cond (.seq .leaf (.seq .leaf .leaf)) .leaf)) (.seq .leaf .leaf)))
def mC (a0:AV) (a1:Int) (a2:Int) (a3:AV) (s:AS) (R:AV->AS->Prop):Prop :=
 af (decide ((IntKind.wrap .i64 (a2 - a1):Int)>=8))
 (aj (.cells [.int .u64 0] 0 false) s fun l1 s2=>bt (cK s2 l1 0 [(.int .u64 (IntKind.wrap .u64 (IntKind.wrap .i64 (a2 - a1))))]) fun s3=>aa Tryz.prog gM [(.int .i64 (IntKind.wrap .i64 (a2 - a1)))] s3 fun G H=>∃ D:Int,G=.int .u64 D/\(NZ 4 (bB fun m I=>m I [(.int .i64 (IntKind.wrap .i64 ((IntKind.wrap .i64 (a1+(IntKind.wrap .i64 ((IntKind.wrap .i64 (Int.tdiv (IntKind.wrap .i64 (a2 - a1)) 4))*2)))) - 1)))] H /\
 ∀ F:Nat,∀ b:Int,∀ c:AS,m F [.int .i64 b] c ->
 NZ 4 (af (decide ((b:Int)<=(IntKind.wrap .i64 ((IntKind.wrap .i64 (a1+(IntKind.wrap .i64 ((IntKind.wrap .i64 (Int.tdiv (IntKind.wrap .i64 (a2 - a1)) 4))*2))))+1))))
 (aa Tryz.prog ie [(.ptr (some (l1,0)))] c fun n bP=>∃ j:Int,n=.int .u64 j/\(aV .u64 (bA .and .u64 j (IntKind.wrap .u64 (D - 1))) fun d=>bz fun e =>
 (∀ i:Int,∀ gz:AS,e [.int .i64 i] gz ->
 bG (ag T E.ys a0 (.int .i64 (IntKind.wrap .i64 (a1+i)))) fun o p=>aR (aD gz o p E.w) fun k=>bG (ag T E.ys a0 (.int .i64 b)) fun r x=>aR (aD gz r x E.w) fun l=>bG (ag T E.ys a0 (.int .i64 b)) fun y z=>fh (some E.w) k (bt (cK gz y z k) fun A=>bG (ag T E.ys a0 (.int .i64 (IntKind.wrap .i64 (a1+i)))) fun B C=>fh (some E.w) l (bt (cK A B C l) fun mu=>∃ m',m'<F/\m m' [(.int .i64 (IntKind.wrap .i64 (b+1)))] mu))) /\
 (af (decide ((IntKind.wrap .i64 d:Int)>=(IntKind.wrap .i64 (a2 - a1))))
 (e [(.int .i64 (IntKind.wrap .i64 ((IntKind.wrap .i64 d) - (IntKind.wrap .i64 (a2 - a1)))))] bP)
 (e [(.int .i64 (IntKind.wrap .i64 d))] bP))))
 (R (.aP []) c)))))
 (R (.aP []) s)
def uO:QA:=(.seq .leaf (.seq .leaf (.cond (.seq .leaf (.seq .leaf (.seq .leaf (.wrap (.loop [(11,.int .i64)] [(11,12),(28,66)] (.seq (.seq .leaf (.cond .leaf .leaf)) (.seq (.wrap (.seq .leaf (.join [(12,.int .i64)] [(12,12),(43,48)] (.seq .leaf (.cond .leaf .leaf)) .calm))) .leaf))))))) .leaf)))
class SQ (E:SE):Prop where
 y5:∀ (a0:AV) (a1:AV) (s:AS) (R:AV->AS->Prop),Np E a0 a1 s R->aa Tryz.prog E.uL [a0,a1] s R
 nQ:∀ (a0:AV) (a1:Int) (a2:Int) (a3:Int) (a4:AV) (s:AS) (R:AV->AS->Prop),BS E a0 a1 a2 a3 a4 s R->aa Tryz.prog E.fG [a0,.int .i64 a1,.int .i64 a2,.int .i64 a3,a4] s R
 iu:∀ (a0:AV) (a1:Int) (a2:Int) (a3:AV) (s:AS) (R:AV->AS->Prop),uM E a0 a1 a2 a3 s R->aa Tryz.prog E.fB [a0,.int .i64 a1,.int .i64 a2,a3] s R
 rP:∀ (a0:AV) (a1:Int) (a2:Int) (a3:AV) (s:AS) (R:AV->AS->Prop),Av E a0 a1 a2 a3 s R->aa Tryz.prog E.mB [a0,.int .i64 a1,.int .i64 a2,a3] s R
 oN:∀ (a0:AV) (a1:Int) (a2:Int) (a3:AV) (s:AS) (R:AV->AS->Prop),wP E a0 a1 a2 a3 s R->aa Tryz.prog E.jE [a0,.int .i64 a1,.int .i64 a2,a3] s R
 mU:∀ (a0:AV) (a1:Int) (a2:Int) (a3:AV) (s:AS) (R:AV->AS->Prop),vC E a0 a1 a2 a3 s R->aa Tryz.prog E.iQ [a0,.int .i64 a1,.int .i64 a2,a3] s R
 gT:∀ (a0:AV) (a1:Int) (a2:Int) (a3:AV) (s:AS) (R:AV->AS->Prop),gS E a0 a1 a2 a3 s R->aa Tryz.prog E.eT [a0,.int .i64 a1,.int .i64 a2,a3] s R
 lF:∀ (a0:AV) (a1:Int) (a2:Int) (a3:Int) (a4:AV) (s:AS) (R:AV->AS->Prop),tE E a0 a1 a2 a3 a4 s R->aa Tryz.prog E.gN [a0,.int .i64 a1,.int .i64 a2,.int .i64 a3,a4] s R
 qO:∀ (a0:AV) (a1:Int) (a2:Int) (a3:Int) (a4:AV) (s:AS) (R:AV->AS->Prop),yZ E a0 a1 a2 a3 a4 s R->aa Tryz.prog E.kW [a0,.int .i64 a1,.int .i64 a2,.int .i64 a3,a4] s R
 rQ:∀ (a0:AV) (a1:Int) (a2:Int) (a3:Int) (a4:AV) (s:AS) (R:AV->AS->Prop),Ax E a0 a1 a2 a3 a4 s R->aa Tryz.prog E.iZ [a0,.int .i64 a1,.int .i64 a2,.int .i64 a3,a4] s R
 lG:∀ (a0:AV) (a1:Int) (a2:Option (Nat×Nat)) (a3:AV) (s:AS) (R:AV->AS->Prop),lE E a0 a1 a2 a3 s R->aa Tryz.prog E.dR [a0,.int .i64 a1,.ptr a2,a3] s R
 vk:∀ (a0:AV) (a1:Int) (a2:Int) (a3:Int) (a4:Option (Nat×Nat)) (a5:AV) (s:AS) (R:AV->AS->Prop),Df E a0 a1 a2 a3 a4 a5 s R->aa Tryz.prog E.kN [a0,.int .i64 a1,.int .i64 a2,.int .i64 a3,.ptr a4,a5] s R
 vl:∀ (a0:AV) (a1:Int) (a2:Int) (a3:Option (Nat×Nat)) (a4:AV) (s:AS) (R:AV->AS->Prop),Dh E a0 a1 a2 a3 a4 s R->aa Tryz.prog E.iJ [a0,.int .i64 a1,.int .i64 a2,.ptr a3,a4] s R
 mD:∀ (a0:AV) (a1:Int) (a2:Int) (a3:AV) (s:AS) (R:AV->AS->Prop),mC E a0 a1 a2 a3 s R->aa Tryz.prog E.iq [a0,.int .i64 a1,.int .i64 a2,a3] s R
end Go.Proofs.YtohgmogbabkkeaaGreat.SG
end

section
set_option maxRecDepth 100000
set_option maxHeartbeats 4000000
namespace Go.Proofs.YtohgmogbabkkeaaGreat
open Go.Am
def PA  (s:AS) (R:AV->AS->Prop):Prop :=
 oS (aS T nK [(2,.bool true)]) fun b=>cH b (aj (.cells b 0 false) s fun c s3=>R (.ptr (some (c,0))) s3)
def PB:QA:=(.seq .leaf (.seq .leaf .leaf))
theorem PC  (s:AS) (R:AV->AS->Prop) (h:PA  s R):aa Tryz.prog BE [] s R :=
 aa.q (n:=3) (rs:=[.tmp 0]) (A:=PB) hT bW Tryz.func146 (by kernel_rfl) rfl rfl rfl (by kernel_rfl) (by kernel_rfl) h
def Gy (a0:Option (Nat×Nat)) (a1:List AV) (s:AS) (R:AV->AS->Prop):Prop :=
 cH a1 (aj (.cells a1 0 false) s fun l1 s2=>aa Tryz.prog iE [.ptr a0] s2 fun v3 s4=>∃ b5:Bool,v3=.bool b5/\(af (!b5)
 (R (.aP [.bool false,.int .i64 1]) s4)
 (aR (aD s4 l1 0 2) fun g6=>aa Tryz.prog nA [.agg g6] s4 fun v7 s8=>∃ b9:Bool,v7=.bool b9/\(af (!b9)
 (R (.aP [.bool false,.int .i64 2]) s8)
 (aR (aD s8 l1 0 2) fun H=>aa Tryz.prog kj [.ptr a0,.agg H] s8 fun v11 dI=>∃ w:Bool,v11=.bool w/\(af w
 (R (.aP [.bool false,.int .i64 0]) dI)
 (ah a0 fun lC I=>aR (aD dI lC I 18) fun x=>aj (.cells [.int .u64 0,.int .u64 0,.int .u64 0,.int .u64 0,.int .u64 0,.int .u64 0,.int .u64 0,.int .u64 0,.int .u64 0,.int .u64 0,.int .u64 0,.int .u64 0,.int .u64 0,.int .u64 0,.int .u64 0,.int .u64 0,.slc none 0 0 true,.bool false] 0 false) dI fun j eE=>fh (some 18) x (bt (cK eE j 0 x) fun gz=>gy fun S V=>ah a0 fun J K=>dS (av gz J (K+16)) fun c=>aR (aD gz l1 0 2) fun d=>(∀ l:AS,Ext gz l->aM l->(True)->aa Tryz.prog ax [c,.agg d,(.func cL [])] l fun L y=>∃ n:Int,∃ o:Bool,L=.aP [.int .i64 n,.bool o]/\((Ext l y/\S 5 [(.func ax []),c,.agg d,(.func cL [])] (.aP [.int .i64 n,.bool o]) y/\V 5 [(.func ax []),c,.agg d,(.func cL [])] (.aP [.int .i64 n,.bool o]))))/\(∃ v,V 5 [(.func ax []),c,.agg d,(.func cL [])] v)/\∀ z:AV,V 5 [(.func ax []),c,.agg d,(.func cL [])] z->∃ p:Int,∃ A:Bool,z=.aP [.int .i64 p,.bool A]/\(∀ b:AS,Ext gz b->aM b->(S 5 [(.func ax []),c,.agg d,(.func cL [])] (.aP [.int .i64 p,.bool A]) b/\True)->gy fun S V=>ah a0 fun M O=>dS (av b M (O+16)) fun e=>(∀ mK:AS,Ext b mK->aM mK->(True)->aa Tryz.prog aF [e] mK fun B C=>(Ext mK C/\S 4 [(.func aF []),e] B C/\V 4 [(.func aF []),e] B))/\(∃ v,V 4 [(.func aF []),e] v)/\∀ xN:AV,V 4 [(.func aF []),e] xN->aR (aD b l1 0 2) fun i=>(∀ m:AS,Ext b m->aM m->(True)->aR (cV T az 1 [(0,.agg i)]) fun Q=>aj (.cells Q 0 false) m fun D F=>(Ext m F/\S 7 [.agg i] (.slc (some (D,0)) 1 1 true) F/\V 7 [.agg i] (.slc (some (D,0)) 1 1 true)))/\(∃ v,V 7 [.agg i] v)/\∀ r:AV,V 7 [.agg i] r->∀ k:AS,Ext b k->aM k->(S 4 [(.func aF []),e] xN k/\(S 7 [.agg i] r k/\True))->aa Tryz.prog ek [xN,.int .i64 p,r] k fun U W=>fu T az W j 16 U fun X=>aa Tryz.prog mj [(.ptr (some (j,0)))] X fun Y Ht=>Y=.aP []/\(dS (av Ht j 16) fun Z=>aV .i64 (aQ T az Z Ht) fun ab=>af (decide ((ab:Int)>4096))
 (R (.aP [.bool false,.int .i64 5]) Ht)
 (aR (aD Ht j 0 18) fun G=>ah a0 fun ad ae=>fh (some 18) G (bt (cK Ht ad ae G) fun al=>R (.aP [.bool true,.int .i64 0]) al))))))))))))
def Gz:QA:=(.seq .leaf (.seq (.wrap (.seq .leaf (.cond (.seq .leaf .leaf) (.seq .leaf (.cond (.seq .leaf .leaf) (.seq .leaf (.cond (.seq .leaf .leaf) .leaf))))))) (.seq .leaf (.seq (.gR 10 [[],[],[],[],[],[],[],[],[],[]] [5]) (.seq (.gR 8 [[],[],[],[],[],[],[],[]] [4,7]) (.seq .leaf (.seq (.seq .leaf (.cond (.seq .leaf .leaf) .leaf)) (.seq .leaf (.seq .leaf .leaf)))))))))
theorem GA (a0:Option (Nat×Nat)) (a1:List AV) (s:AS) (R:AV->AS->Prop) (h:Gy a0 a1 s R):aa Tryz.prog sk [.ptr a0,.agg a1] s R :=
 aa.q (n:=51) (rs:=[.tmp 4,.tmp 5]) (A:=Gz) hT bW Tryz.func227 (by kernel_rfl) rfl rfl rfl (by kernel_rfl) (by kernel_rfl) h
def K_ (a0:List AV) (s:AS) (R:AV->AS->Prop):Prop :=
 cH a0 (aj (.cells a0 0 false) s fun l1 s2=>aV .i64 (av s2 l1 0) fun b=>af (decide ((b:Int)>=1)) (aV .i64 (av s2 l1 0) fun c=>af (decide ((c:Int)<=16)) (aV .u64 (av s2 l1 1) fun d=>af (decide ((d:Int)>=1)) (aV .u64 (av s2 l1 1) fun e=>R (.bool (decide ((e:Int)<=4611686018427387904))) s2) (R (.bool false) s2)) (R (.bool false) s2)) (R (.bool false) s2))
def La:QA:=(.seq .leaf (.seq .leaf .leaf))
theorem Lb (a0:List AV) (s:AS) (R:AV->AS->Prop) (h:K_ a0 s R):aa Tryz.prog wz [.agg a0] s R :=
 aa.q (n:=21) (rs:=[.tmp 2]) (A:=La) hT bW Tryz.func33 (by kernel_rfl) rfl rfl rfl (by kernel_rfl) (by kernel_rfl) h
def PD (a0:List AV) (s:AS) (R:AV->AS->Prop):Prop :=
 cH a0 (aj (.cells a0 0 false) s fun l1 s2=>aV .i64 (av s2 l1 0) fun b=>af (decide ((b:Int)>=1)) (aV .i64 (av s2 l1 0) fun c=>af (decide ((c:Int)<=16)) (aV .u64 (av s2 l1 1) fun d=>af (decide ((d:Int)>=1)) (aV .u64 (av s2 l1 1) fun e=>R (.bool (decide ((e:Int)<=4611686018427387904))) s2) (R (.bool false) s2)) (R (.bool false) s2)) (R (.bool false) s2))
def PE:QA:=(.seq .leaf (.seq .leaf .leaf))
theorem PF (a0:List AV) (s:AS) (R:AV->AS->Prop) (h:PD a0 s R):aa Tryz.prog nA [.agg a0] s R :=
 aa.q (n:=21) (rs:=[.tmp 2]) (A:=PE) hT bW Tryz.func118 (by kernel_rfl) rfl rfl rfl (by kernel_rfl) (by kernel_rfl) h
def GB (a0:Option (Nat×Nat)) (a1:List AV) (s:AS) (R:AV->AS->Prop):Prop :=
 cH a1 (aj (.cells a1 0 false) s fun l1 s2=>aa Tryz.prog iE [.ptr a0] s2 fun D s4=>∃ B:Bool,D=.bool B/\(af (!B) (R (.bool false) s4) (aR (aD s4 l1 0 2) fun F=>aa Tryz.prog nA [.agg F] s4 fun G s8=>∃ C:Bool,G=.bool C/\(af (!C)
 (R (.bool false) s8)
 (gy fun S V=>ah a0 fun mL n=>dS (av s8 mL (n+16)) fun b=>aR (aD s8 l1 0 2) fun c=>(∀ d:AS,Ext s8 d->aM d->(True)->aa Tryz.prog ax [b,.agg c,(.func cL [])] d fun o k=>∃ e:Int,∃ i:Bool,o=.aP [.int .i64 e,.bool i]/\((Ext d k/\S 5 [(.func ax []),b,.agg c,(.func cL [])] (.aP [.int .i64 e,.bool i]) k/\V 5 [(.func ax []),b,.agg c,(.func cL [])] (.aP [.int .i64 e,.bool i]))))/\(∃ v,V 5 [(.func ax []),b,.agg c,(.func cL [])] v)/\∀ l:AV,V 5 [(.func ax []),b,.agg c,(.func cL [])] l->∃ m:Int,∃ j:Bool,l=.aP [.int .i64 m,.bool j]/\(∀ fP:AS,Ext s8 fP->aM fP->(S 5 [(.func ax []),b,.agg c,(.func cL [])] (.aP [.int .i64 m,.bool j]) fP/\True)->af j (R (.bool true) fP) (aV .u64 (av fP l1 1) fun p=>aV .i64 (av fP l1 0) fun r=>ah a0 fun w x=>bG (ag T aY (.ptr (some (w,x))) (.int .i64 (IntKind.wrap .i64 (r - 1)))) fun y z=>aV .u64 (av fP y z) fun A=>R (.bool (decide ((p:Int)<=A))) fP)))))))
def GC:QA:=(.seq .leaf (.seq (.seq .leaf (.cond (.seq .leaf .leaf) .leaf)) (.seq (.gR 10 [[],[],[],[],[],[],[],[],[],[]] [5]) (.seq (.draw 12) .leaf))))
theorem GD (a0:Option (Nat×Nat)) (a1:List AV) (s:AS) (R:AV->AS->Prop) (h:GB a0 a1 s R):aa Tryz.prog kj [.ptr a0,.agg a1] s R :=
 aa.q (n:=38) (rs:=[.tmp 4]) (A:=GC) hT bW Tryz.func44 (by kernel_rfl) rfl rfl rfl (by kernel_rfl) (by kernel_rfl) h
def Fi (a0:Option (Nat×Nat)) (s:AS) (R:AV->AS->Prop):Prop :=
 aa Tryz.prog iE [.ptr a0] s fun l s2=>∃ k:Bool,l=.bool k/\(af (!k)
 (R (.ptr none) s2)
 (gy fun S V=>ah a0 fun m n=>aR (aD s2 m n 16) fun o=>ah a0 fun p r=>dS (av s2 p (r+16)) fun e=>(∀ b:AS,Ext s2 b->aM b->(True)->aa Tryz.prog aF [e] b fun v11 dI=>(Ext b dI/\S 8 [(.func aF []),e] v11 dI/\V 8 [(.func aF []),e] v11))/\(∃ v,V 8 [(.func aF []),e] v)/\∀ d:AV,V 8 [(.func aF []),e] d->∀ c:AS,Ext s2 c->aM c->(S 8 [(.func aF []),e] d c/\True)->oS (aS T nK [(0,.agg o),(1,d),(2,.bool true)]) fun i=>cH i (aj (.cells i 0 false) c fun j eE=>R (.ptr (some (j,0))) eE)))
def Fj:QA:=(.seq .leaf (.seq (.seq .leaf (.cond (.seq .leaf .leaf) .leaf)) (.seq (.gR 9 [[],[],[],[],[],[],[],[],[]] [8]) .leaf)))
theorem Fk (a0:Option (Nat×Nat)) (s:AS) (R:AV->AS->Prop) (h:Fi a0 s R):aa Tryz.prog dA [.ptr a0] s R :=
 aa.q (n:=17) (rs:=[.tmp 2]) (A:=Fj) hT bW Tryz.func111 (by kernel_rfl) rfl rfl rfl (by kernel_rfl) (by kernel_rfl) h
def vn (a0:Option (Nat×Nat)) (s:AS) (R:AV->AS->Prop):Prop :=
 sJ (iB T 100 lA (.ptr a0) (.ptr none)) fun b=>af (!b) (ah a0 fun c d=>On (av s c (d+17)) fun e=>R (.bool e) s) (R (.bool false) s)
def Dk:QA:=(.seq .leaf (.seq .leaf .leaf))
theorem Dl (a0:Option (Nat×Nat)) (s:AS) (R:AV->AS->Prop) (h:vn a0 s R):aa Tryz.prog iE [.ptr a0] s R :=
 aa.q (n:=11) (rs:=[.tmp 2]) (A:=Dk) hT bW Tryz.func112 (by kernel_rfl) rfl rfl rfl (by kernel_rfl) (by kernel_rfl) h
def iR (a0:AV) (a1:List AV) (a2:AV) (s:AS) (R:AV->AS->Prop):Prop :=
 cH a1 (aj (.cells a1 0 false) s fun l1 s2=>aV .i64 (aQ T az a0 s2) fun F=>bz fun G =>
 (∀ o:Int,∀ s6:AS,G [.int .i64 o] s6 ->
 gy fun S V=>af (decide ((o:Int)<F)) (bG (ag T az a0 (.int .i64 o)) fun H I=>aR (aD s6 H I 2) fun n=>aR (aD s6 l1 0 2) fun c=>(∀ i:AS,Ext s6 i->aM i->(True)->er Tryz.prog a2 [.agg n,.agg c] i fun x bP=>∃ k:Int,x=.int .i64 k/\((Ext i bP/\S 11 [a2,.agg n,.agg c] (.int .i64 k) bP/\V 11 [a2,.agg n,.agg c] (.int .i64 k))))/\(∃ v,V 11 [a2,.agg n,.agg c] v)/\∀ p:AV,V 11 [a2,.agg n,.agg c] p->∃ l:Int,p=.int .i64 l/\(∀ lK:AS,Ext s6 lK->aM lK->(S 11 [a2,.agg n,.agg c] (.int .i64 l) lK/\True)->R (.aP [.int .i64 o,(.bool ((l:Int)==0))]) lK)) (∀ gz:AS,Ext s6 gz->aM gz->(True)->R (.aP [.int .i64 o,.bool false]) gz)) /\
 (bB fun j y=>j y [.int .i64 0,.int .i64 F] s2 /\
 ∀ m:Nat,∀ b:Int,∀ d:Int,∀ e:AS,j m [.int .i64 b,.int .i64 d] e ->
 af (decide ((b:Int)<d))
 (NN 1 (bG (ag T az a0 (.int .i64 (IntKind.wrap .i64 (Int.fdiv (IntKind.wrap .u64 (IntKind.wrap .i64 (b+d))) (2 ^ min (Int.toNat 1) (IntKind.bits .u64)))))) fun z A=>aR (aD e z A 2) fun B=>aR (aD e l1 0 2) fun C=>er Tryz.prog a2 [.agg B,.agg C] e fun D r=>∃ w:Int,D=.int .i64 w/\(af (decide ((w:Int)<0))
 (∃ m',m'<m/\j m' [(.int .i64 (IntKind.wrap .i64 ((IntKind.wrap .i64 (Int.fdiv (IntKind.wrap .u64 (IntKind.wrap .i64 (b+d))) (2 ^ min (Int.toNat 1) (IntKind.bits .u64))))+1))),.int .i64 d] r)
 (∃ m',m'<m/\j m' [.int .i64 b,(.int .i64 (IntKind.wrap .i64 (Int.fdiv (IntKind.wrap .u64 (IntKind.wrap .i64 (b+d))) (2 ^ min (Int.toNat 1) (IntKind.bits .u64)))))] r))))
 (G [.int .i64 b] e)))
def iS:QA:=(.seq .leaf (.seq .leaf (.seq .leaf (.join [(9,.int .i64)] [(9,11),(15,34)] (.wrap (.loop [(9,.int .i64),(10,.int .i64)] [(9,11),(15,34)] (.seq (.seq .leaf (.cond .leaf .leaf)) (.wrap (.seq .leaf (.seq (.draw 6) (.cond .leaf .leaf))))))) (.seq (.gR 15 [[],[],[],[],[],[],[],[],[],[],[],[],[],[],[]] [11]) .leaf)))))
theorem iT (a0:AV) (a1:List AV) (a2:AV) (s:AS) (R:AV->AS->Prop) (h:iR a0 a1 a2 s R):aa Tryz.prog ax [a0,.agg a1,a2] s R :=
 aa.q (n:=49) (rs:=[.tmp 6,.tmp 7]) (A:=iS) hT bW Tryz.func126 (by kernel_rfl) rfl rfl rfl (by kernel_rfl) (by kernel_rfl) h
def Lc (a0:List AV) (a1:List AV) (s:AS) (R:AV->AS->Prop):Prop :=
 cH a0 (aj (.cells a0 0 false) s fun l1 s2=>cH a1 (aj (.cells a1 0 false) s2 fun l3 s4=>gy fun S V=>aV .i64 (av s4 l1 0) fun d=>aV .i64 (av s4 l3 0) fun e=>(∀ s7:AS,Ext s4 s7->aM s7->(True)->aa Tryz.prog aO [.int .i64 d,.int .i64 e] s7 fun x w=>∃ b:Int,x=.int .i64 b/\((Ext s7 w/\S 4 [(.func aO []),.int .i64 d,.int .i64 e] (.int .i64 b) w/\V 4 [(.func aO []),.int .i64 d,.int .i64 e] (.int .i64 b))))/\(∃ v,V 4 [(.func aO []),.int .i64 d,.int .i64 e] v)/\∀ v11:AV,V 4 [(.func aO []),.int .i64 d,.int .i64 e] v11->∃ c:Int,v11=.int .i64 c/\(aV .u64 (av s4 l1 1) fun k=>aV .u64 (av s4 l3 1) fun l=>∀ gu:AS,Ext s4 gu->aM gu->(S 4 [(.func aO []),.int .i64 d,.int .i64 e] (.int .i64 c) gu/\True)->aa Tryz.prog eD [.int .u64 k,.int .u64 l] gu fun m eE=>∃ i:Int,m=.int .i64 i/\(aR (cV T gG 2 [(0,.int .i64 c),(1,.int .i64 i)]) fun n=>aj (.cells n 0 false) eE fun o fP=>aa Tryz.prog kk [(.slc (some (o,0)) 2 2 true)] fP fun p r=>∃ j:Int,p=.int .i64 j/\(R (.int .i64 j) r)))))
def Ld:QA:=(.seq .leaf (.seq (.gR 9 [[],[],[],[],[],[],[],[],[]] [4]) .leaf))
theorem Le (a0:List AV) (a1:List AV) (s:AS) (R:AV->AS->Prop) (h:Lc a0 a1 s R):aa Tryz.prog cL [.agg a0,.agg a1] s R :=
 aa.q (n:=17) (rs:=[.tmp 4]) (A:=Ld) hT bW Tryz.func127 (by kernel_rfl) rfl rfl rfl (by kernel_rfl) (by kernel_rfl) h
def qP (a0:AV) (a1:Int) (a2:AV) (s:AS) (R:AV->AS->Prop):Prop :=
 dS (aZ T az a0 (some (.int .i64 a1)) none none) fun I=>aV .i64 (aQ T az a2 s) fun n2=>af ((n2:Int)==0)
 (R a0 s)
 (aV .i64 (aQ T az a0 s) fun c=>af ((a1:Int)==c)
 (iD (aI T az az a0 a2 s) fun z A=>R z A)
 (aV .i64 (vP T az a0) fun B=>af (decide ((IntKind.wrap .i64 (c+n2):Int)>B))
 (dS (aZ T az a0 none (some (.int .i64 a1)) none) fun C=>iD (aI T az tg C (.int .i64 (IntKind.wrap .i64 ((IntKind.wrap .i64 (c+n2)) - a1))) s) fun e D=>dS (aZ T az e (some (.int .i64 a1)) none none) fun v10=>iD (qt T az v10 a2 D) fun v11 dI=>dS (aZ T az e (some (.int .i64 (IntKind.wrap .i64 (a1+n2)))) none none) fun i=>dS (aZ T az a0 (some (.int .i64 a1)) none none) fun j=>iD (qt T az i j dI) fun F k=>R e k)
 (dS (aZ T az a0 none (some (.int .i64 (IntKind.wrap .i64 (c+n2)))) none) fun b=>dS (aZ T az b (some (.int .i64 (IntKind.wrap .i64 (a1+n2)))) none none) fun l=>aa Tryz.prog mq [a2,l] s fun m gi=>∃ d:Bool,m=.bool d/\(af (!d)
 (dS (aZ T az b (some (.int .i64 (IntKind.wrap .i64 (a1+n2)))) none none) fun n=>dS (aZ T az b (some (.int .i64 a1)) none none) fun o=>iD (qt T az n o gi) fun G dW=>dS (aZ T az b (some (.int .i64 a1)) none none) fun p=>iD (qt T az p a2 dW) fun H r=>R b r)
 (dS (aZ T az b (some (.int .i64 c)) none none) fun w=>iD (qt T az w a2 gi) fun v30 mu=>dS (aZ T az b (some (.int .i64 a1)) none none) fun x=>aa Tryz.prog q9 [x,.int .i64 n2] mu fun y kr=>y=.aP []/\(R b kr))))))
def qQ:QA:=(.seq .leaf (.seq .leaf (.seq .leaf (.seq (.seq .leaf (.cond (.seq .leaf .leaf) .leaf)) (.seq .leaf (.seq (.seq .leaf (.cond (.seq .leaf .leaf) .leaf)) (.seq (.seq .leaf (.cond (.seq .leaf (.seq .leaf (.seq (.draw 8) (.seq .leaf .leaf)))) .leaf)) (.seq .leaf (.seq (.seq .leaf (.cond (.seq (.draw 8) (.seq .leaf (.seq .leaf .leaf))) .leaf)) (.seq .leaf (.seq .leaf (.seq .leaf .leaf))))))))))))
theorem jF (a0:AV) (a1:Int) (a2:AV) (s:AS) (R:AV->AS->Prop) (h:qP a0 a1 a2 s R):aa Tryz.prog ek [a0,.int .i64 a1,a2] s R :=
 aa.q (n:=95) (rs:=[.tmp 6]) (A:=qQ) hT bW Tryz.func263 (by kernel_rfl) rfl rfl rfl (by kernel_rfl) (by kernel_rfl) h
def ri (a0:AV) (s:AS) (R:AV->AS->Prop):Prop :=
 sJ (Qu T az true a0 (.slc none 0 0 true)) fun b=>af b
 (R (.slc none 0 0 true) s)
 (aR (cV T az 0 []) fun c=>aj (.cells c 0 false) s fun l3 s4=>iD (aI T az az (.slc (some (l3,0)) 0 0 true) a0 s4) fun d s6=>R d s6)
def rj:QA:=(.seq .leaf (.seq (.seq .leaf (.cond (.seq .leaf .leaf) .leaf)) (.seq .leaf .leaf)))
theorem rm (a0:AV) (s:AS) (R:AV->AS->Prop) (h:ri a0 s R):aa Tryz.prog aF [a0] s R :=
 aa.q (n:=8) (rs:=[.tmp 2]) (A:=rj) hT bW Tryz.func113 (by kernel_rfl) rfl rfl rfl (by kernel_rfl) (by kernel_rfl) h
def Az (a0:Option (Nat×Nat)) (s:AS) (R:AV->AS->Prop):Prop :=
 bz fun L =>
 (∀ M:AV,∀ s3:AS,L [M] s3 ->
 ah a0 fun Q S=>fu T az s3 Q (S+16) M fun s6=>R (.aP []) s6) /\
 (ah a0 fun U W=>dS (av s U (W+16)) fun O=>aV .i64 (aQ T az O s) fun n=>bB fun d o=>d o [.slc none 0 0 true,.int .i64 0] s /\
 ∀ i:Nat,∀ e:AV,∀ b:Int,∀ j:AS,d i [e,.int .i64 b] j ->
 af (decide ((b:Int)<n))
 (bG (ag T az O (.int .i64 b)) fun p r=>aR (aD j p r 2) fun m=>aj (.cells [.int .i64 0,.int .u64 0] 0 false) j fun c fL=>fh (some 2) m (bt (cK fL c 0 m) fun fP=>aV .i64 (av fP c 0) fun w=>ah a0 fun x y=>bG (ag T aY (.ptr (some (x,y))) (.int .i64 (IntKind.wrap .i64 (w - 1)))) fun k l=>aV .u64 (av fP c 1) fun z=>aV .u64 (av fP k l) fun A=>af (decide ((z:Int)<=A))
 (∃ m',m'<i/\d m' [e,(.int .i64 (IntKind.wrap .i64 (b+1)))] fP)
 (aV .u64 (av fP c 1) fun B=>aV .u64 (av fP k l) fun C=>af ((B:Int)==(IntKind.wrap .u64 (C+1)))
 (aV .u64 (av fP c 1) fun D=>bt (cK fP k l [.int .u64 D]) fun F=>∃ m',m'<i/\d m' [e,(.int .i64 (IntKind.wrap .i64 (b+1)))] F)
 (aR (aD fP c 0 2) fun G=>aR (cV T az 1 [(0,.agg G)]) fun H=>aj (.cells H 0 false) fP fun I mK=>iD (aI T az az e (.slc (some (I,0)) 1 1 true) mK) fun J K=>∃ m',m'<i/\d m' [J,(.int .i64 (IntKind.wrap .i64 (b+1)))] K))))
 (L [e] j))
def AA:QA:=(.wrap (.seq .leaf (.seq .leaf (.join [(2,.any)] [(2,2),(4,45)] (.seq .leaf (.wrap (.loop [(2,.any),(11,.int .i64)] [(2,2),(4,5),(11,45)] (.seq .leaf (.seq (.cond .leaf .leaf) (.seq (.wrap (.seq .leaf (.seq (.seq (.draw 6) (.wrap (.seq (.draw 5) (.cond .leaf (.seq (.draw 6) (.cond (.seq .leaf .leaf) .leaf)))))) .leaf))) .leaf)))))) .leaf))))
theorem AB (a0:Option (Nat×Nat)) (s:AS) (R:AV->AS->Prop) (h:Az a0 s R):aa Tryz.prog mj [.ptr a0] s R :=
 aa.q (n:=50) (rs:=[]) (A:=AA) hT bW Tryz.func264 (by kernel_rfl) rfl rfl rfl (by kernel_rfl) (by kernel_rfl) h
def GF (a0:AV) (s:AS) (R:AV->AS->Prop):Prop :=
 aV .i64 (aQ T gG a0 s) fun i=>bB fun c j=>c j [.int .i64 0] s /\
 ∀ d:Nat,∀ b:Int,∀ s6:AS,c d [.int .i64 b] s6 ->
 af (decide ((b:Int)<i))
 (bG (ag T gG a0 (.int .i64 b)) fun k l=>aV .i64 (av s6 k l) fun e=>af ((e:Int) != 0)
 (R (.int .i64 e) s6)
 (∃ m',m'<d/\c m' [(.int .i64 (IntKind.wrap .i64 (b+1)))] s6))
 (R (.int .i64 0) s6)
def GG:QA:=(.seq .leaf (.seq .leaf (.seq (.seq .leaf (.wrap (.loop [(8,.int .i64)] [(2,2),(5,5),(8,16)] (.seq .leaf (.seq (.cond .leaf .leaf) (.seq (.wrap (.seq .leaf (.seq .leaf (.cond (.seq .leaf .leaf) .leaf)))) .leaf)))))) (.seq .leaf .leaf))))
theorem GH (a0:AV) (s:AS) (R:AV->AS->Prop) (h:GF a0 s R):aa Tryz.prog kk [a0] s R :=
 aa.q (n:=18) (rs:=[.tmp 2]) (A:=GG) hT bW Tryz.func178 (by kernel_rfl) rfl rfl rfl (by kernel_rfl) (by kernel_rfl) h
def y6 (a0:Int) (a1:Int) (s:AS) (R:AV->AS->Prop):Prop :=
 aa Tryz.prog jL [.int .i64 a0] s fun e s2=>∃ d:Bool,e=.bool d/\(aa Tryz.prog jL [.int .i64 a1] s2 fun i b=>∃ c:Bool,i=.bool c/\(af d
 (af c
 (R (.int .i64 0) b)
 (R (.int .i64 (-1)) b))
 (af c
 (R (.int .i64 1) b)
 (af (decide ((a0:Int)<a1))
 (R (.int .i64 (-1)) b)
 (af (decide ((a0:Int)>a1))
 (R (.int .i64 1) b)
 (R (.int .i64 0) b))))))
def y7:QA:=(.seq .leaf (.seq .leaf (.seq .leaf (.seq (.seq .leaf (.cond (.seq (.seq .leaf (.cond (.seq .leaf .leaf) .leaf)) (.seq .leaf .leaf)) .leaf)) (.seq (.seq .leaf (.cond (.seq .leaf .leaf) .leaf)) (.seq (.seq .leaf (.cond (.seq .leaf .leaf) .leaf)) (.seq (.seq .leaf (.cond (.seq .leaf .leaf) .leaf)) (.seq .leaf .leaf))))))))
theorem y8 (a0:Int) (a1:Int) (s:AS) (R:AV->AS->Prop) (h:y6 a0 a1 s R):aa Tryz.prog aO [.int .i64 a0,.int .i64 a1] s R :=
 aa.q (n:=20) (rs:=[.tmp 4]) (A:=y7) hT bW Tryz.func179 (by kernel_rfl) rfl rfl rfl (by kernel_rfl) (by kernel_rfl) h
def vE (a0:Int) (a1:Int) (s:AS) (R:AV->AS->Prop):Prop :=
 aa Tryz.prog gF [.int .u64 a0] s fun e s2=>∃ d:Bool,e=.bool d/\(aa Tryz.prog gF [.int .u64 a1] s2 fun i b=>∃ c:Bool,i=.bool c/\(af d
 (af c
 (R (.int .i64 0) b)
 (R (.int .i64 (-1)) b))
 (af c
 (R (.int .i64 1) b)
 (af (decide ((a0:Int)<a1))
 (R (.int .i64 (-1)) b)
 (af (decide ((a0:Int)>a1))
 (R (.int .i64 1) b)
 (R (.int .i64 0) b))))))
def vF:QA:=(.seq .leaf (.seq .leaf (.seq .leaf (.seq (.seq .leaf (.cond (.seq (.seq .leaf (.cond (.seq .leaf .leaf) .leaf)) (.seq .leaf .leaf)) .leaf)) (.seq (.seq .leaf (.cond (.seq .leaf .leaf) .leaf)) (.seq (.seq .leaf (.cond (.seq .leaf .leaf) .leaf)) (.seq (.seq .leaf (.cond (.seq .leaf .leaf) .leaf)) (.seq .leaf .leaf))))))))
theorem vG (a0:Int) (a1:Int) (s:AS) (R:AV->AS->Prop) (h:vE a0 a1 s R):aa Tryz.prog eD [.int .u64 a0,.int .u64 a1] s R :=
 aa.q (n:=20) (rs:=[.tmp 4]) (A:=vF) hT bW Tryz.func180 (by kernel_rfl) rfl rfl rfl (by kernel_rfl) (by kernel_rfl) h
def tI (a0:Int) (s:AS) (R:AV->AS->Prop):Prop :=
 R (.bool ((a0:Int) != a0)) s
def BU:QA:=(.seq .leaf (.seq .leaf .leaf))
theorem BV (a0:Int) (s:AS) (R:AV->AS->Prop) (h:tI a0 s R):aa Tryz.prog jL [.int .i64 a0] s R :=
 aa.q (n:=6) (rs:=[.tmp 2]) (A:=BU) hT bW Tryz.func238 (by kernel_rfl) rfl rfl rfl (by kernel_rfl) (by kernel_rfl) h
def pQ (a0:Int) (s:AS) (R:AV->AS->Prop):Prop :=
 R (.bool ((a0:Int) != a0)) s
def xZ:QA:=(.seq .leaf (.seq .leaf .leaf))
theorem x4 (a0:Int) (s:AS) (R:AV->AS->Prop) (h:pQ a0 s R):aa Tryz.prog gF [.int .u64 a0] s R :=
 aa.q (n:=6) (rs:=[.tmp 2]) (A:=xZ) hT bW Tryz.func239 (by kernel_rfl) rfl rfl rfl (by kernel_rfl) (by kernel_rfl) h
end Go.Proofs.YtohgmogbabkkeaaGreat
end

section
namespace Go.Proofs.YtohgmogbabkkeaaGreat
open Go.Am Go.au
def aN (d:aJ):List AV:=[.int .i64 d.r,.int .u64 d.c]
theorem bn (d:aJ):(aN d).length=2:=rfl
theorem mE (d:aJ):(aN d).all AV.one=true:=rfl
theorem rR (a:Int) (s:AS):aa Tryz.prog jL [.int .i64 a] s fun v s'=>v=.bool false/\s'=s:=by
 refine BV _ _ _ ?_;simp [tI]
theorem oO (a:Int) (s:AS):aa Tryz.prog gF [.int .u64 a] s fun v s'=>v=.bool false/\s'=s:=by
 refine x4 _ _ _ ?_;simp [pQ]
theorem j8 (a b:Int) (s:AS):aa Tryz.prog aO [.int .i64 a,.int .i64 b] s fun v s'=>v=.int .i64 (sX a b)/\s'=s:=by
 refine y8 _ _ _ _ ?_;refine (rR _ _).mono ?_;rintro v s1 ⟨rfl,rfl⟩;refine ⟨_,rfl,?_⟩;refine (rR _ _).mono ?_;rintro v s1 ⟨rfl,rfl⟩;refine ⟨_,rfl,?_⟩;simp only [gl,sX]
 grind
theorem iy (a b:Int) (s:AS):aa Tryz.prog eD [.int .u64 a,.int .u64 b] s fun v s'=>v=.int .i64 (sX a b)/\s'=s:=by
 refine vG _ _ _ _ ?_;refine (oO _ _).mono ?_;rintro v s1 ⟨rfl,rfl⟩;refine ⟨_,rfl,?_⟩;refine (oO _ _).mono ?_;rintro v s1 ⟨rfl,rfl⟩;refine ⟨_,rfl,?_⟩;simp only [gl,sX]
 grind
theorem qR (d:aJ) (s:AS):aa Tryz.prog nA [.agg (aN d)] s fun v s'=>v=.bool d.may/\Ext s s':=by
 refine aa.pre fun b=>PF _ _ _ ⟨rfl,aj.intro b rfl fun l s1 F=>?_⟩;simp only [F.own.at.av,aN,List.getElem?_cons_zero,List.getElem?_cons_succ,go_sem,gl,F.ext,and_true,aJ.may]
 grind
theorem IT (d:aJ) (s:AS):aa Tryz.prog wz [.agg (aN d)] s fun v s'=>v=.bool d.may/\Ext s s':=by
 refine aa.pre fun b=>Lb _ _ _ ⟨rfl,aj.intro b rfl fun l s1 F=>?_⟩;simp only [F.own.at.av,aN,List.getElem?_cons_zero,List.getElem?_cons_succ,go_sem,gl,F.ext,and_true,aJ.may]
 grind
end Go.Proofs.YtohgmogbabkkeaaGreat
end

section
namespace Go.Proofs.YtohgmogbabkkeaaGreat
open Go.Am Go.au
theorem iK:Bx T az iH 2 16:=⟨bF,jR,Us,⟨_,_,M4,rfl,rfl⟩,by decide,by decide⟩
abbrev GI:=Sl aN 2
theorem aW {n:Int} (h:0<=n/\n<=4611686018427387904):IntKind.wrap .i64 n=n:=IntWalk.i64_in _ (by omega)
theorem rS {n:Int} (h : -4611686018427387904<=n/\n<=4611686018427387904):IntKind.wrap .i64 n=n:=IntWalk.i64_in _ (by omega)
theorem gw {n:Int} (h:0<=n/\n<=18446744073709551615):IntKind.wrap .u64 n=n:=IntWalk.u64_in _ (by omega)
theorem PG {i j:Nat} (h:i+j<=4611686018427387904):IntKind.wrap .i64 (Int.fdiv (IntKind.wrap .u64 (IntKind.wrap .i64 ((i:Int)+(j:Int)))) (2 ^ min (Int.toNat 1) (IntKind.bits .u64)))=(((i+j) / 2:Nat):Int):=by
 rw [show IntKind.wrap .i64 ((i:Int)+(j:Int))=(i:Int)+(j:Int) from aW (by omega),gw (by omega)];have:(2:Int) ^ min (Int.toNat 1) (IntKind.bits .u64)=2:=by decide
 rw [this,Int.fdiv_eq_ediv_of_nonneg _ (by omega),aW (by omega)];omega
theorem pI (a b:Int) {s:AS} {l:Nat} (h:At s l [.int .i64 a,.int .i64 b]):aa Tryz.prog kk [.slc (some (l,0)) 2 2 true] s fun v s'=>v=.int .i64 (if a≠0 then a else b)/\s'=s:=by
 have hs:Sl (fun n:Int=>[AV.int .i64 n]) 1 s (.slc (some (l,0)) 2 2 true) [a,b]:=cq.mk h rfl rfl;refine GH _ _ _ ⟨_,hs.cI rM s,fun m vs s'=>∃ i:Nat,vs=[.int .i64 i]/\s'=s/\i<=2/\m=2 - i/\(0<i->a=0)/\(1<i->b=0),2,⟨0,by simp⟩,?_⟩;rintro m n s' ⟨i,hi,rfl,h2,rfl,h3,h4⟩;simp only [List.cons.injEq,AV.int.injEq,true_and,and_true] at hi;subst hi;refine af.dec (fun j=>?_) (fun k=>?_)
 ·simp only [List.length_cons,List.length_nil] at j;have p:i<2:=by omega
  obtain ⟨x,c⟩:∃ x,[a,b][i]? = some x:=⟨_,List.getElem?_eq_getElem (by simpa using p)⟩;obtain ⟨la,o,w,y⟩:=hs.ix (sz:=1) (by decide) (fun _=>rfl) rM Hs c;refine ⟨la,o,w _,x,(y _ (Ext.refl _)).1 0 (by decide),af.mk (fun r=>?_) (fun heq=>?_)⟩
  ·refine ⟨?_,rfl⟩;have d:x≠0:=by simpa using r
   rcases (show i=0\/i=1 by omega) with rfl | rfl
   ·simp at c;subst c;rw [if_pos d]
   ·simp at c;subst c;rw [if_neg (by simp [h3])]
  ·have e:x=0:=by simpa using heq
   subst e;refine ⟨2 - (i+1),by omega,i+1,by rw [aW (by omega)];rfl,rfl,by omega,rfl,fun _=>?_,fun z=>?_⟩
   ·rcases (show i=0\/i=1 by omega) with rfl | rfl
    ·simpa using c
    ·exact h3 (by decide)
   ·rcases (show i=0\/i=1 by omega) with rfl | rfl
    ·omega
    ·simpa using c
 ·simp only [List.length_cons,List.length_nil] at k;obtain rfl:i=2:=by omega
  refine ⟨?_,rfl⟩;rw [if_neg (by simp [h3]),h4 (by decide)]
theorem uP (a b:aJ) (s:AS):aa Tryz.prog cL [.agg (aN a),.agg (aN b)] s fun v s'=>v=.int .i64 (a.cmp b)/\Ext s s':=by
 refine aa.pre fun n=>Le _ _ _ _ ⟨rfl,aj.intro n rfl fun l s1 F=>⟨rfl,aj.intro F.wf rfl fun o s2 i=>?_⟩⟩;have e:=F.ext.trans i.ext;refine ⟨fun _ _ _ _=>True,fun _ _ v=>v=.int .i64 (sX a.r b.r),fun _ _ _ _ _ _ _=>trivial,?_⟩;simp only [(F.own.ext i.ext).at.av,i.own.at.av,aN,List.getElem?_cons_zero,List.getElem?_cons_succ,go_sem];refine ⟨fun s7 _ _ _=>?_,⟨_,rfl⟩,?_⟩
 ·refine (j8 _ _ _).mono ?_;rintro v s' ⟨rfl,rfl⟩;exact ⟨_,rfl,Ext.refl _,trivial,rfl⟩
 ·rintro v rfl;refine ⟨_,rfl,fun gu j _ _=>?_⟩;refine aa.use (iy _ _ _) ?_;rintro v s' ⟨rfl,rfl⟩ k;refine ⟨_,rfl,?_⟩;have d:cV T gG 2 [(0,.int .i64 (sX a.r b.r)),(1,.int .i64 (sX a.c b.c))]=some [.int .i64 (sX a.r b.r),.int .i64 (sX a.c b.c)]:=by
   simp only [cV,rM,Hs,Io,Option.bind_some,uk];rfl
  rw [d];simp only [go_sem];refine aj.intro k rfl fun l3 s3 m=>?_;refine (pI _ _ m.own.at).mono ?_;rintro v s' ⟨rfl,rfl⟩;refine ⟨_,rfl,?_,e.trans (j.trans m.ext)⟩;simp only [aJ.cmp]
structure wR (s:AS) (p:Nat) (v:List Int) (ex:List aJ):Prop where
 len:v.length=16
 mem:∃ w,Am.Own s p (v.map (.int .u64)++[w,.bool true])/\w.one=true/\GI s w ex
theorem wR.ext {s s':AS} {p:Nat} {v:List Int} {ex:List aJ} (h:wR s p v ex) (e:Ext s s'):wR s' p v ex:=by
 obtain ⟨b,w,h2,h3,h4⟩:=h;exact ⟨b,w,h2.ext e,h3,h4.ext e⟩
theorem uQ {s:AS} {p:Nat} {v:List Int} {ex:List aJ} (h:wR s p v ex):aa Tryz.prog iE [.ptr (some (p,0))] s fun v s'=>v=.bool true/\s'=s:=by
 obtain ⟨b,w,h2,h3,h4⟩:=h;refine Dl _ _ _ ?_;unfold vn;rw [dn rN];have:(v.map (AV.int .u64)++[w,.bool true])[0+17]? = some (.bool true):=by
  rw [List.getElem?_append_right (by simp [b])];simp [b]
 simp only [go_sem,Option.isNone_some,Bool.not_false,h2.at.av,this,and_self]
end Go.Proofs.YtohgmogbabkkeaaGreat
end

section
namespace Go.Proofs.YtohgmogbabkkeaaGreat
open Go.Am Go.au
theorem Fl {s:AS} {v:AV} {l:List aJ} (D:GI s v l) (hlen:l.length<=2 ^ 40) (hr:dZ l) (d:aJ):aa Tryz.prog ax [v,.agg (aN d),.func cL []] s
  fun r s'=>r=.aP [.int .i64 (pos l d:Nat),.bool (decide (d∈l))]/\Ext s s':=by
 refine aa.pre fun W=>iT _ _ _ _ _ ⟨rfl,aj.intro W rfl fun la s2 F=>?_⟩;refine ⟨_,D.cI bF s2,fun vs s'=>∃ i:Nat,vs=[.int .i64 (i:Nat)]/\i<=l.length/\Ext s2 s'/\(∀ (k:Nat) x,k<i->l[k]? = some x->x.lt d=true)/\(∀ (k:Nat) x,i<=k->l[k]? = some x->x.lt d=false),?_,?_⟩
 ·rintro n5 s6 ⟨i,hi,G,w,R,h2⟩;simp only [List.cons.injEq,AV.int.injEq,true_and,and_true] at hi;subst hi;have X:pos l d=i:=pos_eq G R fun x c=>h2 i x (Nat.le_refl _) c;have n:=hr.mem d;rw [X] at n ⊢;refine ⟨fun _ _ _ _=>True,fun _ _ v=>∃ x,l[i]? = some x/\v=.int .i64 (x.cmp d),fun _ _ _ _ _ _ _=>trivial,af.dec (fun H=>?_) (fun I=>?_)⟩
  ·have A:i<l.length:=by omega
   have c:l[i]? = some l[i]:=List.getElem?_eq_getElem A;obtain ⟨y,o,J,K⟩:=(D.ext (F.ext.trans w)).ix (by decide) bn bF jR c;refine ⟨y,o,J _,_,(K _ (Ext.refl _)).2,_,(F.own.ext w).at.aD (by simp [aN]),fun Y Z _ _=>?_,⟨_,_,c,rfl⟩,?_⟩
   ·refine (uP _ _ _).mono ?_;rintro v s' ⟨rfl,e⟩;exact ⟨_,rfl,e,trivial,_,c,rfl⟩
   ·rintro v ⟨x,b,rfl⟩;rw [c] at b;obtain rfl:=Option.some.inj b;refine ⟨_,rfl,fun lK L _ _=>⟨?_,F.ext.trans (w.trans L)⟩⟩;congr 4;rw [Bool.eq_iff_iff,beq_iff_eq,decide_eq_true_eq,aJ.UL,<- n,c];simp
  ·have:l[i]? = none:=List.getElem?_eq_none (by omega);rw [this] at n;have hn:¬ d∈l:=by rw [<- n];simp
   intro gz M _ _;refine ⟨?_,F.ext.trans (w.trans M)⟩;simp [hn]
 ·refine ⟨fun m vs s'=>∃ i j:Nat,vs=[.int .i64 (i:Nat),.int .i64 (j:Nat)]/\i<=j/\j<=l.length/\m=j - i/\Ext s2 s'/\(∀ (k:Nat) x,k<i->l[k]? = some x->x.lt d=true)/\(∀ (k:Nat) x,j<=k->l[k]? = some x->x.lt d=false),l.length,?_,?_⟩
  ·refine ⟨0,l.length,rfl,by omega,by omega,rfl,Ext.refl _,fun k x B=>by omega,fun k x B c=>?_⟩;rw [List.getElem?_eq_none B] at c;cases c
  ·rintro m ab ad ae ⟨i,j,C,R,h2,rfl,w,h3,h4⟩;simp only [List.cons.injEq,AV.int.injEq,true_and,and_true] at C;obtain ⟨rfl,rfl⟩:=C;refine af.dec (fun H=>?_) (fun I=>?_)
   ·rw [PG (by omega)];have O:(i+j) / 2<j:=by omega
    have Q:i<=(i+j) / 2:=by omega
    generalize S:(i+j) / 2=mid at O Q;have c:l[mid]? = some l[mid]:=List.getElem?_eq_getElem (by omega);obtain ⟨y,o,J,K⟩:=(D.ext (F.ext.trans w)).ix (by decide) bn bF jR c;refine ⟨by decide,y,o,J _,_,(K _ (Ext.refl _)).2,_,(F.own.ext w).at.aD (by simp [aN]),?_⟩;refine (uP _ _ _).mono ?_;rintro v s' ⟨rfl,e⟩;refine ⟨_,rfl,af.dec (fun z=>?_) (fun z=>?_)⟩
    ·rw [aJ.fO] at z;refine ⟨j - (mid+1),by omega,mid+1,j,by rw [aW (by omega)];rfl,by omega,h2,rfl,w.trans e,fun k x B b=>?_,h4⟩;rcases Nat.lt_or_ge k mid with p | p
     ·exact aJ.lt_trans (hr.lt p b c) z
     ·obtain rfl:k=mid:=by omega
      rw [c] at b;obtain rfl:=Option.some.inj b;exact z
    ·rw [aJ.fO] at z;refine ⟨mid - i,by omega,i,mid,rfl,by omega,by omega,rfl,w.trans e,h3,fun k x B b=>?_⟩;cases U:x.lt d with
     | false=>rfl
     | true =>
      exfalso;rcases Nat.eq_or_lt_of_le B with p | p
      ·subst p;rw [c] at b;obtain rfl:=Option.some.inj b;exact z U
      ·exact z (aJ.lt_trans (hr.lt p c b) U)
   ·obtain rfl:i=j:=by omega
    exact ⟨i,rfl,by omega,w,h3,h4⟩
end Go.Proofs.YtohgmogbabkkeaaGreat
end

section
namespace Go.Proofs.YtohgmogbabkkeaaGreat.SG
open Go.Am Go.au.SG
variable {E:SE} [SQ E]
section
class qS (E:SE) (cf:FuncId):Prop where
 ok:∀ (a b:El E.O) (s:AS),aa Tryz.prog cf [.agg (E.cC a),.agg (E.cC b)] s fun v s'=>v=.int .i64 (a.cmp b)/\Ext s s'
variable {cf:FuncId} [qS E cf]
structure jG (s:AS) (a:AV) (lo:Nat) (l:List (El E.O)) (rest:List AV):Prop where
 val:∃ c e,a=.slc (some (lo,0)) l.length c e
 obj:∃ g,s.h lo=some (.cells (l.flatMap E.cC++rest) g false)
section
variable {s:AS} {a:AV} {lo:Nat} {l:List (El E.O)} {rest:List AV}
theorem qT (l:List (El E.O)):(l.flatMap E.cC).length=l.length*E.w:=d_ E.len l
theorem V4 {i n w:Nat} (h:i<n):i*w+w<=n*w:=by have:=Nat.mul_le_mul_right w h;rw [Nat.succ_mul] at this;exact this
theorem jG.mut {L:List Nat} {s':AS} (h:jG s a lo l rest) (m:bD L s s') (b:lo ∉ L):jG s' a lo l rest:=by
 obtain ⟨c,g,h2⟩:=h;exact ⟨c,g,m.1 _ _ b h2⟩
theorem jG.ext {s':AS} (h:jG s a lo l rest) (e:Ext s s'):jG s' a lo l rest:=h.mut (L:=[]) e.mut (by simp)
theorem jG.ix (h:jG s a lo l rest) {i:Nat} (hi:i<l.length):ag T E.ys a (.int .i64 (i:Nat))=some (.ptr (some (lo,i*E.w))):=by
 obtain ⟨⟨c,e,rfl⟩,_⟩:=h;have:(0:Int)<=(i:Int)/\(i:Int)<(l.length:Int):=by omega
 simp only [ag,E.us,E.zs,Option.bind_some];rw [if_pos this];simp
theorem jG.rd (h:jG s a lo l rest) {i:Nat} (hi:i<l.length):aD s lo (i*E.w) E.w=some (E.cC (el l i)):=by
 have c:=V4 (w:=E.w) hi;obtain ⟨_,g,h2⟩:=h;have b:At s lo (l.flatMap E.cC++rest):=⟨_,_,h2⟩;rw [b.aD (by rw [List.length_append,qT];omega)];rw [List.drop_append_of_le_length (by rw [qT];omega),List.take_append_of_le_length (by rw [List.length_drop,qT];omega),Bw E.len (yJ hi)]
theorem RA (l:List (El E.O)) (k:Nat) (x:El E.O) (rest:List AV) (c:k<l.length):qk (l.flatMap E.cC++rest) (k*E.w) (E.cC x)=(l.set k x).flatMap E.cC++rest:=by
 have b:l.flatMap E.cC=(l.take k).flatMap E.cC++(E.cC (l[k])++(l.drop (k+1)).flatMap E.cC):=by
  conv=>lhs;rw [<- List.take_append_drop k l,List.flatMap_append,List.drop_eq_getElem_cons c,List.flatMap_cons]
 have d:((l.take k).flatMap E.cC).length=k*E.w:=by rw [d_ E.len,List.length_take,Nat.min_eq_left (by omega)]
 have:=Ih ((l.take k).flatMap E.cC) (E.cC l[k]) (E.cC x) ((l.drop (k+1)).flatMap E.cC++rest) (by rw [E.len,E.len]);rw [d] at this;rw [b,List.append_assoc,List.append_assoc,<- List.append_assoc,this,List.set_eq_take_append_cons_drop,if_pos c,List.flatMap_append,List.flatMap_cons,List.append_assoc,List.append_assoc,List.append_assoc]
theorem jG.wr (h:jG s a lo l rest) (b:aM s) {i:Nat} (hi:i<l.length) (x:El E.O) {K:AS->Prop} (c:∀ s',jG s' a lo (l.set i x) rest->aM s'->bD [lo] s s'->K s'):fh (some E.w) (E.cC x) (bt (cK s lo (i*E.w) (E.cC x)) K):=by
 have d:=V4 (w:=E.w) hi;obtain ⟨e,g,h2⟩:=h;refine ⟨⟨E.one _,by rw [E.len]⟩,bt.cK b h2 (by rw [List.length_append,qT,E.len];omega) fun s' P=>c s' ⟨?_,g,?_⟩ P.wf P.mut⟩
 ·rw [List.length_set];exact e
 ·rw [P.at,RA l i x rest hi]
theorem jG.swap (h:jG s a lo l rest) (z:aM s) {i j:Nat} (hi:i<l.length) (hj:j<l.length) {K:AS->Prop} (A:∀ s',jG s' a lo (Bn l i j) rest->aM s'->bD [lo] s s'->K s') :
  bG (ag T E.ys a (.int .i64 (j:Nat))) fun d e=>aR (aD s d e E.w) fun b=>bG (ag T E.ys a (.int .i64 (i:Nat))) fun k m=>aR (aD s k m E.w) fun c=>bG (ag T E.ys a (.int .i64 (i:Nat))) fun n o=>fh (some E.w) b (bt (cK s n o b) fun p=>bG (ag T E.ys a (.int .i64 (j:Nat))) fun r x=>fh (some E.w) c (bt (cK p r x c) fun mu=>K mu)) :=
 ⟨_,_,h.ix hj,_,h.rd hj,_,_,h.ix hi,_,h.rd hi,_,_,h.ix hi,h.wr z hi _ fun s1 y w1 B =>
  ⟨_,_,y.ix (by simpa using hj),y.wr w1 (by simpa using hj) _ fun s2 h2 w2 m2=>A s2 h2 w2 (B.trans m2)⟩⟩
theorem jG.cmp (h:jG s a lo l rest) {i j:Nat} (hi:i<l.length) (hj:j<l.length) {K:Int->AS->Prop} (p:∀ s',jG s' a lo l rest->aM s'->bD [lo] s s'->K ((el l i).cmp (el l j)) s') :
  bG (ag T E.ys a (.int .i64 (i:Nat))) fun c d=>aR (aD s c d E.w) fun k=>bG (ag T E.ys a (.int .i64 (j:Nat))) fun lC m=>aR (aD s lC m E.w) fun n=>er Tryz.prog (.func cf []) [.agg k,.agg n] s fun o eE=>∃ b:Int,o=.int .i64 b/\K b eE:=by
 refine ⟨_,_,h.ix hi,_,h.rd hi,_,_,h.ix hj,_,h.rd hj,?_⟩;refine aa.use (qS.ok (E:=E) _ _ _) ?_;rintro v s' ⟨rfl,e⟩ r;exact ⟨_,rfl,p s' (h.ext e) r e.mut⟩
end
theorem Nr {s:AS} {a:AV} {lo:Nat} {l:List (El E.O)} {rest:List AV} {x y:Nat} (h:jG s a lo l rest) (Q:x<=y) (hy:y<=l.length) (hn:l.length<=2 ^ 40) :
  aa Tryz.prog E.fB [a,.int .i64 (x:Nat),.int .i64 (y:Nat),.func cf []] s fun r s'=>r=.aP []/\∃ l',jG s' a lo l' rest/\Sw x y l l'/\CL l' x y/\bD [lo] s s':=by
 refine aa.pre fun R=>SQ.iu _ _ _ _ _ _ ⟨fun m vs s'=>∃ (i:Nat) (l':List (El E.O)),vs=[.int .i64 (i:Nat)]/\x+1<=i/\(i<=y\/i=x+1)/\m=y - i/\jG s' a lo l' rest/\aM s'/\Sw x y l l'/\CL l' x i/\bD [lo] s s',y - (x+1),⟨x+1,l,by rw [aW (by omega)];rfl,by omega,.inr rfl,rfl,h,R,.refl _,fun p q w h2 h3=>by omega,bD.refl _ _⟩,?_⟩;rintro m n s5 ⟨i,l1,hi,S,U,rfl,a5,W,d,z,L⟩;simp only [List.cons.injEq,AV.int.injEq,true_and,and_true] at hi;subst hi;have X:=d.len;refine af.dec (fun Y=>?_) (fun Z=>⟨rfl,l1,a5,d,fun p q w h2 h3=>z p q w h2 (by omega),L⟩);have fin:∀ s' l',jG s' a lo l' rest->aM s'->Sw x y l l'->CL l' x (i+1)->bD [lo] s s'->∃ m',m'<y - i/\∃ (k:Nat) (l':List (El E.O)),[AV.int .i64 (IntKind.wrap .i64 ((i:Int)+1))]=[.int .i64 (k:Nat)]/\x+1<=k/\(k<=y\/k=x+1)/\m'=y - k/\jG s' a lo l' rest/\aM s'/\Sw x y l l'/\CL l' x k/\bD [lo] s s' :=
  fun s' l' w h2 h3 h4 h5=>⟨y - (i+1),by omega,i+1,l',by rw [aW (by omega)];rfl,by omega,.inl (by omega),rfl,w,h2,h3,h4,h5⟩
 refine ⟨fun m vs s'=>∃ (j:Nat) (l':List (El E.O)),vs=[.int .i64 (j:Nat)]/\x<=j/\j<=i/\m=j - x/\jG s' a lo l' rest/\aM s'/\Sw x y l l'/\(∀ p q,x<=p->p<q->q<=i->q≠j->(el l' p).le (el l' q))/\bD [lo] s s',i - x,⟨i,l1,rfl,by omega,by omega,rfl,a5,W,d,fun p q w h2 h3 h4=>z p q w h2 (by omega),L⟩,?_⟩;rintro m n ab ⟨j,M,hj,A,e,rfl,B,H,b,c,o⟩;simp only [List.cons.injEq,AV.int.injEq,true_and,and_true] at hj;subst hj;have ad:=b.len;refine af.dec (fun ae=>?_) (fun hle=>fin _ M B H b (Ic A e (.inl (by omega)) c) o);rw [aW (by omega),show (j:Int) - 1=((j - 1:Nat):Int) by omega];refine B.cmp (by omega) (by omega) fun eE C D F=>af.dec (fun G=>?_) (fun G=>fin _ M C D b (Ic A e (.inr (El.wh (by rw [<- El.fO];exact G))) c) (o.trans F));rw [El.fO] at G;refine C.swap D (by omega) (by omega) fun mu I J K=>⟨j - 1 - x,by omega,j - 1,_,rfl,by omega,by omega,rfl,I,J,.step b ⟨by omega,by omega⟩ ⟨by omega,by omega⟩ (by omega),Kr (by omega) (by omega) e G c,(o.trans F).trans K⟩
end
section
variable {cf:FuncId} [qS E cf]
theorem Ns {x y:Nat} (h:x+y<=4611686018427387904):IntKind.wrap .i64 ((x:Int)+(y:Int))=((x+y:Nat):Int):=by rw [aW (by omega)];omega
theorem jT {x:Nat} (h:x+1<=4611686018427387904):IntKind.wrap .i64 ((x:Int)+1)=((x+1:Nat):Int):=by rw [aW (by omega)];omega
theorem Dm {x y:Nat} (h:y<=x) (b:x<=4611686018427387904):IntKind.wrap .i64 ((x:Int) - (y:Int))=((x - y:Nat):Int):=by rw [aW (by omega)];omega
theorem kD {x:Nat} (h:1<=x) (b:x<=4611686018427387904):IntKind.wrap .i64 ((x:Int) - 1)=((x - 1:Nat):Int):=by rw [aW (by omega)];omega
theorem V5 {x:Nat} (h:2*x<=4611686018427387904):IntKind.wrap .i64 (2*(x:Int))=((2*x:Nat):Int):=by rw [aW (by omega)];omega
theorem RB (x k:Nat):Int.tdiv (x:Int) (k:Int)=((x / k:Nat):Int):=rfl
theorem wid {x:Nat} (h:x<=4611686018427387904):IntKind.wrap .i64 (x:Int)=(x:Int):=aW (by omega)
theorem CP {s:AS} {a:AV} {lo:Nat} {l:List (El E.O)} {rest:List AV} {k n f:Nat} (h:jG s a lo l rest) (hl:f+n<=l.length) (hn:l.length<=2 ^ 40) (hk:k<=2 ^ 40) (R:CX l f n (k+1)) :
  aa Tryz.prog E.iZ [a,.int .i64 (k:Nat),.int .i64 (n:Nat),.int .i64 (f:Nat),.func cf []] s fun r s'=>r=.aP []/\∃ l',jG s' a lo l' rest/\Sw f (f+n) l l'/\CX l' f n k/\bD [lo] s s':=by
 refine aa.pre fun S=>SQ.rQ _ _ _ _ _ _ _ ⟨fun m vs s'=>∃ (root:Nat) (l':List (El E.O)),vs=[.int .i64 (root:Nat)]/\root<=n+k/\m=n+k - root/\jG s' a lo l' rest/\aM s'/\Sw f (f+n) l l'/\MP l' f n k root/\bD [lo] s s',n+k - k,⟨k,l,rfl,by omega,rfl,h,S,.refl _,R.WA,bD.refl _ _⟩,?_⟩;rintro m n4 s5 ⟨root,l1,hi,U,rfl,a5,W,e,o,B⟩;simp only [List.cons.injEq,AV.int.injEq,true_and,and_true] at hi;subst hi;have X:=e.len;rw [V5 (by omega),jT (by omega)];refine af.dec (fun C=>⟨rfl,l1,a5,e,o.done fun c z d A=>by omega,B⟩) (fun Y=>?_);refine ⟨fun vs s'=>∃ child:Nat,vs=[.int .i64 (child:Nat)]/\(child=2*root+1\/child=2*root+2)/\child<n/\jG s' a lo l1 rest/\aM s'/\bD [lo] s s'/\(∀ c,0<c->c<n->(c - 1) / 2=root->(el l1 (f+c)).le (el l1 (f+child))),?_,?_⟩
 ·rintro n7 s8 ⟨child,d,D,F,Z,w8,Q,i⟩;simp only [List.cons.injEq,AV.int.injEq,true_and,and_true] at d;subst d;rw [Ns (by omega),Ns (by omega)];refine Z.cmp (by omega) (by omega) fun ab p G w=>?_;refine af.mk (fun d=>?_) (fun d=>?_)
  ·have hle:=El.wh (show ¬ (el l1 (f+root)).lt (el l1 (f+child))=true by rw [<- El.fO];simpa using d);exact ⟨rfl,l1,p,e,o.done fun c z d A=>El.le_trans (i c z d A) hle,Q.trans w⟩
  ·have j:(el l1 (f+root)).lt (el l1 (f+child))=true:=by rw [<- El.fO];simpa using d
   refine p.swap G (by omega) (by omega) fun ad H I J=>⟨n+k - child,by omega,child,_,rfl,by omega,rfl,H,I,.step e ⟨by omega,by omega⟩ ⟨by omega,by omega⟩ (by omega),o.step (by omega) D F j i,(Q.trans w).trans J⟩
 ·refine ⟨fun vs s'=>∃ t,vs=[.bool t]/\jG s' a lo l1 rest/\aM s'/\bD [lo] s s'/\(t=true->2*root+2<n/\(el l1 (f+(2*root+1))).lt (el l1 (f+(2*root+2)))=true)/\(t=false->2*root+2<n->(el l1 (f+(2*root+2))).le (el l1 (f+(2*root+1)))),?_,?_⟩
  ·rintro b ae ⟨t,ht,x,y,m32,h1,h2⟩;simp only [List.cons.injEq,AV.bool.injEq,and_true] at ht;subst ht;refine af.mk (fun hb=>?_) (fun hb=>?_)
   ·obtain ⟨h3,h4⟩:=h1 hb;rw [jT (by omega)];refine ⟨2*root+2,rfl,.inr rfl,h3,x,y,m32,fun c z d A=>?_⟩;rcases (show c=2*root+1\/c=2*root+2 by omega) with rfl | rfl
    ·exact El.zV h4
    ·exact El.le_refl _
   ·refine ⟨2*root+1,rfl,.inl rfl,by omega,x,y,m32,fun c z d A=>?_⟩;rcases (show c=2*root+1\/c=2*root+2 by omega) with rfl | rfl
    ·exact El.le_refl _
    ·exact h2 hb d
  ·rw [jT (by omega)];refine af.dec (fun j=>?_) (fun C=>⟨false,rfl,a5,W,B,by simp,fun _ h=>by omega⟩);rw [Ns (by omega),jT (by omega)];refine a5.cmp (by omega) (by omega) fun al K L M=>⟨_,rfl,K,L,B.trans M,fun h=>⟨by omega,?_⟩,fun h _=>?_⟩
   ·have:=of_decide_eq_true h;rw [El.fO] at this;exact this
   ·have:=of_decide_eq_false h;rw [El.fO] at this;exact El.wh this
theorem Lf {s:AS} {a:AV} {lo:Nat} {l:List (El E.O)} {rest:List AV} {x y:Nat} (h:jG s a lo l rest) (ad:x<y) (hy:y<=l.length) (hn:l.length<=2 ^ 40) :
  aa Tryz.prog E.mB [a,.int .i64 (x:Nat),.int .i64 (y:Nat),.func cf []] s fun r s'=>r=.aP []/\∃ l',jG s' a lo l' rest/\Sw x y l l'/\CL l' x y/\bD [lo] s s':=by
 refine aa.pre fun hw=>SQ.rP _ _ _ _ _ _ ⟨fun vs s'=>∃ l',jG s' a lo l' rest/\aM s'/\Sw x y l l'/\CX l' x (y - x) 0/\bD [lo] s s',?_,by decide,?_⟩
 ·rintro s2 ⟨l1,a2,w2,z,I,m2⟩;have ae:=z.len;rw [Dm (by omega) (by omega),kD (by omega) (by omega)];refine ⟨fun m vs s'=>∃ (i:Nat) (l':List (El E.O)),vs=[.int .i64 ((i:Int) - 1)]/\i<=y - x/\m=2*i/\jG s' a lo l' rest/\aM s'/\Sw x y l l'/\CX l' x i 0/\MQ l' x y i/\bD [lo] s s',2*(y - x),⟨y - x,l1,by congr 2;omega,by omega,rfl,a2,w2,z,I,fun p q _ _ _ _=>by omega,m2⟩,?_⟩;rintro m n6 s7 ⟨i,H,hi,J,rfl,a7,w7,w,K,A,m7⟩;simp only [List.cons.injEq,AV.int.injEq,true_and,and_true] at hi;subst hi;have L:=w.len;refine af.dec (fun M=>?_) (fun Q=>?_)
  ·obtain ⟨j,rfl⟩:∃ j,i=j+1:=⟨i - 1,by omega⟩;rw [show (((j+1:Nat):Int) - 1)=(j:Int) by omega,Ns (by omega)];obtain ⟨t1,t2⟩:=A.swap (n:=j) (by omega) (by omega) K;refine a7.swap w7 (by omega) (by omega) fun tW R al S=>?_;have B:Sw x y l (Bn H x (x+j)):=.step w ⟨by omega,by omega⟩ ⟨by omega,by omega⟩ (by omega);refine aa.use (CP (k:=0) (n:=j) (f:=x) R (by rw [D2];omega) (by rw [D2];omega) (by omega) t2) ?_;rintro r dW ⟨rfl,l3,U,d,C,W⟩ X;refine ⟨rfl,2*j,by omega,j,l3,by rw [rS (by omega)],by omega,rfl,U,X,B.trans (d.Uo (Nat.le_refl _) (by omega) (by rw [D2];omega)),C,t1.sw d,(m7.trans S).trans W⟩
  ·obtain rfl:i=0:=by omega
   exact ⟨rfl,H,a7,w,fun p q h1 h2 h3=>A p q h1 h2 h3 (by omega),m7⟩
 ·rw [Dm (by omega) (by omega),kD (by omega) (by omega),show (2:Int)=((2:Nat):Int) by rfl,RB,wid (by omega)];refine ⟨fun m vs s'=>∃ (i:Nat) (l':List (El E.O)),vs=[.int .i64 ((i:Int) - 1)]/\i<=y - x/\m=2*i/\jG s' a lo l' rest/\aM s'/\Sw x y l l'/\CX l' x (y - x) i/\bD [lo] s s',2*((y - x - 1) / 2+1),⟨(y - x - 1) / 2+1,l,by congr 2;omega,by omega,rfl,h,hw,.refl _,fun c _ _ _=>by omega,bD.refl _ _⟩,?_⟩;rintro m am an ⟨i,H,hi,J,rfl,D,Y,b,e,F⟩;simp only [List.cons.injEq,AV.int.injEq,true_and,and_true] at hi;subst hi;have L:=b.len;refine af.dec (fun M=>?_) (fun Q=>?_)
  ·obtain ⟨j,rfl⟩:∃ j,i=j+1:=⟨i - 1,by omega⟩;rw [show (((j+1:Nat):Int) - 1)=(j:Int) by omega];refine aa.use (CP (k:=j) (n:=y - x) (f:=x) D (by omega) (by omega) (by omega) e) ?_;rintro r ao ⟨rfl,l3,Z,o,G,m32⟩ ab;refine ⟨rfl,2*j,by omega,j,l3,by rw [rS (by omega)],by omega,rfl,Z,ab,b.trans (by rw [show x+(y - x)=y by omega] at o;exact o),G,F.trans m32⟩
  ·obtain rfl:i=0:=by omega
   exact ⟨H,D,Y,b,e,F⟩
end
section
variable {cf:FuncId} [qS E cf]
theorem Nt {s:AS} {a:AV} {lo:Nat} {l:List (El E.O)} {rest:List AV} {x y:Nat} (h:jG s a lo l rest) (p:x<y) (D:y<=l.length) (F:l.length<=2 ^ 40) :
  aa Tryz.prog E.iQ [a,.int .i64 (x:Nat),.int .i64 (y:Nat),.func cf []] s fun r s'=>r=.aP []/\∃ l',jG s' a lo l' rest/\Sw x y l l'/\bD [lo] s s':=by
 refine aa.pre fun w=>SQ.mU _ _ _ _ _ _ ⟨fun m vs s'=>∃ (i j:Nat) (l':List (El E.O)),vs=[.int .i64 (i:Nat),.int .i64 (j:Nat)]/\x<=i/\j<y/\i<=j+1/\m=j+1 - i/\jG s' a lo l' rest/\aM s'/\Sw x y l l'/\bD [lo] s s',y - 1+1 - x,⟨x,y - 1,l,by rw [kD (by omega) (by omega)],by omega,by omega,by omega,rfl,h,w,.refl _,bD.refl _ _⟩,?_⟩;rintro m G H s6 ⟨i,j,l1,c,I,hj,hle,rfl,n,z,b,o⟩;simp only [List.cons.injEq,AV.int.injEq,true_and,and_true] at c;obtain ⟨rfl,rfl⟩:=c;have A:=b.len;refine af.dec (fun B=>?_) (fun C=>⟨rfl,l1,n,b,o⟩);refine n.swap z (by omega) (by omega) fun eE d e k=>?_;rw [jT (by omega),kD (by omega) (by omega)];exact ⟨j - 1+1 - (i+1),by omega,i+1,j - 1,_,rfl,by omega,by omega,by omega,rfl,d,e,.step b ⟨by omega,by omega⟩ ⟨by omega,by omega⟩ (by omega),o.trans k⟩
structure Hu (L G:El E.O->El E.O->Prop) (s:AS) (a:AV) (lo:Nat) (rest:List AV) (l:List (El E.O)) (x y:Nat) (s':AS) (l':List (El E.O)) (i j:Nat):Prop where
 arr:jG s' a lo l' rest
 wf:aM s'
 sw:Sw x y l l'
 q7:Ie L G l' x y i j
 eL:bD [lo] s s'
theorem Hu.to {L G:El E.O->El E.O->Prop} {s:AS} {a:AV} {lo:Nat} {rest:List AV} {l:List (El E.O)} {x y:Nat} {s' s'':AS} {l':List (El E.O)} {i j i' j':Nat} (h:Hu L G s a lo rest l x y s' l' i j) (b:jG s'' a lo l' rest) (c:aM s'') (m:bD [lo] s' s'') (d:Ie L G l' x y i' j'):Hu L G s a lo rest l x y s'' l' i' j' :=
 ⟨b,c,h.sw,d,h.eL.trans m⟩
theorem IU {s:AS} {a:AV} {lo:Nat} {l:List (El E.O)} {rest:List AV} {x y p:Nat} (h:jG s a lo l rest) (hp:x<=p/\p<y) (hy:y<=l.length) (hn:l.length<=2 ^ 40) :
  aa Tryz.prog E.kW [a,.int .i64 (x:Nat),.int .i64 (y:Nat),.int .i64 (p:Nat),.func cf []] s fun r s'=>∃ (m:Nat) (b:Bool) (l':List (El E.O)),r=.aP [.int .i64 (m:Nat),.bool b]/\jG s' a lo l' rest/\Sw x y l l'/\EJ l' x y m/\bD [lo] s s':=by
 refine aa.pre fun hw=>SQ.qO _ _ _ _ _ _ _ ?_;refine h.swap hw (by omega) (by omega) fun dI a7 a8 a9=>?_;have al:Sw x y l (Bn l x p):=.step (.refl _) ⟨by omega,by omega⟩ hp hy;have fin:∀ s' l' i j,Hu Lt Ge s a lo rest l x y s' l' i j->j<i->∀ s'' ,jG s'' a lo (Bn l' j x) rest->bD [lo] s' s''->∀ b:Bool,∃ (m:Nat) (b':Bool) (l':List (El E.O)),AV.aP [.int .i64 (j:Nat),.bool b]=.aP [.int .i64 (m:Nat),.bool b']/\jG s'' a lo l' rest/\Sw x y l l'/\EJ l' x y m/\bD [lo] s s'':=by
  intro s' l' i j st am s'' a2 m2 b;have:=st.q7.ij;have:=st.q7.xi;have:=st.q7.jy;have b8:=st.sw.len;exact ⟨j,b,_,rfl,a2,.step st.sw ⟨by omega,by omega⟩ ⟨by omega,by omega⟩ (by omega),st.q7.fin (by omega) am,st.eL.trans m2⟩
 have L:∀ {u v:El E.O},¬ u.cmp v<0->Ge u v:=fun h=>El.wh (by rw [<- El.fO];exact h);have M:∀ {u v:El E.O},u.cmp v<0->Lt u v:=fun h=>El.fO.1 h;refine ⟨fun vs s'=>∃ (i:Nat) (l':List (El E.O)),vs=[.int .i64 (i:Nat)]/\Hu Lt Ge s a lo rest l x y s' l' i (y - 1)/\(i<=y - 1->Ge (el l' i) (el l' x)),?_,?_⟩
 ·rintro b9 gu ⟨i,l1,hi,F,an⟩;simp only [List.cons.injEq,AV.int.injEq,true_and,and_true] at hi;subst hi;have ca:=F.sw.len;have cb:=F.q7.xi;have cc:=F.q7.ij;refine ⟨fun vs s'=>∃ j:Nat,vs=[.int .i64 (j:Nat)]/\Hu Lt Ge s a lo rest l x y s' l1 i j/\(i<=j->Lt (el l1 j) (el l1 x)),?_,?_⟩
  ·rintro cd eE ⟨j,hj,d,ao⟩;simp only [List.cons.injEq,AV.int.injEq,true_and,and_true] at hj;subst hj;have ce:=d.q7.jy;have am:=d.q7.ij;refine af.dec (fun G=>?_) (fun hle=>?_)
   ·refine d.arr.swap d.wf (by omega) (by omega) fun ch a' ci ba=>fin _ _ _ _ d (by omega) _ a' ba true
   ·have bb:i≠j:=by
     rintro rfl;have h1:=an (by omega);have h2:=ao (by omega);rw [Lt] at h2;rw [Ge,El.le] at h1;rw [h1] at h2;cases h2
    refine d.arr.swap d.wf (by omega) (by omega) fun bc bd be bh=>?_;have ap:Hu Lt Ge s a lo rest l x y bc (Bn l1 i j) (i+1) (j - 1):=⟨bd,be,.step d.sw ⟨by omega,by omega⟩ ⟨by omega,by omega⟩ (by omega),d.q7.swap (by omega) (by omega) (ao (by omega)) (an (by omega)),d.eL.trans bh⟩;refine ⟨fun vs s'=>∃ (i j:Nat) (l':List (El E.O)),vs=[.int .i64 (j:Nat)]/\j<i/\Hu Lt Ge s a lo rest l x y s' l' i j,?_,?_⟩
    ·rintro ck cl ⟨i',j',l',ar,aw,w⟩;simp only [List.cons.injEq,AV.int.injEq,true_and,and_true] at ar;subst ar;have:=w.q7.jy;have:=w.q7.xi;have:=w.sw.len;refine w.arr.swap w.wf (by omega) (by omega) fun cm bi cn bj=>fin _ _ _ _ w aw _ bi bj false
    ·rw [jT (by omega),kD (by omega) (by omega)];refine ⟨fun m vs s'=>∃ (i j:Nat) (l':List (El E.O)),vs=[.int .i64 (i:Nat),.int .i64 (j:Nat)]/\m=j+1 - i/\Hu Lt Ge s a lo rest l x y s' l' i j,_,⟨i+1,j - 1,_,rfl,rfl,ap⟩,?_⟩;rintro m cp cr cs ⟨i2,j2,Q,H,rfl,z⟩;simp only [List.cons.injEq,AV.int.injEq,true_and,and_true] at H;obtain ⟨rfl,rfl⟩:=H;have cu:=z.sw.len;have cv:=z.q7.xi;have bo:=z.q7.jy;have H:=z.q7.ij;refine ⟨fun vs s'=>∃ (i:Nat),vs=[.int .i64 (i:Nat)]/\i2<=i/\Hu Lt Ge s a lo rest l x y s' Q i j2/\(i<=j2->Ge (el Q i) (el Q x)),?_,?_⟩
     ·rintro cw FZ ⟨i3,A,I,J,a0⟩;simp only [List.cons.injEq,AV.int.injEq,true_and,and_true] at A;subst A;have a1:=J.q7.xi;have bs:=J.q7.ij;refine ⟨fun vs s'=>∃ j:Nat,vs=[.int .i64 (j:Nat)]/\j<=j2/\Hu Lt Ge s a lo rest l x y s' Q i3 j/\(i3<=j->Lt (el Q j) (el Q x)),?_,?_⟩
      ·rintro cx cy ⟨j3,B,K,n,a3⟩;simp only [List.cons.injEq,AV.int.injEq,true_and,and_true] at B;subst B;have R:=n.q7.jy;have bx:=n.q7.ij;refine af.dec (fun G=>⟨i3,j3,Q,rfl,by omega,n⟩) (fun hle=>?_);have bb:i3≠j3:=by
        rintro rfl;have h1:=a0 (by omega);have h2:=a3 (by omega);rw [Lt] at h2;rw [Ge,El.le] at h1;rw [h1] at h2;cases h2
       refine n.arr.swap n.wf (by omega) (by omega) fun cz bk bl bm=>?_;rw [jT (by omega),kD (by omega) (by omega)];exact ⟨j3 - 1+1 - (i3+1),by omega,i3+1,j3 - 1,_,rfl,rfl,bk,bl,.step n.sw ⟨by omega,by omega⟩ ⟨by omega,by omega⟩ (by omega),n.q7.swap (by omega) (by omega) (a3 (by omega)) (a0 (by omega)),n.eL.trans bm⟩
      ·refine ⟨fun m vs s'=>∃ j:Nat,vs=[.int .i64 (j:Nat)]/\j<=j2/\m=2*j/\Hu Lt Ge s a lo rest l x y s' Q i3 j,2*j2,⟨j2,rfl,by omega,rfl,J⟩,?_⟩;rintro m cA cB ⟨j3,B,K,rfl,o⟩;simp only [List.cons.injEq,AV.int.injEq,true_and,and_true] at B;subst B;have R:=o.q7.jy;refine af.dec (fun hle=>?_) (fun G=>⟨j3,rfl,K,o,fun h=>by omega⟩);refine o.arr.cmp (by omega) (by omega) fun cC a4 a5 a6=>af.mk (fun C=>?_) (fun C=>?_)
       ·have D:=L (by simpa using C);rw [kD (by omega) (by omega)];exact ⟨2*(j3 - 1),by omega,j3 - 1,rfl,by omega,rfl,o.to a4 a5 a6 (o.q7.right (by omega) D)⟩
       ·have D:=M (by simpa using C);exact ⟨j3,rfl,K,o.to a4 a5 a6 o.q7,fun _=>D⟩
     ·refine ⟨fun m vs s'=>∃ i:Nat,vs=[.int .i64 (i:Nat)]/\i2<=i/\m=y - i/\Hu Lt Ge s a lo rest l x y s' Q i j2,y - i2,⟨i2,rfl,by omega,rfl,z⟩,?_⟩;rintro m c0 b0 ⟨i3,A,I,rfl,e⟩;simp only [List.cons.injEq,AV.int.injEq,true_and,and_true] at A;subst A;have a1:=e.q7.xi;refine af.dec (fun hle=>?_) (fun G=>⟨i3,rfl,I,e,fun h=>by omega⟩);refine e.arr.cmp (by omega) (by omega) fun b1 S U W=>af.dec (fun C=>?_) (fun C=>?_)
      ·rw [jT (by omega)];exact ⟨y - (i3+1),by omega,i3+1,rfl,by omega,rfl,e.to S U W (e.q7.left (by omega) (M C))⟩
      ·exact ⟨i3,rfl,I,e.to S U W e.q7,fun _=>L C⟩
  ·rw [kD (by omega) (by omega)];refine ⟨fun m vs s'=>∃ j:Nat,vs=[.int .i64 (j:Nat)]/\m=2*j/\Hu Lt Ge s a lo rest l x y s' l1 i j,2*(y - 1),⟨y - 1,rfl,rfl,F⟩,?_⟩;rintro m b2 b3 ⟨j3,B,rfl,k⟩;simp only [List.cons.injEq,AV.int.injEq,true_and,and_true] at B;subst B;have R:=k.q7.jy;refine af.dec (fun hle=>?_) (fun G=>⟨j3,rfl,k,fun h=>by omega⟩);refine k.arr.cmp (by omega) (by omega) fun b4 X Y Z=>af.mk (fun C=>?_) (fun C=>?_)
   ·have D:=L (by simpa using C);rw [kD (by omega) (by omega)];exact ⟨2*(j3 - 1),by omega,j3 - 1,rfl,rfl,k.to X Y Z (k.q7.right (by omega) D)⟩
   ·have D:=M (by simpa using C);exact ⟨j3,rfl,k.to X Y Z k.q7,fun _=>D⟩
 ·rw [jT (by omega),kD (by omega) (by omega)];refine ⟨fun m vs s'=>∃ i:Nat,vs=[.int .i64 (i:Nat)]/\m=y - i/\Hu Lt Ge s a lo rest l x y s' (Bn l x p) i (y - 1),y - (x+1),⟨x+1,rfl,rfl,a7,a8,al,Ie.start (by omega),a9⟩,?_⟩;rintro m b5 b6 ⟨i3,A,rfl,c⟩;simp only [List.cons.injEq,AV.int.injEq,true_and,and_true] at A;subst A;have a1:=c.q7.xi;have c1:=c.sw.len;refine af.dec (fun hle=>?_) (fun G=>⟨i3,_,rfl,c,fun h=>by omega⟩);refine c.arr.cmp (by omega) (by omega) fun b7 ab ad ae=>af.dec (fun C=>?_) (fun C=>?_)
  ·rw [jT (by omega)];exact ⟨y - (i3+1),by omega,i3+1,rfl,rfl,c.to ab ad ae (c.q7.left (by omega) (M C))⟩
  ·exact ⟨i3,_,rfl,c.to ab ad ae c.q7,fun _=>L C⟩
end
section
variable {cf:FuncId} [qS E cf]
theorem PI {s:AS} {a:AV} {lo:Nat} {l:List (El E.O)} {rest:List AV} {x y p:Nat} (h:jG s a lo l rest) (hp:x<=p/\p<y) (hy:y<=l.length) (hn:l.length<=2 ^ 40) :
  aa Tryz.prog E.gN [a,.int .i64 (x:Nat),.int .i64 (y:Nat),.int .i64 (p:Nat),.func cf []] s fun r s'=>∃ (i j:Nat) (l':List (El E.O)),r=.int .i64 (i:Nat)/\jG s' a lo l' rest/\Sw x y l l'/\Ie SY SZ l' x y i j/\j<i/\el l' x=el l p/\bD [lo] s s':=by
 refine aa.pre fun hw=>SQ.lF _ _ _ _ _ _ _ ?_;refine h.swap hw (by omega) (by omega) fun dI ad ae al=>?_;have I:Sw x y l (Bn l x p):=.step (.refl _) ⟨by omega,by omega⟩ hp hy;have J:el (Bn l x p) x=el l p:=by
  rw [lS (by omega) (by omega)];split
  ·rename_i e;rw [e]
  ·rw [if_pos rfl]
 have K:∀ {u v:El E.O},¬ u.cmp v<0->SY v u:=fun h=>El.wh (by rw [<- El.fO];exact h);have L:∀ {u v:El E.O},u.cmp v<0->SZ v u:=fun h=>El.fO.1 h;rw [jT (by omega),kD (by omega) (by omega)];refine ⟨fun m vs s'=>∃ (i j:Nat) (l':List (El E.O)),vs=[.int .i64 (i:Nat),.int .i64 (j:Nat)]/\m=j+1 - i/\Hu SY SZ s a lo rest l x y s' l' i j/\el l' x=el l p,_,⟨x+1,y - 1,_,rfl,rfl,⟨ad,ae,I,Ie.start (by omega),al⟩,J⟩,?_⟩;rintro m a1 a2 eE ⟨i2,F,C,n,rfl,k,D⟩;simp only [List.cons.injEq,AV.int.injEq,true_and,and_true] at n;obtain ⟨rfl,rfl⟩:=n;have a3:=k.sw.len;have a4:=k.q7.xi;have ar:=k.q7.jy;have n:=k.q7.ij;refine ⟨fun vs s'=>∃ (i:Nat),vs=[.int .i64 (i:Nat)]/\i2<=i/\Hu SY SZ s a lo rest l x y s' C i F/\(i<=F->SZ (el C i) (el C x)),?_,?_⟩
 ·rintro a5 fL ⟨i3,o,w,z,M⟩;simp only [List.cons.injEq,AV.int.injEq,true_and,and_true] at o;subst o;have am:=z.q7.xi;have aw:=z.q7.ij;refine ⟨fun vs s'=>∃ j:Nat,vs=[.int .i64 (j:Nat)]/\j<=F/\Hu SY SZ s a lo rest l x y s' C i3 j/\(i3<=j->SY (el C j) (el C x)),?_,?_⟩
  ·rintro a6 a7 ⟨j3,A,B,b,Q⟩;simp only [List.cons.injEq,AV.int.injEq,true_and,and_true] at A;subst A;have R:=b.q7.jy;have a0:=b.q7.ij;refine af.dec (fun S=>⟨i3,j3,C,rfl,b.arr,b.sw,b.q7,by omega,D,b.eL⟩) (fun hle=>?_);have a8:i3≠j3:=by
    rintro rfl;have h1:=M (by omega);have h2:=Q (by omega);rw [SZ] at h1;rw [SY,El.le] at h2;rw [h2] at h1;cases h1
   refine b.arr.swap b.wf (by omega) (by omega) fun jZ an ao ap=>?_;rw [jT (by omega),kD (by omega) (by omega)];exact ⟨j3 - 1+1 - (i3+1),by omega,i3+1,j3 - 1,_,rfl,rfl,⟨an,ao,.step b.sw ⟨by omega,by omega⟩ ⟨by omega,by omega⟩ (by omega),b.q7.swap (by omega) (by omega) (Q (by omega)) (M (by omega)),b.eL.trans ap⟩,by rw [lS (by omega) (by omega),if_neg (by omega),if_neg (by omega)];exact D⟩
  ·refine ⟨fun m vs s'=>∃ j:Nat,vs=[.int .i64 (j:Nat)]/\j<=F/\m=2*j/\Hu SY SZ s a lo rest l x y s' C i3 j,2*F,⟨F,rfl,by omega,rfl,z⟩,?_⟩;rintro m a9 a' ⟨j3,A,B,rfl,c⟩;simp only [List.cons.injEq,AV.int.injEq,true_and,and_true] at A;subst A;have R:=c.q7.jy;refine af.dec (fun hle=>?_) (fun S=>⟨j3,rfl,B,c,fun h=>by omega⟩);refine c.arr.cmp (by omega) (by omega) fun yY U W X=>af.dec (fun G=>?_) (fun G=>?_)
   ·rw [kD (by omega) (by omega)];exact ⟨2*(j3 - 1),by omega,j3 - 1,rfl,by omega,rfl,c.to U W X (c.q7.right (by omega) (L G))⟩
   ·exact ⟨j3,rfl,B,c.to U W X c.q7,fun _=>K G⟩
 ·refine ⟨fun m vs s'=>∃ i:Nat,vs=[.int .i64 (i:Nat)]/\i2<=i/\m=y - i/\Hu SY SZ s a lo rest l x y s' C i F,y - i2,⟨i2,rfl,by omega,rfl,k⟩,?_⟩;rintro m ba bb ⟨i3,o,w,rfl,d⟩;simp only [List.cons.injEq,AV.int.injEq,true_and,and_true] at o;subst o;have am:=d.q7.xi;refine af.dec (fun hle=>?_) (fun S=>⟨i3,rfl,w,d,fun h=>by omega⟩);refine d.arr.cmp (by omega) (by omega) fun bc Y Z ab=>af.mk (fun G=>?_) (fun G=>?_)
  ·have H:=K (by simpa using G);rw [jT (by omega)];exact ⟨y - (i3+1),by omega,i3+1,rfl,by omega,rfl,d.to Y Z ab (d.q7.left (by omega) H)⟩
  ·have H:=L (by simpa using G);exact ⟨i3,rfl,w,d.to Y Z ab d.q7,fun _=>H⟩
structure D8 (s:AS) (a:AV) (lo:Nat) (rest:List AV) (l:List (El E.O)) (x y:Nat) (s':AS) (l':List (El E.O)):Prop where
 arr:jG s' a lo l' rest
 wf:aM s'
 sw:Sw x y l l'
 eL:bD [lo] s s'
theorem D8.to {s:AS} {a:AV} {lo:Nat} {rest:List AV} {l:List (El E.O)} {x y:Nat} {s' s'':AS} {l':List (El E.O)} (h:D8 s a lo rest l x y s' l') (b:jG s'' a lo l' rest) (c:aM s'') (m:bD [lo] s' s''):D8 s a lo rest l x y s'' l':=⟨b,c,h.sw,h.eL.trans m⟩
theorem D8.swap {s:AS} {a:AV} {lo:Nat} {rest:List AV} {l:List (El E.O)} {x y:Nat} {s' s'':AS} {l':List (El E.O)} {i j:Nat} (h:D8 s a lo rest l x y s' l') (b:y<=l.length) (hi:x<=i/\i<y) (hj:x<=j/\j<y) (c:jG s'' a lo (Bn l' i j) rest) (d:aM s'') (m:bD [lo] s' s''):D8 s a lo rest l x y s'' (Bn l' i j) :=
 ⟨c,d,.step h.sw hi hj (by rw [h.sw.len];exact b),h.eL.trans m⟩
theorem RC {l:List (El E.O)} {x i:Nat} (h:CL l x i) (c:x<i) (hle:(el l (i - 1)).le (el l i)):CL l x (i+1):=by
 intro p q b h2 h3;by_cases e:q=i
 ·subst e;by_cases e2:p=q - 1
  ·rw [e2];exact hle
  ·exact El.le_trans (h p (q - 1) b (by omega) (by omega)) hle
 ·exact h p q b h2 (by omega)
theorem RD {l l':List (El E.O)} {x y:Nat} (h:Sw x y l l') (b:0<x->∀ q,x<=q->q<y->(el l (x - 1)).le (el l q)):0<x->∀ q,x<=q->q<y->(el l' (x - 1)).le (el l' q):=by
 intro c q d h2;obtain ⟨j,hj,e⟩:=h.mem (k:=q) ⟨d,h2⟩;rw [h.out (.inl (by omega)),e];exact b c j hj.1 hj.2
theorem Nu {s:AS} {a:AV} {lo:Nat} {l:List (El E.O)} {rest:List AV} {x y:Nat} (h:jG s a lo l rest) (bc:x<y) (hy:y<=l.length) (hn:l.length<=2 ^ 40) (R:0<x->∀ q,x<=q->q<y->(el l (x - 1)).le (el l q)) :
  aa Tryz.prog E.eT [a,.int .i64 (x:Nat),.int .i64 (y:Nat),.func cf []] s fun r s'=>∃ (b:Bool) (l':List (El E.O)),r=.bool b/\D8 s a lo rest l x y s' l'/\(b=true->CL l' x y):=by
 have w0:aM s->D8 s a lo rest l x y s l:=fun hw=>⟨h,hw,.refl _,bD.refl _ _⟩;refine aa.pre fun hw=>SQ.gT _ _ _ _ _ _ ?_;rw [gS,jT (by omega)];refine ⟨fun m vs s'=>∃ (i k:Nat) (l':List (El E.O)),vs=[.int .i64 (i:Nat),.int .i64 (k:Nat)]/\k<=5/\m=5 - k/\x+1<=i/\i<=y/\D8 s a lo rest l x y s' l'/\CL l' x i,5,⟨x+1,0,l,rfl,by omega,rfl,by omega,by omega,w0 hw,fun p q _ _ _=>by omega⟩,?_⟩;rintro m n4 n5 s6 ⟨i0,k,l1,S,hk,rfl,an,ao,U,ap⟩;simp only [List.cons.injEq,AV.int.injEq,true_and,and_true] at S;obtain ⟨rfl,rfl⟩:=S;refine af.dec (fun bb=>?_) (fun _=>⟨false,l1,rfl,U,by simp⟩);refine ⟨fun vs s'=>∃ (i:Nat) (l':List (El E.O)),vs=[.int .i64 (i:Nat)]/\x+1<=i/\i<=y/\D8 s a lo rest l x y s' l'/\CL l' x i/\(i<y->(el l' i).lt (el l' (i - 1))=true),?_,?_⟩
 ·rintro n8 s9 ⟨i,l2,hi,F,G,n,W,g9⟩;simp only [List.cons.injEq,AV.int.injEq,true_and,and_true] at hi;subst hi;have bd:=n.sw.len;refine af.mk (fun he=>?_) (fun ar=>?_)
  ·have:i=y:=by simp at he;omega
   subst this;exact ⟨true,l2,rfl,n,fun _=>W⟩
  have aw:i<y:=by simp at ar;omega
  rw [Dm (by omega) (by omega)];refine af.dec (fun _=>⟨false,l2,rfl,n,by simp⟩) (fun _=>?_);rw [kD (by omega) (by omega)];refine n.arr.swap n.wf (by omega) (by omega) fun fL a0 a1 a2=>?_;have z:=n.swap hy ⟨by omega,by omega⟩ ⟨by omega,by omega⟩ a0 a1 a2;have X:∀ p q,x<=p->p<q->q<=i - 1->q≠i - 1->(el (Bn l2 i (i - 1)) p).le (el (Bn l2 i (i - 1)) q):=by
   intro p q A h2 h3 h4;rw [lS (by omega) (by omega),lS (by omega) (by omega),if_neg (by omega),if_neg (by omega),if_neg (by omega),if_neg (by omega)];exact W p q A h2 (by omega)
  have next:∀ s' l',D8 s a lo rest l x y s' l'->CL l' x i->∃ m',m'<5 - k/\∃ (i' k':Nat) (l':List (El E.O)),[AV.int .i64 (i:Nat),.int .i64 (IntKind.wrap .i64 ((k:Int)+1))]=[.int .i64 (i':Nat),.int .i64 (k':Nat)]/\k'<=5/\m'=5 - k'/\x+1<=i'/\i'<=y/\D8 s a lo rest l x y s' l'/\CL l' x i' :=
   fun s' l' A h2=>⟨5 - (k+1),by omega,i,k+1,l',by rw [jT (by omega)],by omega,rfl,by omega,by omega,A,h2⟩
  refine ⟨fun vs s'=>∃ l',D8 s a lo rest l x y s' l'/\CL l' x i,?_,?_⟩
  ·rintro tW ⟨l3,B,C⟩;rw [Dm (by omega) (by omega)];refine af.dec (fun _=>?_) (fun _=>next _ _ B C);rw [jT (by omega)];refine ⟨fun m vs s'=>∃ (j:Nat) (l':List (El E.O)),vs=[.int .i64 (j:Nat)]/\i+1<=j/\m=y - j/\D8 s a lo rest l x y s' l'/\CL l' x i,y - (i+1),⟨i+1,l3,rfl,by omega,rfl,B,C⟩,?_⟩;rintro m be bh ⟨j,H,hj,bi,rfl,d,o⟩;simp only [List.cons.injEq,AV.int.injEq,true_and,and_true] at hj;subst hj;have a3:=d.sw.len;refine af.dec (fun bj=>?_) (fun _=>next _ _ d o);rw [kD (by omega) (by omega)];refine d.arr.cmp (by omega) (by omega) fun jZ I J Y=>af.mk (fun _=>next _ _ (d.to I J Y) o) (fun _=>?_);refine I.swap J (by omega) (by omega) fun yY a4 a5 a6=>?_;rw [jT (by omega)];refine ⟨y - (j+1),by omega,j+1,_,rfl,by omega,rfl,(d.to I J Y).swap hy ⟨by omega,by omega⟩ ⟨by omega,by omega⟩ a4 a5 a6,fun p q A h2 h3=>?_⟩;rw [lS (by omega) (by omega),lS (by omega) (by omega),if_neg (by omega),if_neg (by omega),if_neg (by omega),if_neg (by omega)];exact o p q A h2 h3
  ·rw [Dm (by omega) (by omega)];refine af.dec (fun h2=>?_) (fun h2=>⟨_,z,fun p q A h2 h3=>by omega⟩);refine ⟨fun m vs s'=>∃ (j:Nat) (l':List (El E.O)),vs=[.int .i64 (j:Nat)]/\x<=j/\j<=i - 1/\m=2*j/\D8 s a lo rest l x y s' l'/\(∀ p q,x<=p->p<q->q<=i - 1->q≠j->(el l' p).le (el l' q)),2*(i - 1),⟨i - 1,_,rfl,by omega,by omega,rfl,z,X⟩,?_⟩;rintro m bk bl ⟨j,H,hj,a7,Z,rfl,c,D⟩;simp only [List.cons.injEq,AV.int.injEq,true_and,and_true] at hj;subst hj;have a3:=c.sw.len;have fin:∀ s',D8 s a lo rest l x y s' H->(j=x\/(el H (j - 1)).le (el H j))->∃ l',D8 s a lo rest l x y s' l'/\CL l' x i:=by
    intro s' A h2;have:=Ic a7 Z h2 D;rw [show i - 1+1=i by omega] at this;exact ⟨H,A,this⟩
   refine af.dec (fun a8=>?_) (fun a8=>fin _ c (.inl (by omega)));rw [kD (by omega) (by omega)];refine c.arr.cmp (by omega) (by omega) fun bm K L ab=>af.mk (fun M=>fin _ (c.to K L ab) (.inr (El.wh (by rw [<- El.fO];simpa using M)))) (fun M=>?_);have Q:(el H j).lt (el H (j - 1))=true:=by rw [<- El.fO];simpa using M
   have ad:x<j:=by
    rcases Nat.lt_or_ge x j with h' | h'
    ·exact h'
    ·exfalso;obtain rfl:x=j:=by omega
     have:=RD c.sw R (by omega) x (by omega) (by omega);rw [El.le] at this;rw [this] at Q;cases Q
   refine K.swap L (by omega) (by omega) fun Ut a9 a' ba=>?_;exact ⟨2*(j - 1),by omega,j - 1,_,rfl,by omega,by omega,rfl,(c.to K L ab).swap hy ⟨by omega,by omega⟩ ⟨by omega,by omega⟩ a9 a' ba,Kr (by omega) ad Z Q D⟩
 ·refine ⟨fun m vs s'=>∃ (i:Nat),vs=[.int .i64 (i:Nat)]/\x+1<=i/\i<=y/\m=y - i/\D8 s a lo rest l x y s' l1/\CL l1 x i,y - i0,⟨i0,rfl,an,ao,rfl,U,ap⟩,?_⟩;rintro m bo bs ⟨i,hi,F,G,rfl,e,w⟩;simp only [List.cons.injEq,AV.int.injEq,true_and,and_true] at hi;subst hi;have bx:=e.sw.len;refine af.dec (fun aw=>?_) (fun b0=>⟨i,l1,rfl,F,G,e,w,fun h=>by omega⟩);rw [kD (by omega) (by omega)];refine e.arr.cmp (by omega) (by omega) fun b1 ae al am=>af.mk (fun M=>?_) (fun M=>?_)
  ·rw [jT (by omega)];exact ⟨y - (i+1),by omega,i+1,rfl,by omega,by omega,rfl,e.to ae al am,RC w (by omega) (El.wh (by rw [<- El.fO];simpa using M))⟩
  ·exact ⟨i,l1,rfl,F,G,e.to ae al am,w,fun _=>by rw [<- El.fO];simpa using M⟩
end
section
variable {cf:FuncId} [qS E cf]
noncomputable def OB (x:Nat):Bool:=match jd T cE (.str [0,1,2,2,3,3,3,3,4,4,4,4,4,4,4,4,5,5,5,5,5,5,5,5,5,5,5,5,5,5,5,5,6,6,6,6,6,6,6,6,6,6,6,6,6,6,6,6,6,6,6,6,6,6,6,6,6,6,6,6,6,6,6,6,7,7,7,7,7,7,7,7,7,7,7,7,7,7,7,7,7,7,7,7,7,7,7,7,7,7,7,7,7,7,7,7,7,7,7,7,7,7,7,7,7,7,7,7,7,7,7,7,7,7,7,7,7,7,7,7,7,7,7,7,7,7,7,7,8,8,8,8,8,8,8,8,8,8,8,8,8,8,8,8,8,8,8,8,8,8,8,8,8,8,8,8,8,8,8,8,8,8,8,8,8,8,8,8,8,8,8,8,8,8,8,8,8,8,8,8,8,8,8,8,8,8,8,8,8,8,8,8,8,8,8,8,8,8,8,8,8,8,8,8,8,8,8,8,8,8,8,8,8,8,8,8,8,8,8,8,8,8,8,8,8,8,8,8,8,8,8,8,8,8,8,8,8,8,8,8,8,8,8,8,8,8,8,8,8,8,8,8,8,8,8,8]) (.int .u8 (IntKind.wrap .u8 (x:Nat))) with
 | some (.int .u8 k)=>decide (0<=k/\k<=8/\(x=0\/(x<2 ^ k.toNat/\2 ^ k.toNat<=2*x)))
 | _=>false
theorem RE:(List.range 256).all OB=true:=by kernel_rfl
theorem RF {x:Nat} (h:x<256):∃ k:Nat,jd T cE (.str [0,1,2,2,3,3,3,3,4,4,4,4,4,4,4,4,5,5,5,5,5,5,5,5,5,5,5,5,5,5,5,5,6,6,6,6,6,6,6,6,6,6,6,6,6,6,6,6,6,6,6,6,6,6,6,6,6,6,6,6,6,6,6,6,7,7,7,7,7,7,7,7,7,7,7,7,7,7,7,7,7,7,7,7,7,7,7,7,7,7,7,7,7,7,7,7,7,7,7,7,7,7,7,7,7,7,7,7,7,7,7,7,7,7,7,7,7,7,7,7,7,7,7,7,7,7,7,7,8,8,8,8,8,8,8,8,8,8,8,8,8,8,8,8,8,8,8,8,8,8,8,8,8,8,8,8,8,8,8,8,8,8,8,8,8,8,8,8,8,8,8,8,8,8,8,8,8,8,8,8,8,8,8,8,8,8,8,8,8,8,8,8,8,8,8,8,8,8,8,8,8,8,8,8,8,8,8,8,8,8,8,8,8,8,8,8,8,8,8,8,8,8,8,8,8,8,8,8,8,8,8,8,8,8,8,8,8,8,8,8,8,8,8,8,8,8,8,8,8,8,8,8,8,8,8,8]) (.int .u8 (IntKind.wrap .u8 (x:Nat)))=some (.int .u8 (k:Nat))/\k<=8/\(x=0\/(x<2 ^ k/\2 ^ k<=2*x)):=by
 have:=List.all_eq_true.1 RE x (List.mem_range.2 h);unfold OB at this;split at this
 ·rename_i k b;obtain ⟨c,h2,h3⟩:=of_decide_eq_true this;refine ⟨k.toNat,?_,by omega,h3⟩;rw [b,Int.toNat_of_nonneg c]
 ·cases this
theorem Nv {x:Nat} (m:x<65536) (s:AS):aa Tryz.prog kM [.int .u64 (x:Nat)] s fun r s'=>∃ k:Nat,r=.int .i64 (k:Nat)/\k<=16/\(0<x->x<2 ^ k/\2 ^ k<=2*x)/\s'=s:=by
 refine De _ _ _ ?_
 suffices h:aa Tryz.prog mg [.int .u64 (x:Nat)] s fun r s'=>∃ k:Nat,r=.int .i64 (k:Nat)/\k<=16/\(0<x->x<2 ^ k/\2 ^ k<=2*x)/\s'=s from
  h.mono (by rintro r s' ⟨k,rfl,c,h2,rfl⟩;exact ⟨_,rfl,k,rfl,c,h2,rfl⟩)
 refine Au _ _ _ ⟨fun vs s'=>vs=[.int .u64 (x:Nat),.int .i64 0]/\s'=s,?_,af.dec (fun h=>by omega) (fun _=>⟨rfl,rfl⟩)⟩;rintro n2 o s4 ⟨hv,rfl⟩;simp only [List.cons.injEq,AV.int.injEq,true_and,and_true] at hv;obtain ⟨rfl,rfl⟩:=hv;refine ⟨fun vs s'=>vs=[.int .u64 (x:Nat),.int .i64 0]/\s'=s4,?_,af.dec (fun h=>by omega) (fun _=>⟨rfl,rfl⟩)⟩;rintro p z s8 ⟨hv,rfl⟩;simp only [List.cons.injEq,AV.int.injEq,true_and,and_true] at hv;obtain ⟨rfl,rfl⟩:=hv;refine ⟨fun vs s'=>∃ y b:Nat,vs=[.int .u64 (y:Nat),.int .i64 (b:Nat)]/\y<256/\((b=0/\y=x)\/(b=8/\y=x / 256/\0<y))/\s'=s8,?_,af.dec (fun h=>⟨by decide,x / 256,8,?_,by omega,.inr ⟨rfl,rfl,by omega⟩,rfl⟩) (fun h=>⟨x,0,rfl,by omega,.inl ⟨rfl,rfl⟩,rfl⟩)⟩
 ·rintro d e dI ⟨y,b,hv,i,hb,rfl⟩;simp only [List.cons.injEq,AV.int.injEq,true_and,and_true] at hv;obtain ⟨rfl,rfl⟩:=hv;obtain ⟨k,j,c,h2⟩:=RF i;refine ⟨_,j,b+k,?_,by omega,fun A=>?_,rfl⟩
  ·rw [aW (n:=(k:Int)) (by omega),aW (by omega)];rfl
  ·rcases hb with ⟨rfl,rfl⟩ | ⟨rfl,l,h3⟩
   ·rw [Nat.zero_add];omega
   ·rw [Nat.pow_add];rcases h2 with h2 | ⟨h2,h4⟩
    ·omega
    ·generalize 2 ^ k=w at h2 h4 ⊢;omega
 ·have:Int.fdiv (x:Int) (2 ^ min (Int.toNat 8) (IntKind.bits .u64))=((x / 256:Nat):Int):=by
   show Int.fdiv (x:Int) ((256:Nat):Int)=_;rw [Int.fdiv_eq_ediv_of_nonneg _ (by omega)];rfl
  rw [this];rfl
theorem Tw {x:Nat} (c:x<65536) (d:0<x) (s:AS):aa Tryz.prog gM [.int .i64 (x:Nat)] s fun r s'=>∃ k:Nat,r=.int .u64 ((2 ^ k:Nat):Int)/\k<=16/\x<2 ^ k/\2 ^ k<=2*x/\s'=s:=by
 refine tD _ _ _ ?_;rw [lD,gw (by omega)];refine (Nv c s).mono ?_;rintro r s' ⟨k,rfl,b,h2,rfl⟩;obtain ⟨h3,h4⟩:=h2 d;refine ⟨_,rfl,by omega,k,?_,b,h3,h4,rfl⟩;have e:min (Int.toNat (k:Int)) (IntKind.bits .u64)=k:=by
  rw [Int.toNat_natCast];exact Nat.min_eq_left (Nat.le_trans b (by decide))
 rw [e,Int.one_mul,gw]
 ·rw [Int.natCast_pow];rfl
 ·have:(2:Int) ^ k=((2 ^ k:Nat):Int):=by rw [Int.natCast_pow];rfl
  rw [this];omega
theorem RG (n m:Int):∃ w:Int,bA .xor .u64 n m=some (.int .u64 w):=⟨_,rfl⟩
theorem aV.xor {n m:Int} {K:Int->Prop} (h:∀ w:Int,K w):aV .u64 (bA .xor .u64 n m) K:=⟨_,(RG n m).choose_spec,h _⟩
theorem RH {s:AS} {q:Nat} {b:AV} {w:Int} {K:AS->Prop} (c:aM s) (d:Am.Own s q [b]) (h:∀ s',Am.Own s' q [.int .u64 w]->aM s'->bD [q] s s'->K s'):ah (some (q,0)) fun l o=>bt (cK s l o [.int .u64 w]) K :=
 bt.own c d (by simp) fun s' P=>h s' P.at P.wf P.mut
theorem U0 {s:AS} {q:Nat} {n:Int} {K:Int->Prop} (b:Am.Own s q [.int .u64 n]) (h:K n):ah (some (q,0)) fun l o=>aV .u64 (av s l o) K:=⟨n,by rw [b.at.av];rfl,h⟩
set_option maxRecDepth 100000 in
theorem RI {s:AS} {q:Nat} {n:Int} (h:Am.Own s q [.int .u64 n]):aa Tryz.prog ie [.ptr (some (q,0))] s fun r s'=>∃ m m':Int,r=.int .u64 m/\Am.Own s' q [.int .u64 m']/\bD [q] s s':=by
 refine aa.pre fun o=>uK _ _ _ ?_;refine U0 h ?_;refine U0 h ?_;refine ⟨by decide,?_⟩;refine aV.xor fun w=>?_
 try dsimp only
 refine RH (w:=w) o h fun p b e i=>?_;refine U0 b ?_;refine U0 b ?_;refine ⟨by decide,?_⟩;refine aV.xor fun w=>?_
 try dsimp only
 refine RH (w:=w) e b fun gi c j k=>?_;refine U0 c ?_;refine U0 c ?_;refine ⟨by decide,?_⟩;refine aV.xor fun w=>?_
 try dsimp only
 refine RH (w:=w) j c fun x d y l=>?_;exact U0 d ⟨_,_,rfl,d,(i.trans k).trans l⟩
theorem PJ {n:Int} {k:Nat} (b:k<=16):∃ w:Nat,bA .and .u64 n (IntKind.wrap .u64 (((2 ^ k:Nat):Int) - 1))=some (.int .u64 (w:Nat))/\w<2 ^ k:=by
 have c:0<2 ^ k:=Nat.pow_pos (by omega);have h2:2 ^ k<=65536:=Nat.le_trans (Nat.pow_le_pow_right (by omega) b) (by decide);refine ⟨(BitVec.ofInt 64 n &&& BitVec.ofInt 64 (((2 ^ k - 1:Nat):Int))).toNat,?_,?_⟩
 ·rw [gw (by omega)];rw [show (((2 ^ k:Nat):Int) - 1)=((2 ^ k - 1:Nat):Int) by omega];have key:∀ z:BitVec 64,IntKind.wrap .u64 (z.toNat:Int)=(z.toNat:Int):=fun z=>gw ⟨by omega,by have:=z.isLt;omega⟩;exact congrArg (fun u=>some (AV.int .u64 u)) (key (BitVec.ofInt 64 n &&& BitVec.ofInt 64 (((2 ^ k - 1:Nat):Int))))
 ·rw [BitVec.toNat_and];have h3:=@Nat.and_le_right (BitVec.ofInt 64 n).toNat (BitVec.ofInt 64 (((2 ^ k - 1:Nat):Int))).toNat;have h4:(BitVec.ofInt 64 (((2 ^ k - 1:Nat):Int))).toNat=2 ^ k - 1:=by
   rw [BitVec.ofInt_natCast,BitVec.toNat_ofNat];exact Nat.mod_eq_of_lt (by omega)
  omega
theorem RJ {s:AS} {a:AV} {lo:Nat} {l:List (El E.O)} {rest:List AV} {x y:Nat} (h:jG s a lo l rest) (U:x<y) (W:y<=l.length) (hn:l.length<65536) :
  aa Tryz.prog E.iq [a,.int .i64 (x:Nat),.int .i64 (y:Nat),.func cf []] s fun r s'=>r=.aP []/\∃ l',D8 s a lo rest l x y s' l':=by
 refine aa.pre fun R=>SQ.mD _ _ _ _ _ _ ?_;have C:s.h lo≠none:=by obtain ⟨_,g,h2⟩:=h;rw [h2];simp
 rw [mC,Dm (by omega) (by omega)];refine af.dec (fun h8=>?_) (fun _=>⟨rfl,l,h,R,.refl _,bD.refl _ _⟩);refine aj.intro R rfl fun q s2 F=>bt.own F.wf F.own (by simp) fun s3 P=>?_;have X:Am.Own s3 q [_]:=P.at;have D:q≠lo:=by rintro rfl;exact C F.no
 have a3:jG s3 a lo l rest:=(h.ext F.ext).mut P.mut (by simp;exact fun e=>D e.symm);have Y:bD [lo] s s3:=⟨fun z o S j=>by
  have:=F.ext.1 z o j;exact P.mut.1 z o (by simp;rintro rfl;rw [F.no] at j;cases j) this,Nat.le_trans F.ext.2 P.mut.2⟩
 refine aa.use (Tw (x:=y - x) (by omega) (by omega) s3) ?_;rintro r s5 ⟨k,rfl,Z,ab,ad,rfl⟩ G;refine ⟨_,rfl,by decide,?_⟩;rw [show (4:Int)=((4:Nat):Int) by rfl,RB,wid (by omega),show (((y - x) / 4:Nat):Int)*2=(((y - x) / 4*2:Nat):Int) by omega,wid (by omega),Ns (by omega),kD (by omega) (by omega),jT (by omega)];generalize hd:x+(y - x) / 4*2=d;refine ⟨fun m vs s'=>∃ (i:Nat) (l':List (El E.O)) (v:Int),vs=[.int .i64 (i:Nat)]/\d - 1<=i/\m=d+2 - i/\Am.Own s' q [.int .u64 v]/\D8 s a lo rest l x y s' l',d+2 - (d - 1),⟨d - 1,l,_,rfl,by omega,rfl,X,a3,G,.refl _,Y⟩,?_⟩;rintro m ae al ⟨i,l1,v,hi,am,rfl,H,b⟩;simp only [List.cons.injEq,AV.int.injEq,true_and,and_true] at hi;subst hi;have an:=b.sw.len;refine ⟨by decide,af.dec (fun hle=>?_) (fun _=>⟨rfl,l1,b⟩)⟩;refine aa.use (RI H) ?_;rintro r bP ⟨w1,w2,rfl,I,p⟩ A;have J:jG bP a lo l1 rest:=b.arr.mut p (by simp;exact fun e=>D e.symm);have K:bD [lo] s bP:=⟨fun z o S j=>p.1 z o (by simp;rintro rfl;rw [F.no] at j;cases j) (b.eL.1 z o S j),Nat.le_trans b.eL.2 p.2⟩;have c:D8 s a lo rest l x y bP l1:=⟨J,A,b.sw,K⟩;obtain ⟨w,L,ao⟩:=PJ (n:=w1) Z;refine ⟨_,rfl,_,L,?_⟩;show bz _;rw [wid (by omega)];refine ⟨fun vs s'=>s'=bP/\∃ t:Nat,vs=[.int .i64 (t:Nat)]/\t<y - x,?_,af.dec (fun ap=>⟨rfl,w - (y - x),by rw [Dm (by omega) (by omega)],by omega⟩) (fun ar=>⟨rfl,w,rfl,by omega⟩)⟩;rintro aw gz ⟨rfl,t,ht,a0⟩;simp only [List.cons.injEq,AV.int.injEq,true_and,and_true] at ht;subst ht;rw [Ns (by omega)];refine c.arr.swap c.wf (by omega) (by omega) fun mu M Q B=>?_;rw [jT (by omega)];exact ⟨d+2 - (i+1),by omega,i+1,_,_,rfl,by omega,rfl,I.mut B (by simpa using D),c.swap W ⟨by omega,by omega⟩ ⟨by omega,by omega⟩ M Q B⟩
end
section
variable {cf:FuncId} [qS E cf]
theorem OC {L b:List Nat} {s s':AS} (h:bD L s s') (hs:∀ x∈L,x∈b):bD b s s':=⟨fun x o c d=>h.1 x o (fun hm=>c (hs x hm)) d,h.2⟩
structure Ct (s:AS) (a:AV) (lo:Nat) (l:List (El E.O)) (rest:List AV) (q:Nat) (s':AS):Prop where
 ne:q≠lo
 own:∃ c:Int,Am.Own s' q [.int .i64 c]
 arr:jG s' a lo l rest
 wf:aM s'
 eL:bD [q,lo] s s'
section
variable {s s0:AS} {a:AV} {lo:Nat} {l:List (El E.O)} {rest:List AV} {q:Nat}
theorem BW (h:Ct s0 a lo l rest q s) {x y:Nat} (m:x<l.length) (n:y<l.length) :
  aa Tryz.prog E.iJ [a,.int .i64 (x:Nat),.int .i64 (y:Nat),.ptr (some (q,0)),.func cf []] s fun r s'=>∃ u v:Nat,r=.aP [.int .i64 (u:Nat),.int .i64 (v:Nat)]/\(u=x\/u=y)/\(v=x\/v=y)/\Ct s0 a lo l rest q s':=by
 refine SQ.vl _ _ _ _ _ _ _ ?_;refine h.arr.cmp n m fun s8 d i j=>?_;obtain ⟨c,o⟩:=h.own;have b:Am.Own s8 q _:=o.mut j (by simpa using h.ne);have k:bD [q,lo] s0 s8:=h.eL.trans (OC j (by simp));refine af.dec (fun _=>?_) (fun _=>⟨x,y,rfl,.inl rfl,.inr rfl,h.ne,⟨c,b⟩,d,i,k⟩);refine ⟨c,by rw [b.at.av];rfl,bt.own i b (by simp) fun gu P=>⟨y,x,rfl,.inr rfl,.inl rfl,h.ne,⟨_,P.at⟩,d.mut P.mut (by simp;exact fun e=>h.ne e.symm),P.wf,k.trans (OC P.mut (by simp))⟩⟩
theorem Hv (h:Ct s0 a lo l rest q s) {x y z:Nat} (c:x<l.length) (d:y<l.length) (e:z<l.length) :
  aa Tryz.prog E.kN [a,.int .i64 (x:Nat),.int .i64 (y:Nat),.int .i64 (z:Nat),.ptr (some (q,0)),.func cf []] s fun r s'=>∃ u:Nat,r=.int .i64 (u:Nat)/\(u=x\/u=y\/u=z)/\Ct s0 a lo l rest q s':=by
 refine SQ.vk _ _ _ _ _ _ _ _ ?_;refine (BW h c d).mono ?_;rintro r s2 ⟨B,C,rfl,i,j,h2⟩;refine ⟨_,_,rfl,(BW h2 (by omega) e).mono ?_⟩;rintro r s6 ⟨D,F,rfl,k,m,n⟩;refine ⟨_,_,rfl,(BW n (by omega) (by omega)).mono ?_⟩;rintro r o ⟨G,p,rfl,w,A,b⟩;exact ⟨_,_,rfl,p,rfl,by omega,b⟩
theorem BX (h:Ct s0 a lo l rest q s) {x:Nat} (c:1<=x) (d:x+1<l.length) (e:l.length<65536) :
  aa Tryz.prog E.dR [a,.int .i64 (x:Nat),.ptr (some (q,0)),.func cf []] s fun r s'=>∃ u:Nat,r=.int .i64 (u:Nat)/\(x<=u+1/\u<=x+1)/\Ct s0 a lo l rest q s':=by
 refine SQ.lG _ _ _ _ _ _ ?_;rw [lE,kD (by omega) (by omega),jT (by omega)];refine (Hv h (by omega) (by omega) (by omega)).mono ?_;rintro r s' ⟨u,rfl,hu,b⟩;exact ⟨_,rfl,u,rfl,by omega,b⟩
theorem PK {x y:Nat} (h:jG s a lo l rest) (K:x<y) (W:y<=l.length) (e:l.length<65536) :
  aa Tryz.prog E.jE [a,.int .i64 (x:Nat),.int .i64 (y:Nat),.func cf []] s fun r s'=>∃ (p:Nat) (t:Int),r=.aP [.int .i64 (p:Nat),.int .i64 t]/\(x<=p/\p<y)/\jG s' a lo l rest/\bD [lo] s s':=by
 have m:s.h lo≠none:=by obtain ⟨_,g,h2⟩:=h;rw [h2];simp
 refine aa.pre fun L=>SQ.oN _ _ _ _ _ _ (aj.intro L rfl fun q s2 F=>⟨by decide,by decide,by decide,?_⟩);have M:q≠lo:=by rintro rfl;exact m F.no
 have c2:Ct s2 a lo l rest q s2:=⟨M,⟨_,F.own⟩,h.ext F.ext,F.wf,bD.refl _ _⟩;have back:∀ s',Ct s2 a lo l rest q s'->bD [lo] s s':=fun s' c=>⟨fun z o O n=>c.eL.1 z o (by
  simp only [List.mem_cons,List.not_mem_nil,or_false,not_or];exact ⟨(by rintro rfl;rw [F.no] at n;cases n),by simpa using O⟩) (F.ext.1 z o n),Nat.le_trans F.ext.2 c.eL.2⟩
 have w:∀ k:Nat,k<=3->IntKind.wrap .i64 ((x:Int)+IntKind.wrap .i64 (IntKind.wrap .i64 (Int.tdiv (IntKind.wrap .i64 ((y:Int) - (x:Int))) 4)*((k:Nat):Int)))=((x+(y - x) / 4*k:Nat):Int):=by
  intro k A;have hm:(y - x) / 4*k<=(y - x) / 4*3:=Nat.mul_le_mul_left _ A;rw [Dm (by omega) (by omega),show (4:Int)=((4:Nat):Int) by rfl,RB,wid (by omega),<- Int.natCast_mul,wid (by omega),Ns (by omega)]
 have w1:=w 1 (by omega);have w2:=w 2 (by omega);have I:=w 3 (by omega);simp only [Int.natCast_one,show ((2:Nat):Int)=2 by rfl,show ((3:Nat):Int)=3 by rfl] at w1 w2 I;rw [w1,w2,I,Dm (by omega) (by omega)];refine ⟨fun vs s'=>∃ p:Nat,vs=[.int .i64 (p:Nat)]/\(x<=p/\p<y)/\Ct s2 a lo l rest q s',?_,af.dec (fun X=>?_) (fun _=>⟨_,rfl,by omega,c2⟩)⟩
 ·rintro Y Z ⟨p,J,b,d⟩;simp only [List.cons.injEq,AV.int.injEq,true_and,and_true] at J;subst J;obtain ⟨c,o⟩:=d.own;refine ⟨c,by rw [o.at.av];rfl,?_⟩;refine af.mk (fun _=>⟨p,_,rfl,b,d.arr,back _ d⟩) (fun _=>af.mk (fun _=>⟨p,_,rfl,b,d.arr,back _ d⟩) (fun _=>⟨p,_,rfl,b,d.arr,back _ d⟩))
 ·refine ⟨fun vs s'=>∃ i j k:Nat,vs=[.int .i64 (i:Nat),.int .i64 (j:Nat),.int .i64 (k:Nat)]/\(x<=i/\i<y)/\(x<=j/\j<y)/\(x<=k/\k<y)/\Ct s2 a lo l rest q s',?_,af.dec (fun Q=>?_) (fun _=>⟨_,_,_,rfl,by omega,by omega,by omega,c2⟩)⟩
  ·rintro n8 n9 R S ⟨i,j,k,hv,hi,hj,A,B⟩;simp only [List.cons.injEq,AV.int.injEq,true_and,and_true] at hv;obtain ⟨rfl,rfl,rfl⟩:=hv;refine (Hv B (by omega) (by omega) (by omega)).mono ?_;rintro r bP ⟨u,rfl,hu,C⟩;exact ⟨_,rfl,u,rfl,by omega,C⟩
  ·refine (BX c2 (by omega) (by omega) e).mono ?_;rintro r U ⟨i,rfl,hi,D⟩;refine ⟨_,rfl,(BX D (by omega) (by omega) e).mono ?_⟩;rintro r gz ⟨j,rfl,hj,G⟩;refine ⟨_,rfl,(BX G (by omega) (by omega) e).mono ?_⟩;rintro r fP ⟨k,rfl,A,H⟩;exact ⟨_,rfl,i,j,k,rfl,by omega,by omega,by omega,H⟩
end
end
section
variable {cf:FuncId} [qS E cf]
structure Gd (s:AS) (a:AV) (lo:Nat) (rest:List AV) (l:List (El E.O)) (x y:Nat) (s':AS) (l':List (El E.O)) (c d:Nat):Prop where
 st:D8 s a lo rest l x y s' l'
 ar:iO l' x y c d
 xc:x<=c
 cd:c<=d
 dy:d<=y
section
variable {s:AS} {a:AV} {lo:Nat} {rest:List AV} {l:List (El E.O)} {x y:Nat}
theorem Gd.sub {s' s'':AS} {l' l'':List (El E.O)} {c d c' b:Nat} (h:Gd s a lo rest l x y s' l' c d) (e:y<=l.length) (i:jG s'' a lo l'' rest) (j:aM s'') (hs:Sw c' b l' l'') (m:bD [lo] s' s'') (k:c<=c') (hd:b<=d):D8 s a lo rest l x y s'' l'' :=
 ⟨i,j,h.st.sw.trans (hs.Uo (Nat.le_trans h.xc k) (Nat.le_trans hd h.dy) (by rw [h.st.sw.len];exact e)),h.st.eL.trans m⟩
theorem Gd.perm {s' s'':AS} {l' l'':List (El E.O)} {c d:Nat} (h:Gd s a lo rest l x y s' l' c d) (b:y<=l.length) (e:jG s'' a lo l'' rest) (i:aM s'') (hs:Sw c d l' l'') (m:bD [lo] s' s''):Gd s a lo rest l x y s'' l'' c d :=
 ⟨h.sub b e i hs m (Nat.le_refl _) (Nat.le_refl _),h.ar.sw h.xc h.dy hs,h.xc,h.cd,h.dy⟩
theorem Gd.to {s' s'':AS} {l':List (El E.O)} {c d:Nat} (h:Gd s a lo rest l x y s' l' c d) (b:jG s'' a lo l' rest) (e:aM s'') (m:bD [lo] s' s''):Gd s a lo rest l x y s'' l' c d :=
 ⟨h.st.to b e m,h.ar,h.xc,h.cd,h.dy⟩
theorem Gd.low {s':AS} {l':List (El E.O)} {c d:Nat} (h:Gd s a lo rest l x y s' l' c d) (b:0<x->∀ q,x<=q->q<y->(el l (x - 1)).le (el l q)):0<c->∀ q,c<=q->q<d->(el l' (c - 1)).le (el l' q):=by
 intro i q j h2;have:=h.xc;have:=h.dy;by_cases e:c=x
 ·subst e;exact RD h.st.sw b i q j (by omega)
 ·exact h.ar (c - 1) q (by omega) (by omega) (by omega) (.inl (by omega))
end
theorem U1 {a:AV} {lo:Nat} {rest:List AV}:∀ (n:Nat) {s:AS} {l:List (El E.O)} {x y:Nat} (U:Int),y - x=n->jG s a lo l rest->x<=y->y<=l.length->l.length<65536->(0<x->∀ q,x<=q->q<y->(el l (x - 1)).le (el l q)) ->
  aa Tryz.prog E.fG [a,.int .i64 (x:Nat),.int .i64 (y:Nat),.int .i64 U,.func cf []] s fun r s'=>r=.aP []/\∃ l',D8 s a lo rest l x y s' l'/\CL l' x y:=by
 intro n
 induction n using Nat.strongRecOn with
 | _ n IH =>
 intro s l x y U hn h b6 L hl B;refine aa.pre fun hw=>SQ.nQ _ _ _ _ _ _ _ ⟨fun m vs s'=>∃ (c d:Nat) (li:Int) (b1 b2:Bool) (l':List (El E.O)),vs=[.int .i64 (c:Nat),.int .i64 (d:Nat),.int .i64 li,.bool b1,.bool b2]/\m=d - c/\Gd s a lo rest l x y s' l' c d,y - x,⟨x,y,U,true,true,l,rfl,rfl,⟨h,hw,.refl _,bD.refl _ _⟩,iO.start _ _ _,by omega,by omega,by omega⟩,?_⟩;rintro m n4 n5 n6 b7 b8 s9 ⟨c,d,li,b1,b2,l1,hv,rfl,C⟩;simp only [List.cons.injEq,AV.int.injEq,AV.bool.injEq,true_and,and_true] at hv;obtain ⟨rfl,rfl,rfl,rfl,rfl⟩:=hv;have W:=C.xc;have a4:=C.cd;have X:=C.dy;have b9:=C.st.sw.len;rw [Dm (by omega) (by omega)];refine af.dec (fun a5=>?_) (fun a5=>af.mk (fun _=>?_) (fun _=>?_))
 ·refine aa.use (Nr C.st.arr a4 (by omega) (by omega)) ?_;rintro r a6 ⟨rfl,Y,Z,D,F,ab⟩ ad;have G:=C.perm L Z ad D ab;exact ⟨rfl,rfl,Y,G.st,G.ar.VW F⟩
 ·refine aa.use (Lf C.st.arr (by omega) (by omega) (by omega)) ?_;rintro r a6 ⟨rfl,Y,Z,D,F,ab⟩ ad;have G:=C.perm L Z ad D ab;exact ⟨rfl,rfl,Y,G.st,G.ar.VW F⟩
 have w:c<d:=by omega
 refine ⟨fun vs s'=>∃ (li:Int) (l':List (El E.O)),vs=[.int .i64 li]/\Gd s a lo rest l x y s' l' c d,?_,af.mk (fun _=>?_) (fun _=>⟨_,l1,rfl,C⟩)⟩
 ·rintro b' ca ⟨cb,Y,hv,ae⟩;simp only [List.cons.injEq,AV.int.injEq,true_and,and_true] at hv;subst hv;have cc:=ae.st.sw.len;refine aa.use (PK ae.st.arr w (by omega) (by omega)) ?_;rintro r eE ⟨p,t,rfl,hp,a7,a8⟩ a9;have al:=ae.to a7 a9 a8;refine ⟨_,_,rfl,fun vs s'=>∃ (p:Nat) (t:Int) (l':List (El E.O)),vs=[.int .i64 (p:Nat),.int .i64 t]/\(c<=p/\p<d)/\Gd s a lo rest l x y s' l' c d,?_,af.mk (fun _=>?_) (fun _=>⟨p,t,Y,rfl,hp,al⟩)⟩
  ·rintro ce ch a' ⟨p,t,l3,hv,hp,H⟩;simp only [List.cons.injEq,AV.int.injEq,true_and,and_true] at hv;obtain ⟨rfl,rfl⟩:=hv;refine ⟨fun vs s'=>∃ l',Gd s a lo rest l x y s' l' c d,?_,?_⟩
   ·rintro ci ⟨l4,M⟩;have ck:=M.st.sw.len;refine ⟨fun vs s'=>∃ b,vs=[.bool b]/\Gd s a lo rest l x y s' l4 c d/\(b=true->0<c/\(el l4 p).le (el l4 (c - 1))),?_,?_⟩
    ·rintro cl cm ⟨b,hv,Q,hb⟩;simp only [List.cons.injEq,AV.bool.injEq,and_true] at hv;subst hv;refine af.mk (fun ba=>?_) (fun _=>?_)
     ·obtain ⟨a0,hle⟩:=hb ba;refine aa.use (PI Q.st.arr hp (by omega) (by omega)) ?_;rintro r mu ⟨i,j,l5,rfl,bc,R,z,bd,a1,be⟩ bh;have am:=Q.perm L bc bh R be;have cn:=z.xi;have cp:=z.jy;have cr:=z.ij;refine ⟨_,rfl,d - i,by omega,i,d,_,_,_,l5,rfl,rfl,am.st,am.ar.equal W X z bd (fun k h1 h2=>?_),by omega,by omega,by omega⟩;rw [a1];refine El.le_trans hle ?_;have:=am.low B a0 k h1 h2;rw [R.out (.inl (by omega))] at this;exact this
     ·refine aa.use (IU Q.st.arr hp (by omega) (by omega)) ?_;rintro r kr ⟨S,bb,l5,rfl,an,a2,o,bi⟩ bj;have A:=Q.perm L an bj a2 bi;have bk:=o.xm;have cs:=o.my;have cu:=A.st.sw.len;have ao:=A.low B;refine ⟨_,_,rfl,by decide,?_⟩;rw [jT (by omega)];refine af.mk (fun _=>?_) (fun _=>?_)
      ·refine aa.use (IH (S - c) (by omega) (s:=kr) (l:=l5) (x:=c) (y:=S) _ rfl an bk (by omega) (by omega) (fun h0 q h1 h2=>ao h0 q h1 (by omega))) ?_;rintro r bl ⟨rfl,l6,e,I⟩ ap;refine ⟨rfl,d - (S+1),by omega,S+1,d,_,_,_,l6,rfl,rfl,A.sub L e.arr ap e.sw e.eL (Nat.le_refl _) (by omega),A.ar.right W X o e.sw I,by omega,by omega,by omega⟩
      ·refine aa.use (IH (d - (S+1)) (by omega) (s:=kr) (l:=l5) (x:=S+1) (y:=d) _ rfl an (by omega) (by omega) (by omega) (fun h0 q h1 h2=>by
        rw [Nat.add_sub_cancel];exact o.ge q (by omega) h2)) ?_
       rintro r bl ⟨rfl,l6,e,I⟩ ap;refine ⟨rfl,S - c,by omega,c,S,_,_,_,l6,rfl,rfl,A.sub L e.arr ap e.sw e.eL (by omega) (Nat.le_refl _),A.ar.left W X o e.sw I,by omega,by omega,by omega⟩
    ·refine af.dec (fun a0=>?_) (fun _=>⟨false,rfl,M,by simp⟩);rw [kD (by omega) (by omega)];refine M.st.arr.cmp (by omega) (by omega) fun cv bm bo bs=>⟨_,rfl,M.to bm bo bs,fun hb=>⟨by omega,?_⟩⟩;exact El.wh (by rw [<- El.fO];simpa using hb)
   ·refine ⟨fun vs s'=>∃ b,vs=[.bool b]/\s'=a',?_,af.mk (fun _=>af.mk (fun _=>⟨_,rfl,rfl⟩) (fun _=>⟨_,rfl,rfl⟩)) (fun _=>⟨_,rfl,rfl⟩)⟩;rintro cw cx ⟨b,hv,rfl⟩;simp only [List.cons.injEq,AV.bool.injEq,and_true] at hv;subst hv;have cy:=H.st.sw.len;refine af.mk (fun _=>?_) (fun _=>⟨l3,H⟩);refine aa.use (Nu H.st.arr w (by omega) (by omega) (H.low B)) ?_;rintro r cz ⟨b,l4,rfl,J,hs⟩ bx;have aw:=H.perm L J.arr bx J.sw J.eL;exact ⟨_,rfl,af.mk (fun hb=>⟨rfl,l4,aw.st,aw.ar.VW (hs hb)⟩) (fun _=>⟨l4,aw⟩)⟩
  ·refine aa.use (Nt al.st.arr w (by omega) (by omega)) ?_;rintro r cA ⟨rfl,l3,b0,a3,b3⟩ b4;rw [kD (by omega) (by omega),Dm (by omega) (by omega),Dm (by omega) (by omega)];exact ⟨rfl,d - 1 - (p - c),1,l3,rfl,by omega,al.perm L b0 b4 a3 b3⟩
 ·refine aa.use (RJ C.st.arr w (by omega) (by omega)) ?_;rintro r cB ⟨rfl,Y,K⟩ b5;exact ⟨rfl,_,Y,rfl,C.perm L K.arr b5 K.sw K.eL⟩
theorem Tx {s:AS} {a:AV} {lo:Nat} {rest:List AV} {l:List (El E.O)} (h:jG s a lo l rest) (b:l.length<65536) :
  aa Tryz.prog E.uL [a,.func cf []] s fun r s'=>r=.aP []/\∃ l',jG s' a lo l' rest/\l'.Perm l/\CL l' 0 l'.length/\bD [lo] s s':=by
 refine SQ.y5 _ _ _ _ ?_;have hlen:aQ T E.ys a s=some (.int .i64 (l.length:Nat)):=by
  obtain ⟨⟨c,e,rfl⟩,_⟩:=h;simp [aQ,E.us]
 refine ⟨_,hlen,?_⟩;dsimp only;rw [gw (by omega)];refine aa.use (Nv b s) ?_;rintro r s3 ⟨k,rfl,_,_,rfl⟩ i;refine ⟨_,rfl,?_⟩;refine (U1 (l.length - 0) (x:=0) (y:=l.length) k rfl h (by omega) (by omega) b (by omega)).mono ?_;rintro r s6 ⟨rfl,l',st,d⟩;exact ⟨rfl,rfl,l',st.arr,st.sw.perm,by rw [st.sw.len];exact d,st.eL⟩
end
section
theorem Nw {cf:FuncId} {a:Option (Nat×Nat)} (s:AS):aa Tryz.prog E.fB [.slc a 0 0 true,.int .i64 0,.int .i64 0,.func cf []] s fun r s'=>r=.aP []/\s'=s:=by
 refine SQ.iu _ _ _ _ _ _ ⟨fun m vs s'=>vs=[.int .i64 1]/\s'=s,0,⟨rfl,rfl⟩,?_⟩;rintro m n b ⟨hi,rfl⟩;simp only [List.cons.injEq,AV.int.injEq,true_and,and_true] at hi;subst hi;exact af.no (by decide) ⟨rfl,rfl⟩
theorem Nx {cf:FuncId} {a:Option (Nat×Nat)} (s:AS) (b:Int):aa Tryz.prog E.fG [.slc a 0 0 true,.int .i64 0,.int .i64 0,.int .i64 b,.func cf []] s fun r s'=>r=.aP []/\s'=s:=by
 refine SQ.nQ _ _ _ _ _ _ _ ⟨fun m vs s'=>vs=[.int .i64 0,.int .i64 0,.int .i64 b,.bool true,.bool true]/\s'=s,0,⟨rfl,rfl⟩,?_⟩;rintro m d e i j k c ⟨hi,rfl⟩;simp only [List.cons.injEq,AV.int.injEq,AV.bool.injEq,true_and,and_true] at hi;obtain ⟨rfl,rfl,rfl,rfl,rfl⟩:=hi;refine af.yes (by decide) ?_;refine aa.use (Nw c) ?_;rintro r s' ⟨rfl,rfl⟩ _;exact ⟨rfl,rfl,rfl⟩
theorem Lg {cf:FuncId} {a:Option (Nat×Nat)} (s:AS):aa Tryz.prog E.uL [.slc a 0 0 true,.func cf []] s fun r s'=>r=.aP []/\s'=s:=by
 refine SQ.y5 _ _ _ _ ?_;have hlen:aQ T E.ys (.slc a 0 0 true) s=some (.int .i64 0):=by simp [aQ,E.us]
 refine ⟨_,hlen,?_⟩;dsimp only;rw [show IntKind.wrap .u64 (0:Int)=((0:Nat):Int) from gw (by omega)];refine aa.use (Nv (by omega) s) ?_;rintro r s3 ⟨k,rfl,_,_,rfl⟩ b;refine ⟨_,rfl,?_⟩;refine aa.use (Nx _ _) ?_;rintro r s6 ⟨rfl,rfl⟩ _;exact ⟨rfl,rfl,rfl⟩
def Ny (s0 s:AS) (v:AV) (l:List (El E.O)):Prop:=Ext s0 s/\((l=[]/\∃ a,v=.slc a 0 0 true)\/∃ la,v=.slc (some (la,0)) l.length l.length false/\jG s v la l []/\s0.h la=none)
variable {cf:FuncId} [qS E cf]
theorem y9 {s0 s:AS} {v:AV} {l:List (El E.O)} {sz:Nat} (g:aU E.cC sz [] s0 s v l) (m:l.length<65536) :
  aa Tryz.prog E.uL [v,.func cf []] s fun r s'=>r=.aP []/\∃ l',l'.Perm l/\CL l' 0 l'.length/\Ny s0 s' v l':=by
 have b:Ext s0 s:=g.eL.ext;rcases g.vq with ⟨rfl,a,rfl⟩ | ⟨la,rfl,n⟩
 ·refine (Lg s).mono ?_;rintro r s' ⟨rfl,rfl⟩;exact ⟨rfl,[],.refl _,fun i j w h2 h3=>by simp at h3,b,.inl ⟨rfl,a,rfl⟩⟩
 ·have p:jG s (.slc (some (la,0)) l.length l.length false) la l []:=⟨⟨_,_,rfl⟩,sz,by simpa using n⟩;have e:s0.h la=none:=g.new la (by simp [ay]);refine (Tx p m).mono ?_;rintro r s' ⟨rfl,l',c,k,hs,m'⟩;refine ⟨rfl,l',k,hs,⟨fun x o d=>m'.1 x o (by simp only [List.mem_singleton];rintro rfl;rw [e] at d;cases d) (b.1 x o d),Nat.le_trans b.2 m'.2⟩,.inr ⟨la,by rw [k.length_eq],c,e⟩⟩
end
end Go.Proofs.YtohgmogbabkkeaaGreat.SG
end

section
set_option maxRecDepth 100000
set_option maxHeartbeats 4000000
namespace Go.Proofs.YtohgmogbabkkeaaGreat
open Go.Am Go.au
def oe:Go.au.SG.OE:=⟨aJ,⟨0,0⟩,aJ.lt,aJ.cmp,fun a b=>aJ.fO,fun a b c h d=>aJ.le_trans (a:=a) (b:=b) (c:=c) h d,fun a=>aJ.le_refl a,fun a b h=>aJ.zV h⟩
def se:SG.SE:=⟨oe,aN,2,bn,fun x=>rfl,az,iH,bF,jR,fj,pz,kT,oE,mo,lJ,iF,ko,nI,oF,kq,pY,pZ,kU⟩
instance:SG.SQ se where
 y5:=fun a0 a1 s R h =>
  aa.q (n:=14) (rs:=[]) (A:=SG.Nq) hT bW Tryz.func192 (by kernel_rfl) rfl rfl rfl (by kernel_rfl) (by kernel_rfl) h
 nQ:=fun a0 a1 a2 a3 a4 s R h =>
  aa.q (n:=148) (rs:=[]) (A:=SG.BT) hT bW Tryz.func247 (by kernel_rfl) rfl rfl rfl (by kernel_rfl) (by kernel_rfl) h
 iu:=fun a0 a1 a2 a3 s R h =>
  aa.q (n:=53) (rs:=[]) (A:=SG.uN) hT bW Tryz.func272 (by kernel_rfl) rfl rfl rfl (by kernel_rfl) (by kernel_rfl) h
 rP:=fun a0 a1 a2 a3 s R h =>
  aa.q (n:=60) (rs:=[]) (A:=SG.Aw) hT bW Tryz.func273 (by kernel_rfl) rfl rfl rfl (by kernel_rfl) (by kernel_rfl) h
 oN:=fun a0 a1 a2 a3 s R h =>
  aa.q (n:=63) (rs:=[.tmp 8,.tmp 9]) (A:=SG.wQ) hT bW Tryz.func275 (by kernel_rfl) rfl rfl rfl (by kernel_rfl) (by kernel_rfl) h
 mU:=fun a0 a1 a2 a3 s R h =>
  aa.q (n:=34) (rs:=[]) (A:=SG.vD) hT bW Tryz.func276 (by kernel_rfl) rfl rfl rfl (by kernel_rfl) (by kernel_rfl) h
 gT:=fun a0 a1 a2 a3 s R h =>
  aa.q (n:=141) (rs:=[.tmp 8]) (A:=SG.oM) hT bW Tryz.func277 (by kernel_rfl) rfl rfl rfl (by kernel_rfl) (by kernel_rfl) h
 lF:=fun a0 a1 a2 a3 a4 s R h =>
  aa.q (n:=90) (rs:=[.tmp 10]) (A:=SG.tF) hT bW Tryz.func278 (by kernel_rfl) rfl rfl rfl (by kernel_rfl) (by kernel_rfl) h
 qO:=fun a0 a1 a2 a3 a4 s R h =>
  aa.q (n:=178) (rs:=[.tmp 10,.tmp 11]) (A:=SG.y4) hT bW Tryz.func279 (by kernel_rfl) rfl rfl rfl (by kernel_rfl) (by kernel_rfl) h
 rQ:=fun a0 a1 a2 a3 a4 s R h =>
  aa.q (n:=82) (rs:=[]) (A:=SG.Ay) hT bW Tryz.func303 (by kernel_rfl) rfl rfl rfl (by kernel_rfl) (by kernel_rfl) h
 lG:=fun a0 a1 a2 a3 s R h =>
  aa.q (n:=18) (rs:=[.tmp 8]) (A:=SG.tH) hT bW Tryz.func304 (by kernel_rfl) rfl rfl rfl (by kernel_rfl) (by kernel_rfl) h
 vk:=fun a0 a1 a2 a3 a4 a5 s R h =>
  aa.q (n:=41) (rs:=[.tmp 12]) (A:=SG.Dg) hT bW Tryz.func305 (by kernel_rfl) rfl rfl rfl (by kernel_rfl) (by kernel_rfl) h
 vl:=fun a0 a1 a2 a3 a4 s R h =>
  aa.q (n:=32) (rs:=[.tmp 10,.tmp 11]) (A:=SG.Di) hT bW Tryz.func313 (by kernel_rfl) rfl rfl rfl (by kernel_rfl) (by kernel_rfl) h
 mD:=fun a0 a1 a2 a3 s R h =>
  aa.q (n:=67) (rs:=[]) (A:=SG.uO) hT bW Tryz.func274 (by kernel_rfl) rfl rfl rfl (by kernel_rfl) (by kernel_rfl) h
class qS (cf:FuncId):Prop where
 ok:∀ (a b:aJ) (s:AS),aa Tryz.prog cf [.agg (aN a),.agg (aN b)] s fun v s'=>v=.int .i64 (a.cmp b)/\Ext s s'
instance:qS cL:=⟨uP⟩
structure jG (s:AS) (a:AV) (lo:Nat) (l:List aJ) (rest:List AV):Prop where
 val:∃ c e,a=.slc (some (lo,0)) l.length c e
 obj:∃ g,s.h lo=some (.cells (l.flatMap aN++rest) g false)
section
variable {s:AS} {a:AV} {lo:Nat} {l:List aJ} {rest:List AV}
theorem qT (l:List aJ):(l.flatMap aN).length=l.length*2:=by
 induction l with
 | nil=>rfl
 | cons x l b=>simp only [List.flatMap_cons,List.length_append,b,bn,List.length_cons];omega
end
instance Wl {cf:FuncId} [h:qS cf]:SG.qS se cf:=⟨h.ok⟩
theorem jG.of {s:AS} {a:AV} {lo:Nat} {l:List aJ} {rest:List AV} (h:SG.jG (E:=se) s a lo l rest):jG s a lo l rest:=⟨h.val,h.obj⟩
def Ny (s0 s:AS) (v:AV) (l:List aJ):Prop:=Ext s0 s/\((l=[]/\∃ a,v=.slc a 0 0 true)\/∃ la,v=.slc (some (la,0)) l.length l.length false/\jG s v la l []/\s0.h la=none)
theorem y9 {cf:FuncId} [qS cf] {s0 s:AS} {v:AV} {l:List aJ} {sz:Nat} (g:aU aN sz [] s0 s v l) (c:l.length<65536) :
  aa Tryz.prog fj [v,.func cf []] s fun r s'=>r=.aP []/\∃ l',l'.Perm l/\CL l' 0 l'.length/\Ny s0 s' v l':=by
 refine (SG.y9 (E:=se) (cf:=cf) g c).mono ?_;rintro r s' ⟨d,l',h2,h3,h4,b⟩;refine ⟨d,l',h2,h3,h4,?_⟩;rcases b with b | ⟨la,e,i,j⟩
 ·exact .inl b
 ·exact .inr ⟨la,e,jG.of i,j⟩
theorem Ny.WD {s0 s:AS} {v:AV} {l:List aJ} (h:Ny s0 s v l):Sl aN 2 s v l:=by
 rcases h.2 with ⟨rfl,a,rfl⟩ | ⟨la,rfl,⟨_,g,b⟩,_⟩
 ·exact Sl.nil
 ·refine cq.mk ⟨_,_,b⟩ (qT l) ?_ (Nat.le_refl _);rw [List.drop_zero];show (l.flatMap aN++[]).take _=_;rw [List.append_nil];exact List.take_of_length_le (Nat.le_of_eq (qT l))
end Go.Proofs.YtohgmogbabkkeaaGreat
end

section
namespace Go.Proofs.YtohgmogbabkkeaaGreat
open Go.Am Go.au
theorem OD:∀ (b a c:List AV),b.length<=c.length->qk (a++c) a.length b=a++b++c.drop b.length
 | [],a,c,h=>by simp [qk]
 | v::b,a,[],h=>by simp at h
 | v::b,a,y::c,h=>by
  have d:=OD b (a++[v]) c (by simpa using h);have e:(a++y::c).set a.length v=a++[v]++c:=by
   rw [List.set_append_right _ _ (Nat.le_refl _)];simp
  show qk ((a++y::c).set a.length v) (a.length+1) b=_;rw [e];simp only [List.length_append,List.length_cons,List.length_nil,Nat.zero_add] at d;rw [d];simp
end Go.Proofs.YtohgmogbabkkeaaGreat
end

section
namespace Go.Proofs.YtohgmogbabkkeaaGreat
open Go.Am Go.au
end Go.Proofs.YtohgmogbabkkeaaGreat
end
