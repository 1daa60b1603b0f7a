/-
  A part of QX proof: an abstract machine CF QX model, and qO of qP of this program CF it.
-/
import Derived.Test.YtohgmogbabkkeaaGreatProg
import Derived.KernelRfl
import Derived.Test.YtohgmogbabkkeaaGreatP3
set_option linter.unusedVariables false
set_option linter.unusedSimpArgs false
set_option linter.unusedSectionVars false
namespace Go.Proofs.YtohgmogbabkkeaaGreat
section
open Go.Am
noncomputable def T:TT:=TT.of Tryz.prog
theorem hT:TT.Ok Tryz.prog T:=TT.X2 _
theorem bX:Tryz.prog.follows .mixedOrders=true:=by kernel_rfl
end
section
open Go.Am
abbrev mK:Nat:=6
abbrev oW:Nat:=12
abbrev jr:Nat:=13
abbrev dg:Nat:=14
abbrev oA:Nat:=15
abbrev iC:Nat:=16
abbrev cI:Nat:=17
abbrev dU:Nat:=18
abbrev eT:Nat:=19
abbrev lJ:Nat:=20
abbrev iP:Nat:=21
abbrev mU:Nat:=22
abbrev gF:Nat:=23
abbrev pD:Nat:=24
abbrev p0:Nat:=25
abbrev mV:Nat:=27
abbrev iD:Nat:=28
abbrev fX:Nat:=29
abbrev iy:Nat:=30
abbrev gG:Nat:=31
abbrev rB:Nat:=32
abbrev sx:Nat:=33
abbrev jc:Nat:=36
abbrev kZ:Nat:=44
abbrev xA:Nat:=61
abbrev zI:Nat:=66
abbrev oB:Nat:=67
abbrev dz:Nat:=68
abbrev p_:Nat:=69
abbrev aZ:Nat:=70
abbrev bM:Nat:=71
abbrev cZ:Nat:=72
abbrev bI:Nat:=73
abbrev c_:Nat:=74
abbrev ey:Nat:=75
abbrev gy:Nat:=76
abbrev fY:Nat:=77
abbrev ez:Nat:=78
abbrev bY:Nat:=79
abbrev bO:Nat:=80
abbrev sZ:Nat:=81
abbrev eL:Nat:=82
abbrev fZ:Nat:=83
abbrev dH:Nat:=84
abbrev lT:Nat:=85
abbrev iQ:Nat:=86
abbrev iR:Nat:=87
abbrev sy:Nat:=88
abbrev jW:Nat:=89
abbrev dR:Nat:=90
abbrev xB:Nat:=91
abbrev eX:Nat:=92
abbrev cq:Nat:=93
abbrev fS:Nat:=94
abbrev mW:Nat:=95
abbrev rC:Nat:=96
abbrev qa:Nat:=97
abbrev lU:Nat:=98
abbrev sA:Nat:=99
abbrev qx:Nat:=100
abbrev qy:Nat:=101
abbrev jL:Nat:=102
abbrev jM:Nat:=103
abbrev bS:Nat:=104
abbrev fJ:Nat:=105
abbrev zJ:Nat:=106
abbrev iS:Nat:=107
abbrev ff:Nat:=108
abbrev lK:Nat:=109
abbrev dN:Nat:=111
abbrev jd:Nat:=112
abbrev aM:Nat:=113
abbrev fK:Nat:=114
abbrev jt:Nat:=117
abbrev oC:Nat:=118
abbrev dV:Nat:=121
abbrev eY:Nat:=124
abbrev az:Nat:=126
abbrev cV:Nat:=127
abbrev CZ:Nat:=146
abbrev jX:Nat:=150
abbrev mX:Nat:=151
abbrev dD:Nat:=152
abbrev je:Nat:=153
abbrev kR:Nat:=154
abbrev oD:Nat:=155
abbrev bw:Nat:=156
abbrev bA:Nat:=157
abbrev fQ:Nat:=158
abbrev oE:Nat:=159
abbrev xC:Nat:=160
abbrev s_:Nat:=161
abbrev jY:Nat:=162
abbrev iT:Nat:=163
abbrev iU:Nat:=164
abbrev jZ:Nat:=165
abbrev xD:Nat:=166
abbrev zK:Nat:=167
abbrev eU:Nat:=168
abbrev xE:Nat:=169
abbrev bH:Nat:=170
abbrev fh:Nat:=171
abbrev mY:Nat:=172
abbrev xF:Nat:=173
abbrev oF:Nat:=174
abbrev qb:Nat:=175
abbrev lM:Nat:=177
abbrev k5:Nat:=178
abbrev aU:Nat:=179
abbrev eS:Nat:=180
abbrev ct:Nat:=185
abbrev eM:Nat:=189
abbrev jz:Nat:=191
abbrev fD:Nat:=192
abbrev qz:Nat:=207
abbrev qc:Nat:=208
abbrev qA:Nat:=209
abbrev vq:Nat:=210
abbrev zL:Nat:=211
abbrev tj:Nat:=212
abbrev eC:Nat:=213
abbrev tn:Nat:=214
abbrev oG:Nat:=215
abbrev vr:Nat:=216
abbrev j_:Nat:=217
abbrev zM:Nat:=218
abbrev xG:Nat:=219
abbrev cM:Nat:=220
abbrev gJ:Nat:=221
abbrev ke:Nat:=222
abbrev mZ:Nat:=223
abbrev vt:Nat:=224
abbrev bF:Nat:=225
abbrev cT:Nat:=226
abbrev tu:Nat:=227
abbrev m_:Nat:=237
abbrev kI:Nat:=238
abbrev iz:Nat:=239
abbrev dO:Nat:=245
abbrev pE:Nat:=246
abbrev qd:Nat:=247
abbrev fE:Nat:=248
abbrev kS:Nat:=255
abbrev fj:Nat:=256
abbrev oH:Nat:=257
abbrev vu:Nat:=258
abbrev rD:Nat:=259
abbrev xH:Nat:=260
abbrev ng:Nat:=261
abbrev qs:Nat:=262
abbrev eD:Nat:=263
abbrev ni:Nat:=264
abbrev iE:Nat:=266
abbrev iV:Nat:=267
abbrev lV:Nat:=272
abbrev pG:Nat:=273
abbrev lW:Nat:=274
abbrev nj:Nat:=275
abbrev mF:Nat:=276
abbrev jf:Nat:=277
abbrev k_:Nat:=278
abbrev oI:Nat:=279
abbrev f_:Nat:=280
abbrev rE:Nat:=291
abbrev vz:Nat:=292
abbrev oJ:Nat:=293
abbrev zN:Nat:=294
abbrev sB:Nat:=295
abbrev tw:Nat:=296
abbrev fL:Nat:=297
abbrev aH:Nat:=298
abbrev gV:Nat:=299
abbrev nk:Nat:=300
abbrev r7:Nat:=301
abbrev pH:Nat:=303
abbrev lq:Nat:=304
abbrev qB:Nat:=305
abbrev gK:Nat:=306
abbrev sC:Nat:=307
abbrev qC:Nat:=313
end
section
open Go.Am
abbrev um:Nat:=3
abbrev wO:Nat:=4
abbrev sE:Nat:=5
abbrev cL:Nat:=9
abbrev tC:Nat:=20
abbrev iA:Nat:=22
abbrev zk:Nat:=28
abbrev av:Nat:=30
abbrev kh:Nat:=33
abbrev ay:Nat:=37
abbrev jh:Nat:=40
abbrev zl:Nat:=41
abbrev pI:Nat:=45
abbrev gM:Nat:=47
abbrev cD:Nat:=48
abbrev aX:Nat:=49
abbrev bZ:Nat:=50
abbrev gN:Nat:=52
abbrev bK:Nat:=58
abbrev lX:Nat:=62
abbrev lz:Nat:=69
abbrev xI:Nat:=71
abbrev C0:Nat:=72
abbrev aI:Nat:=84
abbrev aC:Nat:=85
abbrev mz:Nat:=87
abbrev tD:Nat:=93
abbrev rF:Nat:=100
abbrev aK:Nat:=128
abbrev sF:Nat:=130
abbrev bz:Nat:=138
abbrev nW:Nat:=140
abbrev rG:Nat:=144
abbrev gz:Nat:=155
abbrev oX:Nat:=157
abbrev cU:Nat:=165
abbrev tE:Nat:=167
abbrev wh:Nat:=170
abbrev cE:Nat:=184
abbrev bP:Nat:=185
abbrev pK:Nat:=187
abbrev oK:Nat:=189
abbrev Et:Nat:=203
abbrev eG:Nat:=205
abbrev gX:Nat:=240
abbrev fF:Nat:=247
abbrev Bf:Nat:=270
abbrev cJ:Nat:=271
abbrev eV:Nat:=285
abbrev dS:Nat:=286
abbrev gP:Nat:=290
abbrev fR:Nat:=341
theorem Ql:T.cW um=some (.int .i64):=by kernel_rfl
theorem Jq:T.eZ um=some 1:=by kernel_rfl
theorem KA:T.sS um=some (.int .i64 0):=by kernel_rfl
theorem WV:T.agg um=some false:=by kernel_rfl
theorem Ws:T.cW wO=some (.bool):=by kernel_rfl
theorem Bg:T.cW sE=some (.int .u8):=by kernel_rfl
theorem eN:T.eZ sE=some 1:=by kernel_rfl
theorem KB:T.HX sE=some 1:=by kernel_rfl
theorem GP:T.sS sE=some (.int .u8 0):=by kernel_rfl
theorem pL:T.cW cL=some (.string):=by kernel_rfl
theorem Rp:T.agg cL=some false:=by kernel_rfl
theorem sG:T.cW iA=some (.slice um):=by kernel_rfl
theorem H7:T.cW zk=some (.pointer sF):=by kernel_rfl
theorem aT:T.cW av=some (.slice sE):=by kernel_rfl
theorem qX:T.eZ av=some 1:=by kernel_rfl
theorem Rq:T.HX av=some 24:=by kernel_rfl
theorem GQ:T.sS av=some (.slc none 0 0 true):=by kernel_rfl
theorem Tu:T.cW kh=some (.int .u64):=by kernel_rfl
theorem ki:T.eZ kh=some 1:=by kernel_rfl
theorem Tv:T.HX kh=some 8:=by kernel_rfl
theorem Rr:T.sS kh=some (.int .u64 0):=by kernel_rfl
theorem C1:T.agg kh=some false:=by kernel_rfl
theorem aR:T.cW ay=some (.slice gN):=by kernel_rfl
theorem uo:T.eZ ay=some 1:=by kernel_rfl
theorem wj:T.cW jh=some (.pointer tE):=by kernel_rfl
theorem H8:T.cW zl=some (.pointer pK):=by kernel_rfl
theorem kN:T.eZ gM=some 2:=by kernel_rfl
theorem Wj:T.HX gM=some 16:=by kernel_rfl
theorem OO:T.sS gM=some (.agg [.int .i64 0,.int .u64 0]):=by kernel_rfl
theorem WW:T.agg gM=some true:=by kernel_rfl
theorem KC:T.cW cD=some (.array 16 kh):=by kernel_rfl
theorem xJ:T.cW aX=some (.array 16 kh):=by kernel_rfl
theorem uq:T.eZ aX=some 16:=by kernel_rfl
theorem Tw:T.HX aX=some 128:=by kernel_rfl
theorem Rt:T.sS aX=some (.agg [.int .u64 0,.int .u64 0,.int .u64 0,.int .u64 0,.int .u64 0,.int .u64 0,.int .u64 0,.int .u64 0,.int .u64 0,.int .u64 0,.int .u64 0,.int .u64 0,.int .u64 0,.int .u64 0,.int .u64 0,.int .u64 0]):=by kernel_rfl
theorem gh:T.cW bZ=some (.slice xI):=by kernel_rfl
theorem Tx:T.eZ bZ=some 1:=by kernel_rfl
theorem fB:T.eZ gN=some 21:=by kernel_rfl
theorem Ve:T.HX gN=some 208:=by kernel_rfl
theorem GR:T.sS gN=some (.agg [.int .i64 0,.int .u64 0,.str [],.slc none 0 0 true,.int .u64 0,.int .u64 0,.int .u64 0,.int .u64 0,.int .u64 0,.int .u64 0,.int .u64 0,.int .u64 0,.int .u64 0,.int .u64 0,.int .u64 0,.int .u64 0,.int .u64 0,.int .u64 0,.int .u64 0,.int .u64 0,.slc none 0 0 true]):=by kernel_rfl
theorem gQ:T.cW bK=some (.slice lX):=by kernel_rfl
theorem zO:T.eZ lX=some 22:=by kernel_rfl
theorem WX:T.sS lz=some (.agg [.str [],.str []]):=by kernel_rfl
theorem C2:T.eZ xI=some 3:=by kernel_rfl
theorem WY:T.HX xI=some 32:=by kernel_rfl
theorem Vf:T.sS xI=some (.agg [.int .i64 0,.int .u64 0,.str []]):=by kernel_rfl
theorem dw:T.cW aI=some (.slice rF):=by kernel_rfl
theorem Mx:T.eZ aI=some 1:=by kernel_rfl
theorem bJ:T.cW aC=some (.slice gM):=by kernel_rfl
theorem Bh:T.eZ aC=some 1:=by kernel_rfl
theorem Ty:T.agg aC=some false:=by kernel_rfl
theorem xK:T.cW mz=some (.pointer oK):=by kernel_rfl
theorem KE:T.cW tD=some (.array 32 sE):=by kernel_rfl
theorem qe:T.eZ rF=some 5:=by kernel_rfl
theorem WZ:T.HX rF=some 56:=by kernel_rfl
theorem Vg:T.sS rF=some (.agg [.int .i64 0,.int .u64 0,.str [],.str [],.bool false]):=by kernel_rfl
theorem lA:T.cW aK=some (.map cL gz):=by kernel_rfl
theorem KF:T.sS sF=some (.agg [.slc none 0 0 true,.map none]):=by kernel_rfl
theorem dW:T.cW bz=some (.slice aX):=by kernel_rfl
theorem rH:T.eZ bz=some 1:=by kernel_rfl
theorem wk:T.cW gz=some (.pointer oX):=by kernel_rfl
theorem C3:T.sS gz=some (.ptr none):=by kernel_rfl
theorem GS:T.sS oX=some (.agg [.int .u64 0,.int .u64 0,.int .u64 0,.int .u64 0,.int .u64 0,.int .u64 0,.int .u64 0,.int .u64 0,.int .u64 0,.int .u64 0,.int .u64 0,.int .u64 0,.int .u64 0,.int .u64 0,.int .u64 0,.int .u64 0,.int .i64 0,.slc none 0 0 true]):=by kernel_rfl
theorem tH:T.cW cU=some (.map gM gN):=by kernel_rfl
theorem Eu:T.cW wh=some (.pointer gX):=by kernel_rfl
theorem xL:T.cW cE=some (.map gM lz):=by kernel_rfl
theorem KG:T.agg cE=some false:=by kernel_rfl
theorem kO:T.cW bP=some (.map gM eG):=by kernel_rfl
theorem KH:T.sS pK=some (.agg [.ptr none,.map none,.map none]):=by kernel_rfl
theorem OP:T.sS oK=some (.agg [.int .u64 0,.int .u64 0,.int .u64 0,.int .u64 0,.int .u64 0,.int .u64 0,.int .u64 0,.int .u64 0,.int .u64 0,.int .u64 0,.int .u64 0,.int .u64 0,.int .u64 0,.int .u64 0,.int .u64 0,.int .u64 0,.slc none 0 0 true,.bool false]):=by kernel_rfl
theorem xM:T.sS eG=some (.agg [.bool false]):=by kernel_rfl
theorem GU:T.sS gX=some (.agg [.slc none 0 0 true,.bool false,.bool false]):=by kernel_rfl
theorem kj:T.cW fF=some (.slice kh):=by kernel_rfl
theorem GV:T.eZ Bf=some 1:=by kernel_rfl
theorem Ru:T.agg Bf=some false:=by kernel_rfl
theorem D8:T.cW cJ=some (.array 8 Bf):=by kernel_rfl
theorem oL:T.cW eV=some (.slice av):=by kernel_rfl
theorem KI:T.cW dS=some (.array 64 Bf):=by kernel_rfl
theorem sH:T.cW gP=some (.array 64 sE):=by kernel_rfl
theorem My:T.cW fR=some (.array 2 kh):=by kernel_rfl
end
section
set_option maxRecDepth 100000
set_option maxHeartbeats 4000000
open Go.Am
def H9  (s:AS) (R:AV->AS->Prop):Prop :=
 aa Tryz.prog jr [] s fun v1 s2=>∃ d:Option (Nat×Nat),∃ b4:Bool,v1=.aQ [.ptr d,.bool b4]/\(af (!b4) (R (.bool false) s2) (aa Tryz.prog dg [.ptr d,(.str [116]),(.str [97])] s2 fun v5 s6=>∃ b7:Bool,v5=.bool b7/\(af (!b7) (R (.bool false) s6) (aa Tryz.prog cI [.ptr d,(.str [116])] s6 fun v8 s9=>∃ k:Bool,v8=.bool k/\(af (!k) (R (.bool false) s9) (aa Tryz.prog cI [.ptr d,(.str [116])] s9 fun v11 dJ=>∃ l:Bool,v11=.bool l/\(af (!l)
 (R (.bool false) dJ)
 (aa Tryz.prog iC [] dJ fun y fH=>aa Tryz.prog oA [y] fH fun nO kU=>∃ c:Option (Nat×Nat),nO=.ptr c/\(aa Tryz.prog dU [.ptr c,(.str [97]),.slc none 0 0 true] kU fun z gw=>∃ m:Int,z=.int .i64 m/\(ah d fun A B=>nM (ak gw A B) fun C=>ah d fun D F=>nM (ak gw D (F+1)) fun G=>aa Tryz.prog eT [.ptr c,(.str [97]),.int .i64 5,.ptr C,.ptr G] gw fun H I=>∃ v30:AV,∃ n:Int,H=.aQ [v30,.int .i64 n]/\(aa Tryz.prog lJ [.ptr c,(.str [97]),.int .i64 1] I fun J K=>∃ e:AV,∃ o:Int,J=.aQ [e,.int .i64 o]/\(aa Tryz.prog iP [.ptr c,(.str [97])] K fun L kC=>∃ p:AV,∃ r:Int,L=.aQ [p,.int .i64 r]/\(aa Tryz.prog dU [.ptr c,(.str [97]),e] kC fun wm i=>∃ w:Int,wm=.int .i64 w/\(ah d fun M O=>nM (ak i M O) fun Q=>ah d fun S U=>nM (ak i S (U+1)) fun W=>aa Tryz.prog eT [.ptr c,(.str [97]),.int .i64 5,.ptr Q,.ptr W] i fun X b=>∃ j:AV,∃ x:Int,X=.aQ [j,.int .i64 x]/\(af ((m:Int)==0) (af ((n:Int)==0) (af ((o:Int)==0) (af ((r:Int)==0) (af ((w:Int)==0) (af ((x:Int)==0) (aV .i64 (aL T ay v30 b) fun Y=>af ((Y:Int)==2) (CM ((cY T av cL e b).map (·.1)) fun Z=>CM ((cY T av cL p b).map (·.1)) fun ab=>af ((Z:List UInt8)==ab) (aV .i64 (aL T ay j b) fun ad=>af ((ad:Int)==1) (bE (ag T ay j (.int .i64 0)) fun ae al=>aV .u64 (ak b ae (al+1)) fun am=>R (.bool ((am:Int)==2)) b) (R (.bool false) b)) (R (.bool false) b)) (R (.bool false) b)) (R (.bool false) b)) (R (.bool false) b)) (R (.bool false) b)) (R (.bool false) b)) (R (.bool false) b)) (R (.bool false) b))))))))))))))))
def H_:QA:=(.seq .leaf (.seq .leaf (.seq (.seq .leaf (.cond (.seq .leaf .leaf) .leaf)) (.seq .leaf (.seq .leaf (.seq .calm (.seq .leaf (.seq .leaf (.seq .leaf (.seq .calm (.seq .leaf .leaf)))))))))))
theorem Ia  (s:AS) (R:AV->AS->Prop) (h:H9  s R):aa Tryz.prog oW [] s R :=
 aa.q (n:=125) (rs:=[.tmp 0]) (A:=H_) hT bX Tryz.func12 (by kernel_rfl) rfl rfl rfl (by kernel_rfl) (by kernel_rfl) h
def Ib  (s:AS) (R:AV->AS->Prop):Prop :=
 aa Tryz.prog zI [.int .i64 3,.int .i64 1] s fun n s2=>∃ j:Option (Nat×Nat),∃ k:Int,n=.aQ [.ptr j,.int .i64 k]/\(aa Tryz.prog xA [] s2 fun o s6=>∃ l:Option (Nat×Nat),o=.ptr l/\(oq (aY T nW [(0,.int .i64 3),(1,.int .i64 1)]) fun m=>cj m (aj (.cells m 0 false) s6 fun p d=>oq (aY T rG []) fun b=>cj b (aj (.cells b 0 false) d fun qY bQ=>oq (aY T pI [(0,.ptr j),(1,.ptr l),(2,(.ptr (some (p,0)))),(3,(.ptr (some (qY,0))))]) fun c=>cj c (aj (.cells c 0 false) bQ fun e i=>R (.aQ [(.ptr (some (e,0))),(.bool ((k:Int)==0))]) i)))))
def Ic:QA:=(.seq .leaf (.seq .leaf (.seq .leaf .leaf)))
theorem Ie  (s:AS) (R:AV->AS->Prop) (h:Ib  s R):aa Tryz.prog jr [] s R :=
 aa.q (n:=18) (rs:=[.tmp 0,.tmp 1]) (A:=Ic) hT bX Tryz.func13 (by kernel_rfl) rfl rfl rfl (by kernel_rfl) (by kernel_rfl) h
def ur (a0:Option (Nat×Nat)) (a1:List UInt8) (a2:List UInt8) (s:AS) (R:AV->AS->Prop):Prop :=
 ah a0 fun l1 o2=>nM (ak s l1 (o2+3)) fun Y=>ah Y fun Z o5=>aa Tryz.prog oB [(.ptr (some (Z,o5))),.int .i64 1] s fun v6 s7=>∃ U:Int,v6=.int .u64 U/\(oq (aY T gM [(0,.int .i64 1),(1,(.int .u64 (IntKind.wrap .u64 (U+1))))]) fun W=>aj (.cells [.int .i64 0,.int .u64 0] 0 false) s7 fun nN z=>fy (some 2) W (bC (cS z nN 0 W) fun dJ=>uc dJ fun X C c S V=>ah a0 fun lN m=>(∀ bQ:AS,X dJ bQ->aJ bQ->ah a0 fun qZ A=>(((.ptr (some (qZ,A))):AV)=(.ptr (some (lN,m)))))/\(nM (ak dJ lN (m+1)) fun b=>(∀ eH:AS,X dJ eH->aJ eH->nM (ak eH lN (m+1)) fun B=>(((.ptr B):AV)=(.ptr b)))/\(oq (aY T lz [(0,.str a1),(1,.str a2)]) fun e=>aS (aD dJ nN 0 2) fun d=>(∀ fV:AS,X dJ fV->aJ fV->aS (aD fV nN 0 2) fun D=>(((.agg D):AV)=(.agg d)))/\((∀ en:AS,X dJ en->aJ en->(True)->c en->aa Tryz.prog dz [.ptr b,.agg e,.agg d] en fun F n=>∃ k:AV,∃ l:Int,F=.aQ [k,.int .i64 l]/\(((X en n/\C 8 [(.func dz []),.ptr b,.agg e,.agg d] (.aQ [k,.int .i64 l]) n)/\S 8 [(.func dz []),.ptr b,.agg e,.agg d] (.aQ [k,.int .i64 l]) n/\V 8 [(.func dz []),.ptr b,.agg e,.agg d] (.aQ [k,.int .i64 l]))))/\(∃ v,V 8 [(.func dz []),.ptr b,.agg e,.agg d] v)/\∀ v30:AV,V 8 [(.func dz []),.ptr b,.agg e,.agg d] v30->∃ o:AV,∃ i:Int,v30=.aQ [o,.int .i64 i]/\(∀ j:AS,X dJ j->aJ j->(S 8 [(.func dz []),.ptr b,.agg e,.agg d] (.aQ [o,.int .i64 i]) j/\True)->C 8 [(.func dz []),.ptr b,.agg e,.agg d] (.aQ [o,.int .i64 i]) j->bt fun p =>
 (∀ r:Bool,∀ oY:AS,p [.bool r] oY ->
 af r
 (R (.bool ((i:Int)==2)) oY)
 (ah a0 fun G H=>nM (ak oY G (H+3)) fun I=>oq (aY T lz [(0,.str a1),(1,.str a2)]) fun J=>aS (aD oY nN 0 2) fun K=>aa Tryz.prog p_ [.ptr I,.agg J,.agg K] oY fun ab L=>R (.bool ((i:Int)==0)) L)) /\
 (aa Tryz.prog mV [.str a1] j fun M w=>∃ x:Bool,M=.bool x/\(af (!x) (p [.bool true] w) (aa Tryz.prog mV [.str a2] w fun O Q=>∃ y:Bool,O=.bool y/\(p [(.bool (!y))] Q))))))))))
def uu:QA:=(.seq .leaf (.seq .leaf (.seq (.we [0,1,2,3,4,5,6,7,8,9,10,11,12] [13] [[],[],[],[],[],[],[],[],[],[],[],[],[]] [8] [8]) (.seq (.join [(38,.bool)] [(31,38)] .leaf (.cond (.seq .leaf .leaf) .leaf)) (.seq (.draw 8) (.seq .leaf .leaf))))))
theorem uv (a0:Option (Nat×Nat)) (a1:List UInt8) (a2:List UInt8) (s:AS) (R:AV->AS->Prop) (h:ur a0 a1 a2 s R):aa Tryz.prog dg [.ptr a0,.str a1,.str a2] s R :=
 aa.q (n:=52) (rs:=[.tmp 6]) (A:=uu) hT bX Tryz.func14 (by kernel_rfl) rfl rfl rfl (by kernel_rfl) (by kernel_rfl) h
def GW  (s:AS) (R:AV->AS->Prop):Prop :=
 aS (de T av 10 [(0,.int .u8 98),(1,.int .u8 101),(2,.int .u8 116),(3,.int .u8 119),(4,.int .u8 101),(5,.int .u8 101),(6,.int .u8 110),(7,.int .u8 32),(8,.int .u8 117),(9,.int .u8 115)]) fun b=>aj (.cells b 1 false) s fun c s3=>ig (cY T av av (.slc (some (c,0)) 10 10 true) s3) fun d e=>R d e
def GX:QA:=(.seq .leaf (.seq .leaf .leaf))
theorem GY  (s:AS) (R:AV->AS->Prop) (h:GW  s R):aa Tryz.prog iC [] s R :=
 aa.q (n:=3) (rs:=[.tmp 0]) (A:=GX) hT bX Tryz.func16 (by kernel_rfl) rfl rfl rfl (by kernel_rfl) (by kernel_rfl) h
def wv (a0:Option (Nat×Nat)) (a1:List UInt8) (s:AS) (R:AV->AS->Prop):Prop :=
 uc s fun X C c S V=>ah a0 fun l2 o3=>(∀ s1:AS,X s s1->aJ s1->ah a0 fun l4 o5=>(((.ptr (some (l4,o5))):AV)=(.ptr (some (l2,o3)))))/\(nM (ak s l2 o3) fun n=>(∀ s6:AS,X s s6->aJ s6->nM (ak s6 l2 o3) fun p8=>(((.ptr p8):AV)=(.ptr n)))/\(ah a0 fun nN B=>(∀ s9:AS,X s s9->aJ s9->ah a0 fun qY an=>(((.ptr (some (qY,an))):AV)=(.ptr (some (nN,B)))))/\(nM (ak s nN (B+1)) fun e=>(∀ D:AS,X s D->aJ D->nM (ak D nN (B+1)) fun ao=>(((.ptr ao):AV)=(.ptr e)))/\((∀ kU:AS,X s kU->aJ kU->(True)->aa Tryz.prog cZ [.ptr e,.str a1] kU fun Q iF=>(Ext kU iF/\S 10 [(.func cZ []),.ptr e,.str a1] Q iF/\V 10 [(.func cZ []),.ptr e,.str a1] Q))/\(∃ v,V 10 [(.func cZ []),.ptr e,.str a1] v)/\∀ v20:AV,V 10 [(.func cZ []),.ptr e,.str a1] v20->(∀ gl:AS,X s gl->aJ gl->(S 10 [(.func cZ []),.ptr e,.str a1] v20 gl/\True)->c gl->aa Tryz.prog bM [.ptr n,.str a1,.slc none 0 0 true,v20] gl fun ar uR=>∃ o:List AV,∃ p:Int,ar=.aQ [.agg o,.int .i64 p]/\(((X gl uR/\C 11 [(.func bM []),.ptr n,.str a1,.slc none 0 0 true,v20] (.aQ [.agg o,.int .i64 p]) uR)/\S 11 [(.func bM []),.ptr n,.str a1,.slc none 0 0 true,v20] (.aQ [.agg o,.int .i64 p]) uR/\V 11 [(.func bM []),.ptr n,.str a1,.slc none 0 0 true,v20] (.aQ [.agg o,.int .i64 p]))))/\(∃ v,V 11 [(.func bM []),.ptr n,.str a1,.slc none 0 0 true,v20] v)/\∀ U:AV,V 11 [(.func bM []),.ptr n,.str a1,.slc none 0 0 true,v20] U->∃ l:List AV,∃ r:Int,U=.aQ [.agg l,.int .i64 r]/\((∀ w:AS,X s w->aJ w->(True)->aj (.cells [.int .i64 0,.int .u64 0,.str [],.slc none 0 0 true,.int .u64 0,.int .u64 0,.int .u64 0,.int .u64 0,.int .u64 0,.int .u64 0,.int .u64 0,.int .u64 0,.int .u64 0,.int .u64 0,.int .u64 0,.int .u64 0,.int .u64 0,.int .u64 0,.int .u64 0,.int .u64 0,.slc none 0 0 true] 0 false) w fun W mG=>(Ext w mG/\S 15 [] (.ptr (some (W,0))) mG/\V 15 [] (.ptr (some (W,0)))))/\(∃ v,V 15 [] v)/\∀ Y:AV,V 15 [] Y->∃ F:Option (Nat×Nat),Y=.ptr F/\(∀ lC:AS,X s lC->aJ lC->(S 10 [(.func cZ []),.ptr e,.str a1] v20 lC/\(S 11 [(.func bM []),.ptr n,.str a1,.slc none 0 0 true,v20] (.aQ [.agg l,.int .i64 r]) lC/\(S 15 [] (.ptr F) lC/\True)))->C 11 [(.func bM []),.ptr n,.str a1,.slc none 0 0 true,v20] (.aQ [.agg l,.int .i64 r]) lC->ah F fun aw a2=>fy (some 21) l (bC (cS lC aw a2 l) fun kC=>uc kC fun X C c S V=>ah a0 fun G H=>(∀ Z:AS,X kC Z->aJ Z->ah a0 fun a3 a4=>(((.ptr (some (a3,a4))):AV)=(.ptr (some (G,H)))))/\(nM (ak kC G (H+2)) fun d=>(∀ I:AS,X kC I->aJ I->nM (ak I G (H+2)) fun a5=>(((.ptr a5):AV)=(.ptr d)))/\(ah a0 fun J K=>(∀ uw:AS,X kC uw->aJ uw->ah a0 fun a6 a7=>(((.ptr (some (a6,a7))):AV)=(.ptr (some (J,K)))))/\(nM (ak kC J (K+3)) fun i=>(∀ L:AS,X kC L->aJ L->nM (ak L J (K+3)) fun a8=>(((.ptr a8):AV)=(.ptr i)))/\((∀ x:AS,X kC x->aJ x->(True)->aa Tryz.prog c_ [.ptr i,.str a1] x fun ab ad=>(Ext x ad/\S 10 [(.func c_ []),.ptr i,.str a1] ab ad/\V 10 [(.func c_ []),.ptr i,.str a1] ab))/\(∃ v,V 10 [(.func c_ []),.ptr i,.str a1] v)/\∀ b:AV,V 10 [(.func c_ []),.ptr i,.str a1] b->(∀ k:AS,X kC k->aJ k->(S 10 [(.func c_ []),.ptr i,.str a1] b k/\True)->c k->aa Tryz.prog bI [.ptr d,.str a1,.slc none 0 0 true,b] k fun a9 M=>∃ y:List AV,∃ z:Bool,a9=.aQ [.agg y,.bool z]/\(((X k M/\C 11 [(.func bI []),.ptr d,.str a1,.slc none 0 0 true,b] (.aQ [.agg y,.bool z]) M)/\S 11 [(.func bI []),.ptr d,.str a1,.slc none 0 0 true,b] (.aQ [.agg y,.bool z]) M/\V 11 [(.func bI []),.ptr d,.str a1,.slc none 0 0 true,b] (.aQ [.agg y,.bool z]))))/\(∃ v,V 11 [(.func bI []),.ptr d,.str a1,.slc none 0 0 true,b] v)/\∀ ae:AV,V 11 [(.func bI []),.ptr d,.str a1,.slc none 0 0 true,b] ae->∃ m:List AV,∃ A:Bool,ae=.aQ [.agg m,.bool A]/\((∀ Bi:AS,X kC Bi->aJ Bi->(True)->aj (.cells [.int .i64 0,.int .u64 0,.str [],.slc none 0 0 true,.int .u64 0,.int .u64 0,.int .u64 0,.int .u64 0,.int .u64 0,.int .u64 0,.int .u64 0,.int .u64 0,.int .u64 0,.int .u64 0,.int .u64 0,.int .u64 0,.int .u64 0,.int .u64 0,.int .u64 0,.int .u64 0,.slc none 0 0 true] 0 false) Bi fun al Tz=>(Ext Bi Tz/\S 15 [] (.ptr (some (al,0))) Tz/\V 15 [] (.ptr (some (al,0)))))/\(∃ v,V 15 [] v)/\∀ am:AV,V 15 [] am->∃ O:Option (Nat×Nat),am=.ptr O/\(∀ j:AS,X kC j->aJ j->(S 10 [(.func c_ []),.ptr i,.str a1] b j/\(S 11 [(.func bI []),.ptr d,.str a1,.slc none 0 0 true,b] (.aQ [.agg m,.bool A]) j/\(S 15 [] (.ptr O) j/\True)))->C 11 [(.func bI []),.ptr d,.str a1,.slc none 0 0 true,b] (.aQ [.agg m,.bool A]) j->ah O fun a' ba=>fy (some 21) m (bC (cS j a' ba m) fun W_=>R (.bool ((A:Bool)==((r:Int)==0))) W_))))))))))))))
def wz:QA:=(.seq .leaf (.seq (.we [0,1,2,3,4,5,6,7,8,9,10,11,12,13,14,15] [16,17] [[],[],[],[],[],[],[],[],[],[],[],[10],[],[],[],[],[],[]] [10,11,15] [11]) (.seq (.we [0,1,2,3,4,5,6,7,8,9,10,11,12,13,14,15] [16,17] [[],[],[],[],[],[],[],[],[],[],[],[10],[],[],[],[],[],[]] [10,11,15] [11]) (.seq .leaf .leaf))))
theorem wA (a0:Option (Nat×Nat)) (a1:List UInt8) (s:AS) (R:AV->AS->Prop) (h:wv a0 a1 s R):aa Tryz.prog cI [.ptr a0,.str a1] s R :=
 aa.q (n:=43) (rs:=[.tmp 4]) (A:=wz) hT bX Tryz.func17 (by kernel_rfl) rfl rfl rfl (by kernel_rfl) (by kernel_rfl) h
def xN (a0:Option (Nat×Nat)) (a1:List UInt8) (a2:List UInt8) (s:AS) (R:AV->AS->Prop):Prop :=
 ah a0 fun l1 o2=>nM (ak s l1 (o2+1)) fun i=>oq (aY T lz [(0,.str a1),(1,.str a2)]) fun j=>aa Tryz.prog lT [.ptr i,.agg j] s fun k s6=>∃ l:AV,∃ m:Int,k=.aQ [l,.int .i64 m]/\(ah a0 fun n b=>nM (ak s6 n (b+3)) fun c=>oq (aY T lz [(0,.str a1),(1,.str a2)]) fun d=>aa Tryz.prog iQ [.ptr c,.agg d] s6 fun o e=>R (.aQ []) e)
def xO:QA:=(.seq .leaf .leaf)
theorem xP (a0:Option (Nat×Nat)) (a1:List UInt8) (a2:List UInt8) (s:AS) (R:AV->AS->Prop) (h:xN a0 a1 a2 s R):aa Tryz.prog gF [.ptr a0,.str a1,.str a2] s R :=
 aa.q (n:=22) (rs:=[]) (A:=xO) hT bX Tryz.func23 (by kernel_rfl) rfl rfl rfl (by kernel_rfl) (by kernel_rfl) h
def Bj (a0:AV) (a1:AV) (a2:List UInt8) (s:AS) (R:AV->AS->Prop):Prop :=
 bt fun J1 =>
 (∀ b2:Bool,∀ s3:AS,J1 [.bool b2] s3 ->
 af b2
 (aa Tryz.prog oW [] s3 fun v4 s5=>∃ b6:Bool,v4=.bool b6/\(R (.bool b6) s5))
 (aa Tryz.prog jr [] s3 fun v7 s8=>∃ n:Option (Nat×Nat),∃ M:Bool,v7=.aQ [.ptr n,.bool M]/\(af (!M)
 (R (.bool false) s8)
 (bt fun O =>
 (∀ dJ:AS,O [] dJ ->
 aa Tryz.prog iC [] dJ fun c8 c9=>aa Tryz.prog oA [c8] c9 fun c' da=>∃ p:Option (Nat×Nat),c'=.ptr p/\(aa Tryz.prog dU [.ptr p,.str a2,.slc none 0 0 true] da fun db iF=>∃ Q:Int,db=.int .i64 Q/\(af ((Q:Int) != 0)
 (R (.bool false) iF)
 (ah n fun dc dd=>nM (ak iF dc dd) fun df=>ah n fun dk dl=>nM (ak iF dk (dl+1)) fun dm=>aa Tryz.prog iD [.ptr p,.str a2,.ptr df,.ptr dm] iF fun dp dr=>∃ S:Int,∃ U:Int,dp=.aQ [.int .i64 S,.int .i64 U]/\(bt fun W =>
 (∀ e:AV,∀ B:AS,W [e] B ->
 ah n fun ds dt=>nM (ak B ds dt) fun du=>ah n fun dv dy=>nM (ak B dv (dy+1)) fun dC=>aa Tryz.prog iD [.ptr p,.str a2,.ptr du,.ptr dC] B fun wm o=>∃ X:Int,∃ Y:Int,wm=.aQ [.int .i64 X,.int .i64 Y]/\(af ((U:Int) != 0) (R (.bool false) o) (af ((Y:Int) != 0) (R (.bool false) o) (af ((X:Int) != 0) (R (.bool false) o) (aV .i64 (aL T ay e o) fun dE=>af ((dE:Int) != S)
 (R (.bool false) o)
 (bu fun H dT=>H dT [.int .i64 0] o /\
 ∀ Z:Nat,∀ l:Int,∀ rI:AS,H Z [.int .i64 l] rI ->
 aV .i64 (aL T ay e rI) fun d'=>af (decide ((l:Int)<d'))
 (bt fun ab =>
 (∀ I:AS,ab [] I ->
 bE (ag T ay e (.int .i64 l)) fun ea eb=>aS (aD I ea eb 2) fun ed=>aa Tryz.prog sx [.agg ed] I fun eg ad=>∃ ae:Bool,eg=.bool ae/\(af (!ae)
 (R (.bool false) ad)
 (∃ m',m'<Z/\H m' [(.int .i64 (IntKind.wrap .i64 (l+1)))] ad))) /\
 (bu fun J eh=>J eh [(.int .i64 (IntKind.wrap .i64 (l+1)))] rI /\
 ∀ al:Nat,∀ r:Int,∀ i:AS,J al [.int .i64 r] i ->
 aV .i64 (aL T ay e i) fun ei=>af (decide ((r:Int)<ei))
 (bE (ag T ay e (.int .i64 l)) fun ej em=>aS (aD i ej em 2) fun et=>bE (ag T ay e (.int .i64 r)) fun ev eA=>aS (aD i ev eA 2) fun eB=>sr (iZ T 100 gM (.agg et) (.agg eB)) fun eI=>af eI (R (.bool false) i) (bE (ag T ay e (.int .i64 r)) fun eQ e0=>aS (aD i eQ e0 21) fun e1=>bE (ag T ay e (.int .i64 l)) fun e2 e3=>aS (aD i e2 e3 21) fun e4=>aa Tryz.prog rB [.agg e1,.agg e4] i fun e5 am=>∃ an:Bool,e5=.bool an/\(af an
 (R (.bool false) am)
 (∃ m',m'<al/\J m' [(.int .i64 (IntKind.wrap .i64 (r+1)))] am))))
 (ab [] i)))
 (aa Tryz.prog oW [] rI fun e6 e7=>∃ ao:Bool,e6=.bool ao/\(R (.bool ao) e7)))))))) /\
 (bu fun K e8=>K e8 [.slc none 0 0 true,.int .i64 0] dr /\
 ∀ ar:Nat,∀ L:AV,∀ C:Int,∀ w:AS,K ar [L,.int .i64 C] w ->
 af (decide ((C:Int)<200))
 (NZ 3 (ah n fun e9 e'=>nM (ak w e9 e') fun fa=>ah n fun fb fc=>nM (ak w fb (fc+1)) fun fe=>aa Tryz.prog eT [.ptr p,.str a2,(.int .i64 (IntKind.wrap .i64 (1+(Int.tmod C 3)))),.ptr fa,.ptr fe] w fun fg aw=>∃ a3:AV,∃ a4:Int,fg=.aQ [a3,.int .i64 a4]/\(af ((a4:Int) != 0)
 (R (.bool false) aw)
 (ig (aG T ay ay L a3 aw) fun a5 a6=>∃ m',m'<ar/\K m' [a5,(.int .i64 (IntKind.wrap .i64 (C+1)))] a6))))
 (W [L] w))))))) /\
 (bu fun m a7=>m a7 [.int .i64 0] s8 /\
 ∀ x:Nat,∀ b:Int,∀ c:AS,m x [.int .i64 b] c ->
 aV .i64 (aL T bK a0 c) fun a8=>af (decide ((b:Int)<a8))
 (bt fun j =>
 (∀ d:AS,j [] d ->
 bt fun y =>
 (∀ D:Bool,∀ k:AS,y [.bool D] k ->
 af D
 (ah n fun a9 a'=>nM (ak k a9 a') fun ba=>bE (ag T ay a1 (.int .i64 b)) fun bb bc=>aS (aD k bb bc 21) fun bd=>aa Tryz.prog iy [.ptr ba,.agg bd] k fun be z=>∃ bh:AV,∃ bi:Int,be=.aQ [bh,.int .i64 bi]/\(ah n fun bj bk=>nM (ak z bj (bk+2)) fun bl=>bE (ag T ay a1 (.int .i64 b)) fun bm bo=>aS (aD z bm bo 21) fun bs=>aa Tryz.prog gG [.ptr bl,.agg bs] z fun bx b0=>∃ b1:AV,∃ b3:Bool,bx=.aQ [b1,.bool b3]/\(∃ m',m'<x/\m m' [(.int .i64 (IntKind.wrap .i64 (b+1)))] b0)))
 (∃ m',m'<x/\m m' [(.int .i64 (IntKind.wrap .i64 (b+1)))] k)) /\
 (aV .i64 (aL T ay a1 d) fun b4=>af (decide ((b:Int)<b4)) (ah n fun b5 b7=>nM (ak d b5 (b7+2)) fun b8=>bE (ag T ay a1 (.int .i64 b)) fun b9 b'=>aS (aD d b9 b' 21) fun ca=>aa Tryz.prog fX [.ptr b8,.agg ca] d fun cb cc=>∃ F:Bool,cb=.bool F/\(y [.bool F] cc)) (y [.bool false] d))) /\
 (bE (ag T bK a0 (.int .i64 b)) fun cd ce=>aV .i64 (ak c cd ce) fun A=>af ((A:Int)==1)
 (bE (ag T bK a0 (.int .i64 b)) fun cf ch=>CM (ak c cf (ch+2)) fun ci=>bE (ag T bK a0 (.int .i64 b)) fun ck cl=>CM (ak c ck (cl+3)) fun cm=>aa Tryz.prog dg [.ptr n,.str ci,.str cm] c fun cn cp=>∃ cr:Bool,cn=.bool cr/\(j [] cp))
 (af ((A:Int)==2)
 (bE (ag T bK a0 (.int .i64 b)) fun cs cu=>CM (ak c cs (cu+2)) fun cv=>bE (ag T bK a0 (.int .i64 b)) fun cw cx=>CM (ak c cw (cx+3)) fun cy=>aa Tryz.prog gF [.ptr n,.str cv,.str cy] c fun cz cA=>cz=.aQ []/\(j [] cA))
 (af ((A:Int)==3)
 (bE (ag T bK a0 (.int .i64 b)) fun cB cC=>CM (ak c cB (cC+2)) fun c0=>aa Tryz.prog cI [.ptr n,.str c0] c fun c1 c2=>∃ c3:Bool,c1=.bool c3/\(j [] c2))
 (j [] c)))))
 (O [] c)))))) /\
 (aV .i64 (aL T bK a0 s) fun c4=>af (decide ((c4:Int)>60)) (J1 [.bool true] s) (aV .i64 (aL T ay a1 s) fun c5=>af (decide ((c5:Int)>60)) (J1 [.bool true] s) (aa Tryz.prog mV [.str a2] s fun c6 c7=>∃ G:Bool,c6=.bool G/\(J1 [(.bool (!G))] c7))))
def Bk:QA:=(.seq .leaf (.seq (.join [(33,.bool)] [(21,33)] .leaf (.cond (.seq .leaf .leaf) .leaf)) (.seq .leaf (.seq (.seq .leaf (.cond (.seq .leaf .leaf) .leaf)) (.join [] [(9,9),(41,121)] (.seq .leaf (.wrap (.loop [(9,.int .i64)] [(9,9),(41,121)] (.seq (.seq .leaf (.cond .leaf .leaf)) (.seq (.wrap (.join [] [(47,88)] (.seq .leaf (.wrap (.seq .leaf (.cond (.draw 11) (.seq .leaf (.cond (.draw 11) (.seq .leaf (.cond .leaf .leaf)))))))) (.join [(103,.bool)] [(89,103)] (.draw 13) (.cond (.seq (.draw 8) (.draw 8)) .leaf)))) .leaf))))) (.seq .leaf (.seq (.seq .leaf (.cond (.seq .leaf .leaf) .leaf)) (.seq .calm (.seq .leaf (.join [(13,.any)] [(6,6),(13,16),(142,167)] (.seq .leaf (.wrap (.loop [(13,.any),(14,.int .i64)] [(6,6),(13,16),(142,167)] (.seq (.seq .leaf (.cond .leaf .leaf)) (.seq (.wrap (.seq .calm (.seq (.seq .leaf (.cond (.seq .leaf .leaf) .leaf)) .leaf))) .leaf))))) (.seq .calm (.seq (.seq .leaf (.cond (.seq .leaf .leaf) .leaf)) (.seq (.seq .leaf (.wrap (.loop [(19,.int .i64)] [(6,6),(19,20),(198,240)] (.seq (.seq .leaf (.cond .leaf .leaf)) (.seq (.wrap (.join [] [(6,6),(20,20),(204,233)] (.seq .leaf (.wrap (.loop [(20,.int .i64)] [(6,6),(20,20),(206,233)] (.seq (.seq .leaf (.cond .leaf .leaf)) (.seq (.wrap (.seq (.draw 20) (.cond (.seq .leaf .leaf) .leaf))) .leaf))))) (.seq .leaf (.cond (.seq .leaf .leaf) .leaf)))) .leaf))))) (.seq .leaf .leaf))))))))))))))
theorem Bl (a0:AV) (a1:AV) (a2:List UInt8) (s:AS) (R:AV->AS->Prop) (h:Bj a0 a1 a2 s R):aa Tryz.prog mK [a0,a1,.str a2] s R :=
 aa.q (n:=242) (rs:=[.tmp 6]) (A:=Bk) hT bX Tryz.func6 (by kernel_rfl) rfl rfl rfl (by kernel_rfl) (by kernel_rfl) h
end
section
set_option maxRecDepth 100000
set_option maxHeartbeats 4000000
open Go.Am
def zP (a0:Option (Nat×Nat)) (a1:List AV) (s:AS) (R:AV->AS->Prop):Prop :=
 cj a1 (aj (.cells a1 0 false) s fun l1 s2=>aS (aD s2 l1 0 2) fun g3=>aa Tryz.prog sA [.agg g3] s2 fun v4 o=>∃ b6:Bool,v4=.bool b6/\(af (!b6) (R (.bool false) o) (aV .i64 (ak o l1 0) fun n7=>ah a0 fun l8 o9=>aV .i64 (ak o l8 o9) fun A=>af (decide ((n7:Int)>A)) (R (.bool false) o) (CM (ak o l1 2) fun B=>aa Tryz.prog qx [.str B] o fun C bQ=>∃ p:Bool,C=.bool p/\(af (!p) (R (.bool false) bQ) (dn (ak bQ l1 3) fun D=>aV .i64 (aL T av D bQ) fun F=>af (decide ((F:Int)>512)) (R (.bool false) bQ) (dn (ak bQ l1 20) fun G=>aV .i64 (aL T bZ G bQ) fun H=>af (decide ((H:Int)>1024)) (R (.bool false) bQ) (aV .i64 (ak bQ l1 0) fun I=>bE (ag T aX (.ptr (some (l1,4))) (.int .i64 (IntKind.wrap .i64 (I - 1)))) fun J K=>aV .u64 (ak bQ J K) fun L=>aV .u64 (ak bQ l1 1) fun M=>af ((L:Int) != (IntKind.wrap .u64 (M - 1)))
 (R (.bool false) bQ)
 (bt fun r =>
 (∀ en:AS,r [] en ->
 bu fun j O=>j O [.int .i64 0] en /\
 ∀ m:Nat,∀ b:Int,∀ d:AS,j m [.int .i64 b] d ->
 dn (ak d l1 20) fun Q=>aV .i64 (aL T bZ Q d) fun S=>af (decide ((b:Int)<S))
 (dn (ak d l1 20) fun U=>bE (ag T bZ U (.int .i64 b)) fun W X=>aS (aD d W X 2) fun Y=>aa Tryz.prog sA [.agg Y] d fun Z k=>∃ w:Bool,Z=.bool w/\(af (!w) (R (.bool false) k) (dn (ak k l1 20) fun wm=>bE (ag T bZ wm (.int .i64 b)) fun ab ad=>CM (ak k ab (ad+2)) fun ae=>aa Tryz.prog qx [.str ae] k fun al e=>∃ x:Bool,al=.bool x/\(af (!x) (R (.bool false) e) (af (decide ((b:Int)>0)) (dn (ak e l1 20) fun am=>bE (ag T bZ am (.int .i64 (IntKind.wrap .i64 (b - 1)))) fun an ao=>aS (aD e an ao 2) fun ar=>dn (ak e l1 20) fun aw=>bE (ag T bZ aw (.int .i64 b)) fun a2 a3=>aS (aD e a2 a3 2) fun a4=>aa Tryz.prog qy [.agg ar,.agg a4] e fun a5 y=>∃ z:Bool,a5=.bool z/\(af (!z)
 (R (.bool false) y)
 (∃ m',m'<m/\j m' [(.int .i64 (IntKind.wrap .i64 (b+1)))] y))) (∃ m',m'<m/\j m' [(.int .i64 (IntKind.wrap .i64 (b+1)))] e))))))
 (R (.bool true) d)) /\
 (bu fun l a6=>l a6 [.int .i64 0] bQ /\
 ∀ n:Nat,∀ i:Int,∀ c:AS,l n [.int .i64 i] c ->
 af (decide ((i:Int)<16))
 (bE (ag T aX (.ptr (some (l1,4))) (.int .i64 i)) fun a7 a8=>aV .u64 (ak c a7 a8) fun a9=>af (decide ((a9:Int)>4611686018427387904)) (R (.bool false) c) (ah a0 fun a' ba=>aV .i64 (ak c a' ba) fun bb=>af (decide ((i:Int)>=bb)) (bE (ag T aX (.ptr (some (l1,4))) (.int .i64 i)) fun bc bd=>aV .u64 (ak c bc bd) fun be=>af ((be:Int) != 0)
 (R (.bool false) c)
 (∃ m',m'<n/\l m' [(.int .i64 (IntKind.wrap .i64 (i+1)))] c)) (∃ m',m'<n/\l m' [(.int .i64 (IntKind.wrap .i64 (i+1)))] c)))
 (r [] c)))))))))))
def zQ:QA:=(.seq .leaf (.seq (.seq .calm (.cond (.seq .leaf .leaf) .leaf)) (.join [] [(4,5),(53,76)] (.seq .leaf (.wrap (.loop [(5,.int .i64)] [(4,5),(53,76)] (.seq (.seq .leaf (.cond .leaf .leaf)) (.seq (.wrap (.seq .leaf (.cond (.seq .leaf .leaf) .leaf))) .leaf))))) (.seq (.seq .leaf (.wrap (.loop [(6,.int .i64)] [(4,4),(6,6),(77,122)] (.seq (.seq .leaf (.cond .leaf .leaf)) (.seq (.wrap (.seq .calm (.cond (.seq .leaf .leaf) .leaf))) .leaf))))) (.seq .leaf .leaf)))))
theorem zR (a0:Option (Nat×Nat)) (a1:List AV) (s:AS) (R:AV->AS->Prop) (h:zP a0 a1 s R):aa Tryz.prog fX [.ptr a0,.agg a1] s R :=
 aa.q (n:=123) (rs:=[.tmp 4]) (A:=zQ) hT bX Tryz.func29 (by kernel_rfl) rfl rfl rfl (by kernel_rfl) (by kernel_rfl) h
def Mz (a0:List AV) (s:AS) (R:AV->AS->Prop):Prop :=
 cj a0 (aj (.cells a0 0 false) s fun l1 s2=>aV .i64 (ak s2 l1 0) fun b=>af (decide ((b:Int)>=1)) (aV .i64 (ak s2 l1 0) fun c=>af (decide ((c:Int)<=16)) (aV .u64 (ak s2 l1 1) fun d=>af (decide ((d:Int)>=1)) (aV .u64 (ak s2 l1 1) fun e=>R (.bool (decide ((e:Int)<=4611686018427387904))) s2) (R (.bool false) s2)) (R (.bool false) s2)) (R (.bool false) s2))
def MB:QA:=(.seq .leaf (.seq .leaf .leaf))
theorem MC (a0:List AV) (s:AS) (R:AV->AS->Prop) (h:Mz a0 s R):aa Tryz.prog sA [.agg a0] s R :=
 aa.q (n:=21) (rs:=[.tmp 2]) (A:=MB) hT bX Tryz.func99 (by kernel_rfl) rfl rfl rfl (by kernel_rfl) (by kernel_rfl) h
def KJ (a0:List UInt8) (s:AS) (R:AV->AS->Prop):Prop :=
 aV .i64 (aL T cL (.str a0) s) fun b=>af (decide ((b:Int)>=1)) (aV .i64 (aL T cL (.str a0) s) fun n2=>R (.bool (decide ((n2:Int)<=32))) s) (R (.bool false) s)
def KK:QA:=(.seq .leaf (.seq .leaf .leaf))
theorem KL (a0:List UInt8) (s:AS) (R:AV->AS->Prop) (h:KJ a0 s R):aa Tryz.prog qx [.str a0] s R :=
 aa.q (n:=11) (rs:=[.tmp 2]) (A:=KK) hT bX Tryz.func100 (by kernel_rfl) rfl rfl rfl (by kernel_rfl) (by kernel_rfl) h
def KM (a0:List AV) (a1:List AV) (s:AS) (R:AV->AS->Prop):Prop :=
 cj a0 (aj (.cells a0 0 false) s fun l1 s2=>cj a1 (aj (.cells a1 0 false) s2 fun l3 s4=>aV .i64 (ak s4 l1 0) fun c=>aV .i64 (ak s4 l3 0) fun d=>af (decide ((c:Int)<d)) (R (.bool true) s4) (aV .i64 (ak s4 l1 0) fun e=>aV .i64 (ak s4 l3 0) fun i=>af ((e:Int)==i) (aV .u64 (ak s4 l1 1) fun j=>aV .u64 (ak s4 l3 1) fun b=>R (.bool (decide ((j:Int)<b))) s4) (R (.bool false) s4))))
def KN:QA:=(.seq .leaf (.seq .leaf .leaf))
theorem KO (a0:List AV) (a1:List AV) (s:AS) (R:AV->AS->Prop) (h:KM a0 a1 s R):aa Tryz.prog qy [.agg a0,.agg a1] s R :=
 aa.q (n:=24) (rs:=[.tmp 4]) (A:=KN) hT bX Tryz.func101 (by kernel_rfl) rfl rfl rfl (by kernel_rfl) (by kernel_rfl) h
def vA (a0:Option (Nat×Nat)) (a1:List UInt8) (a2:AV) (a3:AV) (s:AS) (R:AV->AS->Prop):Prop :=
 aj (.cells [.int .i64 0,.int .u64 0,.str [],.slc none 0 0 true,.int .u64 0,.int .u64 0,.int .u64 0,.int .u64 0,.int .u64 0,.int .u64 0,.int .u64 0,.int .u64 0,.int .u64 0,.int .u64 0,.int .u64 0,.int .u64 0,.int .u64 0,.int .u64 0,.int .u64 0,.int .u64 0,.slc none 0 0 true] 0 false) s fun l1 s2=>gn fun S V=>ah a0 fun l3 o4=>aV .i64 (ak s2 l3 (o4+1)) fun n5=>ah a0 fun l6 o7=>aV .i64 (ak s2 l6 (o7+1)) fun n8=>ah a0 fun l9 A=>bE (ag T cD (.ptr (some (l9,(A+2)))) (.int .i64 (IntKind.wrap .i64 (n8 - 1)))) fun B C=>aV .u64 (ak s2 B C) fun D=>oq (aY T gM [(0,.int .i64 n5),(1,(.int .u64 (IntKind.wrap .u64 (D+1))))]) fun F=>(∀ fH:AS,Ext s2 fH->aJ fH->(True)->ig (aG T av av (.slc none 0 0 true) a2 fH) fun nO kU=>(Ext fH kU/\S 18 [.slc none 0 0 true,a2] nO kU/\V 18 [.slc none 0 0 true,a2] nO))/\(∃ v,V 18 [.slc none 0 0 true,a2] v)/\∀ d:AV,V 18 [.slc none 0 0 true,a2] d->ah a0 fun AJ G=>aS (aD s2 AJ (G+2) 16) fun H=>(∀ fV:AS,Ext s2 fV->aJ fV->(S 18 [.slc none 0 0 true,a2] d fV/\True)->ig (aG T bZ bZ (.slc none 0 0 true) a3 fV) fun k l=>(Ext fV l/\S 24 [.slc none 0 0 true,a3] k l/\V 24 [.slc none 0 0 true,a3] k))/\(∃ v,V 24 [.slc none 0 0 true,a3] v)/\∀ i:AV,V 24 [.slc none 0 0 true,a3] i->oq (aY T gN [(0,.agg F),(1,.str a1),(2,d),(3,.agg H),(4,i)]) fun m=>(∀ e:AS,Ext s2 e->aJ e->(True)->aj (.cells [.int .i64 0,.int .u64 0,.str [],.slc none 0 0 true,.int .u64 0,.int .u64 0,.int .u64 0,.int .u64 0,.int .u64 0,.int .u64 0,.int .u64 0,.int .u64 0,.int .u64 0,.int .u64 0,.int .u64 0,.int .u64 0,.int .u64 0,.int .u64 0,.int .u64 0,.int .u64 0,.slc none 0 0 true] 0 false) e fun n o=>(Ext e o/\S 26 [] (.ptr (some (n,0))) o/\V 26 [] (.ptr (some (n,0)))))/\(∃ v,V 26 [] v)/\∀ v30:AV,V 26 [] v30->∃ b:Option (Nat×Nat),v30=.ptr b/\(∀ c:AS,Ext s2 c->aJ c->(S 18 [.slc none 0 0 true,a2] d c/\(S 24 [.slc none 0 0 true,a3] i c/\(S 26 [] (.ptr b) c/\True)))->ah b fun I J=>fy (some 21) m (bC (cS c I J m) fun oY=>ah b fun K L=>aS (aD oY K L 21) fun M=>aa Tryz.prog fX [.ptr a0,.agg M] oY fun wm j=>∃ p:Bool,wm=.bool p/\(af (!p)
 (oq (aY T gN []) fun r=>fy (some 21) r (bC (cS j l1 0 r) fun w=>aS (aD w l1 0 21) fun O=>R (.aQ [.agg O,.bool false]) w))
 (ah b fun Q U=>aS (aD j Q U 21) fun W=>aa Tryz.prog ff [.ptr a0,.agg W] j fun X x=>X=.aQ []/\(ah b fun Y Z=>aS (aD x Y Z 21) fun y=>fy (some 21) y (bC (cS x l1 0 y) fun z=>aS (aD z l1 0 21) fun ab=>R (.aQ [.agg ab,.bool true]) z))))))
def vB:QA:=(.seq .leaf (.seq (.iB 27 [[],[],[],[],[],[],[],[],[],[],[],[],[],[],[],[],[],[],[],[],[],[],[],[],[18],[],[]] [18,24,26]) (.seq (.seq .leaf (.cond (.seq .leaf .leaf) .leaf)) (.seq .leaf (.seq .leaf .leaf)))))
theorem vC (a0:Option (Nat×Nat)) (a1:List UInt8) (a2:AV) (a3:AV) (s:AS) (R:AV->AS->Prop) (h:vA a0 a1 a2 a3 s R):aa Tryz.prog bI [.ptr a0,.str a1,a2,a3] s R :=
 aa.q (n:=46) (rs:=[.cell 8 52,.tmp 9]) (A:=vB) hT bX Tryz.func73 (by kernel_rfl) rfl rfl rfl (by kernel_rfl) (by kernel_rfl) h
def zS (a0:Option (Nat×Nat)) (a1:List AV) (s:AS) (R:AV->AS->Prop):Prop :=
 cj a1 (aj (.cells a1 0 false) s fun l1 s2=>bu fun c z=>c z [.int .i64 0] s2 /\
 ∀ d:Nat,∀ b:Int,∀ s7:AS,c d [.int .i64 b] s7 ->
 af (decide ((b:Int)<16))
 (aV .i64 (ak s7 l1 0) fun A=>af ((b:Int)==(IntKind.wrap .i64 (A - 1)))
 (ah a0 fun B e=>bE (ag T cD (.ptr (some (B,(e+2)))) (.int .i64 b)) fun i j=>aV .u64 (ak s7 i j) fun k=>aV .u64 (ak s7 l1 1) fun l=>af ((IntKind.wrap .u64 (k+1):Int) != l)
 (R (.bool false) s7)
 (∃ m',m'<d/\c m' [(.int .i64 (IntKind.wrap .i64 (b+1)))] s7))
 (bE (ag T aX (.ptr (some (l1,4))) (.int .i64 b)) fun m n=>aV .u64 (ak s7 m n) fun o=>ah a0 fun p r=>bE (ag T cD (.ptr (some (p,(r+2)))) (.int .i64 b)) fun w x=>aV .u64 (ak s7 w x) fun y=>af (decide ((o:Int)>y))
 (R (.bool false) s7)
 (∃ m',m'<d/\c m' [(.int .i64 (IntKind.wrap .i64 (b+1)))] s7)))
 (R (.bool true) s7))
def zT:QA:=(.seq .leaf (.seq (.seq .leaf (.wrap (.loop [(5,.int .i64)] [(4,37)] (.seq (.seq .leaf (.cond .leaf .leaf)) (.seq (.wrap (.seq .leaf (.cond (.seq (.draw 10) (.cond (.seq .leaf .leaf) .leaf)) (.seq (.draw 10) (.cond (.seq .leaf .leaf) .leaf))))) .leaf))))) (.seq .leaf .leaf)))
theorem zU (a0:Option (Nat×Nat)) (a1:List AV) (s:AS) (R:AV->AS->Prop) (h:zS a0 a1 s R):aa Tryz.prog iS [.ptr a0,.agg a1] s R :=
 aa.q (n:=38) (rs:=[.tmp 4]) (A:=zT) hT bX Tryz.func107 (by kernel_rfl) rfl rfl rfl (by kernel_rfl) (by kernel_rfl) h
def xQ (a0:Option (Nat×Nat)) (a1:List AV) (s:AS) (R:AV->AS->Prop):Prop :=
 cj a1 (aj (.cells a1 0 false) s fun l1 s2=>aV .i64 (ak s2 l1 0) fun n3=>ah a0 fun l4 o5=>bE (ag T cD (.ptr (some (l4,(o5+2)))) (.int .i64 (IntKind.wrap .i64 (n3 - 1)))) fun l6 o7=>aV .u64 (ak s2 l6 o7) fun n8=>ah a0 fun l9 U=>bE (ag T cD (.ptr (some (l9,(U+2)))) (.int .i64 (IntKind.wrap .i64 (n3 - 1)))) fun W Y=>bC (cS s2 W Y [(.int .u64 (IntKind.wrap .u64 (n8+1)))]) fun bQ=>uc bQ fun X C c S V=>ah a0 fun r w=>(∀ J:AS,X bQ J->aJ J->ah a0 fun Z ab=>(((.ptr (some (Z,ab))):AV)=(.ptr (some (r,w)))))/\(dn (ak bQ r (w+18)) fun v20=>(∀ iF:AS,X bQ iF->aJ iF->dn (ak iF r (w+18)) fun ad=>((ad:AV)=v20))/\(aS (aD bQ l1 0 21) fun i=>(∀ fV:AS,X bQ fV->aJ fV->aS (aD fV l1 0 21) fun ae=>(((.agg ae):AV)=(.agg i)))/\((∀ en:AS,X bQ en->aJ en->(True)->aS (de T ay 1 [(0,.agg i)]) fun al=>aj (.cells al 0 false) en fun K L=>(Ext en L/\S 6 [.agg i] (.slc (some (K,0)) 1 1 true) L/\V 6 [.agg i] (.slc (some (K,0)) 1 1 true)))/\(∃ v,V 6 [.agg i] v)/\∀ b:AV,V 6 [.agg i] b->(∀ k:AS,X bQ k->aJ k->(S 6 [.agg i] b k/\True)->c k->ig (aG T ay ay v20 b k) fun x y=>((X k y/\C 7 [v20,b] x y)/\S 7 [v20,b] x y/\V 7 [v20,b] x))/\(∃ v,V 7 [v20,b] v)/\∀ n:AV,V 7 [v20,b] n->∀ lC:AS,X bQ lC->aJ lC->(S 6 [.agg i] b lC/\(S 7 [v20,b] n lC/\True))->C 7 [v20,b] n lC->ah a0 fun am an=>e_ T ay lC am (an+18) n fun kC=>uc kC fun X C c S V=>ah a0 fun z A=>(∀ M:AS,X kC M->aJ M->ah a0 fun ao ar=>(((.ptr (some (ao,ar))):AV)=(.ptr (some (z,A)))))/\(dn (ak kC z (A+19)) fun e=>(∀ B:AS,X kC B->aJ B->dn (ak B z (A+19)) fun aw=>((aw:AV)=e))/\(ah a0 fun D F=>(∀ uw:AS,X kC uw->aJ uw->ah a0 fun a2 a3=>(((.ptr (some (a2,a3))):AV)=(.ptr (some (D,F)))))/\(aS (aD kC D (F+2) 16) fun j=>(∀ G:AS,X kC G->aJ G->aS (aD G D (F+2) 16) fun a4=>(((.agg a4):AV)=(.agg j)))/\((∀ o:AS,X kC o->aJ o->(True)->aS (de T bz 1 [(0,.agg j)]) fun a5=>aj (.cells a5 0 false) o fun O Q=>(Ext o Q/\S 9 [.agg j] (.slc (some (O,0)) 1 1 true) Q/\V 9 [.agg j] (.slc (some (O,0)) 1 1 true)))/\(∃ v,V 9 [.agg j] v)/\∀ d:AV,V 9 [.agg j] d->(∀ l:AS,X kC l->aJ l->(S 9 [.agg j] d l/\True)->c l->ig (aG T bz bz e d l) fun H I=>((X l I/\C 10 [e,d] H I)/\S 10 [e,d] H I/\V 10 [e,d] H))/\(∃ v,V 10 [e,d] v)/\∀ p:AV,V 10 [e,d] p->∀ m:AS,X kC m->aJ m->(S 9 [.agg j] d m/\(S 10 [e,d] p m/\True))->C 10 [e,d] p m->ah a0 fun a6 a7=>e_ T bz m a6 (a7+19) p fun Bi=>R (.aQ []) Bi))))))))
def xR:QA:=(.seq .leaf (.seq (.draw 12) (.seq (.we [0,1,2,3,4,5,6,7] [8,9,10] [[],[],[],[],[],[],[],[6]] [6,7] [7]) (.we [0,1,2,3,4,5,6,7,8,9,10] [11,12,13] [[],[],[],[],[],[],[],[],[],[],[9]] [9,10] [10]))))
theorem xS (a0:Option (Nat×Nat)) (a1:List AV) (s:AS) (R:AV->AS->Prop) (h:xQ a0 a1 s R):aa Tryz.prog ff [.ptr a0,.agg a1] s R :=
 aa.q (n:=40) (rs:=[]) (A:=xR) hT bX Tryz.func108 (by kernel_rfl) rfl rfl rfl (by kernel_rfl) (by kernel_rfl) h
def xT (a0:Option (Nat×Nat)) (a1:List AV) (s:AS) (R:AV->AS->Prop):Prop :=
 cj a1 (aj (.cells a1 0 false) s fun l1 s2=>aV .u64 (ak s2 l1 1) fun n3=>aV .i64 (ak s2 l1 0) fun n4=>ah a0 fun l5 o6=>bE (ag T cD (.ptr (some (l5,(o6+2)))) (.int .i64 (IntKind.wrap .i64 (n4 - 1)))) fun l7 o8=>aV .u64 (ak s2 l7 o8) fun n9=>af (decide ((n3:Int)<=n9))
 (R (.aQ [.slc none 0 0 true,.bool true]) s2)
 (bt fun I =>
 (∀ C:AS,I [] C ->
 bt fun J =>
 (∀ bQ:AS,J [] bQ ->
 ah a0 fun lN cd=>dn (ak bQ lN (cd+18)) fun nO=>aV .i64 (aL T ay nO bQ) fun ce=>aS (aD bQ l1 0 21) fun cf=>aa Tryz.prog ff [.ptr a0,.agg cf] bQ fun ch gw=>ch=.aQ []/\(bt fun K =>
 (∀ fV:AS,K [] fV ->
 ah a0 fun ci ck=>dn (ak fV ci (ck+18)) fun cl=>dn (bf T ay cl (some (.int .i64 ce)) none none) fun cm=>R (.aQ [cm,.bool true]) fV) /\
 (bu fun p cn=>p cn [.bool true] gw /\
 ∀ D:Nat,∀ L:Bool,∀ mG:AS,p D [.bool L] mG ->
 af L
 (bu fun r cp=>r cp [.bool false,.int .i64 0] mG /\
 ∀ F:Nat,∀ l:Bool,∀ d:Int,∀ kC:AS,r F [.bool l,.int .i64 d] kC ->
 ah a0 fun cr cs=>dn (ak kC cr (cs+20)) fun wm=>aV .i64 (aL T ay wm kC) fun cu=>af (decide ((d:Int)<cu)) (af (!l)
 (ah a0 fun cv cw=>dn (ak kC cv (cw+20)) fun cx=>bE (ag T ay cx (.int .i64 d)) fun cy cz=>aS (aD kC cy cz 21) fun cA=>aa Tryz.prog iS [.ptr a0,.agg cA] kC fun cB rI=>∃ M:Bool,cB=.bool M/\(af M
 (ah a0 fun cC c0=>dn (ak rI cC (c0+20)) fun c1=>bE (ag T ay c1 (.int .i64 d)) fun c2 c3=>aS (aD rI c2 c3 21) fun O=>aj (.cells [.int .i64 0,.int .u64 0,.str [],.slc none 0 0 true,.int .u64 0,.int .u64 0,.int .u64 0,.int .u64 0,.int .u64 0,.int .u64 0,.int .u64 0,.int .u64 0,.int .u64 0,.int .u64 0,.int .u64 0,.int .u64 0,.int .u64 0,.int .u64 0,.int .u64 0,.int .u64 0,.slc none 0 0 true] 0 false) rI fun Q c4=>fy (some 21) O (bC (cS c4 Q 0 O) fun w=>gn fun S V=>ah a0 fun c5 c6=>dn (ak w c5 (c6+20)) fun c7=>dn (bf T ay c7 none (some (.int .i64 d)) none) fun k=>(∀ x:AS,Ext w x->aJ x->(True)->ig (aG T ay ay (.slc none 0 0 true) k x) fun U Bi=>(Ext x Bi/\S 7 [.slc none 0 0 true,k] U Bi/\V 7 [.slc none 0 0 true,k] U))/\(∃ v,V 7 [.slc none 0 0 true,k] v)/\∀ G:AV,V 7 [.slc none 0 0 true,k] G->ah a0 fun c8 c9=>dn (ak w c8 (c9+20)) fun c'=>dn (bf T ay c' (some (.int .i64 (IntKind.wrap .i64 (d+1)))) none none) fun da=>∀ y:AS,Ext w y->aJ y->(S 7 [.slc none 0 0 true,k] G y/\True)->ig (aG T ay ay G da y) fun db dc=>ah a0 fun dd df=>e_ T ay dc dd (df+20) db fun W=>aS (aD W Q 0 21) fun dk=>aa Tryz.prog ff [.ptr a0,.agg dk] W fun dl dm=>dl=.aQ []/\(∃ m',m'<F/\r m' [.bool true,(.int .i64 (IntKind.wrap .i64 (d+1)))] dm)))
 (∃ m',m'<F/\r m' [.bool l,(.int .i64 (IntKind.wrap .i64 (d+1)))] rI)))
 (∃ m',m'<D/\p m' [.bool l] kC)) (∃ m',m'<D/\p m' [.bool l] kC))
 (K [] mG)))) /\
 (aS (aD C l1 0 21) fun dp=>aa Tryz.prog iS [.ptr a0,.agg dp] C fun dr m=>∃ X:Bool,dr=.bool X/\(af (!X)
 (ah a0 fun ds dt=>dn (ak m ds (dt+20)) fun du=>aV .i64 (aL T ay du m) fun dv=>af (decide ((dv:Int)>=256))
 (R (.aQ [.slc none 0 0 true,.bool false]) m)
 (bt fun H =>
 (∀ Y:AV,∀ Z:Int,∀ Xa:AS,H [Y,.int .i64 Z] Xa ->
 aS (aD Xa l1 0 21) fun dy=>aS (de T ay 1 [(0,.agg dy)]) fun dC=>aj (.cells dC 0 false) Xa fun dE dT=>ig (aG T ay ay Y (.slc (some (dE,0)) 1 1 true) dT) fun d' Yv=>ah a0 fun ab ad=>dn (ak Yv ab (ad+20)) fun ae=>dn (bf T ay ae (some (.int .i64 Z)) none none) fun al=>ig (aG T ay ay d' al Yv) fun am an=>ah a0 fun ao ar=>e_ T ay an ao (ar+20) am fun aw=>R (.aQ [.slc none 0 0 true,.bool true]) aw) /\
 (bu fun n a2=>n a2 [.slc none 0 0 true,.int .i64 0] m /\
 ∀ z:Nat,∀ e:AV,∀ c:Int,∀ tI:AS,n z [e,.int .i64 c] tI ->
 ah a0 fun a3 a4=>dn (ak tI a3 (a4+20)) fun a5=>aV .i64 (aL T ay a5 tI) fun a6=>af (decide ((c:Int)<a6)) (ah a0 fun a7 a8=>dn (ak tI a7 (a8+20)) fun a9=>bE (ag T ay a9 (.int .i64 c)) fun a' ba=>aS (aD tI a' ba 2) fun bb=>aS (aD tI l1 0 2) fun bc=>aa Tryz.prog qy [.agg bb,.agg bc] tI fun bd i=>∃ A:Bool,bd=.bool A/\(af A
 (ah a0 fun be bh=>dn (ak i be (bh+20)) fun bi=>bE (ag T ay bi (.int .i64 c)) fun bj bk=>aS (aD i bj bk 21) fun bl=>aS (de T ay 1 [(0,.agg bl)]) fun bm=>aj (.cells bm 0 false) i fun bo bs=>ig (aG T ay ay e (.slc (some (bo,0)) 1 1 true) bs) fun bx b0=>∃ m',m'<z/\n m' [bx,(.int .i64 (IntKind.wrap .i64 (c+1)))] b0)
 (H [e,.int .i64 c] i))) (H [e,.int .i64 c] tI))))
 (J [] m)))) /\
 (bu fun o b1=>o b1 [.int .i64 0] s2 /\
 ∀ B:Nat,∀ j:Int,∀ b:AS,o B [.int .i64 j] b ->
 ah a0 fun b2 b3=>dn (ak b b2 (b3+20)) fun b4=>aV .i64 (aL T ay b4 b) fun b5=>af (decide ((j:Int)<b5))
 (ah a0 fun b6 b7=>dn (ak b b6 (b7+20)) fun b8=>bE (ag T ay b8 (.int .i64 j)) fun b9 b'=>aS (aD b b9 b' 2) fun ca=>aS (aD b l1 0 2) fun cb=>sr (iZ T 100 gM (.agg ca) (.agg cb)) fun cc=>af cc
 (R (.aQ [.slc none 0 0 true,.bool true]) b)
 (∃ m',m'<B/\o m' [(.int .i64 (IntKind.wrap .i64 (j+1)))] b))
 (I [] b))))
def xU:QA:=(.seq .leaf (.seq (.seq (.draw 12) (.cond (.seq .leaf .leaf) .leaf)) (.join [] [(4,6),(26,45)] (.seq .leaf (.wrap (.loop [(6,.int .i64)] [(4,6),(26,45)] (.seq (.seq .leaf (.cond .leaf .leaf)) (.seq (.wrap (.seq (.draw 10) (.cond (.seq .leaf .leaf) .leaf))) .leaf))))) (.join [] [(4,5),(7,8),(46,102)] (.seq .leaf (.cond (.seq (.seq .leaf (.cond (.seq .leaf .leaf) .leaf)) (.seq .leaf (.seq .leaf (.join [(7,.any),(8,.int .i64)] [(7,8),(56,87)] (.wrap (.loop [(7,.any),(8,.int .i64)] [(7,8),(56,87)] (.seq (.seq (.draw 18) (.cond .leaf .leaf)) (.seq (.wrap .leaf) .leaf)))) (.seq .leaf (.seq .leaf (.seq .leaf .leaf))))))) .leaf)) (.seq .leaf (.seq .leaf (.join [] [(10,12),(111,161)] (.seq .leaf (.wrap (.loop [(10,.bool)] [(10,12),(111,161)] (.seq (.seq .leaf (.cond .leaf .leaf)) (.wrap (.seq .leaf (.seq .leaf (.wrap (.loop [(10,.bool),(11,.int .i64)] [(10,12),(112,161)] (.seq (.seq .leaf (.cond .leaf .leaf)) (.seq (.wrap (.seq .leaf (.cond (.seq .leaf (.seq (.Qf [0,1,2,3,4,5,6,7,8,9,10,11,12,13,14] [15,16,17,18] [[],[],[],[],[],[],[],[],[],[],[],[],[],[],[],[],[],[],[]] [7]) (.seq .leaf .leaf))) .leaf))) .leaf))))))))))) (.seq .leaf .leaf))))))))
theorem xV (a0:Option (Nat×Nat)) (a1:List AV) (s:AS) (R:AV->AS->Prop) (h:xT a0 a1 s R):aa Tryz.prog gG [.ptr a0,.agg a1] s R :=
 aa.q (n:=168) (rs:=[.tmp 4,.tmp 5]) (A:=xU) hT bX Tryz.func31 (by kernel_rfl) rfl rfl rfl (by kernel_rfl) (by kernel_rfl) h
def GZ (a0:List AV) (a1:List AV) (s:AS) (R:AV->AS->Prop):Prop :=
 cj a0 (aj (.cells a0 0 false) s fun l1 s2=>cj a1 (aj (.cells a1 0 false) s2 fun l3 s4=>aV .i64 (ak s4 l1 0) fun d=>af (decide ((d:Int)>=1)) (aV .i64 (ak s4 l1 0) fun e=>af (decide ((e:Int)<=16)) (aV .i64 (ak s4 l1 0) fun i=>bE (ag T aX (.ptr (some (l3,4))) (.int .i64 (IntKind.wrap .i64 (i - 1)))) fun j k=>aV .u64 (ak s4 j k) fun b=>aV .u64 (ak s4 l1 1) fun c=>R (.bool (decide ((b:Int)>=c))) s4) (R (.bool false) s4)) (R (.bool false) s4)))
def G0:QA:=(.seq .leaf (.seq (.draw 21) .leaf))
theorem G7 (a0:List AV) (a1:List AV) (s:AS) (R:AV->AS->Prop) (h:GZ a0 a1 s R):aa Tryz.prog rB [.agg a0,.agg a1] s R :=
 aa.q (n:=28) (rs:=[.tmp 4]) (A:=G0) hT bX Tryz.func32 (by kernel_rfl) rfl rfl rfl (by kernel_rfl) (by kernel_rfl) h
def C4 (a0:Option (Nat×Nat)) (a1:Int) (s:AS) (R:AV->AS->Prop):Prop :=
 ah a0 fun l1 o2=>bE (ag T cD (.ptr (some (l1,o2))) (.int .i64 (IntKind.wrap .i64 (a1 - 1)))) fun l3 L=>aV .u64 (ak s l3 L) fun M=>bu fun i O=>i O [.int .u64 M,.int .i64 0] s /\
 ∀ k:Nat,∀ j:Int,∀ c:Int,∀ b:AS,i k [.int .u64 j,.int .i64 c] b ->
 ah a0 fun qY l=>dn (ak b qY (l+16)) fun m=>aV .i64 (aL T aC m b) fun n=>af (decide ((c:Int)<n))
 (bt fun d =>
 (∀ e:Bool,∀ eH:AS,d [.bool e] eH ->
 af e
 (ah a0 fun AJ o=>dn (ak eH AJ (o+16)) fun p=>bE (ag T aC p (.int .i64 c)) fun r w=>aV .u64 (ak eH r (w+1)) fun x=>∃ m',m'<k/\i m' [.int .u64 x,(.int .i64 (IntKind.wrap .i64 (c+1)))] eH)
 (∃ m',m'<k/\i m' [.int .u64 j,(.int .i64 (IntKind.wrap .i64 (c+1)))] eH)) /\
 (ah a0 fun y z=>dn (ak b y (z+16)) fun A=>bE (ag T aC A (.int .i64 c)) fun B C=>aV .i64 (ak b B C) fun D=>af ((D:Int)==a1) (ah a0 fun F G=>dn (ak b F (G+16)) fun H=>bE (ag T aC H (.int .i64 c)) fun I J=>aV .u64 (ak b I (J+1)) fun K=>d [(.bool (decide ((K:Int)>j)))] b) (d [.bool false] b)))
 (R (.int .u64 j) b)
def C5:QA:=(.seq .leaf (.seq .leaf (.seq (.seq .leaf (.wrap (.loop [(5,.int .u64),(6,.int .i64)] [(5,6),(14,52)] (.seq (.seq .leaf (.cond .leaf .leaf)) (.seq (.wrap (.join [(44,.bool)] [(23,44)] .leaf (.cond .leaf .leaf))) .leaf))))) (.seq .leaf .leaf))))
theorem C6 (a0:Option (Nat×Nat)) (a1:Int) (s:AS) (R:AV->AS->Prop) (h:C4 a0 a1 s R):aa Tryz.prog oB [.ptr a0,.int .i64 a1] s R :=
 aa.q (n:=54) (rs:=[.tmp 4]) (A:=C5) hT bX Tryz.func67 (by kernel_rfl) rfl rfl rfl (by kernel_rfl) (by kernel_rfl) h
end
section
set_option maxRecDepth 100000
set_option maxHeartbeats 4000000
open Go.Am
def OQ (a0:Int) (a1:Int) (s:AS) (R:AV->AS->Prop):Prop :=
 bt fun b =>
 (∀ c:Bool,∀ s3:AS,b [.bool c] s3 ->
 af c
 (R (.aQ [.ptr none,.int .i64 2]) s3)
 (aj (.map [] 0 false) s3 fun e i=>oq (aY T tE [(0,.int .i64 a0),(1,.int .i64 a1),(5,(.map (some e)))]) fun d=>cj d (aj (.cells d 0 false) i fun j s8=>R (.aQ [(.ptr (some (j,0))),.int .i64 0]) s8))) /\
 (af (decide ((a0:Int)<1)) (b [.bool true] s) (af (decide ((a0:Int)>16)) (b [.bool true] s) (af (decide ((a1:Int)<1)) (b [.bool true] s) (b [(.bool (decide ((a1:Int)>a0)))] s))))
def OR:QA:=(.seq .leaf (.seq (.join [(20,.bool)] [(6,20)] .leaf (.cond (.seq .leaf .leaf) .leaf)) (.seq .leaf .leaf)))
theorem OS (a0:Int) (a1:Int) (s:AS) (R:AV->AS->Prop) (h:OQ a0 a1 s R):aa Tryz.prog zI [.int .i64 a0,.int .i64 a1] s R :=
 aa.q (n:=26) (rs:=[.tmp 4,.tmp 5]) (A:=OR) hT bX Tryz.func66 (by kernel_rfl) rfl rfl rfl (by kernel_rfl) (by kernel_rfl) h
def wB (a0:Option (Nat×Nat)) (a1:List UInt8) (a2:AV) (a3:AV) (s:AS) (R:AV->AS->Prop):Prop :=
 aj (.cells [.int .i64 0,.int .u64 0,.str [],.slc none 0 0 true,.int .u64 0,.int .u64 0,.int .u64 0,.int .u64 0,.int .u64 0,.int .u64 0,.int .u64 0,.int .u64 0,.int .u64 0,.int .u64 0,.int .u64 0,.int .u64 0,.int .u64 0,.int .u64 0,.int .u64 0,.int .u64 0,.slc none 0 0 true] 0 false) s fun l1 s2=>aa Tryz.prog dH [.ptr a0] s2 fun v3 s4=>∃ b5:Bool,v3=.bool b5/\(af (!b5)
 (oq (aY T gN []) fun g6=>fy (some 21) g6 (bC (cS s4 l1 0 g6) fun s7=>aS (aD s7 l1 0 21) fun g8=>R (.aQ [.agg g8,.int .i64 1]) s7))
 (gn fun S V=>ah a0 fun l9 H=>aV .i64 (ak s4 l9 (H+1)) fun I=>ah a0 fun qY J=>aV .i64 (ak s4 qY (J+1)) fun K=>ah a0 fun L M=>bE (ag T aX (.ptr (some (L,(M+2)))) (.int .i64 (IntKind.wrap .i64 (K - 1)))) fun O Q=>aV .u64 (ak s4 O Q) fun U=>oq (aY T gM [(0,.int .i64 I),(1,(.int .u64 (IntKind.wrap .u64 (U+1))))]) fun W=>ah a0 fun X Y=>aS (aD s4 X (Y+2) 16) fun Z=>oq (aY T gN [(0,.agg W),(1,.str a1),(2,a2),(3,.agg Z),(4,a3)]) fun o=>(∀ en:AS,Ext s4 en->aJ en->(True)->aj (.cells [.int .i64 0,.int .u64 0,.str [],.slc none 0 0 true,.int .u64 0,.int .u64 0,.int .u64 0,.int .u64 0,.int .u64 0,.int .u64 0,.int .u64 0,.int .u64 0,.int .u64 0,.int .u64 0,.int .u64 0,.int .u64 0,.int .u64 0,.int .u64 0,.int .u64 0,.int .u64 0,.slc none 0 0 true] 0 false) en fun p r=>(Ext en r/\S 24 [] (.ptr (some (p,0))) r/\V 24 [] (.ptr (some (p,0)))))/\(∃ v,V 24 [] v)/\∀ w:AV,V 24 [] w->∃ b:Option (Nat×Nat),w=.ptr b/\(∀ e:AS,Ext s4 e->aJ e->(S 24 [] (.ptr b) e/\True)->ah b fun ab ad=>fy (some 21) o (bC (cS e ab ad o) fun lC=>ah b fun ae al=>aV .u64 (ak lC ae (al+1)) fun x=>bt fun l =>
 (∀ m:AS,l [] m ->
 ah b fun am an=>aS (aD m am an 21) fun ao=>aa Tryz.prog jL [.ptr a0,.agg ao] m fun ar i=>∃ y:Bool,ar=.bool y/\(af (!y)
 (oq (aY T gN []) fun z=>fy (some 21) z (bC (cS i l1 0 z) fun A=>aS (aD A l1 0 21) fun aw=>R (.aQ [.agg aw,.int .i64 2]) A))
 (af (decide ((x:Int)>4611686018427387904))
 (oq (aY T gN []) fun B=>fy (some 21) B (bC (cS i l1 0 B) fun C=>aS (aD C l1 0 21) fun a4=>R (.aQ [.agg a4,.int .i64 5]) C))
 (ah b fun a5 a6=>aS (aD i a5 a6 21) fun a7=>aa Tryz.prog bS [.agg a7] i fun a8 a9=>∃ D:List AV,a8=.agg D/\(aa Tryz.prog fJ [.ptr a0,.agg D] a9 fun a' F=>a'=.aQ []/\(ah b fun ba bb=>aS (aD F ba bb 21) fun bc=>aa Tryz.prog bS [.agg bc] F fun bd be=>∃ n:List AV,bd=.agg n/\(fy (some 21) n (bC (cS be l1 0 n) fun Bi=>aS (aD Bi l1 0 21) fun bh=>R (.aQ [.agg bh,.int .i64 0]) Bi)))))))) /\
 (af (decide ((x:Int)>4611686018427387904))
 (gn fun S V=>ah a0 fun bi bj=>aV .i64 (ak lC bi (bj+1)) fun bk=>ah b fun c d=>(∀ j:AS,Ext lC j->aJ j->(True)->bC (cS j c (d+1) [.int .u64 1]) fun W_=>(Ext j W_/\S 7 [(.ptr (some (c,(d+1)))),.int .u64 1] (.aQ []) W_/\V 7 [(.ptr (some (c,(d+1)))),.int .u64 1] (.aQ [])))/\(∃ v,V 7 [(.ptr (some (c,(d+1)))),.int .u64 1] v)/\∀ G:AV,V 7 [(.ptr (some (c,(d+1)))),.int .u64 1] G->G=.aQ []/\(ah b fun bl bm=>∀ k:AS,Ext lC k->aJ k->(S 7 [(.ptr (some (c,(d+1)))),.int .u64 1] (.aQ []) k/\True)->bE (ag T aX (.ptr (some (bl,(bm+4)))) (.int .i64 (IntKind.wrap .i64 (bk - 1)))) fun bo bs=>bC (cS k bo bs [.int .u64 0]) fun bx=>l [] bx))
 (l [] lC))))))
def wC:QA:=(.seq .leaf (.seq (.seq .leaf (.cond (.seq .leaf .leaf) .leaf)) (.seq (.iB 25 [[],[],[],[],[],[],[],[],[],[],[],[],[],[],[],[],[],[],[],[],[],[],[],[],[]] [24]) (.seq .leaf (.join [] [(44,53)] (.seq .leaf (.cond (.iB 9 [[],[],[],[],[],[],[],[],[]] [7]) .leaf)) (.seq (.wrap (.seq .leaf (.cond (.seq .leaf .leaf) (.seq .leaf (.cond (.seq .leaf .leaf) .leaf))))) (.seq .leaf (.seq .leaf .leaf))))))))
theorem wD (a0:Option (Nat×Nat)) (a1:List UInt8) (a2:AV) (a3:AV) (s:AS) (R:AV->AS->Prop) (h:wB a0 a1 a2 a3 s R):aa Tryz.prog bM [.ptr a0,.str a1,a2,a3] s R :=
 aa.q (n:=69) (rs:=[.cell 8 52,.tmp 9]) (A:=wC) hT bX Tryz.func71 (by kernel_rfl) rfl rfl rfl (by kernel_rfl) (by kernel_rfl) h
def zV (a0:Option (Nat×Nat)) (s:AS) (R:AV->AS->Prop):Prop :=
 aa Tryz.prog dH [.ptr a0] s fun D s2=>∃ B:Bool,D=.bool B/\(af (!B)
 (R (.ptr none) s2)
 (ah a0 fun F G=>aS (aD s2 F G 21) fun C=>aj (.cells [.int .i64 0,.int .i64 0,.int .u64 0,.int .u64 0,.int .u64 0,.int .u64 0,.int .u64 0,.int .u64 0,.int .u64 0,.int .u64 0,.int .u64 0,.int .u64 0,.int .u64 0,.int .u64 0,.int .u64 0,.int .u64 0,.int .u64 0,.int .u64 0,.slc none 0 0 true,.slc none 0 0 true,.map none] 0 false) s2 fun i s8=>fy (some 21) C (bC (cS s8 i 0 C) fun s9=>gn fun S V=>ah a0 fun nN m=>dn (ak s9 nN (m+18)) fun b=>(∀ bQ:AS,Ext s9 bQ->aJ bQ->(True)->aa Tryz.prog bw [b] bQ fun j fH=>(Ext bQ fH/\S 4 [(.func bw []),b] j fH/\V 4 [(.func bw []),b] j))/\(∃ v,V 4 [(.func bw []),b] v)/\∀ nO:AV,V 4 [(.func bw []),b] nO->ah a0 fun n o=>dn (ak s9 n (o+19)) fun c=>(∀ gw:AS,Ext s9 gw->aJ gw->(S 4 [(.func bw []),b] nO gw/\True)->aa Tryz.prog bA [c] gw fun k fV=>(Ext gw fV/\S 9 [(.func bA []),c] k fV/\V 9 [(.func bA []),c] k))/\(∃ v,V 9 [(.func bA []),c] v)/\∀ e:AV,V 9 [(.func bA []),c] e->ah a0 fun p r=>wN (ak s9 p (r+20)) fun w=>∀ d:AS,Ext s9 d->aJ d->(S 4 [(.func bw []),b] nO d/\(S 9 [(.func bA []),c] e d/\True))->aa Tryz.prog fQ [.map w] d fun x y=>∃ l:Option Nat,x=.map l/\(e_ T ay y i 18 nO fun z=>e_ T bz z i 19 e fun A=>bC (cS A i 20 [.map l]) fun lC=>R (.ptr (some (i,0))) lC))))
def zW:QA:=(.seq .leaf (.seq (.seq .leaf (.cond (.seq .leaf .leaf) .leaf)) (.seq .leaf (.seq (.iB 14 [[],[],[],[],[],[],[],[],[],[4],[],[],[],[]] [4,9]) (.seq .leaf .leaf)))))
theorem zX (a0:Option (Nat×Nat)) (s:AS) (R:AV->AS->Prop) (h:zV a0 s R):aa Tryz.prog fY [.ptr a0] s R :=
 aa.q (n:=28) (rs:=[.tmp 2]) (A:=zW) hT bX Tryz.func77 (by kernel_rfl) rfl rfl rfl (by kernel_rfl) (by kernel_rfl) h
def yN (a0:Option (Nat×Nat)) (s:AS) (R:AV->AS->Prop):Prop :=
 sr (iZ T 100 jh (.ptr a0) (.ptr none)) fun b=>af (!b) (ah a0 fun c d=>wN (ak s c (d+20)) fun e=>sr (iZ T 100 cU (.map e) (.map none)) fun i=>R (.bool (!i)) s) (R (.bool false) s)
def yO:QA:=(.seq .leaf (.seq .leaf .leaf))
theorem yP (a0:Option (Nat×Nat)) (s:AS) (R:AV->AS->Prop) (h:yN a0 s R):aa Tryz.prog dH [.ptr a0] s R :=
 aa.q (n:=12) (rs:=[.tmp 2]) (A:=yO) hT bX Tryz.func84 (by kernel_rfl) rfl rfl rfl (by kernel_rfl) (by kernel_rfl) h
def Bm (a0:Option (Nat×Nat)) (s:AS) (R:AV->AS->Prop):Prop :=
 aa Tryz.prog dH [.ptr a0] s fun c s2=>∃ b:Bool,c=.bool b/\(af (!b)
 (R (.int .i64 0) s2)
 (ah a0 fun d e=>dn (ak s2 d (e+18)) fun i=>aV .i64 (aL T ay i s2) fun j=>R (.int .i64 j) s2))
def Bn:QA:=(.seq .leaf (.seq (.seq .leaf (.cond (.seq .leaf .leaf) .leaf)) (.seq .leaf .leaf)))
theorem Bo (a0:Option (Nat×Nat)) (s:AS) (R:AV->AS->Prop) (h:Bm a0 s R):aa Tryz.prog mU [.ptr a0] s R :=
 aa.q (n:=11) (rs:=[.tmp 2]) (A:=Bn) hT bX Tryz.func22 (by kernel_rfl) rfl rfl rfl (by kernel_rfl) (by kernel_rfl) h
def Bp (a0:Option (Nat×Nat)) (a1:List AV) (s:AS) (R:AV->AS->Prop):Prop :=
 cj a1 (aj (.cells a1 0 false) s fun l1 s2=>aS (aD s2 l1 0 21) fun B=>aa Tryz.prog xE [.agg B] s2 fun C b=>∃ A:Bool,C=.bool A/\(af (!A) (R (.bool false) b) (aV .i64 (ak b l1 0) fun D=>ah a0 fun F G=>aV .i64 (ak b F G) fun j=>af (decide ((D:Int)>j)) (R (.bool false) b) (aV .i64 (ak b l1 0) fun k=>bE (ag T aX (.ptr (some (l1,4))) (.int .i64 (IntKind.wrap .i64 (k - 1)))) fun qY l=>aV .u64 (ak b qY l) fun m=>aV .u64 (ak b l1 1) fun n=>af ((m:Int) != (IntKind.wrap .u64 (n - 1)))
 (R (.bool false) b)
 (ah a0 fun qZ o=>aV .i64 (ak b qZ o) fun p=>dn (bf T aX (.ptr (some (l1,4))) (some (.int .i64 p)) none none) fun e=>aV .i64 (aL T fF e b) fun r=>bu fun d w=>d w [.int .i64 0] b /\
 ∀ i:Nat,∀ c:Int,∀ en:AS,d i [.int .i64 c] en ->
 af (decide ((c:Int)<r))
 (bE (ag T fF e (.int .i64 c)) fun x y=>aV .u64 (ak en x y) fun z=>af ((z:Int) != 0)
 (R (.bool false) en)
 (∃ m',m'<i/\d m' [(.int .i64 (IntKind.wrap .i64 (c+1)))] en))
 (R (.bool true) en))))))
def Bq:QA:=(.seq .leaf (.seq (.seq .calm (.cond (.seq .leaf .leaf) .leaf)) (.seq (.seq .leaf (.wrap (.loop [(41,.int .i64)] [(4,4),(6,6),(41,47)] (.seq .leaf (.seq (.cond .leaf .leaf) (.seq (.wrap (.seq .leaf (.seq .leaf (.cond (.seq .leaf .leaf) .leaf)))) .leaf)))))) (.seq .leaf .leaf))))
theorem Br (a0:Option (Nat×Nat)) (a1:List AV) (s:AS) (R:AV->AS->Prop) (h:Bp a0 a1 s R):aa Tryz.prog jL [.ptr a0,.agg a1] s R :=
 aa.q (n:=48) (rs:=[.tmp 4]) (A:=Bq) hT bX Tryz.func102 (by kernel_rfl) rfl rfl rfl (by kernel_rfl) (by kernel_rfl) h
def Bs (a0:Option (Nat×Nat)) (a1:List AV) (s:AS) (R:AV->AS->Prop):Prop :=
 cj a1 (aj (.cells a1 0 false) s fun l1 s2=>aV .u64 (ak s2 l1 1) fun r=>aV .i64 (ak s2 l1 0) fun w=>ah a0 fun x y=>bE (ag T aX (.ptr (some (x,(y+2)))) (.int .i64 (IntKind.wrap .i64 (w - 1)))) fun z A=>aV .u64 (ak s2 z A) fun B=>af ((r:Int) != (IntKind.wrap .u64 (B+1)))
 (R (.bool false) s2)
 (aS (aD s2 l1 4 16) fun e=>bu fun c i=>c i [.int .i64 0] s2 /\
 ∀ d:Nat,∀ b:Int,∀ fH:AS,c d [.int .i64 b] fH ->
 af (decide ((b:Int)<16))
 (aV .u64 (ju T aX (.agg e) (.int .i64 b)) fun j=>aV .i64 (ak fH l1 0) fun k=>af ((b:Int) != (IntKind.wrap .i64 (k - 1))) (ah a0 fun l m=>bE (ag T aX (.ptr (some (l,(m+2)))) (.int .i64 b)) fun n o=>aV .u64 (ak fH n o) fun p=>af (decide ((j:Int)>p))
 (R (.bool false) fH)
 (∃ m',m'<d/\c m' [(.int .i64 (IntKind.wrap .i64 (b+1)))] fH)) (∃ m',m'<d/\c m' [(.int .i64 (IntKind.wrap .i64 (b+1)))] fH))
 (R (.bool true) fH)))
def Bt:QA:=(.seq .leaf (.seq (.seq (.draw 13) (.cond (.seq .leaf .leaf) .leaf)) (.seq (.seq .leaf (.wrap (.loop [(23,.int .i64)] [(4,6),(23,43)] (.seq .leaf (.seq (.cond .leaf .leaf) (.seq (.wrap (.seq .leaf (.seq .leaf (.cond (.seq .leaf .leaf) .leaf)))) .leaf)))))) (.seq .leaf .leaf))))
theorem Bu (a0:Option (Nat×Nat)) (a1:List AV) (s:AS) (R:AV->AS->Prop) (h:Bs a0 a1 s R):aa Tryz.prog jM [.ptr a0,.agg a1] s R :=
 aa.q (n:=44) (rs:=[.tmp 4]) (A:=Bt) hT bX Tryz.func103 (by kernel_rfl) rfl rfl rfl (by kernel_rfl) (by kernel_rfl) h
def KP (a0:List AV) (s:AS) (R:AV->AS->Prop):Prop :=
 cj a0 (aj (.cells a0 0 false) s fun l1 s2=>aj (.cells [.int .i64 0,.int .u64 0,.str [],.slc none 0 0 true,.int .u64 0,.int .u64 0,.int .u64 0,.int .u64 0,.int .u64 0,.int .u64 0,.int .u64 0,.int .u64 0,.int .u64 0,.int .u64 0,.int .u64 0,.int .u64 0,.int .u64 0,.int .u64 0,.int .u64 0,.int .u64 0,.slc none 0 0 true] 0 false) s2 fun l3 s4=>gn fun S V=>dn (ak s4 l1 3) fun c=>(∀ s6:AS,Ext s4 s6->aJ s6->(True)->aa Tryz.prog aZ [c] s6 fun l s8=>(Ext s6 s8/\S 2 [(.func aZ []),c] l s8/\V 2 [(.func aZ []),c] l))/\(∃ v,V 2 [(.func aZ []),c] v)/\∀ j:AV,V 2 [(.func aZ []),c] j->dn (ak s4 l1 20) fun v10=>(∀ b:AS,Ext s4 b->aJ b->(S 2 [(.func aZ []),c] j b/\True)->aa Tryz.prog bH [v10] b fun e bQ=>(Ext b bQ/\S 5 [(.func bH []),v10] e bQ/\V 5 [(.func bH []),v10] e))/\(∃ v,V 5 [(.func bH []),v10] v)/\∀ d:AV,V 5 [(.func bH []),v10] d->∀ fH:AS,Ext s4 fH->aJ fH->(S 2 [(.func aZ []),c] j fH/\(S 5 [(.func bH []),v10] d fH/\True))->e_ T av fH l1 3 j fun kU=>e_ T bZ kU l1 20 d fun eH=>aS (aD eH l1 0 21) fun i=>fy (some 21) i (bC (cS eH l3 0 i) fun gw=>aS (aD gw l3 0 21) fun k=>R (.agg k) gw))
def KQ:QA:=(.seq .leaf (.seq (.iB 7 [[],[],[],[],[],[2],[]] [2,5]) (.seq .leaf .leaf)))
theorem KR (a0:List AV) (s:AS) (R:AV->AS->Prop) (h:KP a0 s R):aa Tryz.prog bS [.agg a0] s R :=
 aa.q (n:=12) (rs:=[.cell 2 52]) (A:=KQ) hT bX Tryz.func104 (by kernel_rfl) rfl rfl rfl (by kernel_rfl) (by kernel_rfl) h
def yQ (a0:Option (Nat×Nat)) (a1:List AV) (s:AS) (R:AV->AS->Prop):Prop :=
 cj a1 (aj (.cells a1 0 false) s fun l1 s2=>aV .i64 (ak s2 l1 0) fun n3=>ah a0 fun l4 o5=>bE (ag T aX (.ptr (some (l4,(o5+2)))) (.int .i64 (IntKind.wrap .i64 (n3 - 1)))) fun l6 o7=>aV .u64 (ak s2 l6 o7) fun n8=>ah a0 fun l9 W=>bE (ag T aX (.ptr (some (l9,(W+2)))) (.int .i64 (IntKind.wrap .i64 (n3 - 1)))) fun Y Z=>bC (cS s2 Y Z [(.int .u64 (IntKind.wrap .u64 (n8+1)))]) fun bQ=>uc bQ fun X C c S V=>ah a0 fun p r=>(∀ I:AS,X bQ I->aJ I->ah a0 fun ab ad=>(((.ptr (some (ab,ad))):AV)=(.ptr (some (p,r)))))/\(dn (ak bQ p (r+18)) fun v20=>(∀ iF:AS,X bQ iF->aJ iF->dn (ak iF p (r+18)) fun ae=>((ae:AV)=v20))/\(aS (aD bQ l1 0 21) fun e=>(∀ fV:AS,X bQ fV->aJ fV->aS (aD fV l1 0 21) fun al=>(((.agg al):AV)=(.agg e)))/\((∀ en:AS,X bQ en->aJ en->(True)->aS (de T ay 1 [(0,.agg e)]) fun am=>aj (.cells am 0 false) en fun J K=>(Ext en K/\S 7 [.agg e] (.slc (some (J,0)) 1 1 true) K/\V 7 [.agg e] (.slc (some (J,0)) 1 1 true)))/\(∃ v,V 7 [.agg e] v)/\∀ b:AV,V 7 [.agg e] b->(∀ l:AS,X bQ l->aJ l->(S 7 [.agg e] b l/\True)->c l->ig (aG T ay ay v20 b l) fun w x=>((X l x/\C 8 [v20,b] w x)/\S 8 [v20,b] w x/\V 8 [v20,b] w))/\(∃ v,V 8 [v20,b] v)/\∀ m:AV,V 8 [v20,b] m->ah a0 fun y z=>(∀ lC:AS,X bQ lC->aJ lC->ah a0 fun an ao=>(((.ptr (some (an,ao))):AV)=(.ptr (some (y,z)))))/\(dn (ak bQ y (z+19)) fun wm=>(∀ A:AS,X bQ A->aJ A->dn (ak A y (z+19)) fun ar=>((ar:AV)=wm))/\(ah a0 fun B D=>(∀ L:AS,X bQ L->aJ L->ah a0 fun aw a2=>(((.ptr (some (aw,a2))):AV)=(.ptr (some (B,D)))))/\(aS (aD bQ B (D+2) 16) fun i=>(∀ F:AS,X bQ F->aJ F->aS (aD F B (D+2) 16) fun a3=>(((.agg a3):AV)=(.agg i)))/\((∀ n:AS,X bQ n->aJ n->(True)->aS (de T bz 1 [(0,.agg i)]) fun a4=>aj (.cells a4 0 false) n fun M FN=>(Ext n FN/\S 17 [.agg i] (.slc (some (M,0)) 1 1 true) FN/\V 17 [.agg i] (.slc (some (M,0)) 1 1 true)))/\(∃ v,V 17 [.agg i] v)/\∀ d:AV,V 17 [.agg i] d->(∀ j:AS,X bQ j->aJ j->(S 7 [.agg e] b j/\(S 8 [v20,b] m j/\(S 17 [.agg i] d j/\True)))->C 8 [v20,b] m j->ig (aG T bz bz wm d j) fun G H=>((X j H/\C 18 [wm,d] G H)/\S 18 [wm,d] G H/\V 18 [wm,d] G))/\(∃ v,V 18 [wm,d] v)/\∀ o:AV,V 18 [wm,d] o->ah a0 fun O Q=>(∀ U:AS,X bQ U->aJ U->ah a0 fun a5 a6=>(((.ptr (some (a5,a6))):AV)=(.ptr (some (O,Q)))))/\(∀ k:AS,X bQ k->aJ k->(S 7 [.agg e] b k/\(S 8 [v20,b] m k/\(S 17 [.agg i] d k/\(S 18 [wm,d] o k/\True))))->C 18 [wm,d] o k->e_ T ay k O (Q+18) m fun a7=>ah a0 fun a8 a9=>e_ T bz a7 a8 (a9+19) o fun Tz=>R (.aQ []) Tz)))))))))
def yR:QA:=(.seq .leaf (.seq (.draw 12) (.we [0,1,2,3,4,5,6,7,8,9,10,11,12,13,14,15,16,17,18,19,20] [21,22,23,24] [[],[],[],[],[],[],[],[],[7],[],[],[],[],[],[],[],[],[],[7,8,17],[],[],[],[],[],[]] [7,8,17,18] [8,18])))
theorem yS (a0:Option (Nat×Nat)) (a1:List AV) (s:AS) (R:AV->AS->Prop) (h:yQ a0 a1 s R):aa Tryz.prog fJ [.ptr a0,.agg a1] s R :=
 aa.q (n:=40) (rs:=[]) (A:=yR) hT bX Tryz.func105 (by kernel_rfl) rfl rfl rfl (by kernel_rfl) (by kernel_rfl) h
def OT (a0:AV) (s:AS) (R:AV->AS->Prop):Prop :=
 aa Tryz.prog fh [a0] s fun d s2=>aV .i64 (aL T ay d s2) fun o=>bu fun e p=>e p [.int .i64 0] s2 /\
 ∀ n:Nat,∀ c:Int,∀ s8:AS,e n [.int .i64 c] s8 ->
 af (decide ((c:Int)<o))
 (bE (ag T ay d (.int .i64 c)) fun r i=>aS (aD s8 r i 21) fun j=>aa Tryz.prog bS [.agg j] s8 fun k bQ=>∃ b:List AV,k=.agg b/\(bE (ag T ay d (.int .i64 c)) fun l m=>fy (some 21) b (bC (cS bQ l m b) fun kU=>∃ m',m'<n/\e m' [(.int .i64 (IntKind.wrap .i64 (c+1)))] kU)))
 (R d s8)
def OU:QA:=(.seq .leaf (.seq .leaf (.seq (.seq .leaf (.wrap (.loop [(9,.int .i64)] [(4,4),(9,20)] (.seq .leaf (.seq (.cond .leaf .leaf) (.seq (.wrap (.seq .leaf .leaf)) .leaf)))))) (.seq .leaf .leaf))))
theorem OV (a0:AV) (s:AS) (R:AV->AS->Prop) (h:OT a0 s R):aa Tryz.prog zJ [a0] s R :=
 aa.q (n:=22) (rs:=[.tmp 2]) (A:=OU) hT bX Tryz.func106 (by kernel_rfl) rfl rfl rfl (by kernel_rfl) (by kernel_rfl) h
def yT (a0:Option (Nat×Nat)) (a1:List AV) (s:AS) (R:AV->AS->Prop):Prop :=
 cj a1 (aj (.cells a1 0 false) s fun l1 s2=>aa Tryz.prog dH [.ptr a0] s2 fun v3 s4=>∃ b5:Bool,v3=.bool b5/\(af (!b5)
 (R (.aQ [.slc none 0 0 true,.int .i64 1]) s4)
 (aS (aD s4 l1 0 21) fun g6=>aa Tryz.prog jL [.ptr a0,.agg g6] s4 fun v7 s8=>∃ b9:Bool,v7=.bool b9/\(af (!b9)
 (R (.aQ [.slc none 0 0 true,.int .i64 2]) s8)
 (ah a0 fun nN ad=>wN (ak s8 nN (ad+20)) fun ae=>aS (aD s8 l1 0 2) fun al=>∃ n:List AV,∃ B:Bool,dA T cU (.map ae) (.agg al) true s8=some (.aQ [.agg n,.bool B])/\(aj (.cells [.int .i64 0,.int .u64 0,.str [],.slc none 0 0 true,.int .u64 0,.int .u64 0,.int .u64 0,.int .u64 0,.int .u64 0,.int .u64 0,.int .u64 0,.int .u64 0,.int .u64 0,.int .u64 0,.int .u64 0,.int .u64 0,.int .u64 0,.int .u64 0,.int .u64 0,.int .u64 0,.slc none 0 0 true] 0 false) s8 fun qZ kU=>fy (some 21) n (bC (cS kU qZ 0 n) fun eH=>bt fun o =>
 (∀ C:Bool,∀ gl:AS,o [.bool C] gl ->
 af C
 (R (.aQ [.slc none 0 0 true,.int .i64 0]) gl)
 (aS (aD gl l1 0 21) fun am=>aa Tryz.prog jM [.ptr a0,.agg am] gl fun an b=>∃ D:Bool,an=.bool D/\(af (!D)
 (ah a0 fun ao ar=>wN (ak b ao (ar+20)) fun aw=>aV .i64 (aL T cU (.map aw) b) fun a2=>af (decide ((a2:Int)>=256))
 (R (.aQ [.slc none 0 0 true,.int .i64 5]) b)
 (gn fun S V=>ah a0 fun a3 a4=>wN (ak b a3 (a4+20)) fun a5=>aS (aD b l1 0 2) fun a6=>aS (aD b l1 0 21) fun c=>(∀ i:AS,Ext b i->aJ i->(True)->aa Tryz.prog bS [.agg c] i fun a7 kC=>∃ p:List AV,a7=.agg p/\((Ext i kC/\S 7 [(.func bS []),.agg c] (.agg p) kC/\V 7 [(.func bS []),.agg c] (.agg p))))/\(∃ v,V 7 [(.func bS []),.agg c] v)/\∀ F:AV,V 7 [(.func bS []),.agg c] F->∃ r:List AV,F=.agg r/\(∀ j:AS,Ext b j->aJ j->(S 7 [(.func bS []),.agg c] (.agg r) j/\True)->bC (dG T cU (.map a5) (.agg a6) (.agg r) j) fun a8=>R (.aQ [.slc none 0 0 true,.int .i64 0]) a8)))
 (ah a0 fun a9 a'=>dn (ak b a9 (a'+18)) fun ba=>aV .i64 (aL T ay ba b) fun bb=>aS (aD b l1 0 21) fun bc=>aa Tryz.prog bS [.agg bc] b fun bd be=>∃ G:List AV,bd=.agg G/\(aa Tryz.prog fJ [.ptr a0,.agg G] be fun bh FN=>bh=.aQ []/\(bt fun H =>
 (∀ w:AS,H [] w ->
 ah a0 fun bi bj=>dn (ak w bi (bj+18)) fun bk=>dn (bf T ay bk (some (.int .i64 bb)) none none) fun bl=>aa Tryz.prog zJ [bl] w fun bm bo=>R (.aQ [bm,.int .i64 0]) bo) /\
 (bu fun k bs=>k bs [.int .i64 1] FN /\
 ∀ m64:Nat,∀ d:Int,∀ Bi:AS,k m64 [.int .i64 d] Bi ->
 ah a0 fun bx b0=>aV .i64 (ak Bi bx b0) fun b1=>af (decide ((d:Int)<=b1))
 (ah a0 fun b2 b3=>bE (ag T aX (.ptr (some (b2,(b3+2)))) (.int .i64 (IntKind.wrap .i64 (d - 1)))) fun b4 b6=>aV .u64 (ak Bi b4 b6) fun b7=>oq (aY T gM [(0,.int .i64 d),(1,(.int .u64 (IntKind.wrap .u64 (b7+1))))]) fun I=>aj (.cells [.int .i64 0,.int .u64 0] 0 false) Bi fun x b8=>fy (some 2) I (bC (cS b8 x 0 I) fun l=>ah a0 fun b' ca=>wN (ak l b' (ca+20)) fun cb=>aS (aD l x 0 2) fun cc=>∃ Vh:List AV,∃ J:Bool,dA T cU (.map cb) (.agg cc) true l=some (.aQ [.agg Vh,.bool J])/\(aj (.cells [.int .i64 0,.int .u64 0,.str [],.slc none 0 0 true,.int .u64 0,.int .u64 0,.int .u64 0,.int .u64 0,.int .u64 0,.int .u64 0,.int .u64 0,.int .u64 0,.int .u64 0,.int .u64 0,.int .u64 0,.int .u64 0,.int .u64 0,.int .u64 0,.int .u64 0,.int .u64 0,.slc none 0 0 true] 0 false) l fun y cd=>fy (some 21) Vh (bC (cS cd y 0 Vh) fun z=>bt fun A =>
 (∀ K:Bool,∀ e:AS,A [.bool K] e ->
 af K
 (ah a0 fun ce cf=>wN (ak e ce (cf+20)) fun ch=>aS (aD e x 0 2) fun ci=>bC (mM T cU (.map ch) (.agg ci) e) fun L=>aS (aD L y 0 21) fun ck=>aa Tryz.prog fJ [.ptr a0,.agg ck] L fun cl cm=>cl=.aQ []/\(∃ m',m'<m64/\k m' [(.int .i64 (IntKind.wrap .i64 (0+1)))] cm))
 (∃ m',m'<m64/\k m' [(.int .i64 (IntKind.wrap .i64 (d+1)))] e)) /\
 (af J (aS (aD z y 0 21) fun cn=>aa Tryz.prog jM [.ptr a0,.agg cn] z fun M O=>∃ m:Bool,M=.bool m/\(A [.bool m] O)) (A [.bool false] z))))))
 (H [] Bi)))))))) /\
 (af B (o [.bool true] eH) (aV .u64 (ak eH l1 1) fun Q=>aV .i64 (ak eH l1 0) fun U=>ah a0 fun W X=>bE (ag T aX (.ptr (some (W,(X+2)))) (.int .i64 (IntKind.wrap .i64 (U - 1)))) fun Y Z=>aV .u64 (ak eH Y Z) fun ab=>o [(.bool (decide ((Q:Int)<=ab)))] eH)))))))))
def yU:QA:=(.seq .leaf (.wrap (.seq (.seq .leaf (.cond (.seq .leaf .leaf) .leaf)) (.seq (.seq .leaf (.cond (.seq .leaf .leaf) .leaf)) (.seq (.seq .calm (.join [(45,.bool)] [(30,45)] (.draw 14) (.cond (.seq .leaf .leaf) .leaf))) (.seq (.seq .leaf (.cond (.seq (.seq .leaf (.cond (.seq .leaf .leaf) .leaf)) (.seq (.iB 8 [[],[],[],[],[],[],[],[]] [7]) (.seq .leaf .leaf))) .leaf)) (.seq .leaf (.seq .leaf (.seq .leaf (.join [] [(9,12),(73,113)] (.seq .leaf (.wrap (.loop [(9,.int .i64)] [(9,12),(73,113)] (.seq (.seq .leaf (.cond .leaf .leaf)) (.seq (.wrap (.seq .leaf (.seq .calm (.join [(105,.bool)] [(100,105)] .leaf (.cond (.seq (.draw 5) (.seq .leaf (.seq .leaf .leaf))) .leaf))))) .leaf))))) (.seq .leaf .leaf)))))))))))
theorem yV (a0:Option (Nat×Nat)) (a1:List AV) (s:AS) (R:AV->AS->Prop) (h:yT a0 a1 s R):aa Tryz.prog iy [.ptr a0,.agg a1] s R :=
 aa.q (n:=121) (rs:=[.tmp 4,.tmp 5]) (A:=yU) hT bX Tryz.func30 (by kernel_rfl) rfl rfl rfl (by kernel_rfl) (by kernel_rfl) h
def C7 (a0:Option (Nat×Nat)) (a1:Int) (s:AS) (R:AV->AS->Prop):Prop :=
 aj (.cells [.int .i64 0,.int .u64 0,.str [],.slc none 0 0 true,.int .u64 0,.int .u64 0,.int .u64 0,.int .u64 0,.int .u64 0,.int .u64 0,.int .u64 0,.int .u64 0,.int .u64 0,.int .u64 0,.int .u64 0,.int .u64 0,.int .u64 0,.int .u64 0,.int .u64 0,.int .u64 0,.slc none 0 0 true] 0 false) s fun l1 s2=>aj (.cells [.int .u64 0,.int .u64 0,.int .u64 0,.int .u64 0,.int .u64 0,.int .u64 0,.int .u64 0,.int .u64 0,.int .u64 0,.int .u64 0,.int .u64 0,.int .u64 0,.int .u64 0,.int .u64 0,.int .u64 0,.int .u64 0] 0 false) s2 fun l3 s4=>bt fun O =>
 (∀ b6:Bool,∀ s7:AS,O [.bool b6] s7 ->
 af b6
 (oq (aY T gN []) fun g8=>oq (aY T aX []) fun g9=>fy (some 21) g8 (bC (cS s7 l1 0 g8) fun Q=>fy (some 16) g9 (bC (cS Q l3 0 g9) fun j=>aS (aD j l1 0 21) fun U=>aS (aD j l3 0 16) fun W=>R (.aQ [.agg U,.agg W,.bool false]) j)))
 (uc s7 fun X C c S V=>ah a0 fun k l=>(∀ A:AS,X s7 A->aJ A->ah a0 fun Y Z=>(((.ptr (some (Y,Z))):AV)=(.ptr (some (k,l)))))/\(dn (ak s7 k (l+18)) fun v20=>(∀ iF:AS,X s7 iF->aJ iF->dn (ak iF k (l+18)) fun ab=>((ab:AV)=v20))/\(bE (ag T ay v20 (.int .i64 a1)) fun B D=>aS (aD s7 B D 21) fun d=>(∀ m:AS,X s7 m->aJ m->aS (aD m B D 21) fun ad=>(((.agg ad):AV)=(.agg d)))/\((∀ i:AS,X s7 i->aJ i->(True)->aa Tryz.prog bS [.agg d] i fun ae F=>∃ n:List AV,ae=.agg n/\((Ext i F/\S 7 [(.func bS []),.agg d] (.agg n) F/\V 7 [(.func bS []),.agg d] (.agg n))))/\(∃ v,V 7 [(.func bS []),.agg d] v)/\∀ G:AV,V 7 [(.func bS []),.agg d] G->∃ b:List AV,G=.agg b/\(ah a0 fun o p=>(∀ H:AS,X s7 H->aJ H->ah a0 fun al am=>(((.ptr (some (al,am))):AV)=(.ptr (some (o,p)))))/\(dn (ak s7 o (p+19)) fun I=>(∀ r:AS,X s7 r->aJ r->dn (ak r o (p+19)) fun wm=>((wm:AV)=I))/\(bE (ag T bz I (.int .i64 a1)) fun J K=>aS (aD s7 J K 16) fun w=>(∀ x:AS,X s7 x->aJ x->aS (aD x J K 16) fun an=>(((.agg an):AV)=(.agg w)))/\((∀ uw:AS,X s7 uw->aJ uw->(S 7 [(.func bS []),.agg d] (.agg b) uw/\True)->c uw->fy (some 21) b (bC (cS uw l1 0 b) fun y=>((X uw y/\C 15 [(.ptr (some (l1,0))),.agg b] (.aQ []) y)/\S 15 [(.ptr (some (l1,0))),.agg b] (.aQ []) y/\V 15 [(.ptr (some (l1,0))),.agg b] (.aQ []))))/\(∃ v,V 15 [(.ptr (some (l1,0))),.agg b] v)/\∀ L:AV,V 15 [(.ptr (some (l1,0))),.agg b] L->L=.aQ []/\(∀ rI:AS,X s7 rI->aJ rI->(S 7 [(.func bS []),.agg d] (.agg b) rI/\(S 15 [(.ptr (some (l1,0))),.agg b] (.aQ []) rI/\True))->C 15 [(.ptr (some (l1,0))),.agg b] (.aQ []) rI->fy (some 16) w (bC (cS rI l3 0 w) fun z=>aS (aD z l1 0 21) fun ao=>aS (aD z l3 0 16) fun ar=>R (.aQ [.agg ao,.agg ar,.bool true]) z))))))))))) /\
 (aa Tryz.prog dH [.ptr a0] s4 fun aw e=>∃ M:Bool,aw=.bool M/\(af (!M) (O [.bool true] e) (af (decide ((a1:Int)<0)) (O [.bool true] e) (ah a0 fun a2 a3=>dn (ak e a2 (a3+18)) fun a4=>aV .i64 (aL T ay a4 e) fun a5=>O [(.bool (decide ((a1:Int)>=a5)))] e))))
def C8:QA:=(.seq .leaf (.seq (.join [(22,.bool)] [(7,22)] .leaf (.cond (.seq .leaf .leaf) .leaf)) (.seq (.we [0,1,2,3,4,5,6,7,8,9,10,11,12,13,14,15] [16,17] [[],[],[],[],[],[],[],[],[],[],[],[],[],[],[],[7]] [7,15] [15]) .leaf)))
theorem C9 (a0:Option (Nat×Nat)) (a1:Int) (s:AS) (R:AV->AS->Prop) (h:C7 a0 a1 s R):aa Tryz.prog oE [.ptr a0,.int .i64 a1] s R :=
 aa.q (n:=40) (rs:=[.cell 4 52,.cell 5 49,.tmp 6]) (A:=C8) hT bX Tryz.func159 (by kernel_rfl) rfl rfl rfl (by kernel_rfl) (by kernel_rfl) h
def qf (a0:AV) (s:AS) (R:AV->AS->Prop):Prop :=
 aV .i64 (aL T ay a0 s) fun b=>aV .i64 (aL T ay a0 s) fun n2=>dn (bf T ay a0 none (some (.int .i64 b)) (some (.int .i64 n2))) fun c=>R c s
def qg:QA:=(.seq .leaf (.seq .leaf .leaf))
theorem qh (a0:AV) (s:AS) (R:AV->AS->Prop) (h:qf a0 s R):aa Tryz.prog bw [a0] s R :=
 aa.q (n:=9) (rs:=[.tmp 2]) (A:=qg) hT bX Tryz.func156 (by kernel_rfl) rfl rfl rfl (by kernel_rfl) (by kernel_rfl) h
def oM (a0:AV) (s:AS) (R:AV->AS->Prop):Prop :=
 aV .i64 (aL T bz a0 s) fun b=>aV .i64 (aL T bz a0 s) fun n2=>dn (bf T bz a0 none (some (.int .i64 b)) (some (.int .i64 n2))) fun c=>R c s
def oN:QA:=(.seq .leaf (.seq .leaf .leaf))
theorem oO (a0:AV) (s:AS) (R:AV->AS->Prop) (h:oM a0 s R):aa Tryz.prog bA [a0] s R :=
 aa.q (n:=9) (rs:=[.tmp 2]) (A:=oN) hT bX Tryz.func157 (by kernel_rfl) rfl rfl rfl (by kernel_rfl) (by kernel_rfl) h
def qD (a0:AV) (s:AS) (R:AV->AS->Prop):Prop :=
 sr (Q9 T bZ true a0 (.slc none 0 0 true)) fun b=>af b
 (R (.slc none 0 0 true) s)
 (aS (de T bZ 0 []) fun c=>aj (.cells c 0 false) s fun l3 s4=>ig (aG T bZ bZ (.slc (some (l3,0)) 0 0 true) a0 s4) fun d s6=>R d s6)
def qE:QA:=(.seq .leaf (.seq (.seq .leaf (.cond (.seq .leaf .leaf) .leaf)) (.seq .leaf .leaf)))
theorem qG (a0:AV) (s:AS) (R:AV->AS->Prop) (h:qD a0 s R):aa Tryz.prog bH [a0] s R :=
 aa.q (n:=8) (rs:=[.tmp 2]) (A:=qE) hT bX Tryz.func170 (by kernel_rfl) rfl rfl rfl (by kernel_rfl) (by kernel_rfl) h
def pM (a0:AV) (s:AS) (R:AV->AS->Prop):Prop :=
 sr (Q9 T ay true a0 (.slc none 0 0 true)) fun b=>af b
 (R (.slc none 0 0 true) s)
 (aS (de T ay 0 []) fun c=>aj (.cells c 0 false) s fun l3 s4=>ig (aG T ay ay (.slc (some (l3,0)) 0 0 true) a0 s4) fun d s6=>R d s6)
def pN:QA:=(.seq .leaf (.seq (.seq .leaf (.cond (.seq .leaf .leaf) .leaf)) (.seq .leaf .leaf)))
theorem pO (a0:AV) (s:AS) (R:AV->AS->Prop) (h:pM a0 s R):aa Tryz.prog fh [a0] s R :=
 aa.q (n:=8) (rs:=[.tmp 2]) (A:=pN) hT bX Tryz.func171 (by kernel_rfl) rfl rfl rfl (by kernel_rfl) (by kernel_rfl) h
end
section
set_option maxRecDepth 100000
set_option maxHeartbeats 4000000
open Go.Am
def KS  (s:AS) (R:AV->AS->Prop):Prop :=
 aj (.cells [.int .u64 0] 0 false) s fun l1 s2=>bC (cS s2 l1 0 [.int .u64 2]) fun s3=>bu fun k F=>k F [.slc none 0 0 true,(.ptr (some (l1,0)))] s3 /\
 ∀ D:Nat,∀ d:AV,∀ j:Option (Nat×Nat),∀ s9:AS,k D [d,.ptr j] s9 ->
 aV .i64 (aL T fF d s9) fun l=>af (decide ((l:Int)<64))
 (bt fun c =>
 (∀ e:AV,∀ bQ:AS,c [e] bQ ->
 ah j fun lN m=>aV .u64 (ak bQ lN m) fun n=>aj (.cells [.int .u64 0] 0 false) bQ fun b eH=>bC (cS eH b 0 [.int .u64 n]) fun iF=>aV .u64 (ak iF b 0) fun o=>bC (cS iF b 0 [(.int .u64 (IntKind.wrap .u64 (o+1)))]) fun gl=>∃ m',m'<D/\k m' [e,(.ptr (some (b,0)))] gl) /\
 (aa Tryz.prog ct [d,(.func rE [.ptr j])] s9 fun p uR=>∃ i:Bool,p=.bool i/\(af (!i)
 (ah j fun r w=>aV .u64 (ak uR r w) fun x=>aS (de T fF 1 [(0,.int .u64 x)]) fun y=>aj (.cells y 0 false) uR fun z A=>ig (aG T fF fF d (.slc (some (z,0)) 1 1 true) A) fun B C=>c [B] C)
 (c [d] uR))))
 (R d s9)
def KU:QA:=(.seq .leaf (.seq .leaf (.seq (.seq .leaf (.wrap (.loop [(1,.any),(2,.ptr)] [(1,16)] (.seq (.seq .leaf (.cond .leaf .leaf)) (.join [(1,.any)] [(1,1),(8,15)] (.wrap (.seq .leaf (.cond .leaf .leaf))) (.seq (.seq .leaf .leaf) .leaf)))))) (.seq .leaf .leaf))))
theorem KV  (s:AS) (R:AV->AS->Prop) (h:KS  s R):aa Tryz.prog vu [] s R :=
 aa.q (n:=18) (rs:=[.tmp 0]) (A:=KU) hT bX Tryz.func258 (by kernel_rfl) rfl rfl rfl (by kernel_rfl) (by kernel_rfl) h
def G8 (a0:Int) (c0:Option (Nat×Nat)) (s:AS) (R:AV->AS->Prop):Prop :=
 ah c0 fun l1 o2=>aV .u64 (ak s l1 o2) fun b=>NZ a0 (R (.bool ((Int.tmod b a0:Int)==0)) s)
def G9:QA:=(.seq .leaf (.seq .leaf .leaf))
theorem G_ (a0:Int) (c0:Option (Nat×Nat)) (s:AS) (R:AV->AS->Prop) (h:G8 a0 c0 s R):aa Tryz.prog rE [.int .u64 a0,.ptr c0] s R :=
 aa.q (n:=8) (rs:=[.tmp 3]) (A:=G9) hT bX Tryz.func291 (by kernel_rfl) rfl rfl rfl (by kernel_rfl) (by kernel_rfl) h
def KW (a0:Int) (s:AS) (R:AV->AS->Prop):Prop :=
 aj (.cells [.int .u64 0,.int .u64 0] 0 false) s fun l1 s2=>aa Tryz.prog gK [.int .u64 a0,.int .u64 a0] s2 fun e s4=>∃ b:Int,∃ c:Int,e=.aQ [.int .u64 b,.int .u64 c]/\(oq (aY T fR [(0,.int .u64 b),(1,.int .u64 c)]) fun d=>fy (some 2) d (bC (cS s4 l1 0 d) fun s8=>aS (aD s8 l1 0 2) fun i=>R (.agg i) s8))
def KX:QA:=(.seq .leaf (.seq .leaf (.seq .leaf .leaf)))
theorem KY (a0:Int) (s:AS) (R:AV->AS->Prop) (h:KW a0 s R):aa Tryz.prog fL [.int .u64 a0] s R :=
 aa.q (n:=14) (rs:=[.cell 2 341]) (A:=KX) hT bX Tryz.func297 (by kernel_rfl) rfl rfl rfl (by kernel_rfl) (by kernel_rfl) h
def OX (a0:Int) (s:AS) (R:AV->AS->Prop):Prop :=
 aj (.cells [.int .u64 0,.int .u64 0] 0 false) s fun l1 s2=>aa Tryz.prog fL [.int .u64 a0] s2 fun F s4=>∃ m:List AV,F=.agg m/\(aj (.cells [.int .u64 0,.int .u64 0] 0 false) s4 fun n s7=>fy (some 2) m (bC (cS s7 n 0 m) fun s8=>bE (ag T fR (.ptr (some (n,0))) (.int .i64 1)) fun G o=>aV .u64 (ak s8 G o) fun p=>aa Tryz.prog gK [.int .u64 p,.int .u64 a0] s8 fun r bQ=>∃ d:Int,∃ b:Int,r=.aQ [.int .u64 d,.int .u64 b]/\(bE (ag T fR (.ptr (some (n,0))) (.int .i64 0)) fun qZ w=>aV .u64 (ak bQ qZ w) fun x=>aa Tryz.prog gK [.int .u64 x,.int .u64 a0] bQ fun y gw=>∃ e:Int,∃ i:Int,y=.aQ [.int .u64 e,.int .u64 i]/\(aa Tryz.prog sC [.int .u64 i,.int .u64 d,.int .u64 0] gw fun z A=>∃ c:Int,∃ j:Int,z=.aQ [.int .u64 c,.int .u64 j]/\(NN 32 (NN 32 (aV .u64 (bG .or .u64 (IntKind.wrap .u64 ((IntKind.wrap .u64 (e+j))*2 ^ min (Int.toNat 32) (IntKind.bits .u64))) (Int.fdiv c (2 ^ min (Int.toNat 32) (IntKind.bits .u64)))) fun B=>NN 32 (NN 32 (aV .u64 (bG .or .u64 (IntKind.wrap .u64 (c*2 ^ min (Int.toNat 32) (IntKind.bits .u64))) (Int.fdiv b (2 ^ min (Int.toNat 32) (IntKind.bits .u64)))) fun C=>oq (aY T fR [(0,.int .u64 B),(1,.int .u64 C)]) fun k=>NN 32 (fy (some 2) k (bC (cS A l1 0 k) fun l=>aS (aD l l1 0 2) fun D=>R (.aQ [.agg D,(.bool ((IntKind.wrap .u64 (b*2 ^ min (Int.toNat 32) (IntKind.bits .u64)):Int) != 0))]) l)))))))))))
def OY:QA:=(.seq .leaf (.seq .leaf (.seq .leaf (.seq .leaf (.seq .leaf (.seq .leaf (.seq .leaf .leaf)))))))
theorem OZ (a0:Int) (s:AS) (R:AV->AS->Prop) (h:OX a0 s R):aa Tryz.prog zN [.int .u64 a0] s R :=
 aa.q (n:=50) (rs:=[.cell 2 341,.tmp 3]) (A:=OY) hT bX Tryz.func294 (by kernel_rfl) rfl rfl rfl (by kernel_rfl) (by kernel_rfl) h
def MD (a0:List AV) (a1:Bool) (a2:Int) (s:AS) (R:AV->AS->Prop):Prop :=
 cj a0 (aj (.cells a0 0 false) s fun l1 s2=>bE (ag T fR (.ptr (some (l1,0))) (.int .i64 0)) fun l3 d=>aV .u64 (ak s2 l3 d) fun e=>af (decide ((e:Int)>a2)) (R (.bool true) s2) (bE (ag T fR (.ptr (some (l1,0))) (.int .i64 0)) fun i j=>aV .u64 (ak s2 i j) fun k=>af ((k:Int)==a2) (bE (ag T fR (.ptr (some (l1,0))) (.int .i64 1)) fun l b=>aV .u64 (ak s2 l b) fun c=>af (decide ((c:Int)>0)) (R (.bool true) s2) (R (.bool a1) s2)) (R (.bool false) s2)))
def ME:QA:=(.seq .leaf (.seq .leaf .leaf))
theorem MF (a0:List AV) (a1:Bool) (a2:Int) (s:AS) (R:AV->AS->Prop) (h:MD a0 a1 a2 s R):aa Tryz.prog sB [.agg a0,.bool a1,.int .u64 a2] s R :=
 aa.q (n:=25) (rs:=[.tmp 6]) (A:=ME) hT bX Tryz.func295 (by kernel_rfl) rfl rfl rfl (by kernel_rfl) (by kernel_rfl) h
def O0 (a0:AV) (s:AS) (R:AV->AS->Prop):Prop :=
 bt fun k =>
 (∀ n2:Int,∀ s3:AS,k [.int .u64 n2] s3 ->
 R (.int .u32 (IntKind.wrap .u32 n2)) s3) /\
 (bu fun e l=>e l [.int .u64 0,.int .i64 0] s /\
 ∀ j:Nat,∀ i:Int,∀ b:Int,∀ s9:AS,e j [.int .u64 i,.int .i64 b] s9 ->
 af (decide ((b:Int)<38))
 (NN (IntKind.wrap .i64 (37 - b)) (aV .u64 (bG .or .u64 i (IntKind.wrap .u64 (1*2 ^ min (Int.toNat (IntKind.wrap .i64 (37 - b))) (IntKind.bits .u64)))) fun c=>eK Tryz.prog a0 [.int .u64 c] s9 fun v11 dJ=>∃ d:Bool,v11=.bool d/\(af (!d)
 (∃ m',m'<j/\e m' [.int .u64 c,(.int .i64 (IntKind.wrap .i64 (b+1)))] dJ)
 (∃ m',m'<j/\e m' [.int .u64 i,(.int .i64 (IntKind.wrap .i64 (b+1)))] dJ))))
 (k [.int .u64 i] s9))
def O1:QA:=(.seq .leaf (.seq .leaf (.join [(3,.int .u64)] [(3,19)] (.seq .leaf (.wrap (.loop [(3,.int .u64),(6,.int .i64)] [(3,19)] (.seq .leaf (.seq (.cond .leaf .leaf) (.seq (.wrap (.seq .leaf (.seq .leaf (.seq .leaf (.cond .leaf .leaf))))) .leaf)))))) (.seq .leaf .leaf))))
theorem O2 (a0:AV) (s:AS) (R:AV->AS->Prop) (h:O0 a0 s R):aa Tryz.prog vz [a0] s R :=
 aa.q (n:=22) (rs:=[.tmp 2]) (A:=O1) hT bX Tryz.func292 (by kernel_rfl) rfl rfl rfl (by kernel_rfl) (by kernel_rfl) h
def He (a0:Int) (s:AS) (R:AV->AS->Prop):Prop :=
 aj (.cells [.int .u64 a0] 0 false) s fun l1 s2=>aa Tryz.prog vz [(.func oJ [(.ptr (some (l1,0)))])] s2 fun c s4=>∃ b:Int,c=.int .u32 b/\(R (.int .u32 b) s4)
def Hf:QA:=(.seq .leaf (.seq .leaf .leaf))
theorem Hg (a0:Int) (s:AS) (R:AV->AS->Prop) (h:He a0 s R):aa Tryz.prog rD [.int .u64 a0] s R :=
 aa.q (n:=5) (rs:=[.tmp 2]) (A:=Hf) hT bX Tryz.func259 (by kernel_rfl) rfl rfl rfl (by kernel_rfl) (by kernel_rfl) h
def C_ (a0:Int) (c0:Option (Nat×Nat)) (s:AS) (R:AV->AS->Prop):Prop :=
 aa Tryz.prog zN [.int .u64 a0] s fun l s2=>∃ c:List AV,∃ j:Bool,l=.aQ [.agg c,.bool j]/\(aj (.cells [.int .u64 0,.int .u64 0] 0 false) s2 fun k s6=>fy (some 2) c (bC (cS s6 k 0 c) fun s7=>aS (aD s7 k 0 2) fun m=>ah c0 fun n d=>aV .u64 (ak s7 n d) fun e=>aa Tryz.prog sB [.agg m,.bool j,.int .u64 e] s7 fun i bQ=>∃ b:Bool,i=.bool b/\(R (.bool b) bQ)))
def Da:QA:=(.seq .leaf (.seq .leaf (.seq .leaf .leaf)))
theorem Db (a0:Int) (c0:Option (Nat×Nat)) (s:AS) (R:AV->AS->Prop) (h:C_ a0 c0 s R):aa Tryz.prog oJ [.int .u64 a0,.ptr c0] s R :=
 aa.q (n:=15) (rs:=[.tmp 3]) (A:=Da) hT bX Tryz.func293 (by kernel_rfl) rfl rfl rfl (by kernel_rfl) (by kernel_rfl) h
def MG (a0:Int) (s:AS) (R:AV->AS->Prop):Prop :=
 aj (.cells [.int .u64 a0] 0 false) s fun l1 s2=>aa Tryz.prog vz [(.func tw [(.ptr (some (l1,0)))])] s2 fun c s4=>∃ b:Int,c=.int .u32 b/\(R (.int .u32 b) s4)
def MH:QA:=(.seq .leaf (.seq .leaf .leaf))
theorem MI (a0:Int) (s:AS) (R:AV->AS->Prop) (h:MG a0 s R):aa Tryz.prog xH [.int .u64 a0] s R :=
 aa.q (n:=5) (rs:=[.tmp 2]) (A:=MH) hT bX Tryz.func260 (by kernel_rfl) rfl rfl rfl (by kernel_rfl) (by kernel_rfl) h
def Ig (a0:Int) (c0:Option (Nat×Nat)) (s:AS) (R:AV->AS->Prop):Prop :=
 gn fun S V=>(∀ s1:AS,Ext s s1->aJ s1->(True)->aa Tryz.prog fL [.int .u64 a0] s1 fun k s3=>∃ d:List AV,k=.agg d/\((Ext s1 s3/\S 1 [(.func fL []),.int .u64 a0] (.agg d) s3/\V 1 [(.func fL []),.int .u64 a0] (.agg d))))/\(∃ v,V 1 [(.func fL []),.int .u64 a0] v)/\∀ j:AV,V 1 [(.func fL []),.int .u64 a0] j->∃ e:List AV,j=.agg e/\(ah c0 fun l m=>aV .u64 (ak s l m) fun n=>∀ b:AS,Ext s b->aJ b->(S 1 [(.func fL []),.int .u64 a0] (.agg e) b/\True)->aa Tryz.prog sB [.agg e,.bool false,.int .u64 n] b fun i bQ=>∃ c:Bool,i=.bool c/\(R (.bool c) bQ))
def Ih:QA:=(.seq .leaf (.seq (.iB 3 [[],[],[]] [1]) .leaf))
theorem Ii (a0:Int) (c0:Option (Nat×Nat)) (s:AS) (R:AV->AS->Prop) (h:Ig a0 c0 s R):aa Tryz.prog tw [.int .u64 a0,.ptr c0] s R :=
 aa.q (n:=8) (rs:=[.tmp 3]) (A:=Ih) hT bX Tryz.func296 (by kernel_rfl) rfl rfl rfl (by kernel_rfl) (by kernel_rfl) h
def MJ  (s:AS) (R:AV->AS->Prop):Prop :=
 aj (.cells (List.replicate 72 (.int .u32 0)) 0 false) s fun l1 s2=>aj (.cells (List.replicate 72 (.int .u32 0)) 0 false) s2 fun l3 s4=>aa Tryz.prog vu [] s4 fun z s6=>aV .i64 (aL T fF z s6) fun A=>bu fun l B=>l B [.int .i64 0] s6 /\
 ∀ c:Nat,∀ b:Int,∀ dJ:AS,l c [.int .i64 b] dJ ->
 af (decide ((b:Int)<A))
 (bE (ag T fF z (.int .i64 b)) fun m n=>aV .u64 (ak dJ m n) fun d=>aa Tryz.prog rD [.int .u64 d] dJ fun nO kU=>∃ e:Int,nO=.int .u32 e/\(bE (ag T dS (.ptr (some (l3,8))) (.int .i64 b)) fun AJ o=>bC (cS kU AJ o [.int .u32 e]) fun gl=>af (decide ((b:Int)<8))
 (aa Tryz.prog xH [.int .u64 d] gl fun p uR=>∃ i:Int,p=.int .u32 i/\(bE (ag T cJ (.ptr (some (l3,0))) (.int .i64 b)) fun r w=>bC (cS uR r w [.int .u32 i]) fun x=>∃ m',m'<c/\l m' [(.int .i64 (IntKind.wrap .i64 (b+1)))] x))
 (∃ m',m'<c/\l m' [(.int .i64 (IntKind.wrap .i64 (b+1)))] gl)))
 (aS (aD dJ l3 0 72) fun j=>fy (some 72) j (bC (cS dJ l1 0 j) fun k=>aS (aD k l1 0 72) fun y=>R (.agg y) k))
def MK:QA:=(.seq .leaf (.seq .leaf (.seq (.seq .leaf (.wrap (.loop [(6,.int .i64)] [(2,3),(6,23)] (.seq .leaf (.seq (.cond .leaf .leaf) (.seq (.wrap (.seq .leaf (.seq .leaf (.seq .leaf (.cond .leaf .leaf))))) .leaf)))))) (.seq .leaf .leaf))))
theorem ML  (s:AS) (R:AV->AS->Prop) (h:MJ  s R):aa Tryz.prog xG [] s R :=
 aa.q (n:=25) (rs:=[.cell 0 288]) (A:=MK) hT bX Tryz.func219 (by kernel_rfl) rfl rfl rfl (by kernel_rfl) (by kernel_rfl) h
def Bv (a0:Option (Nat×Nat)) (a1:AV) (s:AS) (R:AV->AS->Prop):Prop :=
 aj (.cells (List.replicate 64 (.int .u32 0)) 0 false) s fun l1 s2=>bt fun J3 =>
 (∀ s4:AS,J3 [] s4 ->
 bt fun J5 =>
 (∀ s6:AS,J5 [] s6 ->
 ah a0 fun l7 o8=>bE (ag T cJ (.ptr (some (l7,o8))) (.int .i64 0)) fun l9 dr=>aV .u32 (ak s6 l9 dr) fun ds=>ah a0 fun qY dt=>bE (ag T cJ (.ptr (some (qY,dt))) (.int .i64 1)) fun lN du=>aV .u32 (ak s6 lN du) fun dv=>ah a0 fun dy dC=>bE (ag T cJ (.ptr (some (dy,dC))) (.int .i64 2)) fun AJ dE=>aV .u32 (ak s6 AJ dE) fun dT=>ah a0 fun d' ea=>bE (ag T cJ (.ptr (some (d',ea))) (.int .i64 3)) fun eb ed=>aV .u32 (ak s6 eb ed) fun eg=>ah a0 fun eh ei=>bE (ag T cJ (.ptr (some (eh,ei))) (.int .i64 4)) fun ej em=>aV .u32 (ak s6 ej em) fun et=>ah a0 fun ev eA=>bE (ag T cJ (.ptr (some (ev,eA))) (.int .i64 5)) fun eB eI=>aV .u32 (ak s6 eB eI) fun eQ=>ah a0 fun e0 e1=>bE (ag T cJ (.ptr (some (e0,e1))) (.int .i64 6)) fun e2 e3=>aV .u32 (ak s6 e2 e3) fun e4=>ah a0 fun e5 e6=>bE (ag T cJ (.ptr (some (e5,e6))) (.int .i64 7)) fun e7 e8=>aV .u32 (ak s6 e7 e8) fun e9=>bt fun be =>
 (∀ bh:Int,∀ bi:Int,∀ bj:Int,∀ bk:Int,∀ bl:Int,∀ bm:Int,∀ bo:Int,∀ bs:Int,∀ bx:AS,be [.int .u32 bh,.int .u32 bi,.int .u32 bj,.int .u32 bk,.int .u32 bl,.int .u32 bm,.int .u32 bo,.int .u32 bs] bx ->
 oq (aY T cJ [(0,.int .u32 bh),(1,.int .u32 bi),(2,.int .u32 bj),(3,.int .u32 bk),(4,.int .u32 bl),(5,.int .u32 bm),(6,.int .u32 bo),(7,.int .u32 bs)]) fun e'=>bu fun ba fa=>ba fa [.int .i64 0] bx /\
 ∀ b0:Nat,∀ D:Int,∀ W:AS,ba b0 [.int .i64 D] W ->
 af (decide ((D:Int)<8))
 (aV .u32 (ju T cJ (.agg e') (.int .i64 D)) fun fb=>ah a0 fun fc fe=>bE (ag T cJ (.ptr (some (fc,fe))) (.int .i64 D)) fun fg fi=>aV .u32 (ak W fg fi) fun fp=>ah a0 fun fr fs=>bE (ag T cJ (.ptr (some (fr,fs))) (.int .i64 D)) fun ft fv=>bC (cS W ft fv [(.int .u32 (IntKind.wrap .u32 (fp+fb)))]) fun fw=>∃ m',m'<b0/\ba m' [(.int .i64 (IntKind.wrap .i64 (D+1)))] fw)
 (R (.aQ []) W)) /\
 (bu fun bb fx=>bb fx [.int .u32 ds,.int .u32 dv,.int .u32 dT,.int .u32 eg,.int .u32 et,.int .u32 eQ,.int .u32 e4,.int .u32 e9,.int .i64 0] s6 /\
 ∀ b1:Nat,∀ F:Int,∀ G:Int,∀ H:Int,∀ bc:Int,∀ j:Int,∀ X:Int,∀ Y:Int,∀ Z:Int,∀ I:Int,∀ x:AS,bb b1 [.int .u32 F,.int .u32 G,.int .u32 H,.int .u32 bc,.int .u32 j,.int .u32 X,.int .u32 Y,.int .u32 Z,.int .i64 I] x ->
 af (decide ((I:Int)<64))
 (gn fun S V=>(∀ ab:AS,Ext x ab->aJ ab->(True)->aS (de T iA 3 [(0,.int .i64 6),(1,.int .i64 11),(2,.int .i64 25)]) fun fz=>aj (.cells fz 0 false) ab fun b2 b3=>(Ext ab b3/\S 3 [.int .i64 6,.int .i64 11,.int .i64 25] (.slc (some (b2,0)) 3 3 true) b3/\V 3 [.int .i64 6,.int .i64 11,.int .i64 25] (.slc (some (b2,0)) 3 3 true)))/\(∃ v,V 3 [.int .i64 6,.int .i64 11,.int .i64 25] v)/\∀ o:AV,V 3 [.int .i64 6,.int .i64 11,.int .i64 25] o->(∀ J:AS,Ext x J->aJ J->(S 3 [.int .i64 6,.int .i64 11,.int .i64 25] o J/\True)->aa Tryz.prog aH [.int .u32 j,o] J fun f' b4=>∃ bd:Int,f'=.int .u32 bd/\((Ext J b4/\S 4 [(.func aH []),.int .u32 j,o] (.int .u32 bd) b4/\V 4 [(.func aH []),.int .u32 j,o] (.int .u32 bd))))/\(∃ v,V 4 [(.func aH []),.int .u32 j,o] v)/\∀ b5:AV,V 4 [(.func aH []),.int .u32 j,o] b5->∃ ad:Int,b5=.int .u32 ad/\(aV .u32 (bG .and .u32 j X) fun ga=>aV .u32 (V9 .xor (.int .u32 j)) fun gb=>aV .u32 (bG .and .u32 gb Y) fun b6=>aV .u32 (bG .xor .u32 ga b6) fun ae=>ah a0 fun b7 b8=>bE (ag T dS (.ptr (some (b7,(b8+8)))) (.int .i64 I)) fun b9 b'=>aV .u32 (ak x b9 b') fun al=>bE (ag T dS (.ptr (some (l1,0))) (.int .i64 I)) fun ca cb=>aV .u32 (ak x ca cb) fun am=>∀ p:AS,Ext x p->aJ p->(S 3 [.int .i64 6,.int .i64 11,.int .i64 25] o p/\(S 4 [(.func aH []),.int .u32 j,o] (.int .u32 ad) p/\True))->aS (de T iA 3 [(0,.int .i64 2),(1,.int .i64 13),(2,.int .i64 22)]) fun cc=>aj (.cells cc 0 false) p fun cd tI=>aa Tryz.prog aH [.int .u32 F,(.slc (some (cd,0)) 3 3 true)] tI fun ce cf=>∃ an:Int,ce=.int .u32 an/\(aV .u32 (bG .and .u32 F G) fun ch=>aV .u32 (bG .and .u32 F H) fun ci=>aV .u32 (bG .xor .u32 ch ci) fun ck=>aV .u32 (bG .and .u32 G H) fun cl=>aV .u32 (bG .xor .u32 ck cl) fun cm=>∃ m',m'<b1/\bb m' [(.int .u32 (IntKind.wrap .u32 ((IntKind.wrap .u32 ((IntKind.wrap .u32 ((IntKind.wrap .u32 ((IntKind.wrap .u32 (Z+ad))+ae))+al))+am))+(IntKind.wrap .u32 (an+cm))))),.int .u32 F,.int .u32 G,.int .u32 H,(.int .u32 (IntKind.wrap .u32 (bc+(IntKind.wrap .u32 ((IntKind.wrap .u32 ((IntKind.wrap .u32 ((IntKind.wrap .u32 (Z+ad))+ae))+al))+am))))),.int .u32 j,.int .u32 X,.int .u32 Y,(.int .i64 (IntKind.wrap .i64 (I+1)))] cf)))
 (be [.int .u32 F,.int .u32 G,.int .u32 H,.int .u32 bc,.int .u32 j,.int .u32 X,.int .u32 Y,.int .u32 Z] x))) /\
 (bu fun K cn=>K cn [.int .i64 16] s4 /\
 ∀ ao:Nat,∀ e:Int,∀ b:AS,K ao [.int .i64 e] b ->
 af (decide ((e:Int)<64))
 (bE (ag T dS (.ptr (some (l1,0))) (.int .i64 (IntKind.wrap .i64 (e - 15)))) fun cp cr=>aV .u32 (ak b cp cr) fun i=>bE (ag T dS (.ptr (some (l1,0))) (.int .i64 (IntKind.wrap .i64 (e - 2)))) fun cs cu=>aV .u32 (ak b cs cu) fun k=>gn fun S V=>bE (ag T dS (.ptr (some (l1,0))) (.int .i64 (IntKind.wrap .i64 (e - 16)))) fun cv cw=>aV .u32 (ak b cv cw) fun cx=>(∀ y:AS,Ext b y->aJ y->(True)->aS (de T iA 2 [(0,.int .i64 7),(1,.int .i64 18)]) fun cy=>aj (.cells cy 0 false) y fun ar aw=>(Ext y aw/\S 7 [.int .i64 7,.int .i64 18] (.slc (some (ar,0)) 2 2 true) aw/\V 7 [.int .i64 7,.int .i64 18] (.slc (some (ar,0)) 2 2 true)))/\(∃ v,V 7 [.int .i64 7,.int .i64 18] v)/\∀ c:AV,V 7 [.int .i64 7,.int .i64 18] c->(∀ r:AS,Ext b r->aJ r->(S 7 [.int .i64 7,.int .i64 18] c r/\True)->aa Tryz.prog aH [.int .u32 i,c] r fun cz a2=>∃ L:Int,cz=.int .u32 L/\((Ext r a2/\S 8 [(.func aH []),.int .u32 i,c] (.int .u32 L) a2/\V 8 [(.func aH []),.int .u32 i,c] (.int .u32 L))))/\(∃ v,V 8 [(.func aH []),.int .u32 i,c] v)/\∀ a3:AV,V 8 [(.func aH []),.int .u32 i,c] a3->∃ z:Int,a3=.int .u32 z/\(NN 3 (aV .u32 (bG .xor .u32 z (Int.fdiv i (2 ^ min (Int.toNat 3) (IntKind.bits .u32)))) fun cA=>bE (ag T dS (.ptr (some (l1,0))) (.int .i64 (IntKind.wrap .i64 (e - 7)))) fun cB cC=>aV .u32 (ak b cB cC) fun c0=>(∀ A:AS,Ext b A->aJ A->(True)->aS (de T iA 2 [(0,.int .i64 17),(1,.int .i64 19)]) fun c1=>aj (.cells c1 0 false) A fun a4 a5=>(Ext A a5/\S 20 [.int .i64 17,.int .i64 19] (.slc (some (a4,0)) 2 2 true) a5/\V 20 [.int .i64 17,.int .i64 19] (.slc (some (a4,0)) 2 2 true)))/\(∃ v,V 20 [.int .i64 17,.int .i64 19] v)/\∀ d:AV,V 20 [.int .i64 17,.int .i64 19] d->(∀ l:AS,Ext b l->aJ l->(S 7 [.int .i64 7,.int .i64 18] c l/\(S 8 [(.func aH []),.int .u32 i,c] (.int .u32 z) l/\(S 20 [.int .i64 17,.int .i64 19] d l/\True)))->aa Tryz.prog aH [.int .u32 k,d] l fun c2 a6=>∃ M:Int,c2=.int .u32 M/\((Ext l a6/\S 21 [(.func aH []),.int .u32 k,d] (.int .u32 M) a6/\V 21 [(.func aH []),.int .u32 k,d] (.int .u32 M))))/\(∃ v,V 21 [(.func aH []),.int .u32 k,d] v)/\∀ a7:AV,V 21 [(.func aH []),.int .u32 k,d] a7->∃ O:Int,a7=.int .u32 O/\(NN 10 (aV .u32 (bG .xor .u32 O (Int.fdiv k (2 ^ min (Int.toNat 10) (IntKind.bits .u32)))) fun c3=>∀ m:AS,Ext b m->aJ m->(S 7 [.int .i64 7,.int .i64 18] c m/\(S 8 [(.func aH []),.int .u32 i,c] (.int .u32 z) m/\(S 20 [.int .i64 17,.int .i64 19] d m/\(S 21 [(.func aH []),.int .u32 k,d] (.int .u32 O) m/\True))))->bE (ag T dS (.ptr (some (l1,0))) (.int .i64 e)) fun c4 c5=>bC (cS m c4 c5 [(.int .u32 (IntKind.wrap .u32 ((IntKind.wrap .u32 ((IntKind.wrap .u32 (cx+cA))+c0))+c3)))]) fun c6=>∃ m',m'<ao/\K m' [(.int .i64 (IntKind.wrap .i64 (e+1)))] c6)))))
 (J5 [] b))) /\
 (bu fun Q c7=>Q c7 [.int .i64 0] s2 /\
 ∀ a8:Nat,∀ n:Int,∀ B:AS,Q a8 [.int .i64 n] B ->
 af (decide ((n:Int)<16))
 (dn (bf T av a1 (some (.int .i64 (IntKind.wrap .i64 (4*n)))) (some (.int .i64 (IntKind.wrap .i64 ((IntKind.wrap .i64 (4*n))+4)))) none) fun a9=>aV .i64 (aL T av a9 B) fun c8=>bu fun U c9=>U c9 [.int .i64 0] B /\
 ∀ a':Nat,∀ C:Int,∀ w:AS,U a' [.int .i64 C] w ->
 af (decide ((C:Int)<c8))
 (bE (ag T av a9 (.int .i64 C)) fun c' da=>aV .u8 (ak w c' da) fun db=>bE (ag T dS (.ptr (some (l1,0))) (.int .i64 n)) fun dc dd=>aV .u32 (ak w dc dd) fun df=>NN 8 (aV .u32 (bG .or .u32 (IntKind.wrap .u32 (df*2 ^ min (Int.toNat 8) (IntKind.bits .u32))) (IntKind.wrap .u32 db)) fun dk=>bE (ag T dS (.ptr (some (l1,0))) (.int .i64 n)) fun dl dm=>bC (cS w dl dm [.int .u32 dk]) fun dp=>∃ m',m'<a'/\U m' [(.int .i64 (IntKind.wrap .i64 (C+1)))] dp))
 (∃ m',m'<a8/\Q m' [(.int .i64 (IntKind.wrap .i64 (n+1)))] w))
 (J3 [] B))
def Bw:QA:=(.seq .leaf (.seq .leaf (.join [] [(6,6),(8,8),(25,50)] (.seq .leaf (.wrap (.loop [(25,.int .i64)] [(6,6),(8,8),(25,50)] (.seq .leaf (.seq (.cond .leaf .leaf) (.seq (.wrap (.seq .leaf (.seq .leaf (.wrap (.loop [(36,.int .i64)] [(8,8),(36,49)] (.seq .leaf (.seq (.cond .leaf .leaf) (.seq (.wrap (.seq .leaf .leaf)) .leaf)))))))) .leaf)))))) (.join [] [(9,11),(51,89)] (.seq .leaf (.wrap (.loop [(9,.int .i64)] [(9,11),(51,89)] (.seq (.seq .leaf (.cond .leaf .leaf)) (.seq (.wrap (.seq (.draw 9) (.iB 26 [[],[],[],[],[],[],[],[],[7],[],[],[],[],[],[],[],[],[],[],[],[],[7,8,20],[],[],[],[]] [7,8,20,21]))) .leaf))))) (.seq (.draw 47) (.join [(12,.int .u32),(13,.int .u32),(14,.int .u32),(15,.int .u32),(16,.int .u32),(17,.int .u32),(18,.int .u32),(19,.int .u32)] [(12,22),(130,187)] (.seq .leaf (.wrap (.loop [(12,.int .u32),(13,.int .u32),(14,.int .u32),(15,.int .u32),(16,.int .u32),(17,.int .u32),(18,.int .u32),(19,.int .u32),(130,.int .i64)] [(12,22),(130,187)] (.seq .leaf (.seq (.cond .leaf .leaf) (.seq (.wrap (.seq .leaf (.seq (.iB 25 [[],[],[],[],[3],[],[],[],[],[],[],[],[],[],[],[],[],[],[],[],[],[],[],[],[]] [3,4]) (.seq .leaf .leaf)))) .leaf)))))) (.seq .leaf (.wrap (.loop [(197,.int .i64)] [(23,24),(197,212)] (.seq .leaf (.seq (.cond .leaf .leaf) (.seq (.wrap (.seq .leaf (.draw 10))) .leaf))))))))))))
theorem Bx (a0:Option (Nat×Nat)) (a1:AV) (s:AS) (R:AV->AS->Prop) (h:Bv a0 a1 s R):aa Tryz.prog ng [.ptr a0,a1] s R :=
 aa.q (n:=213) (rs:=[]) (A:=Bw) hT bX Tryz.func261 (by kernel_rfl) rfl rfl rfl (by kernel_rfl) (by kernel_rfl) h
def yW (a0:Int) (a1:AV) (s:AS) (R:AV->AS->Prop):Prop :=
 aV .i64 (aL T iA a1 s) fun l=>bu fun d m=>d m [.int .u32 0,.int .i64 0] s /\
 ∀ k:Nat,∀ e:Int,∀ c:Int,∀ s7:AS,d k [.int .u32 e,.int .i64 c] s7 ->
 af (decide ((c:Int)<l))
 (bE (ag T iA a1 (.int .i64 c)) fun n o=>aV .i64 (ak s7 n o) fun i=>aa Tryz.prog gV [.int .u32 a0,(.int .i64 (IntKind.wrap .i64 (0 - i)))] s7 fun v11 dJ=>∃ b:Int,v11=.int .u32 b/\(aV .u32 (bG .xor .u32 e b) fun j=>∃ m',m'<k/\d m' [.int .u32 j,(.int .i64 (IntKind.wrap .i64 (c+1)))] dJ))
 (R (.int .u32 e) s7)
def yX:QA:=(.seq .leaf (.seq .leaf (.seq (.seq .leaf (.wrap (.loop [(5,.int .u32),(10,.int .i64)] [(5,5),(7,7),(10,20)] (.seq .leaf (.seq (.cond .leaf .leaf) (.seq (.wrap (.seq .leaf .leaf)) .leaf)))))) (.seq .leaf .leaf))))
theorem yY (a0:Int) (a1:AV) (s:AS) (R:AV->AS->Prop) (h:yW a0 a1 s R):aa Tryz.prog aH [.int .u32 a0,a1] s R :=
 aa.q (n:=22) (rs:=[.tmp 4]) (A:=yX) hT bX Tryz.func298 (by kernel_rfl) rfl rfl rfl (by kernel_rfl) (by kernel_rfl) h
def tJ (a0:Int) (a1:Int) (s:AS) (R:AV->AS->Prop):Prop :=
 aV .u64 (bG .and .u64 (IntKind.wrap .u64 a1) 31) fun b=>NN b (NN (IntKind.wrap .u64 (32 - b)) (aV .u32 (bG .or .u32 (IntKind.wrap .u32 (a0*2 ^ min (Int.toNat b) (IntKind.bits .u32))) (Int.fdiv a0 (2 ^ min (Int.toNat (IntKind.wrap .u64 (32 - b))) (IntKind.bits .u32)))) fun n2=>R (.int .u32 n2) s))
def tK:QA:=(.seq .leaf (.seq .leaf (.seq .leaf .leaf)))
theorem tM (a0:Int) (a1:Int) (s:AS) (R:AV->AS->Prop) (h:tJ a0 a1 s R):aa Tryz.prog gV [.int .u32 a0,.int .i64 a1] s R :=
 aa.q (n:=17) (rs:=[.tmp 4]) (A:=tK) hT bX Tryz.func299 (by kernel_rfl) rfl rfl rfl (by kernel_rfl) (by kernel_rfl) h
def By (a0:Int) (a1:Int) (s:AS) (R:AV->AS->Prop):Prop :=
 aV .u64 (bG .and .u64 a0 4294967295) fun b=>NN 32 (aV .u64 (bG .and .u64 a1 4294967295) fun n2=>NN 32 (NN 32 (aV .u64 (bG .and .u64 (IntKind.wrap .u64 ((IntKind.wrap .u64 ((Int.fdiv a0 (2 ^ min (Int.toNat 32) (IntKind.bits .u64)))*n2))+(Int.fdiv (IntKind.wrap .u64 (b*n2)) (2 ^ min (Int.toNat 32) (IntKind.bits .u64))))) 4294967295) fun c=>NN 32 (NN 32 (R (.aQ [(.int .u64 (IntKind.wrap .u64 ((IntKind.wrap .u64 ((IntKind.wrap .u64 ((Int.fdiv a0 (2 ^ min (Int.toNat 32) (IntKind.bits .u64)))*(Int.fdiv a1 (2 ^ min (Int.toNat 32) (IntKind.bits .u64)))))+(Int.fdiv (IntKind.wrap .u64 ((IntKind.wrap .u64 ((Int.fdiv a0 (2 ^ min (Int.toNat 32) (IntKind.bits .u64)))*n2))+(Int.fdiv (IntKind.wrap .u64 (b*n2)) (2 ^ min (Int.toNat 32) (IntKind.bits .u64))))) (2 ^ min (Int.toNat 32) (IntKind.bits .u64)))))+(Int.fdiv (IntKind.wrap .u64 (c+(IntKind.wrap .u64 (b*(Int.fdiv a1 (2 ^ min (Int.toNat 32) (IntKind.bits .u64))))))) (2 ^ min (Int.toNat 32) (IntKind.bits .u64)))))),(.int .u64 (IntKind.wrap .u64 (a0*a1)))]) s)))))
def Bz:QA:=(.seq .leaf (.seq .leaf (.seq .leaf (.seq .leaf (.seq .leaf (.seq .leaf (.seq .leaf (.seq .leaf (.seq .leaf (.seq .leaf (.seq .leaf (.seq .leaf .leaf))))))))))))
theorem BA (a0:Int) (a1:Int) (s:AS) (R:AV->AS->Prop) (h:By a0 a1 s R):aa Tryz.prog gK [.int .u64 a0,.int .u64 a1] s R :=
 aa.q (n:=51) (rs:=[.tmp 4,.tmp 5]) (A:=Bz) hT bX Tryz.func306 (by kernel_rfl) rfl rfl rfl (by kernel_rfl) (by kernel_rfl) h
def BB (a0:List AV) (a1:AV) (s:AS) (R:AV->AS->Prop):Prop :=
 cj a0 (aj (.cells a0 0 false) s fun l1 s2=>aj (.cells (List.replicate 32 (.int .u8 0)) 0 false) s2 fun l3 s4=>aa Tryz.prog fE [a1] s4 fun v5 s6=>aV .i64 (aL T av v5 s6) fun n7=>aS (de T av 1 [(0,.int .u8 128)]) fun g8=>aj (.cells g8 0 false) s6 fun l9 A=>ig (aG T av av v5 (.slc (some (l9,0)) 1 1 true) A) fun v11 dJ=>aV .i64 (aL T av v11 dJ) fun B=>NZ 64 (NZ 64 (ig (aG T av um v11 (.int .i64 (Int.tmod (IntKind.wrap .i64 (120 - (Int.tmod B 64))) 64)) dJ) fun C fH=>bt fun n =>
 (∀ o:AV,∀ eH:AS,n [o] eH ->
 bt fun p =>
 (∀ gw:AS,p [] gw ->
 bu fun i D=>i D [.int .i64 0] gw /\
 ∀ r:Nat,∀ b:Int,∀ en:AS,i r [.int .i64 b] en ->
 af (decide ((b:Int)<32))
 (NZ 4 (bE (ag T cJ (.ptr (some (l1,0))) (.int .i64 (IntKind.wrap .i64 (Int.tdiv b 4)))) fun F G=>aV .u32 (ak en F G) fun H=>NZ 4 (NN (IntKind.wrap .i64 (24 - (IntKind.wrap .i64 (8*(Int.tmod b 4))))) (bE (ag T tD (.ptr (some (l3,0))) (.int .i64 b)) fun I J=>bC (cS en I J [(.int .u8 (IntKind.wrap .u8 (Int.fdiv H (2 ^ min (Int.toNat (IntKind.wrap .i64 (24 - (IntKind.wrap .i64 (8*(Int.tmod b 4)))))) (IntKind.bits .u32)))))]) fun mG=>∃ m',m'<r/\i m' [(.int .i64 (IntKind.wrap .i64 (b+1)))] mG))))
 (aS (aD en l3 0 32) fun w=>fy (some 32) w (bC (cS en l3 0 w) fun x=>aS (aD x l3 0 32) fun K=>R (.agg K) x))) /\
 (bu fun j L=>j L [o] eH /\
 ∀ y:Nat,∀ d:AV,∀ e:AS,j y [d] e ->
 aV .i64 (aL T av d e) fun M=>af (decide ((M:Int)>0))
 (dn (bf T av d none (some (.int .i64 64)) none) fun O=>aa Tryz.prog ng [(.ptr (some (l1,0))),O] e fun Q S=>Q=.aQ []/\(dn (bf T av d (some (.int .i64 64)) none none) fun U=>∃ m',m'<y/\j m' [U] S))
 (p [] e))) /\
 (bu fun k W=>k W [C,.int .i64 0] fH /\
 ∀ z:Nat,∀ l:AV,∀ c:Int,∀ m:AS,k z [l,.int .i64 c] m ->
 af (decide ((c:Int)<8))
 (NN (IntKind.wrap .i64 (56 - (IntKind.wrap .i64 (8*c)))) (aS (de T av 1 [(0,(.int .u8 (IntKind.wrap .u8 (Int.fdiv (IntKind.wrap .u64 ((IntKind.wrap .u64 n7)*8)) (2 ^ min (Int.toNat (IntKind.wrap .i64 (56 - (IntKind.wrap .i64 (8*c))))) (IntKind.bits .u64))))))]) fun X=>aj (.cells X 0 false) m fun Y FN=>ig (aG T av av l (.slc (some (Y,0)) 1 1 true) FN) fun Z ab=>∃ m',m'<z/\k m' [Z,(.int .i64 (IntKind.wrap .i64 (c+1)))] ab))
 (n [l] m)))))
def BC:QA:=(.seq .leaf (.seq .leaf (.seq .leaf (.seq .leaf (.seq .leaf (.join [(5,.any)] [(5,5),(7,7),(25,37)] (.seq .leaf (.wrap (.loop [(5,.any),(25,.int .i64)] [(5,5),(7,7),(25,37)] (.seq .leaf (.seq (.cond .leaf .leaf) (.seq (.wrap (.seq .leaf .leaf)) .leaf)))))) (.join [] [(5,5),(38,45)] (.wrap (.loop [(5,.any)] [(5,5),(38,45)] (.seq (.seq .leaf (.cond .leaf .leaf)) (.seq (.wrap .leaf) .leaf)))) (.seq (.seq .leaf (.wrap (.loop [(46,.int .i64)] [(8,8),(46,62)] (.seq .leaf (.seq (.cond .leaf .leaf) (.seq (.wrap (.seq .leaf .leaf)) .leaf)))))) (.seq .leaf .leaf)))))))))
theorem BD (a0:List AV) (a1:AV) (s:AS) (R:AV->AS->Prop) (h:BB a0 a1 s R):aa Tryz.prog cM [.agg a0,a1] s R :=
 aa.q (n:=64) (rs:=[.cell 4 93]) (A:=BC) hT bX Tryz.func220 (by kernel_rfl) rfl rfl rfl (by kernel_rfl) (by kernel_rfl) h
def O3 (a0:AV) (a1:AV) (s:AS) (R:AV->AS->Prop):Prop :=
 aj (.cells (List.replicate 32 (.int .u8 0)) 0 false) s fun l1 s2=>aa Tryz.prog xG [] s2 fun v3 s4=>∃ g5:List AV,v3=.agg g5/\(aj (.cells (List.replicate 72 (.int .u32 0)) 0 false) s4 fun l6 s7=>fy (some 72) g5 (bC (cS s7 l6 0 g5) fun s8=>bt fun J9 =>
 (∀ v10:AV,∀ C:AS,J9 [v10] C ->
 aj (.cells (List.replicate 64 (.int .u8 0)) 0 false) C fun qY bQ=>aj (.cells (List.replicate 64 (.int .u8 0)) 0 false) bQ fun lN fH=>dn (bf T gP (.ptr (some (qY,0))) none none none) fun nO=>ig (q8 T av nO v10 fH) fun b0 eH=>aS (aD eH qY 0 64) fun D=>fy (some 64) D (bC (cS eH lN 0 D) fun gw=>bt fun F =>
 (∀ fV:AS,F [] fV ->
 gn fun S V=>aS (aD fV l6 0 72) fun j=>dn (bf T gP (.ptr (some (qY,0))) none none none) fun d=>(∀ en:AS,Ext fV en->aJ en->(True)->aS (de T eV 1 [(0,d)]) fun ab=>aj (.cells ab 0 false) en fun G H=>(Ext en H/\S 2 [d] (.slc (some (G,0)) 1 1 true) H/\V 2 [d] (.slc (some (G,0)) 1 1 true)))/\(∃ v,V 2 [d] v)/\∀ b:AV,V 2 [d] b->(∀ m:AS,Ext fV m->aJ m->(S 2 [d] b m/\True)->ig (aG T eV eV b a1 m) fun I J=>(Ext m J/\S 4 [b,a1] I J/\V 4 [b,a1] I))/\(∃ v,V 4 [b,a1] v)/\∀ c:AV,V 4 [b,a1] c->(∀ lC:AS,Ext fV lC->aJ lC->(S 2 [d] b lC/\(S 4 [b,a1] c lC/\True))->aa Tryz.prog cM [.agg j,c] lC fun ad oY=>∃ x:List AV,ad=.agg x/\((Ext lC oY/\S 5 [(.func cM []),.agg j,c] (.agg x) oY/\V 5 [(.func cM []),.agg j,c] (.agg x))))/\(∃ v,V 5 [(.func cM []),.agg j,c] v)/\∀ K:AV,V 5 [(.func cM []),.agg j,c] K->∃ n:List AV,K=.agg n/\((∀ o:AS,Ext fV o->aJ o->(True)->aj (.cells (List.replicate 32 (.int .u8 0)) 0 false) o fun L M=>(Ext o M/\S 6 [] (.ptr (some (L,0))) M/\V 6 [] (.ptr (some (L,0)))))/\(∃ v,V 6 [] v)/\∀ O:AV,V 6 [] O->∃ p:Option (Nat×Nat),O=.ptr p/\(∀ e:AS,Ext fV e->aJ e->(S 2 [d] b e/\(S 4 [b,a1] c e/\(S 5 [(.func cM []),.agg j,c] (.agg n) e/\(S 6 [] (.ptr p) e/\True))))->ah p fun ae al=>fy (some 32) n (bC (cS e ae al n) fun rI=>gn fun S V=>aS (aD rI l6 0 72) fun am=>dn (bf T gP (.ptr (some (lN,0))) none none none) fun k=>dn (bf T tD (.ptr p) none none none) fun l=>(∀ FN:AS,Ext rI FN->aJ FN->(True)->aS (de T eV 2 [(0,k),(1,l)]) fun an=>aj (.cells an 0 false) FN fun Q U=>(Ext FN U/\S 3 [k,l] (.slc (some (Q,0)) 2 2 true) U/\V 3 [k,l] (.slc (some (Q,0)) 2 2 true)))/\(∃ v,V 3 [k,l] v)/\∀ y:AV,V 3 [k,l] y->∀ r:AS,Ext rI r->aJ r->(S 3 [k,l] y r/\True)->aa Tryz.prog cM [.agg am,y] r fun ao ar=>∃ z:List AV,ao=.agg z/\(fy (some 32) z (bC (cS ar l1 0 z) fun W=>aS (aD W l1 0 32) fun aw=>R (.agg aw) W)))))) /\
 (bu fun A a2=>A a2 [.int .i64 0] gw /\
 ∀ X:Nat,∀ i:Int,∀ w:AS,A X [.int .i64 i] w ->
 af (decide ((i:Int)<64))
 (bE (ag T gP (.ptr (some (qY,0))) (.int .i64 i)) fun a3 a4=>aV .u8 (ak w a3 a4) fun a5=>aV .u8 (bG .xor .u8 a5 54) fun a6=>bE (ag T gP (.ptr (some (qY,0))) (.int .i64 i)) fun a7 a8=>bC (cS w a7 a8 [.int .u8 a6]) fun Y=>bE (ag T gP (.ptr (some (lN,0))) (.int .i64 i)) fun a9 a'=>aV .u8 (ak Y a9 a') fun ba=>aV .u8 (bG .xor .u8 ba 92) fun bb=>bE (ag T gP (.ptr (some (lN,0))) (.int .i64 i)) fun bc bd=>bC (cS Y bc bd [.int .u8 bb]) fun be=>∃ m',m'<X/\A m' [(.int .i64 (IntKind.wrap .i64 (i+1)))] be)
 (F [] w)))) /\
 (aV .i64 (aL T av a0 s8) fun bh=>af (decide ((bh:Int)>64))
 (aS (aD s8 l6 0 72) fun bi=>aS (de T eV 1 [(0,a0)]) fun bj=>aj (.cells bj 0 false) s8 fun bk bl=>aa Tryz.prog cM [.agg bi,(.slc (some (bk,0)) 1 1 true)] bl fun bm bo=>∃ B:List AV,bm=.agg B/\(aj (.cells (List.replicate 32 (.int .u8 0)) 0 false) bo fun Z Xa=>fy (some 32) B (bC (cS Xa Z 0 B) fun bs=>dn (bf T tD (.ptr (some (Z,0))) none none none) fun bx=>J9 [bx] bs)))
 (J9 [a0] s8))))
def O4:QA:=(.seq .leaf (.seq .leaf (.join [(0,.any)] [(0,0),(6,6),(12,19)] (.seq .leaf (.cond (.seq .leaf .leaf) .leaf)) (.seq .leaf (.seq .leaf (.seq .leaf (.join [] [(9,9),(24,37)] (.seq .leaf (.wrap (.loop [(24,.int .i64)] [(9,9),(24,37)] (.seq .leaf (.seq (.cond .leaf .leaf) (.seq (.wrap (.seq .leaf (.seq .leaf .leaf))) .leaf)))))) (.seq (.iB 7 [[],[],[],[],[2],[2,4],[]] [2,4,5,6]) (.seq (.iB 4 [[],[],[],[]] [3]) .leaf)))))))))
theorem O5 (a0:AV) (a1:AV) (s:AS) (R:AV->AS->Prop) (h:O3 a0 a1 s R):aa Tryz.prog zK [a0,a1] s R :=
 aa.q (n:=49) (rs:=[.cell 4 93]) (A:=O4) hT bX Tryz.func167 (by kernel_rfl) rfl rfl rfl (by kernel_rfl) (by kernel_rfl) h
def MN (a0:List AV) (a1:List AV) (s:AS) (R:AV->AS->Prop):Prop :=
 cj a0 (aj (.cells a0 0 false) s fun l1 s2=>cj a1 (aj (.cells a1 0 false) s2 fun l3 s4=>bt fun p =>
 (∀ r:Int,∀ s7:AS,p [.int .u8 r] s7 ->
 R (.bool ((r:Int)==0)) s7) /\
 (bu fun e w=>e w [.int .u8 0,.int .i64 0] s4 /\
 ∀ d:Nat,∀ c:Int,∀ b:Int,∀ bQ:AS,e d [.int .u8 c,.int .i64 b] bQ ->
 af (decide ((b:Int)<32))
 (bE (ag T tD (.ptr (some (l1,0))) (.int .i64 b)) fun lN i=>aV .u8 (ak bQ lN i) fun j=>bE (ag T tD (.ptr (some (l3,0))) (.int .i64 b)) fun k l=>aV .u8 (ak bQ k l) fun m=>aV .u8 (bG .xor .u8 j m) fun n=>aV .u8 (bG .or .u8 c n) fun o=>∃ m',m'<d/\e m' [.int .u8 o,(.int .i64 (IntKind.wrap .i64 (b+1)))] bQ)
 (p [.int .u8 c] bQ))))
def MO:QA:=(.seq .leaf (.seq .leaf (.join [(5,.int .u8)] [(5,19)] (.seq .leaf (.wrap (.loop [(5,.int .u8),(7,.int .i64)] [(5,19)] (.seq .leaf (.seq (.cond .leaf .leaf) (.seq (.wrap (.seq .leaf (.draw 8))) .leaf)))))) (.seq .leaf .leaf))))
theorem MP (a0:List AV) (a1:List AV) (s:AS) (R:AV->AS->Prop) (h:MN a0 a1 s R):aa Tryz.prog xB [.agg a0,.agg a1] s R :=
 aa.q (n:=22) (rs:=[.tmp 4]) (A:=MO) hT bX Tryz.func91 (by kernel_rfl) rfl rfl rfl (by kernel_rfl) (by kernel_rfl) h
end
section
set_option maxRecDepth 100000
set_option maxHeartbeats 4000000
open Go.Am
def Ew (a0:List UInt8) (s:AS) (R:AV->AS->Prop):Prop :=
 aV .i64 (aL T cL (.str a0) s) fun b=>af (decide ((b:Int)>=1)) (aV .i64 (aL T cL (.str a0) s) fun n2=>R (.bool (decide ((n2:Int)<=32))) s) (R (.bool false) s)
def Ex:QA:=(.seq .leaf (.seq .leaf .leaf))
theorem Ey (a0:List UInt8) (s:AS) (R:AV->AS->Prop) (h:Ew a0 s R):aa Tryz.prog gy [.str a0] s R :=
 aa.q (n:=11) (rs:=[.tmp 2]) (A:=Ex) hT bX Tryz.func76 (by kernel_rfl) rfl rfl rfl (by kernel_rfl) (by kernel_rfl) h
def Hh (a0:List AV) (s:AS) (R:AV->AS->Prop):Prop :=
 cj a0 (aj (.cells a0 0 false) s fun l1 s2=>aV .i64 (ak s2 l1 0) fun b=>af (decide ((b:Int)>=1)) (aV .i64 (ak s2 l1 0) fun c=>af (decide ((c:Int)<=16)) (aV .u64 (ak s2 l1 1) fun d=>af (decide ((d:Int)>=1)) (aV .u64 (ak s2 l1 1) fun e=>R (.bool (decide ((e:Int)<=4611686018427387904))) s2) (R (.bool false) s2)) (R (.bool false) s2)) (R (.bool false) s2))
def Hi:QA:=(.seq .leaf (.seq .leaf .leaf))
theorem Hj (a0:List AV) (s:AS) (R:AV->AS->Prop) (h:Hh a0 s R):aa Tryz.prog ke [.agg a0] s R :=
 aa.q (n:=21) (rs:=[.tmp 2]) (A:=Hi) hT bX Tryz.func222 (by kernel_rfl) rfl rfl rfl (by kernel_rfl) (by kernel_rfl) h
def KZ (a0:List AV) (a1:List AV) (s:AS) (R:AV->AS->Prop):Prop :=
 cj a0 (aj (.cells a0 0 false) s fun l1 s2=>cj a1 (aj (.cells a1 0 false) s2 fun l3 s4=>gn fun S V=>aV .i64 (ak s4 l1 0) fun d=>aV .i64 (ak s4 l3 0) fun e=>(∀ s7:AS,Ext s4 s7->aJ s7->(True)->aa Tryz.prog aU [.int .i64 d,.int .i64 e] s7 fun w s9=>∃ b:Int,w=.int .i64 b/\((Ext s7 s9/\S 4 [(.func aU []),.int .i64 d,.int .i64 e] (.int .i64 b) s9/\V 4 [(.func aU []),.int .i64 d,.int .i64 e] (.int .i64 b))))/\(∃ v,V 4 [(.func aU []),.int .i64 d,.int .i64 e] v)/\∀ v11:AV,V 4 [(.func aU []),.int .i64 d,.int .i64 e] v11->∃ c:Int,v11=.int .i64 c/\(aV .u64 (ak s4 l1 1) fun k=>aV .u64 (ak s4 l3 1) fun l=>∀ fH:AS,Ext s4 fH->aJ fH->(S 4 [(.func aU []),.int .i64 d,.int .i64 e] (.int .i64 c) fH/\True)->aa Tryz.prog eS [.int .u64 k,.int .u64 l] fH fun m eH=>∃ i:Int,m=.int .i64 i/\(aS (de T iA 2 [(0,.int .i64 c),(1,.int .i64 i)]) fun n=>aj (.cells n 0 false) eH fun o fV=>aa Tryz.prog k5 [(.slc (some (o,0)) 2 2 true)] fV fun p r=>∃ j:Int,p=.int .i64 j/\(R (.bool (decide ((j:Int)<0))) r)))))
def K0:QA:=(.seq .leaf (.seq (.iB 9 [[],[],[],[],[],[],[],[],[]] [4]) .leaf))
theorem K3 (a0:List AV) (a1:List AV) (s:AS) (R:AV->AS->Prop) (h:KZ a0 a1 s R):aa Tryz.prog vt [.agg a0,.agg a1] s R :=
 aa.q (n:=18) (rs:=[.tmp 4]) (A:=K0) hT bX Tryz.func224 (by kernel_rfl) rfl rfl rfl (by kernel_rfl) (by kernel_rfl) h
def BE (a0:List AV) (s:AS) (R:AV->AS->Prop):Prop :=
 cj a0 (aj (.cells a0 0 false) s fun l1 s2=>dn (bf T aX (.ptr (some (l1,0))) none none none) fun c=>aa Tryz.prog ct [c,(.func qs [])] s2 fun d e=>∃ b:Bool,d=.bool b/\(R (.bool (!b)) e))
def BF:QA:=(.seq .leaf (.seq .leaf .leaf))
theorem BG (a0:List AV) (s:AS) (R:AV->AS->Prop) (h:BE a0 s R):aa Tryz.prog mZ [.agg a0] s R :=
 aa.q (n:=6) (rs:=[.tmp 2]) (A:=BF) hT bX Tryz.func223 (by kernel_rfl) rfl rfl rfl (by kernel_rfl) (by kernel_rfl) h
def yZ (a0:Int) (s:AS) (R:AV->AS->Prop):Prop :=
 R (.bool (decide ((a0:Int)>4611686018427387904))) s
def y4:QA:=(.seq .leaf (.seq .leaf .leaf))
theorem y5 (a0:Int) (s:AS) (R:AV->AS->Prop) (h:yZ a0 s R):aa Tryz.prog qs [.int .u64 a0] s R :=
 aa.q (n:=5) (rs:=[.tmp 2]) (A:=y4) hT bX Tryz.func262 (by kernel_rfl) rfl rfl rfl (by kernel_rfl) (by kernel_rfl) h
def MQ (a0:List AV) (s:AS) (R:AV->AS->Prop):Prop :=
 cj a0 (aj (.cells a0 0 false) s fun l1 s2=>aS (aD s2 l1 0 2) fun g3=>aa Tryz.prog ke [.agg g3] s2 fun v4 A=>∃ b6:Bool,v4=.bool b6/\(af (!b6) (R (.bool false) A) (aS (aD A l1 4 16) fun g7=>aa Tryz.prog mZ [.agg g7] A fun v8 s9=>∃ m:Bool,v8=.bool m/\(af (!m) (R (.bool false) s9) (aV .i64 (ak s9 l1 0) fun B=>bE (ag T aX (.ptr (some (l1,4))) (.int .i64 (IntKind.wrap .i64 (B - 1)))) fun qY C=>aV .u64 (ak s9 qY C) fun D=>aV .u64 (ak s9 l1 1) fun F=>af ((D:Int) != (IntKind.wrap .u64 (F - 1)))
 (R (.bool false) s9)
 (CM (ak s9 l1 2) fun G=>aa Tryz.prog gy [.str G] s9 fun H eH=>∃ n:Bool,H=.bool n/\(af (!n) (R (.bool false) eH) (dn (ak eH l1 3) fun v20=>aV .i64 (aL T av v20 eH) fun I=>af (decide ((I:Int)>512)) (R (.bool false) eH) (dn (ak eH l1 20) fun J=>aV .i64 (aL T bZ J eH) fun K=>af (decide ((K:Int)>1024))
 (R (.bool false) eH)
 (dn (ak eH l1 20) fun o=>aV .i64 (aL T bZ o eH) fun L=>bu fun j M=>j M [.bool true,.int .i64 0] eH /\
 ∀ p:Nat,∀ r:Bool,∀ b:Int,∀ mG:AS,j p [.bool r,.int .i64 b] mG ->
 af (decide ((b:Int)<L))
 (bE (ag T bZ o (.int .i64 b)) fun O Q=>aS (aD mG O Q 3) fun w=>aj (.cells [.int .i64 0,.int .u64 0,.str []] 0 false) mG fun e oY=>fy (some 3) w (bC (cS oY e 0 w) fun kC=>bt fun d =>
 (∀ i:Bool,∀ k:AS,d [.bool i] k ->
 af (!i)
 (R (.bool i) k)
 (∃ m',m'<p/\j m' [.bool i,(.int .i64 (IntKind.wrap .i64 (b+1)))] k)) /\
 (aS (aD kC e 0 2) fun S=>aa Tryz.prog ke [.agg S] kC fun U l=>∃ x:Bool,U=.bool x/\(af x (CM (ak l e 2) fun W=>aa Tryz.prog gy [.str W] l fun X c=>∃ y:Bool,X=.bool y/\(af y (af ((b:Int)==0) (d [.bool true] c) (dn (ak c l1 20) fun Y=>bE (ag T bZ Y (.int .i64 (IntKind.wrap .i64 (b - 1)))) fun Z ab=>aS (aD c Z ab 2) fun ad=>aS (aD c e 0 2) fun ae=>aa Tryz.prog vt [.agg ad,.agg ae] c fun al am=>∃ z:Bool,al=.bool z/\(d [.bool z] am))) (d [.bool false] c))) (d [.bool false] l)))))
 (R (.bool r) mG)))))))))))
def MR:QA:=(.seq .leaf (.wrap (.seq (.seq .calm (.cond (.seq .leaf .leaf) .leaf)) (.seq (.seq .leaf (.cond (.seq .leaf .leaf) .leaf)) (.seq .leaf (.seq .leaf (.seq (.seq .leaf (.wrap (.loop [(3,.bool),(49,.int .i64)] [(3,5),(49,80)] (.seq .leaf (.seq (.cond .leaf .leaf) (.seq (.wrap (.seq .leaf (.join [(3,.bool)] [(3,3),(54,77)] .calm (.seq .leaf (.cond .leaf .leaf))))) .leaf)))))) (.seq .leaf .leaf))))))))
theorem MS (a0:List AV) (s:AS) (R:AV->AS->Prop) (h:MQ a0 s R):aa Tryz.prog xE [.agg a0] s R :=
 aa.q (n:=82) (rs:=[.tmp 2]) (A:=MR) hT bX Tryz.func169 (by kernel_rfl) rfl rfl rfl (by kernel_rfl) (by kernel_rfl) h
def O6 (a0:List AV) (a1:List UInt8) (s:AS) (R:AV->AS->Prop):Prop :=
 cj a0 (aj (.cells a0 0 false) s fun l1 s2=>dn (ak s2 l1 20) fun x=>aV .i64 (aL T bZ x s2) fun y=>bu fun i z=>i z [.slc none 0 0 true,.int .i64 0] s2 /\
 ∀ k:Nat,∀ j:AV,∀ d:Int,∀ b:AS,i k [j,.int .i64 d] b ->
 af (decide ((d:Int)<y))
 (bE (ag T bZ x (.int .i64 d)) fun l m=>aS (aD b l m 3) fun e=>aj (.cells [.int .i64 0,.int .u64 0,.str []] 0 false) b fun lN fH=>fy (some 3) e (bC (cS fH lN 0 e) fun c=>CM (ak c lN 2) fun n=>af ((n:List UInt8)==a1)
 (aS (aD c lN 0 2) fun o=>aS (de T aC 1 [(0,.agg o)]) fun p=>aj (.cells p 0 false) c fun r gl=>ig (aG T aC aC j (.slc (some (r,0)) 1 1 true) gl) fun w uR=>∃ m',m'<k/\i m' [w,(.int .i64 (IntKind.wrap .i64 (d+1)))] uR)
 (∃ m',m'<k/\i m' [j,(.int .i64 (IntKind.wrap .i64 (d+1)))] c)))
 (R j b))
def O7:QA:=(.seq .leaf (.seq .leaf (.seq (.seq .leaf (.wrap (.loop [(5,.any),(11,.int .i64)] [(5,5),(7,7),(11,24)] (.seq .leaf (.seq (.cond .leaf .leaf) (.seq (.wrap (.seq .leaf (.seq .leaf (.cond .leaf .leaf)))) .leaf)))))) (.seq .leaf .leaf))))
theorem O8 (a0:List AV) (a1:List UInt8) (s:AS) (R:AV->AS->Prop) (h:O6 a0 a1 s R):aa Tryz.prog zL [.agg a0,.str a1] s R :=
 aa.q (n:=26) (rs:=[.tmp 4]) (A:=O7) hT bX Tryz.func211 (by kernel_rfl) rfl rfl rfl (by kernel_rfl) (by kernel_rfl) h
def Ij (a0:List AV) (a1:List AV) (s:AS) (R:AV->AS->Prop):Prop :=
 cj a0 (aj (.cells a0 0 false) s fun l1 s2=>cj a1 (aj (.cells a1 0 false) s2 fun l3 s4=>aS (aD s4 l3 0 2) fun i=>aa Tryz.prog ke [.agg i] s4 fun j s7=>∃ e:Bool,j=.bool e/\(af e (aV .i64 (ak s7 l3 0) fun k=>bE (ag T aX (.ptr (some (l1,0))) (.int .i64 (IntKind.wrap .i64 (k - 1)))) fun nN b=>aV .u64 (ak s7 nN b) fun c=>aV .u64 (ak s7 l3 1) fun d=>R (.bool (decide ((c:Int)>=d))) s7) (R (.bool false) s7))))
def Ik:QA:=(.seq .leaf (.seq .calm .leaf))
theorem Il (a0:List AV) (a1:List AV) (s:AS) (R:AV->AS->Prop) (h:Ij a0 a1 s R):aa Tryz.prog tj [.agg a0,.agg a1] s R :=
 aa.q (n:=17) (rs:=[.tmp 4]) (A:=Ik) hT bX Tryz.func212 (by kernel_rfl) rfl rfl rfl (by kernel_rfl) (by kernel_rfl) h
def ko (a0:AV) (a1:AV) (s:AS) (R:AV->AS->Prop):Prop :=
 aa Tryz.prog dO [a0,a1] s fun c s2=>∃ b:Int,c=.int .i64 b/\(R (.bool (decide ((b:Int)>=0))) s2)
def kq:QA:=(.seq .leaf (.seq .leaf .leaf))
theorem kr (a0:AV) (a1:AV) (s:AS) (R:AV->AS->Prop) (h:ko a0 a1 s R):aa Tryz.prog ct [a0,a1] s R :=
 aa.q (n:=9) (rs:=[.tmp 4]) (A:=kq) hT bX Tryz.func185 (by kernel_rfl) rfl rfl rfl (by kernel_rfl) (by kernel_rfl) h
def lD (a0:AV) (a1:AV) (s:AS) (R:AV->AS->Prop):Prop :=
 aV .i64 (aL T fF a0 s) fun j=>bu fun e k=>e k [.int .i64 0] s /\
 ∀ i:Nat,∀ b:Int,∀ s6:AS,e i [.int .i64 b] s6 ->
 af (decide ((b:Int)<j))
 (bE (ag T fF a0 (.int .i64 b)) fun l m=>aV .u64 (ak s6 l m) fun n=>eK Tryz.prog a1 [.int .u64 n] s6 fun v10 c=>∃ d:Bool,v10=.bool d/\(af d
 (R (.int .i64 b) c)
 (∃ m',m'<i/\e m' [(.int .i64 (IntKind.wrap .i64 (b+1)))] c)))
 (R (.int .i64 (-1)) s6)
def lE:QA:=(.seq .leaf (.seq (.seq .leaf (.wrap (.loop [(8,.int .i64)] [(4,5),(8,18)] (.seq .leaf (.seq (.cond .leaf .leaf) (.seq (.wrap (.seq .leaf (.seq .leaf (.cond (.seq .leaf .leaf) .leaf)))) .leaf)))))) (.seq .leaf .leaf)))
theorem lF (a0:AV) (a1:AV) (s:AS) (R:AV->AS->Prop) (h:lD a0 a1 s R):aa Tryz.prog dO [a0,a1] s R :=
 aa.q (n:=19) (rs:=[.tmp 4]) (A:=lE) hT bX Tryz.func245 (by kernel_rfl) rfl rfl rfl (by kernel_rfl) (by kernel_rfl) h
def nq (a0:AV) (a1:AV) (s:AS) (R:AV->AS->Prop):Prop :=
 aa Tryz.prog fj [a0,a1] s fun c s2=>∃ b:Int,c=.int .i64 b/\(R (.bool (decide ((b:Int)>=0))) s2)
def nr:QA:=(.seq .leaf (.seq .leaf .leaf))
theorem nu (a0:AV) (a1:AV) (s:AS) (R:AV->AS->Prop) (h:nq a0 a1 s R):aa Tryz.prog eC [a0,a1] s R :=
 aa.q (n:=9) (rs:=[.tmp 4]) (A:=nr) hT bX Tryz.func213 (by kernel_rfl) rfl rfl rfl (by kernel_rfl) (by kernel_rfl) h
def pP (a0:AV) (a1:AV) (s:AS) (R:AV->AS->Prop):Prop :=
 aV .i64 (aL T aC a0 s) fun j=>bu fun e k=>e k [.int .i64 0] s /\
 ∀ i:Nat,∀ b:Int,∀ s6:AS,e i [.int .i64 b] s6 ->
 af (decide ((b:Int)<j))
 (bE (ag T aC a0 (.int .i64 b)) fun l m=>aS (aD s6 l m 2) fun n=>eK Tryz.prog a1 [.agg n] s6 fun v10 c=>∃ d:Bool,v10=.bool d/\(af d
 (R (.int .i64 b) c)
 (∃ m',m'<i/\e m' [(.int .i64 (IntKind.wrap .i64 (b+1)))] c)))
 (R (.int .i64 (-1)) s6)
def pQ:QA:=(.seq .leaf (.seq (.seq .leaf (.wrap (.loop [(8,.int .i64)] [(4,5),(8,18)] (.seq .leaf (.seq (.cond .leaf .leaf) (.seq (.wrap (.seq .leaf (.seq .leaf (.cond (.seq .leaf .leaf) .leaf)))) .leaf)))))) (.seq .leaf .leaf)))
theorem pR (a0:AV) (a1:AV) (s:AS) (R:AV->AS->Prop) (h:pP a0 a1 s R):aa Tryz.prog fj [a0,a1] s R :=
 aa.q (n:=19) (rs:=[.tmp 4]) (A:=pQ) hT bX Tryz.func256 (by kernel_rfl) rfl rfl rfl (by kernel_rfl) (by kernel_rfl) h
end
section
set_option maxRecDepth 100000
set_option maxHeartbeats 4000000
open Go.Am
def Ez (a0:Int) (s:AS) (R:AV->AS->Prop):Prop :=
 aa Tryz.prog m_ [.int .u64 a0] s fun c s2=>∃ b:Int,c=.int .i64 b/\(R (.int .i64 b) s2)
def EA:QA:=(.seq .leaf (.seq (.cond (.seq .leaf .leaf) .leaf) (.seq .leaf .leaf)))
theorem EB (a0:Int) (s:AS) (R:AV->AS->Prop) (h:Ez a0 s R):aa Tryz.prog lM [.int .u64 a0] s R :=
 aa.q (n:=8) (rs:=[.tmp 2]) (A:=EA) hT bX Tryz.func177 (by kernel_rfl) rfl rfl rfl (by kernel_rfl) (by kernel_rfl) h
def BH (a0:Int) (s:AS) (R:AV->AS->Prop):Prop :=
 bt fun e =>
 (∀ n2:Int,∀ i:Int,∀ s4:AS,e [.int .u64 n2,.int .i64 i] s4 ->
 bt fun j =>
 (∀ d:Int,∀ k:Int,∀ s8:AS,j [.int .u64 d,.int .i64 k] s8 ->
 bt fun l =>
 (∀ b:Int,∀ c:Int,∀ dJ:AS,l [.int .u64 b,.int .i64 c] dJ ->
 aV .u8 (ju T cL (.str [0,1,2,2,3,3,3,3,4,4,4,4,4,4,4,4,5,5,5,5,5,5,5,5,5,5,5,5,5,5,5,5,6,6,6,6,6,6,6,6,6,6,6,6,6,6,6,6,6,6,6,6,6,6,6,6,6,6,6,6,6,6,6,6,7,7,7,7,7,7,7,7,7,7,7,7,7,7,7,7,7,7,7,7,7,7,7,7,7,7,7,7,7,7,7,7,7,7,7,7,7,7,7,7,7,7,7,7,7,7,7,7,7,7,7,7,7,7,7,7,7,7,7,7,7,7,7,7,8,8,8,8,8,8,8,8,8,8,8,8,8,8,8,8,8,8,8,8,8,8,8,8,8,8,8,8,8,8,8,8,8,8,8,8,8,8,8,8,8,8,8,8,8,8,8,8,8,8,8,8,8,8,8,8,8,8,8,8,8,8,8,8,8,8,8,8,8,8,8,8,8,8,8,8,8,8,8,8,8,8,8,8,8,8,8,8,8,8,8,8,8,8,8,8,8,8,8,8,8,8,8,8,8,8,8,8,8,8,8,8,8,8,8,8,8,8,8,8,8,8,8,8,8,8,8,8]) (.int .u8 (IntKind.wrap .u8 b))) fun m=>R (.int .i64 (IntKind.wrap .i64 (c+(IntKind.wrap .i64 m)))) dJ) /\
 (af (decide ((d:Int)>=256))
 (NN 8 (l [(.int .u64 (Int.fdiv d (2 ^ min (Int.toNat 8) (IntKind.bits .u64)))),(.int .i64 (IntKind.wrap .i64 (k+8)))] s8))
 (l [.int .u64 d,.int .i64 k] s8))) /\
 (af (decide ((n2:Int)>=65536))
 (NN 16 (j [(.int .u64 (Int.fdiv n2 (2 ^ min (Int.toNat 16) (IntKind.bits .u64)))),(.int .i64 (IntKind.wrap .i64 (i+16)))] s4))
 (j [.int .u64 n2,.int .i64 i] s4))) /\
 (af (decide ((a0:Int)>=4294967296))
 (NN 32 (e [(.int .u64 (Int.fdiv a0 (2 ^ min (Int.toNat 32) (IntKind.bits .u64)))),.int .i64 32] s))
 (e [.int .u64 a0,.int .i64 0] s))
def BI:QA:=(.seq .leaf (.join [(0,.int .u64),(2,.int .i64)] [(0,0),(2,6)] (.seq .leaf (.cond (.seq .leaf .leaf) .leaf)) (.join [(0,.int .u64),(2,.int .i64)] [(0,0),(2,2),(7,12)] (.seq .leaf (.cond (.seq .leaf .leaf) .leaf)) (.join [(0,.int .u64),(2,.int .i64)] [(0,0),(2,2),(13,18)] (.seq .leaf (.cond (.seq .leaf .leaf) .leaf)) (.seq .leaf .leaf)))))
theorem BJ (a0:Int) (s:AS) (R:AV->AS->Prop) (h:BH a0 s R):aa Tryz.prog m_ [.int .u64 a0] s R :=
 aa.q (n:=25) (rs:=[.tmp 2]) (A:=BI) hT bX Tryz.func237 (by kernel_rfl) rfl rfl rfl (by kernel_rfl) (by kernel_rfl) h
end
section
set_option maxRecDepth 100000
set_option maxHeartbeats 4000000
open Go.Am
def qi (a0:AV) (s:AS) (R:AV->AS->Prop):Prop :=
 bt fun z =>
 (∀ n2:Int,∀ s3:AS,z [.int .i64 n2] s3 ->
 aa Tryz.prog f_ [.slc none 0 0 true,.int .i64 n2] s3 fun C A=>aV .i64 (aL T eV a0 A) fun D=>bu fun l F=>l F [C,.int .i64 0] A /\
 ∀ B:Nat,∀ v10:AV,∀ c:Int,∀ dJ:AS,l B [v10,.int .i64 c] dJ ->
 af (decide ((c:Int)<D))
 (bE (ag T eV a0 (.int .i64 c)) fun m n=>dn (ak dJ m n) fun o=>ig (aG T av av v10 o dJ) fun nO kU=>∃ m',m'<B/\l m' [nO,(.int .i64 (IntKind.wrap .i64 (c+1)))] kU)
 (R v10 dJ)) /\
 (aV .i64 (aL T eV a0 s) fun p=>bu fun i r=>i r [.int .i64 0,.int .i64 0] s /\
 ∀ j:Nat,∀ d:Int,∀ e:Int,∀ b:AS,i j [.int .i64 d,.int .i64 e] b ->
 af (decide ((e:Int)<p))
 (bE (ag T eV a0 (.int .i64 e)) fun w x=>dn (ak b w x) fun y=>aV .i64 (aL T av y b) fun k=>af (decide ((IntKind.wrap .i64 (d+k):Int)<0))
 (False)
 (∃ m',m'<j/\i m' [(.int .i64 (IntKind.wrap .i64 (d+k))),(.int .i64 (IntKind.wrap .i64 (e+1)))] b))
 (z [.int .i64 d] b))
def qj:QA:=(.seq .leaf (.seq .leaf (.join [(3,.int .i64)] [(3,3),(5,5),(9,22)] (.seq .leaf (.wrap (.loop [(3,.int .i64),(11,.int .i64)] [(3,3),(5,5),(11,22)] (.seq .leaf (.seq (.cond .leaf .leaf) (.seq (.wrap (.seq .leaf (.seq .leaf (.seq .leaf (.cond .leaf .leaf))))) .leaf)))))) (.seq .leaf (.seq (.seq .leaf (.wrap (.loop [(6,.any),(27,.int .i64)] [(6,6),(8,8),(27,34)] (.seq .leaf (.seq (.cond .leaf .leaf) (.seq (.wrap (.seq .leaf .leaf)) .leaf)))))) (.seq .leaf .leaf))))))
theorem qk (a0:AV) (s:AS) (R:AV->AS->Prop) (h:qi a0 s R):aa Tryz.prog fE [a0] s R :=
 aa.q (n:=36) (rs:=[.tmp 2]) (A:=qj) hT bX Tryz.func248 (by kernel_rfl) rfl rfl rfl (by kernel_rfl) (by kernel_rfl) h
def rJ (a0:AV) (a1:Int) (s:AS) (R:AV->AS->Prop):Prop :=
 af (decide ((a1:Int)<0))
 (False)
 (aV .i64 (wR T av a0) fun b=>aV .i64 (aL T av a0 s) fun n2=>af (decide ((IntKind.wrap .i64 (a1 - (IntKind.wrap .i64 (b - n2))):Int)>0))
 (aV .i64 (wR T av a0) fun c=>dn (bf T av a0 none (some (.int .i64 c)) none) fun d=>ig (aG T av um d (.int .i64 (IntKind.wrap .i64 (a1 - (IntKind.wrap .i64 (b - n2))))) s) fun e s6=>aV .i64 (aL T av a0 s6) fun i=>dn (bf T av e none (some (.int .i64 i)) none) fun j=>R j s6)
 (R a0 s))
def rK:QA:=(.seq .leaf (.seq (.seq .leaf (.cond .leaf .leaf)) (.seq (.seq .leaf (.seq .leaf (.cond .leaf .leaf))) (.seq .leaf .leaf))))
theorem rL (a0:AV) (a1:Int) (s:AS) (R:AV->AS->Prop) (h:rJ a0 a1 s R):aa Tryz.prog f_ [a0,.int .i64 a1] s R :=
 aa.q (n:=27) (rs:=[.tmp 4]) (A:=rK) hT bX Tryz.func280 (by kernel_rfl) rfl rfl rfl (by kernel_rfl) (by kernel_rfl) h
def qH (a0:AV) (s:AS) (R:AV->AS->Prop):Prop :=
 sr (Q9 T av true a0 (.slc none 0 0 true)) fun b=>af b
 (R (.slc none 0 0 true) s)
 (aS (de T av 0 []) fun c=>aj (.cells c 0 false) s fun l3 s4=>ig (aG T av av (.slc (some (l3,0)) 0 0 true) a0 s4) fun d s6=>R d s6)
def qI:QA:=(.seq .leaf (.seq (.seq .leaf (.cond (.seq .leaf .leaf) .leaf)) (.seq .leaf .leaf)))
theorem qJ (a0:AV) (s:AS) (R:AV->AS->Prop) (h:qH a0 s R):aa Tryz.prog aZ [a0] s R :=
 aa.q (n:=8) (rs:=[.tmp 2]) (A:=qI) hT bX Tryz.func70 (by kernel_rfl) rfl rfl rfl (by kernel_rfl) (by kernel_rfl) h
def O9 (a0:Int) (a1:Int) (s:AS) (R:AV->AS->Prop):Prop :=
 bt fun c =>
 (∀ i:Bool,∀ s3:AS,c [.bool i] s3 ->
 af i
 (R (.aQ [.slc none 0 0 true,.int .i64 2]) s3)
 (bt fun j =>
 (∀ k:AV,∀ s6:AS,j [k] s6 ->
 R (.aQ [k,.int .i64 0]) s6) /\
 (bu fun d m=>d m [.slc none 0 0 true,.int .i64 0] s3 /\
 ∀ l:Nat,∀ v10:AV,∀ b:Int,∀ dJ:AS,d l [v10,.int .i64 b] dJ ->
 af (decide ((b:Int)<a1))
 (NN (IntKind.wrap .i64 (8*(IntKind.wrap .i64 ((IntKind.wrap .i64 (a1 - 1)) - b)))) (aS (de T av 1 [(0,(.int .u8 (IntKind.wrap .u8 (Int.fdiv a0 (2 ^ min (Int.toNat (IntKind.wrap .i64 (8*(IntKind.wrap .i64 ((IntKind.wrap .i64 (a1 - 1)) - b))))) (IntKind.bits .u64))))))]) fun e=>aj (.cells e 0 false) dJ fun lN fH=>ig (aG T av av v10 (.slc (some (lN,0)) 1 1 true) fH) fun nO kU=>∃ m',m'<l/\d m' [nO,(.int .i64 (IntKind.wrap .i64 (b+1)))] kU))
 (j [v10] dJ)))) /\
 (af (decide ((a1:Int)<1)) (c [.bool true] s) (af (decide ((a1:Int)>8)) (c [.bool true] s) (af (decide ((a1:Int)<8)) (NN (IntKind.wrap .i64 (8*a1)) (c [(.bool ((Int.fdiv a0 (2 ^ min (Int.toNat (IntKind.wrap .i64 (8*a1))) (IntKind.bits .u64)):Int) != 0))] s)) (c [.bool false] s))))
def O_:QA:=(.seq .leaf (.seq (.join [(24,.bool)] [(8,24)] .leaf (.cond (.seq .leaf .leaf) .leaf)) (.seq .leaf (.join [(6,.any)] [(6,7),(25,40)] (.seq .leaf (.wrap (.loop [(6,.any),(26,.int .i64)] [(6,7),(26,40)] (.seq .leaf (.seq (.cond .leaf .leaf) (.seq (.wrap (.seq .leaf .leaf)) .leaf)))))) (.seq .leaf .leaf)))))
theorem Pa (a0:Int) (a1:Int) (s:AS) (R:AV->AS->Prop) (h:O9 a0 a1 s R):aa Tryz.prog vr [.int .u64 a0,.int .i64 a1] s R :=
 aa.q (n:=42) (rs:=[.tmp 4,.tmp 5]) (A:=O_) hT bX Tryz.func216 (by kernel_rfl) rfl rfl rfl (by kernel_rfl) (by kernel_rfl) h
def Im (a0:List AV) (s:AS) (R:AV->AS->Prop):Prop :=
 cj a0 (aj (.cells a0 0 false) s fun l1 s2=>aS (aD s2 l1 0 16) fun n=>bu fun d o=>d o [.slc none 0 0 true,.int .i64 0] s2 /\
 ∀ m:Nat,∀ e:AV,∀ c:Int,∀ s9:AS,d m [e,.int .i64 c] s9 ->
 af (decide ((c:Int)<16))
 (aV .u64 (ju T aX (.agg n) (.int .i64 c)) fun i=>aa Tryz.prog vr [.int .u64 i,.int .i64 8] s9 fun v11 dJ=>∃ b:AV,∃ j:Int,v11=.aQ [b,.int .i64 j]/\(ig (aG T av av e b dJ) fun k l=>∃ m',m'<m/\d m' [k,(.int .i64 (IntKind.wrap .i64 (c+1)))] l))
 (R e s9))
def Io:QA:=(.seq .leaf (.seq .leaf (.seq (.seq .leaf (.wrap (.loop [(3,.any),(9,.int .i64)] [(3,3),(5,7),(9,20)] (.seq .leaf (.seq (.cond .leaf .leaf) (.seq (.wrap (.seq .leaf (.seq .leaf .leaf))) .leaf)))))) (.seq .leaf .leaf))))
theorem Ip (a0:List AV) (s:AS) (R:AV->AS->Prop) (h:Im a0 s R):aa Tryz.prog s_ [.agg a0] s R :=
 aa.q (n:=22) (rs:=[.tmp 2]) (A:=Io) hT bX Tryz.func161 (by kernel_rfl) rfl rfl rfl (by kernel_rfl) (by kernel_rfl) h
def MT (a0:AV) (s:AS) (R:AV->AS->Prop):Prop :=
 aV .i64 (aL T av a0 s) fun c=>af (decide ((c:Int)>65535))
 (R (.aQ [.slc none 0 0 true,.int .i64 3]) s)
 (aV .i64 (aL T av a0 s) fun n2=>aa Tryz.prog vr [(.int .u64 (IntKind.wrap .u64 n2)),.int .i64 2] s fun d s4=>∃ b:AV,∃ e:Int,d=.aQ [b,.int .i64 e]/\(ig (aG T av av b a0 s4) fun i s8=>R (.aQ [i,.int .i64 0]) s8))
def MU:QA:=(.seq .leaf (.seq (.seq .leaf (.cond (.seq .leaf .leaf) .leaf)) (.seq .leaf (.seq .leaf .leaf))))
theorem MV (a0:AV) (s:AS) (R:AV->AS->Prop) (h:MT a0 s R):aa Tryz.prog xD [a0] s R :=
 aa.q (n:=19) (rs:=[.tmp 2,.tmp 3]) (A:=MU) hT bX Tryz.func166 (by kernel_rfl) rfl rfl rfl (by kernel_rfl) (by kernel_rfl) h
end
section
set_option maxRecDepth 100000
set_option maxHeartbeats 4000000
open Go.Am
def mA (a0:Int) (s:AS) (R:AV->AS->Prop):Prop :=
 aa Tryz.prog lM [(.int .u64 (IntKind.wrap .u64 a0))] s fun c s2=>∃ b:Int,c=.int .i64 b/\(NN b (R (.int .u64 (IntKind.wrap .u64 (1*2 ^ min (Int.toNat b) (IntKind.bits .u64)))) s2))
def ux:QA:=(.seq .leaf (.seq .leaf .leaf))
theorem uy (a0:Int) (s:AS) (R:AV->AS->Prop) (h:mA a0 s R):aa Tryz.prog iE [.int .i64 a0] s R :=
 aa.q (n:=7) (rs:=[.tmp 2]) (A:=ux) hT bX Tryz.func266 (by kernel_rfl) rfl rfl rfl (by kernel_rfl) (by kernel_rfl) h
def vD (a0:Option (Nat×Nat)) (s:AS) (R:AV->AS->Prop):Prop :=
 ah a0 fun l1 o2=>aV .u64 (ak s l1 o2) fun G=>ah a0 fun H I=>aV .u64 (ak s H I) fun J=>NN 13 (aV .u64 (bG .xor .u64 G (IntKind.wrap .u64 (J*2 ^ min (Int.toNat 13) (IntKind.bits .u64)))) fun K=>ah a0 fun L M=>bC (cS s L M [.int .u64 K]) fun b=>ah a0 fun d e=>aV .u64 (ak b d e) fun i=>ah a0 fun lN j=>aV .u64 (ak b lN j) fun k=>NN 7 (aV .u64 (bG .xor .u64 i (Int.fdiv k (2 ^ min (Int.toNat 7) (IntKind.bits .u64)))) fun l=>ah a0 fun m n=>bC (cS b m n [.int .u64 l]) fun gw=>ah a0 fun o p=>aV .u64 (ak gw o p) fun r=>ah a0 fun w x=>aV .u64 (ak gw w x) fun y=>NN 17 (aV .u64 (bG .xor .u64 r (IntKind.wrap .u64 (y*2 ^ min (Int.toNat 17) (IntKind.bits .u64)))) fun z=>ah a0 fun A B=>bC (cS gw A B [.int .u64 z]) fun c=>ah a0 fun C D=>aV .u64 (ak c C D) fun F=>R (.int .u64 F) c)))
def vE:QA:=(.seq .leaf (.seq (.draw 7) (.seq (.draw 7) (.seq (.draw 7) (.seq .leaf .leaf)))))
theorem vF (a0:Option (Nat×Nat)) (s:AS) (R:AV->AS->Prop) (h:vD a0 s R):aa Tryz.prog iV [.ptr a0] s R :=
 aa.q (n:=33) (rs:=[.tmp 2]) (A:=vE) hT bX Tryz.func267 (by kernel_rfl) rfl rfl rfl (by kernel_rfl) (by kernel_rfl) h
end
end Go.Proofs.YtohgmogbabkkeaaGreat
namespace Go.Proofs.YtohgmogbabkkeaaGreat.SG
section
set_option maxRecDepth 100000
set_option maxHeartbeats 4000000
open Go.Am Go.aq.SG
structure SE where
 O:OE
 cC:El O->List AV
 w:Nat
 len:∀ x,(cC x).length=w
 one:∀ x,(cC x).all AV.one=true
 ys:TypeId
 ye:TypeId
 us:T.cW ys=some (.slice ye)
 zs:T.eZ ye=some w
 vG:FuncId
 fT:FuncId
 fM:FuncId
 nv:FuncId
 ku:FuncId
 jA:FuncId
 fk:FuncId
 iG:FuncId
 lY:FuncId
 jN:FuncId
 ec:FuncId
 lO:FuncId
 ji:FuncId
 iW:FuncId
variable (E:SE)
def Pb (a0:AV) (a1:AV) (s:AS) (R:AV->AS->Prop):Prop :=
 aV .i64 (aL T E.ys a0 s) fun b=>aa Tryz.prog lM [(.int .u64 (IntKind.wrap .u64 b))] s fun d s3=>∃ c:Int,d=.int .i64 c/\(aa Tryz.prog E.fT [a0,.int .i64 0,.int .i64 b,.int .i64 c,a1] s3 fun e s6=>e=.aQ []/\(R (.aQ []) s6))
def Pc:QA:=(.seq .leaf .leaf)
def Dc (a0:AV) (a1:Int) (a2:Int) (a3:Int) (a4:AV) (s:AS) (R:AV->AS->Prop):Prop :=
 bu fun B m2=>B m2 [.int .i64 a1,.int .i64 a2,.int .i64 a3,.bool true,.bool true] s /\
 ∀ L:Nat,∀ b:Int,∀ d:Int,∀ M:Int,∀ O:Bool,∀ Q:Bool,∀ s9:AS,B L [.int .i64 b,.int .i64 d,.int .i64 M,.bool O,.bool Q] s9 ->
 af (decide ((IntKind.wrap .i64 (d - b):Int)<=12))
 (aa Tryz.prog E.fM [a0,.int .i64 b,.int .i64 d,a4] s9 fun v10 S=>v10=.aQ []/\(R (.aQ []) S))
 (af ((M:Int)==0)
 (aa Tryz.prog E.nv [a0,.int .i64 b,.int .i64 d,a4] s9 fun U bQ=>U=.aQ []/\(R (.aQ []) bQ))
 (bt fun m =>
 (∀ e:Int,∀ C:AS,m [.int .i64 e] C ->
 aa Tryz.prog E.ku [a0,.int .i64 b,.int .i64 d,a4] C fun W eH=>∃ n:Int,∃ o:Int,W=.aQ [.int .i64 n,.int .i64 o]/\(bt fun p =>
 (∀ j:Int,∀ D:Int,∀ k:AS,p [.int .i64 j,.int .i64 D] k ->
 bt fun r =>
 (∀ i:AS,r [] i ->
 bt fun x =>
 (∀ F:Bool,∀ y:AS,x [.bool F] y ->
 af F
 (aa Tryz.prog E.iG [a0,.int .i64 b,.int .i64 d,.int .i64 j,a4] y fun v30 mG=>∃ G:Int,v30=.int .i64 G/\(∃ m',m'<L/\B m' [.int .i64 G,.int .i64 d,.int .i64 e,.bool O,.bool Q] mG))
 (aa Tryz.prog E.lY [a0,.int .i64 b,.int .i64 d,.int .i64 j,a4] y fun X lC=>∃ c:Int,∃ z:Bool,X=.aQ [.int .i64 c,.bool z]/\(NZ 8 (af (decide ((IntKind.wrap .i64 (c - b):Int)<(IntKind.wrap .i64 (d - c))))
 (aa Tryz.prog E.fT [a0,.int .i64 b,.int .i64 c,.int .i64 e,a4] lC fun Y Z=>Y=.aQ []/\(∃ m',m'<L/\B m' [(.int .i64 (IntKind.wrap .i64 (c+1))),.int .i64 d,.int .i64 e,(.bool (decide ((IntKind.wrap .i64 (c - b):Int)>=(IntKind.wrap .i64 (Int.tdiv (IntKind.wrap .i64 (d - b)) 8))))),.bool z] Z))
 (aa Tryz.prog E.fT [a0,(.int .i64 (IntKind.wrap .i64 (c+1))),.int .i64 d,.int .i64 e,a4] lC fun ab ad=>ab=.aQ []/\(∃ m',m'<L/\B m' [.int .i64 b,.int .i64 c,.int .i64 e,(.bool (decide ((IntKind.wrap .i64 (d - c):Int)>=(IntKind.wrap .i64 (Int.tdiv (IntKind.wrap .i64 (d - b)) 8))))),.bool z] ad)))))) /\
 (af (decide ((b:Int)>0)) (bE (ag T E.ys a0 (.int .i64 (IntKind.wrap .i64 (b - 1)))) fun ae al=>aS (aD i ae al E.w) fun am=>bE (ag T E.ys a0 (.int .i64 j)) fun an ao=>aS (aD i an ao E.w) fun ar=>eK Tryz.prog a4 [.agg am,.agg ar] i fun aw a5=>∃ H:Int,aw=.int .i64 H/\(x [(.bool (!(decide ((H:Int)<0))))] a5)) (x [.bool false] i))) /\
 (bt fun l =>
 (∀ I:Bool,∀ A:AS,l [.bool I] A ->
 af I
 (aa Tryz.prog E.fk [a0,.int .i64 b,.int .i64 d,a4] A fun a6 J=>∃ K:Bool,a6=.bool K/\(af K
 (R (.aQ []) J)
 (r [] J)))
 (r [] A)) /\
 (af O (af Q (l [(.bool ((D:Int)==1))] k) (l [.bool false] k)) (l [.bool false] k)))) /\
 (af ((o:Int)==2)
 (aa Tryz.prog E.jA [a0,.int .i64 b,.int .i64 d,a4] eH fun a7 a8=>a7=.aQ []/\(p [(.int .i64 (IntKind.wrap .i64 ((IntKind.wrap .i64 (d - 1)) - (IntKind.wrap .i64 (n - b))))),.int .i64 1] a8))
 (p [.int .i64 n,.int .i64 o] eH)))) /\
 (af (!O)
 (aa Tryz.prog E.iW [a0,.int .i64 b,.int .i64 d,a4] s9 fun a9 a'=>a9=.aQ []/\(m [(.int .i64 (IntKind.wrap .i64 (M - 1)))] a'))
 (m [.int .i64 M] s9))))
def Dd:QA:=(.seq .leaf (.seq .leaf (.wrap (.loop [(1,.int .i64),(2,.int .i64),(3,.int .i64),(10,.bool),(11,.bool)] [(1,3),(10,147)] (.wrap (.seq .leaf (.seq (.seq .leaf (.cond (.seq .leaf .leaf) .leaf)) (.seq (.seq .leaf (.cond (.seq .leaf .leaf) .leaf)) (.join [(3,.int .i64)] [(3,3),(38,46)] (.seq .leaf (.cond (.seq .leaf .leaf) .leaf)) (.seq .leaf (.join [(13,.int .i64),(14,.int .i64)] [(13,14),(55,67)] (.seq .leaf (.cond (.seq .leaf (.seq .leaf .leaf)) .leaf)) (.join [] [(68,80)] (.join [(75,.bool)] [(68,75)] .leaf (.cond (.seq .leaf (.cond .leaf .leaf)) .leaf)) (.seq (.join [(97,.bool)] [(81,97)] (.draw 13) (.cond (.seq .leaf (.seq .leaf .leaf)) .leaf)) (.seq .leaf (.seq .leaf (.seq .leaf (.seq .leaf (.seq .leaf (.cond (.seq .leaf (.seq .leaf .leaf)) (.seq .leaf (.seq .leaf .leaf)))))))))))))))))))))
def vH (a0:AV) (a1:Int) (a2:Int) (a3:AV) (s:AS) (R:AV->AS->Prop):Prop :=
 bu fun k m2=>k m2 [(.int .i64 (IntKind.wrap .i64 (a1+1)))] s /\
 ∀ l:Nat,∀ d:Int,∀ m:AS,k l [.int .i64 d] m ->
 af (decide ((d:Int)<a2))
 (bu fun n L=>n L [.int .i64 d] m /\
 ∀ K:Nat,∀ c:Int,∀ b:AS,n K [.int .i64 c] b ->
 af (decide ((c:Int)>a1)) (bE (ag T E.ys a0 (.int .i64 c)) fun o p=>aS (aD b o p E.w) fun r=>bE (ag T E.ys a0 (.int .i64 (IntKind.wrap .i64 (c - 1)))) fun lN x=>aS (aD b lN x E.w) fun y=>eK Tryz.prog a3 [.agg r,.agg y] b fun z eH=>∃ e:Int,z=.int .i64 e/\(af (decide ((e:Int)<0))
 (bE (ag T E.ys a0 (.int .i64 (IntKind.wrap .i64 (c - 1)))) fun A B=>aS (aD eH A B E.w) fun i=>bE (ag T E.ys a0 (.int .i64 c)) fun C D=>aS (aD eH C D E.w) fun j=>bE (ag T E.ys a0 (.int .i64 c)) fun F G=>fy (some E.w) i (bC (cS eH F G i) fun H=>bE (ag T E.ys a0 (.int .i64 (IntKind.wrap .i64 (c - 1)))) fun I J=>fy (some E.w) j (bC (cS H I J j) fun mG=>∃ m',m'<K/\n m' [(.int .i64 (IntKind.wrap .i64 (c - 1)))] mG)))
 (∃ m',m'<l/\k m' [(.int .i64 (IntKind.wrap .i64 (d+1)))] eH))) (∃ m',m'<l/\k m' [(.int .i64 (IntKind.wrap .i64 (d+1)))] b))
 (R (.aQ []) m)
def vI:QA:=(.seq .leaf (.wrap (.loop [(8,.int .i64)] [(8,9),(12,52)] (.seq (.seq .leaf (.cond .leaf .leaf)) (.seq (.wrap (.seq .leaf (.wrap (.loop [(9,.int .i64)] [(9,9),(18,52)] (.seq (.seq (.draw 14) (.cond .leaf .leaf)) (.seq (.wrap .calm) .leaf)))))) .leaf)))))
def BK (a0:AV) (a1:Int) (a2:Int) (a3:AV) (s:AS) (R:AV->AS->Prop):Prop :=
 bt fun B =>
 (∀ s2:AS,B [] s2 ->
 bu fun l D=>l D [(.int .i64 (IntKind.wrap .i64 ((IntKind.wrap .i64 (a2 - a1)) - 1)))] s2 /\
 ∀ C:Nat,∀ e:Int,∀ s7:AS,l C [.int .i64 e] s7 ->
 af (decide ((e:Int)>=0))
 (bE (ag T E.ys a0 (.int .i64 (IntKind.wrap .i64 (a1+e)))) fun F G=>aS (aD s7 F G E.w) fun i=>bE (ag T E.ys a0 (.int .i64 a1)) fun m n=>aS (aD s7 m n E.w) fun j=>bE (ag T E.ys a0 (.int .i64 a1)) fun lN o=>fy (some E.w) i (bC (cS s7 lN o i) fun p=>bE (ag T E.ys a0 (.int .i64 (IntKind.wrap .i64 (a1+e)))) fun r x=>fy (some E.w) j (bC (cS p r x j) fun iF=>aa Tryz.prog E.jN [a0,.int .i64 0,.int .i64 e,.int .i64 a1,a3] iF fun v20 gl=>v20=.aQ []/\(∃ m',m'<C/\l m' [(.int .i64 (IntKind.wrap .i64 (e - 1)))] gl))))
 (R (.aQ []) s7)) /\
 (NZ 2 (bu fun c y=>c y [(.int .i64 (IntKind.wrap .i64 (Int.tdiv (IntKind.wrap .i64 ((IntKind.wrap .i64 (a2 - a1)) - 1)) 2)))] s /\
 ∀ k:Nat,∀ b:Int,∀ d:AS,c k [.int .i64 b] d ->
 af (decide ((b:Int)>=0))
 (aa Tryz.prog E.jN [a0,.int .i64 b,(.int .i64 (IntKind.wrap .i64 (a2 - a1))),.int .i64 a1,a3] d fun z A=>z=.aQ []/\(∃ m',m'<k/\c m' [(.int .i64 (IntKind.wrap .i64 (b - 1)))] A))
 (B [] d)))
def BL:QA:=(.seq .leaf (.seq .leaf (.seq .leaf (.join [] [(11,11),(17,29)] (.seq .leaf (.wrap (.loop [(11,.int .i64)] [(11,11),(20,29)] (.seq (.seq .leaf (.cond .leaf .leaf)) (.seq (.wrap .leaf) .leaf))))) (.seq .leaf (.wrap (.loop [(12,.int .i64)] [(12,12),(32,59)] (.seq (.seq .leaf (.cond .leaf .leaf)) (.seq (.wrap (.seq .calm .leaf)) .leaf)))))))))
def xW (a0:AV) (a1:Int) (a2:Int) (a3:AV) (s:AS) (R:AV->AS->Prop):Prop :=
 aj (.cells [.int .i64 0] 0 false) s fun l1 s2=>NZ 4 (NZ 4 (NZ 4 (bt fun m =>
 (∀ l:Int,∀ b:AS,m [.int .i64 l] b ->
 aV .i64 (ak b l1 0) fun y=>af ((y:Int)==0)
 (R (.aQ [.int .i64 l,.int .i64 1]) b)
 (af ((y:Int)==12)
 (R (.aQ [.int .i64 l,.int .i64 2]) b)
 (R (.aQ [.int .i64 l,.int .i64 0]) b))) /\
 (af (decide ((IntKind.wrap .i64 (a2 - a1):Int)>=8))
 (bt fun n =>
 (∀ z:Int,∀ A:Int,∀ c:Int,∀ d:AS,n [.int .i64 z,.int .i64 A,.int .i64 c] d ->
 aa Tryz.prog E.lO [a0,.int .i64 z,.int .i64 A,.int .i64 c,(.ptr (some (l1,0))),a3] d fun o bQ=>∃ e:Int,o=.int .i64 e/\(m [.int .i64 e] bQ)) /\
 (af (decide ((IntKind.wrap .i64 (a2 - a1):Int)>=50))
 (aa Tryz.prog E.ec [a0,(.int .i64 (IntKind.wrap .i64 (a1+(IntKind.wrap .i64 ((IntKind.wrap .i64 (Int.tdiv (IntKind.wrap .i64 (a2 - a1)) 4))*1))))),(.ptr (some (l1,0))),a3] s2 fun p r=>∃ i:Int,p=.int .i64 i/\(aa Tryz.prog E.ec [a0,(.int .i64 (IntKind.wrap .i64 (a1+(IntKind.wrap .i64 ((IntKind.wrap .i64 (Int.tdiv (IntKind.wrap .i64 (a2 - a1)) 4))*2))))),(.ptr (some (l1,0))),a3] r fun w iF=>∃ j:Int,w=.int .i64 j/\(aa Tryz.prog E.ec [a0,(.int .i64 (IntKind.wrap .i64 (a1+(IntKind.wrap .i64 ((IntKind.wrap .i64 (Int.tdiv (IntKind.wrap .i64 (a2 - a1)) 4))*3))))),(.ptr (some (l1,0))),a3] iF fun x fV=>∃ k:Int,x=.int .i64 k/\(n [.int .i64 i,.int .i64 j,.int .i64 k] fV))))
 (n [(.int .i64 (IntKind.wrap .i64 (a1+(IntKind.wrap .i64 ((IntKind.wrap .i64 (Int.tdiv (IntKind.wrap .i64 (a2 - a1)) 4))*1))))),(.int .i64 (IntKind.wrap .i64 (a1+(IntKind.wrap .i64 ((IntKind.wrap .i64 (Int.tdiv (IntKind.wrap .i64 (a2 - a1)) 4))*2))))),(.int .i64 (IntKind.wrap .i64 (a1+(IntKind.wrap .i64 ((IntKind.wrap .i64 (Int.tdiv (IntKind.wrap .i64 (a2 - a1)) 4))*3)))))] s2)))
 (m [(.int .i64 (IntKind.wrap .i64 (a1+(IntKind.wrap .i64 ((IntKind.wrap .i64 (Int.tdiv (IntKind.wrap .i64 (a2 - a1)) 4))*2)))))] s2)))))
def xX:QA:=(.seq .leaf (.seq .leaf (.seq .leaf (.seq .leaf (.seq .leaf (.seq .leaf (.join [(13,.int .i64)] [(12,14),(33,54)] (.seq .leaf (.cond (.join [(12,.int .i64),(13,.int .i64),(14,.int .i64)] [(12,14),(35,48)] (.seq .leaf (.cond (.seq .leaf (.seq .leaf .leaf)) .leaf)) .leaf) .leaf)) (.seq .leaf (.wrap (.seq .leaf (.cond (.seq .leaf .leaf) (.seq .leaf (.cond (.seq .leaf .leaf) (.seq .leaf .leaf))))))))))))))
def wE (a0:AV) (a1:Int) (a2:Int) (a3:AV) (s:AS) (R:AV->AS->Prop):Prop :=
 bu fun e m2=>e m2 [.int .i64 a1,(.int .i64 (IntKind.wrap .i64 (a2 - 1)))] s /\
 ∀ m:Nat,∀ b:Int,∀ c:Int,∀ s6:AS,e m [.int .i64 b,.int .i64 c] s6 ->
 af (decide ((b:Int)<c))
 (bE (ag T E.ys a0 (.int .i64 c)) fun o p=>aS (aD s6 o p E.w) fun n=>bE (ag T E.ys a0 (.int .i64 b)) fun nN i=>aS (aD s6 nN i E.w) fun d=>bE (ag T E.ys a0 (.int .i64 b)) fun j k=>fy (some E.w) n (bC (cS s6 j k n) fun fH=>bE (ag T E.ys a0 (.int .i64 c)) fun qZ l=>fy (some E.w) d (bC (cS fH qZ l d) fun eH=>∃ m',m'<m/\e m' [(.int .i64 (IntKind.wrap .i64 (b+1))),(.int .i64 (IntKind.wrap .i64 (c - 1)))] eH)))
 (R (.aQ []) s6)
def wF:QA:=(.seq .leaf (.seq .leaf (.wrap (.loop [(8,.int .i64),(9,.int .i64)] [(8,9),(13,33)] (.seq (.seq .leaf (.cond .leaf .leaf)) (.wrap (.seq .calm (.seq .leaf .leaf))))))))
def iI (a0:AV) (a1:Int) (a2:Int) (a3:AV) (s:AS) (R:AV->AS->Prop):Prop :=
 bu fun r m2=>r m2 [(.int .i64 (IntKind.wrap .i64 (a1+1))),.int .i64 0] s /\
 ∀ M:Nat,∀ n4:Int,∀ x:Int,∀ s6:AS,r M [.int .i64 n4,.int .i64 x] s6 ->
 af (decide ((x:Int)<5))
 (bt fun O =>
 (∀ e:Int,∀ s9:AS,O [.int .i64 e] s9 ->
 af ((e:Int)==a2)
 (R (.bool true) s9)
 (af (decide ((IntKind.wrap .i64 (a2 - a1):Int)<50))
 (R (.bool false) s9)
 (bE (ag T E.ys a0 (.int .i64 (IntKind.wrap .i64 (e - 1)))) fun nN Q=>aS (aD s9 nN Q E.w) fun y=>bE (ag T E.ys a0 (.int .i64 e)) fun S U=>aS (aD s9 S U E.w) fun z=>bE (ag T E.ys a0 (.int .i64 e)) fun qZ W=>fy (some E.w) y (bC (cS s9 qZ W y) fun eH=>bE (ag T E.ys a0 (.int .i64 (IntKind.wrap .i64 (e - 1)))) fun AJ X=>fy (some E.w) z (bC (cS eH AJ X z) fun gl=>bt fun l =>
 (∀ uR:AS,l [] uR ->
 af (decide ((IntKind.wrap .i64 (a2 - e):Int)>=2))
 (bu fun n Y=>n Y [(.int .i64 (IntKind.wrap .i64 (e+1)))] uR /\
 ∀ A:Nat,∀ b:Int,∀ i:AS,n A [.int .i64 b] i ->
 af (decide ((b:Int)<a2))
 (bE (ag T E.ys a0 (.int .i64 b)) fun Z ab=>aS (aD i Z ab E.w) fun ad=>bE (ag T E.ys a0 (.int .i64 (IntKind.wrap .i64 (b - 1)))) fun ae al=>aS (aD i ae al E.w) fun am=>eK Tryz.prog a3 [.agg ad,.agg am] i fun an oY=>∃ B:Int,an=.int .i64 B/\(af (!(decide ((B:Int)<0)))
 (∃ m',m'<M/\r m' [.int .i64 e,(.int .i64 (IntKind.wrap .i64 (x+1)))] oY)
 (bE (ag T E.ys a0 (.int .i64 (IntKind.wrap .i64 (b - 1)))) fun ao ar=>aS (aD oY ao ar E.w) fun C=>bE (ag T E.ys a0 (.int .i64 b)) fun aw a4=>aS (aD oY aw a4 E.w) fun D=>bE (ag T E.ys a0 (.int .i64 b)) fun a5 a6=>fy (some E.w) C (bC (cS oY a5 a6 C) fun uw=>bE (ag T E.ys a0 (.int .i64 (IntKind.wrap .i64 (b - 1)))) fun a7 a8=>fy (some E.w) D (bC (cS uw a7 a8 D) fun rI=>∃ m',m'<A/\n m' [(.int .i64 (IntKind.wrap .i64 (b+1)))] rI)))))
 (∃ m',m'<M/\r m' [.int .i64 e,(.int .i64 (IntKind.wrap .i64 (x+1)))] i))
 (∃ m',m'<M/\r m' [.int .i64 e,(.int .i64 (IntKind.wrap .i64 (x+1)))] uR)) /\
 (af (decide ((IntKind.wrap .i64 (e - a1):Int)>=2))
 (bu fun o a9=>o a9 [(.int .i64 (IntKind.wrap .i64 (e - 1)))] gl /\
 ∀ F:Nat,∀ c:Int,∀ j:AS,o F [.int .i64 c] j ->
 af (decide ((c:Int)>=1))
 (bE (ag T E.ys a0 (.int .i64 c)) fun a' ba=>aS (aD j a' ba E.w) fun bb=>bE (ag T E.ys a0 (.int .i64 (IntKind.wrap .i64 (c - 1)))) fun bc bd=>aS (aD j bc bd E.w) fun be=>eK Tryz.prog a3 [.agg bb,.agg be] j fun bh m=>∃ G:Int,bh=.int .i64 G/\(af (!(decide ((G:Int)<0)))
 (l [] m)
 (bE (ag T E.ys a0 (.int .i64 (IntKind.wrap .i64 (c - 1)))) fun bi bj=>aS (aD m bi bj E.w) fun H=>bE (ag T E.ys a0 (.int .i64 c)) fun bk bl=>aS (aD m bk bl E.w) fun I=>bE (ag T E.ys a0 (.int .i64 c)) fun bm bo=>fy (some E.w) H (bC (cS m bm bo H) fun bs=>bE (ag T E.ys a0 (.int .i64 (IntKind.wrap .i64 (c - 1)))) fun bx b0=>fy (some E.w) I (bC (cS bs bx b0 I) fun b1=>∃ m',m'<F/\o m' [(.int .i64 (IntKind.wrap .i64 (c - 1)))] b1)))))
 (l [] j))
 (l [] gl))))))) /\
 (bu fun p b2=>p b2 [.int .i64 n4] s6 /\
 ∀ J:Nat,∀ d:Int,∀ k:AS,p J [.int .i64 d] k ->
 af (decide ((d:Int)<a2)) (bE (ag T E.ys a0 (.int .i64 d)) fun b3 b4=>aS (aD k b3 b4 E.w) fun Vh=>bE (ag T E.ys a0 (.int .i64 (IntKind.wrap .i64 (d - 1)))) fun b5 b6=>aS (aD k b5 b6 E.w) fun b7=>eK Tryz.prog a3 [.agg Vh,.agg b7] k fun b8 K=>∃ L:Int,b8=.int .i64 L/\(af (!(decide ((L:Int)<0)))
 (∃ m',m'<J/\p m' [(.int .i64 (IntKind.wrap .i64 (d+1)))] K)
 (O [.int .i64 d] K))) (O [.int .i64 d] k)))
 (R (.bool false) s6)
def pS:QA:=(.seq .leaf (.seq .leaf (.seq (.seq .leaf (.wrap (.loop [(9,.int .i64),(10,.int .i64)] [(8,12),(15,140)] (.seq (.seq .leaf (.cond .leaf .leaf)) (.seq (.wrap (.join [(9,.int .i64)] [(9,9),(19,38)] (.wrap (.loop [(9,.int .i64)] [(9,9),(19,38)] (.seq (.seq (.draw 14) (.cond .leaf .leaf)) (.wrap .leaf)))) (.seq (.seq .leaf (.cond (.seq .leaf .leaf) .leaf)) (.seq (.seq .leaf (.cond (.seq .leaf .leaf) .leaf)) (.seq .calm (.join [] [(11,11),(62,100)] (.seq .leaf (.cond (.seq .leaf (.wrap (.loop [(11,.int .i64)] [(11,11),(68,100)] (.seq (.seq .leaf (.cond .leaf .leaf)) (.seq (.wrap (.seq (.seq (.draw 10) (.cond .leaf .leaf)) .calm)) .leaf))))) .leaf)) (.seq .leaf (.cond (.seq .leaf (.wrap (.loop [(12,.int .i64)] [(12,12),(107,140)] (.seq (.seq .leaf (.cond .leaf .leaf)) (.seq (.wrap (.seq (.seq (.draw 10) (.cond .leaf .leaf)) .calm)) .leaf))))) .leaf)))))))) .leaf))))) (.seq .leaf .leaf))))
def uz (a0:AV) (a1:Int) (a2:Int) (a3:Int) (a4:AV) (s:AS) (R:AV->AS->Prop):Prop :=
 bE (ag T E.ys a0 (.int .i64 a3)) fun l1 o2=>aS (aD s l1 o2 E.w) fun g3=>bE (ag T E.ys a0 (.int .i64 a1)) fun l4 o5=>aS (aD s l4 o5 E.w) fun g6=>bE (ag T E.ys a0 (.int .i64 a1)) fun l7 o8=>fy (some E.w) g3 (bC (cS s l7 o8 g3) fun s9=>bE (ag T E.ys a0 (.int .i64 a3)) fun nN H=>fy (some E.w) g6 (bC (cS s9 nN H g6) fun dJ=>bu fun l I=>l I [(.int .i64 (IntKind.wrap .i64 (a1+1))),(.int .i64 (IntKind.wrap .i64 (a2 - 1)))] dJ /\
 ∀ x:Nat,∀ y:Int,∀ m:Int,∀ eH:AS,l x [.int .i64 y,.int .i64 m] eH ->
 bt fun n =>
 (∀ b:Int,∀ gl:AS,n [.int .i64 b] gl ->
 bt fun o =>
 (∀ e:Int,∀ i:AS,o [.int .i64 e] i ->
 af (decide ((b:Int)>e))
 (R (.int .i64 b) i)
 (bE (ag T E.ys a0 (.int .i64 e)) fun J K=>aS (aD i J K E.w) fun z=>bE (ag T E.ys a0 (.int .i64 b)) fun L M=>aS (aD i L M E.w) fun A=>bE (ag T E.ys a0 (.int .i64 b)) fun O Q=>fy (some E.w) z (bC (cS i O Q z) fun S=>bE (ag T E.ys a0 (.int .i64 e)) fun U W=>fy (some E.w) A (bC (cS S U W A) fun oY=>∃ m',m'<x/\l m' [(.int .i64 (IntKind.wrap .i64 (b+1))),(.int .i64 (IntKind.wrap .i64 (e - 1)))] oY)))) /\
 (bu fun p X=>p X [.int .i64 m] gl /\
 ∀ B:Nat,∀ c:Int,∀ j:AS,p B [.int .i64 c] j ->
 af (decide ((b:Int)<=c)) (bE (ag T E.ys a0 (.int .i64 a1)) fun Y Z=>aS (aD j Y Z E.w) fun ab=>bE (ag T E.ys a0 (.int .i64 c)) fun ad ae=>aS (aD j ad ae E.w) fun al=>eK Tryz.prog a4 [.agg ab,.agg al] j fun am rI=>∃ C:Int,am=.int .i64 C/\(af (decide ((C:Int)<0))
 (∃ m',m'<B/\p m' [(.int .i64 (IntKind.wrap .i64 (c - 1)))] rI)
 (o [.int .i64 c] rI))) (o [.int .i64 c] j))) /\
 (bu fun r an=>r an [.int .i64 y] eH /\
 ∀ D:Nat,∀ d:Int,∀ k:AS,r D [.int .i64 d] k ->
 af (decide ((d:Int)<=m)) (bE (ag T E.ys a0 (.int .i64 a1)) fun ao ar=>aS (aD k ao ar E.w) fun aw=>bE (ag T E.ys a0 (.int .i64 d)) fun a5 a6=>aS (aD k a5 a6 E.w) fun a7=>eK Tryz.prog a4 [.agg aw,.agg a7] k fun a8 F=>∃ G:Int,a8=.int .i64 G/\(af (!(decide ((G:Int)<0)))
 (∃ m',m'<D/\r m' [(.int .i64 (IntKind.wrap .i64 (d+1)))] F)
 (n [.int .i64 d] F))) (n [.int .i64 d] k))))
def uA:QA:=(.seq .leaf (.seq .calm (.seq .leaf (.seq (.wrap (.loop [(11,.int .i64),(12,.int .i64)] [(11,12),(31,88)] (.wrap (.join [(11,.int .i64)] [(11,11),(31,49)] (.wrap (.loop [(11,.int .i64)] [(11,11),(31,49)] (.seq (.seq (.draw 13) (.cond .leaf .leaf)) (.wrap .leaf)))) (.join [(12,.int .i64)] [(12,12),(50,67)] (.wrap (.loop [(12,.int .i64)] [(12,12),(50,67)] (.seq (.seq (.draw 13) (.cond .leaf .leaf)) (.wrap .leaf)))) (.seq (.seq .leaf (.cond .leaf .leaf)) (.seq .calm (.seq .leaf .leaf)))))))) (.seq .leaf .leaf)))))
def zY (a0:AV) (a1:Int) (a2:Int) (a3:Int) (a4:AV) (s:AS) (R:AV->AS->Prop):Prop :=
 bE (ag T E.ys a0 (.int .i64 a3)) fun l1 o2=>aS (aD s l1 o2 E.w) fun g3=>bE (ag T E.ys a0 (.int .i64 a1)) fun l4 o5=>aS (aD s l4 o5 E.w) fun g6=>bE (ag T E.ys a0 (.int .i64 a1)) fun l7 o8=>fy (some E.w) g3 (bC (cS s l7 o8 g3) fun s9=>bE (ag T E.ys a0 (.int .i64 a3)) fun nN b6=>fy (some E.w) g6 (bC (cS s9 nN b6 g6) fun dJ=>bt fun J =>
 (∀ j:Int,∀ fH:AS,J [.int .i64 j] fH ->
 bt fun K =>
 (∀ d:Int,∀ eH:AS,K [.int .i64 d] eH ->
 af (decide ((j:Int)>d))
 (bE (ag T E.ys a0 (.int .i64 a1)) fun AJ b7=>aS (aD eH AJ b7 E.w) fun W=>bE (ag T E.ys a0 (.int .i64 d)) fun b8 b9=>aS (aD eH b8 b9 E.w) fun X=>bE (ag T E.ys a0 (.int .i64 d)) fun b' ca=>fy (some E.w) W (bC (cS eH b' ca W) fun cb=>bE (ag T E.ys a0 (.int .i64 a1)) fun cc cd=>fy (some E.w) X (bC (cS cb cc cd X) fun ce=>R (.aQ [.int .i64 d,.bool true]) ce)))
 (bE (ag T E.ys a0 (.int .i64 d)) fun cf ch=>aS (aD eH cf ch E.w) fun Y=>bE (ag T E.ys a0 (.int .i64 j)) fun ci ck=>aS (aD eH ci ck E.w) fun Z=>bE (ag T E.ys a0 (.int .i64 j)) fun cl cm=>fy (some E.w) Y (bC (cS eH cl cm Y) fun cn=>bE (ag T E.ys a0 (.int .i64 d)) fun cp cr=>fy (some E.w) Z (bC (cS cn cp cr Z) fun cs=>bt fun ab =>
 (∀ y:Int,∀ z:AS,ab [.int .i64 y] z ->
 bE (ag T E.ys a0 (.int .i64 a1)) fun cu cv=>aS (aD z cu cv E.w) fun ad=>bE (ag T E.ys a0 (.int .i64 y)) fun cw cx=>aS (aD z cw cx E.w) fun ae=>bE (ag T E.ys a0 (.int .i64 y)) fun cy cz=>fy (some E.w) ad (bC (cS z cy cz ad) fun cA=>bE (ag T E.ys a0 (.int .i64 a1)) fun cB cC=>fy (some E.w) ae (bC (cS cA cB cC ae) fun c0=>R (.aQ [.int .i64 y,.bool false]) c0))) /\
 (bu fun L c1=>L c1 [(.int .i64 (IntKind.wrap .i64 (j+1))),(.int .i64 (IntKind.wrap .i64 (d - 1)))] cs /\
 ∀ al:Nat,∀ am:Int,∀ M:Int,∀ an:AS,L al [.int .i64 am,.int .i64 M] an ->
 bt fun O =>
 (∀ k:Int,∀ Bi:AS,O [.int .i64 k] Bi ->
 bt fun Q =>
 (∀ l:Int,∀ o:AS,Q [.int .i64 l] o ->
 af (decide ((k:Int)>l))
 (ab [.int .i64 l] o)
 (bE (ag T E.ys a0 (.int .i64 l)) fun c2 c3=>aS (aD o c2 c3 E.w) fun ao=>bE (ag T E.ys a0 (.int .i64 k)) fun c4 c5=>aS (aD o c4 c5 E.w) fun ar=>bE (ag T E.ys a0 (.int .i64 k)) fun c6 c7=>fy (some E.w) ao (bC (cS o c6 c7 ao) fun c8=>bE (ag T E.ys a0 (.int .i64 l)) fun c9 c'=>fy (some E.w) ar (bC (cS c8 c9 c' ar) fun da=>∃ m',m'<al/\L m' [(.int .i64 (IntKind.wrap .i64 (k+1))),(.int .i64 (IntKind.wrap .i64 (l - 1)))] da)))) /\
 (bu fun S db=>S db [.int .i64 M] Bi /\
 ∀ aw:Nat,∀ m:Int,∀ p:AS,S aw [.int .i64 m] p ->
 af (decide ((k:Int)<=m)) (bE (ag T E.ys a0 (.int .i64 m)) fun dc dd=>aS (aD p dc dd E.w) fun df=>bE (ag T E.ys a0 (.int .i64 a1)) fun dk dl=>aS (aD p dk dl E.w) fun dm=>eK Tryz.prog a4 [.agg df,.agg dm] p fun dp a5=>∃ a6:Int,dp=.int .i64 a6/\(af (!(decide ((a6:Int)<0)))
 (∃ m',m'<aw/\S m' [(.int .i64 (IntKind.wrap .i64 (m - 1)))] a5)
 (Q [.int .i64 m] a5))) (Q [.int .i64 m] p))) /\
 (bu fun U dr=>U dr [.int .i64 am] an /\
 ∀ a7:Nat,∀ n:Int,∀ e:AS,U a7 [.int .i64 n] e ->
 af (decide ((n:Int)<=M)) (bE (ag T E.ys a0 (.int .i64 n)) fun a8 a9=>aS (aD e a8 a9 E.w) fun a'=>bE (ag T E.ys a0 (.int .i64 a1)) fun ba bb=>aS (aD e ba bb E.w) fun bc=>eK Tryz.prog a4 [.agg a',.agg bc] e fun bd A=>∃ B:Int,bd=.int .i64 B/\(af (decide ((B:Int)<0))
 (∃ m',m'<a7/\U m' [(.int .i64 (IntKind.wrap .i64 (n+1)))] A)
 (O [.int .i64 n] A))) (O [.int .i64 n] e))))))) /\
 (bu fun r be=>r be [(.int .i64 (IntKind.wrap .i64 (a2 - 1)))] fH /\
 ∀ C:Nat,∀ b:Int,∀ tI:AS,r C [.int .i64 b] tI ->
 af (decide ((j:Int)<=b)) (bE (ag T E.ys a0 (.int .i64 b)) fun bh bi=>aS (aD tI bh bi E.w) fun bj=>bE (ag T E.ys a0 (.int .i64 a1)) fun bk bl=>aS (aD tI bk bl E.w) fun bm=>eK Tryz.prog a4 [.agg bj,.agg bm] tI fun bo D=>∃ F:Int,bo=.int .i64 F/\(af (!(decide ((F:Int)<0)))
 (∃ m',m'<C/\r m' [(.int .i64 (IntKind.wrap .i64 (b - 1)))] D)
 (K [.int .i64 b] D))) (K [.int .i64 b] tI))) /\
 (bu fun x bs=>x bs [(.int .i64 (IntKind.wrap .i64 (a1+1)))] dJ /\
 ∀ G:Nat,∀ c:Int,∀ i:AS,x G [.int .i64 c] i ->
 af (decide ((c:Int)<=(IntKind.wrap .i64 (a2 - 1)))) (bE (ag T E.ys a0 (.int .i64 c)) fun bx b0=>aS (aD i bx b0 E.w) fun b1=>bE (ag T E.ys a0 (.int .i64 a1)) fun b2 b3=>aS (aD i b2 b3 E.w) fun b4=>eK Tryz.prog a4 [.agg b1,.agg b4] i fun b5 H=>∃ I:Int,b5=.int .i64 I/\(af (decide ((I:Int)<0))
 (∃ m',m'<G/\x m' [(.int .i64 (IntKind.wrap .i64 (c+1)))] H)
 (J [.int .i64 c] H))) (J [.int .i64 c] i))))
def zZ:QA:=(.seq .leaf (.seq .calm (.seq .leaf (.join [(12,.int .i64)] [(12,12),(32,49)] (.wrap (.loop [(12,.int .i64)] [(12,12),(32,49)] (.seq (.seq (.draw 13) (.cond .leaf .leaf)) (.wrap .leaf)))) (.join [(13,.int .i64)] [(13,13),(50,68)] (.wrap (.loop [(13,.int .i64)] [(13,13),(50,68)] (.seq (.seq (.draw 13) (.cond .leaf .leaf)) (.wrap .leaf)))) (.seq (.seq .leaf (.cond (.seq .calm (.seq .leaf .leaf)) .leaf)) (.seq .calm (.seq .leaf (.seq .leaf (.join [(13,.int .i64)] [(12,13),(105,162)] (.wrap (.loop [(12,.int .i64),(13,.int .i64)] [(12,13),(105,162)] (.wrap (.join [(12,.int .i64)] [(12,12),(105,122)] (.wrap (.loop [(12,.int .i64)] [(12,12),(105,122)] (.seq (.seq (.draw 13) (.cond .leaf .leaf)) (.wrap .leaf)))) (.join [(13,.int .i64)] [(13,13),(123,141)] (.wrap (.loop [(13,.int .i64)] [(13,13),(123,141)] (.seq (.seq (.draw 13) (.cond .leaf .leaf)) (.wrap .leaf)))) (.seq (.seq .leaf (.cond .leaf .leaf)) (.seq .calm (.seq .leaf .leaf)))))))) (.seq .calm (.seq .leaf .leaf))))))))))))
def BM (a0:AV) (a1:Int) (a2:Int) (a3:Int) (a4:AV) (s:AS) (R:AV->AS->Prop):Prop :=
 bu fun p m2=>p m2 [.int .i64 a1] s /\
 ∀ m3:Nat,∀ b:Int,∀ i:AS,p m3 [.int .i64 b] i ->
 af (decide ((IntKind.wrap .i64 ((IntKind.wrap .i64 (2*b))+1):Int)>=a2))
 (R (.aQ []) i)
 (bt fun r =>
 (∀ j:Int,∀ s8:AS,r [.int .i64 j] s8 ->
 bE (ag T E.ys a0 (.int .i64 (IntKind.wrap .i64 (a3+b)))) fun l9 x=>aS (aD s8 l9 x E.w) fun y=>bE (ag T E.ys a0 (.int .i64 (IntKind.wrap .i64 (a3+j)))) fun qY z=>aS (aD s8 qY z E.w) fun A=>eK Tryz.prog a4 [.agg y,.agg A] s8 fun B c=>∃ k:Int,B=.int .i64 k/\(af (!(decide ((k:Int)<0)))
 (R (.aQ []) c)
 (bE (ag T E.ys a0 (.int .i64 (IntKind.wrap .i64 (a3+j)))) fun C D=>aS (aD c C D E.w) fun l=>bE (ag T E.ys a0 (.int .i64 (IntKind.wrap .i64 (a3+b)))) fun F G=>aS (aD c F G E.w) fun m=>bE (ag T E.ys a0 (.int .i64 (IntKind.wrap .i64 (a3+b)))) fun H I=>fy (some E.w) l (bC (cS c H I l) fun J=>bE (ag T E.ys a0 (.int .i64 (IntKind.wrap .i64 (a3+j)))) fun K L=>fy (some E.w) m (bC (cS J K L m) fun M=>∃ m',m'<m3/\p m' [.int .i64 j] M))))) /\
 (bt fun d =>
 (∀ n:Bool,∀ e:AS,d [.bool n] e ->
 af n
 (r [(.int .i64 (IntKind.wrap .i64 ((IntKind.wrap .i64 ((IntKind.wrap .i64 (2*b))+1))+1)))] e)
 (r [(.int .i64 (IntKind.wrap .i64 ((IntKind.wrap .i64 (2*b))+1)))] e)) /\
 (af (decide ((IntKind.wrap .i64 ((IntKind.wrap .i64 ((IntKind.wrap .i64 (2*b))+1))+1):Int)<a2)) (bE (ag T E.ys a0 (.int .i64 (IntKind.wrap .i64 (a3+(IntKind.wrap .i64 ((IntKind.wrap .i64 (2*b))+1)))))) fun O Q=>aS (aD i O Q E.w) fun S=>bE (ag T E.ys a0 (.int .i64 (IntKind.wrap .i64 ((IntKind.wrap .i64 (a3+(IntKind.wrap .i64 ((IntKind.wrap .i64 (2*b))+1))))+1)))) fun U W=>aS (aD i U W E.w) fun X=>eK Tryz.prog a4 [.agg S,.agg X] i fun Y Z=>∃ o:Int,Y=.int .i64 o/\(d [(.bool (decide ((o:Int)<0)))] Z)) (d [.bool false] i))))
def BN:QA:=(.seq .leaf (.wrap (.loop [(10,.int .i64)] [(10,11),(13,81)] (.wrap (.seq .leaf (.seq (.seq .leaf (.cond .leaf .leaf)) (.join [(11,.int .i64)] [(11,11),(19,42)] (.join [(40,.bool)] [(19,40)] (.draw 19) (.cond .leaf .leaf)) (.seq (.seq (.draw 13) (.cond .leaf .leaf)) (.seq .calm .leaf)))))))))
def mB (a0:AV) (a1:Int) (a2:Option (Nat×Nat)) (a3:AV) (s:AS) (R:AV->AS->Prop):Prop :=
 aa Tryz.prog E.lO [a0,(.int .i64 (IntKind.wrap .i64 (a1 - 1))),.int .i64 a1,(.int .i64 (IntKind.wrap .i64 (a1+1))),.ptr a2,a3] s fun c s2=>∃ b:Int,c=.int .i64 b/\(R (.int .i64 b) s2)
def uB:QA:=(.seq .leaf (.seq .leaf .leaf))
def EC (a0:AV) (a1:Int) (a2:Int) (a3:Int) (a4:Option (Nat×Nat)) (a5:AV) (s:AS) (R:AV->AS->Prop):Prop :=
 aa Tryz.prog E.ji [a0,.int .i64 a1,.int .i64 a2,.ptr a4,a5] s fun k s2=>∃ e:Int,∃ i:Int,k=.aQ [.int .i64 e,.int .i64 i]/\(aa Tryz.prog E.ji [a0,.int .i64 i,.int .i64 a3,.ptr a4,a5] s2 fun l s6=>∃ j:Int,∃ m:Int,l=.aQ [.int .i64 j,.int .i64 m]/\(aa Tryz.prog E.ji [a0,.int .i64 e,.int .i64 j,.ptr a4,a5] s6 fun n c=>∃ d:Int,∃ b:Int,n=.aQ [.int .i64 d,.int .i64 b]/\(R (.int .i64 b) c)))
def ED:QA:=(.seq .leaf (.seq .leaf (.seq .leaf (.seq .leaf (.seq .leaf .leaf)))))
def EE (a0:AV) (a1:Int) (a2:Int) (a3:Option (Nat×Nat)) (a4:AV) (s:AS) (R:AV->AS->Prop):Prop :=
 bE (ag T E.ys a0 (.int .i64 a2)) fun l1 o2=>aS (aD s l1 o2 E.w) fun j=>bE (ag T E.ys a0 (.int .i64 a1)) fun k l=>aS (aD s k l E.w) fun m=>eK Tryz.prog a4 [.agg j,.agg m] s fun n s8=>∃ i:Int,n=.int .i64 i/\(af (decide ((i:Int)<0))
 (ah a3 fun nN b=>aV .i64 (ak s8 nN b) fun c=>ah a3 fun d e=>bC (cS s8 d e [(.int .i64 (IntKind.wrap .i64 (c+1)))]) fun fH=>R (.aQ [.int .i64 a2,.int .i64 a1]) fH)
 (R (.aQ [.int .i64 a1,.int .i64 a2]) s8))
def EF:QA:=(.seq .leaf (.seq (.seq (.draw 9) (.cond (.seq .leaf (.seq .leaf .leaf)) .leaf)) (.seq .leaf .leaf)))
def ny (a0:AV) (a1:Int) (a2:Int) (a3:AV) (s:AS) (R:AV->AS->Prop):Prop :=
 af (decide ((IntKind.wrap .i64 (a2 - a1):Int)>=8))
 (aj (.cells [.int .u64 0] 0 false) s fun l1 s2=>bC (cS s2 l1 0 [(.int .u64 (IntKind.wrap .u64 (IntKind.wrap .i64 (a2 - a1))))]) fun s3=>aa Tryz.prog iE [(.int .i64 (IntKind.wrap .i64 (a2 - a1)))] s3 fun G H=>∃ D:Int,G=.int .u64 D/\(NZ 4 (bu fun m I=>m I [(.int .i64 (IntKind.wrap .i64 ((IntKind.wrap .i64 (a1+(IntKind.wrap .i64 ((IntKind.wrap .i64 (Int.tdiv (IntKind.wrap .i64 (a2 - a1)) 4))*2)))) - 1)))] H /\
 ∀ F:Nat,∀ b:Int,∀ c:AS,m F [.int .i64 b] c ->
 NZ 4 (af (decide ((b:Int)<=(IntKind.wrap .i64 ((IntKind.wrap .i64 (a1+(IntKind.wrap .i64 ((IntKind.wrap .i64 (Int.tdiv (IntKind.wrap .i64 (a2 - a1)) 4))*2))))+1))))
 (aa Tryz.prog iV [(.ptr (some (l1,0)))] c fun n bQ=>∃ j:Int,n=.int .u64 j/\(aV .u64 (bG .and .u64 j (IntKind.wrap .u64 (D - 1))) fun d=>bt fun e =>
 (∀ i:Int,∀ iF:AS,e [.int .i64 i] iF ->
 bE (ag T E.ys a0 (.int .i64 (IntKind.wrap .i64 (a1+i)))) fun o p=>aS (aD iF o p E.w) fun k=>bE (ag T E.ys a0 (.int .i64 b)) fun r x=>aS (aD iF r x E.w) fun l=>bE (ag T E.ys a0 (.int .i64 b)) fun y z=>fy (some E.w) k (bC (cS iF y z k) fun A=>bE (ag T E.ys a0 (.int .i64 (IntKind.wrap .i64 (a1+i)))) fun B C=>fy (some E.w) l (bC (cS A B C l) fun mG=>∃ m',m'<F/\m m' [(.int .i64 (IntKind.wrap .i64 (b+1)))] mG))) /\
 (af (decide ((IntKind.wrap .i64 d:Int)>=(IntKind.wrap .i64 (a2 - a1))))
 (e [(.int .i64 (IntKind.wrap .i64 ((IntKind.wrap .i64 d) - (IntKind.wrap .i64 (a2 - a1)))))] bQ)
 (e [(.int .i64 (IntKind.wrap .i64 d))] bQ))))
 (R (.aQ []) c)))))
 (R (.aQ []) s)
def vJ:QA:=(.seq .leaf (.seq .leaf (.cond (.seq .leaf (.seq .leaf (.seq .leaf (.wrap (.loop [(11,.int .i64)] [(11,12),(28,66)] (.seq (.seq .leaf (.cond .leaf .leaf)) (.seq (.wrap (.seq .leaf (.join [(12,.int .i64)] [(12,12),(43,48)] (.seq .leaf (.cond .leaf .leaf)) .calm))) .leaf))))))) .leaf)))
class SQ (E:SE):Prop where
 z0:∀ (a0:AV) (a1:AV) (s:AS) (R:AV->AS->Prop),Pb E a0 a1 s R->aa Tryz.prog E.vG [a0,a1] s R
 oQ:∀ (a0:AV) (a1:Int) (a2:Int) (a3:Int) (a4:AV) (s:AS) (R:AV->AS->Prop),Dc E a0 a1 a2 a3 a4 s R->aa Tryz.prog E.fT [a0,.int .i64 a1,.int .i64 a2,.int .i64 a3,a4] s R
 iX:∀ (a0:AV) (a1:Int) (a2:Int) (a3:AV) (s:AS) (R:AV->AS->Prop),vH E a0 a1 a2 a3 s R->aa Tryz.prog E.fM [a0,.int .i64 a1,.int .i64 a2,a3] s R
 sJ:∀ (a0:AV) (a1:Int) (a2:Int) (a3:AV) (s:AS) (R:AV->AS->Prop),BK E a0 a1 a2 a3 s R->aa Tryz.prog E.nv [a0,.int .i64 a1,.int .i64 a2,a3] s R
 pT:∀ (a0:AV) (a1:Int) (a2:Int) (a3:AV) (s:AS) (R:AV->AS->Prop),xW E a0 a1 a2 a3 s R->aa Tryz.prog E.ku [a0,.int .i64 a1,.int .i64 a2,a3] s R
 nX:∀ (a0:AV) (a1:Int) (a2:Int) (a3:AV) (s:AS) (R:AV->AS->Prop),wE E a0 a1 a2 a3 s R->aa Tryz.prog E.jA [a0,.int .i64 a1,.int .i64 a2,a3] s R
 iJ:∀ (a0:AV) (a1:Int) (a2:Int) (a3:AV) (s:AS) (R:AV->AS->Prop),iI E a0 a1 a2 a3 s R->aa Tryz.prog E.fk [a0,.int .i64 a1,.int .i64 a2,a3] s R
 mC:∀ (a0:AV) (a1:Int) (a2:Int) (a3:Int) (a4:AV) (s:AS) (R:AV->AS->Prop),uz E a0 a1 a2 a3 a4 s R->aa Tryz.prog E.iG [a0,.int .i64 a1,.int .i64 a2,.int .i64 a3,a4] s R
 rM:∀ (a0:AV) (a1:Int) (a2:Int) (a3:Int) (a4:AV) (s:AS) (R:AV->AS->Prop),zY E a0 a1 a2 a3 a4 s R->aa Tryz.prog E.lY [a0,.int .i64 a1,.int .i64 a2,.int .i64 a3,a4] s R
 sL:∀ (a0:AV) (a1:Int) (a2:Int) (a3:Int) (a4:AV) (s:AS) (R:AV->AS->Prop),BM E a0 a1 a2 a3 a4 s R->aa Tryz.prog E.jN [a0,.int .i64 a1,.int .i64 a2,.int .i64 a3,a4] s R
 mD:∀ (a0:AV) (a1:Int) (a2:Option (Nat×Nat)) (a3:AV) (s:AS) (R:AV->AS->Prop),mB E a0 a1 a2 a3 s R->aa Tryz.prog E.ec [a0,.int .i64 a1,.ptr a2,a3] s R
 wo:∀ (a0:AV) (a1:Int) (a2:Int) (a3:Int) (a4:Option (Nat×Nat)) (a5:AV) (s:AS) (R:AV->AS->Prop),EC E a0 a1 a2 a3 a4 a5 s R->aa Tryz.prog E.lO [a0,.int .i64 a1,.int .i64 a2,.int .i64 a3,.ptr a4,a5] s R
 wq:∀ (a0:AV) (a1:Int) (a2:Int) (a3:Option (Nat×Nat)) (a4:AV) (s:AS) (R:AV->AS->Prop),EE E a0 a1 a2 a3 a4 s R->aa Tryz.prog E.ji [a0,.int .i64 a1,.int .i64 a2,.ptr a3,a4] s R
 nA:∀ (a0:AV) (a1:Int) (a2:Int) (a3:AV) (s:AS) (R:AV->AS->Prop),ny E a0 a1 a2 a3 s R->aa Tryz.prog E.iW [a0,.int .i64 a1,.int .i64 a2,a3] s R
end
end Go.Proofs.YtohgmogbabkkeaaGreat.SG
namespace Go.Proofs.YtohgmogbabkkeaaGreat
section
set_option maxRecDepth 100000
set_option maxHeartbeats 4000000
open Go.Am
def Rv  (s:AS) (R:AV->AS->Prop):Prop :=
 oq (aY T oK [(2,.bool true)]) fun b=>cj b (aj (.cells b 0 false) s fun c s3=>R (.ptr (some (c,0))) s3)
def Rw:QA:=(.seq .leaf (.seq .leaf .leaf))
theorem Rx  (s:AS) (R:AV->AS->Prop) (h:Rv  s R):aa Tryz.prog CZ [] s R :=
 aa.q (n:=3) (rs:=[.tmp 0]) (A:=Rw) hT bX Tryz.func146 (by kernel_rfl) rfl rfl rfl (by kernel_rfl) (by kernel_rfl) h
def Iq (a0:Option (Nat×Nat)) (a1:List AV) (s:AS) (R:AV->AS->Prop):Prop :=
 cj a1 (aj (.cells a1 0 false) s fun l1 s2=>aa Tryz.prog jd [.ptr a0] s2 fun v3 s4=>∃ b5:Bool,v3=.bool b5/\(af (!b5)
 (R (.aQ [.bool false,.int .i64 1]) s4)
 (aS (aD s4 l1 0 2) fun g6=>aa Tryz.prog oC [.agg g6] s4 fun v7 s8=>∃ b9:Bool,v7=.bool b9/\(af (!b9)
 (R (.aQ [.bool false,.int .i64 2]) s8)
 (aS (aD s8 l1 0 2) fun H=>aa Tryz.prog kZ [.ptr a0,.agg H] s8 fun v11 dJ=>∃ w:Bool,v11=.bool w/\(af w
 (R (.aQ [.bool false,.int .i64 0]) dJ)
 (ah a0 fun lN I=>aS (aD dJ lN I 18) fun x=>aj (.cells [.int .u64 0,.int .u64 0,.int .u64 0,.int .u64 0,.int .u64 0,.int .u64 0,.int .u64 0,.int .u64 0,.int .u64 0,.int .u64 0,.int .u64 0,.int .u64 0,.int .u64 0,.int .u64 0,.int .u64 0,.int .u64 0,.slc none 0 0 true,.bool false] 0 false) dJ fun j eH=>fy (some 18) x (bC (cS eH j 0 x) fun iF=>gn fun S V=>ah a0 fun J K=>dn (ak iF J (K+16)) fun c=>aS (aD iF l1 0 2) fun d=>(∀ l:AS,Ext iF l->aJ l->(True)->aa Tryz.prog az [c,.agg d,(.func cV [])] l fun L y=>∃ n:Int,∃ o:Bool,L=.aQ [.int .i64 n,.bool o]/\((Ext l y/\S 5 [(.func az []),c,.agg d,(.func cV [])] (.aQ [.int .i64 n,.bool o]) y/\V 5 [(.func az []),c,.agg d,(.func cV [])] (.aQ [.int .i64 n,.bool o]))))/\(∃ v,V 5 [(.func az []),c,.agg d,(.func cV [])] v)/\∀ z:AV,V 5 [(.func az []),c,.agg d,(.func cV [])] z->∃ p:Int,∃ A:Bool,z=.aQ [.int .i64 p,.bool A]/\(∀ b:AS,Ext iF b->aJ b->(S 5 [(.func az []),c,.agg d,(.func cV [])] (.aQ [.int .i64 p,.bool A]) b/\True)->gn fun S V=>ah a0 fun M O=>dn (ak b M (O+16)) fun e=>(∀ kC:AS,Ext b kC->aJ kC->(True)->aa Tryz.prog aM [e] kC fun B C=>(Ext kC C/\S 4 [(.func aM []),e] B C/\V 4 [(.func aM []),e] B))/\(∃ v,V 4 [(.func aM []),e] v)/\∀ wm:AV,V 4 [(.func aM []),e] wm->aS (aD b l1 0 2) fun i=>(∀ m:AS,Ext b m->aJ m->(True)->aS (de T aC 1 [(0,.agg i)]) fun Q=>aj (.cells Q 0 false) m fun D F=>(Ext m F/\S 7 [.agg i] (.slc (some (D,0)) 1 1 true) F/\V 7 [.agg i] (.slc (some (D,0)) 1 1 true)))/\(∃ v,V 7 [.agg i] v)/\∀ r:AV,V 7 [.agg i] r->∀ k:AS,Ext b k->aJ k->(S 4 [(.func aM []),e] wm k/\(S 7 [.agg i] r k/\True))->aa Tryz.prog eD [wm,.int .i64 p,r] k fun U W=>e_ T aC W j 16 U fun X=>aa Tryz.prog ni [(.ptr (some (j,0)))] X fun Y FN=>Y=.aQ []/\(dn (ak FN j 16) fun Z=>aV .i64 (aL T aC Z FN) fun ab=>af (decide ((ab:Int)>4096))
 (R (.aQ [.bool false,.int .i64 5]) FN)
 (aS (aD FN j 0 18) fun G=>ah a0 fun ad ae=>fy (some 18) G (bC (cS FN ad ae G) fun al=>R (.aQ [.bool true,.int .i64 0]) al))))))))))))
def Ir:QA:=(.seq .leaf (.seq (.wrap (.seq .leaf (.cond (.seq .leaf .leaf) (.seq .leaf (.cond (.seq .leaf .leaf) (.seq .leaf (.cond (.seq .leaf .leaf) .leaf))))))) (.seq .leaf (.seq (.iB 10 [[],[],[],[],[],[],[],[],[],[]] [5]) (.seq (.iB 8 [[],[],[],[],[],[],[],[]] [4,7]) (.seq .leaf (.seq (.seq .leaf (.cond (.seq .leaf .leaf) .leaf)) (.seq .leaf (.seq .leaf .leaf)))))))))
theorem Is (a0:Option (Nat×Nat)) (a1:List AV) (s:AS) (R:AV->AS->Prop) (h:Iq a0 a1 s R):aa Tryz.prog tu [.ptr a0,.agg a1] s R :=
 aa.q (n:=51) (rs:=[.tmp 4,.tmp 5]) (A:=Ir) hT bX Tryz.func227 (by kernel_rfl) rfl rfl rfl (by kernel_rfl) (by kernel_rfl) h
def MX (a0:List AV) (s:AS) (R:AV->AS->Prop):Prop :=
 cj a0 (aj (.cells a0 0 false) s fun l1 s2=>aV .i64 (ak s2 l1 0) fun b=>af (decide ((b:Int)>=1)) (aV .i64 (ak s2 l1 0) fun c=>af (decide ((c:Int)<=16)) (aV .u64 (ak s2 l1 1) fun d=>af (decide ((d:Int)>=1)) (aV .u64 (ak s2 l1 1) fun e=>R (.bool (decide ((e:Int)<=4611686018427387904))) s2) (R (.bool false) s2)) (R (.bool false) s2)) (R (.bool false) s2))
def MY:QA:=(.seq .leaf (.seq .leaf .leaf))
theorem MZ (a0:List AV) (s:AS) (R:AV->AS->Prop) (h:MX a0 s R):aa Tryz.prog sx [.agg a0] s R :=
 aa.q (n:=21) (rs:=[.tmp 2]) (A:=MY) hT bX Tryz.func33 (by kernel_rfl) rfl rfl rfl (by kernel_rfl) (by kernel_rfl) h
def Ry (a0:List AV) (s:AS) (R:AV->AS->Prop):Prop :=
 cj a0 (aj (.cells a0 0 false) s fun l1 s2=>aV .i64 (ak s2 l1 0) fun b=>af (decide ((b:Int)>=1)) (aV .i64 (ak s2 l1 0) fun c=>af (decide ((c:Int)<=16)) (aV .u64 (ak s2 l1 1) fun d=>af (decide ((d:Int)>=1)) (aV .u64 (ak s2 l1 1) fun e=>R (.bool (decide ((e:Int)<=4611686018427387904))) s2) (R (.bool false) s2)) (R (.bool false) s2)) (R (.bool false) s2))
def Rz:QA:=(.seq .leaf (.seq .leaf .leaf))
theorem RA (a0:List AV) (s:AS) (R:AV->AS->Prop) (h:Ry a0 s R):aa Tryz.prog oC [.agg a0] s R :=
 aa.q (n:=21) (rs:=[.tmp 2]) (A:=Rz) hT bX Tryz.func118 (by kernel_rfl) rfl rfl rfl (by kernel_rfl) (by kernel_rfl) h
def It (a0:Option (Nat×Nat)) (a1:List AV) (s:AS) (R:AV->AS->Prop):Prop :=
 cj a1 (aj (.cells a1 0 false) s fun l1 s2=>aa Tryz.prog jd [.ptr a0] s2 fun D s4=>∃ B:Bool,D=.bool B/\(af (!B) (R (.bool false) s4) (aS (aD s4 l1 0 2) fun F=>aa Tryz.prog oC [.agg F] s4 fun G s8=>∃ C:Bool,G=.bool C/\(af (!C)
 (R (.bool false) s8)
 (gn fun S V=>ah a0 fun nN n=>dn (ak s8 nN (n+16)) fun b=>aS (aD s8 l1 0 2) fun c=>(∀ d:AS,Ext s8 d->aJ d->(True)->aa Tryz.prog az [b,.agg c,(.func cV [])] d fun o k=>∃ e:Int,∃ i:Bool,o=.aQ [.int .i64 e,.bool i]/\((Ext d k/\S 5 [(.func az []),b,.agg c,(.func cV [])] (.aQ [.int .i64 e,.bool i]) k/\V 5 [(.func az []),b,.agg c,(.func cV [])] (.aQ [.int .i64 e,.bool i]))))/\(∃ v,V 5 [(.func az []),b,.agg c,(.func cV [])] v)/\∀ l:AV,V 5 [(.func az []),b,.agg c,(.func cV [])] l->∃ m:Int,∃ j:Bool,l=.aQ [.int .i64 m,.bool j]/\(∀ fV:AS,Ext s8 fV->aJ fV->(S 5 [(.func az []),b,.agg c,(.func cV [])] (.aQ [.int .i64 m,.bool j]) fV/\True)->af j (R (.bool true) fV) (aV .u64 (ak fV l1 1) fun p=>aV .i64 (ak fV l1 0) fun r=>ah a0 fun w x=>bE (ag T aX (.ptr (some (w,x))) (.int .i64 (IntKind.wrap .i64 (r - 1)))) fun y z=>aV .u64 (ak fV y z) fun A=>R (.bool (decide ((p:Int)<=A))) fV)))))))
def Iu:QA:=(.seq .leaf (.seq (.seq .leaf (.cond (.seq .leaf .leaf) .leaf)) (.seq (.iB 10 [[],[],[],[],[],[],[],[],[],[]] [5]) (.seq (.draw 12) .leaf))))
theorem Iw (a0:Option (Nat×Nat)) (a1:List AV) (s:AS) (R:AV->AS->Prop) (h:It a0 a1 s R):aa Tryz.prog kZ [.ptr a0,.agg a1] s R :=
 aa.q (n:=38) (rs:=[.tmp 4]) (A:=Iu) hT bX Tryz.func44 (by kernel_rfl) rfl rfl rfl (by kernel_rfl) (by kernel_rfl) h
def Hl (a0:Option (Nat×Nat)) (s:AS) (R:AV->AS->Prop):Prop :=
 aa Tryz.prog jd [.ptr a0] s fun l s2=>∃ k:Bool,l=.bool k/\(af (!k)
 (R (.ptr none) s2)
 (gn fun S V=>ah a0 fun m n=>aS (aD s2 m n 16) fun o=>ah a0 fun p r=>dn (ak s2 p (r+16)) fun e=>(∀ b:AS,Ext s2 b->aJ b->(True)->aa Tryz.prog aM [e] b fun v11 dJ=>(Ext b dJ/\S 8 [(.func aM []),e] v11 dJ/\V 8 [(.func aM []),e] v11))/\(∃ v,V 8 [(.func aM []),e] v)/\∀ d:AV,V 8 [(.func aM []),e] d->∀ c:AS,Ext s2 c->aJ c->(S 8 [(.func aM []),e] d c/\True)->oq (aY T oK [(0,.agg o),(1,d),(2,.bool true)]) fun i=>cj i (aj (.cells i 0 false) c fun j eH=>R (.ptr (some (j,0))) eH)))
def Ho:QA:=(.seq .leaf (.seq (.seq .leaf (.cond (.seq .leaf .leaf) .leaf)) (.seq (.iB 9 [[],[],[],[],[],[],[],[],[]] [8]) .leaf)))
theorem Hp (a0:Option (Nat×Nat)) (s:AS) (R:AV->AS->Prop) (h:Hl a0 s R):aa Tryz.prog dN [.ptr a0] s R :=
 aa.q (n:=17) (rs:=[.tmp 2]) (A:=Ho) hT bX Tryz.func111 (by kernel_rfl) rfl rfl rfl (by kernel_rfl) (by kernel_rfl) h
def wu (a0:Option (Nat×Nat)) (s:AS) (R:AV->AS->Prop):Prop :=
 sr (iZ T 100 mz (.ptr a0) (.ptr none)) fun b=>af (!b) (ah a0 fun c d=>Qb (ak s c (d+17)) fun e=>R (.bool e) s) (R (.bool false) s)
def EG:QA:=(.seq .leaf (.seq .leaf .leaf))
theorem EH (a0:Option (Nat×Nat)) (s:AS) (R:AV->AS->Prop) (h:wu a0 s R):aa Tryz.prog jd [.ptr a0] s R :=
 aa.q (n:=11) (rs:=[.tmp 2]) (A:=EG) hT bX Tryz.func112 (by kernel_rfl) rfl rfl rfl (by kernel_rfl) (by kernel_rfl) h
def jB (a0:AV) (a1:List AV) (a2:AV) (s:AS) (R:AV->AS->Prop):Prop :=
 cj a1 (aj (.cells a1 0 false) s fun l1 s2=>aV .i64 (aL T aC a0 s2) fun F=>bt fun G =>
 (∀ o:Int,∀ s6:AS,G [.int .i64 o] s6 ->
 gn fun S V=>af (decide ((o:Int)<F)) (bE (ag T aC a0 (.int .i64 o)) fun H I=>aS (aD s6 H I 2) fun n=>aS (aD s6 l1 0 2) fun c=>(∀ i:AS,Ext s6 i->aJ i->(True)->eK Tryz.prog a2 [.agg n,.agg c] i fun x bQ=>∃ k:Int,x=.int .i64 k/\((Ext i bQ/\S 11 [a2,.agg n,.agg c] (.int .i64 k) bQ/\V 11 [a2,.agg n,.agg c] (.int .i64 k))))/\(∃ v,V 11 [a2,.agg n,.agg c] v)/\∀ p:AV,V 11 [a2,.agg n,.agg c] p->∃ l:Int,p=.int .i64 l/\(∀ kU:AS,Ext s6 kU->aJ kU->(S 11 [a2,.agg n,.agg c] (.int .i64 l) kU/\True)->R (.aQ [.int .i64 o,(.bool ((l:Int)==0))]) kU)) (∀ iF:AS,Ext s6 iF->aJ iF->(True)->R (.aQ [.int .i64 o,.bool false]) iF)) /\
 (bu fun j y=>j y [.int .i64 0,.int .i64 F] s2 /\
 ∀ m:Nat,∀ b:Int,∀ d:Int,∀ e:AS,j m [.int .i64 b,.int .i64 d] e ->
 af (decide ((b:Int)<d))
 (NN 1 (bE (ag T aC a0 (.int .i64 (IntKind.wrap .i64 (Int.fdiv (IntKind.wrap .u64 (IntKind.wrap .i64 (b+d))) (2 ^ min (Int.toNat 1) (IntKind.bits .u64)))))) fun z A=>aS (aD e z A 2) fun B=>aS (aD e l1 0 2) fun C=>eK Tryz.prog a2 [.agg B,.agg C] e fun D r=>∃ w:Int,D=.int .i64 w/\(af (decide ((w:Int)<0))
 (∃ m',m'<m/\j m' [(.int .i64 (IntKind.wrap .i64 ((IntKind.wrap .i64 (Int.fdiv (IntKind.wrap .u64 (IntKind.wrap .i64 (b+d))) (2 ^ min (Int.toNat 1) (IntKind.bits .u64))))+1))),.int .i64 d] r)
 (∃ m',m'<m/\j m' [.int .i64 b,(.int .i64 (IntKind.wrap .i64 (Int.fdiv (IntKind.wrap .u64 (IntKind.wrap .i64 (b+d))) (2 ^ min (Int.toNat 1) (IntKind.bits .u64)))))] r))))
 (G [.int .i64 b] e)))
def jC:QA:=(.seq .leaf (.seq .leaf (.seq .leaf (.join [(9,.int .i64)] [(9,11),(15,34)] (.wrap (.loop [(9,.int .i64),(10,.int .i64)] [(9,11),(15,34)] (.seq (.seq .leaf (.cond .leaf .leaf)) (.wrap (.seq .leaf (.seq (.draw 6) (.cond .leaf .leaf))))))) (.seq (.iB 15 [[],[],[],[],[],[],[],[],[],[],[],[],[],[],[]] [11]) .leaf)))))
theorem jD (a0:AV) (a1:List AV) (a2:AV) (s:AS) (R:AV->AS->Prop) (h:jB a0 a1 a2 s R):aa Tryz.prog az [a0,.agg a1,a2] s R :=
 aa.q (n:=49) (rs:=[.tmp 6,.tmp 7]) (A:=jC) hT bX Tryz.func126 (by kernel_rfl) rfl rfl rfl (by kernel_rfl) (by kernel_rfl) h
def M4 (a0:List AV) (a1:List AV) (s:AS) (R:AV->AS->Prop):Prop :=
 cj a0 (aj (.cells a0 0 false) s fun l1 s2=>cj a1 (aj (.cells a1 0 false) s2 fun l3 s4=>gn fun S V=>aV .i64 (ak s4 l1 0) fun d=>aV .i64 (ak s4 l3 0) fun e=>(∀ s7:AS,Ext s4 s7->aJ s7->(True)->aa Tryz.prog aU [.int .i64 d,.int .i64 e] s7 fun w s9=>∃ b:Int,w=.int .i64 b/\((Ext s7 s9/\S 4 [(.func aU []),.int .i64 d,.int .i64 e] (.int .i64 b) s9/\V 4 [(.func aU []),.int .i64 d,.int .i64 e] (.int .i64 b))))/\(∃ v,V 4 [(.func aU []),.int .i64 d,.int .i64 e] v)/\∀ v11:AV,V 4 [(.func aU []),.int .i64 d,.int .i64 e] v11->∃ c:Int,v11=.int .i64 c/\(aV .u64 (ak s4 l1 1) fun k=>aV .u64 (ak s4 l3 1) fun l=>∀ fH:AS,Ext s4 fH->aJ fH->(S 4 [(.func aU []),.int .i64 d,.int .i64 e] (.int .i64 c) fH/\True)->aa Tryz.prog eS [.int .u64 k,.int .u64 l] fH fun m eH=>∃ i:Int,m=.int .i64 i/\(aS (de T iA 2 [(0,.int .i64 c),(1,.int .i64 i)]) fun n=>aj (.cells n 0 false) eH fun o fV=>aa Tryz.prog k5 [(.slc (some (o,0)) 2 2 true)] fV fun p r=>∃ j:Int,p=.int .i64 j/\(R (.int .i64 j) r)))))
def M5:QA:=(.seq .leaf (.seq (.iB 9 [[],[],[],[],[],[],[],[],[]] [4]) .leaf))
theorem M6 (a0:List AV) (a1:List AV) (s:AS) (R:AV->AS->Prop) (h:M4 a0 a1 s R):aa Tryz.prog cV [.agg a0,.agg a1] s R :=
 aa.q (n:=17) (rs:=[.tmp 4]) (A:=M5) hT bX Tryz.func127 (by kernel_rfl) rfl rfl rfl (by kernel_rfl) (by kernel_rfl) h
def rN (a0:AV) (a1:Int) (a2:AV) (s:AS) (R:AV->AS->Prop):Prop :=
 dn (bf T aC a0 (some (.int .i64 a1)) none none) fun H=>aV .i64 (aL T aC a2 s) fun n2=>af ((n2:Int)==0)
 (R a0 s)
 (aV .i64 (aL T aC a0 s) fun c=>af ((a1:Int)==c)
 (ig (aG T aC aC a0 a2 s) fun z A=>R z A)
 (aV .i64 (wR T aC a0) fun B=>af (decide ((IntKind.wrap .i64 (c+n2):Int)>B))
 (dn (bf T aC a0 none (some (.int .i64 a1)) none) fun C=>ig (aG T aC um C (.int .i64 (IntKind.wrap .i64 ((IntKind.wrap .i64 (c+n2)) - a1))) s) fun e s9=>dn (bf T aC e (some (.int .i64 a1)) none none) fun v10=>ig (q8 T aC v10 a2 s9) fun v11 dJ=>dn (bf T aC e (some (.int .i64 (IntKind.wrap .i64 (a1+n2)))) none none) fun i=>dn (bf T aC a0 (some (.int .i64 a1)) none none) fun j=>ig (q8 T aC i j dJ) fun D k=>R e k)
 (dn (bf T aC a0 none (some (.int .i64 (IntKind.wrap .i64 (c+n2)))) none) fun b=>dn (bf T aC b (some (.int .i64 (IntKind.wrap .i64 (a1+n2)))) none none) fun l=>aa Tryz.prog nk [a2,l] s fun m gw=>∃ d:Bool,m=.bool d/\(af (!d)
 (dn (bf T aC b (some (.int .i64 (IntKind.wrap .i64 (a1+n2)))) none none) fun n=>dn (bf T aC b (some (.int .i64 a1)) none none) fun o=>ig (q8 T aC n o gw) fun F en=>dn (bf T aC b (some (.int .i64 a1)) none none) fun p=>ig (q8 T aC p a2 en) fun G r=>R b r)
 (dn (bf T aC b (some (.int .i64 c)) none none) fun w=>ig (q8 T aC w a2 gw) fun v30 mG=>dn (bf T aC b (some (.int .i64 a1)) none none) fun x=>aa Tryz.prog r7 [x,.int .i64 n2] mG fun y lC=>y=.aQ []/\(R b lC))))))
def rO:QA:=(.seq .leaf (.seq .leaf (.seq .leaf (.seq (.seq .leaf (.cond (.seq .leaf .leaf) .leaf)) (.seq .leaf (.seq (.seq .leaf (.cond (.seq .leaf .leaf) .leaf)) (.seq (.seq .leaf (.cond (.seq .leaf (.seq .leaf (.seq (.draw 8) (.seq .leaf .leaf)))) .leaf)) (.seq .leaf (.seq (.seq .leaf (.cond (.seq (.draw 8) (.seq .leaf (.seq .leaf .leaf))) .leaf)) (.seq .leaf (.seq .leaf (.seq .leaf .leaf))))))))))))
theorem kz (a0:AV) (a1:Int) (a2:AV) (s:AS) (R:AV->AS->Prop) (h:rN a0 a1 a2 s R):aa Tryz.prog eD [a0,.int .i64 a1,a2] s R :=
 aa.q (n:=95) (rs:=[.tmp 6]) (A:=rO) hT bX Tryz.func263 (by kernel_rfl) rfl rfl rfl (by kernel_rfl) (by kernel_rfl) h
def r8 (a0:AV) (s:AS) (R:AV->AS->Prop):Prop :=
 sr (Q9 T aC true a0 (.slc none 0 0 true)) fun b=>af b
 (R (.slc none 0 0 true) s)
 (aS (de T aC 0 []) fun c=>aj (.cells c 0 false) s fun l3 s4=>ig (aG T aC aC (.slc (some (l3,0)) 0 0 true) a0 s4) fun d s6=>R d s6)
def r_:QA:=(.seq .leaf (.seq (.seq .leaf (.cond (.seq .leaf .leaf) .leaf)) (.seq .leaf .leaf)))
theorem sg (a0:AV) (s:AS) (R:AV->AS->Prop) (h:r8 a0 s R):aa Tryz.prog aM [a0] s R :=
 aa.q (n:=8) (rs:=[.tmp 2]) (A:=r_) hT bX Tryz.func113 (by kernel_rfl) rfl rfl rfl (by kernel_rfl) (by kernel_rfl) h
def BO (a0:Option (Nat×Nat)) (s:AS) (R:AV->AS->Prop):Prop :=
 bt fun L =>
 (∀ M:AV,∀ s3:AS,L [M] s3 ->
 ah a0 fun Q S=>e_ T aC s3 Q (S+16) M fun s6=>R (.aQ []) s6) /\
 (ah a0 fun U W=>dn (ak s U (W+16)) fun O=>aV .i64 (aL T aC O s) fun n=>bu fun d o=>d o [.slc none 0 0 true,.int .i64 0] s /\
 ∀ i:Nat,∀ e:AV,∀ b:Int,∀ j:AS,d i [e,.int .i64 b] j ->
 af (decide ((b:Int)<n))
 (bE (ag T aC O (.int .i64 b)) fun p r=>aS (aD j p r 2) fun m=>aj (.cells [.int .i64 0,.int .u64 0] 0 false) j fun c gl=>fy (some 2) m (bC (cS gl c 0 m) fun fV=>aV .i64 (ak fV c 0) fun w=>ah a0 fun x y=>bE (ag T aX (.ptr (some (x,y))) (.int .i64 (IntKind.wrap .i64 (w - 1)))) fun k l=>aV .u64 (ak fV c 1) fun z=>aV .u64 (ak fV k l) fun A=>af (decide ((z:Int)<=A))
 (∃ m',m'<i/\d m' [e,(.int .i64 (IntKind.wrap .i64 (b+1)))] fV)
 (aV .u64 (ak fV c 1) fun B=>aV .u64 (ak fV k l) fun C=>af ((B:Int)==(IntKind.wrap .u64 (C+1)))
 (aV .u64 (ak fV c 1) fun D=>bC (cS fV k l [.int .u64 D]) fun F=>∃ m',m'<i/\d m' [e,(.int .i64 (IntKind.wrap .i64 (b+1)))] F)
 (aS (aD fV c 0 2) fun G=>aS (de T aC 1 [(0,.agg G)]) fun H=>aj (.cells H 0 false) fV fun I kC=>ig (aG T aC aC e (.slc (some (I,0)) 1 1 true) kC) fun J K=>∃ m',m'<i/\d m' [J,(.int .i64 (IntKind.wrap .i64 (b+1)))] K))))
 (L [e] j))
def BP:QA:=(.wrap (.seq .leaf (.seq .leaf (.join [(2,.any)] [(2,2),(4,45)] (.seq .leaf (.wrap (.loop [(2,.any),(11,.int .i64)] [(2,2),(4,5),(11,45)] (.seq .leaf (.seq (.cond .leaf .leaf) (.seq (.wrap (.seq .leaf (.seq (.seq (.draw 6) (.wrap (.seq (.draw 5) (.cond .leaf (.seq (.draw 6) (.cond (.seq .leaf .leaf) .leaf)))))) .leaf))) .leaf)))))) .leaf))))
theorem BQ (a0:Option (Nat×Nat)) (s:AS) (R:AV->AS->Prop) (h:BO a0 s R):aa Tryz.prog ni [.ptr a0] s R :=
 aa.q (n:=50) (rs:=[]) (A:=BP) hT bX Tryz.func264 (by kernel_rfl) rfl rfl rfl (by kernel_rfl) (by kernel_rfl) h
def Iy (a0:AV) (s:AS) (R:AV->AS->Prop):Prop :=
 aV .i64 (aL T iA a0 s) fun i=>bu fun c j=>c j [.int .i64 0] s /\
 ∀ d:Nat,∀ b:Int,∀ s6:AS,c d [.int .i64 b] s6 ->
 af (decide ((b:Int)<i))
 (bE (ag T iA a0 (.int .i64 b)) fun k l=>aV .i64 (ak s6 k l) fun e=>af ((e:Int) != 0)
 (R (.int .i64 e) s6)
 (∃ m',m'<d/\c m' [(.int .i64 (IntKind.wrap .i64 (b+1)))] s6))
 (R (.int .i64 0) s6)
def Iz:QA:=(.seq .leaf (.seq .leaf (.seq (.seq .leaf (.wrap (.loop [(8,.int .i64)] [(2,2),(5,5),(8,16)] (.seq .leaf (.seq (.cond .leaf .leaf) (.seq (.wrap (.seq .leaf (.seq .leaf (.cond (.seq .leaf .leaf) .leaf)))) .leaf)))))) (.seq .leaf .leaf))))
theorem IA (a0:AV) (s:AS) (R:AV->AS->Prop) (h:Iy a0 s R):aa Tryz.prog k5 [a0] s R :=
 aa.q (n:=18) (rs:=[.tmp 2]) (A:=Iz) hT bX Tryz.func178 (by kernel_rfl) rfl rfl rfl (by kernel_rfl) (by kernel_rfl) h
def z1 (a0:Int) (a1:Int) (s:AS) (R:AV->AS->Prop):Prop :=
 aa Tryz.prog kI [.int .i64 a0] s fun e s2=>∃ d:Bool,e=.bool d/\(aa Tryz.prog kI [.int .i64 a1] s2 fun i b=>∃ c:Bool,i=.bool c/\(af d
 (af c
 (R (.int .i64 0) b)
 (R (.int .i64 (-1)) b))
 (af c
 (R (.int .i64 1) b)
 (af (decide ((a0:Int)<a1))
 (R (.int .i64 (-1)) b)
 (af (decide ((a0:Int)>a1))
 (R (.int .i64 1) b)
 (R (.int .i64 0) b))))))
def z2:QA:=(.seq .leaf (.seq .leaf (.seq .leaf (.seq (.seq .leaf (.cond (.seq (.seq .leaf (.cond (.seq .leaf .leaf) .leaf)) (.seq .leaf .leaf)) .leaf)) (.seq (.seq .leaf (.cond (.seq .leaf .leaf) .leaf)) (.seq (.seq .leaf (.cond (.seq .leaf .leaf) .leaf)) (.seq (.seq .leaf (.cond (.seq .leaf .leaf) .leaf)) (.seq .leaf .leaf))))))))
theorem z3 (a0:Int) (a1:Int) (s:AS) (R:AV->AS->Prop) (h:z1 a0 a1 s R):aa Tryz.prog aU [.int .i64 a0,.int .i64 a1] s R :=
 aa.q (n:=20) (rs:=[.tmp 4]) (A:=z2) hT bX Tryz.func179 (by kernel_rfl) rfl rfl rfl (by kernel_rfl) (by kernel_rfl) h
def wG (a0:Int) (a1:Int) (s:AS) (R:AV->AS->Prop):Prop :=
 aa Tryz.prog iz [.int .u64 a0] s fun e s2=>∃ d:Bool,e=.bool d/\(aa Tryz.prog iz [.int .u64 a1] s2 fun i b=>∃ c:Bool,i=.bool c/\(af d
 (af c
 (R (.int .i64 0) b)
 (R (.int .i64 (-1)) b))
 (af c
 (R (.int .i64 1) b)
 (af (decide ((a0:Int)<a1))
 (R (.int .i64 (-1)) b)
 (af (decide ((a0:Int)>a1))
 (R (.int .i64 1) b)
 (R (.int .i64 0) b))))))
def wH:QA:=(.seq .leaf (.seq .leaf (.seq .leaf (.seq (.seq .leaf (.cond (.seq (.seq .leaf (.cond (.seq .leaf .leaf) .leaf)) (.seq .leaf .leaf)) .leaf)) (.seq (.seq .leaf (.cond (.seq .leaf .leaf) .leaf)) (.seq (.seq .leaf (.cond (.seq .leaf .leaf) .leaf)) (.seq (.seq .leaf (.cond (.seq .leaf .leaf) .leaf)) (.seq .leaf .leaf))))))))
theorem wI (a0:Int) (a1:Int) (s:AS) (R:AV->AS->Prop) (h:wG a0 a1 s R):aa Tryz.prog eS [.int .u64 a0,.int .u64 a1] s R :=
 aa.q (n:=20) (rs:=[.tmp 4]) (A:=wH) hT bX Tryz.func180 (by kernel_rfl) rfl rfl rfl (by kernel_rfl) (by kernel_rfl) h
def uC (a0:Int) (s:AS) (R:AV->AS->Prop):Prop :=
 R (.bool ((a0:Int) != a0)) s
def De:QA:=(.seq .leaf (.seq .leaf .leaf))
theorem Df (a0:Int) (s:AS) (R:AV->AS->Prop) (h:uC a0 s R):aa Tryz.prog kI [.int .i64 a0] s R :=
 aa.q (n:=6) (rs:=[.tmp 2]) (A:=De) hT bX Tryz.func238 (by kernel_rfl) rfl rfl rfl (by kernel_rfl) (by kernel_rfl) h
def qt (a0:Int) (s:AS) (R:AV->AS->Prop):Prop :=
 R (.bool ((a0:Int) != a0)) s
def y6:QA:=(.seq .leaf (.seq .leaf .leaf))
theorem y7 (a0:Int) (s:AS) (R:AV->AS->Prop) (h:qt a0 s R):aa Tryz.prog iz [.int .u64 a0] s R :=
 aa.q (n:=6) (rs:=[.tmp 2]) (A:=y6) hT bX Tryz.func239 (by kernel_rfl) rfl rfl rfl (by kernel_rfl) (by kernel_rfl) h
end
section
open Go.Am Go.aq
def aP (d:aO):List AV:=[.int .i64 d.r,.int .u64 d.c]
theorem br (d:aO):(aP d).length=2:=rfl
theorem nB (d:aO):(aP d).all AV.one=true:=rfl
theorem sM (a:Int) (s:AS):aa Tryz.prog kI [.int .i64 a] s fun v s'=>v=.bool false/\s'=s:=by
 refine Df _ _ _ ?_;simp [uC]
theorem pU (a:Int) (s:AS):aa Tryz.prog iz [.int .u64 a] s fun v s'=>v=.bool false/\s'=s:=by
 refine y7 _ _ _ ?_;simp [qt]
theorem kT (a b:Int) (s:AS):aa Tryz.prog aU [.int .i64 a,.int .i64 b] s fun v s'=>v=.int .i64 (ug a b)/\s'=s:=by
 refine z3 _ _ _ _ ?_;refine (sM _ _).mono ?_;rintro v s1 ⟨rfl,rfl⟩;refine ⟨_,rfl,?_⟩;refine (sM _ _).mono ?_;rintro v s1 ⟨rfl,rfl⟩;refine ⟨_,rfl,?_⟩;simp only [gU,ug]
 grind
theorem iY (a b:Int) (s:AS):aa Tryz.prog eS [.int .u64 a,.int .u64 b] s fun v s'=>v=.int .i64 (ug a b)/\s'=s:=by
 refine wI _ _ _ _ ?_;refine (pU _ _).mono ?_;rintro v s1 ⟨rfl,rfl⟩;refine ⟨_,rfl,?_⟩;refine (pU _ _).mono ?_;rintro v s1 ⟨rfl,rfl⟩;refine ⟨_,rfl,?_⟩;simp only [gU,ug]
 grind
theorem rP (d:aO) (s:AS):aa Tryz.prog oC [.agg (aP d)] s fun v s'=>v=.bool d.may/\Ext s s':=by
 refine aa.pre fun b=>RA _ _ _ ⟨rfl,aj.intro b rfl fun l s1 F=>?_⟩;simp only [F.own.at.ak,aP,List.getElem?_cons_zero,List.getElem?_cons_succ,go_sem,gU,F.ext,and_true,aO.may]
 grind
theorem BR (d:aO) (s:AS):aa Tryz.prog sx [.agg (aP d)] s fun v s'=>v=.bool d.may/\Ext s s':=by
 refine aa.pre fun b=>MZ _ _ _ ⟨rfl,aj.intro b rfl fun l s1 F=>?_⟩;simp only [F.own.at.ak,aP,List.getElem?_cons_zero,List.getElem?_cons_succ,go_sem,gU,F.ext,and_true,aO.may]
 grind
end
section
open Go.Am Go.aq
theorem jk:CQ T aC gM 2 16:=⟨bJ,kN,Wj,⟨_,_,OO,rfl,rfl⟩,by decide,by decide⟩
abbrev IB:=Sl aP 2
theorem a_ {n:Int} (h:0<=n/\n<=4611686018427387904):IntKind.wrap .i64 n=n:=IntWalk.i64_in _ (by omega)
theorem sN {n:Int} (h : -4611686018427387904<=n/\n<=4611686018427387904):IntKind.wrap .i64 n=n:=IntWalk.i64_in _ (by omega)
theorem gi {n:Int} (h:0<=n/\n<=18446744073709551615):IntKind.wrap .u64 n=n:=IntWalk.u64_in _ (by omega)
theorem RB {i j:Nat} (h:i+j<=4611686018427387904):IntKind.wrap .i64 (Int.fdiv (IntKind.wrap .u64 (IntKind.wrap .i64 ((i:Int)+(j:Int)))) (2 ^ min (Int.toNat 1) (IntKind.bits .u64)))=(((i+j) / 2:Nat):Int):=by
 rw [show IntKind.wrap .i64 ((i:Int)+(j:Int))=(i:Int)+(j:Int) from a_ (by omega),gi (by omega)];have:(2:Int) ^ min (Int.toNat 1) (IntKind.bits .u64)=2:=by decide
 rw [this,Int.fdiv_eq_ediv_of_nonneg _ (by omega),a_ (by omega)];omega
theorem ql (a b:Int) {s:AS} {l:Nat} (h:At s l [.int .i64 a,.int .i64 b]):aa Tryz.prog k5 [.slc (some (l,0)) 2 2 true] s fun v s'=>v=.int .i64 (if a≠0 then a else b)/\s'=s:=by
 have hs:Sl (fun n:Int=>[AV.int .i64 n]) 1 s (.slc (some (l,0)) 2 2 true) [a,b]:=bR.mk h rfl rfl;refine IA _ _ _ ⟨_,hs.b_ sG s,fun m vs s'=>∃ i:Nat,vs=[.int .i64 i]/\s'=s/\i<=2/\m=2 - i/\(0<i->a=0)/\(1<i->b=0),2,⟨0,by simp⟩,?_⟩;rintro m n s' ⟨i,hi,rfl,h2,rfl,h3,h4⟩;simp only [List.cons.injEq,AV.int.injEq,true_and,and_true] at hi;subst hi;refine af.dec (fun j=>?_) (fun k=>?_)
 ·simp only [List.length_cons,List.length_nil] at j;have p:i<2:=by omega
  obtain ⟨x,c⟩:∃ x,[a,b][i]? = some x:=⟨_,List.getElem?_eq_getElem (by simpa using p)⟩;obtain ⟨la,o,w,y⟩:=hs.ix (sz:=1) (by decide) (fun _=>rfl) sG Jq c;refine ⟨la,o,w _,x,(y _ (Ext.refl _)).1 0 (by decide),af.mk (fun r=>?_) (fun heq=>?_)⟩
  ·refine ⟨?_,rfl⟩;have d:x≠0:=by simpa using r
   rcases (show i=0\/i=1 by omega) with rfl | rfl
   ·simp at c;subst c;rw [if_pos d]
   ·simp at c;subst c;rw [if_neg (by simp [h3])]
  ·have e:x=0:=by simpa using heq
   subst e;refine ⟨2 - (i+1),by omega,i+1,by rw [a_ (by omega)];rfl,rfl,by omega,rfl,fun _=>?_,fun z=>?_⟩
   ·rcases (show i=0\/i=1 by omega) with rfl | rfl
    ·simpa using c
    ·exact h3 (by decide)
   ·rcases (show i=0\/i=1 by omega) with rfl | rfl
    ·omega
    ·simpa using c
 ·simp only [List.length_cons,List.length_nil] at k;obtain rfl:i=2:=by omega
  refine ⟨?_,rfl⟩;rw [if_neg (by simp [h3]),h4 (by decide)]
theorem vK (a b:aO) (s:AS):aa Tryz.prog cV [.agg (aP a),.agg (aP b)] s fun v s'=>v=.int .i64 (a.cmp b)/\Ext s s':=by
 refine aa.pre fun n=>M6 _ _ _ _ ⟨rfl,aj.intro n rfl fun l s1 F=>⟨rfl,aj.intro F.wf rfl fun o s2 i=>?_⟩⟩;have e:=F.ext.trans i.ext;refine ⟨fun _ _ _ _=>True,fun _ _ v=>v=.int .i64 (ug a.r b.r),fun _ _ _ _ _ _ _=>trivial,?_⟩;simp only [(F.own.ext i.ext).at.ak,i.own.at.ak,aP,List.getElem?_cons_zero,List.getElem?_cons_succ,go_sem];refine ⟨fun s7 _ _ _=>?_,⟨_,rfl⟩,?_⟩
 ·refine (kT _ _ _).mono ?_;rintro v s' ⟨rfl,rfl⟩;exact ⟨_,rfl,Ext.refl _,trivial,rfl⟩
 ·rintro v rfl;refine ⟨_,rfl,fun fH j _ _=>?_⟩;refine aa.use (iY _ _ _) ?_;rintro v s' ⟨rfl,rfl⟩ k;refine ⟨_,rfl,?_⟩;have d:de T iA 2 [(0,.int .i64 (ug a.r b.r)),(1,.int .i64 (ug a.c b.c))]=some [.int .i64 (ug a.r b.r),.int .i64 (ug a.c b.c)]:=by
   simp only [de,sG,Jq,KA,Option.bind_some,u9];rfl
  rw [d];simp only [go_sem];refine aj.intro k rfl fun l3 s3 m=>?_;refine (ql _ _ m.own.at).mono ?_;rintro v s' ⟨rfl,rfl⟩;refine ⟨_,rfl,?_,e.trans (j.trans m.ext)⟩;simp only [aO.cmp]
structure xY (s:AS) (p:Nat) (v:List Int) (ex:List aO):Prop where
 len:v.length=16
 mem:∃ w,Am.Own s p (v.map (.int .u64)++[w,.bool true])/\w.one=true/\IB s w ex
theorem xY.ext {s s':AS} {p:Nat} {v:List Int} {ex:List aO} (h:xY s p v ex) (e:Ext s s'):xY s' p v ex:=by
 obtain ⟨b,w,h2,h3,h4⟩:=h;exact ⟨b,w,h2.ext e,h3,h4.ext e⟩
theorem vL {s:AS} {p:Nat} {v:List Int} {ex:List aO} (h:xY s p v ex):aa Tryz.prog jd [.ptr (some (p,0))] s fun v s'=>v=.bool true/\s'=s:=by
 obtain ⟨b,w,h2,h3,h4⟩:=h;refine EH _ _ _ ?_;unfold wu;rw [jq xK];have:(v.map (AV.int .u64)++[w,.bool true])[0+17]? = some (.bool true):=by
  rw [List.getElem?_append_right (by simp [b])];simp [b]
 simp only [go_sem,Option.isNone_some,Bool.not_false,h2.at.ak,this,and_self]
end
section
open Go.Am Go.aq
theorem Hq {s:AS} {v:AV} {l:List aO} (D:IB s v l) (hlen:l.length<=2 ^ 40) (hr:ew l) (d:aO):aa Tryz.prog az [v,.agg (aP d),.func cV []] s
  fun r s'=>r=.aQ [.int .i64 (pos l d:Nat),.bool (decide (d∈l))]/\Ext s s':=by
 refine aa.pre fun W=>jD _ _ _ _ _ ⟨rfl,aj.intro W rfl fun la s2 F=>?_⟩;refine ⟨_,D.b_ bJ s2,fun vs s'=>∃ i:Nat,vs=[.int .i64 (i:Nat)]/\i<=l.length/\Ext s2 s'/\(∀ (k:Nat) x,k<i->l[k]? = some x->x.lt d=true)/\(∀ (k:Nat) x,i<=k->l[k]? = some x->x.lt d=false),?_,?_⟩
 ·rintro n5 s6 ⟨i,hi,G,w,R,h2⟩;simp only [List.cons.injEq,AV.int.injEq,true_and,and_true] at hi;subst hi;have hp:pos l d=i:=pos_eq G R fun x c=>h2 i x (Nat.le_refl _) c;have n:=hr.mem d;rw [hp] at n ⊢;refine ⟨fun _ _ _ _=>True,fun _ _ v=>∃ x,l[i]? = some x/\v=.int .i64 (x.cmp d),fun _ _ _ _ _ _ _=>trivial,af.dec (fun H=>?_) (fun I=>?_)⟩
  ·have A:i<l.length:=by omega
   have c:l[i]? = some l[i]:=List.getElem?_eq_getElem A;obtain ⟨y,o,J,K⟩:=(D.ext (F.ext.trans w)).ix (by decide) br bJ kN c;refine ⟨y,o,J _,_,(K _ (Ext.refl _)).2,_,(F.own.ext w).at.aD (by simp [aP]),fun X Y _ _=>?_,⟨_,_,c,rfl⟩,?_⟩
   ·refine (vK _ _ _).mono ?_;rintro v s' ⟨rfl,e⟩;exact ⟨_,rfl,e,trivial,_,c,rfl⟩
   ·rintro v ⟨x,b,rfl⟩;rw [c] at b;obtain rfl:=Option.some.inj b;refine ⟨_,rfl,fun kU L _ _=>⟨?_,F.ext.trans (w.trans L)⟩⟩;congr 4;rw [Bool.eq_iff_iff,beq_iff_eq,decide_eq_true_eq,aO.WL,<- n,c];simp
  ·have:l[i]? = none:=List.getElem?_eq_none (by omega);rw [this] at n;have Z:¬ d∈l:=by rw [<- n];simp
   intro iF M _ _;refine ⟨?_,F.ext.trans (w.trans M)⟩;simp [Z]
 ·refine ⟨fun m vs s'=>∃ i j:Nat,vs=[.int .i64 (i:Nat),.int .i64 (j:Nat)]/\i<=j/\j<=l.length/\m=j - i/\Ext s2 s'/\(∀ (k:Nat) x,k<i->l[k]? = some x->x.lt d=true)/\(∀ (k:Nat) x,j<=k->l[k]? = some x->x.lt d=false),l.length,?_,?_⟩
  ·refine ⟨0,l.length,rfl,by omega,by omega,rfl,Ext.refl _,fun k x B=>by omega,fun k x B c=>?_⟩;rw [List.getElem?_eq_none B] at c;cases c
  ·rintro m ab ad ae ⟨i,j,C,R,h2,rfl,w,h3,h4⟩;simp only [List.cons.injEq,AV.int.injEq,true_and,and_true] at C;obtain ⟨rfl,rfl⟩:=C;refine af.dec (fun H=>?_) (fun I=>?_)
   ·rw [RB (by omega)];have O:(i+j) / 2<j:=by omega
    have Q:i<=(i+j) / 2:=by omega
    generalize S:(i+j) / 2=mid at O Q;have c:l[mid]? = some l[mid]:=List.getElem?_eq_getElem (by omega);obtain ⟨y,o,J,K⟩:=(D.ext (F.ext.trans w)).ix (by decide) br bJ kN c;refine ⟨by decide,y,o,J _,_,(K _ (Ext.refl _)).2,_,(F.own.ext w).at.aD (by simp [aP]),?_⟩;refine (vK _ _ _).mono ?_;rintro v s' ⟨rfl,e⟩;refine ⟨_,rfl,af.dec (fun z=>?_) (fun z=>?_)⟩
    ·rw [aO.gu] at z;refine ⟨j - (mid+1),by omega,mid+1,j,by rw [a_ (by omega)];rfl,by omega,h2,rfl,w.trans e,fun k x B b=>?_,h4⟩;rcases Nat.lt_or_ge k mid with p | p
     ·exact aO.lt_trans (hr.lt p b c) z
     ·obtain rfl:k=mid:=by omega
      rw [c] at b;obtain rfl:=Option.some.inj b;exact z
    ·rw [aO.gu] at z;refine ⟨mid - i,by omega,i,mid,rfl,by omega,by omega,rfl,w.trans e,h3,fun k x B b=>?_⟩;cases U:x.lt d with
     | false=>rfl
     | true =>
      exfalso;rcases Nat.eq_or_lt_of_le B with p | p
      ·subst p;rw [c] at b;obtain rfl:=Option.some.inj b;exact z U
      ·exact z (aO.lt_trans (hr.lt p c b) U)
   ·obtain rfl:i=j:=by omega
    exact ⟨i,rfl,by omega,w,h3,h4⟩
end
end Go.Proofs.YtohgmogbabkkeaaGreat
