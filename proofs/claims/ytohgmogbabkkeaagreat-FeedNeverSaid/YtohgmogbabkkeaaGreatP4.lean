/-
  A part of Pd proof: an abstract machine B7 Pd model, and qA of qB of this program B7 it.
-/
import Derived.Test.YtohgmogbabkkeaaGreatProg
import Derived.KernelRfl
import Derived.Test.YtohgmogbabkkeaaGreatRows
import Derived.Test.YtohgmogbabkkeaaGreatP3
set_option linter.unusedVariables false
set_option linter.unusedSimpArgs false
set_option linter.unusedSectionVars false
section
namespace Go.Proofs.YtohgmogbabkkeaaGreat
open Go.Am
noncomputable def T:TT:=TT.of Tryz.prog
theorem hT:TT.Ok Tryz.prog T:=TT.WQ _
theorem bY:Tryz.prog.follows .mixedOrders=true:=by kernel_rfl
end Go.Proofs.YtohgmogbabkkeaaGreat
end

section
namespace Go.Proofs.YtohgmogbabkkeaaGreat
open Go.Am
abbrev mq:Nat:=4
abbrev oN:Nat:=12
abbrev kN:Nat:=13
abbrev c_:Nat:=14
abbrev qW:Nat:=15
abbrev cI:Nat:=16
abbrev cF:Nat:=17
abbrev dN:Nat:=18
abbrev eL:Nat:=19
abbrev fY:Nat:=20
abbrev eM:Nat:=21
abbrev mE:Nat:=22
abbrev gn:Nat:=23
abbrev ey:Nat:=24
abbrev iM:Nat:=25
abbrev iz:Nat:=26
abbrev qk:Nat:=27
abbrev lI:Nat:=29
abbrev wJ:Nat:=33
abbrev lq:Nat:=36
abbrev kO:Nat:=44
abbrev wK:Nat:=61
abbrev y6:Nat:=66
abbrev nV:Nat:=67
abbrev di:Nat:=68
abbrev pP:Nat:=69
abbrev aT:Nat:=70
abbrev bN:Nat:=71
abbrev cX:Nat:=72
abbrev bH:Nat:=73
abbrev cY:Nat:=74
abbrev fl:Nat:=75
abbrev fZ:Nat:=76
abbrev iA:Nat:=77
abbrev fm:Nat:=78
abbrev cD:Nat:=79
abbrev bP:Nat:=80
abbrev sy:Nat:=81
abbrev eD:Nat:=82
abbrev fR:Nat:=83
abbrev er:Nat:=84
abbrev lJ:Nat:=85
abbrev iB:Nat:=86
abbrev iC:Nat:=87
abbrev rW:Nat:=88
abbrev jD:Nat:=89
abbrev dJ:Nat:=90
abbrev wL:Nat:=91
abbrev eR:Nat:=92
abbrev bZ:Nat:=93
abbrev fN:Nat:=94
abbrev mF:Nat:=95
abbrev mH:Nat:=96
abbrev lz:Nat:=97
abbrev rX:Nat:=99
abbrev ql:Nat:=100
abbrev uL:Nat:=101
abbrev mI:Nat:=102
abbrev en:Nat:=104
abbrev kD:Nat:=105
abbrev jE:Nat:=108
abbrev lA:Nat:=109
abbrev dF:Nat:=111
abbrev iN:Nat:=112
abbrev aH:Nat:=113
abbrev fG:Nat:=114
abbrev iV:Nat:=117
abbrev nW:Nat:=118
abbrev dO:Nat:=121
abbrev eS:Nat:=124
abbrev ay:Nat:=126
abbrev cP:Nat:=127
abbrev Cm:Nat:=146
abbrev jF:Nat:=150
abbrev mJ:Nat:=151
abbrev dx:Nat:=152
abbrev iO:Nat:=153
abbrev kF:Nat:=154
abbrev nX:Nat:=155
abbrev bp:Nat:=156
abbrev bt:Nat:=157
abbrev fL:Nat:=158
abbrev nY:Nat:=159
abbrev wM:Nat:=160
abbrev sA:Nat:=161
abbrev jG:Nat:=162
abbrev iD:Nat:=163
abbrev iE:Nat:=164
abbrev jH:Nat:=165
abbrev wN:Nat:=166
abbrev y7:Nat:=167
abbrev eN:Nat:=168
abbrev wO:Nat:=169
abbrev bF:Nat:=170
abbrev mL:Nat:=172
abbrev wP:Nat:=173
abbrev nZ:Nat:=174
abbrev pQ:Nat:=175
abbrev lC:Nat:=177
abbrev kP:Nat:=178
abbrev aP:Nat:=179
abbrev eK:Nat:=180
abbrev b_:Nat:=185
abbrev eE:Nat:=189
abbrev iX:Nat:=191
abbrev fy:Nat:=192
abbrev qm:Nat:=207
abbrev pR:Nat:=208
abbrev qn:Nat:=209
abbrev uM:Nat:=210
abbrev y8:Nat:=211
abbrev sB:Nat:=212
abbrev eo:Nat:=213
abbrev sC:Nat:=214
abbrev n_:Nat:=215
abbrev uN:Nat:=216
abbrev jJ:Nat:=217
abbrev y9:Nat:=218
abbrev wQ:Nat:=219
abbrev cK:Nat:=220
abbrev gq:Nat:=221
abbrev jK:Nat:=222
abbrev mM:Nat:=223
abbrev uO:Nat:=224
abbrev bB:Nat:=225
abbrev cO:Nat:=226
abbrev sE:Nat:=227
abbrev mN:Nat:=237
abbrev jZ:Nat:=238
abbrev gR:Nat:=239
abbrev dG:Nat:=245
abbrev pg:Nat:=246
abbrev pS:Nat:=247
abbrev fA:Nat:=248
abbrev kG:Nat:=255
abbrev eV:Nat:=256
abbrev og:Nat:=257
abbrev uP:Nat:=258
abbrev qX:Nat:=259
abbrev wR:Nat:=260
abbrev mO:Nat:=261
abbrev qe:Nat:=262
abbrev ep:Nat:=263
abbrev mP:Nat:=264
abbrev gU:Nat:=266
abbrev iF:Nat:=267
abbrev lK:Nat:=272
abbrev pn:Nat:=273
abbrev lM:Nat:=274
abbrev mQ:Nat:=275
abbrev mg:Nat:=276
abbrev iP:Nat:=277
abbrev kQ:Nat:=278
abbrev oh:Nat:=279
abbrev fS:Nat:=280
abbrev qY:Nat:=291
abbrev uQ:Nat:=292
abbrev oq:Nat:=293
abbrev y_:Nat:=294
abbrev rY:Nat:=295
abbrev sF:Nat:=296
abbrev fH:Nat:=297
abbrev aD:Nat:=298
abbrev gD:Nat:=299
abbrev mR:Nat:=300
abbrev rI:Nat:=301
abbrev pq:Nat:=303
abbrev kR:Nat:=304
abbrev qo:Nat:=305
abbrev gr:Nat:=306
abbrev rZ:Nat:=307
abbrev qp:Nat:=313
end Go.Proofs.YtohgmogbabkkeaaGreat
end

section
namespace Go.Proofs.YtohgmogbabkkeaaGreat
open Go.Am
abbrev qZ:Nat:=3
abbrev vX:Nat:=4
abbrev r0:Nat:=5
abbrev bX:Nat:=9
abbrev sG:Nat:=20
abbrev gS:Nat:=22
abbrev yH:Nat:=28
abbrev aq:Nat:=30
abbrev jL:Nat:=33
abbrev bC:Nat:=37
abbrev lD:Nat:=40
abbrev yI:Nat:=41
abbrev pz:Nat:=45
abbrev gV:Nat:=47
abbrev dz:Nat:=48
abbrev aZ:Nat:=49
abbrev bL:Nat:=50
abbrev iG:Nat:=52
abbrev dS:Nat:=58
abbrev a_:Nat:=59
abbrev cg:Nat:=60
abbrev lN:Nat:=62
abbrev eW:Nat:=64
abbrev ko:Nat:=69
abbrev wS:Nat:=71
abbrev Cn:Nat:=72
abbrev aE:Nat:=84
abbrev az:Nat:=85
abbrev pA:Nat:=87
abbrev sH:Nat:=93
abbrev q7:Nat:=100
abbrev aM:Nat:=128
abbrev r7:Nat:=130
abbrev br:Nat:=138
abbrev nJ:Nat:=140
abbrev q8:Nat:=144
abbrev f_:Nat:=155
abbrev oO:Nat:=157
abbrev sJ:Nat:=165
abbrev sL:Nat:=167
abbrev vA:Nat:=170
abbrev cj:Nat:=184
abbrev bQ:Nat:=185
abbrev pB:Nat:=187
abbrev ov:Nat:=189
abbrev DM:Nat:=203
abbrev eu:Nat:=205
abbrev gF:Nat:=240
abbrev fB:Nat:=247
abbrev AG:Nat:=270
abbrev cG:Nat:=271
abbrev eO:Nat:=285
abbrev dL:Nat:=286
abbrev gu:Nat:=290
abbrev fM:Nat:=341
theorem Pz:T.cR qZ=some (.int .i64):=by kernel_rfl
theorem It:T.eU qZ=some 1:=by kernel_rfl
theorem FR:T.rP qZ=some (.int .i64 0):=by kernel_rfl
theorem VW:T.agg qZ=some false:=by kernel_rfl
theorem Vv:T.cR vX=some (.bool):=by kernel_rfl
theorem AH:T.cR r0=some (.int .u8):=by kernel_rfl
theorem eG:T.eU r0=some 1:=by kernel_rfl
theorem JN:T.He r0=some 1:=by kernel_rfl
theorem FT:T.rP r0=some (.int .u8 0):=by kernel_rfl
theorem mS:T.cR bX=some (.string):=by kernel_rfl
theorem QD:T.agg bX=some false:=by kernel_rfl
theorem r8:T.cR gS=some (.slice qZ):=by kernel_rfl
theorem Hi:T.cR yH=some (.pointer r7):=by kernel_rfl
theorem aO:T.cR aq=some (.slice r0):=by kernel_rfl
theorem qJ:T.eU aq=some 1:=by kernel_rfl
theorem QE:T.He aq=some 24:=by kernel_rfl
theorem za:T.rP aq=some (.slc none 0 0 true):=by kernel_rfl
theorem Ss:T.cR jL=some (.int .u64):=by kernel_rfl
theorem jM:T.eU jL=some 1:=by kernel_rfl
theorem St:T.He jL=some 8:=by kernel_rfl
theorem QF:T.rP jL=some (.int .u64 0):=by kernel_rfl
theorem Co:T.agg jL=some false:=by kernel_rfl
theorem dA:T.cR bC=some (.slice iG):=by kernel_rfl
theorem xW:T.eU bC=some 1:=by kernel_rfl
theorem vB:T.cR lD=some (.pointer sL):=by kernel_rfl
theorem Hj:T.cR yI=some (.pointer pB):=by kernel_rfl
theorem kq:T.eU gV=some 2:=by kernel_rfl
theorem Vq:T.He gV=some 16:=by kernel_rfl
theorem N6:T.rP gV=some (.agg [.int .i64 0,.int .u64 0]):=by kernel_rfl
theorem VX:T.agg gV=some true:=by kernel_rfl
theorem JO:T.cR dz=some (.array 16 jL):=by kernel_rfl
theorem wT:T.cR aZ=some (.array 16 jL):=by kernel_rfl
theorem tJ:T.eU aZ=some 16:=by kernel_rfl
theorem Su:T.He aZ=some 128:=by kernel_rfl
theorem QG:T.rP aZ=some (.agg [.int .u64 0,.int .u64 0,.int .u64 0,.int .u64 0,.int .u64 0,.int .u64 0,.int .u64 0,.int .u64 0,.int .u64 0,.int .u64 0,.int .u64 0,.int .u64 0,.int .u64 0,.int .u64 0,.int .u64 0,.int .u64 0]):=by kernel_rfl
theorem eX:T.cR bL=some (.slice wS):=by kernel_rfl
theorem Sv:T.eU bL=some 1:=by kernel_rfl
theorem uR:T.eU iG=some 21:=by kernel_rfl
theorem Ur:T.He iG=some 208:=by kernel_rfl
theorem LU:T.rP iG=some (.agg [.int .i64 0,.int .u64 0,.str [],.slc none 0 0 true,.int .u64 0,.int .u64 0,.int .u64 0,.int .u64 0,.int .u64 0,.int .u64 0,.int .u64 0,.int .u64 0,.int .u64 0,.int .u64 0,.int .u64 0,.int .u64 0,.int .u64 0,.int .u64 0,.int .u64 0,.int .u64 0,.slc none 0 0 true]):=by kernel_rfl
theorem gw:T.cR dS=some (.slice lN):=by kernel_rfl
theorem AI:T.cR a_=some (.map bX aq):=by kernel_rfl
theorem wU:T.cR cg=some (.map bX eW):=by kernel_rfl
theorem zb:T.eU lN=some 22:=by kernel_rfl
theorem LV:T.cR eW=some (.map gV qZ):=by kernel_rfl
theorem JP:T.rP eW=some (.map none):=by kernel_rfl
theorem VY:T.rP ko=some (.agg [.str [],.str []]):=by kernel_rfl
theorem ze:T.eU wS=some 3:=by kernel_rfl
theorem VZ:T.He wS=some 32:=by kernel_rfl
theorem Us:T.rP wS=some (.agg [.int .i64 0,.int .u64 0,.str []]):=by kernel_rfl
theorem cZ:T.cR aE=some (.slice q7):=by kernel_rfl
theorem LW:T.eU aE=some 1:=by kernel_rfl
theorem bI:T.cR az=some (.slice gV):=by kernel_rfl
theorem AJ:T.eU az=some 1:=by kernel_rfl
theorem Sx:T.agg az=some false:=by kernel_rfl
theorem wV:T.cR pA=some (.pointer ov):=by kernel_rfl
theorem JQ:T.cR sH=some (.array 32 r0):=by kernel_rfl
theorem ox:T.eU q7=some 5:=by kernel_rfl
theorem V0:T.He q7=some 56:=by kernel_rfl
theorem Ut:T.rP q7=some (.agg [.int .i64 0,.int .u64 0,.str [],.str [],.bool false]):=by kernel_rfl
theorem kS:T.cR aM=some (.map bX f_):=by kernel_rfl
theorem JR:T.rP r7=some (.agg [.slc none 0 0 true,.map none]):=by kernel_rfl
theorem dQ:T.cR br=some (.slice aZ):=by kernel_rfl
theorem q9:T.eU br=some 1:=by kernel_rfl
theorem vC:T.cR f_=some (.pointer oO):=by kernel_rfl
theorem Cp:T.rP f_=some (.ptr none):=by kernel_rfl
theorem FU:T.rP oO=some (.agg [.int .u64 0,.int .u64 0,.int .u64 0,.int .u64 0,.int .u64 0,.int .u64 0,.int .u64 0,.int .u64 0,.int .u64 0,.int .u64 0,.int .u64 0,.int .u64 0,.int .u64 0,.int .u64 0,.int .u64 0,.int .u64 0,.int .i64 0,.slc none 0 0 true]):=by kernel_rfl
theorem yJ:T.cR sJ=some (.map gV iG):=by kernel_rfl
theorem DN:T.cR vA=some (.pointer gF):=by kernel_rfl
theorem wW:T.cR cj=some (.map gV ko):=by kernel_rfl
theorem JS:T.agg cj=some false:=by kernel_rfl
theorem kr:T.cR bQ=some (.map gV eu):=by kernel_rfl
theorem JT:T.rP pB=some (.agg [.ptr none,.map none,.map none]):=by kernel_rfl
theorem N7:T.rP ov=some (.agg [.int .u64 0,.int .u64 0,.int .u64 0,.int .u64 0,.int .u64 0,.int .u64 0,.int .u64 0,.int .u64 0,.int .u64 0,.int .u64 0,.int .u64 0,.int .u64 0,.int .u64 0,.int .u64 0,.int .u64 0,.int .u64 0,.slc none 0 0 true,.bool false]):=by kernel_rfl
theorem wX:T.rP eu=some (.agg [.bool false]):=by kernel_rfl
theorem FV:T.rP gF=some (.agg [.slc none 0 0 true,.bool false,.bool false]):=by kernel_rfl
theorem jN:T.cR fB=some (.slice jL):=by kernel_rfl
theorem FW:T.eU AG=some 1:=by kernel_rfl
theorem QH:T.agg AG=some false:=by kernel_rfl
theorem Ds:T.cR cG=some (.array 8 AG):=by kernel_rfl
theorem oz:T.cR eO=some (.slice aq):=by kernel_rfl
theorem JU:T.cR dL=some (.array 64 AG):=by kernel_rfl
theorem r_:T.cR gu=some (.array 64 r0):=by kernel_rfl
theorem LX:T.cR fM=some (.array 2 jL):=by kernel_rfl
end Go.Proofs.YtohgmogbabkkeaaGreat
end

section
set_option maxRecDepth 100000
set_option maxHeartbeats 4000000
namespace Go.Proofs.YtohgmogbabkkeaaGreat
open Go.Am
def DO (a0:Int) (s:AS) (R:AV->AS->Prop):Prop :=
 aa Tryz.prog mN [.int .u64 a0] s fun c s2=>∃ b:Int,c=.int .i64 b/\(R (.int .i64 b) s2)
def DP:QA:=(.seq .leaf (.seq (.cond (.seq .leaf .leaf) .leaf) (.seq .leaf .leaf)))
theorem DQ (a0:Int) (s:AS) (R:AV->AS->Prop) (h:DO a0 s R):aa Tryz.prog lC [.int .u64 a0] s R :=
 aa.q (n:=8) (rs:=[.tmp 2]) (A:=DP) hT bY Tryz.func177 (by kernel_rfl) rfl rfl rfl (by kernel_rfl) (by kernel_rfl) h
def AK (a0:Int) (s:AS) (R:AV->AS->Prop):Prop :=
 bG fun e =>
 (∀ n2:Int,∀ i:Int,∀ s4:AS,e [.int .u64 n2,.int .i64 i] s4 ->
 bG fun j =>
 (∀ d:Int,∀ k:Int,∀ s8:AS,j [.int .u64 d,.int .i64 k] s8 ->
 bG fun l =>
 (∀ b:Int,∀ c:Int,∀ dH:AS,l [.int .u64 b,.int .i64 c] dH ->
 aU .u8 (ju T bX (.str [0,1,2,2,3,3,3,3,4,4,4,4,4,4,4,4,5,5,5,5,5,5,5,5,5,5,5,5,5,5,5,5,6,6,6,6,6,6,6,6,6,6,6,6,6,6,6,6,6,6,6,6,6,6,6,6,6,6,6,6,6,6,6,6,7,7,7,7,7,7,7,7,7,7,7,7,7,7,7,7,7,7,7,7,7,7,7,7,7,7,7,7,7,7,7,7,7,7,7,7,7,7,7,7,7,7,7,7,7,7,7,7,7,7,7,7,7,7,7,7,7,7,7,7,7,7,7,7,8,8,8,8,8,8,8,8,8,8,8,8,8,8,8,8,8,8,8,8,8,8,8,8,8,8,8,8,8,8,8,8,8,8,8,8,8,8,8,8,8,8,8,8,8,8,8,8,8,8,8,8,8,8,8,8,8,8,8,8,8,8,8,8,8,8,8,8,8,8,8,8,8,8,8,8,8,8,8,8,8,8,8,8,8,8,8,8,8,8,8,8,8,8,8,8,8,8,8,8,8,8,8,8,8,8,8,8,8,8,8,8,8,8,8,8,8,8,8,8,8,8,8,8,8,8,8,8]) (.int .u8 (IntKind.wrap .u8 b))) fun m=>R (.int .i64 (IntKind.wrap .i64 (c+(IntKind.wrap .i64 m)))) dH) /\
 (af (decide ((d:Int)>=256))
 (NN 8 (l [(.int .u64 (Int.fdiv d (2 ^ min (Int.toNat 8) (IntKind.bits .u64)))),(.int .i64 (IntKind.wrap .i64 (k+8)))] s8))
 (l [.int .u64 d,.int .i64 k] s8))) /\
 (af (decide ((n2:Int)>=65536))
 (NN 16 (j [(.int .u64 (Int.fdiv n2 (2 ^ min (Int.toNat 16) (IntKind.bits .u64)))),(.int .i64 (IntKind.wrap .i64 (i+16)))] s4))
 (j [.int .u64 n2,.int .i64 i] s4))) /\
 (af (decide ((a0:Int)>=4294967296))
 (NN 32 (e [(.int .u64 (Int.fdiv a0 (2 ^ min (Int.toNat 32) (IntKind.bits .u64)))),.int .i64 32] s))
 (e [.int .u64 a0,.int .i64 0] s))
def AL:QA:=(.seq .leaf (.join [(0,.int .u64),(2,.int .i64)] [(0,0),(2,6)] (.seq .leaf (.cond (.seq .leaf .leaf) .leaf)) (.join [(0,.int .u64),(2,.int .i64)] [(0,0),(2,2),(7,12)] (.seq .leaf (.cond (.seq .leaf .leaf) .leaf)) (.join [(0,.int .u64),(2,.int .i64)] [(0,0),(2,2),(13,18)] (.seq .leaf (.cond (.seq .leaf .leaf) .leaf)) (.seq .leaf .leaf)))))
theorem AM (a0:Int) (s:AS) (R:AV->AS->Prop) (h:AK a0 s R):aa Tryz.prog mN [.int .u64 a0] s R :=
 aa.q (n:=25) (rs:=[.tmp 2]) (A:=AL) hT bY Tryz.func237 (by kernel_rfl) rfl rfl rfl (by kernel_rfl) (by kernel_rfl) h
end Go.Proofs.YtohgmogbabkkeaaGreat
end

section
set_option maxRecDepth 100000
set_option maxHeartbeats 4000000
namespace Go.Proofs.YtohgmogbabkkeaaGreat
open Go.Am
def lX (a0:Int) (s:AS) (R:AV->AS->Prop):Prop :=
 aa Tryz.prog lC [(.int .u64 (IntKind.wrap .u64 a0))] s fun c s2=>∃ b:Int,c=.int .i64 b/\(NN b (R (.int .u64 (IntKind.wrap .u64 (1*2 ^ min (Int.toNat b) (IntKind.bits .u64)))) s2))
def tK:QA:=(.seq .leaf (.seq .leaf .leaf))
theorem tM (a0:Int) (s:AS) (R:AV->AS->Prop) (h:lX a0 s R):aa Tryz.prog gU [.int .i64 a0] s R :=
 aa.q (n:=7) (rs:=[.tmp 2]) (A:=tK) hT bY Tryz.func266 (by kernel_rfl) rfl rfl rfl (by kernel_rfl) (by kernel_rfl) h
def uS (a0:Option (Nat×Nat)) (s:AS) (R:AV->AS->Prop):Prop :=
 ai a0 fun l1 o2=>aU .u64 (au s l1 o2) fun G=>ai a0 fun H I=>aU .u64 (au s H I) fun J=>NN 13 (aU .u64 (bD .xor .u64 G (IntKind.wrap .u64 (J*2 ^ min (Int.toNat 13) (IntKind.bits .u64)))) fun K=>ai a0 fun L M=>bu (cU s L M [.int .u64 K]) fun b=>ai a0 fun d e=>aU .u64 (au b d e) fun i=>ai a0 fun ku j=>aU .u64 (au b ku j) fun k=>NN 7 (aU .u64 (bD .xor .u64 i (Int.fdiv k (2 ^ min (Int.toNat 7) (IntKind.bits .u64)))) fun l=>ai a0 fun m n=>bu (cU b m n [.int .u64 l]) fun gy=>ai a0 fun o p=>aU .u64 (au gy o p) fun r=>ai a0 fun w x=>aU .u64 (au gy w x) fun y=>NN 17 (aU .u64 (bD .xor .u64 r (IntKind.wrap .u64 (y*2 ^ min (Int.toNat 17) (IntKind.bits .u64)))) fun z=>ai a0 fun A B=>bu (cU gy A B [.int .u64 z]) fun c=>ai a0 fun C D=>aU .u64 (au c C D) fun F=>R (.int .u64 F) c)))
def uT:QA:=(.seq .leaf (.seq (.draw 7) (.seq (.draw 7) (.seq (.draw 7) (.seq .leaf .leaf)))))
theorem uU (a0:Option (Nat×Nat)) (s:AS) (R:AV->AS->Prop) (h:uS a0 s R):aa Tryz.prog iF [.ptr a0] s R :=
 aa.q (n:=33) (rs:=[.tmp 2]) (A:=uT) hT bY Tryz.func267 (by kernel_rfl) rfl rfl rfl (by kernel_rfl) (by kernel_rfl) h
end Go.Proofs.YtohgmogbabkkeaaGreat
end

section
set_option maxRecDepth 100000
set_option maxHeartbeats 4000000
namespace Go.Proofs.YtohgmogbabkkeaaGreat.SG
open Go.Am Go.av.SG
structure SE where
 O:OE
 cC:El O->List AV
 w:Nat
 len:∀ x,(cC x).length=w
 one:∀ x,(cC x).all AV.one=true
 ys:TypeId
 ye:TypeId
 us:T.cR ys=some (.slice ye)
 zs:T.eU ye=some w
 uV:FuncId
 fO:FuncId
 fI:FuncId
 mT:FuncId
 jO:FuncId
 iY:FuncId
 eY:FuncId
 gX:FuncId
 lO:FuncId
 jk:FuncId
 dU:FuncId
 lE:FuncId
 iQ:FuncId
 iH:FuncId
variable (E:SE)
def N8 (a0:AV) (a1:AV) (s:AS) (R:AV->AS->Prop):Prop :=
 aU .i64 (aQ T E.ys a0 s) fun b=>aa Tryz.prog lC [(.int .u64 (IntKind.wrap .u64 b))] s fun d s3=>∃ c:Int,d=.int .i64 c/\(aa Tryz.prog E.fO [a0,.int .i64 0,.int .i64 b,.int .i64 c,a1] s3 fun e s6=>e=.aN []/\(R (.aN []) s6))
def N9:QA:=(.seq .leaf .leaf)
def Cq (a0:AV) (a1:Int) (a2:Int) (a3:Int) (a4:AV) (s:AS) (R:AV->AS->Prop):Prop :=
 bA fun B m2=>B m2 [.int .i64 a1,.int .i64 a2,.int .i64 a3,.bool true,.bool true] s /\
 ∀ M:Nat,∀ b:Int,∀ d:Int,∀ O:Int,∀ Q:Bool,∀ S:Bool,∀ C:AS,B M [.int .i64 b,.int .i64 d,.int .i64 O,.bool Q,.bool S] C ->
 af (decide ((IntKind.wrap .i64 (d - b):Int)<=12))
 (aa Tryz.prog E.fI [a0,.int .i64 b,.int .i64 d,a4] C fun v10 U=>v10=.aN []/\(R (.aN []) U))
 (af ((O:Int)==0)
 (aa Tryz.prog E.mT [a0,.int .i64 b,.int .i64 d,a4] C fun W bW=>W=.aN []/\(R (.aN []) bW))
 (bG fun m =>
 (∀ e:Int,∀ D:AS,m [.int .i64 e] D ->
 aa Tryz.prog E.jO [a0,.int .i64 b,.int .i64 d,a4] D fun X eT=>∃ n:Int,∃ o:Int,X=.aN [.int .i64 n,.int .i64 o]/\(bG fun p =>
 (∀ j:Int,∀ F:Int,∀ k:AS,p [.int .i64 j,.int .i64 F] k ->
 bG fun r =>
 (∀ i:AS,r [] i ->
 bG fun x =>
 (∀ G:Bool,∀ y:AS,x [.bool G] y ->
 af G
 (aa Tryz.prog E.gX [a0,.int .i64 b,.int .i64 d,.int .i64 j,a4] y fun v30 nK=>∃ H:Int,v30=.int .i64 H/\(∃ m',m'<M/\B m' [.int .i64 H,.int .i64 d,.int .i64 e,.bool Q,.bool S] nK))
 (aa Tryz.prog E.lO [a0,.int .i64 b,.int .i64 d,.int .i64 j,a4] y fun Y kH=>∃ c:Int,∃ z:Bool,Y=.aN [.int .i64 c,.bool z]/\(NZ 8 (af (decide ((IntKind.wrap .i64 (c - b):Int)<(IntKind.wrap .i64 (d - c))))
 (aa Tryz.prog E.fO [a0,.int .i64 b,.int .i64 c,.int .i64 e,a4] kH fun Z ab=>Z=.aN []/\(∃ m',m'<M/\B m' [(.int .i64 (IntKind.wrap .i64 (c+1))),.int .i64 d,.int .i64 e,(.bool (decide ((IntKind.wrap .i64 (c - b):Int)>=(IntKind.wrap .i64 (Int.tdiv (IntKind.wrap .i64 (d - b)) 8))))),.bool z] ab))
 (aa Tryz.prog E.fO [a0,(.int .i64 (IntKind.wrap .i64 (c+1))),.int .i64 d,.int .i64 e,a4] kH fun ad ae=>ad=.aN []/\(∃ m',m'<M/\B m' [.int .i64 b,.int .i64 c,.int .i64 e,(.bool (decide ((IntKind.wrap .i64 (d - c):Int)>=(IntKind.wrap .i64 (Int.tdiv (IntKind.wrap .i64 (d - b)) 8))))),.bool z] ae)))))) /\
 (af (decide ((b:Int)>0)) (bJ (ag T E.ys a0 (.int .i64 (IntKind.wrap .i64 (b - 1)))) fun al am=>aR (aC i al am E.w) fun an=>bJ (ag T E.ys a0 (.int .i64 j)) fun ao ar=>aR (aC i ao ar E.w) fun aw=>ez Tryz.prog a4 [.agg an,.agg aw] i fun a5 a6=>∃ I:Int,a5=.int .i64 I/\(x [(.bool (!(decide ((I:Int)<0))))] a6)) (x [.bool false] i))) /\
 (bG fun l =>
 (∀ J:Bool,∀ A:AS,l [.bool J] A ->
 af J
 (aa Tryz.prog E.eY [a0,.int .i64 b,.int .i64 d,a4] A fun a7 K=>∃ L:Bool,a7=.bool L/\(af L
 (R (.aN []) K)
 (r [] K)))
 (r [] A)) /\
 (af Q (af S (l [(.bool ((F:Int)==1))] k) (l [.bool false] k)) (l [.bool false] k)))) /\
 (af ((o:Int)==2)
 (aa Tryz.prog E.iY [a0,.int .i64 b,.int .i64 d,a4] eT fun a8 a9=>a8=.aN []/\(p [(.int .i64 (IntKind.wrap .i64 ((IntKind.wrap .i64 (d - 1)) - (IntKind.wrap .i64 (n - b))))),.int .i64 1] a9))
 (p [.int .i64 n,.int .i64 o] eT)))) /\
 (af (!Q)
 (aa Tryz.prog E.iH [a0,.int .i64 b,.int .i64 d,a4] C fun a' ba=>a'=.aN []/\(m [(.int .i64 (IntKind.wrap .i64 (O - 1)))] ba))
 (m [.int .i64 O] C))))
def Cr:QA:=(.seq .leaf (.seq .leaf (.wrap (.loop [(1,.int .i64),(2,.int .i64),(3,.int .i64),(10,.bool),(11,.bool)] [(1,3),(10,147)] (.wrap (.seq .leaf (.seq (.seq .leaf (.cond (.seq .leaf .leaf) .leaf)) (.seq (.seq .leaf (.cond (.seq .leaf .leaf) .leaf)) (.join [(3,.int .i64)] [(3,3),(38,46)] (.seq .leaf (.cond (.seq .leaf .leaf) .leaf)) (.seq .leaf (.join [(13,.int .i64),(14,.int .i64)] [(13,14),(55,67)] (.seq .leaf (.cond (.seq .leaf (.seq .leaf .leaf)) .leaf)) (.join [] [(68,80)] (.join [(75,.bool)] [(68,75)] .leaf (.cond (.seq .leaf (.cond .leaf .leaf)) .leaf)) (.seq (.join [(97,.bool)] [(81,97)] (.draw 13) (.cond (.seq .leaf (.seq .leaf .leaf)) .leaf)) (.seq .leaf (.seq .leaf (.seq .leaf (.seq .leaf (.seq .leaf (.cond (.seq .leaf (.seq .leaf .leaf)) (.seq .leaf (.seq .leaf .leaf)))))))))))))))))))))
def uW (a0:AV) (a1:Int) (a2:Int) (a3:AV) (s:AS) (R:AV->AS->Prop):Prop :=
 bA fun k m2=>k m2 [(.int .i64 (IntKind.wrap .i64 (a1+1)))] s /\
 ∀ l:Nat,∀ d:Int,∀ m:AS,k l [.int .i64 d] m ->
 af (decide ((d:Int)<a2))
 (bA fun n L=>n L [.int .i64 d] m /\
 ∀ K:Nat,∀ c:Int,∀ b:AS,n K [.int .i64 c] b ->
 af (decide ((c:Int)>a1)) (bJ (ag T E.ys a0 (.int .i64 c)) fun o p=>aR (aC b o p E.w) fun r=>bJ (ag T E.ys a0 (.int .i64 (IntKind.wrap .i64 (c - 1)))) fun ku x=>aR (aC b ku x E.w) fun y=>ez Tryz.prog a3 [.agg r,.agg y] b fun z eT=>∃ e:Int,z=.int .i64 e/\(af (decide ((e:Int)<0))
 (bJ (ag T E.ys a0 (.int .i64 (IntKind.wrap .i64 (c - 1)))) fun A B=>aR (aC eT A B E.w) fun i=>bJ (ag T E.ys a0 (.int .i64 c)) fun C D=>aR (aC eT C D E.w) fun j=>bJ (ag T E.ys a0 (.int .i64 c)) fun F G=>fC (some E.w) i (bu (cU eT F G i) fun H=>bJ (ag T E.ys a0 (.int .i64 (IntKind.wrap .i64 (c - 1)))) fun I J=>fC (some E.w) j (bu (cU H I J j) fun nK=>∃ m',m'<K/\n m' [(.int .i64 (IntKind.wrap .i64 (c - 1)))] nK)))
 (∃ m',m'<l/\k m' [(.int .i64 (IntKind.wrap .i64 (d+1)))] eT))) (∃ m',m'<l/\k m' [(.int .i64 (IntKind.wrap .i64 (d+1)))] b))
 (R (.aN []) m)
def uX:QA:=(.seq .leaf (.wrap (.loop [(8,.int .i64)] [(8,9),(12,52)] (.seq (.seq .leaf (.cond .leaf .leaf)) (.seq (.wrap (.seq .leaf (.wrap (.loop [(9,.int .i64)] [(9,9),(18,52)] (.seq (.seq (.draw 14) (.cond .leaf .leaf)) (.seq (.wrap .calm) .leaf)))))) .leaf)))))
def AN (a0:AV) (a1:Int) (a2:Int) (a3:AV) (s:AS) (R:AV->AS->Prop):Prop :=
 bG fun B =>
 (∀ s2:AS,B [] s2 ->
 bA fun l D=>l D [(.int .i64 (IntKind.wrap .i64 ((IntKind.wrap .i64 (a2 - a1)) - 1)))] s2 /\
 ∀ C:Nat,∀ e:Int,∀ s7:AS,l C [.int .i64 e] s7 ->
 af (decide ((e:Int)>=0))
 (bJ (ag T E.ys a0 (.int .i64 (IntKind.wrap .i64 (a1+e)))) fun F G=>aR (aC s7 F G E.w) fun i=>bJ (ag T E.ys a0 (.int .i64 a1)) fun m n=>aR (aC s7 m n E.w) fun j=>bJ (ag T E.ys a0 (.int .i64 a1)) fun ku o=>fC (some E.w) i (bu (cU s7 ku o i) fun p=>bJ (ag T E.ys a0 (.int .i64 (IntKind.wrap .i64 (a1+e)))) fun r x=>fC (some E.w) j (bu (cU p r x j) fun jl=>aa Tryz.prog E.jk [a0,.int .i64 0,.int .i64 e,.int .i64 a1,a3] jl fun v20 gG=>v20=.aN []/\(∃ m',m'<C/\l m' [(.int .i64 (IntKind.wrap .i64 (e - 1)))] gG))))
 (R (.aN []) s7)) /\
 (NZ 2 (bA fun c y=>c y [(.int .i64 (IntKind.wrap .i64 (Int.tdiv (IntKind.wrap .i64 ((IntKind.wrap .i64 (a2 - a1)) - 1)) 2)))] s /\
 ∀ k:Nat,∀ b:Int,∀ d:AS,c k [.int .i64 b] d ->
 af (decide ((b:Int)>=0))
 (aa Tryz.prog E.jk [a0,.int .i64 b,(.int .i64 (IntKind.wrap .i64 (a2 - a1))),.int .i64 a1,a3] d fun z A=>z=.aN []/\(∃ m',m'<k/\c m' [(.int .i64 (IntKind.wrap .i64 (b - 1)))] A))
 (B [] d)))
def AP:QA:=(.seq .leaf (.seq .leaf (.seq .leaf (.join [] [(11,11),(17,29)] (.seq .leaf (.wrap (.loop [(11,.int .i64)] [(11,11),(20,29)] (.seq (.seq .leaf (.cond .leaf .leaf)) (.seq (.wrap .leaf) .leaf))))) (.seq .leaf (.wrap (.loop [(12,.int .i64)] [(12,12),(32,59)] (.seq (.seq .leaf (.cond .leaf .leaf)) (.seq (.wrap (.seq .calm .leaf)) .leaf)))))))))
def wY (a0:AV) (a1:Int) (a2:Int) (a3:AV) (s:AS) (R:AV->AS->Prop):Prop :=
 aj (.cells [.int .i64 0] 0 false) s fun l1 s2=>NZ 4 (NZ 4 (NZ 4 (bG fun m =>
 (∀ l:Int,∀ b:AS,m [.int .i64 l] b ->
 aU .i64 (au b l1 0) fun y=>af ((y:Int)==0)
 (R (.aN [.int .i64 l,.int .i64 1]) b)
 (af ((y:Int)==12)
 (R (.aN [.int .i64 l,.int .i64 2]) b)
 (R (.aN [.int .i64 l,.int .i64 0]) b))) /\
 (af (decide ((IntKind.wrap .i64 (a2 - a1):Int)>=8))
 (bG fun n =>
 (∀ z:Int,∀ A:Int,∀ c:Int,∀ d:AS,n [.int .i64 z,.int .i64 A,.int .i64 c] d ->
 aa Tryz.prog E.lE [a0,.int .i64 z,.int .i64 A,.int .i64 c,(.ptr (some (l1,0))),a3] d fun o bW=>∃ e:Int,o=.int .i64 e/\(m [.int .i64 e] bW)) /\
 (af (decide ((IntKind.wrap .i64 (a2 - a1):Int)>=50))
 (aa Tryz.prog E.dU [a0,(.int .i64 (IntKind.wrap .i64 (a1+(IntKind.wrap .i64 ((IntKind.wrap .i64 (Int.tdiv (IntKind.wrap .i64 (a2 - a1)) 4))*1))))),(.ptr (some (l1,0))),a3] s2 fun p r=>∃ i:Int,p=.int .i64 i/\(aa Tryz.prog E.dU [a0,(.int .i64 (IntKind.wrap .i64 (a1+(IntKind.wrap .i64 ((IntKind.wrap .i64 (Int.tdiv (IntKind.wrap .i64 (a2 - a1)) 4))*2))))),(.ptr (some (l1,0))),a3] r fun w jl=>∃ j:Int,w=.int .i64 j/\(aa Tryz.prog E.dU [a0,(.int .i64 (IntKind.wrap .i64 (a1+(IntKind.wrap .i64 ((IntKind.wrap .i64 (Int.tdiv (IntKind.wrap .i64 (a2 - a1)) 4))*3))))),(.ptr (some (l1,0))),a3] jl fun x fT=>∃ k:Int,x=.int .i64 k/\(n [.int .i64 i,.int .i64 j,.int .i64 k] fT))))
 (n [(.int .i64 (IntKind.wrap .i64 (a1+(IntKind.wrap .i64 ((IntKind.wrap .i64 (Int.tdiv (IntKind.wrap .i64 (a2 - a1)) 4))*1))))),(.int .i64 (IntKind.wrap .i64 (a1+(IntKind.wrap .i64 ((IntKind.wrap .i64 (Int.tdiv (IntKind.wrap .i64 (a2 - a1)) 4))*2))))),(.int .i64 (IntKind.wrap .i64 (a1+(IntKind.wrap .i64 ((IntKind.wrap .i64 (Int.tdiv (IntKind.wrap .i64 (a2 - a1)) 4))*3)))))] s2)))
 (m [(.int .i64 (IntKind.wrap .i64 (a1+(IntKind.wrap .i64 ((IntKind.wrap .i64 (Int.tdiv (IntKind.wrap .i64 (a2 - a1)) 4))*2)))))] s2)))))
def wZ:QA:=(.seq .leaf (.seq .leaf (.seq .leaf (.seq .leaf (.seq .leaf (.seq .leaf (.join [(13,.int .i64)] [(12,14),(33,54)] (.seq .leaf (.cond (.join [(12,.int .i64),(13,.int .i64),(14,.int .i64)] [(12,14),(35,48)] (.seq .leaf (.cond (.seq .leaf (.seq .leaf .leaf)) .leaf)) .leaf) .leaf)) (.seq .leaf (.wrap (.seq .leaf (.cond (.seq .leaf .leaf) (.seq .leaf (.cond (.seq .leaf .leaf) (.seq .leaf .leaf))))))))))))))
def vG (a0:AV) (a1:Int) (a2:Int) (a3:AV) (s:AS) (R:AV->AS->Prop):Prop :=
 bA fun e m2=>e m2 [.int .i64 a1,(.int .i64 (IntKind.wrap .i64 (a2 - 1)))] s /\
 ∀ m:Nat,∀ b:Int,∀ c:Int,∀ s6:AS,e m [.int .i64 b,.int .i64 c] s6 ->
 af (decide ((b:Int)<c))
 (bJ (ag T E.ys a0 (.int .i64 c)) fun o p=>aR (aC s6 o p E.w) fun n=>bJ (ag T E.ys a0 (.int .i64 b)) fun oQ i=>aR (aC s6 oQ i E.w) fun d=>bJ (ag T E.ys a0 (.int .i64 b)) fun j k=>fC (some E.w) n (bu (cU s6 j k n) fun gh=>bJ (ag T E.ys a0 (.int .i64 c)) fun pT l=>fC (some E.w) d (bu (cU gh pT l d) fun eT=>∃ m',m'<m/\e m' [(.int .i64 (IntKind.wrap .i64 (b+1))),(.int .i64 (IntKind.wrap .i64 (c - 1)))] eT)))
 (R (.aN []) s6)
def vH:QA:=(.seq .leaf (.seq .leaf (.wrap (.loop [(8,.int .i64),(9,.int .i64)] [(8,9),(13,33)] (.seq (.seq .leaf (.cond .leaf .leaf)) (.wrap (.seq .calm (.seq .leaf .leaf))))))))
def h_ (a0:AV) (a1:Int) (a2:Int) (a3:AV) (s:AS) (R:AV->AS->Prop):Prop :=
 bA fun x m2=>x m2 [(.int .i64 (IntKind.wrap .i64 (a1+1))),.int .i64 0] s /\
 ∀ O:Nat,∀ n4:Int,∀ y:Int,∀ s6:AS,x O [.int .i64 n4,.int .i64 y] s6 ->
 af (decide ((y:Int)<5))
 (bG fun Q =>
 (∀ e:Int,∀ r:AS,Q [.int .i64 e] r ->
 af ((e:Int)==a2)
 (R (.bool true) r)
 (af (decide ((IntKind.wrap .i64 (a2 - a1):Int)<50))
 (R (.bool false) r)
 (bJ (ag T E.ys a0 (.int .i64 (IntKind.wrap .i64 (e - 1)))) fun oQ S=>aR (aC r oQ S E.w) fun z=>bJ (ag T E.ys a0 (.int .i64 e)) fun U W=>aR (aC r U W E.w) fun A=>bJ (ag T E.ys a0 (.int .i64 e)) fun pT X=>fC (some E.w) z (bu (cU r pT X z) fun eT=>bJ (ag T E.ys a0 (.int .i64 (IntKind.wrap .i64 (e - 1)))) fun Ac Y=>fC (some E.w) A (bu (cU eT Ac Y A) fun gG=>bG fun l =>
 (∀ uj:AS,l [] uj ->
 af (decide ((IntKind.wrap .i64 (a2 - e):Int)>=2))
 (bA fun n Z=>n Z [(.int .i64 (IntKind.wrap .i64 (e+1)))] uj /\
 ∀ B:Nat,∀ b:Int,∀ i:AS,n B [.int .i64 b] i ->
 af (decide ((b:Int)<a2))
 (bJ (ag T E.ys a0 (.int .i64 b)) fun ab ad=>aR (aC i ab ad E.w) fun ae=>bJ (ag T E.ys a0 (.int .i64 (IntKind.wrap .i64 (b - 1)))) fun al am=>aR (aC i al am E.w) fun an=>ez Tryz.prog a3 [.agg ae,.agg an] i fun ao oR=>∃ C:Int,ao=.int .i64 C/\(af (!(decide ((C:Int)<0)))
 (∃ m',m'<O/\x m' [.int .i64 e,(.int .i64 (IntKind.wrap .i64 (y+1)))] oR)
 (bJ (ag T E.ys a0 (.int .i64 (IntKind.wrap .i64 (b - 1)))) fun ar aw=>aR (aC oR ar aw E.w) fun D=>bJ (ag T E.ys a0 (.int .i64 b)) fun a4 a5=>aR (aC oR a4 a5 E.w) fun F=>bJ (ag T E.ys a0 (.int .i64 b)) fun a6 a7=>fC (some E.w) D (bu (cU oR a6 a7 D) fun tN=>bJ (ag T E.ys a0 (.int .i64 (IntKind.wrap .i64 (b - 1)))) fun a8 a9=>fC (some E.w) F (bu (cU tN a8 a9 F) fun zf=>∃ m',m'<B/\n m' [(.int .i64 (IntKind.wrap .i64 (b+1)))] zf)))))
 (∃ m',m'<O/\x m' [.int .i64 e,(.int .i64 (IntKind.wrap .i64 (y+1)))] i))
 (∃ m',m'<O/\x m' [.int .i64 e,(.int .i64 (IntKind.wrap .i64 (y+1)))] uj)) /\
 (af (decide ((IntKind.wrap .i64 (e - a1):Int)>=2))
 (bA fun o a'=>o a' [(.int .i64 (IntKind.wrap .i64 (e - 1)))] gG /\
 ∀ G:Nat,∀ c:Int,∀ j:AS,o G [.int .i64 c] j ->
 af (decide ((c:Int)>=1))
 (bJ (ag T E.ys a0 (.int .i64 c)) fun ba bb=>aR (aC j ba bb E.w) fun bc=>bJ (ag T E.ys a0 (.int .i64 (IntKind.wrap .i64 (c - 1)))) fun bd be=>aR (aC j bd be E.w) fun bh=>ez Tryz.prog a3 [.agg bc,.agg bh] j fun bi m=>∃ H:Int,bi=.int .i64 H/\(af (!(decide ((H:Int)<0)))
 (l [] m)
 (bJ (ag T E.ys a0 (.int .i64 (IntKind.wrap .i64 (c - 1)))) fun bj bk=>aR (aC m bj bk E.w) fun I=>bJ (ag T E.ys a0 (.int .i64 c)) fun bl bm=>aR (aC m bl bm E.w) fun J=>bJ (ag T E.ys a0 (.int .i64 c)) fun bo bs=>fC (some E.w) I (bu (cU m bo bs I) fun bx=>bJ (ag T E.ys a0 (.int .i64 (IntKind.wrap .i64 (c - 1)))) fun b0 b1=>fC (some E.w) J (bu (cU bx b0 b1 J) fun b2=>∃ m',m'<G/\o m' [(.int .i64 (IntKind.wrap .i64 (c - 1)))] b2)))))
 (l [] j))
 (l [] gG))))))) /\
 (bA fun p b3=>p b3 [.int .i64 n4] s6 /\
 ∀ K:Nat,∀ d:Int,∀ k:AS,p K [.int .i64 d] k ->
 af (decide ((d:Int)<a2)) (bJ (ag T E.ys a0 (.int .i64 d)) fun b4 b5=>aR (aC k b4 b5 E.w) fun b6=>bJ (ag T E.ys a0 (.int .i64 (IntKind.wrap .i64 (d - 1)))) fun b7 b8=>aR (aC k b7 b8 E.w) fun b9=>ez Tryz.prog a3 [.agg b6,.agg b9] k fun b' L=>∃ M:Int,b'=.int .i64 M/\(af (!(decide ((M:Int)<0)))
 (∃ m',m'<K/\p m' [(.int .i64 (IntKind.wrap .i64 (d+1)))] L)
 (Q [.int .i64 d] L))) (Q [.int .i64 d] k)))
 (R (.bool false) s6)
def pC:QA:=(.seq .leaf (.seq .leaf (.seq (.seq .leaf (.wrap (.loop [(9,.int .i64),(10,.int .i64)] [(8,12),(15,140)] (.seq (.seq .leaf (.cond .leaf .leaf)) (.seq (.wrap (.join [(9,.int .i64)] [(9,9),(19,38)] (.wrap (.loop [(9,.int .i64)] [(9,9),(19,38)] (.seq (.seq (.draw 14) (.cond .leaf .leaf)) (.wrap .leaf)))) (.seq (.seq .leaf (.cond (.seq .leaf .leaf) .leaf)) (.seq (.seq .leaf (.cond (.seq .leaf .leaf) .leaf)) (.seq .calm (.join [] [(11,11),(62,100)] (.seq .leaf (.cond (.seq .leaf (.wrap (.loop [(11,.int .i64)] [(11,11),(68,100)] (.seq (.seq .leaf (.cond .leaf .leaf)) (.seq (.wrap (.seq (.seq (.draw 10) (.cond .leaf .leaf)) .calm)) .leaf))))) .leaf)) (.seq .leaf (.cond (.seq .leaf (.wrap (.loop [(12,.int .i64)] [(12,12),(107,140)] (.seq (.seq .leaf (.cond .leaf .leaf)) (.seq (.wrap (.seq (.seq (.draw 10) (.cond .leaf .leaf)) .calm)) .leaf))))) .leaf)))))))) .leaf))))) (.seq .leaf .leaf))))
def tO (a0:AV) (a1:Int) (a2:Int) (a3:Int) (a4:AV) (s:AS) (R:AV->AS->Prop):Prop :=
 bJ (ag T E.ys a0 (.int .i64 a3)) fun l1 o2=>aR (aC s l1 o2 E.w) fun g3=>bJ (ag T E.ys a0 (.int .i64 a1)) fun l4 o5=>aR (aC s l4 o5 E.w) fun g6=>bJ (ag T E.ys a0 (.int .i64 a1)) fun l7 o8=>fC (some E.w) g3 (bu (cU s l7 o8 g3) fun s9=>bJ (ag T E.ys a0 (.int .i64 a3)) fun oQ H=>fC (some E.w) g6 (bu (cU s9 oQ H g6) fun dH=>bA fun l I=>l I [(.int .i64 (IntKind.wrap .i64 (a1+1))),(.int .i64 (IntKind.wrap .i64 (a2 - 1)))] dH /\
 ∀ x:Nat,∀ y:Int,∀ m:Int,∀ eT:AS,l x [.int .i64 y,.int .i64 m] eT ->
 bG fun n =>
 (∀ b:Int,∀ gG:AS,n [.int .i64 b] gG ->
 bG fun o =>
 (∀ e:Int,∀ i:AS,o [.int .i64 e] i ->
 af (decide ((b:Int)>e))
 (R (.int .i64 b) i)
 (bJ (ag T E.ys a0 (.int .i64 e)) fun J K=>aR (aC i J K E.w) fun z=>bJ (ag T E.ys a0 (.int .i64 b)) fun L M=>aR (aC i L M E.w) fun A=>bJ (ag T E.ys a0 (.int .i64 b)) fun O Q=>fC (some E.w) z (bu (cU i O Q z) fun S=>bJ (ag T E.ys a0 (.int .i64 e)) fun U W=>fC (some E.w) A (bu (cU S U W A) fun oR=>∃ m',m'<x/\l m' [(.int .i64 (IntKind.wrap .i64 (b+1))),(.int .i64 (IntKind.wrap .i64 (e - 1)))] oR)))) /\
 (bA fun p X=>p X [.int .i64 m] gG /\
 ∀ B:Nat,∀ c:Int,∀ j:AS,p B [.int .i64 c] j ->
 af (decide ((b:Int)<=c)) (bJ (ag T E.ys a0 (.int .i64 a1)) fun Y Z=>aR (aC j Y Z E.w) fun ab=>bJ (ag T E.ys a0 (.int .i64 c)) fun ad ae=>aR (aC j ad ae E.w) fun al=>ez Tryz.prog a4 [.agg ab,.agg al] j fun am zf=>∃ C:Int,am=.int .i64 C/\(af (decide ((C:Int)<0))
 (∃ m',m'<B/\p m' [(.int .i64 (IntKind.wrap .i64 (c - 1)))] zf)
 (o [.int .i64 c] zf))) (o [.int .i64 c] j))) /\
 (bA fun r an=>r an [.int .i64 y] eT /\
 ∀ D:Nat,∀ d:Int,∀ k:AS,r D [.int .i64 d] k ->
 af (decide ((d:Int)<=m)) (bJ (ag T E.ys a0 (.int .i64 a1)) fun ao ar=>aR (aC k ao ar E.w) fun aw=>bJ (ag T E.ys a0 (.int .i64 d)) fun a5 a6=>aR (aC k a5 a6 E.w) fun a7=>ez Tryz.prog a4 [.agg aw,.agg a7] k fun a8 F=>∃ G:Int,a8=.int .i64 G/\(af (!(decide ((G:Int)<0)))
 (∃ m',m'<D/\r m' [(.int .i64 (IntKind.wrap .i64 (d+1)))] F)
 (n [.int .i64 d] F))) (n [.int .i64 d] k))))
def tP:QA:=(.seq .leaf (.seq .calm (.seq .leaf (.seq (.wrap (.loop [(11,.int .i64),(12,.int .i64)] [(11,12),(31,88)] (.wrap (.join [(11,.int .i64)] [(11,11),(31,49)] (.wrap (.loop [(11,.int .i64)] [(11,11),(31,49)] (.seq (.seq (.draw 13) (.cond .leaf .leaf)) (.wrap .leaf)))) (.join [(12,.int .i64)] [(12,12),(50,67)] (.wrap (.loop [(12,.int .i64)] [(12,12),(50,67)] (.seq (.seq (.draw 13) (.cond .leaf .leaf)) (.wrap .leaf)))) (.seq (.seq .leaf (.cond .leaf .leaf)) (.seq .calm (.seq .leaf .leaf)))))))) (.seq .leaf .leaf)))))
def zg (a0:AV) (a1:Int) (a2:Int) (a3:Int) (a4:AV) (s:AS) (R:AV->AS->Prop):Prop :=
 bJ (ag T E.ys a0 (.int .i64 a3)) fun l1 o2=>aR (aC s l1 o2 E.w) fun g3=>bJ (ag T E.ys a0 (.int .i64 a1)) fun l4 o5=>aR (aC s l4 o5 E.w) fun g6=>bJ (ag T E.ys a0 (.int .i64 a1)) fun l7 o8=>fC (some E.w) g3 (bu (cU s l7 o8 g3) fun s9=>bJ (ag T E.ys a0 (.int .i64 a3)) fun oQ b7=>fC (some E.w) g6 (bu (cU s9 oQ b7 g6) fun dH=>bG fun K =>
 (∀ k:Int,∀ gh:AS,K [.int .i64 k] gh ->
 bG fun L =>
 (∀ d:Int,∀ eT:AS,L [.int .i64 d] eT ->
 af (decide ((k:Int)>d))
 (bJ (ag T E.ys a0 (.int .i64 a1)) fun Ac b8=>aR (aC eT Ac b8 E.w) fun X=>bJ (ag T E.ys a0 (.int .i64 d)) fun b9 b'=>aR (aC eT b9 b' E.w) fun Y=>bJ (ag T E.ys a0 (.int .i64 d)) fun ca cb=>fC (some E.w) X (bu (cU eT ca cb X) fun cc=>bJ (ag T E.ys a0 (.int .i64 a1)) fun cd ce=>fC (some E.w) Y (bu (cU cc cd ce Y) fun cf=>R (.aN [.int .i64 d,.bool true]) cf)))
 (bJ (ag T E.ys a0 (.int .i64 d)) fun ch ci=>aR (aC eT ch ci E.w) fun Z=>bJ (ag T E.ys a0 (.int .i64 k)) fun ck cl=>aR (aC eT ck cl E.w) fun ab=>bJ (ag T E.ys a0 (.int .i64 k)) fun cm cn=>fC (some E.w) Z (bu (cU eT cm cn Z) fun cp=>bJ (ag T E.ys a0 (.int .i64 d)) fun cr cs=>fC (some E.w) ab (bu (cU cp cr cs ab) fun cu=>bG fun ad =>
 (∀ z:Int,∀ A:AS,ad [.int .i64 z] A ->
 bJ (ag T E.ys a0 (.int .i64 a1)) fun cv cw=>aR (aC A cv cw E.w) fun ae=>bJ (ag T E.ys a0 (.int .i64 z)) fun cx cy=>aR (aC A cx cy E.w) fun al=>bJ (ag T E.ys a0 (.int .i64 z)) fun cz cA=>fC (some E.w) ae (bu (cU A cz cA ae) fun cB=>bJ (ag T E.ys a0 (.int .i64 a1)) fun cC c0=>fC (some E.w) al (bu (cU cB cC c0 al) fun c1=>R (.aN [.int .i64 z,.bool false]) c1))) /\
 (bA fun M c2=>M c2 [(.int .i64 (IntKind.wrap .i64 (k+1))),(.int .i64 (IntKind.wrap .i64 (d - 1)))] cu /\
 ∀ am:Nat,∀ an:Int,∀ O:Int,∀ ao:AS,M am [.int .i64 an,.int .i64 O] ao ->
 bG fun Q =>
 (∀ l:Int,∀ Dt:AS,Q [.int .i64 l] Dt ->
 bG fun S =>
 (∀ m:Int,∀ p:AS,S [.int .i64 m] p ->
 af (decide ((l:Int)>m))
 (ad [.int .i64 m] p)
 (bJ (ag T E.ys a0 (.int .i64 m)) fun c3 c4=>aR (aC p c3 c4 E.w) fun ar=>bJ (ag T E.ys a0 (.int .i64 l)) fun c5 c6=>aR (aC p c5 c6 E.w) fun aw=>bJ (ag T E.ys a0 (.int .i64 l)) fun c7 c8=>fC (some E.w) ar (bu (cU p c7 c8 ar) fun c9=>bJ (ag T E.ys a0 (.int .i64 m)) fun c' da=>fC (some E.w) aw (bu (cU c9 c' da aw) fun db=>∃ m',m'<am/\M m' [(.int .i64 (IntKind.wrap .i64 (l+1))),(.int .i64 (IntKind.wrap .i64 (m - 1)))] db)))) /\
 (bA fun U dc=>U dc [.int .i64 O] Dt /\
 ∀ a5:Nat,∀ n:Int,∀ r:AS,U a5 [.int .i64 n] r ->
 af (decide ((l:Int)<=n)) (bJ (ag T E.ys a0 (.int .i64 n)) fun dd df=>aR (aC r dd df E.w) fun dk=>bJ (ag T E.ys a0 (.int .i64 a1)) fun dl dm=>aR (aC r dl dm E.w) fun dp=>ez Tryz.prog a4 [.agg dk,.agg dp] r fun dr a6=>∃ a7:Int,dr=.int .i64 a7/\(af (!(decide ((a7:Int)<0)))
 (∃ m',m'<a5/\U m' [(.int .i64 (IntKind.wrap .i64 (n - 1)))] a6)
 (S [.int .i64 n] a6))) (S [.int .i64 n] r))) /\
 (bA fun W ds=>W ds [.int .i64 an] ao /\
 ∀ a8:Nat,∀ o:Int,∀ e:AS,W a8 [.int .i64 o] e ->
 af (decide ((o:Int)<=O)) (bJ (ag T E.ys a0 (.int .i64 o)) fun a9 a'=>aR (aC e a9 a' E.w) fun ba=>bJ (ag T E.ys a0 (.int .i64 a1)) fun bb bc=>aR (aC e bb bc E.w) fun bd=>ez Tryz.prog a4 [.agg ba,.agg bd] e fun be B=>∃ C:Int,be=.int .i64 C/\(af (decide ((C:Int)<0))
 (∃ m',m'<a8/\W m' [(.int .i64 (IntKind.wrap .i64 (o+1)))] B)
 (Q [.int .i64 o] B))) (Q [.int .i64 o] e))))))) /\
 (bA fun x bh=>x bh [(.int .i64 (IntKind.wrap .i64 (a2 - 1)))] gh /\
 ∀ D:Nat,∀ b:Int,∀ i:AS,x D [.int .i64 b] i ->
 af (decide ((k:Int)<=b)) (bJ (ag T E.ys a0 (.int .i64 b)) fun bi bj=>aR (aC i bi bj E.w) fun bk=>bJ (ag T E.ys a0 (.int .i64 a1)) fun bl bm=>aR (aC i bl bm E.w) fun bo=>ez Tryz.prog a4 [.agg bk,.agg bo] i fun bs F=>∃ G:Int,bs=.int .i64 G/\(af (!(decide ((G:Int)<0)))
 (∃ m',m'<D/\x m' [(.int .i64 (IntKind.wrap .i64 (b - 1)))] F)
 (L [.int .i64 b] F))) (L [.int .i64 b] i))) /\
 (bA fun y bx=>y bx [(.int .i64 (IntKind.wrap .i64 (a1+1)))] dH /\
 ∀ H:Nat,∀ c:Int,∀ j:AS,y H [.int .i64 c] j ->
 af (decide ((c:Int)<=(IntKind.wrap .i64 (a2 - 1)))) (bJ (ag T E.ys a0 (.int .i64 c)) fun b0 b1=>aR (aC j b0 b1 E.w) fun b2=>bJ (ag T E.ys a0 (.int .i64 a1)) fun b3 b4=>aR (aC j b3 b4 E.w) fun b5=>ez Tryz.prog a4 [.agg b2,.agg b5] j fun b6 I=>∃ J:Int,b6=.int .i64 J/\(af (decide ((J:Int)<0))
 (∃ m',m'<H/\y m' [(.int .i64 (IntKind.wrap .i64 (c+1)))] I)
 (K [.int .i64 c] I))) (K [.int .i64 c] j))))
def zh:QA:=(.seq .leaf (.seq .calm (.seq .leaf (.join [(12,.int .i64)] [(12,12),(32,49)] (.wrap (.loop [(12,.int .i64)] [(12,12),(32,49)] (.seq (.seq (.draw 13) (.cond .leaf .leaf)) (.wrap .leaf)))) (.join [(13,.int .i64)] [(13,13),(50,68)] (.wrap (.loop [(13,.int .i64)] [(13,13),(50,68)] (.seq (.seq (.draw 13) (.cond .leaf .leaf)) (.wrap .leaf)))) (.seq (.seq .leaf (.cond (.seq .calm (.seq .leaf .leaf)) .leaf)) (.seq .calm (.seq .leaf (.seq .leaf (.join [(13,.int .i64)] [(12,13),(105,162)] (.wrap (.loop [(12,.int .i64),(13,.int .i64)] [(12,13),(105,162)] (.wrap (.join [(12,.int .i64)] [(12,12),(105,122)] (.wrap (.loop [(12,.int .i64)] [(12,12),(105,122)] (.seq (.seq (.draw 13) (.cond .leaf .leaf)) (.wrap .leaf)))) (.join [(13,.int .i64)] [(13,13),(123,141)] (.wrap (.loop [(13,.int .i64)] [(13,13),(123,141)] (.seq (.seq (.draw 13) (.cond .leaf .leaf)) (.wrap .leaf)))) (.seq (.seq .leaf (.cond .leaf .leaf)) (.seq .calm (.seq .leaf .leaf)))))))) (.seq .calm (.seq .leaf .leaf))))))))))))
def AQ (a0:AV) (a1:Int) (a2:Int) (a3:Int) (a4:AV) (s:AS) (R:AV->AS->Prop):Prop :=
 bA fun p m2=>p m2 [.int .i64 a1] s /\
 ∀ m3:Nat,∀ b:Int,∀ i:AS,p m3 [.int .i64 b] i ->
 af (decide ((IntKind.wrap .i64 ((IntKind.wrap .i64 (2*b))+1):Int)>=a2))
 (R (.aN []) i)
 (bG fun r =>
 (∀ j:Int,∀ s8:AS,r [.int .i64 j] s8 ->
 bJ (ag T E.ys a0 (.int .i64 (IntKind.wrap .i64 (a3+b)))) fun l9 x=>aR (aC s8 l9 x E.w) fun y=>bJ (ag T E.ys a0 (.int .i64 (IntKind.wrap .i64 (a3+j)))) fun qL z=>aR (aC s8 qL z E.w) fun A=>ez Tryz.prog a4 [.agg y,.agg A] s8 fun B c=>∃ k:Int,B=.int .i64 k/\(af (!(decide ((k:Int)<0)))
 (R (.aN []) c)
 (bJ (ag T E.ys a0 (.int .i64 (IntKind.wrap .i64 (a3+j)))) fun C D=>aR (aC c C D E.w) fun l=>bJ (ag T E.ys a0 (.int .i64 (IntKind.wrap .i64 (a3+b)))) fun F G=>aR (aC c F G E.w) fun m=>bJ (ag T E.ys a0 (.int .i64 (IntKind.wrap .i64 (a3+b)))) fun H I=>fC (some E.w) l (bu (cU c H I l) fun J=>bJ (ag T E.ys a0 (.int .i64 (IntKind.wrap .i64 (a3+j)))) fun K L=>fC (some E.w) m (bu (cU J K L m) fun M=>∃ m',m'<m3/\p m' [.int .i64 j] M))))) /\
 (bG fun d =>
 (∀ n:Bool,∀ e:AS,d [.bool n] e ->
 af n
 (r [(.int .i64 (IntKind.wrap .i64 ((IntKind.wrap .i64 ((IntKind.wrap .i64 (2*b))+1))+1)))] e)
 (r [(.int .i64 (IntKind.wrap .i64 ((IntKind.wrap .i64 (2*b))+1)))] e)) /\
 (af (decide ((IntKind.wrap .i64 ((IntKind.wrap .i64 ((IntKind.wrap .i64 (2*b))+1))+1):Int)<a2)) (bJ (ag T E.ys a0 (.int .i64 (IntKind.wrap .i64 (a3+(IntKind.wrap .i64 ((IntKind.wrap .i64 (2*b))+1)))))) fun O Q=>aR (aC i O Q E.w) fun S=>bJ (ag T E.ys a0 (.int .i64 (IntKind.wrap .i64 ((IntKind.wrap .i64 (a3+(IntKind.wrap .i64 ((IntKind.wrap .i64 (2*b))+1))))+1)))) fun U W=>aR (aC i U W E.w) fun X=>ez Tryz.prog a4 [.agg S,.agg X] i fun Y Z=>∃ o:Int,Y=.int .i64 o/\(d [(.bool (decide ((o:Int)<0)))] Z)) (d [.bool false] i))))
def AR:QA:=(.seq .leaf (.wrap (.loop [(10,.int .i64)] [(10,11),(13,81)] (.wrap (.seq .leaf (.seq (.seq .leaf (.cond .leaf .leaf)) (.join [(11,.int .i64)] [(11,11),(19,42)] (.join [(40,.bool)] [(19,40)] (.draw 19) (.cond .leaf .leaf)) (.seq (.seq (.draw 13) (.cond .leaf .leaf)) (.seq .calm .leaf)))))))))
def lY (a0:AV) (a1:Int) (a2:Option (Nat×Nat)) (a3:AV) (s:AS) (R:AV->AS->Prop):Prop :=
 aa Tryz.prog E.lE [a0,(.int .i64 (IntKind.wrap .i64 (a1 - 1))),.int .i64 a1,(.int .i64 (IntKind.wrap .i64 (a1+1))),.ptr a2,a3] s fun c s2=>∃ b:Int,c=.int .i64 b/\(R (.int .i64 b) s2)
def tQ:QA:=(.seq .leaf (.seq .leaf .leaf))
def DR (a0:AV) (a1:Int) (a2:Int) (a3:Int) (a4:Option (Nat×Nat)) (a5:AV) (s:AS) (R:AV->AS->Prop):Prop :=
 aa Tryz.prog E.iQ [a0,.int .i64 a1,.int .i64 a2,.ptr a4,a5] s fun k s2=>∃ e:Int,∃ i:Int,k=.aN [.int .i64 e,.int .i64 i]/\(aa Tryz.prog E.iQ [a0,.int .i64 i,.int .i64 a3,.ptr a4,a5] s2 fun l s6=>∃ j:Int,∃ m:Int,l=.aN [.int .i64 j,.int .i64 m]/\(aa Tryz.prog E.iQ [a0,.int .i64 e,.int .i64 j,.ptr a4,a5] s6 fun n c=>∃ d:Int,∃ b:Int,n=.aN [.int .i64 d,.int .i64 b]/\(R (.int .i64 b) c)))
def DS:QA:=(.seq .leaf (.seq .leaf (.seq .leaf (.seq .leaf (.seq .leaf .leaf)))))
def DT (a0:AV) (a1:Int) (a2:Int) (a3:Option (Nat×Nat)) (a4:AV) (s:AS) (R:AV->AS->Prop):Prop :=
 bJ (ag T E.ys a0 (.int .i64 a2)) fun l1 o2=>aR (aC s l1 o2 E.w) fun j=>bJ (ag T E.ys a0 (.int .i64 a1)) fun k l=>aR (aC s k l E.w) fun m=>ez Tryz.prog a4 [.agg j,.agg m] s fun n s8=>∃ i:Int,n=.int .i64 i/\(af (decide ((i:Int)<0))
 (ai a3 fun oQ b=>aU .i64 (au s8 oQ b) fun c=>ai a3 fun d e=>bu (cU s8 d e [(.int .i64 (IntKind.wrap .i64 (c+1)))]) fun gh=>R (.aN [.int .i64 a2,.int .i64 a1]) gh)
 (R (.aN [.int .i64 a1,.int .i64 a2]) s8))
def DU:QA:=(.seq .leaf (.seq (.seq (.draw 9) (.cond (.seq .leaf (.seq .leaf .leaf)) .leaf)) (.seq .leaf .leaf)))
def mU (a0:AV) (a1:Int) (a2:Int) (a3:AV) (s:AS) (R:AV->AS->Prop):Prop :=
 af (decide ((IntKind.wrap .i64 (a2 - a1):Int)>=8))
 (aj (.cells [.int .u64 0] 0 false) s fun l1 s2=>bu (cU s2 l1 0 [(.int .u64 (IntKind.wrap .u64 (IntKind.wrap .i64 (a2 - a1))))]) fun s3=>aa Tryz.prog gU [(.int .i64 (IntKind.wrap .i64 (a2 - a1)))] s3 fun G H=>∃ D:Int,G=.int .u64 D/\(NZ 4 (bA fun m I=>m I [(.int .i64 (IntKind.wrap .i64 ((IntKind.wrap .i64 (a1+(IntKind.wrap .i64 ((IntKind.wrap .i64 (Int.tdiv (IntKind.wrap .i64 (a2 - a1)) 4))*2)))) - 1)))] H /\
 ∀ F:Nat,∀ b:Int,∀ c:AS,m F [.int .i64 b] c ->
 NZ 4 (af (decide ((b:Int)<=(IntKind.wrap .i64 ((IntKind.wrap .i64 (a1+(IntKind.wrap .i64 ((IntKind.wrap .i64 (Int.tdiv (IntKind.wrap .i64 (a2 - a1)) 4))*2))))+1))))
 (aa Tryz.prog iF [(.ptr (some (l1,0)))] c fun n bW=>∃ j:Int,n=.int .u64 j/\(aU .u64 (bD .and .u64 j (IntKind.wrap .u64 (D - 1))) fun d=>bG fun e =>
 (∀ i:Int,∀ jl:AS,e [.int .i64 i] jl ->
 bJ (ag T E.ys a0 (.int .i64 (IntKind.wrap .i64 (a1+i)))) fun o p=>aR (aC jl o p E.w) fun k=>bJ (ag T E.ys a0 (.int .i64 b)) fun r x=>aR (aC jl r x E.w) fun l=>bJ (ag T E.ys a0 (.int .i64 b)) fun y z=>fC (some E.w) k (bu (cU jl y z k) fun A=>bJ (ag T E.ys a0 (.int .i64 (IntKind.wrap .i64 (a1+i)))) fun B C=>fC (some E.w) l (bu (cU A B C l) fun nK=>∃ m',m'<F/\m m' [(.int .i64 (IntKind.wrap .i64 (b+1)))] nK))) /\
 (af (decide ((IntKind.wrap .i64 d:Int)>=(IntKind.wrap .i64 (a2 - a1))))
 (e [(.int .i64 (IntKind.wrap .i64 ((IntKind.wrap .i64 d) - (IntKind.wrap .i64 (a2 - a1)))))] bW)
 (e [(.int .i64 (IntKind.wrap .i64 d))] bW))))
 (R (.aN []) c)))))
 (R (.aN []) s)
def uY:QA:=(.seq .leaf (.seq .leaf (.cond (.seq .leaf (.seq .leaf (.seq .leaf (.wrap (.loop [(11,.int .i64)] [(11,12),(28,66)] (.seq (.seq .leaf (.cond .leaf .leaf)) (.seq (.wrap (.seq .leaf (.join [(12,.int .i64)] [(12,12),(43,48)] (.seq .leaf (.cond .leaf .leaf)) .calm))) .leaf))))))) .leaf)))
class SQ (E:SE):Prop where
 zi:∀ (a0:AV) (a1:AV) (s:AS) (R:AV->AS->Prop),N8 E a0 a1 s R->aa Tryz.prog E.uV [a0,a1] s R
 oA:∀ (a0:AV) (a1:Int) (a2:Int) (a3:Int) (a4:AV) (s:AS) (R:AV->AS->Prop),Cq E a0 a1 a2 a3 a4 s R->aa Tryz.prog E.fO [a0,.int .i64 a1,.int .i64 a2,.int .i64 a3,a4] s R
 iI:∀ (a0:AV) (a1:Int) (a2:Int) (a3:AV) (s:AS) (R:AV->AS->Prop),uW E a0 a1 a2 a3 s R->aa Tryz.prog E.fI [a0,.int .i64 a1,.int .i64 a2,a3] s R
 sg:∀ (a0:AV) (a1:Int) (a2:Int) (a3:AV) (s:AS) (R:AV->AS->Prop),AN E a0 a1 a2 a3 s R->aa Tryz.prog E.mT [a0,.int .i64 a1,.int .i64 a2,a3] s R
 pD:∀ (a0:AV) (a1:Int) (a2:Int) (a3:AV) (s:AS) (R:AV->AS->Prop),wY E a0 a1 a2 a3 s R->aa Tryz.prog E.jO [a0,.int .i64 a1,.int .i64 a2,a3] s R
 nL:∀ (a0:AV) (a1:Int) (a2:Int) (a3:AV) (s:AS) (R:AV->AS->Prop),vG E a0 a1 a2 a3 s R->aa Tryz.prog E.iY [a0,.int .i64 a1,.int .i64 a2,a3] s R
 ic:∀ (a0:AV) (a1:Int) (a2:Int) (a3:AV) (s:AS) (R:AV->AS->Prop),h_ E a0 a1 a2 a3 s R->aa Tryz.prog E.eY [a0,.int .i64 a1,.int .i64 a2,a3] s R
 lZ:∀ (a0:AV) (a1:Int) (a2:Int) (a3:Int) (a4:AV) (s:AS) (R:AV->AS->Prop),tO E a0 a1 a2 a3 a4 s R->aa Tryz.prog E.gX [a0,.int .i64 a1,.int .i64 a2,.int .i64 a3,a4] s R
 q_:∀ (a0:AV) (a1:Int) (a2:Int) (a3:Int) (a4:AV) (s:AS) (R:AV->AS->Prop),zg E a0 a1 a2 a3 a4 s R->aa Tryz.prog E.lO [a0,.int .i64 a1,.int .i64 a2,.int .i64 a3,a4] s R
 si:∀ (a0:AV) (a1:Int) (a2:Int) (a3:Int) (a4:AV) (s:AS) (R:AV->AS->Prop),AQ E a0 a1 a2 a3 a4 s R->aa Tryz.prog E.jk [a0,.int .i64 a1,.int .i64 a2,.int .i64 a3,a4] s R
 l_:∀ (a0:AV) (a1:Int) (a2:Option (Nat×Nat)) (a3:AV) (s:AS) (R:AV->AS->Prop),lY E a0 a1 a2 a3 s R->aa Tryz.prog E.dU [a0,.int .i64 a1,.ptr a2,a3] s R
 vD:∀ (a0:AV) (a1:Int) (a2:Int) (a3:Int) (a4:Option (Nat×Nat)) (a5:AV) (s:AS) (R:AV->AS->Prop),DR E a0 a1 a2 a3 a4 a5 s R->aa Tryz.prog E.lE [a0,.int .i64 a1,.int .i64 a2,.int .i64 a3,.ptr a4,a5] s R
 vE:∀ (a0:AV) (a1:Int) (a2:Int) (a3:Option (Nat×Nat)) (a4:AV) (s:AS) (R:AV->AS->Prop),DT E a0 a1 a2 a3 a4 s R->aa Tryz.prog E.iQ [a0,.int .i64 a1,.int .i64 a2,.ptr a3,a4] s R
 mV:∀ (a0:AV) (a1:Int) (a2:Int) (a3:AV) (s:AS) (R:AV->AS->Prop),mU E a0 a1 a2 a3 s R->aa Tryz.prog E.iH [a0,.int .i64 a1,.int .i64 a2,a3] s R
end Go.Proofs.YtohgmogbabkkeaaGreat.SG
end

section
set_option maxRecDepth 100000
set_option maxHeartbeats 4000000
namespace Go.Proofs.YtohgmogbabkkeaaGreat
open Go.Am
def QI  (s:AS) (R:AV->AS->Prop):Prop :=
 nQ (aS T ov [(2,.bool true)]) fun b=>cH b (aj (.cells b 0 false) s fun c s3=>R (.ptr (some (c,0))) s3)
def QJ:QA:=(.seq .leaf (.seq .leaf .leaf))
theorem QK  (s:AS) (R:AV->AS->Prop) (h:QI  s R):aa Tryz.prog Cm [] s R :=
 aa.q (n:=3) (rs:=[.tmp 0]) (A:=QJ) hT bY Tryz.func146 (by kernel_rfl) rfl rfl rfl (by kernel_rfl) (by kernel_rfl) h
def Hl (a0:Option (Nat×Nat)) (a1:List AV) (s:AS) (R:AV->AS->Prop):Prop :=
 cH a1 (aj (.cells a1 0 false) s fun l1 s2=>aa Tryz.prog iN [.ptr a0] s2 fun v3 s4=>∃ b5:Bool,v3=.bool b5/\(af (!b5)
 (R (.aN [.bool false,.int .i64 1]) s4)
 (aR (aC s4 l1 0 2) fun g6=>aa Tryz.prog nW [.agg g6] s4 fun v7 s8=>∃ b9:Bool,v7=.bool b9/\(af (!b9)
 (R (.aN [.bool false,.int .i64 2]) s8)
 (aR (aC s8 l1 0 2) fun H=>aa Tryz.prog kO [.ptr a0,.agg H] s8 fun v11 dH=>∃ w:Bool,v11=.bool w/\(af w
 (R (.aN [.bool false,.int .i64 0]) dH)
 (ai a0 fun ku I=>aR (aC dH ku I 18) fun x=>aj (.cells [.int .u64 0,.int .u64 0,.int .u64 0,.int .u64 0,.int .u64 0,.int .u64 0,.int .u64 0,.int .u64 0,.int .u64 0,.int .u64 0,.int .u64 0,.int .u64 0,.int .u64 0,.int .u64 0,.int .u64 0,.int .u64 0,.slc none 0 0 true,.bool false] 0 false) dH fun j eT=>fC (some 18) x (bu (cU eT j 0 x) fun jl=>gL fun S V=>ai a0 fun J K=>dI (au jl J (K+16)) fun c=>aR (aC jl l1 0 2) fun d=>(∀ l:AS,Ext jl l->aG l->(True)->aa Tryz.prog ay [c,.agg d,(.func cP [])] l fun L y=>∃ n:Int,∃ o:Bool,L=.aN [.int .i64 n,.bool o]/\((Ext l y/\S 5 [(.func ay []),c,.agg d,(.func cP [])] (.aN [.int .i64 n,.bool o]) y/\V 5 [(.func ay []),c,.agg d,(.func cP [])] (.aN [.int .i64 n,.bool o]))))/\(∃ v,V 5 [(.func ay []),c,.agg d,(.func cP [])] v)/\∀ z:AV,V 5 [(.func ay []),c,.agg d,(.func cP [])] z->∃ p:Int,∃ A:Bool,z=.aN [.int .i64 p,.bool A]/\(∀ b:AS,Ext jl b->aG b->(S 5 [(.func ay []),c,.agg d,(.func cP [])] (.aN [.int .i64 p,.bool A]) b/\True)->gL fun S V=>ai a0 fun M O=>dI (au b M (O+16)) fun e=>(∀ oB:AS,Ext b oB->aG oB->(True)->aa Tryz.prog aH [e] oB fun B C=>(Ext oB C/\S 4 [(.func aH []),e] B C/\V 4 [(.func aH []),e] B))/\(∃ v,V 4 [(.func aH []),e] v)/\∀ x_:AV,V 4 [(.func aH []),e] x_->aR (aC b l1 0 2) fun i=>(∀ m:AS,Ext b m->aG m->(True)->aR (dw T az 1 [(0,.agg i)]) fun Q=>aj (.cells Q 0 false) m fun D F=>(Ext m F/\S 7 [.agg i] (.slc (some (D,0)) 1 1 true) F/\V 7 [.agg i] (.slc (some (D,0)) 1 1 true)))/\(∃ v,V 7 [.agg i] v)/\∀ r:AV,V 7 [.agg i] r->∀ k:AS,Ext b k->aG k->(S 4 [(.func aH []),e] x_ k/\(S 7 [.agg i] r k/\True))->aa Tryz.prog ep [x_,.int .i64 p,r] k fun U W=>fQ T az W j 16 U fun X=>aa Tryz.prog mP [(.ptr (some (j,0)))] X fun Y G8=>Y=.aN []/\(dI (au G8 j 16) fun Z=>aU .i64 (aQ T az Z G8) fun ab=>af (decide ((ab:Int)>4096))
 (R (.aN [.bool false,.int .i64 5]) G8)
 (aR (aC G8 j 0 18) fun G=>ai a0 fun ad ae=>fC (some 18) G (bu (cU G8 ad ae G) fun al=>R (.aN [.bool true,.int .i64 0]) al))))))))))))
def Ho:QA:=(.seq .leaf (.seq (.wrap (.seq .leaf (.cond (.seq .leaf .leaf) (.seq .leaf (.cond (.seq .leaf .leaf) (.seq .leaf (.cond (.seq .leaf .leaf) .leaf))))))) (.seq .leaf (.seq (.g_ 10 [[],[],[],[],[],[],[],[],[],[]] [5]) (.seq (.g_ 8 [[],[],[],[],[],[],[],[]] [4,7]) (.seq .leaf (.seq (.seq .leaf (.cond (.seq .leaf .leaf) .leaf)) (.seq .leaf (.seq .leaf .leaf)))))))))
theorem Hp (a0:Option (Nat×Nat)) (a1:List AV) (s:AS) (R:AV->AS->Prop) (h:Hl a0 a1 s R):aa Tryz.prog sE [.ptr a0,.agg a1] s R :=
 aa.q (n:=51) (rs:=[.tmp 4,.tmp 5]) (A:=Ho) hT bY Tryz.func227 (by kernel_rfl) rfl rfl rfl (by kernel_rfl) (by kernel_rfl) h
def LY (a0:List AV) (s:AS) (R:AV->AS->Prop):Prop :=
 cH a0 (aj (.cells a0 0 false) s fun l1 s2=>aU .i64 (au s2 l1 0) fun b=>af (decide ((b:Int)>=1)) (aU .i64 (au s2 l1 0) fun c=>af (decide ((c:Int)<=16)) (aU .u64 (au s2 l1 1) fun d=>af (decide ((d:Int)>=1)) (aU .u64 (au s2 l1 1) fun e=>R (.bool (decide ((e:Int)<=4611686018427387904))) s2) (R (.bool false) s2)) (R (.bool false) s2)) (R (.bool false) s2))
def LZ:QA:=(.seq .leaf (.seq .leaf .leaf))
theorem L0 (a0:List AV) (s:AS) (R:AV->AS->Prop) (h:LY a0 s R):aa Tryz.prog wJ [.agg a0] s R :=
 aa.q (n:=21) (rs:=[.tmp 2]) (A:=LZ) hT bY Tryz.func33 (by kernel_rfl) rfl rfl rfl (by kernel_rfl) (by kernel_rfl) h
def QL (a0:List AV) (s:AS) (R:AV->AS->Prop):Prop :=
 cH a0 (aj (.cells a0 0 false) s fun l1 s2=>aU .i64 (au s2 l1 0) fun b=>af (decide ((b:Int)>=1)) (aU .i64 (au s2 l1 0) fun c=>af (decide ((c:Int)<=16)) (aU .u64 (au s2 l1 1) fun d=>af (decide ((d:Int)>=1)) (aU .u64 (au s2 l1 1) fun e=>R (.bool (decide ((e:Int)<=4611686018427387904))) s2) (R (.bool false) s2)) (R (.bool false) s2)) (R (.bool false) s2))
def QM:QA:=(.seq .leaf (.seq .leaf .leaf))
theorem QN (a0:List AV) (s:AS) (R:AV->AS->Prop) (h:QL a0 s R):aa Tryz.prog nW [.agg a0] s R :=
 aa.q (n:=21) (rs:=[.tmp 2]) (A:=QM) hT bY Tryz.func118 (by kernel_rfl) rfl rfl rfl (by kernel_rfl) (by kernel_rfl) h
def Hq (a0:Option (Nat×Nat)) (a1:List AV) (s:AS) (R:AV->AS->Prop):Prop :=
 cH a1 (aj (.cells a1 0 false) s fun l1 s2=>aa Tryz.prog iN [.ptr a0] s2 fun D s4=>∃ B:Bool,D=.bool B/\(af (!B) (R (.bool false) s4) (aR (aC s4 l1 0 2) fun F=>aa Tryz.prog nW [.agg F] s4 fun G s8=>∃ C:Bool,G=.bool C/\(af (!C)
 (R (.bool false) s8)
 (gL fun S V=>ai a0 fun oQ n=>dI (au s8 oQ (n+16)) fun b=>aR (aC s8 l1 0 2) fun c=>(∀ d:AS,Ext s8 d->aG d->(True)->aa Tryz.prog ay [b,.agg c,(.func cP [])] d fun o k=>∃ e:Int,∃ i:Bool,o=.aN [.int .i64 e,.bool i]/\((Ext d k/\S 5 [(.func ay []),b,.agg c,(.func cP [])] (.aN [.int .i64 e,.bool i]) k/\V 5 [(.func ay []),b,.agg c,(.func cP [])] (.aN [.int .i64 e,.bool i]))))/\(∃ v,V 5 [(.func ay []),b,.agg c,(.func cP [])] v)/\∀ l:AV,V 5 [(.func ay []),b,.agg c,(.func cP [])] l->∃ m:Int,∃ j:Bool,l=.aN [.int .i64 m,.bool j]/\(∀ fT:AS,Ext s8 fT->aG fT->(S 5 [(.func ay []),b,.agg c,(.func cP [])] (.aN [.int .i64 m,.bool j]) fT/\True)->af j (R (.bool true) fT) (aU .u64 (au fT l1 1) fun p=>aU .i64 (au fT l1 0) fun r=>ai a0 fun w x=>bJ (ag T aZ (.ptr (some (w,x))) (.int .i64 (IntKind.wrap .i64 (r - 1)))) fun y z=>aU .u64 (au fT y z) fun A=>R (.bool (decide ((p:Int)<=A))) fT)))))))
def Hr:QA:=(.seq .leaf (.seq (.seq .leaf (.cond (.seq .leaf .leaf) .leaf)) (.seq (.g_ 10 [[],[],[],[],[],[],[],[],[],[]] [5]) (.seq (.draw 12) .leaf))))
theorem Hs (a0:Option (Nat×Nat)) (a1:List AV) (s:AS) (R:AV->AS->Prop) (h:Hq a0 a1 s R):aa Tryz.prog kO [.ptr a0,.agg a1] s R :=
 aa.q (n:=38) (rs:=[.tmp 4]) (A:=Hr) hT bY Tryz.func44 (by kernel_rfl) rfl rfl rfl (by kernel_rfl) (by kernel_rfl) h
def FY (a0:Option (Nat×Nat)) (s:AS) (R:AV->AS->Prop):Prop :=
 aa Tryz.prog iN [.ptr a0] s fun l s2=>∃ k:Bool,l=.bool k/\(af (!k)
 (R (.ptr none) s2)
 (gL fun S V=>ai a0 fun m n=>aR (aC s2 m n 16) fun o=>ai a0 fun p r=>dI (au s2 p (r+16)) fun e=>(∀ b:AS,Ext s2 b->aG b->(True)->aa Tryz.prog aH [e] b fun v11 dH=>(Ext b dH/\S 8 [(.func aH []),e] v11 dH/\V 8 [(.func aH []),e] v11))/\(∃ v,V 8 [(.func aH []),e] v)/\∀ d:AV,V 8 [(.func aH []),e] d->∀ c:AS,Ext s2 c->aG c->(S 8 [(.func aH []),e] d c/\True)->nQ (aS T ov [(0,.agg o),(1,d),(2,.bool true)]) fun i=>cH i (aj (.cells i 0 false) c fun j eT=>R (.ptr (some (j,0))) eT)))
def FZ:QA:=(.seq .leaf (.seq (.seq .leaf (.cond (.seq .leaf .leaf) .leaf)) (.seq (.g_ 9 [[],[],[],[],[],[],[],[],[]] [8]) .leaf)))
theorem F_ (a0:Option (Nat×Nat)) (s:AS) (R:AV->AS->Prop) (h:FY a0 s R):aa Tryz.prog dF [.ptr a0] s R :=
 aa.q (n:=17) (rs:=[.tmp 2]) (A:=FZ) hT bY Tryz.func111 (by kernel_rfl) rfl rfl rfl (by kernel_rfl) (by kernel_rfl) h
def vF (a0:Option (Nat×Nat)) (s:AS) (R:AV->AS->Prop):Prop :=
 uC (je T 100 pA (.ptr a0) (.ptr none)) fun b=>af (!b) (ai a0 fun c d=>NM (au s c (d+17)) fun e=>R (.bool e) s) (R (.bool false) s)
def DV:QA:=(.seq .leaf (.seq .leaf .leaf))
theorem DW (a0:Option (Nat×Nat)) (s:AS) (R:AV->AS->Prop) (h:vF a0 s R):aa Tryz.prog iN [.ptr a0] s R :=
 aa.q (n:=11) (rs:=[.tmp 2]) (A:=DV) hT bY Tryz.func112 (by kernel_rfl) rfl rfl rfl (by kernel_rfl) (by kernel_rfl) h
def iZ (a0:AV) (a1:List AV) (a2:AV) (s:AS) (R:AV->AS->Prop):Prop :=
 cH a1 (aj (.cells a1 0 false) s fun l1 s2=>aU .i64 (aQ T az a0 s2) fun F=>bG fun G =>
 (∀ o:Int,∀ s6:AS,G [.int .i64 o] s6 ->
 gL fun S V=>af (decide ((o:Int)<F)) (bJ (ag T az a0 (.int .i64 o)) fun H I=>aR (aC s6 H I 2) fun n=>aR (aC s6 l1 0 2) fun c=>(∀ i:AS,Ext s6 i->aG i->(True)->ez Tryz.prog a2 [.agg n,.agg c] i fun x bW=>∃ k:Int,x=.int .i64 k/\((Ext i bW/\S 11 [a2,.agg n,.agg c] (.int .i64 k) bW/\V 11 [a2,.agg n,.agg c] (.int .i64 k))))/\(∃ v,V 11 [a2,.agg n,.agg c] v)/\∀ p:AV,V 11 [a2,.agg n,.agg c] p->∃ l:Int,p=.int .i64 l/\(∀ kT:AS,Ext s6 kT->aG kT->(S 11 [a2,.agg n,.agg c] (.int .i64 l) kT/\True)->R (.aN [.int .i64 o,(.bool ((l:Int)==0))]) kT)) (∀ jl:AS,Ext s6 jl->aG jl->(True)->R (.aN [.int .i64 o,.bool false]) jl)) /\
 (bA fun j y=>j y [.int .i64 0,.int .i64 F] s2 /\
 ∀ m:Nat,∀ b:Int,∀ d:Int,∀ e:AS,j m [.int .i64 b,.int .i64 d] e ->
 af (decide ((b:Int)<d))
 (NN 1 (bJ (ag T az a0 (.int .i64 (IntKind.wrap .i64 (Int.fdiv (IntKind.wrap .u64 (IntKind.wrap .i64 (b+d))) (2 ^ min (Int.toNat 1) (IntKind.bits .u64)))))) fun z A=>aR (aC e z A 2) fun B=>aR (aC e l1 0 2) fun C=>ez Tryz.prog a2 [.agg B,.agg C] e fun D r=>∃ w:Int,D=.int .i64 w/\(af (decide ((w:Int)<0))
 (∃ m',m'<m/\j m' [(.int .i64 (IntKind.wrap .i64 ((IntKind.wrap .i64 (Int.fdiv (IntKind.wrap .u64 (IntKind.wrap .i64 (b+d))) (2 ^ min (Int.toNat 1) (IntKind.bits .u64))))+1))),.int .i64 d] r)
 (∃ m',m'<m/\j m' [.int .i64 b,(.int .i64 (IntKind.wrap .i64 (Int.fdiv (IntKind.wrap .u64 (IntKind.wrap .i64 (b+d))) (2 ^ min (Int.toNat 1) (IntKind.bits .u64)))))] r))))
 (G [.int .i64 b] e)))
def i_:QA:=(.seq .leaf (.seq .leaf (.seq .leaf (.join [(9,.int .i64)] [(9,11),(15,34)] (.wrap (.loop [(9,.int .i64),(10,.int .i64)] [(9,11),(15,34)] (.seq (.seq .leaf (.cond .leaf .leaf)) (.wrap (.seq .leaf (.seq (.draw 6) (.cond .leaf .leaf))))))) (.seq (.g_ 15 [[],[],[],[],[],[],[],[],[],[],[],[],[],[],[]] [11]) .leaf)))))
theorem jc (a0:AV) (a1:List AV) (a2:AV) (s:AS) (R:AV->AS->Prop) (h:iZ a0 a1 a2 s R):aa Tryz.prog ay [a0,.agg a1,a2] s R :=
 aa.q (n:=49) (rs:=[.tmp 6,.tmp 7]) (A:=i_) hT bY Tryz.func126 (by kernel_rfl) rfl rfl rfl (by kernel_rfl) (by kernel_rfl) h
def L3 (a0:List AV) (a1:List AV) (s:AS) (R:AV->AS->Prop):Prop :=
 cH a0 (aj (.cells a0 0 false) s fun l1 s2=>cH a1 (aj (.cells a1 0 false) s2 fun l3 s4=>gL fun S V=>aU .i64 (au s4 l1 0) fun d=>aU .i64 (au s4 l3 0) fun e=>(∀ s7:AS,Ext s4 s7->aG s7->(True)->aa Tryz.prog aP [.int .i64 d,.int .i64 e] s7 fun x w=>∃ b:Int,x=.int .i64 b/\((Ext s7 w/\S 4 [(.func aP []),.int .i64 d,.int .i64 e] (.int .i64 b) w/\V 4 [(.func aP []),.int .i64 d,.int .i64 e] (.int .i64 b))))/\(∃ v,V 4 [(.func aP []),.int .i64 d,.int .i64 e] v)/\∀ v11:AV,V 4 [(.func aP []),.int .i64 d,.int .i64 e] v11->∃ c:Int,v11=.int .i64 c/\(aU .u64 (au s4 l1 1) fun k=>aU .u64 (au s4 l3 1) fun l=>∀ gh:AS,Ext s4 gh->aG gh->(S 4 [(.func aP []),.int .i64 d,.int .i64 e] (.int .i64 c) gh/\True)->aa Tryz.prog eK [.int .u64 k,.int .u64 l] gh fun m eT=>∃ i:Int,m=.int .i64 i/\(aR (dw T gS 2 [(0,.int .i64 c),(1,.int .i64 i)]) fun n=>aj (.cells n 0 false) eT fun o fT=>aa Tryz.prog kP [(.slc (some (o,0)) 2 2 true)] fT fun p r=>∃ j:Int,p=.int .i64 j/\(R (.int .i64 j) r)))))
def L4:QA:=(.seq .leaf (.seq (.g_ 9 [[],[],[],[],[],[],[],[],[]] [4]) .leaf))
theorem L5 (a0:List AV) (a1:List AV) (s:AS) (R:AV->AS->Prop) (h:L3 a0 a1 s R):aa Tryz.prog cP [.agg a0,.agg a1] s R :=
 aa.q (n:=17) (rs:=[.tmp 4]) (A:=L4) hT bY Tryz.func127 (by kernel_rfl) rfl rfl rfl (by kernel_rfl) (by kernel_rfl) h
def ri (a0:AV) (a1:Int) (a2:AV) (s:AS) (R:AV->AS->Prop):Prop :=
 dI (bg T az a0 (some (.int .i64 a1)) none none) fun I=>aU .i64 (aQ T az a2 s) fun n2=>af ((n2:Int)==0)
 (R a0 s)
 (aU .i64 (aQ T az a0 s) fun c=>af ((a1:Int)==c)
 (iT (aL T az az a0 a2 s) fun z A=>R z A)
 (aU .i64 (vZ T az a0) fun B=>af (decide ((IntKind.wrap .i64 (c+n2):Int)>B))
 (dI (bg T az a0 none (some (.int .i64 a1)) none) fun C=>iT (aL T az qZ C (.int .i64 (IntKind.wrap .i64 ((IntKind.wrap .i64 (c+n2)) - a1))) s) fun e D=>dI (bg T az e (some (.int .i64 a1)) none none) fun v10=>iT (qO T az v10 a2 D) fun v11 dH=>dI (bg T az e (some (.int .i64 (IntKind.wrap .i64 (a1+n2)))) none none) fun i=>dI (bg T az a0 (some (.int .i64 a1)) none none) fun j=>iT (qO T az i j dH) fun F k=>R e k)
 (dI (bg T az a0 none (some (.int .i64 (IntKind.wrap .i64 (c+n2)))) none) fun b=>dI (bg T az b (some (.int .i64 (IntKind.wrap .i64 (a1+n2)))) none none) fun l=>aa Tryz.prog mR [a2,l] s fun m gy=>∃ d:Bool,m=.bool d/\(af (!d)
 (dI (bg T az b (some (.int .i64 (IntKind.wrap .i64 (a1+n2)))) none none) fun n=>dI (bg T az b (some (.int .i64 a1)) none none) fun o=>iT (qO T az n o gy) fun G dZ=>dI (bg T az b (some (.int .i64 a1)) none none) fun p=>iT (qO T az p a2 dZ) fun H r=>R b r)
 (dI (bg T az b (some (.int .i64 c)) none none) fun w=>iT (qO T az w a2 gy) fun v30 nK=>dI (bg T az b (some (.int .i64 a1)) none none) fun x=>aa Tryz.prog rI [x,.int .i64 n2] nK fun y kH=>y=.aN []/\(R b kH))))))
def rj:QA:=(.seq .leaf (.seq .leaf (.seq .leaf (.seq (.seq .leaf (.cond (.seq .leaf .leaf) .leaf)) (.seq .leaf (.seq (.seq .leaf (.cond (.seq .leaf .leaf) .leaf)) (.seq (.seq .leaf (.cond (.seq .leaf (.seq .leaf (.seq (.draw 8) (.seq .leaf .leaf)))) .leaf)) (.seq .leaf (.seq (.seq .leaf (.cond (.seq (.draw 8) (.seq .leaf (.seq .leaf .leaf))) .leaf)) (.seq .leaf (.seq .leaf (.seq .leaf .leaf))))))))))))
theorem jP (a0:AV) (a1:Int) (a2:AV) (s:AS) (R:AV->AS->Prop) (h:ri a0 a1 a2 s R):aa Tryz.prog ep [a0,.int .i64 a1,a2] s R :=
 aa.q (n:=95) (rs:=[.tmp 6]) (A:=rj) hT bY Tryz.func263 (by kernel_rfl) rfl rfl rfl (by kernel_rfl) (by kernel_rfl) h
def rJ (a0:AV) (s:AS) (R:AV->AS->Prop):Prop :=
 uC (Rw T az true a0 (.slc none 0 0 true)) fun b=>af b
 (R (.slc none 0 0 true) s)
 (aR (dw T az 0 []) fun c=>aj (.cells c 0 false) s fun l3 s4=>iT (aL T az az (.slc (some (l3,0)) 0 0 true) a0 s4) fun d s6=>R d s6)
def rK:QA:=(.seq .leaf (.seq (.seq .leaf (.cond (.seq .leaf .leaf) .leaf)) (.seq .leaf .leaf)))
theorem rL (a0:AV) (s:AS) (R:AV->AS->Prop) (h:rJ a0 s R):aa Tryz.prog aH [a0] s R :=
 aa.q (n:=8) (rs:=[.tmp 2]) (A:=rK) hT bY Tryz.func113 (by kernel_rfl) rfl rfl rfl (by kernel_rfl) (by kernel_rfl) h
def AT (a0:Option (Nat×Nat)) (s:AS) (R:AV->AS->Prop):Prop :=
 bG fun L =>
 (∀ M:AV,∀ s3:AS,L [M] s3 ->
 ai a0 fun Q S=>fQ T az s3 Q (S+16) M fun s6=>R (.aN []) s6) /\
 (ai a0 fun U W=>dI (au s U (W+16)) fun O=>aU .i64 (aQ T az O s) fun n=>bA fun d o=>d o [.slc none 0 0 true,.int .i64 0] s /\
 ∀ i:Nat,∀ e:AV,∀ b:Int,∀ j:AS,d i [e,.int .i64 b] j ->
 af (decide ((b:Int)<n))
 (bJ (ag T az O (.int .i64 b)) fun p r=>aR (aC j p r 2) fun m=>aj (.cells [.int .i64 0,.int .u64 0] 0 false) j fun c gG=>fC (some 2) m (bu (cU gG c 0 m) fun fT=>aU .i64 (au fT c 0) fun w=>ai a0 fun x y=>bJ (ag T aZ (.ptr (some (x,y))) (.int .i64 (IntKind.wrap .i64 (w - 1)))) fun k l=>aU .u64 (au fT c 1) fun z=>aU .u64 (au fT k l) fun A=>af (decide ((z:Int)<=A))
 (∃ m',m'<i/\d m' [e,(.int .i64 (IntKind.wrap .i64 (b+1)))] fT)
 (aU .u64 (au fT c 1) fun B=>aU .u64 (au fT k l) fun C=>af ((B:Int)==(IntKind.wrap .u64 (C+1)))
 (aU .u64 (au fT c 1) fun D=>bu (cU fT k l [.int .u64 D]) fun F=>∃ m',m'<i/\d m' [e,(.int .i64 (IntKind.wrap .i64 (b+1)))] F)
 (aR (aC fT c 0 2) fun G=>aR (dw T az 1 [(0,.agg G)]) fun H=>aj (.cells H 0 false) fT fun I oB=>iT (aL T az az e (.slc (some (I,0)) 1 1 true) oB) fun J K=>∃ m',m'<i/\d m' [J,(.int .i64 (IntKind.wrap .i64 (b+1)))] K))))
 (L [e] j))
def AU:QA:=(.wrap (.seq .leaf (.seq .leaf (.join [(2,.any)] [(2,2),(4,45)] (.seq .leaf (.wrap (.loop [(2,.any),(11,.int .i64)] [(2,2),(4,5),(11,45)] (.seq .leaf (.seq (.cond .leaf .leaf) (.seq (.wrap (.seq .leaf (.seq (.seq (.draw 6) (.wrap (.seq (.draw 5) (.cond .leaf (.seq (.draw 6) (.cond (.seq .leaf .leaf) .leaf)))))) .leaf))) .leaf)))))) .leaf))))
theorem AW (a0:Option (Nat×Nat)) (s:AS) (R:AV->AS->Prop) (h:AT a0 s R):aa Tryz.prog mP [.ptr a0] s R :=
 aa.q (n:=50) (rs:=[]) (A:=AU) hT bY Tryz.func264 (by kernel_rfl) rfl rfl rfl (by kernel_rfl) (by kernel_rfl) h
def Ht (a0:AV) (s:AS) (R:AV->AS->Prop):Prop :=
 aU .i64 (aQ T gS a0 s) fun i=>bA fun c j=>c j [.int .i64 0] s /\
 ∀ d:Nat,∀ b:Int,∀ s6:AS,c d [.int .i64 b] s6 ->
 af (decide ((b:Int)<i))
 (bJ (ag T gS a0 (.int .i64 b)) fun k l=>aU .i64 (au s6 k l) fun e=>af ((e:Int) != 0)
 (R (.int .i64 e) s6)
 (∃ m',m'<d/\c m' [(.int .i64 (IntKind.wrap .i64 (b+1)))] s6))
 (R (.int .i64 0) s6)
def Hu:QA:=(.seq .leaf (.seq .leaf (.seq (.seq .leaf (.wrap (.loop [(8,.int .i64)] [(2,2),(5,5),(8,16)] (.seq .leaf (.seq (.cond .leaf .leaf) (.seq (.wrap (.seq .leaf (.seq .leaf (.cond (.seq .leaf .leaf) .leaf)))) .leaf)))))) (.seq .leaf .leaf))))
theorem Hv (a0:AV) (s:AS) (R:AV->AS->Prop) (h:Ht a0 s R):aa Tryz.prog kP [a0] s R :=
 aa.q (n:=18) (rs:=[.tmp 2]) (A:=Hu) hT bY Tryz.func178 (by kernel_rfl) rfl rfl rfl (by kernel_rfl) (by kernel_rfl) h
def zj (a0:Int) (a1:Int) (s:AS) (R:AV->AS->Prop):Prop :=
 aa Tryz.prog jZ [.int .i64 a0] s fun e s2=>∃ d:Bool,e=.bool d/\(aa Tryz.prog jZ [.int .i64 a1] s2 fun i b=>∃ c:Bool,i=.bool c/\(af d
 (af c
 (R (.int .i64 0) b)
 (R (.int .i64 (-1)) b))
 (af c
 (R (.int .i64 1) b)
 (af (decide ((a0:Int)<a1))
 (R (.int .i64 (-1)) b)
 (af (decide ((a0:Int)>a1))
 (R (.int .i64 1) b)
 (R (.int .i64 0) b))))))
def zk:QA:=(.seq .leaf (.seq .leaf (.seq .leaf (.seq (.seq .leaf (.cond (.seq (.seq .leaf (.cond (.seq .leaf .leaf) .leaf)) (.seq .leaf .leaf)) .leaf)) (.seq (.seq .leaf (.cond (.seq .leaf .leaf) .leaf)) (.seq (.seq .leaf (.cond (.seq .leaf .leaf) .leaf)) (.seq (.seq .leaf (.cond (.seq .leaf .leaf) .leaf)) (.seq .leaf .leaf))))))))
theorem zl (a0:Int) (a1:Int) (s:AS) (R:AV->AS->Prop) (h:zj a0 a1 s R):aa Tryz.prog aP [.int .i64 a0,.int .i64 a1] s R :=
 aa.q (n:=20) (rs:=[.tmp 4]) (A:=zk) hT bY Tryz.func179 (by kernel_rfl) rfl rfl rfl (by kernel_rfl) (by kernel_rfl) h
def vI (a0:Int) (a1:Int) (s:AS) (R:AV->AS->Prop):Prop :=
 aa Tryz.prog gR [.int .u64 a0] s fun e s2=>∃ d:Bool,e=.bool d/\(aa Tryz.prog gR [.int .u64 a1] s2 fun i b=>∃ c:Bool,i=.bool c/\(af d
 (af c
 (R (.int .i64 0) b)
 (R (.int .i64 (-1)) b))
 (af c
 (R (.int .i64 1) b)
 (af (decide ((a0:Int)<a1))
 (R (.int .i64 (-1)) b)
 (af (decide ((a0:Int)>a1))
 (R (.int .i64 1) b)
 (R (.int .i64 0) b))))))
def vJ:QA:=(.seq .leaf (.seq .leaf (.seq .leaf (.seq (.seq .leaf (.cond (.seq (.seq .leaf (.cond (.seq .leaf .leaf) .leaf)) (.seq .leaf .leaf)) .leaf)) (.seq (.seq .leaf (.cond (.seq .leaf .leaf) .leaf)) (.seq (.seq .leaf (.cond (.seq .leaf .leaf) .leaf)) (.seq (.seq .leaf (.cond (.seq .leaf .leaf) .leaf)) (.seq .leaf .leaf))))))))
theorem vL (a0:Int) (a1:Int) (s:AS) (R:AV->AS->Prop) (h:vI a0 a1 s R):aa Tryz.prog eK [.int .u64 a0,.int .u64 a1] s R :=
 aa.q (n:=20) (rs:=[.tmp 4]) (A:=vJ) hT bY Tryz.func180 (by kernel_rfl) rfl rfl rfl (by kernel_rfl) (by kernel_rfl) h
def tU (a0:Int) (s:AS) (R:AV->AS->Prop):Prop :=
 R (.bool ((a0:Int) != a0)) s
def Cu:QA:=(.seq .leaf (.seq .leaf .leaf))
theorem Cv (a0:Int) (s:AS) (R:AV->AS->Prop) (h:tU a0 s R):aa Tryz.prog jZ [.int .i64 a0] s R :=
 aa.q (n:=6) (rs:=[.tmp 2]) (A:=Cu) hT bY Tryz.func238 (by kernel_rfl) rfl rfl rfl (by kernel_rfl) (by kernel_rfl) h
def qf (a0:Int) (s:AS) (R:AV->AS->Prop):Prop :=
 R (.bool ((a0:Int) != a0)) s
def ya:QA:=(.seq .leaf (.seq .leaf .leaf))
theorem yb (a0:Int) (s:AS) (R:AV->AS->Prop) (h:qf a0 s R):aa Tryz.prog gR [.int .u64 a0] s R :=
 aa.q (n:=6) (rs:=[.tmp 2]) (A:=ya) hT bY Tryz.func239 (by kernel_rfl) rfl rfl rfl (by kernel_rfl) (by kernel_rfl) h
end Go.Proofs.YtohgmogbabkkeaaGreat
end

section
namespace Go.Proofs.YtohgmogbabkkeaaGreat
open Go.Am Go.av
def aI (d:aJ):List AV:=[.int .i64 d.r,.int .u64 d.c]
theorem bn (d:aJ):(aI d).length=2:=rfl
theorem mW (d:aJ):(aI d).all AV.one=true:=rfl
theorem sj (a:Int) (s:AS):aa Tryz.prog jZ [.int .i64 a] s fun v s'=>v=.bool false/\s'=s:=by
 refine Cv _ _ _ ?_;simp [tU]
theorem pE (a:Int) (s:AS):aa Tryz.prog gR [.int .u64 a] s fun v s'=>v=.bool false/\s'=s:=by
 refine yb _ _ _ ?_;simp [qf]
theorem kI (a b:Int) (s:AS):aa Tryz.prog aP [.int .i64 a,.int .i64 b] s fun v s'=>v=.int .i64 (tF a b)/\s'=s:=by
 refine zl _ _ _ _ ?_;refine (sj _ _).mono ?_;rintro v s1 ⟨rfl,rfl⟩;refine ⟨_,rfl,?_⟩;refine (sj _ _).mono ?_;rintro v s1 ⟨rfl,rfl⟩;refine ⟨_,rfl,?_⟩;simp only [gB,tF]
 grind
theorem iJ (a b:Int) (s:AS):aa Tryz.prog eK [.int .u64 a,.int .u64 b] s fun v s'=>v=.int .i64 (tF a b)/\s'=s:=by
 refine vL _ _ _ _ ?_;refine (pE _ _).mono ?_;rintro v s1 ⟨rfl,rfl⟩;refine ⟨_,rfl,?_⟩;refine (pE _ _).mono ?_;rintro v s1 ⟨rfl,rfl⟩;refine ⟨_,rfl,?_⟩;simp only [gB,tF]
 grind
theorem ru (d:aJ) (s:AS):aa Tryz.prog nW [.agg (aI d)] s fun v s'=>v=.bool d.may/\Ext s s':=by
 refine aa.pre fun b=>QN _ _ _ ⟨rfl,aj.intro b rfl fun l s1 F=>?_⟩;simp only [F.own.at.au,aI,List.getElem?_cons_zero,List.getElem?_cons_succ,go_sem,gB,F.ext,and_true,aJ.may]
 grind
theorem JV (d:aJ) (s:AS):aa Tryz.prog wJ [.agg (aI d)] s fun v s'=>v=.bool d.may/\Ext s s':=by
 refine aa.pre fun b=>L0 _ _ _ ⟨rfl,aj.intro b rfl fun l s1 F=>?_⟩;simp only [F.own.at.au,aI,List.getElem?_cons_zero,List.getElem?_cons_succ,go_sem,gB,F.ext,and_true,aJ.may]
 grind
end Go.Proofs.YtohgmogbabkkeaaGreat
end

section
namespace Go.Proofs.YtohgmogbabkkeaaGreat
open Go.Am Go.av
theorem iR:Cf T az gV 2 16:=⟨bI,kq,Vq,⟨_,_,N6,rfl,rfl⟩,by decide,by decide⟩
abbrev Hw:=Sl aI 2
theorem aX {n:Int} (h:0<=n/\n<=4611686018427387904):IntKind.wrap .i64 n=n:=IntWalk.i64_in _ (by omega)
theorem sk {n:Int} (h : -4611686018427387904<=n/\n<=4611686018427387904):IntKind.wrap .i64 n=n:=IntWalk.i64_in _ (by omega)
theorem gJ {n:Int} (h:0<=n/\n<=18446744073709551615):IntKind.wrap .u64 n=n:=IntWalk.u64_in _ (by omega)
theorem QO {i j:Nat} (h:i+j<=4611686018427387904):IntKind.wrap .i64 (Int.fdiv (IntKind.wrap .u64 (IntKind.wrap .i64 ((i:Int)+(j:Int)))) (2 ^ min (Int.toNat 1) (IntKind.bits .u64)))=(((i+j) / 2:Nat):Int):=by
 rw [show IntKind.wrap .i64 ((i:Int)+(j:Int))=(i:Int)+(j:Int) from aX (by omega),gJ (by omega)];have:(2:Int) ^ min (Int.toNat 1) (IntKind.bits .u64)=2:=by decide
 rw [this,Int.fdiv_eq_ediv_of_nonneg _ (by omega),aX (by omega)];omega
theorem pU (a b:Int) {s:AS} {l:Nat} (h:At s l [.int .i64 a,.int .i64 b]):aa Tryz.prog kP [.slc (some (l,0)) 2 2 true] s fun v s'=>v=.int .i64 (if a≠0 then a else b)/\s'=s:=by
 have hs:Sl (fun n:Int=>[AV.int .i64 n]) 1 s (.slc (some (l,0)) 2 2 true) [a,b]:=ct.mk h rfl rfl;refine Hv _ _ _ ⟨_,hs.cJ r8 s,fun m vs s'=>∃ i:Nat,vs=[.int .i64 i]/\s'=s/\i<=2/\m=2 - i/\(0<i->a=0)/\(1<i->b=0),2,⟨0,by simp⟩,?_⟩;rintro m n s' ⟨i,hi,rfl,h2,rfl,h3,h4⟩;simp only [List.cons.injEq,AV.int.injEq,true_and,and_true] at hi;subst hi;refine af.dec (fun j=>?_) (fun k=>?_)
 ·simp only [List.length_cons,List.length_nil] at j;have p:i<2:=by omega
  obtain ⟨x,c⟩:∃ x,[a,b][i]? = some x:=⟨_,List.getElem?_eq_getElem (by simpa using p)⟩;obtain ⟨la,o,w,y⟩:=hs.ix (sz:=1) (by decide) (fun _=>rfl) r8 It c;refine ⟨la,o,w _,x,(y _ (Ext.refl _)).1 0 (by decide),af.mk (fun r=>?_) (fun heq=>?_)⟩
  ·refine ⟨?_,rfl⟩;have d:x≠0:=by simpa using r
   rcases (show i=0\/i=1 by omega) with rfl | rfl
   ·simp at c;subst c;rw [if_pos d]
   ·simp at c;subst c;rw [if_neg (by simp [h3])]
  ·have e:x=0:=by simpa using heq
   subst e;refine ⟨2 - (i+1),by omega,i+1,by rw [aX (by omega)];rfl,rfl,by omega,rfl,fun _=>?_,fun z=>?_⟩
   ·rcases (show i=0\/i=1 by omega) with rfl | rfl
    ·simpa using c
    ·exact h3 (by decide)
   ·rcases (show i=0\/i=1 by omega) with rfl | rfl
    ·omega
    ·simpa using c
 ·simp only [List.length_cons,List.length_nil] at k;obtain rfl:i=2:=by omega
  refine ⟨?_,rfl⟩;rw [if_neg (by simp [h3]),h4 (by decide)]
theorem uZ (a b:aJ) (s:AS):aa Tryz.prog cP [.agg (aI a),.agg (aI b)] s fun v s'=>v=.int .i64 (a.cmp b)/\Ext s s':=by
 refine aa.pre fun n=>L5 _ _ _ _ ⟨rfl,aj.intro n rfl fun l s1 F=>⟨rfl,aj.intro F.wf rfl fun o s2 i=>?_⟩⟩;have e:=F.ext.trans i.ext;refine ⟨fun _ _ _ _=>True,fun _ _ v=>v=.int .i64 (tF a.r b.r),fun _ _ _ _ _ _ _=>trivial,?_⟩;simp only [(F.own.ext i.ext).at.au,i.own.at.au,aI,List.getElem?_cons_zero,List.getElem?_cons_succ,go_sem];refine ⟨fun s7 _ _ _=>?_,⟨_,rfl⟩,?_⟩
 ·refine (kI _ _ _).mono ?_;rintro v s' ⟨rfl,rfl⟩;exact ⟨_,rfl,Ext.refl _,trivial,rfl⟩
 ·rintro v rfl;refine ⟨_,rfl,fun gh j _ _=>?_⟩;refine aa.use (iJ _ _ _) ?_;rintro v s' ⟨rfl,rfl⟩ k;refine ⟨_,rfl,?_⟩;have d:dw T gS 2 [(0,.int .i64 (tF a.r b.r)),(1,.int .i64 (tF a.c b.c))]=some [.int .i64 (tF a.r b.r),.int .i64 (tF a.c b.c)]:=by
   simp only [dw,r8,It,FR,Option.bind_some,uA];rfl
  rw [d];simp only [go_sem];refine aj.intro k rfl fun l3 s3 m=>?_;refine (pU _ _ m.own.at).mono ?_;rintro v s' ⟨rfl,rfl⟩;refine ⟨_,rfl,?_,e.trans (j.trans m.ext)⟩;simp only [aJ.cmp]
structure w_ (s:AS) (p:Nat) (v:List Int) (ex:List aJ):Prop where
 len:v.length=16
 mem:∃ w,Am.Own s p (v.map (.int .u64)++[w,.bool true])/\w.one=true/\Hw s w ex
theorem w_.ext {s s':AS} {p:Nat} {v:List Int} {ex:List aJ} (h:w_ s p v ex) (e:Ext s s'):w_ s' p v ex:=by
 obtain ⟨b,w,h2,h3,h4⟩:=h;exact ⟨b,w,h2.ext e,h3,h4.ext e⟩
theorem u0 {s:AS} {p:Nat} {v:List Int} {ex:List aJ} (h:w_ s p v ex):aa Tryz.prog iN [.ptr (some (p,0))] s fun v s'=>v=.bool true/\s'=s:=by
 obtain ⟨b,w,h2,h3,h4⟩:=h;refine DW _ _ _ ?_;unfold vF;rw [iU wV];have:(v.map (AV.int .u64)++[w,.bool true])[0+17]? = some (.bool true):=by
  rw [List.getElem?_append_right (by simp [b])];simp [b]
 simp only [go_sem,Option.isNone_some,Bool.not_false,h2.at.au,this,and_self]
end Go.Proofs.YtohgmogbabkkeaaGreat
end

section
namespace Go.Proofs.YtohgmogbabkkeaaGreat
open Go.Am Go.av
theorem Ga {s:AS} {v:AV} {l:List aJ} (D:Hw s v l) (hlen:l.length<=2 ^ 40) (hr:ef l) (d:aJ):aa Tryz.prog ay [v,.agg (aI d),.func cP []] s
  fun r s'=>r=.aN [.int .i64 (pos l d:Nat),.bool (decide (d∈l))]/\Ext s s':=by
 refine aa.pre fun W=>jc _ _ _ _ _ ⟨rfl,aj.intro W rfl fun la s2 F=>?_⟩;refine ⟨_,D.cJ bI s2,fun vs s'=>∃ i:Nat,vs=[.int .i64 (i:Nat)]/\i<=l.length/\Ext s2 s'/\(∀ (k:Nat) x,k<i->l[k]? = some x->x.lt d=true)/\(∀ (k:Nat) x,i<=k->l[k]? = some x->x.lt d=false),?_,?_⟩
 ·rintro n5 s6 ⟨i,hi,G,w,R,h2⟩;simp only [List.cons.injEq,AV.int.injEq,true_and,and_true] at hi;subst hi;have X:pos l d=i:=pos_eq G R fun x c=>h2 i x (Nat.le_refl _) c;have n:=hr.mem d;rw [X] at n ⊢;refine ⟨fun _ _ _ _=>True,fun _ _ v=>∃ x,l[i]? = some x/\v=.int .i64 (x.cmp d),fun _ _ _ _ _ _ _=>trivial,af.dec (fun H=>?_) (fun I=>?_)⟩
  ·have A:i<l.length:=by omega
   have c:l[i]? = some l[i]:=List.getElem?_eq_getElem A;obtain ⟨y,o,J,K⟩:=(D.ext (F.ext.trans w)).ix (by decide) bn bI kq c;refine ⟨y,o,J _,_,(K _ (Ext.refl _)).2,_,(F.own.ext w).at.aC (by simp [aI]),fun Y Z _ _=>?_,⟨_,_,c,rfl⟩,?_⟩
   ·refine (uZ _ _ _).mono ?_;rintro v s' ⟨rfl,e⟩;exact ⟨_,rfl,e,trivial,_,c,rfl⟩
   ·rintro v ⟨x,b,rfl⟩;rw [c] at b;obtain rfl:=Option.some.inj b;refine ⟨_,rfl,fun kT L _ _=>⟨?_,F.ext.trans (w.trans L)⟩⟩;congr 4;rw [Bool.eq_iff_iff,beq_iff_eq,decide_eq_true_eq,aJ.VN,<- n,c];simp
  ·have:l[i]? = none:=List.getElem?_eq_none (by omega);rw [this] at n;have hn:¬ d∈l:=by rw [<- n];simp
   intro jl M _ _;refine ⟨?_,F.ext.trans (w.trans M)⟩;simp [hn]
 ·refine ⟨fun m vs s'=>∃ i j:Nat,vs=[.int .i64 (i:Nat),.int .i64 (j:Nat)]/\i<=j/\j<=l.length/\m=j - i/\Ext s2 s'/\(∀ (k:Nat) x,k<i->l[k]? = some x->x.lt d=true)/\(∀ (k:Nat) x,j<=k->l[k]? = some x->x.lt d=false),l.length,?_,?_⟩
  ·refine ⟨0,l.length,rfl,by omega,by omega,rfl,Ext.refl _,fun k x B=>by omega,fun k x B c=>?_⟩;rw [List.getElem?_eq_none B] at c;cases c
  ·rintro m ab ad ae ⟨i,j,C,R,h2,rfl,w,h3,h4⟩;simp only [List.cons.injEq,AV.int.injEq,true_and,and_true] at C;obtain ⟨rfl,rfl⟩:=C;refine af.dec (fun H=>?_) (fun I=>?_)
   ·rw [QO (by omega)];have O:(i+j) / 2<j:=by omega
    have Q:i<=(i+j) / 2:=by omega
    generalize S:(i+j) / 2=mid at O Q;have c:l[mid]? = some l[mid]:=List.getElem?_eq_getElem (by omega);obtain ⟨y,o,J,K⟩:=(D.ext (F.ext.trans w)).ix (by decide) bn bI kq c;refine ⟨by decide,y,o,J _,_,(K _ (Ext.refl _)).2,_,(F.own.ext w).at.aC (by simp [aI]),?_⟩;refine (uZ _ _ _).mono ?_;rintro v s' ⟨rfl,e⟩;refine ⟨_,rfl,af.dec (fun z=>?_) (fun z=>?_)⟩
    ·rw [aJ.fX] at z;refine ⟨j - (mid+1),by omega,mid+1,j,by rw [aX (by omega)];rfl,by omega,h2,rfl,w.trans e,fun k x B b=>?_,h4⟩;rcases Nat.lt_or_ge k mid with p | p
     ·exact aJ.lt_trans (hr.lt p b c) z
     ·obtain rfl:k=mid:=by omega
      rw [c] at b;obtain rfl:=Option.some.inj b;exact z
    ·rw [aJ.fX] at z;refine ⟨mid - i,by omega,i,mid,rfl,by omega,by omega,rfl,w.trans e,h3,fun k x B b=>?_⟩;cases U:x.lt d with
     | false=>rfl
     | true =>
      exfalso;rcases Nat.eq_or_lt_of_le B with p | p
      ·subst p;rw [c] at b;obtain rfl:=Option.some.inj b;exact z U
      ·exact z (aJ.lt_trans (hr.lt p c b) U)
   ·obtain rfl:i=j:=by omega
    exact ⟨i,rfl,by omega,w,h3,h4⟩
end Go.Proofs.YtohgmogbabkkeaaGreat
end

section
namespace Go.Proofs.YtohgmogbabkkeaaGreat.SG
open Go.Am Go.av.SG
variable {E:SE} [SQ E]
section
class ry (E:SE) (cf:FuncId):Prop where
 ok:∀ (a b:El E.O) (s:AS),aa Tryz.prog cf [.agg (E.cC a),.agg (E.cC b)] s fun v s'=>v=.int .i64 (a.cmp b)/\Ext s s'
variable {cf:FuncId} [ry E cf]
structure jV (s:AS) (a:AV) (lo:Nat) (l:List (El E.O)) (rest:List AV):Prop where
 val:∃ c e,a=.slc (some (lo,0)) l.length c e
 obj:∃ g,s.h lo=some (.cells (l.flatMap E.cC++rest) g false)
section
variable {s:AS} {a:AV} {lo:Nat} {l:List (El E.O)} {rest:List AV}
theorem rz (l:List (El E.O)):(l.flatMap E.cC).length=l.length*E.w:=ek E.len l
theorem Xc {i n w:Nat} (h:i<n):i*w+w<=n*w:=by have:=Nat.mul_le_mul_right w h;rw [Nat.succ_mul] at this;exact this
theorem jV.mut {L:List Nat} {s':AS} (h:jV s a lo l rest) (m:bz L s s') (b:lo ∉ L):jV s' a lo l rest:=by
 obtain ⟨c,g,h2⟩:=h;exact ⟨c,g,m.1 _ _ b h2⟩
theorem jV.ext {s':AS} (h:jV s a lo l rest) (e:Ext s s'):jV s' a lo l rest:=h.mut (L:=[]) e.mut (by simp)
theorem jV.ix (h:jV s a lo l rest) {i:Nat} (hi:i<l.length):ag T E.ys a (.int .i64 (i:Nat))=some (.ptr (some (lo,i*E.w))):=by
 obtain ⟨⟨c,e,rfl⟩,_⟩:=h;have:(0:Int)<=(i:Int)/\(i:Int)<(l.length:Int):=by omega
 simp only [ag,E.us,E.zs,Option.bind_some];rw [if_pos this];simp
theorem jV.rd (h:jV s a lo l rest) {i:Nat} (hi:i<l.length):aC s lo (i*E.w) E.w=some (E.cC (el l i)):=by
 have c:=Xc (w:=E.w) hi;obtain ⟨_,g,h2⟩:=h;have b:At s lo (l.flatMap E.cC++rest):=⟨_,_,h2⟩;rw [b.aC (by rw [List.length_append,rz];omega)];rw [List.drop_append_of_le_length (by rw [rz];omega),List.take_append_of_le_length (by rw [List.length_drop,rz];omega),Ce E.len (yY hi)]
theorem Sy (l:List (El E.O)) (k:Nat) (x:El E.O) (rest:List AV) (c:k<l.length):qC (l.flatMap E.cC++rest) (k*E.w) (E.cC x)=(l.set k x).flatMap E.cC++rest:=by
 have b:l.flatMap E.cC=(l.take k).flatMap E.cC++(E.cC (l[k])++(l.drop (k+1)).flatMap E.cC):=by
  conv=>lhs;rw [<- List.take_append_drop k l,List.flatMap_append,List.drop_eq_getElem_cons c,List.flatMap_cons]
 have d:((l.take k).flatMap E.cC).length=k*E.w:=by rw [ek E.len,List.length_take,Nat.min_eq_left (by omega)]
 have:=JF ((l.take k).flatMap E.cC) (E.cC l[k]) (E.cC x) ((l.drop (k+1)).flatMap E.cC++rest) (by rw [E.len,E.len]);rw [d] at this;rw [b,List.append_assoc,List.append_assoc,<- List.append_assoc,this,List.set_eq_take_append_cons_drop,if_pos c,List.flatMap_append,List.flatMap_cons,List.append_assoc,List.append_assoc,List.append_assoc]
theorem jV.wr (h:jV s a lo l rest) (b:aG s) {i:Nat} (hi:i<l.length) (x:El E.O) {K:AS->Prop} (c:∀ s',jV s' a lo (l.set i x) rest->aG s'->bz [lo] s s'->K s'):fC (some E.w) (E.cC x) (bu (cU s lo (i*E.w) (E.cC x)) K):=by
 have d:=Xc (w:=E.w) hi;obtain ⟨e,g,h2⟩:=h;refine ⟨⟨E.one _,by rw [E.len]⟩,bu.cU b h2 (by rw [List.length_append,rz,E.len];omega) fun s' P=>c s' ⟨?_,g,?_⟩ P.wf P.mut⟩
 ·rw [List.length_set];exact e
 ·rw [P.at,Sy l i x rest hi]
theorem jV.swap (h:jV s a lo l rest) (z:aG s) {i j:Nat} (hi:i<l.length) (hj:j<l.length) {K:AS->Prop} (A:∀ s',jV s' a lo (B3 l i j) rest->aG s'->bz [lo] s s'->K s') :
  bJ (ag T E.ys a (.int .i64 (j:Nat))) fun d e=>aR (aC s d e E.w) fun b=>bJ (ag T E.ys a (.int .i64 (i:Nat))) fun k m=>aR (aC s k m E.w) fun c=>bJ (ag T E.ys a (.int .i64 (i:Nat))) fun n o=>fC (some E.w) b (bu (cU s n o b) fun p=>bJ (ag T E.ys a (.int .i64 (j:Nat))) fun r x=>fC (some E.w) c (bu (cU p r x c) fun nK=>K nK)) :=
 ⟨_,_,h.ix hj,_,h.rd hj,_,_,h.ix hi,_,h.rd hi,_,_,h.ix hi,h.wr z hi _ fun s1 y w1 B =>
  ⟨_,_,y.ix (by simpa using hj),y.wr w1 (by simpa using hj) _ fun s2 h2 w2 m2=>A s2 h2 w2 (B.trans m2)⟩⟩
theorem jV.cmp (h:jV s a lo l rest) {i j:Nat} (hi:i<l.length) (hj:j<l.length) {K:Int->AS->Prop} (p:∀ s',jV s' a lo l rest->aG s'->bz [lo] s s'->K ((el l i).cmp (el l j)) s') :
  bJ (ag T E.ys a (.int .i64 (i:Nat))) fun c d=>aR (aC s c d E.w) fun k=>bJ (ag T E.ys a (.int .i64 (j:Nat))) fun ku m=>aR (aC s ku m E.w) fun n=>ez Tryz.prog (.func cf []) [.agg k,.agg n] s fun o eT=>∃ b:Int,o=.int .i64 b/\K b eT:=by
 refine ⟨_,_,h.ix hi,_,h.rd hi,_,_,h.ix hj,_,h.rd hj,?_⟩;refine aa.use (ry.ok (E:=E) _ _ _) ?_;rintro v s' ⟨rfl,e⟩ r;exact ⟨_,rfl,p s' (h.ext e) r e.mut⟩
end
theorem N_ {s:AS} {a:AV} {lo:Nat} {l:List (El E.O)} {rest:List AV} {x y:Nat} (h:jV s a lo l rest) (Q:x<=y) (hy:y<=l.length) (hn:l.length<=2 ^ 40) :
  aa Tryz.prog E.fI [a,.int .i64 (x:Nat),.int .i64 (y:Nat),.func cf []] s fun r s'=>r=.aN []/\∃ l',jV s' a lo l' rest/\Sw x y l l'/\Dn l' x y/\bz [lo] s s':=by
 refine aa.pre fun R=>SQ.iI _ _ _ _ _ _ ⟨fun m vs s'=>∃ (i:Nat) (l':List (El E.O)),vs=[.int .i64 (i:Nat)]/\x+1<=i/\(i<=y\/i=x+1)/\m=y - i/\jV s' a lo l' rest/\aG s'/\Sw x y l l'/\Dn l' x i/\bz [lo] s s',y - (x+1),⟨x+1,l,by rw [aX (by omega)];rfl,by omega,.inr rfl,rfl,h,R,.refl _,fun p q w h2 h3=>by omega,bz.refl _ _⟩,?_⟩;rintro m n s5 ⟨i,l1,hi,S,U,rfl,a5,W,d,z,L⟩;simp only [List.cons.injEq,AV.int.injEq,true_and,and_true] at hi;subst hi;have X:=d.len;refine af.dec (fun Y=>?_) (fun Z=>⟨rfl,l1,a5,d,fun p q w h2 h3=>z p q w h2 (by omega),L⟩);have fin:∀ s' l',jV s' a lo l' rest->aG s'->Sw x y l l'->Dn l' x (i+1)->bz [lo] s s'->∃ m',m'<y - i/\∃ (k:Nat) (l':List (El E.O)),[AV.int .i64 (IntKind.wrap .i64 ((i:Int)+1))]=[.int .i64 (k:Nat)]/\x+1<=k/\(k<=y\/k=x+1)/\m'=y - k/\jV s' a lo l' rest/\aG s'/\Sw x y l l'/\Dn l' x k/\bz [lo] s s' :=
  fun s' l' w h2 h3 h4 h5=>⟨y - (i+1),by omega,i+1,l',by rw [aX (by omega)];rfl,by omega,.inl (by omega),rfl,w,h2,h3,h4,h5⟩
 refine ⟨fun m vs s'=>∃ (j:Nat) (l':List (El E.O)),vs=[.int .i64 (j:Nat)]/\x<=j/\j<=i/\m=j - x/\jV s' a lo l' rest/\aG s'/\Sw x y l l'/\(∀ p q,x<=p->p<q->q<=i->q≠j->(el l' p).le (el l' q))/\bz [lo] s s',i - x,⟨i,l1,rfl,by omega,by omega,rfl,a5,W,d,fun p q w h2 h3 h4=>z p q w h2 (by omega),L⟩,?_⟩;rintro m n ab ⟨j,M,hj,A,e,rfl,B,H,b,c,o⟩;simp only [List.cons.injEq,AV.int.injEq,true_and,and_true] at hj;subst hj;have ad:=b.len;refine af.dec (fun ae=>?_) (fun hle=>fin _ M B H b (JB A e (.inl (by omega)) c) o);rw [aX (by omega),show (j:Int) - 1=((j - 1:Nat):Int) by omega];refine B.cmp (by omega) (by omega) fun eT C D F=>af.dec (fun G=>?_) (fun G=>fin _ M C D b (JB A e (.inr (El.wA (by rw [<- El.fX];exact G))) c) (o.trans F));rw [El.fX] at G;refine C.swap D (by omega) (by omega) fun nK I J K=>⟨j - 1 - x,by omega,j - 1,_,rfl,by omega,by omega,rfl,I,J,.step b ⟨by omega,by omega⟩ ⟨by omega,by omega⟩ (by omega),Ly (by omega) (by omega) e G c,(o.trans F).trans K⟩
end
section
variable {cf:FuncId} [ry E cf]
theorem Oa {x y:Nat} (h:x+y<=4611686018427387904):IntKind.wrap .i64 ((x:Int)+(y:Int))=((x+y:Nat):Int):=by rw [aX (by omega)];omega
theorem kz {x:Nat} (h:x+1<=4611686018427387904):IntKind.wrap .i64 ((x:Int)+1)=((x+1:Nat):Int):=by rw [aX (by omega)];omega
theorem DX {x y:Nat} (h:y<=x) (b:x<=4611686018427387904):IntKind.wrap .i64 ((x:Int) - (y:Int))=((x - y:Nat):Int):=by rw [aX (by omega)];omega
theorem kU {x:Nat} (h:1<=x) (b:x<=4611686018427387904):IntKind.wrap .i64 ((x:Int) - 1)=((x - 1:Nat):Int):=by rw [aX (by omega)];omega
theorem Xd {x:Nat} (h:2*x<=4611686018427387904):IntKind.wrap .i64 (2*(x:Int))=((2*x:Nat):Int):=by rw [aX (by omega)];omega
theorem Sz (x k:Nat):Int.tdiv (x:Int) (k:Int)=((x / k:Nat):Int):=rfl
theorem wid {x:Nat} (h:x<=4611686018427387904):IntKind.wrap .i64 (x:Int)=(x:Int):=aX (by omega)
theorem Du {s:AS} {a:AV} {lo:Nat} {l:List (El E.O)} {rest:List AV} {k n f:Nat} (h:jV s a lo l rest) (hl:f+n<=l.length) (hn:l.length<=2 ^ 40) (hk:k<=2 ^ 40) (R:DF l f n (k+1)) :
  aa Tryz.prog E.jk [a,.int .i64 (k:Nat),.int .i64 (n:Nat),.int .i64 (f:Nat),.func cf []] s fun r s'=>r=.aN []/\∃ l',jV s' a lo l' rest/\Sw f (f+n) l l'/\DF l' f n k/\bz [lo] s s':=by
 refine aa.pre fun S=>SQ.si _ _ _ _ _ _ _ ⟨fun m vs s'=>∃ (root:Nat) (l':List (El E.O)),vs=[.int .i64 (root:Nat)]/\root<=n+k/\m=n+k - root/\jV s' a lo l' rest/\aG s'/\Sw f (f+n) l l'/\NW l' f n k root/\bz [lo] s s',n+k - k,⟨k,l,rfl,by omega,rfl,h,S,.refl _,R.XG,bz.refl _ _⟩,?_⟩;rintro m n4 s5 ⟨root,l1,hi,U,rfl,a5,W,e,o,B⟩;simp only [List.cons.injEq,AV.int.injEq,true_and,and_true] at hi;subst hi;have X:=e.len;rw [Xd (by omega),kz (by omega)];refine af.dec (fun C=>⟨rfl,l1,a5,e,o.done fun c z d A=>by omega,B⟩) (fun Y=>?_);refine ⟨fun vs s'=>∃ child:Nat,vs=[.int .i64 (child:Nat)]/\(child=2*root+1\/child=2*root+2)/\child<n/\jV s' a lo l1 rest/\aG s'/\bz [lo] s s'/\(∀ c,0<c->c<n->(c - 1) / 2=root->(el l1 (f+c)).le (el l1 (f+child))),?_,?_⟩
 ·rintro n7 s8 ⟨child,d,D,F,Z,w8,Q,i⟩;simp only [List.cons.injEq,AV.int.injEq,true_and,and_true] at d;subst d;rw [Oa (by omega),Oa (by omega)];refine Z.cmp (by omega) (by omega) fun ab p G w=>?_;refine af.mk (fun d=>?_) (fun d=>?_)
  ·have hle:=El.wA (show ¬ (el l1 (f+root)).lt (el l1 (f+child))=true by rw [<- El.fX];simpa using d);exact ⟨rfl,l1,p,e,o.done fun c z d A=>El.le_trans (i c z d A) hle,Q.trans w⟩
  ·have j:(el l1 (f+root)).lt (el l1 (f+child))=true:=by rw [<- El.fX];simpa using d
   refine p.swap G (by omega) (by omega) fun ad H I J=>⟨n+k - child,by omega,child,_,rfl,by omega,rfl,H,I,.step e ⟨by omega,by omega⟩ ⟨by omega,by omega⟩ (by omega),o.step (by omega) D F j i,(Q.trans w).trans J⟩
 ·refine ⟨fun vs s'=>∃ t,vs=[.bool t]/\jV s' a lo l1 rest/\aG s'/\bz [lo] s s'/\(t=true->2*root+2<n/\(el l1 (f+(2*root+1))).lt (el l1 (f+(2*root+2)))=true)/\(t=false->2*root+2<n->(el l1 (f+(2*root+2))).le (el l1 (f+(2*root+1)))),?_,?_⟩
  ·rintro b ae ⟨t,ht,x,y,m32,h1,h2⟩;simp only [List.cons.injEq,AV.bool.injEq,and_true] at ht;subst ht;refine af.mk (fun hb=>?_) (fun hb=>?_)
   ·obtain ⟨h3,h4⟩:=h1 hb;rw [kz (by omega)];refine ⟨2*root+2,rfl,.inr rfl,h3,x,y,m32,fun c z d A=>?_⟩;rcases (show c=2*root+1\/c=2*root+2 by omega) with rfl | rfl
    ·exact El.Ax h4
    ·exact El.le_refl _
   ·refine ⟨2*root+1,rfl,.inl rfl,by omega,x,y,m32,fun c z d A=>?_⟩;rcases (show c=2*root+1\/c=2*root+2 by omega) with rfl | rfl
    ·exact El.le_refl _
    ·exact h2 hb d
  ·rw [kz (by omega)];refine af.dec (fun j=>?_) (fun C=>⟨false,rfl,a5,W,B,by simp,fun _ h=>by omega⟩);rw [Oa (by omega),kz (by omega)];refine a5.cmp (by omega) (by omega) fun al K L M=>⟨_,rfl,K,L,B.trans M,fun h=>⟨by omega,?_⟩,fun h _=>?_⟩
   ·have:=of_decide_eq_true h;rw [El.fX] at this;exact this
   ·have:=of_decide_eq_false h;rw [El.fX] at this;exact El.wA this
theorem L6 {s:AS} {a:AV} {lo:Nat} {l:List (El E.O)} {rest:List AV} {x y:Nat} (h:jV s a lo l rest) (ad:x<y) (hy:y<=l.length) (hn:l.length<=2 ^ 40) :
  aa Tryz.prog E.mT [a,.int .i64 (x:Nat),.int .i64 (y:Nat),.func cf []] s fun r s'=>r=.aN []/\∃ l',jV s' a lo l' rest/\Sw x y l l'/\Dn l' x y/\bz [lo] s s':=by
 refine aa.pre fun hw=>SQ.sg _ _ _ _ _ _ ⟨fun vs s'=>∃ l',jV s' a lo l' rest/\aG s'/\Sw x y l l'/\DF l' x (y - x) 0/\bz [lo] s s',?_,by decide,?_⟩
 ·rintro s2 ⟨l1,a2,w2,z,I,m2⟩;have ae:=z.len;rw [DX (by omega) (by omega),kU (by omega) (by omega)];refine ⟨fun m vs s'=>∃ (i:Nat) (l':List (El E.O)),vs=[.int .i64 ((i:Int) - 1)]/\i<=y - x/\m=2*i/\jV s' a lo l' rest/\aG s'/\Sw x y l l'/\DF l' x i 0/\NX l' x y i/\bz [lo] s s',2*(y - x),⟨y - x,l1,by congr 2;omega,by omega,rfl,a2,w2,z,I,fun p q _ _ _ _=>by omega,m2⟩,?_⟩;rintro m n6 s7 ⟨i,H,hi,J,rfl,a7,w7,w,K,A,m7⟩;simp only [List.cons.injEq,AV.int.injEq,true_and,and_true] at hi;subst hi;have L:=w.len;refine af.dec (fun M=>?_) (fun Q=>?_)
  ·obtain ⟨j,rfl⟩:∃ j,i=j+1:=⟨i - 1,by omega⟩;rw [show (((j+1:Nat):Int) - 1)=(j:Int) by omega,Oa (by omega)];obtain ⟨t1,t2⟩:=A.swap (n:=j) (by omega) (by omega) K;refine a7.swap w7 (by omega) (by omega) fun uj R al S=>?_;have B:Sw x y l (B3 H x (x+j)):=.step w ⟨by omega,by omega⟩ ⟨by omega,by omega⟩ (by omega);refine aa.use (Du (k:=0) (n:=j) (f:=x) R (by rw [EJ];omega) (by rw [EJ];omega) (by omega) t2) ?_;rintro r dZ ⟨rfl,l3,U,d,C,W⟩ X;refine ⟨rfl,2*j,by omega,j,l3,by rw [sk (by omega)],by omega,rfl,U,X,B.trans (d.Vl (Nat.le_refl _) (by omega) (by rw [EJ];omega)),C,t1.sw d,(m7.trans S).trans W⟩
  ·obtain rfl:i=0:=by omega
   exact ⟨rfl,H,a7,w,fun p q h1 h2 h3=>A p q h1 h2 h3 (by omega),m7⟩
 ·rw [DX (by omega) (by omega),kU (by omega) (by omega),show (2:Int)=((2:Nat):Int) by rfl,Sz,wid (by omega)];refine ⟨fun m vs s'=>∃ (i:Nat) (l':List (El E.O)),vs=[.int .i64 ((i:Int) - 1)]/\i<=y - x/\m=2*i/\jV s' a lo l' rest/\aG s'/\Sw x y l l'/\DF l' x (y - x) i/\bz [lo] s s',2*((y - x - 1) / 2+1),⟨(y - x - 1) / 2+1,l,by congr 2;omega,by omega,rfl,h,hw,.refl _,fun c _ _ _=>by omega,bz.refl _ _⟩,?_⟩;rintro m am an ⟨i,H,hi,J,rfl,D,Y,b,e,F⟩;simp only [List.cons.injEq,AV.int.injEq,true_and,and_true] at hi;subst hi;have L:=b.len;refine af.dec (fun M=>?_) (fun Q=>?_)
  ·obtain ⟨j,rfl⟩:∃ j,i=j+1:=⟨i - 1,by omega⟩;rw [show (((j+1:Nat):Int) - 1)=(j:Int) by omega];refine aa.use (Du (k:=j) (n:=y - x) (f:=x) D (by omega) (by omega) (by omega) e) ?_;rintro r ao ⟨rfl,l3,Z,o,G,m32⟩ ab;refine ⟨rfl,2*j,by omega,j,l3,by rw [sk (by omega)],by omega,rfl,Z,ab,b.trans (by rw [show x+(y - x)=y by omega] at o;exact o),G,F.trans m32⟩
  ·obtain rfl:i=0:=by omega
   exact ⟨H,D,Y,b,e,F⟩
end
section
variable {cf:FuncId} [ry E cf]
theorem Ob {s:AS} {a:AV} {lo:Nat} {l:List (El E.O)} {rest:List AV} {x y:Nat} (h:jV s a lo l rest) (p:x<y) (D:y<=l.length) (F:l.length<=2 ^ 40) :
  aa Tryz.prog E.iY [a,.int .i64 (x:Nat),.int .i64 (y:Nat),.func cf []] s fun r s'=>r=.aN []/\∃ l',jV s' a lo l' rest/\Sw x y l l'/\bz [lo] s s':=by
 refine aa.pre fun w=>SQ.nL _ _ _ _ _ _ ⟨fun m vs s'=>∃ (i j:Nat) (l':List (El E.O)),vs=[.int .i64 (i:Nat),.int .i64 (j:Nat)]/\x<=i/\j<y/\i<=j+1/\m=j+1 - i/\jV s' a lo l' rest/\aG s'/\Sw x y l l'/\bz [lo] s s',y - 1+1 - x,⟨x,y - 1,l,by rw [kU (by omega) (by omega)],by omega,by omega,by omega,rfl,h,w,.refl _,bz.refl _ _⟩,?_⟩;rintro m G H s6 ⟨i,j,l1,c,I,hj,hle,rfl,n,z,b,o⟩;simp only [List.cons.injEq,AV.int.injEq,true_and,and_true] at c;obtain ⟨rfl,rfl⟩:=c;have A:=b.len;refine af.dec (fun B=>?_) (fun C=>⟨rfl,l1,n,b,o⟩);refine n.swap z (by omega) (by omega) fun eT d e k=>?_;rw [kz (by omega),kU (by omega) (by omega)];exact ⟨j - 1+1 - (i+1),by omega,i+1,j - 1,_,rfl,by omega,by omega,by omega,rfl,d,e,.step b ⟨by omega,by omega⟩ ⟨by omega,by omega⟩ (by omega),o.trans k⟩
structure Iu (L G:El E.O->El E.O->Prop) (s:AS) (a:AV) (lo:Nat) (rest:List AV) (l:List (El E.O)) (x y:Nat) (s':AS) (l':List (El E.O)) (i j:Nat):Prop where
 arr:jV s' a lo l' rest
 wf:aG s'
 sw:Sw x y l l'
 rF:JC L G l' x y i j
 eC:bz [lo] s s'
theorem Iu.to {L G:El E.O->El E.O->Prop} {s:AS} {a:AV} {lo:Nat} {rest:List AV} {l:List (El E.O)} {x y:Nat} {s' s'':AS} {l':List (El E.O)} {i j i' j':Nat} (h:Iu L G s a lo rest l x y s' l' i j) (b:jV s'' a lo l' rest) (c:aG s'') (m:bz [lo] s' s'') (d:JC L G l' x y i' j'):Iu L G s a lo rest l x y s'' l' i' j' :=
 ⟨b,c,h.sw,d,h.eC.trans m⟩
theorem JW {s:AS} {a:AV} {lo:Nat} {l:List (El E.O)} {rest:List AV} {x y p:Nat} (h:jV s a lo l rest) (hp:x<=p/\p<y) (hy:y<=l.length) (hn:l.length<=2 ^ 40) :
  aa Tryz.prog E.lO [a,.int .i64 (x:Nat),.int .i64 (y:Nat),.int .i64 (p:Nat),.func cf []] s fun r s'=>∃ (m:Nat) (b:Bool) (l':List (El E.O)),r=.aN [.int .i64 (m:Nat),.bool b]/\jV s' a lo l' rest/\Sw x y l l'/\FG l' x y m/\bz [lo] s s':=by
 refine aa.pre fun hw=>SQ.q_ _ _ _ _ _ _ _ ?_;refine h.swap hw (by omega) (by omega) fun dH a8 a9 a'=>?_;have al:Sw x y l (B3 l x p):=.step (.refl _) ⟨by omega,by omega⟩ hp hy;have fin:∀ s' l' i j,Iu Lt Ge s a lo rest l x y s' l' i j->j<i->∀ s'' ,jV s'' a lo (B3 l' j x) rest->bz [lo] s' s''->∀ b:Bool,∃ (m:Nat) (b':Bool) (l':List (El E.O)),AV.aN [.int .i64 (j:Nat),.bool b]=.aN [.int .i64 (m:Nat),.bool b']/\jV s'' a lo l' rest/\Sw x y l l'/\FG l' x y m/\bz [lo] s s'':=by
  intro s' l' i j st am s'' a2 m2 b;have:=st.rF.ij;have:=st.rF.xi;have:=st.rF.jy;have b9:=st.sw.len;exact ⟨j,b,_,rfl,a2,.step st.sw ⟨by omega,by omega⟩ ⟨by omega,by omega⟩ (by omega),st.rF.fin (by omega) am,st.eC.trans m2⟩
 have L:∀ {u v:El E.O},¬ u.cmp v<0->Ge u v:=fun h=>El.wA (by rw [<- El.fX];exact h);have M:∀ {u v:El E.O},u.cmp v<0->Lt u v:=fun h=>El.fX.1 h;refine ⟨fun vs s'=>∃ (i:Nat) (l':List (El E.O)),vs=[.int .i64 (i:Nat)]/\Iu Lt Ge s a lo rest l x y s' l' i (y - 1)/\(i<=y - 1->Ge (el l' i) (el l' x)),?_,?_⟩
 ·rintro ca gh ⟨i,l1,hi,F,an⟩;simp only [List.cons.injEq,AV.int.injEq,true_and,and_true] at hi;subst hi;have cb:=F.sw.len;have cc:=F.rF.xi;have cd:=F.rF.ij;refine ⟨fun vs s'=>∃ j:Nat,vs=[.int .i64 (j:Nat)]/\Iu Lt Ge s a lo rest l x y s' l1 i j/\(i<=j->Lt (el l1 j) (el l1 x)),?_,?_⟩
  ·rintro ce eT ⟨j,hj,d,ao⟩;simp only [List.cons.injEq,AV.int.injEq,true_and,and_true] at hj;subst hj;have ch:=d.rF.jy;have am:=d.rF.ij;refine af.dec (fun G=>?_) (fun hle=>?_)
   ·refine d.arr.swap d.wf (by omega) (by omega) fun ci ba ck bb=>fin _ _ _ _ d (by omega) _ ba bb true
   ·have bc:i≠j:=by
     rintro rfl;have h1:=an (by omega);have h2:=ao (by omega);rw [Lt] at h2;rw [Ge,El.le] at h1;rw [h1] at h2;cases h2
    refine d.arr.swap d.wf (by omega) (by omega) fun bd be bh bi=>?_;have ar:Iu Lt Ge s a lo rest l x y bd (B3 l1 i j) (i+1) (j - 1):=⟨be,bh,.step d.sw ⟨by omega,by omega⟩ ⟨by omega,by omega⟩ (by omega),d.rF.swap (by omega) (by omega) (ao (by omega)) (an (by omega)),d.eC.trans bi⟩;refine ⟨fun vs s'=>∃ (i j:Nat) (l':List (El E.O)),vs=[.int .i64 (j:Nat)]/\j<i/\Iu Lt Ge s a lo rest l x y s' l' i j,?_,?_⟩
    ·rintro cl cm ⟨i',j',l',aw,a0,w⟩;simp only [List.cons.injEq,AV.int.injEq,true_and,and_true] at aw;subst aw;have:=w.rF.jy;have:=w.rF.xi;have:=w.sw.len;refine w.arr.swap w.wf (by omega) (by omega) fun cn bj cp bk=>fin _ _ _ _ w a0 _ bj bk false
    ·rw [kz (by omega),kU (by omega) (by omega)];refine ⟨fun m vs s'=>∃ (i j:Nat) (l':List (El E.O)),vs=[.int .i64 (i:Nat),.int .i64 (j:Nat)]/\m=j+1 - i/\Iu Lt Ge s a lo rest l x y s' l' i j,_,⟨i+1,j - 1,_,rfl,rfl,ar⟩,?_⟩;rintro m cr cs cu ⟨i2,j2,Q,H,rfl,z⟩;simp only [List.cons.injEq,AV.int.injEq,true_and,and_true] at H;obtain ⟨rfl,rfl⟩:=H;have cv:=z.sw.len;have cw:=z.rF.xi;have bs:=z.rF.jy;have H:=z.rF.ij;refine ⟨fun vs s'=>∃ (i:Nat),vs=[.int .i64 (i:Nat)]/\i2<=i/\Iu Lt Ge s a lo rest l x y s' Q i j2/\(i<=j2->Ge (el Q i) (el Q x)),?_,?_⟩
     ·rintro cx Dt ⟨i3,A,I,J,a1⟩;simp only [List.cons.injEq,AV.int.injEq,true_and,and_true] at A;subst A;have a3:=J.rF.xi;have bx:=J.rF.ij;refine ⟨fun vs s'=>∃ j:Nat,vs=[.int .i64 (j:Nat)]/\j<=j2/\Iu Lt Ge s a lo rest l x y s' Q i3 j/\(i3<=j->Lt (el Q j) (el Q x)),?_,?_⟩
      ·rintro cy cz ⟨j3,B,K,n,a4⟩;simp only [List.cons.injEq,AV.int.injEq,true_and,and_true] at B;subst B;have R:=n.rF.jy;have b0:=n.rF.ij;refine af.dec (fun G=>⟨i3,j3,Q,rfl,by omega,n⟩) (fun hle=>?_);have bc:i3≠j3:=by
        rintro rfl;have h1:=a1 (by omega);have h2:=a4 (by omega);rw [Lt] at h2;rw [Ge,El.le] at h1;rw [h1] at h2;cases h2
       refine n.arr.swap n.wf (by omega) (by omega) fun cA bl bm bo=>?_;rw [kz (by omega),kU (by omega) (by omega)];exact ⟨j3 - 1+1 - (i3+1),by omega,i3+1,j3 - 1,_,rfl,rfl,bl,bm,.step n.sw ⟨by omega,by omega⟩ ⟨by omega,by omega⟩ (by omega),n.rF.swap (by omega) (by omega) (a4 (by omega)) (a1 (by omega)),n.eC.trans bo⟩
      ·refine ⟨fun m vs s'=>∃ j:Nat,vs=[.int .i64 (j:Nat)]/\j<=j2/\m=2*j/\Iu Lt Ge s a lo rest l x y s' Q i3 j,2*j2,⟨j2,rfl,by omega,rfl,J⟩,?_⟩;rintro m cB cC ⟨j3,B,K,rfl,o⟩;simp only [List.cons.injEq,AV.int.injEq,true_and,and_true] at B;subst B;have R:=o.rF.jy;refine af.dec (fun hle=>?_) (fun G=>⟨j3,rfl,K,o,fun h=>by omega⟩);refine o.arr.cmp (by omega) (by omega) fun c0 a5 a6 a7=>af.mk (fun C=>?_) (fun C=>?_)
       ·have D:=L (by simpa using C);rw [kU (by omega) (by omega)];exact ⟨2*(j3 - 1),by omega,j3 - 1,rfl,by omega,rfl,o.to a5 a6 a7 (o.rF.right (by omega) D)⟩
       ·have D:=M (by simpa using C);exact ⟨j3,rfl,K,o.to a5 a6 a7 o.rF,fun _=>D⟩
     ·refine ⟨fun m vs s'=>∃ i:Nat,vs=[.int .i64 (i:Nat)]/\i2<=i/\m=y - i/\Iu Lt Ge s a lo rest l x y s' Q i j2,y - i2,⟨i2,rfl,by omega,rfl,z⟩,?_⟩;rintro m c1 b1 ⟨i3,A,I,rfl,e⟩;simp only [List.cons.injEq,AV.int.injEq,true_and,and_true] at A;subst A;have a3:=e.rF.xi;refine af.dec (fun hle=>?_) (fun G=>⟨i3,rfl,I,e,fun h=>by omega⟩);refine e.arr.cmp (by omega) (by omega) fun b2 S U W=>af.dec (fun C=>?_) (fun C=>?_)
      ·rw [kz (by omega)];exact ⟨y - (i3+1),by omega,i3+1,rfl,by omega,rfl,e.to S U W (e.rF.left (by omega) (M C))⟩
      ·exact ⟨i3,rfl,I,e.to S U W e.rF,fun _=>L C⟩
  ·rw [kU (by omega) (by omega)];refine ⟨fun m vs s'=>∃ j:Nat,vs=[.int .i64 (j:Nat)]/\m=2*j/\Iu Lt Ge s a lo rest l x y s' l1 i j,2*(y - 1),⟨y - 1,rfl,rfl,F⟩,?_⟩;rintro m b3 b4 ⟨j3,B,rfl,k⟩;simp only [List.cons.injEq,AV.int.injEq,true_and,and_true] at B;subst B;have R:=k.rF.jy;refine af.dec (fun hle=>?_) (fun G=>⟨j3,rfl,k,fun h=>by omega⟩);refine k.arr.cmp (by omega) (by omega) fun b5 X Y Z=>af.mk (fun C=>?_) (fun C=>?_)
   ·have D:=L (by simpa using C);rw [kU (by omega) (by omega)];exact ⟨2*(j3 - 1),by omega,j3 - 1,rfl,rfl,k.to X Y Z (k.rF.right (by omega) D)⟩
   ·have D:=M (by simpa using C);exact ⟨j3,rfl,k.to X Y Z k.rF,fun _=>D⟩
 ·rw [kz (by omega),kU (by omega) (by omega)];refine ⟨fun m vs s'=>∃ i:Nat,vs=[.int .i64 (i:Nat)]/\m=y - i/\Iu Lt Ge s a lo rest l x y s' (B3 l x p) i (y - 1),y - (x+1),⟨x+1,rfl,rfl,a8,a9,al,JC.start (by omega),a'⟩,?_⟩;rintro m b6 b7 ⟨i3,A,rfl,c⟩;simp only [List.cons.injEq,AV.int.injEq,true_and,and_true] at A;subst A;have a3:=c.rF.xi;have c2:=c.sw.len;refine af.dec (fun hle=>?_) (fun G=>⟨i3,_,rfl,c,fun h=>by omega⟩);refine c.arr.cmp (by omega) (by omega) fun b8 ab ad ae=>af.dec (fun C=>?_) (fun C=>?_)
  ·rw [kz (by omega)];exact ⟨y - (i3+1),by omega,i3+1,rfl,rfl,c.to ab ad ae (c.rF.left (by omega) (M C))⟩
  ·exact ⟨i3,_,rfl,c.to ab ad ae c.rF,fun _=>L C⟩
end
section
variable {cf:FuncId} [ry E cf]
theorem QS {s:AS} {a:AV} {lo:Nat} {l:List (El E.O)} {rest:List AV} {x y p:Nat} (h:jV s a lo l rest) (hp:x<=p/\p<y) (hy:y<=l.length) (hn:l.length<=2 ^ 40) :
  aa Tryz.prog E.gX [a,.int .i64 (x:Nat),.int .i64 (y:Nat),.int .i64 (p:Nat),.func cf []] s fun r s'=>∃ (i j:Nat) (l':List (El E.O)),r=.int .i64 (i:Nat)/\jV s' a lo l' rest/\Sw x y l l'/\JC TY TZ l' x y i j/\j<i/\el l' x=el l p/\bz [lo] s s':=by
 refine aa.pre fun hw=>SQ.lZ _ _ _ _ _ _ _ ?_;refine h.swap hw (by omega) (by omega) fun dH ad ae al=>?_;have I:Sw x y l (B3 l x p):=.step (.refl _) ⟨by omega,by omega⟩ hp hy;have J:el (B3 l x p) x=el l p:=by
  rw [mC (by omega) (by omega)];split
  ·rename_i e;rw [e]
  ·rw [if_pos rfl]
 have K:∀ {u v:El E.O},¬ u.cmp v<0->TY v u:=fun h=>El.wA (by rw [<- El.fX];exact h);have L:∀ {u v:El E.O},u.cmp v<0->TZ v u:=fun h=>El.fX.1 h;rw [kz (by omega),kU (by omega) (by omega)];refine ⟨fun m vs s'=>∃ (i j:Nat) (l':List (El E.O)),vs=[.int .i64 (i:Nat),.int .i64 (j:Nat)]/\m=j+1 - i/\Iu TY TZ s a lo rest l x y s' l' i j/\el l' x=el l p,_,⟨x+1,y - 1,_,rfl,rfl,⟨ad,ae,I,JC.start (by omega),al⟩,J⟩,?_⟩;rintro m a2 a3 eT ⟨i2,F,C,n,rfl,k,D⟩;simp only [List.cons.injEq,AV.int.injEq,true_and,and_true] at n;obtain ⟨rfl,rfl⟩:=n;have a4:=k.sw.len;have a5:=k.rF.xi;have aw:=k.rF.jy;have n:=k.rF.ij;refine ⟨fun vs s'=>∃ (i:Nat),vs=[.int .i64 (i:Nat)]/\i2<=i/\Iu TY TZ s a lo rest l x y s' C i F/\(i<=F->TZ (el C i) (el C x)),?_,?_⟩
 ·rintro a6 gG ⟨i3,o,w,z,M⟩;simp only [List.cons.injEq,AV.int.injEq,true_and,and_true] at o;subst o;have am:=z.rF.xi;have a0:=z.rF.ij;refine ⟨fun vs s'=>∃ j:Nat,vs=[.int .i64 (j:Nat)]/\j<=F/\Iu TY TZ s a lo rest l x y s' C i3 j/\(i3<=j->TY (el C j) (el C x)),?_,?_⟩
  ·rintro a7 a8 ⟨j3,A,B,b,Q⟩;simp only [List.cons.injEq,AV.int.injEq,true_and,and_true] at A;subst A;have R:=b.rF.jy;have a1:=b.rF.ij;refine af.dec (fun S=>⟨i3,j3,C,rfl,b.arr,b.sw,b.rF,by omega,D,b.eC⟩) (fun hle=>?_);have a9:i3≠j3:=by
    rintro rfl;have h1:=M (by omega);have h2:=Q (by omega);rw [TZ] at h1;rw [TY,El.le] at h2;rw [h2] at h1;cases h1
   refine b.arr.swap b.wf (by omega) (by omega) fun oR an ao ar=>?_;rw [kz (by omega),kU (by omega) (by omega)];exact ⟨j3 - 1+1 - (i3+1),by omega,i3+1,j3 - 1,_,rfl,rfl,⟨an,ao,.step b.sw ⟨by omega,by omega⟩ ⟨by omega,by omega⟩ (by omega),b.rF.swap (by omega) (by omega) (Q (by omega)) (M (by omega)),b.eC.trans ar⟩,by rw [mC (by omega) (by omega),if_neg (by omega),if_neg (by omega)];exact D⟩
  ·refine ⟨fun m vs s'=>∃ j:Nat,vs=[.int .i64 (j:Nat)]/\j<=F/\m=2*j/\Iu TY TZ s a lo rest l x y s' C i3 j,2*F,⟨F,rfl,by omega,rfl,z⟩,?_⟩;rintro m a' ba ⟨j3,A,B,rfl,c⟩;simp only [List.cons.injEq,AV.int.injEq,true_and,and_true] at A;subst A;have R:=c.rF.jy;refine af.dec (fun hle=>?_) (fun S=>⟨j3,rfl,B,c,fun h=>by omega⟩);refine c.arr.cmp (by omega) (by omega) fun zf U W X=>af.dec (fun G=>?_) (fun G=>?_)
   ·rw [kU (by omega) (by omega)];exact ⟨2*(j3 - 1),by omega,j3 - 1,rfl,by omega,rfl,c.to U W X (c.rF.right (by omega) (L G))⟩
   ·exact ⟨j3,rfl,B,c.to U W X c.rF,fun _=>K G⟩
 ·refine ⟨fun m vs s'=>∃ i:Nat,vs=[.int .i64 (i:Nat)]/\i2<=i/\m=y - i/\Iu TY TZ s a lo rest l x y s' C i F,y - i2,⟨i2,rfl,by omega,rfl,k⟩,?_⟩;rintro m bb bc ⟨i3,o,w,rfl,d⟩;simp only [List.cons.injEq,AV.int.injEq,true_and,and_true] at o;subst o;have am:=d.rF.xi;refine af.dec (fun hle=>?_) (fun S=>⟨i3,rfl,w,d,fun h=>by omega⟩);refine d.arr.cmp (by omega) (by omega) fun bd Y Z ab=>af.mk (fun G=>?_) (fun G=>?_)
  ·have H:=K (by simpa using G);rw [kz (by omega)];exact ⟨y - (i3+1),by omega,i3+1,rfl,by omega,rfl,d.to Y Z ab (d.rF.left (by omega) H)⟩
  ·have H:=L (by simpa using G);exact ⟨i3,rfl,w,d.to Y Z ab d.rF,fun _=>H⟩
structure ER (s:AS) (a:AV) (lo:Nat) (rest:List AV) (l:List (El E.O)) (x y:Nat) (s':AS) (l':List (El E.O)):Prop where
 arr:jV s' a lo l' rest
 wf:aG s'
 sw:Sw x y l l'
 eC:bz [lo] s s'
theorem ER.to {s:AS} {a:AV} {lo:Nat} {rest:List AV} {l:List (El E.O)} {x y:Nat} {s' s'':AS} {l':List (El E.O)} (h:ER s a lo rest l x y s' l') (b:jV s'' a lo l' rest) (c:aG s'') (m:bz [lo] s' s''):ER s a lo rest l x y s'' l':=⟨b,c,h.sw,h.eC.trans m⟩
theorem ER.swap {s:AS} {a:AV} {lo:Nat} {rest:List AV} {l:List (El E.O)} {x y:Nat} {s' s'':AS} {l':List (El E.O)} {i j:Nat} (h:ER s a lo rest l x y s' l') (b:y<=l.length) (hi:x<=i/\i<y) (hj:x<=j/\j<y) (c:jV s'' a lo (B3 l' i j) rest) (d:aG s'') (m:bz [lo] s' s''):ER s a lo rest l x y s'' (B3 l' i j) :=
 ⟨c,d,.step h.sw hi hj (by rw [h.sw.len];exact b),h.eC.trans m⟩
theorem SA {l:List (El E.O)} {x i:Nat} (h:Dn l x i) (c:x<i) (hle:(el l (i - 1)).le (el l i)):Dn l x (i+1):=by
 intro p q b h2 h3;by_cases e:q=i
 ·subst e;by_cases e2:p=q - 1
  ·rw [e2];exact hle
  ·exact El.le_trans (h p (q - 1) b (by omega) (by omega)) hle
 ·exact h p q b h2 (by omega)
theorem SB {l l':List (El E.O)} {x y:Nat} (h:Sw x y l l') (b:0<x->∀ q,x<=q->q<y->(el l (x - 1)).le (el l q)):0<x->∀ q,x<=q->q<y->(el l' (x - 1)).le (el l' q):=by
 intro c q d h2;obtain ⟨j,hj,e⟩:=h.mem (k:=q) ⟨d,h2⟩;rw [h.out (.inl (by omega)),e];exact b c j hj.1 hj.2
theorem Oc {s:AS} {a:AV} {lo:Nat} {l:List (El E.O)} {rest:List AV} {x y:Nat} (h:jV s a lo l rest) (bd:x<y) (hy:y<=l.length) (hn:l.length<=2 ^ 40) (R:0<x->∀ q,x<=q->q<y->(el l (x - 1)).le (el l q)) :
  aa Tryz.prog E.eY [a,.int .i64 (x:Nat),.int .i64 (y:Nat),.func cf []] s fun r s'=>∃ (b:Bool) (l':List (El E.O)),r=.bool b/\ER s a lo rest l x y s' l'/\(b=true->Dn l' x y):=by
 have w0:aG s->ER s a lo rest l x y s l:=fun hw=>⟨h,hw,.refl _,bz.refl _ _⟩;refine aa.pre fun hw=>SQ.ic _ _ _ _ _ _ ?_;rw [h_,kz (by omega)];refine ⟨fun m vs s'=>∃ (i k:Nat) (l':List (El E.O)),vs=[.int .i64 (i:Nat),.int .i64 (k:Nat)]/\k<=5/\m=5 - k/\x+1<=i/\i<=y/\ER s a lo rest l x y s' l'/\Dn l' x i,5,⟨x+1,0,l,rfl,by omega,rfl,by omega,by omega,w0 hw,fun p q _ _ _=>by omega⟩,?_⟩;rintro m n4 n5 s6 ⟨i0,k,l1,S,hk,rfl,an,ao,U,ar⟩;simp only [List.cons.injEq,AV.int.injEq,true_and,and_true] at S;obtain ⟨rfl,rfl⟩:=S;refine af.dec (fun bc=>?_) (fun _=>⟨false,l1,rfl,U,by simp⟩);refine ⟨fun vs s'=>∃ (i:Nat) (l':List (El E.O)),vs=[.int .i64 (i:Nat)]/\x+1<=i/\i<=y/\ER s a lo rest l x y s' l'/\Dn l' x i/\(i<y->(el l' i).lt (el l' (i - 1))=true),?_,?_⟩
 ·rintro n8 s9 ⟨i,l2,hi,F,G,n,W,g9⟩;simp only [List.cons.injEq,AV.int.injEq,true_and,and_true] at hi;subst hi;have be:=n.sw.len;refine af.mk (fun he=>?_) (fun aw=>?_)
  ·have:i=y:=by simp at he;omega
   subst this;exact ⟨true,l2,rfl,n,fun _=>W⟩
  have a0:i<y:=by simp at aw;omega
  rw [DX (by omega) (by omega)];refine af.dec (fun _=>⟨false,l2,rfl,n,by simp⟩) (fun _=>?_);rw [kU (by omega) (by omega)];refine n.arr.swap n.wf (by omega) (by omega) fun gG a1 a2 a3=>?_;have z:=n.swap hy ⟨by omega,by omega⟩ ⟨by omega,by omega⟩ a1 a2 a3;have X:∀ p q,x<=p->p<q->q<=i - 1->q≠i - 1->(el (B3 l2 i (i - 1)) p).le (el (B3 l2 i (i - 1)) q):=by
   intro p q A h2 h3 h4;rw [mC (by omega) (by omega),mC (by omega) (by omega),if_neg (by omega),if_neg (by omega),if_neg (by omega),if_neg (by omega)];exact W p q A h2 (by omega)
  have next:∀ s' l',ER s a lo rest l x y s' l'->Dn l' x i->∃ m',m'<5 - k/\∃ (i' k':Nat) (l':List (El E.O)),[AV.int .i64 (i:Nat),.int .i64 (IntKind.wrap .i64 ((k:Int)+1))]=[.int .i64 (i':Nat),.int .i64 (k':Nat)]/\k'<=5/\m'=5 - k'/\x+1<=i'/\i'<=y/\ER s a lo rest l x y s' l'/\Dn l' x i' :=
   fun s' l' A h2=>⟨5 - (k+1),by omega,i,k+1,l',by rw [kz (by omega)],by omega,rfl,by omega,by omega,A,h2⟩
  refine ⟨fun vs s'=>∃ l',ER s a lo rest l x y s' l'/\Dn l' x i,?_,?_⟩
  ·rintro uj ⟨l3,B,C⟩;rw [DX (by omega) (by omega)];refine af.dec (fun _=>?_) (fun _=>next _ _ B C);rw [kz (by omega)];refine ⟨fun m vs s'=>∃ (j:Nat) (l':List (El E.O)),vs=[.int .i64 (j:Nat)]/\i+1<=j/\m=y - j/\ER s a lo rest l x y s' l'/\Dn l' x i,y - (i+1),⟨i+1,l3,rfl,by omega,rfl,B,C⟩,?_⟩;rintro m bh bi ⟨j,H,hj,bj,rfl,d,o⟩;simp only [List.cons.injEq,AV.int.injEq,true_and,and_true] at hj;subst hj;have a4:=d.sw.len;refine af.dec (fun bk=>?_) (fun _=>next _ _ d o);rw [kU (by omega) (by omega)];refine d.arr.cmp (by omega) (by omega) fun oR I J Y=>af.mk (fun _=>next _ _ (d.to I J Y) o) (fun _=>?_);refine I.swap J (by omega) (by omega) fun zf a5 a6 a7=>?_;rw [kz (by omega)];refine ⟨y - (j+1),by omega,j+1,_,rfl,by omega,rfl,(d.to I J Y).swap hy ⟨by omega,by omega⟩ ⟨by omega,by omega⟩ a5 a6 a7,fun p q A h2 h3=>?_⟩;rw [mC (by omega) (by omega),mC (by omega) (by omega),if_neg (by omega),if_neg (by omega),if_neg (by omega),if_neg (by omega)];exact o p q A h2 h3
  ·rw [DX (by omega) (by omega)];refine af.dec (fun h2=>?_) (fun h2=>⟨_,z,fun p q A h2 h3=>by omega⟩);refine ⟨fun m vs s'=>∃ (j:Nat) (l':List (El E.O)),vs=[.int .i64 (j:Nat)]/\x<=j/\j<=i - 1/\m=2*j/\ER s a lo rest l x y s' l'/\(∀ p q,x<=p->p<q->q<=i - 1->q≠j->(el l' p).le (el l' q)),2*(i - 1),⟨i - 1,_,rfl,by omega,by omega,rfl,z,X⟩,?_⟩;rintro m bl bm ⟨j,H,hj,a8,Z,rfl,c,D⟩;simp only [List.cons.injEq,AV.int.injEq,true_and,and_true] at hj;subst hj;have a4:=c.sw.len;have fin:∀ s',ER s a lo rest l x y s' H->(j=x\/(el H (j - 1)).le (el H j))->∃ l',ER s a lo rest l x y s' l'/\Dn l' x i:=by
    intro s' A h2;have:=JB a8 Z h2 D;rw [show i - 1+1=i by omega] at this;exact ⟨H,A,this⟩
   refine af.dec (fun a9=>?_) (fun a9=>fin _ c (.inl (by omega)));rw [kU (by omega) (by omega)];refine c.arr.cmp (by omega) (by omega) fun bo K L ab=>af.mk (fun M=>fin _ (c.to K L ab) (.inr (El.wA (by rw [<- El.fX];simpa using M)))) (fun M=>?_);have Q:(el H j).lt (el H (j - 1))=true:=by rw [<- El.fX];simpa using M
   have ad:x<j:=by
    rcases Nat.lt_or_ge x j with h' | h'
    ·exact h'
    ·exfalso;obtain rfl:x=j:=by omega
     have:=SB c.sw R (by omega) x (by omega) (by omega);rw [El.le] at this;rw [this] at Q;cases Q
   refine K.swap L (by omega) (by omega) fun bs a' ba bb=>?_;exact ⟨2*(j - 1),by omega,j - 1,_,rfl,by omega,by omega,rfl,(c.to K L ab).swap hy ⟨by omega,by omega⟩ ⟨by omega,by omega⟩ a' ba bb,Ly (by omega) ad Z Q D⟩
 ·refine ⟨fun m vs s'=>∃ (i:Nat),vs=[.int .i64 (i:Nat)]/\x+1<=i/\i<=y/\m=y - i/\ER s a lo rest l x y s' l1/\Dn l1 x i,y - i0,⟨i0,rfl,an,ao,rfl,U,ar⟩,?_⟩;rintro m bx b0 ⟨i,hi,F,G,rfl,e,w⟩;simp only [List.cons.injEq,AV.int.injEq,true_and,and_true] at hi;subst hi;have b1:=e.sw.len;refine af.dec (fun a0=>?_) (fun b2=>⟨i,l1,rfl,F,G,e,w,fun h=>by omega⟩);rw [kU (by omega) (by omega)];refine e.arr.cmp (by omega) (by omega) fun b3 ae al am=>af.mk (fun M=>?_) (fun M=>?_)
  ·rw [kz (by omega)];exact ⟨y - (i+1),by omega,i+1,rfl,by omega,by omega,rfl,e.to ae al am,SA w (by omega) (El.wA (by rw [<- El.fX];simpa using M))⟩
  ·exact ⟨i,l1,rfl,F,G,e.to ae al am,w,fun _=>by rw [<- El.fX];simpa using M⟩
end
section
variable {cf:FuncId} [ry E cf]
noncomputable def PA (x:Nat):Bool:=match ju T bX (.str [0,1,2,2,3,3,3,3,4,4,4,4,4,4,4,4,5,5,5,5,5,5,5,5,5,5,5,5,5,5,5,5,6,6,6,6,6,6,6,6,6,6,6,6,6,6,6,6,6,6,6,6,6,6,6,6,6,6,6,6,6,6,6,6,7,7,7,7,7,7,7,7,7,7,7,7,7,7,7,7,7,7,7,7,7,7,7,7,7,7,7,7,7,7,7,7,7,7,7,7,7,7,7,7,7,7,7,7,7,7,7,7,7,7,7,7,7,7,7,7,7,7,7,7,7,7,7,7,8,8,8,8,8,8,8,8,8,8,8,8,8,8,8,8,8,8,8,8,8,8,8,8,8,8,8,8,8,8,8,8,8,8,8,8,8,8,8,8,8,8,8,8,8,8,8,8,8,8,8,8,8,8,8,8,8,8,8,8,8,8,8,8,8,8,8,8,8,8,8,8,8,8,8,8,8,8,8,8,8,8,8,8,8,8,8,8,8,8,8,8,8,8,8,8,8,8,8,8,8,8,8,8,8,8,8,8,8,8,8,8,8,8,8,8,8,8,8,8,8,8,8,8,8,8,8,8]) (.int .u8 (IntKind.wrap .u8 (x:Nat))) with
 | some (.int .u8 k)=>decide (0<=k/\k<=8/\(x=0\/(x<2 ^ k.toNat/\2 ^ k.toNat<=2*x)))
 | _=>false
theorem SC:(List.range 256).all PA=true:=by kernel_rfl
theorem SD {x:Nat} (h:x<256):∃ k:Nat,ju T bX (.str [0,1,2,2,3,3,3,3,4,4,4,4,4,4,4,4,5,5,5,5,5,5,5,5,5,5,5,5,5,5,5,5,6,6,6,6,6,6,6,6,6,6,6,6,6,6,6,6,6,6,6,6,6,6,6,6,6,6,6,6,6,6,6,6,7,7,7,7,7,7,7,7,7,7,7,7,7,7,7,7,7,7,7,7,7,7,7,7,7,7,7,7,7,7,7,7,7,7,7,7,7,7,7,7,7,7,7,7,7,7,7,7,7,7,7,7,7,7,7,7,7,7,7,7,7,7,7,7,8,8,8,8,8,8,8,8,8,8,8,8,8,8,8,8,8,8,8,8,8,8,8,8,8,8,8,8,8,8,8,8,8,8,8,8,8,8,8,8,8,8,8,8,8,8,8,8,8,8,8,8,8,8,8,8,8,8,8,8,8,8,8,8,8,8,8,8,8,8,8,8,8,8,8,8,8,8,8,8,8,8,8,8,8,8,8,8,8,8,8,8,8,8,8,8,8,8,8,8,8,8,8,8,8,8,8,8,8,8,8,8,8,8,8,8,8,8,8,8,8,8,8,8,8,8,8,8]) (.int .u8 (IntKind.wrap .u8 (x:Nat)))=some (.int .u8 (k:Nat))/\k<=8/\(x=0\/(x<2 ^ k/\2 ^ k<=2*x)):=by
 have:=List.all_eq_true.1 SC x (List.mem_range.2 h);unfold PA at this;split at this
 ·rename_i k b;obtain ⟨c,h2,h3⟩:=of_decide_eq_true this;refine ⟨k.toNat,?_,by omega,h3⟩;rw [b,Int.toNat_of_nonneg c]
 ·cases this
theorem Od {x:Nat} (m:x<65536) (s:AS):aa Tryz.prog lC [.int .u64 (x:Nat)] s fun r s'=>∃ k:Nat,r=.int .i64 (k:Nat)/\k<=16/\(0<x->x<2 ^ k/\2 ^ k<=2*x)/\s'=s:=by
 refine DQ _ _ _ ?_
 suffices h:aa Tryz.prog mN [.int .u64 (x:Nat)] s fun r s'=>∃ k:Nat,r=.int .i64 (k:Nat)/\k<=16/\(0<x->x<2 ^ k/\2 ^ k<=2*x)/\s'=s from
  h.mono (by rintro r s' ⟨k,rfl,c,h2,rfl⟩;exact ⟨_,rfl,k,rfl,c,h2,rfl⟩)
 refine AM _ _ _ ⟨fun vs s'=>vs=[.int .u64 (x:Nat),.int .i64 0]/\s'=s,?_,af.dec (fun h=>by omega) (fun _=>⟨rfl,rfl⟩)⟩;rintro n2 o s4 ⟨hv,rfl⟩;simp only [List.cons.injEq,AV.int.injEq,true_and,and_true] at hv;obtain ⟨rfl,rfl⟩:=hv;refine ⟨fun vs s'=>vs=[.int .u64 (x:Nat),.int .i64 0]/\s'=s4,?_,af.dec (fun h=>by omega) (fun _=>⟨rfl,rfl⟩)⟩;rintro p z s8 ⟨hv,rfl⟩;simp only [List.cons.injEq,AV.int.injEq,true_and,and_true] at hv;obtain ⟨rfl,rfl⟩:=hv;refine ⟨fun vs s'=>∃ y b:Nat,vs=[.int .u64 (y:Nat),.int .i64 (b:Nat)]/\y<256/\((b=0/\y=x)\/(b=8/\y=x / 256/\0<y))/\s'=s8,?_,af.dec (fun h=>⟨by decide,x / 256,8,?_,by omega,.inr ⟨rfl,rfl,by omega⟩,rfl⟩) (fun h=>⟨x,0,rfl,by omega,.inl ⟨rfl,rfl⟩,rfl⟩)⟩
 ·rintro d e dH ⟨y,b,hv,i,hb,rfl⟩;simp only [List.cons.injEq,AV.int.injEq,true_and,and_true] at hv;obtain ⟨rfl,rfl⟩:=hv;obtain ⟨k,j,c,h2⟩:=SD i;refine ⟨_,j,b+k,?_,by omega,fun A=>?_,rfl⟩
  ·rw [aX (n:=(k:Int)) (by omega),aX (by omega)];rfl
  ·rcases hb with ⟨rfl,rfl⟩ | ⟨rfl,l,h3⟩
   ·rw [Nat.zero_add];omega
   ·rw [Nat.pow_add];rcases h2 with h2 | ⟨h2,h4⟩
    ·omega
    ·generalize 2 ^ k=w at h2 h4 ⊢;omega
 ·have:Int.fdiv (x:Int) (2 ^ min (Int.toNat 8) (IntKind.bits .u64))=((x / 256:Nat):Int):=by
   show Int.fdiv (x:Int) ((256:Nat):Int)=_;rw [Int.fdiv_eq_ediv_of_nonneg _ (by omega)];rfl
  rw [this];rfl
theorem Uu {x:Nat} (c:x<65536) (d:0<x) (s:AS):aa Tryz.prog gU [.int .i64 (x:Nat)] s fun r s'=>∃ k:Nat,r=.int .u64 ((2 ^ k:Nat):Int)/\k<=16/\x<2 ^ k/\2 ^ k<=2*x/\s'=s:=by
 refine tM _ _ _ ?_;rw [lX,gJ (by omega)];refine (Od c s).mono ?_;rintro r s' ⟨k,rfl,b,h2,rfl⟩;obtain ⟨h3,h4⟩:=h2 d;refine ⟨_,rfl,by omega,k,?_,b,h3,h4,rfl⟩;have e:min (Int.toNat (k:Int)) (IntKind.bits .u64)=k:=by
  rw [Int.toNat_natCast];exact Nat.min_eq_left (Nat.le_trans b (by decide))
 rw [e,Int.one_mul,gJ]
 ·rw [Int.natCast_pow];rfl
 ·have:(2:Int) ^ k=((2 ^ k:Nat):Int):=by rw [Int.natCast_pow];rfl
  rw [this];omega
theorem SF (n m:Int):∃ w:Int,bD .xor .u64 n m=some (.int .u64 w):=⟨_,rfl⟩
theorem aU.xor {n m:Int} {K:Int->Prop} (h:∀ w:Int,K w):aU .u64 (bD .xor .u64 n m) K:=⟨_,(SF n m).choose_spec,h _⟩
theorem SH {s:AS} {q:Nat} {b:AV} {w:Int} {K:AS->Prop} (c:aG s) (d:Am.Own s q [b]) (h:∀ s',Am.Own s' q [.int .u64 w]->aG s'->bz [q] s s'->K s'):ai (some (q,0)) fun l o=>bu (cU s l o [.int .u64 w]) K :=
 bu.own c d (by simp) fun s' P=>h s' P.at P.wf P.mut
theorem V1 {s:AS} {q:Nat} {n:Int} {K:Int->Prop} (b:Am.Own s q [.int .u64 n]) (h:K n):ai (some (q,0)) fun l o=>aU .u64 (au s l o) K:=⟨n,by rw [b.at.au];rfl,h⟩
set_option maxRecDepth 100000 in
theorem SJ {s:AS} {q:Nat} {n:Int} (h:Am.Own s q [.int .u64 n]):aa Tryz.prog iF [.ptr (some (q,0))] s fun r s'=>∃ m m':Int,r=.int .u64 m/\Am.Own s' q [.int .u64 m']/\bz [q] s s':=by
 refine aa.pre fun o=>uU _ _ _ ?_;refine V1 h ?_;refine V1 h ?_;refine ⟨by decide,?_⟩;refine aU.xor fun w=>?_
 try dsimp only
 refine SH (w:=w) o h fun p b e i=>?_;refine V1 b ?_;refine V1 b ?_;refine ⟨by decide,?_⟩;refine aU.xor fun w=>?_
 try dsimp only
 refine SH (w:=w) e b fun gy c j k=>?_;refine V1 c ?_;refine V1 c ?_;refine ⟨by decide,?_⟩;refine aU.xor fun w=>?_
 try dsimp only
 refine SH (w:=w) j c fun x d y l=>?_;exact V1 d ⟨_,_,rfl,d,(i.trans k).trans l⟩
theorem QT {n:Int} {k:Nat} (b:k<=16):∃ w:Nat,bD .and .u64 n (IntKind.wrap .u64 (((2 ^ k:Nat):Int) - 1))=some (.int .u64 (w:Nat))/\w<2 ^ k:=by
 have c:0<2 ^ k:=Nat.pow_pos (by omega);have h2:2 ^ k<=65536:=Nat.le_trans (Nat.pow_le_pow_right (by omega) b) (by decide);refine ⟨(BitVec.ofInt 64 n &&& BitVec.ofInt 64 (((2 ^ k - 1:Nat):Int))).toNat,?_,?_⟩
 ·rw [gJ (by omega)];rw [show (((2 ^ k:Nat):Int) - 1)=((2 ^ k - 1:Nat):Int) by omega];have key:∀ z:BitVec 64,IntKind.wrap .u64 (z.toNat:Int)=(z.toNat:Int):=fun z=>gJ ⟨by omega,by have:=z.isLt;omega⟩;exact congrArg (fun u=>some (AV.int .u64 u)) (key (BitVec.ofInt 64 n &&& BitVec.ofInt 64 (((2 ^ k - 1:Nat):Int))))
 ·rw [BitVec.toNat_and];have h3:=@Nat.and_le_right (BitVec.ofInt 64 n).toNat (BitVec.ofInt 64 (((2 ^ k - 1:Nat):Int))).toNat;have h4:(BitVec.ofInt 64 (((2 ^ k - 1:Nat):Int))).toNat=2 ^ k - 1:=by
   rw [BitVec.ofInt_natCast,BitVec.toNat_ofNat];exact Nat.mod_eq_of_lt (by omega)
  omega
theorem SL {s:AS} {a:AV} {lo:Nat} {l:List (El E.O)} {rest:List AV} {x y:Nat} (h:jV s a lo l rest) (U:x<y) (W:y<=l.length) (hn:l.length<65536) :
  aa Tryz.prog E.iH [a,.int .i64 (x:Nat),.int .i64 (y:Nat),.func cf []] s fun r s'=>r=.aN []/\∃ l',ER s a lo rest l x y s' l':=by
 refine aa.pre fun R=>SQ.mV _ _ _ _ _ _ ?_;have C:s.h lo≠none:=by obtain ⟨_,g,h2⟩:=h;rw [h2];simp
 rw [mU,DX (by omega) (by omega)];refine af.dec (fun h8=>?_) (fun _=>⟨rfl,l,h,R,.refl _,bz.refl _ _⟩);refine aj.intro R rfl fun q s2 F=>bu.own F.wf F.own (by simp) fun s3 P=>?_;have X:Am.Own s3 q [_]:=P.at;have D:q≠lo:=by rintro rfl;exact C F.no
 have a3:jV s3 a lo l rest:=(h.ext F.ext).mut P.mut (by simp;exact fun e=>D e.symm);have Y:bz [lo] s s3:=⟨fun z o S j=>by
  have:=F.ext.1 z o j;exact P.mut.1 z o (by simp;rintro rfl;rw [F.no] at j;cases j) this,Nat.le_trans F.ext.2 P.mut.2⟩
 refine aa.use (Uu (x:=y - x) (by omega) (by omega) s3) ?_;rintro r s5 ⟨k,rfl,Z,ab,ad,rfl⟩ G;refine ⟨_,rfl,by decide,?_⟩;rw [show (4:Int)=((4:Nat):Int) by rfl,Sz,wid (by omega),show (((y - x) / 4:Nat):Int)*2=(((y - x) / 4*2:Nat):Int) by omega,wid (by omega),Oa (by omega),kU (by omega) (by omega),kz (by omega)];generalize hd:x+(y - x) / 4*2=d;refine ⟨fun m vs s'=>∃ (i:Nat) (l':List (El E.O)) (v:Int),vs=[.int .i64 (i:Nat)]/\d - 1<=i/\m=d+2 - i/\Am.Own s' q [.int .u64 v]/\ER s a lo rest l x y s' l',d+2 - (d - 1),⟨d - 1,l,_,rfl,by omega,rfl,X,a3,G,.refl _,Y⟩,?_⟩;rintro m ae al ⟨i,l1,v,hi,am,rfl,H,b⟩;simp only [List.cons.injEq,AV.int.injEq,true_and,and_true] at hi;subst hi;have an:=b.sw.len;refine ⟨by decide,af.dec (fun hle=>?_) (fun _=>⟨rfl,l1,b⟩)⟩;refine aa.use (SJ H) ?_;rintro r bW ⟨w1,w2,rfl,I,p⟩ A;have J:jV bW a lo l1 rest:=b.arr.mut p (by simp;exact fun e=>D e.symm);have K:bz [lo] s bW:=⟨fun z o S j=>p.1 z o (by simp;rintro rfl;rw [F.no] at j;cases j) (b.eC.1 z o S j),Nat.le_trans b.eC.2 p.2⟩;have c:ER s a lo rest l x y bW l1:=⟨J,A,b.sw,K⟩;obtain ⟨w,L,ao⟩:=QT (n:=w1) Z;refine ⟨_,rfl,_,L,?_⟩;show bG _;rw [wid (by omega)];refine ⟨fun vs s'=>s'=bW/\∃ t:Nat,vs=[.int .i64 (t:Nat)]/\t<y - x,?_,af.dec (fun ar=>⟨rfl,w - (y - x),by rw [DX (by omega) (by omega)],by omega⟩) (fun aw=>⟨rfl,w,rfl,by omega⟩)⟩;rintro a0 jl ⟨rfl,t,ht,a1⟩;simp only [List.cons.injEq,AV.int.injEq,true_and,and_true] at ht;subst ht;rw [Oa (by omega)];refine c.arr.swap c.wf (by omega) (by omega) fun nK M Q B=>?_;rw [kz (by omega)];exact ⟨d+2 - (i+1),by omega,i+1,_,_,rfl,by omega,rfl,I.mut B (by simpa using D),c.swap W ⟨by omega,by omega⟩ ⟨by omega,by omega⟩ M Q B⟩
end
section
variable {cf:FuncId} [ry E cf]
theorem PB {L b:List Nat} {s s':AS} (h:bz L s s') (hs:∀ x∈L,x∈b):bz b s s':=⟨fun x o c d=>h.1 x o (fun hm=>c (hs x hm)) d,h.2⟩
structure Ct (s:AS) (a:AV) (lo:Nat) (l:List (El E.O)) (rest:List AV) (q:Nat) (s':AS):Prop where
 ne:q≠lo
 own:∃ c:Int,Am.Own s' q [.int .i64 c]
 arr:jV s' a lo l rest
 wf:aG s'
 eC:bz [q,lo] s s'
section
variable {s s0:AS} {a:AV} {lo:Nat} {l:List (El E.O)} {rest:List AV} {q:Nat}
theorem Cw (h:Ct s0 a lo l rest q s) {x y:Nat} (m:x<l.length) (n:y<l.length) :
  aa Tryz.prog E.iQ [a,.int .i64 (x:Nat),.int .i64 (y:Nat),.ptr (some (q,0)),.func cf []] s fun r s'=>∃ u v:Nat,r=.aN [.int .i64 (u:Nat),.int .i64 (v:Nat)]/\(u=x\/u=y)/\(v=x\/v=y)/\Ct s0 a lo l rest q s':=by
 refine SQ.vE _ _ _ _ _ _ _ ?_;refine h.arr.cmp n m fun s8 d i j=>?_;obtain ⟨c,o⟩:=h.own;have b:Am.Own s8 q _:=o.mut j (by simpa using h.ne);have k:bz [q,lo] s0 s8:=h.eC.trans (PB j (by simp));refine af.dec (fun _=>?_) (fun _=>⟨x,y,rfl,.inl rfl,.inr rfl,h.ne,⟨c,b⟩,d,i,k⟩);refine ⟨c,by rw [b.at.au];rfl,bu.own i b (by simp) fun gh P=>⟨y,x,rfl,.inr rfl,.inl rfl,h.ne,⟨_,P.at⟩,d.mut P.mut (by simp;exact fun e=>h.ne e.symm),P.wf,k.trans (PB P.mut (by simp))⟩⟩
theorem Iw (h:Ct s0 a lo l rest q s) {x y z:Nat} (c:x<l.length) (d:y<l.length) (e:z<l.length) :
  aa Tryz.prog E.lE [a,.int .i64 (x:Nat),.int .i64 (y:Nat),.int .i64 (z:Nat),.ptr (some (q,0)),.func cf []] s fun r s'=>∃ u:Nat,r=.int .i64 (u:Nat)/\(u=x\/u=y\/u=z)/\Ct s0 a lo l rest q s':=by
 refine SQ.vD _ _ _ _ _ _ _ _ ?_;refine (Cw h c d).mono ?_;rintro r s2 ⟨B,C,rfl,i,j,h2⟩;refine ⟨_,_,rfl,(Cw h2 (by omega) e).mono ?_⟩;rintro r s6 ⟨D,F,rfl,k,m,n⟩;refine ⟨_,_,rfl,(Cw n (by omega) (by omega)).mono ?_⟩;rintro r o ⟨G,p,rfl,w,A,b⟩;exact ⟨_,_,rfl,p,rfl,by omega,b⟩
theorem Cx (h:Ct s0 a lo l rest q s) {x:Nat} (c:1<=x) (d:x+1<l.length) (e:l.length<65536) :
  aa Tryz.prog E.dU [a,.int .i64 (x:Nat),.ptr (some (q,0)),.func cf []] s fun r s'=>∃ u:Nat,r=.int .i64 (u:Nat)/\(x<=u+1/\u<=x+1)/\Ct s0 a lo l rest q s':=by
 refine SQ.l_ _ _ _ _ _ _ ?_;rw [lY,kU (by omega) (by omega),kz (by omega)];refine (Iw h (by omega) (by omega) (by omega)).mono ?_;rintro r s' ⟨u,rfl,hu,b⟩;exact ⟨_,rfl,u,rfl,by omega,b⟩
theorem QU {x y:Nat} (h:jV s a lo l rest) (K:x<y) (W:y<=l.length) (e:l.length<65536) :
  aa Tryz.prog E.jO [a,.int .i64 (x:Nat),.int .i64 (y:Nat),.func cf []] s fun r s'=>∃ (p:Nat) (t:Int),r=.aN [.int .i64 (p:Nat),.int .i64 t]/\(x<=p/\p<y)/\jV s' a lo l rest/\bz [lo] s s':=by
 have m:s.h lo≠none:=by obtain ⟨_,g,h2⟩:=h;rw [h2];simp
 refine aa.pre fun L=>SQ.pD _ _ _ _ _ _ (aj.intro L rfl fun q s2 F=>⟨by decide,by decide,by decide,?_⟩);have M:q≠lo:=by rintro rfl;exact m F.no
 have c2:Ct s2 a lo l rest q s2:=⟨M,⟨_,F.own⟩,h.ext F.ext,F.wf,bz.refl _ _⟩;have back:∀ s',Ct s2 a lo l rest q s'->bz [lo] s s':=fun s' c=>⟨fun z o O n=>c.eC.1 z o (by
  simp only [List.mem_cons,List.not_mem_nil,or_false,not_or];exact ⟨(by rintro rfl;rw [F.no] at n;cases n),by simpa using O⟩) (F.ext.1 z o n),Nat.le_trans F.ext.2 c.eC.2⟩
 have w:∀ k:Nat,k<=3->IntKind.wrap .i64 ((x:Int)+IntKind.wrap .i64 (IntKind.wrap .i64 (Int.tdiv (IntKind.wrap .i64 ((y:Int) - (x:Int))) 4)*((k:Nat):Int)))=((x+(y - x) / 4*k:Nat):Int):=by
  intro k A;have hm:(y - x) / 4*k<=(y - x) / 4*3:=Nat.mul_le_mul_left _ A;rw [DX (by omega) (by omega),show (4:Int)=((4:Nat):Int) by rfl,Sz,wid (by omega),<- Int.natCast_mul,wid (by omega),Oa (by omega)]
 have w1:=w 1 (by omega);have w2:=w 2 (by omega);have I:=w 3 (by omega);simp only [Int.natCast_one,show ((2:Nat):Int)=2 by rfl,show ((3:Nat):Int)=3 by rfl] at w1 w2 I;rw [w1,w2,I,DX (by omega) (by omega)];refine ⟨fun vs s'=>∃ p:Nat,vs=[.int .i64 (p:Nat)]/\(x<=p/\p<y)/\Ct s2 a lo l rest q s',?_,af.dec (fun X=>?_) (fun _=>⟨_,rfl,by omega,c2⟩)⟩
 ·rintro Y Z ⟨p,J,b,d⟩;simp only [List.cons.injEq,AV.int.injEq,true_and,and_true] at J;subst J;obtain ⟨c,o⟩:=d.own;refine ⟨c,by rw [o.at.au];rfl,?_⟩;refine af.mk (fun _=>⟨p,_,rfl,b,d.arr,back _ d⟩) (fun _=>af.mk (fun _=>⟨p,_,rfl,b,d.arr,back _ d⟩) (fun _=>⟨p,_,rfl,b,d.arr,back _ d⟩))
 ·refine ⟨fun vs s'=>∃ i j k:Nat,vs=[.int .i64 (i:Nat),.int .i64 (j:Nat),.int .i64 (k:Nat)]/\(x<=i/\i<y)/\(x<=j/\j<y)/\(x<=k/\k<y)/\Ct s2 a lo l rest q s',?_,af.dec (fun Q=>?_) (fun _=>⟨_,_,_,rfl,by omega,by omega,by omega,c2⟩)⟩
  ·rintro n8 n9 R S ⟨i,j,k,hv,hi,hj,A,B⟩;simp only [List.cons.injEq,AV.int.injEq,true_and,and_true] at hv;obtain ⟨rfl,rfl,rfl⟩:=hv;refine (Iw B (by omega) (by omega) (by omega)).mono ?_;rintro r bW ⟨u,rfl,hu,C⟩;exact ⟨_,rfl,u,rfl,by omega,C⟩
  ·refine (Cx c2 (by omega) (by omega) e).mono ?_;rintro r U ⟨i,rfl,hi,D⟩;refine ⟨_,rfl,(Cx D (by omega) (by omega) e).mono ?_⟩;rintro r jl ⟨j,rfl,hj,G⟩;refine ⟨_,rfl,(Cx G (by omega) (by omega) e).mono ?_⟩;rintro r fT ⟨k,rfl,A,H⟩;exact ⟨_,rfl,i,j,k,rfl,by omega,by omega,by omega,H⟩
end
end
section
variable {cf:FuncId} [ry E cf]
structure Gd (s:AS) (a:AV) (lo:Nat) (rest:List AV) (l:List (El E.O)) (x y:Nat) (s':AS) (l':List (El E.O)) (c d:Nat):Prop where
 st:ER s a lo rest l x y s' l'
 ar:iW l' x y c d
 xc:x<=c
 cd:c<=d
 dy:d<=y
section
variable {s:AS} {a:AV} {lo:Nat} {rest:List AV} {l:List (El E.O)} {x y:Nat}
theorem Gd.sub {s' s'':AS} {l' l'':List (El E.O)} {c d c' b:Nat} (h:Gd s a lo rest l x y s' l' c d) (e:y<=l.length) (i:jV s'' a lo l'' rest) (j:aG s'') (hs:Sw c' b l' l'') (m:bz [lo] s' s'') (k:c<=c') (hd:b<=d):ER s a lo rest l x y s'' l'' :=
 ⟨i,j,h.st.sw.trans (hs.Vl (Nat.le_trans h.xc k) (Nat.le_trans hd h.dy) (by rw [h.st.sw.len];exact e)),h.st.eC.trans m⟩
theorem Gd.perm {s' s'':AS} {l' l'':List (El E.O)} {c d:Nat} (h:Gd s a lo rest l x y s' l' c d) (b:y<=l.length) (e:jV s'' a lo l'' rest) (i:aG s'') (hs:Sw c d l' l'') (m:bz [lo] s' s''):Gd s a lo rest l x y s'' l'' c d :=
 ⟨h.sub b e i hs m (Nat.le_refl _) (Nat.le_refl _),h.ar.sw h.xc h.dy hs,h.xc,h.cd,h.dy⟩
theorem Gd.to {s' s'':AS} {l':List (El E.O)} {c d:Nat} (h:Gd s a lo rest l x y s' l' c d) (b:jV s'' a lo l' rest) (e:aG s'') (m:bz [lo] s' s''):Gd s a lo rest l x y s'' l' c d :=
 ⟨h.st.to b e m,h.ar,h.xc,h.cd,h.dy⟩
theorem Gd.low {s':AS} {l':List (El E.O)} {c d:Nat} (h:Gd s a lo rest l x y s' l' c d) (b:0<x->∀ q,x<=q->q<y->(el l (x - 1)).le (el l q)):0<c->∀ q,c<=q->q<d->(el l' (c - 1)).le (el l' q):=by
 intro i q j h2;have:=h.xc;have:=h.dy;by_cases e:c=x
 ·subst e;exact SB h.st.sw b i q j (by omega)
 ·exact h.ar (c - 1) q (by omega) (by omega) (by omega) (.inl (by omega))
end
theorem V2 {a:AV} {lo:Nat} {rest:List AV}:∀ (n:Nat) {s:AS} {l:List (El E.O)} {x y:Nat} (U:Int),y - x=n->jV s a lo l rest->x<=y->y<=l.length->l.length<65536->(0<x->∀ q,x<=q->q<y->(el l (x - 1)).le (el l q)) ->
  aa Tryz.prog E.fO [a,.int .i64 (x:Nat),.int .i64 (y:Nat),.int .i64 U,.func cf []] s fun r s'=>r=.aN []/\∃ l',ER s a lo rest l x y s' l'/\Dn l' x y:=by
 intro n
 induction n using Nat.strongRecOn with
 | _ n IH =>
 intro s l x y U hn h b9 L hl B;refine aa.pre fun hw=>SQ.oA _ _ _ _ _ _ _ ⟨fun m vs s'=>∃ (c d:Nat) (li:Int) (b1 b2:Bool) (l':List (El E.O)),vs=[.int .i64 (c:Nat),.int .i64 (d:Nat),.int .i64 li,.bool b1,.bool b2]/\m=d - c/\Gd s a lo rest l x y s' l' c d,y - x,⟨x,y,U,true,true,l,rfl,rfl,⟨h,hw,.refl _,bz.refl _ _⟩,iW.start _ _ _,by omega,by omega,by omega⟩,?_⟩;rintro m n4 n5 n6 b7 b8 s9 ⟨c,d,li,b1,b2,l1,hv,rfl,C⟩;simp only [List.cons.injEq,AV.int.injEq,AV.bool.injEq,true_and,and_true] at hv;obtain ⟨rfl,rfl,rfl,rfl,rfl⟩:=hv;have W:=C.xc;have a5:=C.cd;have X:=C.dy;have b':=C.st.sw.len;rw [DX (by omega) (by omega)];refine af.dec (fun a6=>?_) (fun a6=>af.mk (fun _=>?_) (fun _=>?_))
 ·refine aa.use (N_ C.st.arr a5 (by omega) (by omega)) ?_;rintro r a7 ⟨rfl,Y,Z,D,F,ab⟩ ad;have G:=C.perm L Z ad D ab;exact ⟨rfl,rfl,Y,G.st,G.ar.WW F⟩
 ·refine aa.use (L6 C.st.arr (by omega) (by omega) (by omega)) ?_;rintro r a7 ⟨rfl,Y,Z,D,F,ab⟩ ad;have G:=C.perm L Z ad D ab;exact ⟨rfl,rfl,Y,G.st,G.ar.WW F⟩
 have w:c<d:=by omega
 refine ⟨fun vs s'=>∃ (li:Int) (l':List (El E.O)),vs=[.int .i64 li]/\Gd s a lo rest l x y s' l' c d,?_,af.mk (fun _=>?_) (fun _=>⟨_,l1,rfl,C⟩)⟩
 ·rintro ca cb ⟨cc,Y,hv,ae⟩;simp only [List.cons.injEq,AV.int.injEq,true_and,and_true] at hv;subst hv;have ce:=ae.st.sw.len;refine aa.use (QU ae.st.arr w (by omega) (by omega)) ?_;rintro r eT ⟨p,t,rfl,hp,a8,a9⟩ a';have al:=ae.to a8 a' a9;refine ⟨_,_,rfl,fun vs s'=>∃ (p:Nat) (t:Int) (l':List (El E.O)),vs=[.int .i64 (p:Nat),.int .i64 t]/\(c<=p/\p<d)/\Gd s a lo rest l x y s' l' c d,?_,af.mk (fun _=>?_) (fun _=>⟨p,t,Y,rfl,hp,al⟩)⟩
  ·rintro ch ci ba ⟨p,t,l3,hv,hp,H⟩;simp only [List.cons.injEq,AV.int.injEq,true_and,and_true] at hv;obtain ⟨rfl,rfl⟩:=hv;refine ⟨fun vs s'=>∃ l',Gd s a lo rest l x y s' l' c d,?_,?_⟩
   ·rintro ck ⟨l4,M⟩;have cl:=M.st.sw.len;refine ⟨fun vs s'=>∃ b,vs=[.bool b]/\Gd s a lo rest l x y s' l4 c d/\(b=true->0<c/\(el l4 p).le (el l4 (c - 1))),?_,?_⟩
    ·rintro cm cn ⟨b,hv,Q,hb⟩;simp only [List.cons.injEq,AV.bool.injEq,and_true] at hv;subst hv;refine af.mk (fun bc=>?_) (fun _=>?_)
     ·obtain ⟨a1,hle⟩:=hb bc;refine aa.use (QS Q.st.arr hp (by omega) (by omega)) ?_;rintro r nK ⟨i,j,l5,rfl,bd,R,z,be,a2,bh⟩ bi;have am:=Q.perm L bd bi R bh;have cp:=z.xi;have cr:=z.jy;have cs:=z.ij;refine ⟨_,rfl,d - i,by omega,i,d,_,_,_,l5,rfl,rfl,am.st,am.ar.equal W X z be (fun k h1 h2=>?_),by omega,by omega,by omega⟩;rw [a2];refine El.le_trans hle ?_;have:=am.low B a1 k h1 h2;rw [R.out (.inl (by omega))] at this;exact this
     ·refine aa.use (JW Q.st.arr hp (by omega) (by omega)) ?_;rintro r kH ⟨S,bb,l5,rfl,an,a3,o,bj⟩ bk;have A:=Q.perm L an bk a3 bj;have bl:=o.xm;have cu:=o.my;have cv:=A.st.sw.len;have ao:=A.low B;refine ⟨_,_,rfl,by decide,?_⟩;rw [kz (by omega)];refine af.mk (fun _=>?_) (fun _=>?_)
      ·refine aa.use (IH (S - c) (by omega) (s:=kH) (l:=l5) (x:=c) (y:=S) _ rfl an bl (by omega) (by omega) (fun h0 q h1 h2=>ao h0 q h1 (by omega))) ?_;rintro r bm ⟨rfl,l6,e,I⟩ aw;refine ⟨rfl,d - (S+1),by omega,S+1,d,_,_,_,l6,rfl,rfl,A.sub L e.arr aw e.sw e.eC (Nat.le_refl _) (by omega),A.ar.right W X o e.sw I,by omega,by omega,by omega⟩
      ·refine aa.use (IH (d - (S+1)) (by omega) (s:=kH) (l:=l5) (x:=S+1) (y:=d) _ rfl an (by omega) (by omega) (by omega) (fun h0 q h1 h2=>by
        rw [Nat.add_sub_cancel];exact o.ge q (by omega) h2)) ?_
       rintro r bm ⟨rfl,l6,e,I⟩ aw;refine ⟨rfl,S - c,by omega,c,S,_,_,_,l6,rfl,rfl,A.sub L e.arr aw e.sw e.eC (by omega) (Nat.le_refl _),A.ar.left W X o e.sw I,by omega,by omega,by omega⟩
    ·refine af.dec (fun a1=>?_) (fun _=>⟨false,rfl,M,by simp⟩);rw [kU (by omega) (by omega)];refine M.st.arr.cmp (by omega) (by omega) fun cw bo bs bx=>⟨_,rfl,M.to bo bs bx,fun hb=>⟨by omega,?_⟩⟩;exact El.wA (by rw [<- El.fX];simpa using hb)
   ·refine ⟨fun vs s'=>∃ b,vs=[.bool b]/\s'=ba,?_,af.mk (fun _=>af.mk (fun _=>⟨_,rfl,rfl⟩) (fun _=>⟨_,rfl,rfl⟩)) (fun _=>⟨_,rfl,rfl⟩)⟩;rintro cx cy ⟨b,hv,rfl⟩;simp only [List.cons.injEq,AV.bool.injEq,and_true] at hv;subst hv;have cz:=H.st.sw.len;refine af.mk (fun _=>?_) (fun _=>⟨l3,H⟩);refine aa.use (Oc H.st.arr w (by omega) (by omega) (H.low B)) ?_;rintro r cA ⟨b,l4,rfl,J,hs⟩ b0;have a0:=H.perm L J.arr b0 J.sw J.eC;exact ⟨_,rfl,af.mk (fun hb=>⟨rfl,l4,a0.st,a0.ar.WW (hs hb)⟩) (fun _=>⟨l4,a0⟩)⟩
  ·refine aa.use (Ob al.st.arr w (by omega) (by omega)) ?_;rintro r cB ⟨rfl,l3,b3,a4,b4⟩ b5;rw [kU (by omega) (by omega),DX (by omega) (by omega),DX (by omega) (by omega)];exact ⟨rfl,d - 1 - (p - c),1,l3,rfl,by omega,al.perm L b3 b5 a4 b4⟩
 ·refine aa.use (SL C.st.arr w (by omega) (by omega)) ?_;rintro r cC ⟨rfl,Y,K⟩ b6;exact ⟨rfl,_,Y,rfl,C.perm L K.arr b6 K.sw K.eC⟩
theorem Uv {s:AS} {a:AV} {lo:Nat} {rest:List AV} {l:List (El E.O)} (h:jV s a lo l rest) (b:l.length<65536) :
  aa Tryz.prog E.uV [a,.func cf []] s fun r s'=>r=.aN []/\∃ l',jV s' a lo l' rest/\l'.Perm l/\Dn l' 0 l'.length/\bz [lo] s s':=by
 refine SQ.zi _ _ _ _ ?_;have hlen:aQ T E.ys a s=some (.int .i64 (l.length:Nat)):=by
  obtain ⟨⟨c,e,rfl⟩,_⟩:=h;simp [aQ,E.us]
 refine ⟨_,hlen,?_⟩;dsimp only;rw [gJ (by omega)];refine aa.use (Od b s) ?_;rintro r s3 ⟨k,rfl,_,_,rfl⟩ i;refine ⟨_,rfl,?_⟩;refine (V2 (l.length - 0) (x:=0) (y:=l.length) k rfl h (by omega) (by omega) b (by omega)).mono ?_;rintro r s6 ⟨rfl,l',st,d⟩;exact ⟨rfl,rfl,l',st.arr,st.sw.perm,by rw [st.sw.len];exact d,st.eC⟩
end
section
theorem Oe {cf:FuncId} {a:Option (Nat×Nat)} (s:AS):aa Tryz.prog E.fI [.slc a 0 0 true,.int .i64 0,.int .i64 0,.func cf []] s fun r s'=>r=.aN []/\s'=s:=by
 refine SQ.iI _ _ _ _ _ _ ⟨fun m vs s'=>vs=[.int .i64 1]/\s'=s,0,⟨rfl,rfl⟩,?_⟩;rintro m n b ⟨hi,rfl⟩;simp only [List.cons.injEq,AV.int.injEq,true_and,and_true] at hi;subst hi;exact af.no (by decide) ⟨rfl,rfl⟩
theorem Of {cf:FuncId} {a:Option (Nat×Nat)} (s:AS) (b:Int):aa Tryz.prog E.fO [.slc a 0 0 true,.int .i64 0,.int .i64 0,.int .i64 b,.func cf []] s fun r s'=>r=.aN []/\s'=s:=by
 refine SQ.oA _ _ _ _ _ _ _ ⟨fun m vs s'=>vs=[.int .i64 0,.int .i64 0,.int .i64 b,.bool true,.bool true]/\s'=s,0,⟨rfl,rfl⟩,?_⟩;rintro m d e i j k c ⟨hi,rfl⟩;simp only [List.cons.injEq,AV.int.injEq,AV.bool.injEq,true_and,and_true] at hi;obtain ⟨rfl,rfl,rfl,rfl,rfl⟩:=hi;refine af.yes (by decide) ?_;refine aa.use (Oe c) ?_;rintro r s' ⟨rfl,rfl⟩ _;exact ⟨rfl,rfl,rfl⟩
theorem L7 {cf:FuncId} {a:Option (Nat×Nat)} (s:AS):aa Tryz.prog E.uV [.slc a 0 0 true,.func cf []] s fun r s'=>r=.aN []/\s'=s:=by
 refine SQ.zi _ _ _ _ ?_;have hlen:aQ T E.ys (.slc a 0 0 true) s=some (.int .i64 0):=by simp [aQ,E.us]
 refine ⟨_,hlen,?_⟩;dsimp only;rw [show IntKind.wrap .u64 (0:Int)=((0:Nat):Int) from gJ (by omega)];refine aa.use (Od (by omega) s) ?_;rintro r s3 ⟨k,rfl,_,_,rfl⟩ b;refine ⟨_,rfl,?_⟩;refine aa.use (Of _ _) ?_;rintro r s6 ⟨rfl,rfl⟩ _;exact ⟨rfl,rfl,rfl⟩
def Og (s0 s:AS) (v:AV) (l:List (El E.O)):Prop:=Ext s0 s/\((l=[]/\∃ a,v=.slc a 0 0 true)\/∃ la,v=.slc (some (la,0)) l.length l.length false/\jV s v la l []/\s0.h la=none)
variable {cf:FuncId} [ry E cf]
theorem zm {s0 s:AS} {v:AV} {l:List (El E.O)} {sz:Nat} (g:aV E.cC sz [] s0 s v l) (m:l.length<65536) :
  aa Tryz.prog E.uV [v,.func cf []] s fun r s'=>r=.aN []/\∃ l',l'.Perm l/\Dn l' 0 l'.length/\Og s0 s' v l':=by
 have b:Ext s0 s:=g.eC.ext;rcases g.tI with ⟨rfl,a,rfl⟩ | ⟨la,rfl,n⟩
 ·refine (L7 s).mono ?_;rintro r s' ⟨rfl,rfl⟩;exact ⟨rfl,[],.refl _,fun i j w h2 h3=>by simp at h3,b,.inl ⟨rfl,a,rfl⟩⟩
 ·have p:jV s (.slc (some (la,0)) l.length l.length false) la l []:=⟨⟨_,_,rfl⟩,sz,by simpa using n⟩;have e:s0.h la=none:=g.new la (by simp [ax]);refine (Uv p m).mono ?_;rintro r s' ⟨rfl,l',c,k,hs,m'⟩;refine ⟨rfl,l',k,hs,⟨fun x o d=>m'.1 x o (by simp only [List.mem_singleton];rintro rfl;rw [e] at d;cases d) (b.1 x o d),Nat.le_trans b.2 m'.2⟩,.inr ⟨la,by rw [k.length_eq],c,e⟩⟩
end
end Go.Proofs.YtohgmogbabkkeaaGreat.SG
end

section
set_option maxRecDepth 100000
set_option maxHeartbeats 4000000
namespace Go.Proofs.YtohgmogbabkkeaaGreat
open Go.Am Go.av
def oe:Go.av.SG.OE:=⟨aJ,⟨0,0⟩,aJ.lt,aJ.cmp,fun a b=>aJ.fX,fun a b c h d=>aJ.le_trans (a:=a) (b:=b) (c:=c) h d,fun a=>aJ.le_refl a,fun a b h=>aJ.Ax h⟩
def se:SG.SE:=⟨oe,aI,2,bn,fun x=>rfl,az,gV,bI,kq,fy,pS,lK,pn,mQ,mg,iP,kQ,oh,pq,kR,qo,qp,lM⟩
instance:SG.SQ se where
 zi:=fun a0 a1 s R h =>
  aa.q (n:=14) (rs:=[]) (A:=SG.N9) hT bY Tryz.func192 (by kernel_rfl) rfl rfl rfl (by kernel_rfl) (by kernel_rfl) h
 oA:=fun a0 a1 a2 a3 a4 s R h =>
  aa.q (n:=148) (rs:=[]) (A:=SG.Cr) hT bY Tryz.func247 (by kernel_rfl) rfl rfl rfl (by kernel_rfl) (by kernel_rfl) h
 iI:=fun a0 a1 a2 a3 s R h =>
  aa.q (n:=53) (rs:=[]) (A:=SG.uX) hT bY Tryz.func272 (by kernel_rfl) rfl rfl rfl (by kernel_rfl) (by kernel_rfl) h
 sg:=fun a0 a1 a2 a3 s R h =>
  aa.q (n:=60) (rs:=[]) (A:=SG.AP) hT bY Tryz.func273 (by kernel_rfl) rfl rfl rfl (by kernel_rfl) (by kernel_rfl) h
 pD:=fun a0 a1 a2 a3 s R h =>
  aa.q (n:=63) (rs:=[.tmp 8,.tmp 9]) (A:=SG.wZ) hT bY Tryz.func275 (by kernel_rfl) rfl rfl rfl (by kernel_rfl) (by kernel_rfl) h
 nL:=fun a0 a1 a2 a3 s R h =>
  aa.q (n:=34) (rs:=[]) (A:=SG.vH) hT bY Tryz.func276 (by kernel_rfl) rfl rfl rfl (by kernel_rfl) (by kernel_rfl) h
 ic:=fun a0 a1 a2 a3 s R h =>
  aa.q (n:=141) (rs:=[.tmp 8]) (A:=SG.pC) hT bY Tryz.func277 (by kernel_rfl) rfl rfl rfl (by kernel_rfl) (by kernel_rfl) h
 lZ:=fun a0 a1 a2 a3 a4 s R h =>
  aa.q (n:=90) (rs:=[.tmp 10]) (A:=SG.tP) hT bY Tryz.func278 (by kernel_rfl) rfl rfl rfl (by kernel_rfl) (by kernel_rfl) h
 q_:=fun a0 a1 a2 a3 a4 s R h =>
  aa.q (n:=178) (rs:=[.tmp 10,.tmp 11]) (A:=SG.zh) hT bY Tryz.func279 (by kernel_rfl) rfl rfl rfl (by kernel_rfl) (by kernel_rfl) h
 si:=fun a0 a1 a2 a3 a4 s R h =>
  aa.q (n:=82) (rs:=[]) (A:=SG.AR) hT bY Tryz.func303 (by kernel_rfl) rfl rfl rfl (by kernel_rfl) (by kernel_rfl) h
 l_:=fun a0 a1 a2 a3 s R h =>
  aa.q (n:=18) (rs:=[.tmp 8]) (A:=SG.tQ) hT bY Tryz.func304 (by kernel_rfl) rfl rfl rfl (by kernel_rfl) (by kernel_rfl) h
 vD:=fun a0 a1 a2 a3 a4 a5 s R h =>
  aa.q (n:=41) (rs:=[.tmp 12]) (A:=SG.DS) hT bY Tryz.func305 (by kernel_rfl) rfl rfl rfl (by kernel_rfl) (by kernel_rfl) h
 vE:=fun a0 a1 a2 a3 a4 s R h =>
  aa.q (n:=32) (rs:=[.tmp 10,.tmp 11]) (A:=SG.DU) hT bY Tryz.func313 (by kernel_rfl) rfl rfl rfl (by kernel_rfl) (by kernel_rfl) h
 mV:=fun a0 a1 a2 a3 s R h =>
  aa.q (n:=67) (rs:=[]) (A:=SG.uY) hT bY Tryz.func274 (by kernel_rfl) rfl rfl rfl (by kernel_rfl) (by kernel_rfl) h
class ry (cf:FuncId):Prop where
 ok:∀ (a b:aJ) (s:AS),aa Tryz.prog cf [.agg (aI a),.agg (aI b)] s fun v s'=>v=.int .i64 (a.cmp b)/\Ext s s'
instance:ry cP:=⟨uZ⟩
structure jV (s:AS) (a:AV) (lo:Nat) (l:List aJ) (rest:List AV):Prop where
 val:∃ c e,a=.slc (some (lo,0)) l.length c e
 obj:∃ g,s.h lo=some (.cells (l.flatMap aI++rest) g false)
section
variable {s:AS} {a:AV} {lo:Nat} {l:List aJ} {rest:List AV}
theorem rz (l:List aJ):(l.flatMap aI).length=l.length*2:=by
 induction l with
 | nil=>rfl
 | cons x l b=>simp only [List.flatMap_cons,List.length_append,b,bn,List.length_cons];omega
end
instance Xt {cf:FuncId} [h:ry cf]:SG.ry se cf:=⟨h.ok⟩
theorem jV.of {s:AS} {a:AV} {lo:Nat} {l:List aJ} {rest:List AV} (h:SG.jV (E:=se) s a lo l rest):jV s a lo l rest:=⟨h.val,h.obj⟩
def Og (s0 s:AS) (v:AV) (l:List aJ):Prop:=Ext s0 s/\((l=[]/\∃ a,v=.slc a 0 0 true)\/∃ la,v=.slc (some (la,0)) l.length l.length false/\jV s v la l []/\s0.h la=none)
theorem zm {cf:FuncId} [ry cf] {s0 s:AS} {v:AV} {l:List aJ} {sz:Nat} (g:aV aI sz [] s0 s v l) (c:l.length<65536) :
  aa Tryz.prog fy [v,.func cf []] s fun r s'=>r=.aN []/\∃ l',l'.Perm l/\Dn l' 0 l'.length/\Og s0 s' v l':=by
 refine (SG.zm (E:=se) (cf:=cf) g c).mono ?_;rintro r s' ⟨d,l',h2,h3,h4,b⟩;refine ⟨d,l',h2,h3,h4,?_⟩;rcases b with b | ⟨la,e,i,j⟩
 ·exact .inl b
 ·exact .inr ⟨la,e,jV.of i,j⟩
theorem Og.XJ {s0 s:AS} {v:AV} {l:List aJ} (h:Og s0 s v l):Sl aI 2 s v l:=by
 rcases h.2 with ⟨rfl,a,rfl⟩ | ⟨la,rfl,⟨_,g,b⟩,_⟩
 ·exact Sl.nil
 ·refine ct.mk ⟨_,_,b⟩ (rz l) ?_ (Nat.le_refl _);rw [List.drop_zero];show (l.flatMap aI++[]).take _=_;rw [List.append_nil];exact List.take_of_length_le (Nat.le_of_eq (rz l))
end Go.Proofs.YtohgmogbabkkeaaGreat
end

section
namespace Go.Proofs.YtohgmogbabkkeaaGreat
open Go.Am Go.av
theorem PC:∀ (b a c:List AV),b.length<=c.length->qC (a++c) a.length b=a++b++c.drop b.length
 | [],a,c,h=>by simp [qC]
 | v::b,a,[],h=>by simp at h
 | v::b,a,y::c,h=>by
  have d:=PC b (a++[v]) c (by simpa using h);have e:(a++y::c).set a.length v=a++[v]++c:=by
   rw [List.set_append_right _ _ (Nat.le_refl _)];simp
  show qC ((a++y::c).set a.length v) (a.length+1) b=_;rw [e];simp only [List.length_append,List.length_cons,List.length_nil,Nat.zero_add] at d;rw [d];simp
end Go.Proofs.YtohgmogbabkkeaaGreat
end

section
namespace Go.Proofs.YtohgmogbabkkeaaGreat
open Go.Am Go.av
end Go.Proofs.YtohgmogbabkkeaaGreat
end

section
namespace Go.Proofs.YtohgmogbabkkeaaGreat
open Go.Am Go.av
theorem Uw:triples (T.cR gV)=some [(false,qZ,0),(false,jL,1)]:=by kernel_rfl
theorem V3:T.T6 gV=true:=by kernel_rfl
theorem Gb (a b:aJ):je T 100 gV (.agg (aI a)) (.agg (aI b))=some (decide (a=b)):=by
 rw [Pw Uw V3];simp only [FH,cond_false,Cg VW,Cg Co,aI,List.getElem?_cons_zero,List.getElem?_cons_succ,Option.bind_some,Sf Pz,Sf Ss];cases a;cases b;simp only [aJ.mk.injEq];rename_i r c d c';by_cases e:r=d <;> by_cases h2:c=c' <;> simp [e,h2]
theorem Ry {l o:Nat} {i:Int} (h:0<=i/\i<16):ag T aZ (.ptr (some (l,o))) (.int .i64 i)=some (.ptr (some (l,o+i.toNat*1))):=uI wT jM h
theorem Oh {l o:Nat} {i:Int} (h:0<=i/\i<16):ag T dz (.ptr (some (l,o))) (.int .i64 i)=some (.ptr (some (l,o+i.toNat*1))):=uI JO jM h
theorem L8 {s:AS} {v:AV} {l:List aJ} (b:Hw s v l) (i:l.length<=2 ^ 30):aa Tryz.prog aH [v] s fun r s'=>aV aI 2 [] s s' r l:=by
 refine aa.pre fun j=>rL _ _ _ ?_;have main:aR (dw T az 0 []) fun k=>aj (.cells k 0 false) s fun l3 s4=>iT (aL T az az (.slc (some (l3,0)) 0 0 true) v s4) fun m s6=>aV aI 2 [] s s6 m l:=by
  refine ⟨_,Ay iR,aj.intro j rfl fun l3 s4 F=>?_⟩;refine aV.k_ iR bn mW F.wf (aV.start (M:=[]) F.ext.mut) (by simp) (b.ext F.ext) (by simpa using i) bI fun v' s' g _ _=>?_;simpa using g
 rcases b with ⟨rfl,_,d⟩ | ⟨a,c,e,rfl,hlen,h3⟩
 ·refine ⟨_,rV bI _ _ _ _,af.no rfl main⟩
 ·refine ⟨_,rU bI _ _ _ _ _ _ _ _,af.mk (fun h=>?_) (fun _=>main)⟩;have:a=none:=by simpa using h
  subst this;have:l=[]:=by
   rcases h3 with h3 | ⟨la,o,C,h,_⟩
   ·exact List.length_eq_zero_iff.1 h3
   ·cases h
  subst this;exact aV.nil
def fo:List Int:=List.replicate 16 0
theorem AX {v:List Int} (h:v.length=16) (w:AV):(v.map (AV.int .u64)++[w,.bool true]).length=18:=by simp [h]
theorem Oi {v:List Int} (h:v.length=16) (w:AV) {i:Nat} (hi:i<16):(v.map (AV.int .u64)++[w,.bool true])[i]? = some (.int .u64 (v.getD i 0)):=by
 rw [List.getElem?_append_left (by simp [h];omega),List.getElem?_map,List.getElem?_eq_getElem (by omega),List.getD_eq_getElem?_getD,List.getElem?_eq_getElem (by omega)];rfl
theorem Cy {v:List Int} (h:v.length=16) (w:AV):(v.map (AV.int .u64)++[w,.bool true])[16]? = some w:=by
 rw [List.getElem?_append_right (by simp [h])];simp [h]
theorem SM {v:List Int} (h:v.length=16) (w:AV):((v.map (AV.int .u64)++[w,.bool true]).drop 0).take 16=v.map (AV.int .u64):=by
 rw [List.drop_zero,List.take_append_of_le_length (by simp [h]),List.take_of_length_le (by simp [h])]
theorem cq (k:IntKind) (v:List Int):(v.map (AV.int k)).all AV.one=true:=by simp [List.all_eq_true]
def ff (v:List Int) (ex:List aJ) (d:aJ):Bool:=d.may&&(decide (d∈ex)||decide (d.c<=v.getD (d.r - 1).toNat 0))
theorem zn {s:AS} {p:Nat} {v:List Int} {ex:List aJ} (h:w_ s p v ex) (hr:ef ex) (y:ex.length<=2 ^ 30) (d:aJ):aa Tryz.prog kO [.ptr (some (p,0)),.agg (aI d)] s fun r s'=>r=.bool (ff v ex d)/\Ext s s':=by
 refine aa.pre fun k=>Hs _ _ _ _ ⟨rfl,aj.intro k rfl fun l s1 F=>?_⟩;refine (u0 (h.ext F.ext)).mono ?_;rintro r s2 ⟨rfl,rfl⟩;refine ⟨_,rfl,af.no rfl ⟨_,F.own.at.aC (by simp [aI]),?_⟩⟩;refine (ru d _).mono ?_;rintro r s3 ⟨rfl,i⟩;have e:=F.ext.trans i;refine ⟨_,rfl,af.mk (fun hm=>?_) (fun hm=>?_)⟩
 ·simp only [Bool.not_eq_true'] at hm;exact ⟨by simp [ff,hm],e⟩
 ·simp only [Bool.not_eq_false'] at hm;obtain ⟨j,w,h2,h3,h4⟩:=h;refine ⟨fun _ _ _ _=>True,fun _ _ v=>v=.aN [.int .i64 (pos ex d:Nat),.bool (decide (d∈ex))],fun _ _ _ _ _ _ _=>trivial,w,?_,_,(F.own.ext i).at.aC (by simp [aI]),fun s4 m _ _=>?_,⟨_,rfl⟩,?_⟩
  ·rw [(h2.ext e).at.au];exact Cy j w
  ·refine (Ga (h4.ext (e.trans m)) (by omega) hr d).mono ?_;rintro r z ⟨rfl,n⟩;exact ⟨_,_,rfl,n,trivial,rfl⟩
  ·rintro r rfl;refine ⟨_,_,rfl,fun fT b _ _=>af.mk (fun hd=>?_) (fun hd=>?_)⟩
   ·refine ⟨?_,e.trans b⟩;simp [ff,hm,hd]
   ·have o:=aJ.gQ.1 hm;have c:=(F.own.ext (i.trans b)).at;have x:=(h2.ext (e.trans b)).at;refine ⟨_,by rw [c.au];rfl,_,by rw [c.au];rfl,?_⟩;dsimp only;rw [sk (by omega)];refine ⟨_,_,Ry (by omega),_,by rw [x.au,Nat.zero_add,Nat.mul_one];exact Oi j w (by omega),?_,e.trans b⟩;simp [ff,hm,hd]
end Go.Proofs.YtohgmogbabkkeaaGreat
end

section
namespace Go.av
end Go.av
namespace Go.Proofs.YtohgmogbabkkeaaGreat
open Go.Am Go.av
end Go.Proofs.YtohgmogbabkkeaaGreat
end

section
namespace Go.Proofs.YtohgmogbabkkeaaGreat
open Go.Am Go.av
end Go.Proofs.YtohgmogbabkkeaaGreat
end

section
namespace Go.Proofs.YtohgmogbabkkeaaGreat
open Go.Am Go.av
theorem cT {α:Type} {l:List α} {i:Nat} (h:i<l.length):∃ x,l[i]? = some x:=⟨_,List.getElem?_eq_getElem h⟩
theorem Pg (a b:Int):K8 true [.int .u64 a,.int .u64 b]=some (.int .u64 (if b>a then b else a)):=rfl
end Go.Proofs.YtohgmogbabkkeaaGreat
end

section
namespace Go.Proofs.YtohgmogbabkkeaaGreat
open Go.Am Go.av
theorem qq {s:AS} {w:AV} {l:List aJ} (h:Hw s w l):∀ k n,w≠.int k n:=by
 rintro k n rfl;rcases h with ⟨h,_⟩ | ⟨_,_,_,h,_⟩ <;> cases h
theorem PD (v:List Int) (x:List AV) (i:Nat) (c:Int) (hi:i<v.length):(v.map (AV.int .u64)++x).set i (.int .u64 c)=(v.set i c).map (AV.int .u64)++x:=by
 rw [List.set_append_left _ _ (by simpa using hi),List.map_set]
theorem Cz {s s':AS} {p:Nat} {v:List Int} {x:List AV} {w:AV} {l:List aJ} (h:Hw s w l) (j:At s p (v.map (AV.int .u64)++x)) (k:∀ y∈x,∀ n,y≠.int .i64 n) (e:bz [p] s s'):Hw s' w l:=by
 refine Sl.mut h e bn (by decide) fun q m C o d hd i c b r=>?_;obtain rfl:q=p:=by simpa using m
 obtain rfl:=o.inj j;simp only [aI,List.getElem?_cons_zero,Option.some.injEq] at b;subst b;have:=List.mem_of_getElem? r;rcases List.mem_append.1 this with h | h
 ·obtain ⟨y,_,z⟩:=List.mem_map.1 h;cases z
 ·exact k _ h _ rfl
structure u5 (s0 s:AS) (p:Nat) (v:List Int) (ex:List aJ):Prop where
 len:v.length=16
 mem:∃ w,Am.Own s p (v.map (.int .u64)++[w,.bool true])/\w.one=true/\bq aI 2 s w ex/\∀ la∈ax w,s0.h la=none
theorem u5.mut {s0 s s':AS} {L:List Nat} {p:Nat} {v:List Int} {ex:List aJ} (h:u5 s0 s p v ex) (m:bz L s s') (e:p ∉ L) (i:∀ x∈L,s0.h x≠none\/s.h x=none):u5 s0 s' p v ex:=by
 obtain ⟨j,w,h2,h3,h4,c⟩:=h;refine ⟨j,w,h2.mut m e,h3,h4.mut m fun x b hm=>?_,c⟩;rcases i x hm with h | h
 ·exact h (c x b)
 ·rcases h4 with ⟨_,a,rfl⟩ | ⟨la,rfl,d⟩
  ·simp [ax] at b
  ·obtain rfl:x=la:=by simpa [ax] using b
   rw [h] at d;cases d
theorem u5.ext {s0 s s':AS} {p:Nat} {v:List Int} {ex:List aJ} (h:u5 s0 s p v ex) (e:Ext s s'):u5 s0 s' p v ex:=h.mut (L:=[]) e.mut (by simp) (by simp)
theorem u5.back {s0 s1 s:AS} {p:Nat} {v:List Int} {ex:List aJ} (h:u5 s1 s p v ex) (e:Ext s0 s1):u5 s0 s p v ex:=by
 obtain ⟨b,w,h2,h3,h4,c⟩:=h;exact ⟨b,w,h2,h3,h4,fun x d=>e.none (c x d)⟩
theorem DY {s:AS} {p:Nat} {v:List Int} {ex:List aJ} (h:w_ s p v ex) (hv:FE v) (hm:∀ d∈ex,d.may=true) (hn:ex.length<2 ^ 30) :
  aa Tryz.prog mP [.ptr (some (p,0))] s fun r s'=>r=.aN []/\u5 s s' p (compact v ex).1 (compact v ex).2/\bz [p] s s':=by
 refine aa.pre fun hw=>AW _ _ _ ?_;obtain ⟨h1,w,h2,h3,h4⟩:=h;have B:∀ x∈[p],s.h x≠none:=by
  intro x J;obtain rfl:x=p:=by simpa using J
  rw [h2];simp
 have K:∀ {r:AV} {s':AS} {l:List aJ},aV aI 2 [p] s s' r l->p ∉ ax r:=fun g hm=>B p (by simp) (g.new p hm);have Q:∀ y∈[w,AV.bool true],∀ n,y≠.int .i64 n:=by
  intro y L n;rcases List.mem_cons.1 L with rfl | L
  ·exact qq h4 _ _
  ·obtain rfl:y=.bool true:=by simpa using L
   intro h;cases h
 let e:Nat->List Int×List aJ:=fun i=>(ex.take i).foldl gl (v,[])
 have D:∀ i,FE (e i).1:=fun i=>EI _ _ hv fun d hd=>hm d (List.mem_of_mem_take hd);have H:∀ i,(e i).2.length<=i:=fun i=>by have:=Aw (ex.take i) (v,[]);simp only [List.length_nil,Nat.zero_add] at this;have h2:=List.length_take_le i ex;exact Nat.le_trans this h2
 refine ⟨fun vs s'=>∃ left,vs=[left]/\aG s'/\aV aI 2 [p] s s' left (compact v ex).2/\Am.Own s' p ((compact v ex).1.map (.int .u64)++[w,.bool true]),?_,?_⟩
 ·rintro r s3 ⟨left,X,R,g,M⟩;simp only [List.cons.injEq,and_true] at X;subst X;have C:FE (compact v ex).1:=by have:=D ex.length;simp only [e,List.take_length] at this;exact this
  refine cS g.jh.2 AJ (bu.own R M (by rw [AX C.len];simp) fun s6 P=>⟨rfl,⟨C.len,r,?_,g.jh.2,(g.wr B P.mut).tI,(g.wr B P.mut).new⟩,g.eC.trans P.mut⟩)
  ·have:qC ((compact v ex).1.map (AV.int .u64)++[w,.bool true]) (0+16) [r]=(compact v ex).1.map (AV.int .u64)++[r,.bool true]:=by
    rw [fF,List.set_append_right _ _ (by simp [C.len])];simp [C.len]
   rw [this] at P;exact P.at
 ·have Y:=h2.at;refine ⟨w,by rw [Y.au];exact Cy h1 w,_,h4.cJ bI _,fun m vs s'=>∃ (i:Nat) (left:AV),vs=[left,.int .i64 (i:Nat)]/\i<=ex.length/\m=ex.length - i/\aG s'/\aV aI 2 [p] s s' left (e i).2/\Am.Own s' p ((e i).1.map (.int .u64)++[w,.bool true]),ex.length,⟨0,_,rfl,by omega,rfl,hw,aV.nil,h2⟩,?_⟩;rintro m left n ab ⟨i,S,hi,h6,rfl,G,g,M⟩;simp only [List.cons.injEq,AV.int.injEq,true_and,and_true] at hi;obtain ⟨rfl,rfl⟩:=hi;refine af.dec (fun ad=>?_) (fun ae=>?_)
  ·obtain ⟨x,J⟩:=cT (l:=ex) (i:=i) (by omega);have hd:=Cz h4 Y Q g.eC;have z:=D i;obtain ⟨la,o,h8,h9⟩:=hd.ix (by decide) bn bI kq J;have bY:=aJ.gQ.1 (hm x (List.mem_of_getElem? J));have ht:e (i+1)=gl (e i) x:=by simp only [e];rw [List.take_add_one,J,Option.toList_some,List.foldl_append];rfl
   refine ⟨la,o,h8 _,_,(h9 _ (Ext.refl _)).2,kj G rfl rfl rfl fun al fT F=>?_⟩;have k:=M.ext F.ext;have Z:=g.step F.ext;have A:(x.r - 1).toNat<16:=by omega
   have am:=z.get (x.r - 1).toNat;refine ⟨_,by rw [F.own.at.au];rfl,?_⟩;dsimp only;rw [sk (by omega)];refine ⟨_,_,Ry (by omega),_,by rw [F.own.at.au];rfl,_,by rw [k.at.au,Nat.zero_add,Nat.mul_one];exact Oi z.len w A,?_⟩;have cont:∀ (r:AV) (s':AS),aG s'->aV aI 2 [p] s s' r (e (i+1)).2->Am.Own s' p ((e (i+1)).1.map (.int .u64)++[w,.bool true]) ->
     ∃ m',m'<ex.length - i/\∃ (j:Nat) (left:AV),[r,AV.int .i64 (IntKind.wrap .i64 ((i:Int)+1))]=[left,.int .i64 (j:Nat)]/\j<=ex.length/\m'=ex.length - j/\aG s'/\aV aI 2 [p] s s' left (e j).2/\Am.Own s' p ((e j).1.map (.int .u64)++[w,.bool true]) :=
    fun r s' a b c=>⟨ex.length - (i+1),by omega,i+1,r,by rw [aX (by omega)];rfl,by omega,rfl,a,b,c⟩
   refine af.dec (fun hle=>?_) (fun O=>?_)
   ·have hs:e (i+1)=e i:=by rw [ht];unfold gl;rw [if_pos hle]
    exact cont _ _ F.wf (by rw [hs];exact Z) (by rw [hs];exact k)
   ·refine ⟨_,by rw [F.own.at.au];rfl,_,by rw [k.at.au,Nat.zero_add,Nat.mul_one];exact Oi z.len w A,?_⟩;dsimp only;rw [gJ (by omega)];refine af.mk (fun U=>?_) (fun U=>?_)
    ·have I:x.c=(e i).1.getD (x.r - 1).toNat 0+1:=by simpa using U
     have hs:e (i+1)=((e i).1.set (x.r - 1).toNat x.c,(e i).2):=by rw [ht];unfold gl;rw [if_neg O,if_pos I]
     refine ⟨_,by rw [F.own.at.au];rfl,bu.own F.wf k (by rw [AX z.len];simp;omega) fun an P=>?_⟩;refine cont _ _ P.wf (by rw [hs];exact g.wr B (F.ext.mut.trans P.mut)) ?_;rw [hs];have:=P.at;rw [fF,Nat.zero_add,Nat.mul_one,PD _ _ _ _ (by rw [z.len];exact A)] at this;exact this
    ·have I:¬ x.c=(e i).1.getD (x.r - 1).toNat 0+1:=by simpa using U
     have hs:e (i+1)=((e i).1,(e i).2++[x]):=by rw [ht];unfold gl;rw [if_neg O,if_neg I]
     have hM:∀ y∈[p],fT.h y≠none:=by
      intro y L;obtain rfl:y=p:=by simpa using L
      rw [k];simp
     refine ⟨_,F.own.at.aC (by simp [aI]),aV.ji iR bn mW F.wf Z hM x (by have:=H i;omega) fun r s' g' W mm=>?_⟩;exact cont _ _ W (by rw [hs];exact g') (by rw [hs];exact k.mut mm (K g))
  ·obtain rfl:i=ex.length:=by omega
   have hs:e ex.length=compact v ex:=by simp only [e,List.take_length];rfl
   rw [hs] at g M;exact ⟨left,rfl,G,g,M⟩
end Go.Proofs.YtohgmogbabkkeaaGreat
end

section
namespace Go.Proofs.YtohgmogbabkkeaaGreat
open Go.Am Go.av
theorem xe {y i:Nat} {k:IntKind} (h:i<=y):gP y (.int k (i:Nat))=some i:=by
 unfold gP;simp [h]
theorem Oj {a o n c i:Nat} (b:i<=n) (h2:n<=c) (h3:i<c):bg T az (.slc (some (a,o)) n c true) (some (.int .i64 (i:Nat))) none none=some (.slc (some (a,o+i*2)) (n - i) (c - i) true):=by
 have e1:¬ ((i:Int)<0\/(n:Int)<i):=by omega
 have e2:¬ c=i:=by omega
 simp [bg,bI,kq,cV,sZ,qc,xe,e2,b,h2]
theorem PE {a o n c i:Nat} (b:i<=n) (h2:n<=c) (h3:i<c):bg T az (.slc (some (a,o)) n c false) (some (.int .i64 (i:Nat))) none none=some (.slc (some (a,o+i*2)) (n - i) (c - i) false):=by
 have e2:¬ c=i:=by omega
 simp [bg,bI,kq,cV,sZ,qc,xe,e2,b,h2]
theorem SN {a o n c i:Nat} (b:i<=c):bg T az (.slc (some (a,o)) n c true) none (some (.int .i64 (i:Nat))) none=some (.slc (some (a,o)) i c true):=by
 simp [bg,bI,kq,cV,sZ,qc,xe,b]
theorem AY {a b o o2 n n2 c c2 g:Nat} {e e2:Bool} {cs new:List AV} {s:AS} (hd:s.h a=some (.cells cs g false)) (hs:aC s b o2 (min n2 n*2)=some new) (d:new≠[]) (i:o+new.length<=cs.length) :
  qO T az (.slc (some (a,o)) n c e) (.slc (some (b,o2)) n2 c2 e2) s=some (.int .i64 ((min n2 n:Nat):Int),s.put a (.cells (qC cs o new) g false)):=by
 have j:nM 2 (min n2 n) s (.slc (some (b,o2)) n2 c2 e2)=some new:=by
  by_cases k:min n2 n=0
  ·exfalso;rw [k] at hs;unfold aC at hs;split at hs
   ·split at hs
    ·simp at hs;exact d (by first | exact hs | exact hs.symm)
    ·cases hs
   ·cases hs
  ·simp only [nM,if_neg k];exact hs
 simp only [qO,bI,kq,DB,Option.bind_some,j,if_neg d,cU,hd,if_pos i,Option.map_some]
theorem XL {a n c k g:Nat} {ro:Bool} {cs:List AV} {s:AS} (h:s.h a=some (.cells cs g ro)) (hle:n*2<=cs.length) (d:n+k<=2 ^ 30) (b:c<n+k) :
  aL T az qZ (.slc (some (a,0)) n c true) (.int .i64 (k:Nat)) s=some (.slc (some (s.nl,0)) (n+k) (n+k) false,s.new (.cells (cs.take (n*2)++rep k [.int .i64 0,.int .u64 0]) 2 false)):=by
 have i:¬ ((2:Nat)≠2\/(k:Int)<0\/2 ^ 40<n+k\/2*((n+k+256)*16)>2 ^ 48\/n+k<=c):=by omega
 have h2:nM 2 n s (.slc (some (a,0)) n c true)=some (cs.take (n*2)):=by
  by_cases e:n=0
  ·subst e;simp [nM]
  ·simp only [nM,if_neg e];rw [uB h (by omega),List.drop_zero]
 simp only [aL,bI,Pz,if_true,s_,kq,Vq,N6,bO,AV.cells,Option.bind_some,Int.toNat_natCast,h2,Option.map_some,List.length_cons,List.length_nil,List.all_cons,List.all_nil,Uf,Bool.and_self,Nat.zero_add,Nat.reduceAdd];rw [if_neg i]
theorem V4:Extern.find Tryz.f300=some (Extern.SlicesOverlaps.overlaps #[az,az] #[vX]):=by kernel_rfl
theorem V5:Extern.findNext Tryz.f300=none:=by kernel_rfl
theorem V6 : (Tryz.f300.name == "runtime.NumGoroutine") = false := by kernel_rfl
theorem V7:Tryz.f300.body.isNone=true:=by kernel_rfl
theorem Ol {a b:Nat} (h:a+b<=2 ^ 40):IntKind.i64.wrap ((a:Int)+(b:Int))=((a+b:Nat):Int):=by
 rw [IntWalk.i64_in _ (by omega)];rfl
theorem V8 {a b:Nat} (h:a<=2 ^ 40) (hb:b<=a):IntKind.i64.wrap ((a:Int) - (b:Int))=((a - b:Nat):Int):=by
 rw [IntWalk.i64_in _ (by omega)];omega
def QV (cs V:List AV) (i len:Nat):List AV:=cs.take (i*2)++V++(cs.drop (i*2)).take ((len - i)*2)
set_option maxRecDepth 20000 in
theorem Om {s:AS} {l lb cap len i m mc ob gb:Nat} {cs bs:List AV} {eb:Bool} (hl:s.h l=some (.cells cs 2 false)) (bm:cap*2=cs.length) (hlen:len<=cap) (hi:i<len) (hm:0<m) (a6:l≠lb)
  (hb:s.h lb=some (.cells bs gb false)) (a7:gb≠1) (W:ob+m*2<=bs.length) (bo:len+m<=2 ^ 30) (bx:1<=s.st) :
  aa Tryz.prog ep [.slc (some (l,0)) len cap false,.int .i64 (i:Nat),.slc (some (lb,ob)) m mc eb] s
   fun v s'=>v=.slc (some (s.nl+2*s.st,0)) (len+m) (len+m) false/\s'=s.DH l 2 (.cells (QV cs ((bs.drop ob).take (m*2)) i len) 2 false):=by
 refine aa.VP (sz:=2) hl (by decide) (by omega) ?_;intro x js a8 b0 D;have hN:s.h s.nl=none:=by have:=D 0;simpa using this
 have X:s.h (s.nl+s.st)=none:=by have:=D 1;simpa using this
 have F:lb≠s.nl:=fun e=>by rw [e,hN] at hb;cases hb
 have Y:lb≠s.nl+s.st:=fun e=>by rw [e,X] at hb;cases hb
 have b1:l≠s.nl:=fun e=>by rw [e,hN] at hl;cases hl
 generalize hS:(s.kill l).new (.cells (cs++js) 2 false)=S;have A:S.h s.nl=some (.cells (cs++js) 2 false):=by rw [<- hS,AS.oW _ rfl];simp [AS.oL]
 have L:S.h lb=some (.cells bs gb false):=by rw [<- hS,AS.oW _ rfl,AS.sq];simp [AS.oL,F,Ne.symm a6,hb]
 have ao:∀ k ob,k≠l->s.h k=some ob->S.h k=some ob:=by
  intro k p hk G;rw [<- hS,AS.oW _ rfl,AS.sq,AS.oL];rw [if_neg (fun e=>by rw [e,hN] at G;cases G),if_neg hk];exact G
 have d:S.nl=s.nl+s.st:=by rw [<- hS];rfl
 have ar:S.st=s.st:=by rw [<- hS];rfl
 have M:(cs++js).length=(cap+x)*2:=by rw [List.length_append,a8];omega
 generalize hC:cs++js=C at A M;generalize hV:(bs.drop ob).take (m*2)=V;have w:V.length=m*2:=by rw [<- hV,List.length_take,List.length_drop];omega
 have R:V≠[]:=by intro e;rw [e] at w;simp at w;omega
 have f1:=Oj (a:=s.nl) (o:=0) (n:=len) (c:=cap+x) (i:=i) (by omega) (by omega) (by omega);simp only [Nat.zero_add] at f1;have f2:((m:Int)==0)=false:=by simp;omega
 have f3:((i:Int)==(len:Int))=false:=by simp;omega
 have f4:IntKind.i64.wrap ((len:Int)+(m:Int))=((len+m:Nat):Int):=Ol (by omega);have lB:∀ (a:Option (Nat×Nat)) (n c:Nat) (e:Bool) (s':AS),aQ T az (.slc a n c e) s'=some (.int .i64 (n:Nat)):=by intros;simp [aQ,bI]
 have cB:vZ T az (.slc (some (s.nl,0)) len (cap+x) true)=some (.int .i64 ((cap+x:Nat):Int)):=by simp [vZ,bI]
 refine jP _ _ _ _ _ ⟨_,f1,_,lB _ _ _ _ _,af.no f2 ⟨_,lB _ _ _ _ _,af.no f3 ⟨_,cB,?_⟩⟩⟩;dsimp only;rw [f4];have aw:aC S s.nl (i*2) ((len - i)*2)=some ((C.drop (i*2)).take ((len - i)*2)):=uB A (by omega);generalize H:(C.drop (i*2)).take ((len - i)*2)=Tl at aw;have r:Tl.length=(len - i)*2:=by rw [<- H,List.length_take,List.length_drop];omega
 have I:Tl≠[]:=by intro e;rw [e] at r;simp at r;omega
 have b2:aC S lb ob (m*2)=some V:=by rw [uB L W,hV]
 have ab:∀ k,k<len*2->C[k]? = cs[k]? := by
  intro k hk;rw [<- hC,List.getElem?_append_left (by omega)]
 have J:Tl=(cs.drop (i*2)).take ((len - i)*2):=by
  rw [<- H];apply List.ext_getElem?;intro k;rw [List.getElem?_take,List.getElem?_take,List.getElem?_drop,List.getElem?_drop];split
  ·exact ab _ (by omega)
  ·rfl
 refine af.dec (fun O=>?_) (fun O=>?_)
 ·have ad:cap+x<len+m:=by omega
  have a9:=SN (a:=s.nl) (o:=0) (n:=len) (c:=cap+x) (i:=i) (by omega);have a':IntKind.i64.wrap (((len+m:Nat):Int) - (i:Int))=((len+m - i:Nat):Int):=V8 (by omega) (by omega);have Q:=XL (k:=len+m - i) (n:=i) (c:=cap+x) A (by omega) (by omega) (by omega);rw [show i+(len+m - i)=len+m by omega] at Q;generalize hZ:C.take (i*2)++rep (len+m - i) [AV.int .i64 0,AV.int .u64 0]=Z at Q;have b3:Z.length=(len+m)*2:=by rw [<- hZ,List.length_append,List.length_take,uw];simp;omega
  generalize K:S.new (.cells Z 2 false)=S3 at Q;have ba:S3.h S.nl=some (.cells Z 2 false):=by rw [<- K,AS.oW _ rfl,if_pos rfl]
  have U:s.nl≠S.nl:=by rw [d];omega
  have bb:S3.h s.nl=some (.cells C 2 false):=by rw [<- K,AS.oW _ rfl,if_neg U];exact A
  have bc:S3.h lb=some (.cells bs gb false):=by rw [<- K,AS.oW _ rfl,if_neg (by rw [d];exact Y)];exact L
  have a0:=PE (a:=S.nl) (o:=0) (n:=len+m) (c:=len+m) (i:=i) (by omega) (by omega) (by omega);have a1:=AY (a:=S.nl) (b:=lb) (o:=i*2) (o2:=ob) (n:=len+m - i) (n2:=m) (c:=len+m - i) (c2:=mc) (e:=false) (e2:=eb) (new:=V) ba (by rw [show min m (len+m - i)=m by omega,uB bc W,hV]) R (by omega);generalize j:S3.put S.nl (.cells (qC Z (i*2) V) 2 false)=S4 at a1;have ae:S4.h S.nl=some (.cells (qC Z (i*2) V) 2 false):=by rw [<- j,AS.oV _ _ rfl,if_pos rfl]
  have bd:S4.h s.nl=some (.cells C 2 false):=by rw [<- j,AS.oV _ _ rfl,if_neg U];exact bb
  have be:IntKind.i64.wrap ((i:Int)+(m:Int))=((i+m:Nat):Int):=Ol (by omega);have a2:=PE (a:=S.nl) (o:=0) (n:=len+m) (c:=len+m) (i:=i+m) (by omega) (by omega) (by omega);have a3:=AY (a:=S.nl) (b:=s.nl) (o:=(i+m)*2) (o2:=i*2) (n:=len+m - (i+m)) (n2:=len - i) (c:=len+m - (i+m)) (c2:=cap+x - i) (e:=false) (e2:=true) (new:=Tl) ae (by rw [show min (len - i) (len+m - (i+m))=len - i by omega,uB bd (by omega),H]) I (by rw [iu];omega);simp only [Nat.zero_add] at a0 a2;generalize y:S4.put S.nl (.cells (qC (qC Z (i*2) V) ((i+m)*2) Tl) 2 false)=S5 at a3;refine ⟨_,a9,?_⟩;dsimp only;rw [a'];refine ⟨_,_,Q,_,a0,_,_,a1,?_⟩;dsimp only;rw [be];refine ⟨_,a2,_,f1,_,_,a3,?_⟩;have al:S5.h S.nl=some (.cells (qC (qC Z (i*2) V) ((i+m)*2) Tl) 2 false):=by rw [<- y,AS.oV _ _ rfl,if_pos rfl]
  have z:∀ k ob,k≠l->s.h k=some ob->S5.h k=some ob:=by
   intro k p hk G;have B:k≠S.nl:=fun e=>by rw [e,d,X] at G;cases G
   rw [<- y,AS.oV _ _ rfl,if_neg B,<- j,AS.oV _ _ rfl,if_neg B,<- K,AS.oW _ rfl,if_neg B];exact ao k p hk G
  refine ⟨⟨2,Nat.le_refl 2,?_⟩,z,.inr ⟨S.nl,rfl,by rw [d];exact X,?_,?_⟩⟩
  ·rw [<- y,AS.B8,<- j,AS.B8,<- K,AS.um,d,ar];omega
  ·rw [al];congr 2;unfold QV;rw [<- J];apply List.ext_getElem?;intro k;rw [jW _ _ _ _ (by rw [iu];omega),jW _ _ _ _ (by omega),r,w];rw [List.getElem?_append,List.getElem?_append,List.length_append,List.length_take,w];by_cases k1:k<i*2
   ·rw [if_neg (by omega),if_neg (by omega),if_pos (by omega),if_pos (by omega),<- hZ,List.getElem?_append_left (by rw [List.length_take];omega),List.getElem?_take,List.getElem?_take,if_pos k1,if_pos k1];exact ab k (by omega)
   ·by_cases k2:k<(i+m)*2
    ·rw [if_neg (by omega),if_pos (by omega),if_pos (by omega),if_neg (by omega)];congr 1;omega
    ·by_cases k3:k<(len+m)*2
     ·rw [if_pos (by omega),if_neg (by omega)];congr 1;omega
     ·rw [if_neg (by omega),if_neg (by omega),if_neg (by omega),List.getElem?_eq_none (by omega),List.getElem?_eq_none (by omega)]
  ·unfold QV;rw [<- J,List.length_append,List.length_append,List.length_take,w,r];omega
 ·have ad:¬ cap+x<len+m:=by omega
  have bh:=SN (a:=s.nl) (o:=0) (n:=len) (c:=cap+x) (i:=len+m) (by omega);have bi:IntKind.i64.wrap ((i:Int)+(m:Int))=((i+m:Nat):Int):=Ol (by omega);have am:=Oj (a:=s.nl) (o:=0) (n:=len+m) (c:=cap+x) (i:=i+m) (by omega) (by omega) (by omega);have an:=Oj (a:=s.nl) (o:=0) (n:=len+m) (c:=cap+x) (i:=i) (by omega) (by omega) (by omega);simp only [Nat.zero_add] at am an;have bj:aC S s.nl (i*2) (min (len+m - i) (len+m - (i+m))*2)=some Tl:=by rw [show min (len+m - i) (len+m - (i+m))=len - i by omega];exact aw
  have a4:=AY (a:=s.nl) (b:=s.nl) (o:=(i+m)*2) (o2:=i*2) (n:=len+m - (i+m)) (n2:=len+m - i) (c:=cap+x - (i+m)) (c2:=cap+x - i) (e:=true) (e2:=true) (new:=Tl) A bj I (by omega);generalize j:S.put s.nl (.cells (qC C ((i+m)*2) Tl) 2 false)=S4 at a4;have ae:S4.h s.nl=some (.cells (qC C ((i+m)*2) Tl) 2 false):=by rw [<- j,AS.oV _ _ rfl,if_pos rfl]
  have bk:S4.h lb=some (.cells bs gb false):=by rw [<- j,AS.oV _ _ rfl,if_neg F];exact L
  have a5:=AY (a:=s.nl) (b:=lb) (o:=i*2) (o2:=ob) (n:=len+m - i) (n2:=m) (c:=cap+x - i) (c2:=mc) (e:=true) (e2:=eb) (new:=V) ae (by rw [show min m (len+m - i)=m by omega,uB bk W,hV]) R (by rw [iu];omega);generalize y:S4.put s.nl (.cells (qC (qC C ((i+m)*2) Tl) (i*2) V) 2 false)=S5 at a5;have bl:=DG (g:=mR) (tR:=vX) (na:=m) (ca:=mc) (ea:=eb) (oa:=ob) (ob:=(i+m)*2) (nb:=len+m - (i+m)) (cb:=cap+x - (i+m)) (eb:=true) hT Tryz.func300 V6 V7 V5 V4 bI kq L a7 A (by intro e;rw [e] at M;simp at M;omega) F;refine ⟨_,bh,?_⟩;dsimp only;rw [bi];refine ⟨_,am,bl.mono ?_⟩;rintro v s' ⟨rfl,rfl⟩;refine ⟨_,rfl,af.yes rfl ⟨_,am,_,an,_,_,a4,_,an,_,_,a5,?_⟩⟩;have al:S5.h s.nl=some (.cells (qC (qC C ((i+m)*2) Tl) (i*2) V) 2 false):=by rw [<- y,AS.oV _ _ rfl,if_pos rfl]
  have z:∀ k ob,k≠l->s.h k=some ob->S5.h k=some ob:=by
   intro k p hk G;have B:k≠s.nl:=fun e=>by rw [e,hN] at G;cases G
   rw [<- y,AS.oV _ _ rfl,if_neg B,<- j,AS.oV _ _ rfl,if_neg B];exact ao k p hk G
  refine ⟨⟨1,by omega,?_⟩,z,.inl ⟨rfl,by omega,_,al,?_,?_⟩⟩
  ·rw [<- y,AS.B8,<- j,AS.B8,d];omega
  ·rw [iu,iu,M];omega
  ·unfold QV;rw [<- J];apply List.ext_getElem?;intro k;rw [List.getElem?_take,List.drop_zero,jW _ _ _ _ (by rw [iu];omega),jW _ _ _ _ (by omega),r,w];rw [List.getElem?_append,List.getElem?_append,List.length_append,List.length_take,w];by_cases k1:k<i*2
   ·rw [if_pos (by omega),if_neg (by omega),if_neg (by omega),if_pos (by omega),if_pos (by omega),List.getElem?_take,if_pos k1];exact ab k (by omega)
   ·by_cases k2:k<(i+m)*2
    ·rw [if_pos (by omega),if_pos (by omega),if_pos (by omega),if_neg (by omega)];congr 1;omega
    ·by_cases k3:k<(len+m)*2
     ·rw [if_pos (by omega),if_neg (by omega),if_pos (by omega),if_neg (by omega)];congr 1;omega
     ·rw [if_neg (by omega),if_neg (by omega),List.getElem?_eq_none (by omega)]
end Go.Proofs.YtohgmogbabkkeaaGreat
end

section
namespace Go.Proofs.YtohgmogbabkkeaaGreat
open Go.Am Go.av
theorem QW {s:AS} {v:AV} {l:List aJ} {d:aJ} {i lb:Nat} (g:bq aI 2 s v l) (hb:s.h lb=some (.cells (aI d) 0 false)) (hi:i<=l.length) (A:l.length+1<=2 ^ 30) :
  aa Tryz.prog ep [v,.int .i64 (i:Nat),.slc (some (lb,0)) 1 1 true] s fun r s'=>bq aI 2 s' r (l.take i++d::l.drop i)/\bz (ax v) s s'/\(∀ la∈ax r,la∈ax v\/s.h la=none):=by
 refine aa.pre fun n=>?_;have j:=g.sl bn;have k:Hw s (.slc (some (lb,0)) 1 1 true) [d]:=ct.mk ⟨_,_,hb⟩ rfl rfl;by_cases B:i=l.length
 ·subst B;have b:v≠.emp:=by rcases g with ⟨_,a,rfl⟩ | ⟨la,rfl,_⟩ <;> (intro h;cases h)
  obtain ⟨w,D,_⟩:=j.from bn bI kq b (Nat.le_refl _) .i64
  obtain ⟨v',s',h2,h3,h4,H,F⟩:=bq.append iR bn mW n g k (by simpa using A) bI;refine jP _ _ _ _ _ ⟨_,D,_,k.cJ bI _,af.no rfl ⟨_,j.cJ bI _,af.yes (by simp) ⟨_,_,h2,?_,h4,F⟩⟩⟩;rw [List.take_of_length_le (Nat.le_refl _),List.drop_of_length_le (Nat.le_refl _)];exact h3
 ·rcases g with ⟨rfl,_⟩ | ⟨la,rfl,c⟩
  ·simp at hi;subst hi;exact absurd rfl B
  ·have b:la≠lb:=by
    rintro rfl;rw [hb] at c;simp at c
   refine (Om (i:=i) c (by rw [ek bn]) (Nat.le_refl _) (by omega) (by omega) b hb (by decide) (by simp [aI]) A n.1).mono ?_;rintro r s' ⟨rfl,rfl⟩;have m:s.h (s.nl+2*s.st)=none:=n.2 2;have p:QV (l.flatMap aI) (((aI d).drop 0).take (1*2)) i l.length=(l.take i++d::l.drop i).flatMap aI:=by
    unfold QV;rw [tH bn,qH bn,show ((l.drop i).flatMap aI).take ((l.length - i)*2)=(l.drop i).flatMap aI from List.take_of_length_le (by rw [ek bn,List.length_drop];exact Nat.le_refl _)];simp [aI]
   refine ⟨.inr ⟨s.nl+2*s.st,?_,?_⟩,⟨fun x o G z=>?_,?_⟩,fun y C=>?_⟩
   ·have:(l.take i++d::l.drop i).length=l.length+1:=by simp;omega
    rw [this]
   ·rw [AS.Ch _ _ _ rfl,if_pos rfl,p]
   ·rw [AS.Ch _ _ _ rfl,if_neg (fun e=>by rw [e,m] at z;cases z),if_neg (by simpa [ax] using G)];exact z
   ·show s.nl<=s.nl+2*s.st+s.st;omega
   ·simp only [ax,List.mem_singleton] at C;subst C;exact .inr m
def lP (v:List Int) (ex:List aJ) (d:aJ):Bool×Int×List Int×List aJ :=
 if d.may=false then (false,2,v,ex)
 else if ff v ex d then (false,0,v,ex)
 else if 4096<(compact v (ins ex d)).2.length then (false,5,v,ex)
 else (true,0,compact v (ins ex d))
theorem L9 {s:AS} {p:Nat} {v:List Int} {ex:List aJ} (h:w_ s p v ex) (hv:FE v) (hr:ef ex) (hm:∀ d∈ex,d.may=true) (hn:ex.length+1<2 ^ 30) (d:aJ) :
  aa Tryz.prog sE [.ptr (some (p,0)),.agg (aI d)] s fun r s'=>r=.aN [.bool (lP v ex d).1,.int .i64 (lP v ex d).2.1]/\w_ s' p (lP v ex d).2.2.1 (lP v ex d).2.2.2/\bz [p] s s'/\((lP v ex d).1=false->Ext s s')/\((lP v ex d).1=true->u5 s s' p (lP v ex d).2.2.1 (lP v ex d).2.2.2):=by
 refine aa.pre fun hw=>Hp _ _ _ _ ⟨rfl,aj.intro hw rfl fun l1 s2 F1=>?_⟩;refine aa.use (u0 (h.ext F1.ext)) ?_;rintro r s4 ⟨rfl,rfl⟩ bj;refine ⟨_,rfl,af.no rfl ⟨_,F1.own.at.aC (by simp [aI]),?_⟩⟩;refine aa.use (ru d _) ?_;rintro r s8 ⟨rfl,e8⟩ bk;have E8:=F1.ext.trans e8;refine ⟨_,rfl,af.mk (fun hd=>?_) (fun hd=>?_)⟩
 ·simp only [Bool.not_eq_true'] at hd;have:lP v ex d=(false,2,v,ex):=by simp [lP,hd]
  rw [this];exact ⟨rfl,h.ext E8,E8.mut,(fun _=>E8),fun h=>absurd h (by simp)⟩
 simp only [Bool.not_eq_false'] at hd;refine ⟨_,(F1.own.ext e8).at.aC (by simp [aI]),?_⟩;refine aa.use (zn (h.ext E8) hr (by omega) d) ?_;rintro r dH ⟨rfl,W⟩ an;have j:=E8.trans W;refine ⟨_,rfl,af.mk (fun hh=>?_) (fun hh=>?_)⟩
 ·have:lP v ex d=(false,0,v,ex):=by simp [lP,hd,hh]
  rw [this];exact ⟨rfl,h.ext j,j.mut,(fun _=>j),fun h=>absurd h (by simp)⟩
 have bh:d ∉ ex:=by
  intro a4;simp [ff,hd,a4] at hh
 obtain ⟨O,w,h2,h3,h4⟩:=h;have hlen:=AX O w;refine ⟨_,(h2.ext j).at.aC (by rw [hlen];omega),?_⟩;have hg:((v.map (AV.int .u64)++[w,.bool true]).drop 0).take 18=v.map (AV.int .u64)++[w,.bool true]:=by
  rw [List.drop_zero,List.take_of_length_le (by rw [hlen];exact Nat.le_refl _)]
 rw [hg];refine kj an hlen rfl (by simp [h3]) fun G jl B=>?_;have X:=j.trans B.ext;refine ⟨fun _ _ _ _=>True,fun _ _ r=>r=.aN [.int .i64 (pos ex d:Nat),.bool (decide (d∈ex))],fun _ _ _ _ _ _ _=>trivial,w,by rw [(h2.ext X).at.au];exact Cy O w,_,(F1.own.ext (e8.trans (W.trans B.ext))).at.aC (by simp [aI]),fun bl a5 _ _=>?_,⟨_,rfl⟩,?_⟩
 ·refine (Ga (h4.ext (X.trans a5)) (by omega) hr d).mono ?_;rintro r s' ⟨rfl,e⟩;exact ⟨_,_,rfl,e,trivial,rfl⟩
 rintro r rfl;refine ⟨_,_,rfl,fun Q Y _ _=>?_⟩;have H:=X.trans Y;have Z:=B.own.ext Y;refine ⟨fun i _ r s'=>(i=4->aV aI 2 [] Q s' r ex)/\(i=7->∃ lb,r=.slc (some (lb,0)) 1 1 true/\s'.h lb=some (.cells (aI d) 0 false)),fun i _ r=>i=7->∃ lb,r=.slc (some (lb,0)) 1 1 true,?_,w,by rw [(h2.ext H).at.au];exact Cy O w,fun oB ab _ _=>?_,⟨.undef,(fun h=>by cases h)⟩,fun x_ _=>⟨_,(F1.own.ext (e8.trans (W.trans (B.ext.trans Y)))).at.aC (by simp [aI]),?_⟩⟩
 ·rintro i k r s s' e ⟨ha,hb⟩;refine ⟨fun hi=>(ha hi).step e,fun hi=>?_⟩;obtain ⟨lb,O,h2⟩:=hb hi;exact ⟨lb,O,e.1 _ _ h2⟩
 ·refine (L8 (h4.ext (H.trans ab)) (by omega)).mono fun r s' g=>⟨g.eC.ext,⟨(fun _=>⟨g.tI,ab.mut.trans g.eC,fun la ad=>ab.none (g.new la ad)⟩),(fun h=>by cases h)⟩,(fun h=>by cases h)⟩
 refine ⟨fun bm bo a6 _=>⟨_,kL iR (c:=aI d) rfl rfl,?_⟩,⟨.slc (some (0,0)) 1 1 true,fun _=>⟨0,rfl⟩⟩,fun a7 bi ao I _ hS=>?_⟩
 ·exact aj.intro a6 rfl fun l bs F=>⟨F.ext,⟨(fun h=>by cases h),fun _=>⟨l,rfl,F.at⟩⟩,fun _=>⟨l,rfl⟩⟩
 obtain ⟨ar,lb,rfl,a8⟩:aV aI 2 [] Q ao x_ ex/\∃ lb,a7=.slc (some (lb,0)) 1 1 true/\ao.h lb=some (.cells (aI d) 0 false):=⟨hS.1.1 rfl,hS.2.1.2 rfl⟩;refine aa.use (QW ar.tI a8 (JA ex d) (by omega)) ?_;rintro r bx ⟨ae,K,a9⟩ aw;have m:∀ x,(∃ o,Q.h x=some o)->x ∉ ax x_:=by
  rintro x ⟨o,J⟩ A;rw [ar.new x A] at J;cases J
 have al:∀ x,(∃ o,Q.h x=some o)->x ∉ ax r:=by
  rintro x ⟨o,J⟩ A;rcases a9 x A with h | h
  ·exact m x ⟨o,J⟩ h
  ·rw [I.1 _ _ J] at h;cases h
 have a0:=(Z.ext I).mut K (m G ⟨_,Z⟩);have R:r.one=true:=by rcases ae with ⟨_,a,rfl⟩ | ⟨la,rfl,_⟩ <;> rfl
 refine cS R AJ (bu.own aw a0 (by rw [hlen];simp) fun a' P=>?_);have a1:(ex.take (pos ex d)++d::ex.drop (pos ex d))=ins ex d:=rfl;rw [a1] at ae;have hP:=P.at;rw [fF,List.set_append_right _ _ (by simp [O])] at hP;simp only [List.length_map,O,Nat.sub_self,List.set_cons_zero] at hP;have ba:w_ a' G v (ins ex d):=⟨O,r,hP,R,(ae.mut (L:=[G]) P.mut (fun x A=>by simp only [List.mem_singleton];rintro rfl;exact al _ ⟨_,Z⟩ A)).sl bn⟩;have bb:∀ x∈ins ex d,x.may=true:=by
  intro x A;rcases uH.1 A with rfl | A
  ·exact hd
  ·exact hm x A
 refine aa.use (DY ba hv bb (by rw [xU];omega)) ?_;rintro r2 G8 ⟨rfl,bc,am⟩ a2;have hp:Am.Own G8 p (v.map (.int .u64)++[w,.bool true]):=by
  have S:=h2.ext H;have D:p ∉ [G]:=by
   simp only [List.mem_singleton];rintro rfl;have:=B.no;rw [h2.ext j] at this;cases this
  exact ((((S.ext I).mut K (m p ⟨_,S⟩)).mut P.mut D).mut am D)
 have z:bz [p] s G8:=by
  refine ⟨fun x o A J=>?_,?_⟩
  ·have M:=H.1 _ _ J;have D:x ∉ [G]:=by
    simp only [List.mem_singleton];rintro rfl;have:=B.no;rw [j.1 _ _ J] at this;cases this
   exact am.1 _ _ D (P.mut.1 _ _ D (K.1 _ _ (m x ⟨_,M⟩) (I.1 _ _ M)))
  ·exact Nat.le_trans H.2 (Nat.le_trans I.2 (Nat.le_trans K.2 (Nat.le_trans P.mut.2 am.2)))
 obtain ⟨k1,w',k2,k3,kg,kn⟩:=bc;have k4:=kg.sl bn;have a3:∀ la∈ax w',s.h la=none:=by
  intro la ad;cases hq:s.h la with
  | none=>rfl
  | some o =>
   exfalso;have M:=H.1 _ _ hq;have D:la ∉ [G]:=by
    simp only [List.mem_singleton];rintro rfl;have:=B.no;rw [j.1 _ _ hq] at this;cases this
   have:=P.mut.1 _ _ D (K.1 _ _ (m la ⟨_,M⟩) (I.1 _ _ M));rw [kn la ad] at this;cases this
 refine ⟨rfl,w',by rw [k2.at.au];exact Cy k1 w',_,k4.cJ bI _,af.dec (fun b0=>?_) (fun hle=>?_)⟩
 ·have:lP v ex d=(false,5,v,ex):=by
   simp only [lP,hd,hh,Bool.true_eq_false,Bool.false_eq_true,if_false];rw [if_pos (by omega)]
  rw [this];refine ⟨rfl,⟨O,w,hp,h3,?_⟩,z,(fun _=>⟨fun x o J=>?_,z.2⟩),fun h=>absurd h (by simp)⟩;rotate_left
  ·by_cases A:x=p
   ·subst A;rw [show s.h x=_ from h2] at J;rw [<- J];exact hp
   ·exact z.1 x o (by simpa using A) J
  refine Sl.mut h4 z bn (by decide) fun q hq C hC x A i c hc he=>?_;obtain rfl:q=p:=by simpa using hq
  obtain rfl:=hC.inj h2.at;simp only [aI,List.getElem?_cons_zero,Option.some.injEq] at hc;subst hc;rcases List.mem_append.1 (List.mem_of_getElem? he) with h | h
  ·obtain ⟨y,_,hy⟩:=List.mem_map.1 h;cases hy
  ·rcases List.mem_cons.1 h with rfl | h
   ·exact qq h4 _ _ rfl
   ·simp at h
 ·have:lP v ex d=(true,0,compact v (ins ex d)):=by
   simp only [lP,hd,hh,Bool.true_eq_false,Bool.false_eq_true,if_false];rw [if_neg (by omega)]
  rw [this];have b:=AX k1 w';have bd:(((compact v (ins ex d)).1.map (AV.int .u64)++[w',.bool true]).drop 0).take 18=(compact v (ins ex d)).1.map (AV.int .u64)++[w',.bool true]:=by
   rw [List.drop_zero,List.take_of_length_le (by rw [b];exact Nat.le_refl _)]
  refine ⟨_,k2.at.aC (by rw [b];omega),?_⟩;rw [bd];refine ⟨⟨by simp [k3],by rw [b]⟩,bu.own a2 hp (by rw [hlen,b];omega) fun be P2=>?_⟩;have U:Am.Own be p ((compact v (ins ex d)).1.map (AV.int .u64)++[w',.bool true]):=by
   have:=P2.at;rw [dD (by rw [hlen,b])] at this;exact this
  refine ⟨rfl,⟨k1,w',U,k3,?_⟩,z.trans P2.mut,(fun h=>absurd h (by simp)),fun _=>⟨k1,w',U,k3,kg.mut P2.mut fun x A hm=>?_,a3⟩⟩;rotate_left
  ·obtain rfl:=List.mem_singleton.1 hm;have:=a3 x A;rw [h2] at this;cases this
  ·refine Cz k4 hp.at (x:=[w,.bool true]) ?_ P2.mut;intro y hy n;rcases List.mem_cons.1 hy with rfl | hy
   ·exact qq h4 _ _
   ·obtain rfl:y=.bool true:=by simpa using hy
    intro h;cases h
end Go.Proofs.YtohgmogbabkkeaaGreat
end

section
namespace Go.Proofs.YtohgmogbabkkeaaGreat
open Go.Am Go.av
def zo (v:List Int) (ex:List aJ) (d:aJ):List Int×List aJ:=if ff v ex d then (v,ex) else compact v (ins ex d)
end Go.Proofs.YtohgmogbabkkeaaGreat
end

section
namespace Go.Proofs.YtohgmogbabkkeaaGreat
open Go.Am Go.av
theorem own:ownKnob Tryz.prog.godebug=none:=by kernel_rfl
set_option maxRecDepth 100000
theorem laid:laidOutB Tryz.prog=true:=by kernel_rfl
end Go.Proofs.YtohgmogbabkkeaaGreat
end

section
namespace Go.Proofs.YtohgmogbabkkeaaGreat
open Go.Am Go.av Go.ChangeShapes Go.WideShapes Go.ChangeAt Go.RowKit
structure L_ (v:List Int) (ex:List aJ):Prop where
 v:FE v
 r:ef ex
 m:∀ d∈ex,d.may=true
theorem L_.add {v:List Int} {ex:List aJ} (h:L_ v ex) {d:aJ} (hd:d.may=true):L_ (zo v ex d).1 (zo v ex d).2:=by
 unfold zo;split
 ·exact h
 ·rename_i j;have b:d ∉ ex:=fun i=>j (by simp [ff,hd,i]);have c:∀ x∈ins ex d,x.may=true:=by
   intro x e;rcases uH.1 e with rfl | e
   ·exact hd
   ·exact h.m x e
  have hs:=rT v (ins ex d);exact ⟨NV h.v c,(h.r.ins b).sub hs,fun x e=>c x (hs.subset e)⟩
theorem SO {v:List Int} {ex:List aJ} {d:aJ}:(zo v ex d).2.length<=ex.length+1:=by
 unfold zo;split
 ·simp
 ·have:=(rT v (ins ex d)).length_le;rw [xU] at this;exact this
theorem SP {v:List Int} {ex:List aJ} {d:aJ} (hd:d.may=true) (c:ex.length<4096):lP v ex d=(!ff v ex d,0,zo v ex d):=by
 have b:=(rT v (ins ex d)).length_le;rw [xU] at b;unfold lP zo;rw [hd];simp only [Bool.true_eq_false,if_false];cases ff v ex d with
 | true=>simp
 | false=>simp only [Bool.false_eq_true,if_false,Bool.not_false];rw [if_neg (by omega)]
theorem L_.zero:L_ fo []:=⟨⟨rfl,by decide⟩,List.Pairwise.nil,by simp⟩
theorem Ext.wr {s s1 s2:AS} {p:Nat} (e:Ext s s1) (c:s.h p=none) (m:bz [p] s1 s2):Ext s s2 :=
 ⟨fun x o b=>m.1 x o (by simp only [List.mem_singleton];rintro rfl;rw [c] at b;cases b) (e.1 x o b),Nat.le_trans e.2 m.2⟩
end Go.Proofs.YtohgmogbabkkeaaGreat
end

section
namespace Go.Proofs.YtohgmogbabkkeaaGreat
open Go.Am Go.av Go.ChangeShapes Go.WideShapes Go.ChangeAt Go.RowKit
structure Xu (v:List Int):Prop where
 len:v.length=16
 Xs:∀ x∈v,0<=x/\x<=18446744073709551615
theorem V9:places T ov=some [(0,16),(16,1),(17,1)]:=by kernel_rfl
theorem On {l:List AV} (h:l.all AV.one=true):bO (.agg l)=some l:=by rw [NL,if_pos h]
theorem Ma {v:AV} (h:v.one=true):bO v=some [v]:=by cases v <;> first | rfl | cases h
theorem QX {v:List Int} (h:v.length=16) {w:AV} (b:w.one=true):aS T ov [(0,.agg (v.map (.int .u64))),(1,w),(2,.bool true)]=some (.agg (v.map (.int .u64)++[w,.bool true])):=by
 rw [qI V9 N7 rfl];have d:=nS (pl:=fun i=>[(0,16),(16,1),(17,1)][i]?) (pre:=[]) (mid:=fo.map (.int .u64)) (post:=[.slc none 0 0 true,.bool false]) (c:=v.map (.int .u64)) (i:=0) (sz:=16) (v:=.agg (v.map (.int .u64))) (rest:=[(1,w),(2,.bool true)]) rfl (On (cq _ _)) (by simp [h]) rfl;have e1:=nS (pl:=fun i=>[(0,16),(16,1),(17,1)][i]?) (pre:=v.map (.int .u64)) (mid:=[.slc none 0 0 true]) (post:=[.bool false]) (c:=[w]) (i:=1) (sz:=1) (v:=w) (rest:=[(2,.bool true)]) (by simp [h]) (Ma b) rfl rfl;have e2:=nS (pl:=fun i=>[(0,16),(16,1),(17,1)][i]?) (pre:=v.map (.int .u64)++[w]) (mid:=[.bool false]) (post:=[]) (c:=[.bool true]) (i:=2) (sz:=1) (v:=.bool true) (rest:=[]) (by simp [h]) rfl rfl rfl;refine (congrArg (Option.map AV.agg) d).trans ?_;simp only [List.nil_append];rw [show v.map (AV.int .u64)++[.slc none 0 0 true,.bool false]=v.map (AV.int .u64)++[.slc none 0 0 true]++[.bool false] by simp,e1];rw [show v.map (AV.int .u64)++[w]++[.bool false]=v.map (AV.int .u64)++[w]++[.bool false]++[] by simp,e2];simp [jt]
theorem Ux {v:List Int} (h:v.length=16) {i:Nat} (hi:i<16):ju T aZ (.agg (v.map (.int .u64))) (.int .i64 (i:Nat))=some (.int .u64 (v.getD i 0)):=by
 have:(0:Int)<=(i:Int)/\(i:Int)<((16:Nat):Int):=by omega
 simp only [ju,wT,jM,Option.bind_some,if_pos this,Cg Co,Int.toNat_natCast,Nat.mul_one,List.getElem?_map];rw [List.getElem?_eq_getElem (by omega),List.getD_eq_getElem?_getD,List.getElem?_eq_getElem (by omega)];rfl
end Go.Proofs.YtohgmogbabkkeaaGreat
end

section
namespace Go.Proofs.YtohgmogbabkkeaaGreat
open Go.Am Go.av Go.ChangeShapes Go.WideShapes Go.ChangeAt Go.RowKit
theorem Uy {s b:AS} {v:AV} {l:List aJ} (e:Ext s b) (h:Hw b v l) (d:l.length<=2 ^ 30):aa Tryz.prog aH [v] b fun r s'=>Ext b s'/\(bq aI 2 s' r l/\(∀ la∈ax r,s.h la=none)/\r≠.emp/\r.one=true):=by
 refine (L8 h d).mono ?_;intro r s' g;exact ⟨g.eC.ext,g.tI,fun la c=>e.none (g.new la c),g.jh⟩
end Go.Proofs.YtohgmogbabkkeaaGreat
end

section
namespace Go.Proofs.YtohgmogbabkkeaaGreat
open Go.Am Go.av Go.ChangeShapes Go.WideShapes Go.ChangeAt Go.RowKit
theorem Mb:∀ (l:List aJ) (st:List Int×List aJ),FE st.1->ef l->(∀ d∈l,d.may=true) ->
  (∀ y∈st.2,y.may=true/\st.1.getD (y.r - 1).toNat 0+1<y.c/\∀ d∈l,y.lt d=true) ->
  ∀ y∈(l.foldl gl st).2,(l.foldl gl st).1.getD (y.r - 1).toNat 0+1<y.c
 | [],st,hv,hr,hm,h=>fun y b=>(h y b).2.1
 | d::l,st,hv,hr,hm,h=>by
  have hd:=aJ.gQ.1 (hm d (by simp));obtain ⟨k,m⟩:=List.pairwise_cons.1 hr;refine Mb l (gl st d) (FF hv (hm d (by simp))) m (fun x i=>hm x (by simp [i])) ?_;intro y b;unfold gl at b ⊢;split at b
  ·rename_i n;rw [if_pos n];exact ⟨(h y b).1,(h y b).2.1,fun x i=>(h y b).2.2 x (by simp [i])⟩
  ·rename_i n;rw [if_neg n];split at b
   ·rename_i j;rw [if_pos j];obtain ⟨p,h2,h3⟩:=h y b;refine ⟨p,?_,fun x i=>h3 x (by simp [i])⟩;have w:=aJ.gQ.1 p;have z:=aJ.lt_iff.1 (h3 d (by simp));have o:(d.r - 1).toNat≠(y.r - 1).toNat:=by
     intro e;have:y.r=d.r:=by omega
     rw [this] at h2;omega
    simp only [List.getD_eq_getElem?_getD] at h2 ⊢;rw [List.getElem?_set_ne o];exact h2
   ·rename_i j;rw [if_neg j];simp only [List.mem_append,List.mem_singleton] at b;rcases b with b | rfl
    ·exact ⟨(h y b).1,(h y b).2.1,fun x i=>(h y b).2.2 x (by simp [i])⟩
    ·refine ⟨hm y (by simp),?_,k⟩;show st.1.getD (y.r - 1).toNat 0+1<y.c;omega
def SR (v:List Int) (ex:List aJ):Prop:=∀ y∈ex,v.getD (y.r - 1).toNat 0+1<y.c
theorem SR.add {v:List Int} {ex:List aJ} (h:L_ v ex) (g:SR v ex) {d:aJ} (hd:d.may=true):SR (zo v ex d).1 (zo v ex d).2:=by
 unfold zo;split
 ·exact g
 ·rename_i j;have b:d ∉ ex:=fun c=>j (by simp [ff,hd,c]);have e:∀ x∈ins ex d,x.may=true:=by
   intro x i;rcases uH.1 i with rfl | i
   ·exact hd
   ·exact h.m x i
  exact Mb (ins ex d) (v,[]) h.v (h.r.ins b) e (by simp)
end Go.Proofs.YtohgmogbabkkeaaGreat
end

section
namespace Go.Proofs.YtohgmogbabkkeaaGreat
open Go.Am Go.av
theorem tV {v:List Int} {ex:List aJ} {d:aJ}:ff v ex d=true↔d.may=true/\(d∈ex\/d.c<=v.getD (d.r - 1).toNat 0):=by
 simp [ff]
theorem Gc (x:aJ) (k:x.may=true):∀ (l:List aJ) (st:List Int×List aJ),FE st.1->(∀ d∈l,d.may=true) ->
  ((x∈(l.foldl gl st).2\/x.c<=(l.foldl gl st).1.getD (x.r - 1).toNat 0)↔(x∈l\/x∈st.2\/x.c<=st.1.getD (x.r - 1).toNat 0))
 | [],st,_,_=>by simp
 | d::l,st,hv,hm=>by
  have hd:=hm d (by simp);have n:=Gc x k l (gl st d) (FF hv hd) (fun y o=>hm y (by simp [o]));rw [List.foldl_cons,n];have p:=aJ.gQ.1 hd;have w:=aJ.gQ.1 k;have hlen:=hv.len;simp only [List.mem_cons];unfold gl;split
  ·rename_i m;constructor
   ·rintro (h | h | h)
    ·exact .inl (.inr h)
    ·exact .inr (.inl h)
    ·exact .inr (.inr h)
   ·rintro ((h | h) | h | h)
    ·subst h;exact .inr (.inr m)
    ·exact .inl h
    ·exact .inr (.inl h)
    ·exact .inr (.inr h)
  ·rename_i m;split
   ·rename_i b;have z:(st.1.set (d.r - 1).toNat d.c).getD (x.r - 1).toNat 0=if x.r=d.r then d.c else st.1.getD (x.r - 1).toNat 0:=by
     simp only [List.getD_eq_getElem?_getD,List.getElem?_set];by_cases e:x.r=d.r
     ·rw [if_pos (by rw [e]),if_pos e,if_pos (by omega)];rfl
     ·rw [if_neg (by omega),if_neg e]
    show (x∈l\/x∈st.2\/x.c<=(st.1.set (d.r - 1).toNat d.c).getD (x.r - 1).toNat 0)↔_;rw [z];by_cases e:x.r=d.r
    ·rw [if_pos e];have i:x=d↔x.c=d.c:=⟨fun h=>by rw [h],fun h=>by cases x;cases d;simp_all⟩;rw [i];rw [<- e] at b;constructor
     ·rintro (h | h | h)
      ·exact .inl (.inr h)
      ·exact .inr (.inl h)
      ·by_cases h2:x.c=d.c
       ·exact .inl (.inl h2)
       ·exact .inr (.inr (by omega))
     ·rintro ((h | h) | h | h)
      ·exact .inr (.inr (by omega))
      ·exact .inl h
      ·exact .inr (.inl h)
      ·exact .inr (.inr (by omega))
    ·rw [if_neg e];have j:x≠d:=fun h=>e (by rw [h]);simp [j]
   ·show (x∈l\/x∈st.2++[d]\/x.c<=st.1.getD (x.r - 1).toNat 0)↔_;simp only [List.mem_append,List.mem_singleton];constructor
    ·rintro (h | (h | h) | h)
     ·exact .inl (.inr h)
     ·exact .inr (.inl h)
     ·exact .inl (.inl h)
     ·exact .inr (.inr h)
    ·rintro ((h | h) | h | h)
     ·exact .inr (.inl (.inr h))
     ·exact .inl h
     ·exact .inr (.inl (.inl h))
     ·exact .inr (.inr h)
theorem Mc {v:List Int} {l:List aJ} (hv:FE v) (hm:∀ d∈l,d.may=true) (x:aJ):ff (compact v l).1 (compact v l).2 x=true↔x.may=true/\(x∈l\/x.c<=v.getD (x.r - 1).toNat 0):=by
 rw [tV];constructor
 ·rintro ⟨b,h2⟩;have:=(Gc x b l (v,[]) hv hm).1 h2;exact ⟨b,by simpa using this⟩
 ·rintro ⟨b,h2⟩;exact ⟨b,(Gc x b l (v,[]) hv hm).2 (by simpa using h2)⟩
theorem Md {v:List Int} {ex:List aJ} (h:L_ v ex) {d:aJ} (hd:d.may=true) (x:aJ):ff (zo v ex d).1 (zo v ex d).2 x=true↔ff v ex x=true\/x=d:=by
 unfold zo;split
 ·rename_i i;constructor
  ·exact .inl
  ·rintro (h | rfl)
   ·exact h
   ·exact i
 ·have c:∀ x∈ins ex d,x.may=true:=by
   intro x e;rcases uH.1 e with rfl | e
   ·exact hd
   ·exact h.m x e
  rw [Mc h.v c,tV,uH];constructor
  ·rintro ⟨b,(rfl | h2) | h2⟩
   ·exact .inr rfl
   ·exact .inl ⟨b,.inl h2⟩
   ·exact .inl ⟨b,.inr h2⟩
  ·rintro (⟨b,h2 | h2⟩ | rfl)
   ·exact ⟨b,.inl (.inr h2)⟩
   ·exact ⟨b,.inr h2⟩
   ·exact ⟨hd,.inl (.inl rfl)⟩
end Go.Proofs.YtohgmogbabkkeaaGreat
end

section
set_option maxRecDepth 100000
set_option maxHeartbeats 4000000
namespace Go.Proofs.YtohgmogbabkkeaaGreat
open Go.Am
end Go.Proofs.YtohgmogbabkkeaaGreat
end

section
namespace Go.Proofs.YtohgmogbabkkeaaGreat
open Go.Am Go.av
end Go.Proofs.YtohgmogbabkkeaaGreat
end

section
namespace Go.Proofs.YtohgmogbabkkeaaGreat
open Go.Am Go.av
/-! ### many at once -/
/-! ### contracts -/
theorem Gf {s:AS} {p:Nat} {v:List Int} {ex:List aJ} (h:w_ s p v ex) (o:ex.length<=2 ^ 30):aa Tryz.prog dF [.ptr (some (p,0))] s fun r s'=>∃ q,r=.ptr (some (q,0))/\s.h q=none/\u5 s s' q v ex/\Ext s s':=by
 refine F_ _ _ _ ?_;refine aa.use (u0 h) ?_;rintro r s2 ⟨rfl,rfl⟩ _;obtain ⟨c,w,h2,h3,h4⟩:=h;refine ⟨_,rfl,af.no rfl ⟨fun k _ r s'=>k=8->bq aI 2 s' r ex/\(∀ la∈ax r,s2.h la=none)/\r≠.emp/\r.one=true,fun k _ r=>k=8->r.one=true,fun _ _ _ _ _ e h n=>⟨(h n).1.ext e,(h n).2⟩,_,h2.at.aC (by rw [AX c];omega),w,by rw [h2.at.au];exact Cy c w,fun x d y _=>?_,⟨.bool true,fun _=>rfl⟩,?_⟩⟩
 ·refine (Uy (s:=s2) d (h4.ext d) o).mono ?_;rintro r s' ⟨e,h⟩;exact ⟨e,fun _=>h,fun _=>h.2.2.2⟩
 rintro r hr z i l ⟨m,_⟩;obtain ⟨g,j,A,b⟩:=m rfl;rw [SM c];refine ⟨_,QX c b,by simp [cH,b],aj.intro l rfl fun q eT F=>⟨q,rfl,i.none F.no,⟨c,r,F.own,b,g.ext F.ext,j⟩,i.trans F.ext⟩⟩
/-! ### the reference -/
end Go.Proofs.YtohgmogbabkkeaaGreat
end

section
namespace Go.Proofs.YtohgmogbabkkeaaGreat
open Go.Am Go.av Go.ChangeShapes Go.WideShapes Go.ChangeAt Go.RowKit
theorem SS (x:aJ):ff fo [] x=false:=by
 cases b:ff fo [] x with
 | false=>rfl
 | true =>
  obtain ⟨hm,h⟩:=tV.1 b;have:=aJ.gQ.1 hm;rcases h with h | h
  ·cases h
  ·have e:fo.getD (x.r - 1).toNat 0=0:=by
    simp only [fo,List.getD_eq_getElem?_getD,List.getElem?_replicate];split <;> rfl
   omega
theorem SU {v:List Int} {ex:List aJ} (ok:L_ v ex) (Gg:SR v ex) (b:ex.length<4096) (d:aJ):L_ (lP v ex d).2.2.1 (lP v ex d).2.2.2/\SR (lP v ex d).2.2.1 (lP v ex d).2.2.2/\(lP v ex d).2.2.2.length<=ex.length+1/\∀ x,ff (lP v ex d).2.2.1 (lP v ex d).2.2.2 x=true↔ff v ex x=true\/(x=d/\d.may=true):=by
 cases hm:d.may with
 | false =>
  have:lP v ex d=(false,2,v,ex):=by simp [lP,hm]
  rw [this];exact ⟨ok,Gg,by simp,fun x=>by simp⟩
 | true =>
  rw [SP hm b];exact ⟨ok.add hm,SR.add ok Gg hm,SO,fun x=>by rw [Md ok hm];simp⟩
theorem place {n:Int} {k:Nat} (c:0<k) (b:k<=80):∃ j:Nat,j<k/\Int.tmod (IntKind.wrap .i64 (Int.tmod n (k:Int)+(k:Int))) (k:Int)=(j:Int):=by
 have d:=Int.tmod_lt_of_pos n (show (0:Int)<k by omega);have h2 : -(k:Int)<Int.tmod n k:=by
  have:=Int.tmod_lt_of_pos (-n) (show (0:Int)<k by omega);rw [Int.neg_tmod] at this;omega
 rw [aX (by omega)];have h3:0<=Int.tmod (Int.tmod n k+k) k:=Int.tmod_nonneg _ (by omega);have h4:=Int.tmod_lt_of_pos (Int.tmod n k+k) (show (0:Int)<k by omega);exact ⟨(Int.tmod (Int.tmod n k+k) k).toNat,by omega,by omega⟩
end Go.Proofs.YtohgmogbabkkeaaGreat
end

section
set_option maxRecDepth 100000
set_option maxHeartbeats 4000000
namespace Go.Proofs.YtohgmogbabkkeaaGreat
open Go.Am
def Hx  (s:AS) (R:AV->AS->Prop):Prop :=
 aa Tryz.prog kN [] s fun v1 s2=>∃ d:Option (Nat×Nat),∃ b4:Bool,v1=.aN [.ptr d,.bool b4]/\(af (!b4) (R (.bool false) s2) (aa Tryz.prog c_ [.ptr d,(.str [116]),(.str [97])] s2 fun v5 s6=>∃ b7:Bool,v5=.bool b7/\(af (!b7) (R (.bool false) s6) (aa Tryz.prog cF [.ptr d,(.str [116])] s6 fun v8 s9=>∃ k:Bool,v8=.bool k/\(af (!k) (R (.bool false) s9) (aa Tryz.prog cF [.ptr d,(.str [116])] s9 fun v11 dH=>∃ l:Bool,v11=.bool l/\(af (!l)
 (R (.bool false) dH)
 (aa Tryz.prog cI [] dH fun y gh=>aa Tryz.prog qW [y] gh fun oC kT=>∃ c:Option (Nat×Nat),oC=.ptr c/\(aa Tryz.prog dN [.ptr c,(.str [97]),.slc none 0 0 true] kT fun z gy=>∃ m:Int,z=.int .i64 m/\(ai d fun A B=>pL (au gy A B) fun C=>ai d fun D F=>pL (au gy D (F+1)) fun G=>aa Tryz.prog eL [.ptr c,(.str [97]),.int .i64 5,.ptr C,.ptr G] gy fun H I=>∃ v30:AV,∃ n:Int,H=.aN [v30,.int .i64 n]/\(aa Tryz.prog fY [.ptr c,(.str [97]),.int .i64 1] I fun J K=>∃ e:AV,∃ o:Int,J=.aN [e,.int .i64 o]/\(aa Tryz.prog eM [.ptr c,(.str [97])] K fun L oB=>∃ p:AV,∃ r:Int,L=.aN [p,.int .i64 r]/\(aa Tryz.prog dN [.ptr c,(.str [97]),e] oB fun x_ i=>∃ w:Int,x_=.int .i64 w/\(ai d fun M O=>pL (au i M O) fun Q=>ai d fun S U=>pL (au i S (U+1)) fun W=>aa Tryz.prog eL [.ptr c,(.str [97]),.int .i64 5,.ptr Q,.ptr W] i fun X b=>∃ j:AV,∃ x:Int,X=.aN [j,.int .i64 x]/\(af ((m:Int)==0) (af ((n:Int)==0) (af ((o:Int)==0) (af ((r:Int)==0) (af ((w:Int)==0) (af ((x:Int)==0) (aU .i64 (aQ T bC v30 b) fun Y=>af ((Y:Int)==2) (rG ((cW T aq bX e b).map (·.1)) fun Z=>rG ((cW T aq bX p b).map (·.1)) fun ab=>af ((Z:List UInt8)==ab) (aU .i64 (aQ T bC j b) fun ad=>af ((ad:Int)==1) (bJ (ag T bC j (.int .i64 0)) fun ae al=>aU .u64 (au b ae (al+1)) fun am=>R (.bool ((am:Int)==2)) b) (R (.bool false) b)) (R (.bool false) b)) (R (.bool false) b)) (R (.bool false) b)) (R (.bool false) b)) (R (.bool false) b)) (R (.bool false) b)) (R (.bool false) b)) (R (.bool false) b))))))))))))))))
def Hy:QA:=(.seq .leaf (.seq .leaf (.seq (.seq .leaf (.cond (.seq .leaf .leaf) .leaf)) (.seq .leaf (.seq .leaf (.seq .calm (.seq .leaf (.seq .leaf (.seq .leaf (.seq .calm (.seq .leaf .leaf)))))))))))
theorem Hz  (s:AS) (R:AV->AS->Prop) (h:Hx  s R):aa Tryz.prog oN [] s R :=
 aa.q (n:=125) (rs:=[.tmp 0]) (A:=Hy) hT bY Tryz.func12 (by kernel_rfl) rfl rfl rfl (by kernel_rfl) (by kernel_rfl) h
def HA  (s:AS) (R:AV->AS->Prop):Prop :=
 aa Tryz.prog y6 [.int .i64 3,.int .i64 1] s fun n s2=>∃ j:Option (Nat×Nat),∃ k:Int,n=.aN [.ptr j,.int .i64 k]/\(aa Tryz.prog wK [] s2 fun o s6=>∃ l:Option (Nat×Nat),o=.ptr l/\(nQ (aS T nJ [(0,.int .i64 3),(1,.int .i64 1)]) fun m=>cH m (aj (.cells m 0 false) s6 fun p d=>nQ (aS T q8 []) fun b=>cH b (aj (.cells b 0 false) d fun qL bW=>nQ (aS T pz [(0,.ptr j),(1,.ptr l),(2,(.ptr (some (p,0)))),(3,(.ptr (some (qL,0))))]) fun c=>cH c (aj (.cells c 0 false) bW fun e i=>R (.aN [(.ptr (some (e,0))),(.bool ((k:Int)==0))]) i)))))
def HB:QA:=(.seq .leaf (.seq .leaf (.seq .leaf .leaf)))
theorem HC  (s:AS) (R:AV->AS->Prop) (h:HA  s R):aa Tryz.prog kN [] s R :=
 aa.q (n:=18) (rs:=[.tmp 0,.tmp 1]) (A:=HB) hT bY Tryz.func13 (by kernel_rfl) rfl rfl rfl (by kernel_rfl) (by kernel_rfl) h
def tW (a0:Option (Nat×Nat)) (a1:List UInt8) (a2:List UInt8) (s:AS) (R:AV->AS->Prop):Prop :=
 ai a0 fun l1 o2=>pL (au s l1 (o2+3)) fun Y=>ai Y fun Z o5=>aa Tryz.prog nV [(.ptr (some (Z,o5))),.int .i64 1] s fun v6 s7=>∃ U:Int,v6=.int .u64 U/\(nQ (aS T gV [(0,.int .i64 1),(1,(.int .u64 (IntKind.wrap .u64 (U+1))))]) fun W=>aj (.cells [.int .i64 0,.int .u64 0] 0 false) s7 fun oQ z=>fC (some 2) W (bu (cU z oQ 0 W) fun dH=>rS dH fun X C c S V=>ai a0 fun ku m=>(∀ bW:AS,X dH bW->aG bW->ai a0 fun pT A=>(((.ptr (some (pT,A))):AV)=(.ptr (some (ku,m)))))/\(pL (au dH ku (m+1)) fun b=>(∀ eT:AS,X dH eT->aG eT->pL (au eT ku (m+1)) fun B=>(((.ptr B):AV)=(.ptr b)))/\(nQ (aS T ko [(0,.str a1),(1,.str a2)]) fun e=>aR (aC dH oQ 0 2) fun d=>(∀ fT:AS,X dH fT->aG fT->aR (aC fT oQ 0 2) fun D=>(((.agg D):AV)=(.agg d)))/\((∀ dZ:AS,X dH dZ->aG dZ->(True)->c dZ->aa Tryz.prog di [.ptr b,.agg e,.agg d] dZ fun F n=>∃ k:AV,∃ l:Int,F=.aN [k,.int .i64 l]/\(((X dZ n/\C 8 [(.func di []),.ptr b,.agg e,.agg d] (.aN [k,.int .i64 l]) n)/\S 8 [(.func di []),.ptr b,.agg e,.agg d] (.aN [k,.int .i64 l]) n/\V 8 [(.func di []),.ptr b,.agg e,.agg d] (.aN [k,.int .i64 l]))))/\(∃ v,V 8 [(.func di []),.ptr b,.agg e,.agg d] v)/\∀ v30:AV,V 8 [(.func di []),.ptr b,.agg e,.agg d] v30->∃ o:AV,∃ i:Int,v30=.aN [o,.int .i64 i]/\(∀ j:AS,X dH j->aG j->(S 8 [(.func di []),.ptr b,.agg e,.agg d] (.aN [o,.int .i64 i]) j/\True)->C 8 [(.func di []),.ptr b,.agg e,.agg d] (.aN [o,.int .i64 i]) j->bG fun p =>
 (∀ r:Bool,∀ oR:AS,p [.bool r] oR ->
 af r
 (R (.bool ((i:Int)==2)) oR)
 (ai a0 fun G H=>pL (au oR G (H+3)) fun I=>nQ (aS T ko [(0,.str a1),(1,.str a2)]) fun J=>aR (aC oR oQ 0 2) fun K=>aa Tryz.prog pP [.ptr I,.agg J,.agg K] oR fun ab L=>R (.bool ((i:Int)==0)) L)) /\
 (aa Tryz.prog qk [.str a1] j fun M w=>∃ x:Bool,M=.bool x/\(af (!x) (p [.bool true] w) (aa Tryz.prog qk [.str a2] w fun O Q=>∃ y:Bool,O=.bool y/\(p [(.bool (!y))] Q))))))))))
def tX:QA:=(.seq .leaf (.seq .leaf (.seq (.tE [0,1,2,3,4,5,6,7,8,9,10,11,12] [13] [[],[],[],[],[],[],[],[],[],[],[],[],[]] [8] [8]) (.seq (.join [(38,.bool)] [(31,38)] .leaf (.cond (.seq .leaf .leaf) .leaf)) (.seq (.draw 8) (.seq .leaf .leaf))))))
theorem tY (a0:Option (Nat×Nat)) (a1:List UInt8) (a2:List UInt8) (s:AS) (R:AV->AS->Prop) (h:tW a0 a1 a2 s R):aa Tryz.prog c_ [.ptr a0,.str a1,.str a2] s R :=
 aa.q (n:=52) (rs:=[.tmp 6]) (A:=tX) hT bY Tryz.func14 (by kernel_rfl) rfl rfl rfl (by kernel_rfl) (by kernel_rfl) h
def Gh  (s:AS) (R:AV->AS->Prop):Prop :=
 aR (dw T aq 10 [(0,.int .u8 98),(1,.int .u8 101),(2,.int .u8 116),(3,.int .u8 119),(4,.int .u8 101),(5,.int .u8 101),(6,.int .u8 110),(7,.int .u8 32),(8,.int .u8 117),(9,.int .u8 115)]) fun b=>aj (.cells b 1 false) s fun c s3=>iT (cW T aq aq (.slc (some (c,0)) 10 10 true) s3) fun d e=>R d e
def Gi:QA:=(.seq .leaf (.seq .leaf .leaf))
theorem Gj  (s:AS) (R:AV->AS->Prop) (h:Gh  s R):aa Tryz.prog cI [] s R :=
 aa.q (n:=3) (rs:=[.tmp 0]) (A:=Gi) hT bY Tryz.func16 (by kernel_rfl) rfl rfl rfl (by kernel_rfl) (by kernel_rfl) h
def vM (a0:Option (Nat×Nat)) (a1:List UInt8) (s:AS) (R:AV->AS->Prop):Prop :=
 rS s fun X C c S V=>ai a0 fun l2 o3=>(∀ s1:AS,X s s1->aG s1->ai a0 fun l4 o5=>(((.ptr (some (l4,o5))):AV)=(.ptr (some (l2,o3)))))/\(pL (au s l2 o3) fun n=>(∀ s6:AS,X s s6->aG s6->pL (au s6 l2 o3) fun p8=>(((.ptr p8):AV)=(.ptr n)))/\(ai a0 fun oQ B=>(∀ s9:AS,X s s9->aG s9->ai a0 fun qL an=>(((.ptr (some (qL,an))):AV)=(.ptr (some (oQ,B)))))/\(pL (au s oQ (B+1)) fun e=>(∀ D:AS,X s D->aG D->pL (au D oQ (B+1)) fun ao=>(((.ptr ao):AV)=(.ptr e)))/\((∀ kT:AS,X s kT->aG kT->(True)->aa Tryz.prog cX [.ptr e,.str a1] kT fun Q jl=>(Ext kT jl/\S 10 [(.func cX []),.ptr e,.str a1] Q jl/\V 10 [(.func cX []),.ptr e,.str a1] Q))/\(∃ v,V 10 [(.func cX []),.ptr e,.str a1] v)/\∀ v20:AV,V 10 [(.func cX []),.ptr e,.str a1] v20->(∀ gG:AS,X s gG->aG gG->(S 10 [(.func cX []),.ptr e,.str a1] v20 gG/\True)->c gG->aa Tryz.prog bN [.ptr n,.str a1,.slc none 0 0 true,v20] gG fun ar uj=>∃ o:List AV,∃ p:Int,ar=.aN [.agg o,.int .i64 p]/\(((X gG uj/\C 11 [(.func bN []),.ptr n,.str a1,.slc none 0 0 true,v20] (.aN [.agg o,.int .i64 p]) uj)/\S 11 [(.func bN []),.ptr n,.str a1,.slc none 0 0 true,v20] (.aN [.agg o,.int .i64 p]) uj/\V 11 [(.func bN []),.ptr n,.str a1,.slc none 0 0 true,v20] (.aN [.agg o,.int .i64 p]))))/\(∃ v,V 11 [(.func bN []),.ptr n,.str a1,.slc none 0 0 true,v20] v)/\∀ U:AV,V 11 [(.func bN []),.ptr n,.str a1,.slc none 0 0 true,v20] U->∃ l:List AV,∃ r:Int,U=.aN [.agg l,.int .i64 r]/\((∀ w:AS,X s w->aG w->(True)->aj (.cells [.int .i64 0,.int .u64 0,.str [],.slc none 0 0 true,.int .u64 0,.int .u64 0,.int .u64 0,.int .u64 0,.int .u64 0,.int .u64 0,.int .u64 0,.int .u64 0,.int .u64 0,.int .u64 0,.int .u64 0,.int .u64 0,.int .u64 0,.int .u64 0,.int .u64 0,.int .u64 0,.slc none 0 0 true] 0 false) w fun W nK=>(Ext w nK/\S 15 [] (.ptr (some (W,0))) nK/\V 15 [] (.ptr (some (W,0)))))/\(∃ v,V 15 [] v)/\∀ Y:AV,V 15 [] Y->∃ F:Option (Nat×Nat),Y=.ptr F/\(∀ kH:AS,X s kH->aG kH->(S 10 [(.func cX []),.ptr e,.str a1] v20 kH/\(S 11 [(.func bN []),.ptr n,.str a1,.slc none 0 0 true,v20] (.aN [.agg l,.int .i64 r]) kH/\(S 15 [] (.ptr F) kH/\True)))->C 11 [(.func bN []),.ptr n,.str a1,.slc none 0 0 true,v20] (.aN [.agg l,.int .i64 r]) kH->ai F fun aw a2=>fC (some 21) l (bu (cU kH aw a2 l) fun oB=>rS oB fun X C c S V=>ai a0 fun G H=>(∀ Z:AS,X oB Z->aG Z->ai a0 fun a3 a4=>(((.ptr (some (a3,a4))):AV)=(.ptr (some (G,H)))))/\(pL (au oB G (H+2)) fun d=>(∀ I:AS,X oB I->aG I->pL (au I G (H+2)) fun a5=>(((.ptr a5):AV)=(.ptr d)))/\(ai a0 fun J K=>(∀ tN:AS,X oB tN->aG tN->ai a0 fun a6 a7=>(((.ptr (some (a6,a7))):AV)=(.ptr (some (J,K)))))/\(pL (au oB J (K+3)) fun i=>(∀ L:AS,X oB L->aG L->pL (au L J (K+3)) fun a8=>(((.ptr a8):AV)=(.ptr i)))/\((∀ x:AS,X oB x->aG x->(True)->aa Tryz.prog cY [.ptr i,.str a1] x fun ab ad=>(Ext x ad/\S 10 [(.func cY []),.ptr i,.str a1] ab ad/\V 10 [(.func cY []),.ptr i,.str a1] ab))/\(∃ v,V 10 [(.func cY []),.ptr i,.str a1] v)/\∀ b:AV,V 10 [(.func cY []),.ptr i,.str a1] b->(∀ k:AS,X oB k->aG k->(S 10 [(.func cY []),.ptr i,.str a1] b k/\True)->c k->aa Tryz.prog bH [.ptr d,.str a1,.slc none 0 0 true,b] k fun a9 M=>∃ y:List AV,∃ z:Bool,a9=.aN [.agg y,.bool z]/\(((X k M/\C 11 [(.func bH []),.ptr d,.str a1,.slc none 0 0 true,b] (.aN [.agg y,.bool z]) M)/\S 11 [(.func bH []),.ptr d,.str a1,.slc none 0 0 true,b] (.aN [.agg y,.bool z]) M/\V 11 [(.func bH []),.ptr d,.str a1,.slc none 0 0 true,b] (.aN [.agg y,.bool z]))))/\(∃ v,V 11 [(.func bH []),.ptr d,.str a1,.slc none 0 0 true,b] v)/\∀ ae:AV,V 11 [(.func bH []),.ptr d,.str a1,.slc none 0 0 true,b] ae->∃ m:List AV,∃ A:Bool,ae=.aN [.agg m,.bool A]/\((∀ Dt:AS,X oB Dt->aG Dt->(True)->aj (.cells [.int .i64 0,.int .u64 0,.str [],.slc none 0 0 true,.int .u64 0,.int .u64 0,.int .u64 0,.int .u64 0,.int .u64 0,.int .u64 0,.int .u64 0,.int .u64 0,.int .u64 0,.int .u64 0,.int .u64 0,.int .u64 0,.int .u64 0,.int .u64 0,.int .u64 0,.int .u64 0,.slc none 0 0 true] 0 false) Dt fun al PF=>(Ext Dt PF/\S 15 [] (.ptr (some (al,0))) PF/\V 15 [] (.ptr (some (al,0)))))/\(∃ v,V 15 [] v)/\∀ am:AV,V 15 [] am->∃ O:Option (Nat×Nat),am=.ptr O/\(∀ j:AS,X oB j->aG j->(S 10 [(.func cY []),.ptr i,.str a1] b j/\(S 11 [(.func bH []),.ptr d,.str a1,.slc none 0 0 true,b] (.aN [.agg m,.bool A]) j/\(S 15 [] (.ptr O) j/\True)))->C 11 [(.func bH []),.ptr d,.str a1,.slc none 0 0 true,b] (.aN [.agg m,.bool A]) j->ai O fun a' ba=>fC (some 21) m (bu (cU j a' ba m) fun V_=>R (.bool ((A:Bool)==((r:Int)==0))) V_))))))))))))))
def vO:QA:=(.seq .leaf (.seq (.tE [0,1,2,3,4,5,6,7,8,9,10,11,12,13,14,15] [16,17] [[],[],[],[],[],[],[],[],[],[],[],[10],[],[],[],[],[],[]] [10,11,15] [11]) (.seq (.tE [0,1,2,3,4,5,6,7,8,9,10,11,12,13,14,15] [16,17] [[],[],[],[],[],[],[],[],[],[],[],[10],[],[],[],[],[],[]] [10,11,15] [11]) (.seq .leaf .leaf))))
theorem vP (a0:Option (Nat×Nat)) (a1:List UInt8) (s:AS) (R:AV->AS->Prop) (h:vM a0 a1 s R):aa Tryz.prog cF [.ptr a0,.str a1] s R :=
 aa.q (n:=43) (rs:=[.tmp 4]) (A:=vO) hT bY Tryz.func17 (by kernel_rfl) rfl rfl rfl (by kernel_rfl) (by kernel_rfl) h
def xg (a0:Option (Nat×Nat)) (a1:List UInt8) (a2:List UInt8) (s:AS) (R:AV->AS->Prop):Prop :=
 ai a0 fun l1 o2=>pL (au s l1 (o2+1)) fun i=>nQ (aS T ko [(0,.str a1),(1,.str a2)]) fun j=>aa Tryz.prog lJ [.ptr i,.agg j] s fun k s6=>∃ l:AV,∃ m:Int,k=.aN [l,.int .i64 m]/\(ai a0 fun n b=>pL (au s6 n (b+3)) fun c=>nQ (aS T ko [(0,.str a1),(1,.str a2)]) fun d=>aa Tryz.prog iB [.ptr c,.agg d] s6 fun o e=>R (.aN []) e)
def xh:QA:=(.seq .leaf .leaf)
theorem xj (a0:Option (Nat×Nat)) (a1:List UInt8) (a2:List UInt8) (s:AS) (R:AV->AS->Prop) (h:xg a0 a1 a2 s R):aa Tryz.prog gn [.ptr a0,.str a1,.str a2] s R :=
 aa.q (n:=22) (rs:=[]) (A:=xh) hT bY Tryz.func23 (by kernel_rfl) rfl rfl rfl (by kernel_rfl) (by kernel_rfl) h
def AZ (a0:AV) (s:AS) (R:AV->AS->Prop):Prop :=
 aU .i64 (aQ T dS a0 s) fun n1=>af (decide ((n1:Int)>120))
 (aa Tryz.prog oN [] s fun v2 s3=>∃ b4:Bool,v2=.bool b4/\(R (.bool b4) s3))
 (aa Tryz.prog kN [] s fun v5 s6=>∃ Z:Option (Nat×Nat),∃ b8:Bool,v5=.aN [.ptr Z,.bool b8]/\(af (!b8)
 (R (.bool false) s6)
 (aa Tryz.prog cI [] s6 fun v9 dy=>aa Tryz.prog qW [v9] dy fun v11 dH=>∃ K:Option (Nat×Nat),v11=.ptr K/\(aj (.map [] 0 false) dH fun ku gh=>aj (.map [] 0 false) gh fun pT kT=>bA fun k dC=>k dC [.int .i64 0] kT /\
 ∀ n:Nat,∀ j:Int,∀ fT:AS,k n [.int .i64 j] fT ->
 aU .i64 (aQ T dS a0 fT) fun dE=>af (decide ((j:Int)<dE))
 (bJ (ag T dS a0 (.int .i64 j)) fun dT d'=>aR (aC fT dT d' 22) fun bb=>aj (.cells [.int .i64 0,.int .i64 0,.str [],.str [],.int .u64 0,.int .u64 0,.int .u64 0,.int .u64 0,.int .u64 0,.int .u64 0,.int .u64 0,.int .u64 0,.int .u64 0,.int .u64 0,.int .u64 0,.int .u64 0,.int .u64 0,.int .u64 0,.int .u64 0,.int .u64 0,.bool false,.bool false] 0 false) fT fun d ea=>fC (some 22) bb (bu (cU ea d 0 bb) fun e=>aU .i64 (au e d 0) fun H=>af ((H:Int)==1)
 (rG (au e d 2) fun eb=>rG (au e d 3) fun ed=>aa Tryz.prog c_ [.ptr Z,.str eb,.str ed] e fun eg kH=>∃ eh:Bool,eg=.bool eh/\(∃ m',m'<n/\k m' [(.int .i64 (IntKind.wrap .i64 (j+1)))] kH))
 (af ((H:Int)==2)
 (rG (au e d 2) fun ei=>rG (au e d 3) fun ej=>aa Tryz.prog gn [.ptr Z,.str ei,.str ej] e fun em et=>em=.aN []/\(∃ m',m'<n/\k m' [(.int .i64 (IntKind.wrap .i64 (j+1)))] et))
 (af ((H:Int)==3)
 (rG (au e d 2) fun eA=>aa Tryz.prog cF [.ptr Z,.str eA] e fun eB eI=>∃ eQ:Bool,eB=.bool eQ/\(∃ m',m'<n/\k m' [(.int .i64 (IntKind.wrap .i64 (j+1)))] eI))
 (af ((H:Int)==4)
 (rG (au e d 3) fun e0=>rG (au e d 3) fun e1=>dI (bR T a_ (.map (some ku)) (.str e1) false e) fun e2=>aa Tryz.prog dN [.ptr K,.str e0,e2] e fun e3 a3=>∃ bc:Int,e3=.int .i64 bc/\(af ((bc:Int)==0)
 (rG (au a3 d 3) fun e4=>aj (.map [] 0 false) a3 fun e5 e6=>bu (bK T cg (.map (some pT)) (.str e4) (.map (some e5)) e6) fun G8=>∃ m',m'<n/\k m' [(.int .i64 (IntKind.wrap .i64 (j+1)))] G8)
 (∃ m',m'<n/\k m' [(.int .i64 (IntKind.wrap .i64 (j+1)))] a3)))
 (af ((H:Int)==5)
 (rG (au e d 3) fun e7=>aU .i64 (au e d 1) fun e8=>ai Z fun e9 e'=>pL (au e e9 e') fun fa=>ai Z fun fb fc=>pL (au e fb (fc+1)) fun fe=>aa Tryz.prog eL [.ptr K,.str e7,.int .i64 e8,.ptr fa,.ptr fe] e fun fg o=>∃ I:AV,∃ fi:Int,fg=.aN [I,.int .i64 fi]/\(rS o fun X C c S V=>(∀ Dt:AS,X o Dt->aG Dt->(True)->aa Tryz.prog cI [] Dt fun bd PF=>(Ext Dt PF/\S 0 [(.func cI [])] bd PF/\V 0 [(.func cI [])] bd))/\(∃ v,V 0 [(.func cI [])] v)/\∀ w:AV,V 0 [(.func cI [])] w->rG (au o d 3) fun z=>(∀ a4:AS,X o a4->aG a4->rG (au a4 d 3) fun fp=>(((.str fp):AV)=(.str z)))/\(rG (au o d 3) fun a5=>(∀ a6:AS,X o a6->aG a6->rG (au a6 d 3) fun fr=>(((.str fr):AV)=(.str a5)))/\(dI (bR T a_ (.map (some ku)) (.str a5) false o) fun A=>(∀ a7:AS,X o a7->aG a7->dI (bR T a_ (.map (some ku)) (.str a5) false a7) fun fs=>((fs:AV)=A))/\((∀ L:AS,X o L->aG L->(S 0 [(.func cI [])] w L/\True)->aa Tryz.prog ey [w,.str z,A] L fun ft be=>∃ a8:List AV,∃ a9:Int,ft=.aN [.agg a8,.int .i64 a9]/\((Ext L be/\S 7 [(.func ey []),w,.str z,A] (.aN [.agg a8,.int .i64 a9]) be/\V 7 [(.func ey []),w,.str z,A] (.aN [.agg a8,.int .i64 a9]))))/\(∃ v,V 7 [(.func ey []),w,.str z,A] v)/\∀ bh:AV,V 7 [(.func ey []),w,.str z,A] bh->∃ p:List AV,∃ W:Int,bh=.aN [.agg p,.int .i64 W]/\((∀ Y:AS,X o Y->aG Y->(True)->aj (.cells [.int .u64 0,.int .u64 0,.int .u64 0,.int .u64 0,.int .u64 0,.int .u64 0,.int .u64 0,.int .u64 0,.int .u64 0,.int .u64 0,.int .u64 0,.int .u64 0,.int .u64 0,.int .u64 0,.int .u64 0,.int .u64 0] 0 false) Y fun bi bj=>(Ext Y bj/\S 11 [] (.ptr (some (bi,0))) bj/\V 11 [] (.ptr (some (bi,0)))))/\(∃ v,V 11 [] v)/\∀ bk:AV,V 11 [] bk->∃ r:Option (Nat×Nat),bk=.ptr r/\((∀ B:AS,X o B->aG B->(S 0 [(.func cI [])] w B/\(S 7 [(.func ey []),w,.str z,A] (.aN [.agg p,.int .i64 W]) B/\(S 11 [] (.ptr r) B/\True)))->c B->ai r fun fv fw=>fC (some 16) p (bu (cU B fv fw p) fun a'=>((X B a'/\C 12 [.ptr r,.agg p] (.aN []) a')/\S 12 [.ptr r,.agg p] (.aN []) a'/\V 12 [.ptr r,.agg p] (.aN []))))/\(∃ v,V 12 [.ptr r,.agg p] v)/\∀ bl:AV,V 12 [.ptr r,.agg p] bl->bl=.aN []/\(∀ D:AS,X o D->aG D->(S 0 [(.func cI [])] w D/\(S 7 [(.func ey []),w,.str z,A] (.aN [.agg p,.int .i64 W]) D/\(S 11 [] (.ptr r) D/\(S 12 [.ptr r,.agg p] (.aN []) D/\True))))->C 12 [.ptr r,.agg p] (.aN []) D->bA fun ba fx=>ba fx [.int .i64 0] D /\
 ∀ ab:Nat,∀ l:Int,∀ F:AS,ba ab [.int .i64 l] F ->
 aU .i64 (aQ T bC I F) fun bm=>af (decide ((l:Int)<bm))
 (bJ (ag T bC I (.int .i64 l)) fun bo bs=>aR (aC F bo bs 2) fun ad=>aj (.cells [.int .i64 0,.int .u64 0] 0 false) F fun x bx=>fC (some 2) ad (bu (cU bx x 0 ad) fun b=>af ((W:Int) != 0) (R (.bool false) b) (aU .i64 (au b x 0) fun b0=>af (decide ((b0:Int)<1)) (R (.bool false) b) (aU .i64 (au b x 0) fun b1=>af (decide ((b1:Int)>16)) (R (.bool false) b) (aU .i64 (au b x 0) fun b2=>bJ (ag T aZ (.ptr r) (.int .i64 (IntKind.wrap .i64 (b2 - 1)))) fun b3 b5=>aU .u64 (au b b3 b5) fun b6=>aU .u64 (au b x 1) fun b7=>af (decide ((b6:Int)>=b7)) (R (.bool false) b) (rG (au b d 3) fun b9=>yD (bR T cg (.map (some pT)) (.str b9) false b) fun b'=>aR (aC b x 0 2) fun ca=>aU .i64 (bR T eW (.map b') (.agg ca) false b) fun cb=>af (decide ((cb:Int)>0))
 (R (.bool false) b)
 (rG (au b d 3) fun cc=>yD (bR T cg (.map (some pT)) (.str cc) false b) fun cd=>aR (aC b x 0 2) fun ce=>bu (bK T eW (.map cd) (.agg ce) (.int .i64 1) b) fun J=>ai Z fun cf ch=>pL (au J cf (ch+1)) fun ci=>bJ (ag T bC I (.int .i64 l)) fun ck cl=>rG (au J ck (cl+2)) fun cm=>rG (au J d 3) fun cn=>nQ (aS T ko [(0,.str cm),(1,.str cn)]) fun cp=>aa Tryz.prog iM [.ptr ci,.agg cp] J fun cr cs=>∃ ae:Bool,cr=.bool ae/\(bG fun al =>
 (∀ am:Bool,∀ M:AS,al [.bool am] M ->
 af (!am)
 (R (.bool false) M)
 (∃ m',m'<ab/\ba m' [(.int .i64 (IntKind.wrap .i64 (l+1)))] M)) /\
 (bA fun y cu=>y cu [.bool false,.int .i64 0] cs /\
 ∀ G:Nat,∀ O:Bool,∀ m:Int,∀ i:AS,y G [.bool O,.int .i64 m] i ->
 bJ (ag T bC I (.int .i64 l)) fun cv cw=>dI (au i cv (cw+20)) fun cx=>aU .i64 (aQ T bL cx i) fun cy=>af (decide ((m:Int)<cy))
 (af O (∃ m',m'<G/\y m' [.bool true,(.int .i64 (IntKind.wrap .i64 (m+1)))] i) (bJ (ag T bC I (.int .i64 l)) fun cz cA=>dI (au i cz (cA+20)) fun cB=>bJ (ag T bL cB (.int .i64 m)) fun cC c0=>rG (au i cC (c0+2)) fun c1=>rG (au i d 3) fun c2=>af ((c1:List UInt8)==c2) (af ae (∃ m',m'<G/\y m' [.bool true,(.int .i64 (IntKind.wrap .i64 (m+1)))] i) (ai Z fun c3 c4=>pL (au i c3 (c4+3)) fun c5=>bJ (ag T bC I (.int .i64 l)) fun c6 c7=>dI (au i c6 (c7+20)) fun c8=>bJ (ag T bL c8 (.int .i64 m)) fun c9 c'=>aR (aC i c9 c' 2) fun da=>aa Tryz.prog iz [.ptr c5,.agg da] i fun db dc=>∃ an:Bool,db=.bool an/\(∃ m',m'<G/\y m' [(.bool (!an)),(.int .i64 (IntKind.wrap .i64 (m+1)))] dc))) (∃ m',m'<G/\y m' [.bool false,(.int .i64 (IntKind.wrap .i64 (m+1)))] i)))
 (al [.bool O] i))))))))))
 (∃ m',m'<n/\k m' [(.int .i64 (IntKind.wrap .i64 (j+1)))] F)))))))))
 (af ((H:Int)==6)
 (rG (au e d 3) fun dd=>aU .i64 (au e d 1) fun df=>aa Tryz.prog fY [.ptr K,.str dd,.int .i64 df] e fun dk Q=>∃ ao:AV,∃ ar:Int,dk=.aN [ao,.int .i64 ar]/\(af ((ar:Int)==0)
 (rG (au Q d 3) fun dl=>bu (bK T a_ (.map (some ku)) (.str dl) ao Q) fun dm=>∃ m',m'<n/\k m' [(.int .i64 (IntKind.wrap .i64 (j+1)))] dm)
 (∃ m',m'<n/\k m' [(.int .i64 (IntKind.wrap .i64 (j+1)))] Q)))
 (af ((H:Int)==7)
 (rG (au e d 3) fun dp=>aa Tryz.prog eM [.ptr K,.str dp] e fun dr U=>∃ aw:AV,∃ a1:Int,dr=.aN [aw,.int .i64 a1]/\(af ((a1:Int)==0)
 (rG (au U d 3) fun ds=>bu (bK T a_ (.map (some ku)) (.str ds) aw U) fun dt=>∃ m',m'<n/\k m' [(.int .i64 (IntKind.wrap .i64 (j+1)))] dt)
 (∃ m',m'<n/\k m' [(.int .i64 (IntKind.wrap .i64 (j+1)))] U)))
 (∃ m',m'<n/\k m' [(.int .i64 (IntKind.wrap .i64 (j+1)))] e)))))))))
 (aa Tryz.prog oN [] fT fun du dv=>∃ a2:Bool,du=.bool a2/\(R (.bool a2) dv))))))
def A0:QA:=(.seq .leaf (.seq (.seq .leaf (.cond (.seq .leaf .leaf) .leaf)) (.seq .leaf (.seq (.seq .leaf (.cond (.seq .leaf .leaf) .leaf)) (.seq .leaf (.seq .leaf (.seq .leaf (.seq (.seq .leaf (.wrap (.loop [(8,.int .i64)] [(2,2),(8,22),(37,254)] (.seq (.seq .leaf (.cond .leaf .leaf)) (.seq (.wrap (.seq .leaf (.seq .leaf (.wrap (.seq .leaf (.cond .leaf (.seq .leaf (.cond .leaf (.seq .leaf (.cond .leaf (.seq .leaf (.cond (.seq .leaf (.cond .leaf .leaf)) (.seq .leaf (.cond (.seq .calm (.seq (.tE [0,1,2,3,4,5,6,7,8,9,10,11,12] [13] [[],[],[],[],[],[],[],[0],[],[],[],[],[0,7,11]] [0,7,11,12] [12]) (.seq .leaf (.wrap (.loop [(14,.int .i64)] [(2,2),(14,18),(116,222)] (.seq (.seq .leaf (.cond .leaf .leaf)) (.seq (.wrap (.seq .leaf (.seq (.seq (.draw 28) (.cond (.seq .leaf .leaf) .leaf)) (.seq .leaf (.seq .leaf (.seq (.draw 12) (.join [(16,.bool)] [(16,16),(18,18),(176,220)] (.seq .leaf (.wrap (.loop [(16,.bool),(18,.int .i64)] [(16,16),(18,18),(176,220)] (.seq (.seq .leaf (.cond .leaf .leaf)) (.seq (.wrap (.draw 30)) .leaf))))) (.seq .leaf (.cond (.seq .leaf .leaf) .leaf))))))))) .leaf))))))) (.seq .leaf (.cond (.seq .leaf (.seq .leaf (.cond .leaf .leaf))) (.seq .leaf (.cond (.seq .leaf (.seq .leaf (.cond .leaf .leaf))) .leaf)))))))))))))))))) .leaf))))) (.seq .leaf .leaf)))))))))
theorem A1 (a0:AV) (s:AS) (R:AV->AS->Prop) (h:AZ a0 s R):aa Tryz.prog mq [a0] s R :=
 aa.q (n:=256) (rs:=[.tmp 2]) (A:=A0) hT bY Tryz.func4 (by kernel_rfl) rfl rfl rfl (by kernel_rfl) (by kernel_rfl) h
end Go.Proofs.YtohgmogbabkkeaaGreat
end

section
set_option maxRecDepth 100000
set_option maxHeartbeats 4000000
namespace Go.Proofs.YtohgmogbabkkeaaGreat
open Go.Am
def zq (a0:Option (Nat×Nat)) (a1:List AV) (s:AS) (R:AV->AS->Prop):Prop :=
 cH a1 (aj (.cells a1 0 false) s fun l1 s2=>aR (aC s2 l1 0 2) fun g3=>aa Tryz.prog rX [.agg g3] s2 fun v4 o=>∃ b6:Bool,v4=.bool b6/\(af (!b6) (R (.bool false) o) (aU .i64 (au o l1 0) fun n7=>ai a0 fun l8 o9=>aU .i64 (au o l8 o9) fun A=>af (decide ((n7:Int)>A)) (R (.bool false) o) (rG (au o l1 2) fun B=>aa Tryz.prog ql [.str B] o fun C bW=>∃ p:Bool,C=.bool p/\(af (!p) (R (.bool false) bW) (dI (au bW l1 3) fun D=>aU .i64 (aQ T aq D bW) fun F=>af (decide ((F:Int)>512)) (R (.bool false) bW) (dI (au bW l1 20) fun G=>aU .i64 (aQ T bL G bW) fun H=>af (decide ((H:Int)>1024)) (R (.bool false) bW) (aU .i64 (au bW l1 0) fun I=>bJ (ag T aZ (.ptr (some (l1,4))) (.int .i64 (IntKind.wrap .i64 (I - 1)))) fun J K=>aU .u64 (au bW J K) fun L=>aU .u64 (au bW l1 1) fun M=>af ((L:Int) != (IntKind.wrap .u64 (M - 1)))
 (R (.bool false) bW)
 (bG fun r =>
 (∀ dZ:AS,r [] dZ ->
 bA fun j O=>j O [.int .i64 0] dZ /\
 ∀ m:Nat,∀ b:Int,∀ d:AS,j m [.int .i64 b] d ->
 dI (au d l1 20) fun Q=>aU .i64 (aQ T bL Q d) fun S=>af (decide ((b:Int)<S))
 (dI (au d l1 20) fun U=>bJ (ag T bL U (.int .i64 b)) fun W X=>aR (aC d W X 2) fun Y=>aa Tryz.prog rX [.agg Y] d fun Z k=>∃ w:Bool,Z=.bool w/\(af (!w) (R (.bool false) k) (dI (au k l1 20) fun x_=>bJ (ag T bL x_ (.int .i64 b)) fun ab ad=>rG (au k ab (ad+2)) fun ae=>aa Tryz.prog ql [.str ae] k fun al e=>∃ x:Bool,al=.bool x/\(af (!x) (R (.bool false) e) (af (decide ((b:Int)>0)) (dI (au e l1 20) fun am=>bJ (ag T bL am (.int .i64 (IntKind.wrap .i64 (b - 1)))) fun an ao=>aR (aC e an ao 2) fun ar=>dI (au e l1 20) fun aw=>bJ (ag T bL aw (.int .i64 b)) fun a2 a3=>aR (aC e a2 a3 2) fun a4=>aa Tryz.prog uL [.agg ar,.agg a4] e fun a5 y=>∃ z:Bool,a5=.bool z/\(af (!z)
 (R (.bool false) y)
 (∃ m',m'<m/\j m' [(.int .i64 (IntKind.wrap .i64 (b+1)))] y))) (∃ m',m'<m/\j m' [(.int .i64 (IntKind.wrap .i64 (b+1)))] e))))))
 (R (.bool true) d)) /\
 (bA fun l a6=>l a6 [.int .i64 0] bW /\
 ∀ n:Nat,∀ i:Int,∀ c:AS,l n [.int .i64 i] c ->
 af (decide ((i:Int)<16))
 (bJ (ag T aZ (.ptr (some (l1,4))) (.int .i64 i)) fun a7 a8=>aU .u64 (au c a7 a8) fun a9=>af (decide ((a9:Int)>4611686018427387904)) (R (.bool false) c) (ai a0 fun a' ba=>aU .i64 (au c a' ba) fun bb=>af (decide ((i:Int)>=bb)) (bJ (ag T aZ (.ptr (some (l1,4))) (.int .i64 i)) fun bc bd=>aU .u64 (au c bc bd) fun be=>af ((be:Int) != 0)
 (R (.bool false) c)
 (∃ m',m'<n/\l m' [(.int .i64 (IntKind.wrap .i64 (i+1)))] c)) (∃ m',m'<n/\l m' [(.int .i64 (IntKind.wrap .i64 (i+1)))] c)))
 (r [] c)))))))))))
def zu:QA:=(.seq .leaf (.seq (.seq .calm (.cond (.seq .leaf .leaf) .leaf)) (.join [] [(4,5),(53,76)] (.seq .leaf (.wrap (.loop [(5,.int .i64)] [(4,5),(53,76)] (.seq (.seq .leaf (.cond .leaf .leaf)) (.seq (.wrap (.seq .leaf (.cond (.seq .leaf .leaf) .leaf))) .leaf))))) (.seq (.seq .leaf (.wrap (.loop [(6,.int .i64)] [(4,4),(6,6),(77,122)] (.seq (.seq .leaf (.cond .leaf .leaf)) (.seq (.wrap (.seq .calm (.cond (.seq .leaf .leaf) .leaf))) .leaf))))) (.seq .leaf .leaf)))))
theorem zv (a0:Option (Nat×Nat)) (a1:List AV) (s:AS) (R:AV->AS->Prop) (h:zq a0 a1 s R):aa Tryz.prog lI [.ptr a0,.agg a1] s R :=
 aa.q (n:=123) (rs:=[.tmp 4]) (A:=zu) hT bY Tryz.func29 (by kernel_rfl) rfl rfl rfl (by kernel_rfl) (by kernel_rfl) h
def Me (a0:List AV) (s:AS) (R:AV->AS->Prop):Prop :=
 cH a0 (aj (.cells a0 0 false) s fun l1 s2=>aU .i64 (au s2 l1 0) fun b=>af (decide ((b:Int)>=1)) (aU .i64 (au s2 l1 0) fun c=>af (decide ((c:Int)<=16)) (aU .u64 (au s2 l1 1) fun d=>af (decide ((d:Int)>=1)) (aU .u64 (au s2 l1 1) fun e=>R (.bool (decide ((e:Int)<=4611686018427387904))) s2) (R (.bool false) s2)) (R (.bool false) s2)) (R (.bool false) s2))
def Mf:QA:=(.seq .leaf (.seq .leaf .leaf))
theorem Mg (a0:List AV) (s:AS) (R:AV->AS->Prop) (h:Me a0 s R):aa Tryz.prog rX [.agg a0] s R :=
 aa.q (n:=21) (rs:=[.tmp 2]) (A:=Mf) hT bY Tryz.func99 (by kernel_rfl) rfl rfl rfl (by kernel_rfl) (by kernel_rfl) h
def JX (a0:List UInt8) (s:AS) (R:AV->AS->Prop):Prop :=
 aU .i64 (aQ T bX (.str a0) s) fun b=>af (decide ((b:Int)>=1)) (aU .i64 (aQ T bX (.str a0) s) fun n2=>R (.bool (decide ((n2:Int)<=32))) s) (R (.bool false) s)
def JY:QA:=(.seq .leaf (.seq .leaf .leaf))
theorem JZ (a0:List UInt8) (s:AS) (R:AV->AS->Prop) (h:JX a0 s R):aa Tryz.prog ql [.str a0] s R :=
 aa.q (n:=11) (rs:=[.tmp 2]) (A:=JY) hT bY Tryz.func100 (by kernel_rfl) rfl rfl rfl (by kernel_rfl) (by kernel_rfl) h
def J2 (a0:List AV) (a1:List AV) (s:AS) (R:AV->AS->Prop):Prop :=
 cH a0 (aj (.cells a0 0 false) s fun l1 s2=>cH a1 (aj (.cells a1 0 false) s2 fun l3 s4=>aU .i64 (au s4 l1 0) fun c=>aU .i64 (au s4 l3 0) fun d=>af (decide ((c:Int)<d)) (R (.bool true) s4) (aU .i64 (au s4 l1 0) fun e=>aU .i64 (au s4 l3 0) fun i=>af ((e:Int)==i) (aU .u64 (au s4 l1 1) fun j=>aU .u64 (au s4 l3 1) fun b=>R (.bool (decide ((j:Int)<b))) s4) (R (.bool false) s4))))
def J_:QA:=(.seq .leaf (.seq .leaf .leaf))
theorem Ka (a0:List AV) (a1:List AV) (s:AS) (R:AV->AS->Prop) (h:J2 a0 a1 s R):aa Tryz.prog uL [.agg a0,.agg a1] s R :=
 aa.q (n:=24) (rs:=[.tmp 4]) (A:=J_) hT bY Tryz.func101 (by kernel_rfl) rfl rfl rfl (by kernel_rfl) (by kernel_rfl) h
def u6 (a0:Option (Nat×Nat)) (a1:List UInt8) (a2:AV) (a3:AV) (s:AS) (R:AV->AS->Prop):Prop :=
 aj (.cells [.int .i64 0,.int .u64 0,.str [],.slc none 0 0 true,.int .u64 0,.int .u64 0,.int .u64 0,.int .u64 0,.int .u64 0,.int .u64 0,.int .u64 0,.int .u64 0,.int .u64 0,.int .u64 0,.int .u64 0,.int .u64 0,.int .u64 0,.int .u64 0,.int .u64 0,.int .u64 0,.slc none 0 0 true] 0 false) s fun l1 s2=>gL fun S V=>ai a0 fun l3 o4=>aU .i64 (au s2 l3 (o4+1)) fun n5=>ai a0 fun l6 o7=>aU .i64 (au s2 l6 (o7+1)) fun n8=>ai a0 fun l9 A=>bJ (ag T dz (.ptr (some (l9,(A+2)))) (.int .i64 (IntKind.wrap .i64 (n8 - 1)))) fun B C=>aU .u64 (au s2 B C) fun D=>nQ (aS T gV [(0,.int .i64 n5),(1,(.int .u64 (IntKind.wrap .u64 (D+1))))]) fun F=>(∀ gh:AS,Ext s2 gh->aG gh->(True)->iT (aL T aq aq (.slc none 0 0 true) a2 gh) fun oC kT=>(Ext gh kT/\S 18 [.slc none 0 0 true,a2] oC kT/\V 18 [.slc none 0 0 true,a2] oC))/\(∃ v,V 18 [.slc none 0 0 true,a2] v)/\∀ d:AV,V 18 [.slc none 0 0 true,a2] d->ai a0 fun Ac G=>aR (aC s2 Ac (G+2) 16) fun H=>(∀ fT:AS,Ext s2 fT->aG fT->(S 18 [.slc none 0 0 true,a2] d fT/\True)->iT (aL T bL bL (.slc none 0 0 true) a3 fT) fun k l=>(Ext fT l/\S 24 [.slc none 0 0 true,a3] k l/\V 24 [.slc none 0 0 true,a3] k))/\(∃ v,V 24 [.slc none 0 0 true,a3] v)/\∀ i:AV,V 24 [.slc none 0 0 true,a3] i->nQ (aS T iG [(0,.agg F),(1,.str a1),(2,d),(3,.agg H),(4,i)]) fun m=>(∀ e:AS,Ext s2 e->aG e->(True)->aj (.cells [.int .i64 0,.int .u64 0,.str [],.slc none 0 0 true,.int .u64 0,.int .u64 0,.int .u64 0,.int .u64 0,.int .u64 0,.int .u64 0,.int .u64 0,.int .u64 0,.int .u64 0,.int .u64 0,.int .u64 0,.int .u64 0,.int .u64 0,.int .u64 0,.int .u64 0,.int .u64 0,.slc none 0 0 true] 0 false) e fun n o=>(Ext e o/\S 26 [] (.ptr (some (n,0))) o/\V 26 [] (.ptr (some (n,0)))))/\(∃ v,V 26 [] v)/\∀ v30:AV,V 26 [] v30->∃ b:Option (Nat×Nat),v30=.ptr b/\(∀ c:AS,Ext s2 c->aG c->(S 18 [.slc none 0 0 true,a2] d c/\(S 24 [.slc none 0 0 true,a3] i c/\(S 26 [] (.ptr b) c/\True)))->ai b fun I J=>fC (some 21) m (bu (cU c I J m) fun oR=>ai b fun K L=>aR (aC oR K L 21) fun M=>aa Tryz.prog lI [.ptr a0,.agg M] oR fun x_ j=>∃ p:Bool,x_=.bool p/\(af (!p)
 (nQ (aS T iG []) fun r=>fC (some 21) r (bu (cU j l1 0 r) fun w=>aR (aC w l1 0 21) fun O=>R (.aN [.agg O,.bool false]) w))
 (ai b fun Q U=>aR (aC j Q U 21) fun W=>aa Tryz.prog jE [.ptr a0,.agg W] j fun X x=>X=.aN []/\(ai b fun Y Z=>aR (aC x Y Z 21) fun y=>fC (some 21) y (bu (cU x l1 0 y) fun z=>aR (aC z l1 0 21) fun ab=>R (.aN [.agg ab,.bool true]) z))))))
def u7:QA:=(.seq .leaf (.seq (.g_ 27 [[],[],[],[],[],[],[],[],[],[],[],[],[],[],[],[],[],[],[],[],[],[],[],[],[18],[],[]] [18,24,26]) (.seq (.seq .leaf (.cond (.seq .leaf .leaf) .leaf)) (.seq .leaf (.seq .leaf .leaf)))))
theorem u9 (a0:Option (Nat×Nat)) (a1:List UInt8) (a2:AV) (a3:AV) (s:AS) (R:AV->AS->Prop) (h:u6 a0 a1 a2 a3 s R):aa Tryz.prog bH [.ptr a0,.str a1,a2,a3] s R :=
 aa.q (n:=46) (rs:=[.cell 8 52,.tmp 9]) (A:=u7) hT bY Tryz.func73 (by kernel_rfl) rfl rfl rfl (by kernel_rfl) (by kernel_rfl) h
def xl (a0:Option (Nat×Nat)) (a1:List AV) (s:AS) (R:AV->AS->Prop):Prop :=
 cH a1 (aj (.cells a1 0 false) s fun l1 s2=>aU .i64 (au s2 l1 0) fun n3=>ai a0 fun l4 o5=>bJ (ag T dz (.ptr (some (l4,(o5+2)))) (.int .i64 (IntKind.wrap .i64 (n3 - 1)))) fun l6 o7=>aU .u64 (au s2 l6 o7) fun n8=>ai a0 fun l9 U=>bJ (ag T dz (.ptr (some (l9,(U+2)))) (.int .i64 (IntKind.wrap .i64 (n3 - 1)))) fun W Y=>bu (cU s2 W Y [(.int .u64 (IntKind.wrap .u64 (n8+1)))]) fun bW=>rS bW fun X C c S V=>ai a0 fun r w=>(∀ J:AS,X bW J->aG J->ai a0 fun Z ab=>(((.ptr (some (Z,ab))):AV)=(.ptr (some (r,w)))))/\(dI (au bW r (w+18)) fun v20=>(∀ jl:AS,X bW jl->aG jl->dI (au jl r (w+18)) fun ad=>((ad:AV)=v20))/\(aR (aC bW l1 0 21) fun i=>(∀ fT:AS,X bW fT->aG fT->aR (aC fT l1 0 21) fun ae=>(((.agg ae):AV)=(.agg i)))/\((∀ dZ:AS,X bW dZ->aG dZ->(True)->aR (dw T bC 1 [(0,.agg i)]) fun al=>aj (.cells al 0 false) dZ fun K L=>(Ext dZ L/\S 6 [.agg i] (.slc (some (K,0)) 1 1 true) L/\V 6 [.agg i] (.slc (some (K,0)) 1 1 true)))/\(∃ v,V 6 [.agg i] v)/\∀ b:AV,V 6 [.agg i] b->(∀ k:AS,X bW k->aG k->(S 6 [.agg i] b k/\True)->c k->iT (aL T bC bC v20 b k) fun x y=>((X k y/\C 7 [v20,b] x y)/\S 7 [v20,b] x y/\V 7 [v20,b] x))/\(∃ v,V 7 [v20,b] v)/\∀ n:AV,V 7 [v20,b] n->∀ kH:AS,X bW kH->aG kH->(S 6 [.agg i] b kH/\(S 7 [v20,b] n kH/\True))->C 7 [v20,b] n kH->ai a0 fun am an=>fQ T bC kH am (an+18) n fun oB=>rS oB fun X C c S V=>ai a0 fun z A=>(∀ M:AS,X oB M->aG M->ai a0 fun ao ar=>(((.ptr (some (ao,ar))):AV)=(.ptr (some (z,A)))))/\(dI (au oB z (A+19)) fun e=>(∀ B:AS,X oB B->aG B->dI (au B z (A+19)) fun aw=>((aw:AV)=e))/\(ai a0 fun D F=>(∀ tN:AS,X oB tN->aG tN->ai a0 fun a2 a3=>(((.ptr (some (a2,a3))):AV)=(.ptr (some (D,F)))))/\(aR (aC oB D (F+2) 16) fun j=>(∀ G:AS,X oB G->aG G->aR (aC G D (F+2) 16) fun a4=>(((.agg a4):AV)=(.agg j)))/\((∀ o:AS,X oB o->aG o->(True)->aR (dw T br 1 [(0,.agg j)]) fun a5=>aj (.cells a5 0 false) o fun O Q=>(Ext o Q/\S 9 [.agg j] (.slc (some (O,0)) 1 1 true) Q/\V 9 [.agg j] (.slc (some (O,0)) 1 1 true)))/\(∃ v,V 9 [.agg j] v)/\∀ d:AV,V 9 [.agg j] d->(∀ l:AS,X oB l->aG l->(S 9 [.agg j] d l/\True)->c l->iT (aL T br br e d l) fun H I=>((X l I/\C 10 [e,d] H I)/\S 10 [e,d] H I/\V 10 [e,d] H))/\(∃ v,V 10 [e,d] v)/\∀ p:AV,V 10 [e,d] p->∀ m:AS,X oB m->aG m->(S 9 [.agg j] d m/\(S 10 [e,d] p m/\True))->C 10 [e,d] p m->ai a0 fun a6 a7=>fQ T br m a6 (a7+19) p fun Dt=>R (.aN []) Dt))))))))
def xo:QA:=(.seq .leaf (.seq (.draw 12) (.seq (.tE [0,1,2,3,4,5,6,7] [8,9,10] [[],[],[],[],[],[],[],[6]] [6,7] [7]) (.tE [0,1,2,3,4,5,6,7,8,9,10] [11,12,13] [[],[],[],[],[],[],[],[],[],[],[9]] [9,10] [10]))))
theorem xp (a0:Option (Nat×Nat)) (a1:List AV) (s:AS) (R:AV->AS->Prop) (h:xl a0 a1 s R):aa Tryz.prog jE [.ptr a0,.agg a1] s R :=
 aa.q (n:=40) (rs:=[]) (A:=xo) hT bY Tryz.func108 (by kernel_rfl) rfl rfl rfl (by kernel_rfl) (by kernel_rfl) h
def CA (a0:Option (Nat×Nat)) (a1:Int) (s:AS) (R:AV->AS->Prop):Prop :=
 ai a0 fun l1 o2=>bJ (ag T dz (.ptr (some (l1,o2))) (.int .i64 (IntKind.wrap .i64 (a1 - 1)))) fun l3 L=>aU .u64 (au s l3 L) fun M=>bA fun i O=>i O [.int .u64 M,.int .i64 0] s /\
 ∀ k:Nat,∀ j:Int,∀ c:Int,∀ b:AS,i k [.int .u64 j,.int .i64 c] b ->
 ai a0 fun qL l=>dI (au b qL (l+16)) fun m=>aU .i64 (aQ T az m b) fun n=>af (decide ((c:Int)<n))
 (bG fun d =>
 (∀ e:Bool,∀ eT:AS,d [.bool e] eT ->
 af e
 (ai a0 fun Ac o=>dI (au eT Ac (o+16)) fun p=>bJ (ag T az p (.int .i64 c)) fun r w=>aU .u64 (au eT r (w+1)) fun x=>∃ m',m'<k/\i m' [.int .u64 x,(.int .i64 (IntKind.wrap .i64 (c+1)))] eT)
 (∃ m',m'<k/\i m' [.int .u64 j,(.int .i64 (IntKind.wrap .i64 (c+1)))] eT)) /\
 (ai a0 fun y z=>dI (au b y (z+16)) fun A=>bJ (ag T az A (.int .i64 c)) fun B C=>aU .i64 (au b B C) fun D=>af ((D:Int)==a1) (ai a0 fun F G=>dI (au b F (G+16)) fun H=>bJ (ag T az H (.int .i64 c)) fun I J=>aU .u64 (au b I (J+1)) fun K=>d [(.bool (decide ((K:Int)>j)))] b) (d [.bool false] b)))
 (R (.int .u64 j) b)
def CB:QA:=(.seq .leaf (.seq .leaf (.seq (.seq .leaf (.wrap (.loop [(5,.int .u64),(6,.int .i64)] [(5,6),(14,52)] (.seq (.seq .leaf (.cond .leaf .leaf)) (.seq (.wrap (.join [(44,.bool)] [(23,44)] .leaf (.cond .leaf .leaf))) .leaf))))) (.seq .leaf .leaf))))
theorem CC (a0:Option (Nat×Nat)) (a1:Int) (s:AS) (R:AV->AS->Prop) (h:CA a0 a1 s R):aa Tryz.prog nV [.ptr a0,.int .i64 a1] s R :=
 aa.q (n:=54) (rs:=[.tmp 4]) (A:=CB) hT bY Tryz.func67 (by kernel_rfl) rfl rfl rfl (by kernel_rfl) (by kernel_rfl) h
end Go.Proofs.YtohgmogbabkkeaaGreat
end

section
set_option maxRecDepth 100000
set_option maxHeartbeats 4000000
namespace Go.Proofs.YtohgmogbabkkeaaGreat
open Go.Am
def Oo (a0:Int) (a1:Int) (s:AS) (R:AV->AS->Prop):Prop :=
 bG fun b =>
 (∀ c:Bool,∀ s3:AS,b [.bool c] s3 ->
 af c
 (R (.aN [.ptr none,.int .i64 2]) s3)
 (aj (.map [] 0 false) s3 fun e i=>nQ (aS T sL [(0,.int .i64 a0),(1,.int .i64 a1),(5,(.map (some e)))]) fun d=>cH d (aj (.cells d 0 false) i fun j s8=>R (.aN [(.ptr (some (j,0))),.int .i64 0]) s8))) /\
 (af (decide ((a0:Int)<1)) (b [.bool true] s) (af (decide ((a0:Int)>16)) (b [.bool true] s) (af (decide ((a1:Int)<1)) (b [.bool true] s) (b [(.bool (decide ((a1:Int)>a0)))] s))))
def Oq:QA:=(.seq .leaf (.seq (.join [(20,.bool)] [(6,20)] .leaf (.cond (.seq .leaf .leaf) .leaf)) (.seq .leaf .leaf)))
theorem Ot (a0:Int) (a1:Int) (s:AS) (R:AV->AS->Prop) (h:Oo a0 a1 s R):aa Tryz.prog y6 [.int .i64 a0,.int .i64 a1] s R :=
 aa.q (n:=26) (rs:=[.tmp 4,.tmp 5]) (A:=Oq) hT bY Tryz.func66 (by kernel_rfl) rfl rfl rfl (by kernel_rfl) (by kernel_rfl) h
def vQ (a0:Option (Nat×Nat)) (a1:List UInt8) (a2:AV) (a3:AV) (s:AS) (R:AV->AS->Prop):Prop :=
 aj (.cells [.int .i64 0,.int .u64 0,.str [],.slc none 0 0 true,.int .u64 0,.int .u64 0,.int .u64 0,.int .u64 0,.int .u64 0,.int .u64 0,.int .u64 0,.int .u64 0,.int .u64 0,.int .u64 0,.int .u64 0,.int .u64 0,.int .u64 0,.int .u64 0,.int .u64 0,.int .u64 0,.slc none 0 0 true] 0 false) s fun l1 s2=>aa Tryz.prog er [.ptr a0] s2 fun v3 s4=>∃ b5:Bool,v3=.bool b5/\(af (!b5)
 (nQ (aS T iG []) fun g6=>fC (some 21) g6 (bu (cU s4 l1 0 g6) fun s7=>aR (aC s7 l1 0 21) fun g8=>R (.aN [.agg g8,.int .i64 1]) s7))
 (gL fun S V=>ai a0 fun l9 H=>aU .i64 (au s4 l9 (H+1)) fun I=>ai a0 fun qL J=>aU .i64 (au s4 qL (J+1)) fun K=>ai a0 fun L M=>bJ (ag T aZ (.ptr (some (L,(M+2)))) (.int .i64 (IntKind.wrap .i64 (K - 1)))) fun O Q=>aU .u64 (au s4 O Q) fun U=>nQ (aS T gV [(0,.int .i64 I),(1,(.int .u64 (IntKind.wrap .u64 (U+1))))]) fun W=>ai a0 fun X Y=>aR (aC s4 X (Y+2) 16) fun Z=>nQ (aS T iG [(0,.agg W),(1,.str a1),(2,a2),(3,.agg Z),(4,a3)]) fun o=>(∀ dZ:AS,Ext s4 dZ->aG dZ->(True)->aj (.cells [.int .i64 0,.int .u64 0,.str [],.slc none 0 0 true,.int .u64 0,.int .u64 0,.int .u64 0,.int .u64 0,.int .u64 0,.int .u64 0,.int .u64 0,.int .u64 0,.int .u64 0,.int .u64 0,.int .u64 0,.int .u64 0,.int .u64 0,.int .u64 0,.int .u64 0,.int .u64 0,.slc none 0 0 true] 0 false) dZ fun p r=>(Ext dZ r/\S 24 [] (.ptr (some (p,0))) r/\V 24 [] (.ptr (some (p,0)))))/\(∃ v,V 24 [] v)/\∀ w:AV,V 24 [] w->∃ b:Option (Nat×Nat),w=.ptr b/\(∀ e:AS,Ext s4 e->aG e->(S 24 [] (.ptr b) e/\True)->ai b fun ab ad=>fC (some 21) o (bu (cU e ab ad o) fun kH=>ai b fun ae al=>aU .u64 (au kH ae (al+1)) fun x=>bG fun l =>
 (∀ m:AS,l [] m ->
 ai b fun am an=>aR (aC m am an 21) fun ao=>aa Tryz.prog mI [.ptr a0,.agg ao] m fun ar i=>∃ y:Bool,ar=.bool y/\(af (!y)
 (nQ (aS T iG []) fun z=>fC (some 21) z (bu (cU i l1 0 z) fun A=>aR (aC A l1 0 21) fun aw=>R (.aN [.agg aw,.int .i64 2]) A))
 (af (decide ((x:Int)>4611686018427387904))
 (nQ (aS T iG []) fun B=>fC (some 21) B (bu (cU i l1 0 B) fun C=>aR (aC C l1 0 21) fun a4=>R (.aN [.agg a4,.int .i64 5]) C))
 (ai b fun a5 a6=>aR (aC i a5 a6 21) fun a7=>aa Tryz.prog en [.agg a7] i fun a8 a9=>∃ D:List AV,a8=.agg D/\(aa Tryz.prog kD [.ptr a0,.agg D] a9 fun a' F=>a'=.aN []/\(ai b fun ba bb=>aR (aC F ba bb 21) fun bc=>aa Tryz.prog en [.agg bc] F fun bd be=>∃ n:List AV,bd=.agg n/\(fC (some 21) n (bu (cU be l1 0 n) fun Dt=>aR (aC Dt l1 0 21) fun bh=>R (.aN [.agg bh,.int .i64 0]) Dt)))))))) /\
 (af (decide ((x:Int)>4611686018427387904))
 (gL fun S V=>ai a0 fun bi bj=>aU .i64 (au kH bi (bj+1)) fun bk=>ai b fun c d=>(∀ j:AS,Ext kH j->aG j->(True)->bu (cU j c (d+1) [.int .u64 1]) fun V_=>(Ext j V_/\S 7 [(.ptr (some (c,(d+1)))),.int .u64 1] (.aN []) V_/\V 7 [(.ptr (some (c,(d+1)))),.int .u64 1] (.aN [])))/\(∃ v,V 7 [(.ptr (some (c,(d+1)))),.int .u64 1] v)/\∀ G:AV,V 7 [(.ptr (some (c,(d+1)))),.int .u64 1] G->G=.aN []/\(ai b fun bl bm=>∀ k:AS,Ext kH k->aG k->(S 7 [(.ptr (some (c,(d+1)))),.int .u64 1] (.aN []) k/\True)->bJ (ag T aZ (.ptr (some (bl,(bm+4)))) (.int .i64 (IntKind.wrap .i64 (bk - 1)))) fun bo bs=>bu (cU k bo bs [.int .u64 0]) fun bx=>l [] bx))
 (l [] kH))))))
def vR:QA:=(.seq .leaf (.seq (.seq .leaf (.cond (.seq .leaf .leaf) .leaf)) (.seq (.g_ 25 [[],[],[],[],[],[],[],[],[],[],[],[],[],[],[],[],[],[],[],[],[],[],[],[],[]] [24]) (.seq .leaf (.join [] [(44,53)] (.seq .leaf (.cond (.g_ 9 [[],[],[],[],[],[],[],[],[]] [7]) .leaf)) (.seq (.wrap (.seq .leaf (.cond (.seq .leaf .leaf) (.seq .leaf (.cond (.seq .leaf .leaf) .leaf))))) (.seq .leaf (.seq .leaf .leaf))))))))
theorem vS (a0:Option (Nat×Nat)) (a1:List UInt8) (a2:AV) (a3:AV) (s:AS) (R:AV->AS->Prop) (h:vQ a0 a1 a2 a3 s R):aa Tryz.prog bN [.ptr a0,.str a1,a2,a3] s R :=
 aa.q (n:=69) (rs:=[.cell 8 52,.tmp 9]) (A:=vR) hT bY Tryz.func71 (by kernel_rfl) rfl rfl rfl (by kernel_rfl) (by kernel_rfl) h
def zw (a0:Option (Nat×Nat)) (s:AS) (R:AV->AS->Prop):Prop :=
 aa Tryz.prog er [.ptr a0] s fun F s2=>∃ C:Bool,F=.bool C/\(af (!C)
 (R (.ptr none) s2)
 (ai a0 fun G H=>aR (aC s2 G H 21) fun D=>aj (.cells [.int .i64 0,.int .i64 0,.int .u64 0,.int .u64 0,.int .u64 0,.int .u64 0,.int .u64 0,.int .u64 0,.int .u64 0,.int .u64 0,.int .u64 0,.int .u64 0,.int .u64 0,.int .u64 0,.int .u64 0,.int .u64 0,.int .u64 0,.int .u64 0,.slc none 0 0 true,.slc none 0 0 true,.map none] 0 false) s2 fun j s8=>fC (some 21) D (bu (cU s8 j 0 D) fun i=>gL fun S V=>ai a0 fun oQ n=>dI (au i oQ (n+18)) fun b=>(∀ bW:AS,Ext i bW->aG bW->(True)->aa Tryz.prog bp [b] bW fun k gh=>(Ext bW gh/\S 4 [(.func bp []),b] k gh/\V 4 [(.func bp []),b] k))/\(∃ v,V 4 [(.func bp []),b] v)/\∀ oC:AV,V 4 [(.func bp []),b] oC->ai a0 fun o p=>dI (au i o (p+19)) fun c=>(∀ gy:AS,Ext i gy->aG gy->(S 4 [(.func bp []),b] oC gy/\True)->aa Tryz.prog bt [c] gy fun l fT=>(Ext gy fT/\S 9 [(.func bt []),c] l fT/\V 9 [(.func bt []),c] l))/\(∃ v,V 9 [(.func bt []),c] v)/\∀ e:AV,V 9 [(.func bt []),c] e->ai a0 fun r w=>yD (au i r (w+20)) fun x=>∀ d:AS,Ext i d->aG d->(S 4 [(.func bp []),b] oC d/\(S 9 [(.func bt []),c] e d/\True))->aa Tryz.prog fL [.map x] d fun y z=>∃ m:Option Nat,y=.map m/\(fQ T bC z j 18 oC fun A=>fQ T br A j 19 e fun B=>bu (cU B j 20 [.map m]) fun kH=>R (.ptr (some (j,0))) kH))))
def zx:QA:=(.seq .leaf (.seq (.seq .leaf (.cond (.seq .leaf .leaf) .leaf)) (.seq .leaf (.seq (.g_ 14 [[],[],[],[],[],[],[],[],[],[4],[],[],[],[]] [4,9]) (.seq .leaf .leaf)))))
theorem zy (a0:Option (Nat×Nat)) (s:AS) (R:AV->AS->Prop) (h:zw a0 s R):aa Tryz.prog iA [.ptr a0] s R :=
 aa.q (n:=28) (rs:=[.tmp 2]) (A:=zx) hT bY Tryz.func77 (by kernel_rfl) rfl rfl rfl (by kernel_rfl) (by kernel_rfl) h
def yc (a0:Option (Nat×Nat)) (s:AS) (R:AV->AS->Prop):Prop :=
 uC (je T 100 lD (.ptr a0) (.ptr none)) fun b=>af (!b) (ai a0 fun c d=>yD (au s c (d+20)) fun e=>uC (je T 100 sJ (.map e) (.map none)) fun i=>R (.bool (!i)) s) (R (.bool false) s)
def yd:QA:=(.seq .leaf (.seq .leaf .leaf))
theorem yf (a0:Option (Nat×Nat)) (s:AS) (R:AV->AS->Prop) (h:yc a0 s R):aa Tryz.prog er [.ptr a0] s R :=
 aa.q (n:=12) (rs:=[.tmp 2]) (A:=yd) hT bY Tryz.func84 (by kernel_rfl) rfl rfl rfl (by kernel_rfl) (by kernel_rfl) h
def A3 (a0:Option (Nat×Nat)) (s:AS) (R:AV->AS->Prop):Prop :=
 aa Tryz.prog er [.ptr a0] s fun c s2=>∃ b:Bool,c=.bool b/\(af (!b)
 (R (.int .i64 0) s2)
 (ai a0 fun d e=>dI (au s2 d (e+18)) fun i=>aU .i64 (aQ T bC i s2) fun j=>R (.int .i64 j) s2))
def A4:QA:=(.seq .leaf (.seq (.seq .leaf (.cond (.seq .leaf .leaf) .leaf)) (.seq .leaf .leaf)))
theorem A5 (a0:Option (Nat×Nat)) (s:AS) (R:AV->AS->Prop) (h:A3 a0 s R):aa Tryz.prog mE [.ptr a0] s R :=
 aa.q (n:=11) (rs:=[.tmp 2]) (A:=A4) hT bY Tryz.func22 (by kernel_rfl) rfl rfl rfl (by kernel_rfl) (by kernel_rfl) h
def A7 (a0:Option (Nat×Nat)) (a1:List AV) (s:AS) (R:AV->AS->Prop):Prop :=
 cH a1 (aj (.cells a1 0 false) s fun l1 s2=>aR (aC s2 l1 0 21) fun B=>aa Tryz.prog wO [.agg B] s2 fun C b=>∃ A:Bool,C=.bool A/\(af (!A) (R (.bool false) b) (aU .i64 (au b l1 0) fun D=>ai a0 fun F G=>aU .i64 (au b F G) fun j=>af (decide ((D:Int)>j)) (R (.bool false) b) (aU .i64 (au b l1 0) fun k=>bJ (ag T aZ (.ptr (some (l1,4))) (.int .i64 (IntKind.wrap .i64 (k - 1)))) fun qL l=>aU .u64 (au b qL l) fun m=>aU .u64 (au b l1 1) fun n=>af ((m:Int) != (IntKind.wrap .u64 (n - 1)))
 (R (.bool false) b)
 (ai a0 fun pT o=>aU .i64 (au b pT o) fun p=>dI (bg T aZ (.ptr (some (l1,4))) (some (.int .i64 p)) none none) fun e=>aU .i64 (aQ T fB e b) fun r=>bA fun d w=>d w [.int .i64 0] b /\
 ∀ i:Nat,∀ c:Int,∀ dZ:AS,d i [.int .i64 c] dZ ->
 af (decide ((c:Int)<r))
 (bJ (ag T fB e (.int .i64 c)) fun x y=>aU .u64 (au dZ x y) fun z=>af ((z:Int) != 0)
 (R (.bool false) dZ)
 (∃ m',m'<i/\d m' [(.int .i64 (IntKind.wrap .i64 (c+1)))] dZ))
 (R (.bool true) dZ))))))
def A8:QA:=(.seq .leaf (.seq (.seq .calm (.cond (.seq .leaf .leaf) .leaf)) (.seq (.seq .leaf (.wrap (.loop [(41,.int .i64)] [(4,4),(6,6),(41,47)] (.seq .leaf (.seq (.cond .leaf .leaf) (.seq (.wrap (.seq .leaf (.seq .leaf (.cond (.seq .leaf .leaf) .leaf)))) .leaf)))))) (.seq .leaf .leaf))))
theorem A9 (a0:Option (Nat×Nat)) (a1:List AV) (s:AS) (R:AV->AS->Prop) (h:A7 a0 a1 s R):aa Tryz.prog mI [.ptr a0,.agg a1] s R :=
 aa.q (n:=48) (rs:=[.tmp 4]) (A:=A8) hT bY Tryz.func102 (by kernel_rfl) rfl rfl rfl (by kernel_rfl) (by kernel_rfl) h
def Kb (a0:List AV) (s:AS) (R:AV->AS->Prop):Prop :=
 cH a0 (aj (.cells a0 0 false) s fun l1 s2=>aj (.cells [.int .i64 0,.int .u64 0,.str [],.slc none 0 0 true,.int .u64 0,.int .u64 0,.int .u64 0,.int .u64 0,.int .u64 0,.int .u64 0,.int .u64 0,.int .u64 0,.int .u64 0,.int .u64 0,.int .u64 0,.int .u64 0,.int .u64 0,.int .u64 0,.int .u64 0,.int .u64 0,.slc none 0 0 true] 0 false) s2 fun l3 s4=>gL fun S V=>dI (au s4 l1 3) fun c=>(∀ s6:AS,Ext s4 s6->aG s6->(True)->aa Tryz.prog aT [c] s6 fun l s8=>(Ext s6 s8/\S 2 [(.func aT []),c] l s8/\V 2 [(.func aT []),c] l))/\(∃ v,V 2 [(.func aT []),c] v)/\∀ j:AV,V 2 [(.func aT []),c] j->dI (au s4 l1 20) fun v10=>(∀ b:AS,Ext s4 b->aG b->(S 2 [(.func aT []),c] j b/\True)->aa Tryz.prog bF [v10] b fun e bW=>(Ext b bW/\S 5 [(.func bF []),v10] e bW/\V 5 [(.func bF []),v10] e))/\(∃ v,V 5 [(.func bF []),v10] v)/\∀ d:AV,V 5 [(.func bF []),v10] d->∀ gh:AS,Ext s4 gh->aG gh->(S 2 [(.func aT []),c] j gh/\(S 5 [(.func bF []),v10] d gh/\True))->fQ T aq gh l1 3 j fun kT=>fQ T bL kT l1 20 d fun eT=>aR (aC eT l1 0 21) fun i=>fC (some 21) i (bu (cU eT l3 0 i) fun gy=>aR (aC gy l3 0 21) fun k=>R (.agg k) gy))
def Kc:QA:=(.seq .leaf (.seq (.g_ 7 [[],[],[],[],[],[2],[]] [2,5]) (.seq .leaf .leaf)))
theorem Ke (a0:List AV) (s:AS) (R:AV->AS->Prop) (h:Kb a0 s R):aa Tryz.prog en [.agg a0] s R :=
 aa.q (n:=12) (rs:=[.cell 2 52]) (A:=Kc) hT bY Tryz.func104 (by kernel_rfl) rfl rfl rfl (by kernel_rfl) (by kernel_rfl) h
def yg (a0:Option (Nat×Nat)) (a1:List AV) (s:AS) (R:AV->AS->Prop):Prop :=
 cH a1 (aj (.cells a1 0 false) s fun l1 s2=>aU .i64 (au s2 l1 0) fun n3=>ai a0 fun l4 o5=>bJ (ag T aZ (.ptr (some (l4,(o5+2)))) (.int .i64 (IntKind.wrap .i64 (n3 - 1)))) fun l6 o7=>aU .u64 (au s2 l6 o7) fun n8=>ai a0 fun l9 W=>bJ (ag T aZ (.ptr (some (l9,(W+2)))) (.int .i64 (IntKind.wrap .i64 (n3 - 1)))) fun Y Z=>bu (cU s2 Y Z [(.int .u64 (IntKind.wrap .u64 (n8+1)))]) fun bW=>rS bW fun X C c S V=>ai a0 fun p r=>(∀ I:AS,X bW I->aG I->ai a0 fun ab ad=>(((.ptr (some (ab,ad))):AV)=(.ptr (some (p,r)))))/\(dI (au bW p (r+18)) fun v20=>(∀ jl:AS,X bW jl->aG jl->dI (au jl p (r+18)) fun ae=>((ae:AV)=v20))/\(aR (aC bW l1 0 21) fun e=>(∀ fT:AS,X bW fT->aG fT->aR (aC fT l1 0 21) fun al=>(((.agg al):AV)=(.agg e)))/\((∀ dZ:AS,X bW dZ->aG dZ->(True)->aR (dw T bC 1 [(0,.agg e)]) fun am=>aj (.cells am 0 false) dZ fun J K=>(Ext dZ K/\S 7 [.agg e] (.slc (some (J,0)) 1 1 true) K/\V 7 [.agg e] (.slc (some (J,0)) 1 1 true)))/\(∃ v,V 7 [.agg e] v)/\∀ b:AV,V 7 [.agg e] b->(∀ l:AS,X bW l->aG l->(S 7 [.agg e] b l/\True)->c l->iT (aL T bC bC v20 b l) fun w x=>((X l x/\C 8 [v20,b] w x)/\S 8 [v20,b] w x/\V 8 [v20,b] w))/\(∃ v,V 8 [v20,b] v)/\∀ m:AV,V 8 [v20,b] m->ai a0 fun y z=>(∀ kH:AS,X bW kH->aG kH->ai a0 fun an ao=>(((.ptr (some (an,ao))):AV)=(.ptr (some (y,z)))))/\(dI (au bW y (z+19)) fun x_=>(∀ A:AS,X bW A->aG A->dI (au A y (z+19)) fun ar=>((ar:AV)=x_))/\(ai a0 fun B D=>(∀ L:AS,X bW L->aG L->ai a0 fun aw a2=>(((.ptr (some (aw,a2))):AV)=(.ptr (some (B,D)))))/\(aR (aC bW B (D+2) 16) fun i=>(∀ F:AS,X bW F->aG F->aR (aC F B (D+2) 16) fun a3=>(((.agg a3):AV)=(.agg i)))/\((∀ n:AS,X bW n->aG n->(True)->aR (dw T br 1 [(0,.agg i)]) fun a4=>aj (.cells a4 0 false) n fun M G8=>(Ext n G8/\S 17 [.agg i] (.slc (some (M,0)) 1 1 true) G8/\V 17 [.agg i] (.slc (some (M,0)) 1 1 true)))/\(∃ v,V 17 [.agg i] v)/\∀ d:AV,V 17 [.agg i] d->(∀ j:AS,X bW j->aG j->(S 7 [.agg e] b j/\(S 8 [v20,b] m j/\(S 17 [.agg i] d j/\True)))->C 8 [v20,b] m j->iT (aL T br br x_ d j) fun G H=>((X j H/\C 18 [x_,d] G H)/\S 18 [x_,d] G H/\V 18 [x_,d] G))/\(∃ v,V 18 [x_,d] v)/\∀ o:AV,V 18 [x_,d] o->ai a0 fun O Q=>(∀ U:AS,X bW U->aG U->ai a0 fun a5 a6=>(((.ptr (some (a5,a6))):AV)=(.ptr (some (O,Q)))))/\(∀ k:AS,X bW k->aG k->(S 7 [.agg e] b k/\(S 8 [v20,b] m k/\(S 17 [.agg i] d k/\(S 18 [x_,d] o k/\True))))->C 18 [x_,d] o k->fQ T bC k O (Q+18) m fun a7=>ai a0 fun a8 a9=>fQ T br a7 a8 (a9+19) o fun PF=>R (.aN []) PF)))))))))
def yh:QA:=(.seq .leaf (.seq (.draw 12) (.tE [0,1,2,3,4,5,6,7,8,9,10,11,12,13,14,15,16,17,18,19,20] [21,22,23,24] [[],[],[],[],[],[],[],[],[7],[],[],[],[],[],[],[],[],[],[7,8,17],[],[],[],[],[],[]] [7,8,17,18] [8,18])))
theorem yj (a0:Option (Nat×Nat)) (a1:List AV) (s:AS) (R:AV->AS->Prop) (h:yg a0 a1 s R):aa Tryz.prog kD [.ptr a0,.agg a1] s R :=
 aa.q (n:=40) (rs:=[]) (A:=yh) hT bY Tryz.func105 (by kernel_rfl) rfl rfl rfl (by kernel_rfl) (by kernel_rfl) h
def CD (a0:Option (Nat×Nat)) (a1:Int) (s:AS) (R:AV->AS->Prop):Prop :=
 aj (.cells [.int .i64 0,.int .u64 0,.str [],.slc none 0 0 true,.int .u64 0,.int .u64 0,.int .u64 0,.int .u64 0,.int .u64 0,.int .u64 0,.int .u64 0,.int .u64 0,.int .u64 0,.int .u64 0,.int .u64 0,.int .u64 0,.int .u64 0,.int .u64 0,.int .u64 0,.int .u64 0,.slc none 0 0 true] 0 false) s fun l1 s2=>aj (.cells [.int .u64 0,.int .u64 0,.int .u64 0,.int .u64 0,.int .u64 0,.int .u64 0,.int .u64 0,.int .u64 0,.int .u64 0,.int .u64 0,.int .u64 0,.int .u64 0,.int .u64 0,.int .u64 0,.int .u64 0,.int .u64 0] 0 false) s2 fun l3 s4=>bG fun O =>
 (∀ b6:Bool,∀ s7:AS,O [.bool b6] s7 ->
 af b6
 (nQ (aS T iG []) fun g8=>nQ (aS T aZ []) fun g9=>fC (some 21) g8 (bu (cU s7 l1 0 g8) fun Q=>fC (some 16) g9 (bu (cU Q l3 0 g9) fun j=>aR (aC j l1 0 21) fun U=>aR (aC j l3 0 16) fun W=>R (.aN [.agg U,.agg W,.bool false]) j)))
 (rS s7 fun X C c S V=>ai a0 fun k l=>(∀ A:AS,X s7 A->aG A->ai a0 fun Y Z=>(((.ptr (some (Y,Z))):AV)=(.ptr (some (k,l)))))/\(dI (au s7 k (l+18)) fun v20=>(∀ jl:AS,X s7 jl->aG jl->dI (au jl k (l+18)) fun ab=>((ab:AV)=v20))/\(bJ (ag T bC v20 (.int .i64 a1)) fun B D=>aR (aC s7 B D 21) fun d=>(∀ m:AS,X s7 m->aG m->aR (aC m B D 21) fun ad=>(((.agg ad):AV)=(.agg d)))/\((∀ i:AS,X s7 i->aG i->(True)->aa Tryz.prog en [.agg d] i fun ae F=>∃ n:List AV,ae=.agg n/\((Ext i F/\S 7 [(.func en []),.agg d] (.agg n) F/\V 7 [(.func en []),.agg d] (.agg n))))/\(∃ v,V 7 [(.func en []),.agg d] v)/\∀ G:AV,V 7 [(.func en []),.agg d] G->∃ b:List AV,G=.agg b/\(ai a0 fun o p=>(∀ H:AS,X s7 H->aG H->ai a0 fun al am=>(((.ptr (some (al,am))):AV)=(.ptr (some (o,p)))))/\(dI (au s7 o (p+19)) fun I=>(∀ r:AS,X s7 r->aG r->dI (au r o (p+19)) fun x_=>((x_:AV)=I))/\(bJ (ag T br I (.int .i64 a1)) fun J K=>aR (aC s7 J K 16) fun w=>(∀ x:AS,X s7 x->aG x->aR (aC x J K 16) fun an=>(((.agg an):AV)=(.agg w)))/\((∀ tN:AS,X s7 tN->aG tN->(S 7 [(.func en []),.agg d] (.agg b) tN/\True)->c tN->fC (some 21) b (bu (cU tN l1 0 b) fun y=>((X tN y/\C 15 [(.ptr (some (l1,0))),.agg b] (.aN []) y)/\S 15 [(.ptr (some (l1,0))),.agg b] (.aN []) y/\V 15 [(.ptr (some (l1,0))),.agg b] (.aN []))))/\(∃ v,V 15 [(.ptr (some (l1,0))),.agg b] v)/\∀ L:AV,V 15 [(.ptr (some (l1,0))),.agg b] L->L=.aN []/\(∀ zf:AS,X s7 zf->aG zf->(S 7 [(.func en []),.agg d] (.agg b) zf/\(S 15 [(.ptr (some (l1,0))),.agg b] (.aN []) zf/\True))->C 15 [(.ptr (some (l1,0))),.agg b] (.aN []) zf->fC (some 16) w (bu (cU zf l3 0 w) fun z=>aR (aC z l1 0 21) fun ao=>aR (aC z l3 0 16) fun ar=>R (.aN [.agg ao,.agg ar,.bool true]) z))))))))))) /\
 (aa Tryz.prog er [.ptr a0] s4 fun aw e=>∃ M:Bool,aw=.bool M/\(af (!M) (O [.bool true] e) (af (decide ((a1:Int)<0)) (O [.bool true] e) (ai a0 fun a2 a3=>dI (au e a2 (a3+18)) fun a4=>aU .i64 (aQ T bC a4 e) fun a5=>O [(.bool (decide ((a1:Int)>=a5)))] e))))
def CE:QA:=(.seq .leaf (.seq (.join [(22,.bool)] [(7,22)] .leaf (.cond (.seq .leaf .leaf) .leaf)) (.seq (.tE [0,1,2,3,4,5,6,7,8,9,10,11,12,13,14,15] [16,17] [[],[],[],[],[],[],[],[],[],[],[],[],[],[],[],[7]] [7,15] [15]) .leaf)))
theorem CF (a0:Option (Nat×Nat)) (a1:Int) (s:AS) (R:AV->AS->Prop) (h:CD a0 a1 s R):aa Tryz.prog nY [.ptr a0,.int .i64 a1] s R :=
 aa.q (n:=40) (rs:=[.cell 4 52,.cell 5 49,.tmp 6]) (A:=CE) hT bY Tryz.func159 (by kernel_rfl) rfl rfl rfl (by kernel_rfl) (by kernel_rfl) h
def pV (a0:AV) (s:AS) (R:AV->AS->Prop):Prop :=
 aU .i64 (aQ T bC a0 s) fun b=>aU .i64 (aQ T bC a0 s) fun n2=>dI (bg T bC a0 none (some (.int .i64 b)) (some (.int .i64 n2))) fun c=>R c s
def pW:QA:=(.seq .leaf (.seq .leaf .leaf))
theorem pX (a0:AV) (s:AS) (R:AV->AS->Prop) (h:pV a0 s R):aa Tryz.prog bp [a0] s R :=
 aa.q (n:=9) (rs:=[.tmp 2]) (A:=pW) hT bY Tryz.func156 (by kernel_rfl) rfl rfl rfl (by kernel_rfl) (by kernel_rfl) h
def oD (a0:AV) (s:AS) (R:AV->AS->Prop):Prop :=
 aU .i64 (aQ T br a0 s) fun b=>aU .i64 (aQ T br a0 s) fun n2=>dI (bg T br a0 none (some (.int .i64 b)) (some (.int .i64 n2))) fun c=>R c s
def oE:QA:=(.seq .leaf (.seq .leaf .leaf))
theorem oF (a0:AV) (s:AS) (R:AV->AS->Prop) (h:oD a0 s R):aa Tryz.prog bt [a0] s R :=
 aa.q (n:=9) (rs:=[.tmp 2]) (A:=oE) hT bY Tryz.func157 (by kernel_rfl) rfl rfl rfl (by kernel_rfl) (by kernel_rfl) h
def qs (a0:AV) (s:AS) (R:AV->AS->Prop):Prop :=
 uC (Rw T bL true a0 (.slc none 0 0 true)) fun b=>af b
 (R (.slc none 0 0 true) s)
 (aR (dw T bL 0 []) fun c=>aj (.cells c 0 false) s fun l3 s4=>iT (aL T bL bL (.slc (some (l3,0)) 0 0 true) a0 s4) fun d s6=>R d s6)
def qt:QA:=(.seq .leaf (.seq (.seq .leaf (.cond (.seq .leaf .leaf) .leaf)) (.seq .leaf .leaf)))
theorem qu (a0:AV) (s:AS) (R:AV->AS->Prop) (h:qs a0 s R):aa Tryz.prog bF [a0] s R :=
 aa.q (n:=8) (rs:=[.tmp 2]) (A:=qt) hT bY Tryz.func170 (by kernel_rfl) rfl rfl rfl (by kernel_rfl) (by kernel_rfl) h
end Go.Proofs.YtohgmogbabkkeaaGreat
end
