/-
  A part of the proof: an abstract machine over the model, and contracts of functions of this program over it.
-/
import Derived.Test.YtohgmogbabkkeaaGreatProg
import Derived.KernelRfl
import Derived.Test.YtohgmogbabkkeaaGreatRows
import Derived.Test.YtohgmogbabkkeaaGreatP3
set_option linter.unusedVariables false
set_option linter.unusedSimpArgs false
set_option linter.unusedSectionVars false
section
namespace Go.Proofs.YtohgmogbabkkeaaGreat
open Go.Am
noncomputable def T:TT:=TT.of Tryz.prog
theorem hT:TT.Ok Tryz.prog T:=TT.aeD _
theorem bU:Tryz.prog.follows .mixedOrders=true:=by kernel_rfl
end Go.Proofs.YtohgmogbabkkeaaGreat
end

section
namespace Go.Proofs.YtohgmogbabkkeaaGreat
open Go.Am
abbrev jP:Nat:=5
abbrev oG:Nat:=12
abbrev kF:Nat:=13
abbrev cS:Nat:=14
abbrev q9:Nat:=15
abbrev jq:Nat:=16
abbrev de:Nat:=17
abbrev eD:Nat:=18
abbrev fA:Nat:=19
abbrev kW:Nat:=20
abbrev gU:Nat:=21
abbrev mD:Nat:=22
abbrev oS:Nat:=24
abbrev pP:Nat:=25
abbrev jQ:Nat:=27
abbrev jR:Nat:=28
abbrev lz:Nat:=29
abbrev xF:Nat:=33
abbrev iu:Nat:=36
abbrev kG:Nat:=44
abbrev xG:Nat:=61
abbrev zY:Nat:=66
abbrev nQ:Nat:=67
abbrev cX:Nat:=68
abbrev pQ:Nat:=69
abbrev aS:Nat:=70
abbrev bI:Nat:=71
abbrev cQ:Nat:=72
abbrev bF:Nat:=73
abbrev cR:Nat:=74
abbrev dV:Nat:=75
abbrev fP:Nat:=76
abbrev fE:Nat:=77
abbrev dW:Nat:=78
abbrev bQ:Nat:=79
abbrev bK:Nat:=80
abbrev sQ:Nat:=81
abbrev eo:Nat:=82
abbrev fF:Nat:=83
abbrev ec:Nat:=84
abbrev gV:Nat:=87
abbrev sj:Nat:=88
abbrev jr:Nat:=89
abbrev dw:Nat:=90
abbrev xH:Nat:=91
abbrev eL:Nat:=92
abbrev ct:Nat:=93
abbrev gD:Nat:=94
abbrev mE:Nat:=95
abbrev q_:Nat:=96
abbrev pR:Nat:=97
abbrev lA:Nat:=98
abbrev sk:Nat:=99
abbrev qs:Nat:=100
abbrev u5:Nat:=101
abbrev mF:Nat:=102
abbrev dX:Nat:=104
abbrev ki:Nat:=105
abbrev jt:Nat:=108
abbrev pS:Nat:=109
abbrev di:Nat:=111
abbrev iy:Nat:=112
abbrev aG:Nat:=113
abbrev fU:Nat:=114
abbrev iJ:Nat:=117
abbrev nR:Nat:=118
abbrev dA:Nat:=121
abbrev eM:Nat:=124
abbrev ax:Nat:=126
abbrev cK:Nat:=127
abbrev Db:Nat:=146
abbrev mG:Nat:=150
abbrev mH:Nat:=151
abbrev dG:Nat:=152
abbrev kX:Nat:=153
abbrev kj:Nat:=154
abbrev nS:Nat:=155
abbrev a_:Nat:=156
abbrev br:Nat:=157
abbrev fu:Nat:=158
abbrev nT:Nat:=159
abbrev xI:Nat:=160
abbrev sR:Nat:=161
abbrev gX:Nat:=163
abbrev gY:Nat:=164
abbrev ju:Nat:=165
abbrev xJ:Nat:=166
abbrev zZ:Nat:=167
abbrev eE:Nat:=168
abbrev xK:Nat:=169
abbrev bE:Nat:=170
abbrev mI:Nat:=172
abbrev xL:Nat:=173
abbrev nU:Nat:=174
abbrev pT:Nat:=175
abbrev kY:Nat:=177
abbrev kH:Nat:=178
abbrev aO:Nat:=179
abbrev ez:Nat:=180
abbrev bX:Nat:=185
abbrev ep:Nat:=189
abbrev iM:Nat:=191
abbrev eY:Nat:=192
abbrev qt:Nat:=207
abbrev pU:Nat:=208
abbrev qu:Nat:=209
abbrev u6:Nat:=210
abbrev z0:Nat:=211
abbrev sS:Nat:=212
abbrev dY:Nat:=213
abbrev sU:Nat:=214
abbrev nV:Nat:=215
abbrev u7:Nat:=216
abbrev jx:Nat:=217
abbrev z1:Nat:=218
abbrev xM:Nat:=219
abbrev cD:Nat:=220
abbrev fV:Nat:=221
abbrev jz:Nat:=222
abbrev mJ:Nat:=223
abbrev u9:Nat:=224
abbrev bA:Nat:=225
abbrev cJ:Nat:=226
abbrev sV:Nat:=227
abbrev mK:Nat:=237
abbrev jS:Nat:=238
abbrev gA:Nat:=239
abbrev dn:Nat:=245
abbrev oT:Nat:=246
abbrev pV:Nat:=247
abbrev eZ:Nat:=248
abbrev kk:Nat:=255
abbrev eO:Nat:=256
abbrev nW:Nat:=257
abbrev u_:Nat:=258
abbrev ri:Nat:=259
abbrev xN:Nat:=260
abbrev mL:Nat:=261
abbrev qj:Nat:=262
abbrev dZ:Nat:=263
abbrev mM:Nat:=264
abbrev gF:Nat:=266
abbrev gZ:Nat:=267
abbrev lC:Nat:=272
abbrev oU:Nat:=273
abbrev lD:Nat:=274
abbrev mN:Nat:=275
abbrev lX:Nat:=276
abbrev iz:Nat:=277
abbrev kI:Nat:=278
abbrev nX:Nat:=279
abbrev fG:Nat:=280
abbrev rj:Nat:=291
abbrev va:Nat:=292
abbrev nY:Nat:=293
abbrev z2:Nat:=294
abbrev sn:Nat:=295
abbrev sX:Nat:=296
abbrev fl:Nat:=297
abbrev aE:Nat:=298
abbrev gj:Nat:=299
abbrev mO:Nat:=300
abbrev rT:Nat:=301
abbrev oV:Nat:=303
abbrev kJ:Nat:=304
abbrev qv:Nat:=305
abbrev fW:Nat:=306
abbrev sq:Nat:=307
abbrev qw:Nat:=313
end Go.Proofs.YtohgmogbabkkeaaGreat
end

section
namespace Go.Proofs.YtohgmogbabkkeaaGreat
open Go.Am
abbrev ud:Nat:=3
abbrev rm:Nat:=4
abbrev sr:Nat:=5
abbrev cq:Nat:=9
abbrev sY:Nat:=20
abbrev gB:Nat:=22
abbrev zz:Nat:=28
abbrev aq:Nat:=30
abbrev jA:Nat:=33
abbrev bO:Nat:=37
abbrev iA:Nat:=40
abbrev zA:Nat:=41
abbrev oW:Nat:=45
abbrev iB:Nat:=47
abbrev c_:Nat:=48
abbrev bg:Nat:=49
abbrev bR:Nat:=50
abbrev g_:Nat:=52
abbrev oX:Nat:=69
abbrev xO:Nat:=71
abbrev Dc:Nat:=72
abbrev ue:Nat:=74
abbrev aH:Nat:=84
abbrev az:Nat:=85
abbrev lP:Nat:=87
abbrev sZ:Nat:=93
abbrev ru:Nat:=100
abbrev aF:Nat:=128
abbrev su:Nat:=130
abbrev bp:Nat:=138
abbrev ny:Nat:=140
abbrev ry:Nat:=144
abbrev fQ:Nat:=155
abbrev oH:Nat:=157
abbrev s_:Nat:=165
abbrev tg:Nat:=167
abbrev vY:Nat:=170
abbrev bY:Nat:=184
abbrev bL:Nat:=185
abbrev oY:Nat:=187
abbrev nZ:Nat:=189
abbrev Fa:Nat:=203
abbrev ee:Nat:=205
abbrev gl:Nat:=240
abbrev e_:Nat:=247
abbrev Bv:Nat:=270
abbrev cj:Nat:=271
abbrev eF:Nat:=285
abbrev dx:Nat:=286
abbrev fX:Nat:=290
abbrev fy:Nat:=341
theorem TO:T.cM ud=some (.int .i64):=by kernel_rfl
theorem K3:T.eN ud=some 1:=by kernel_rfl
theorem Mf:T.sL ud=some (.int .i64 0):=by kernel_rfl
theorem acY:T.agg ud=some false:=by kernel_rfl
theorem acZ:T.cM rm=some (.bool):=by kernel_rfl
theorem ac0:T.eN rm=some 1:=by kernel_rfl
theorem Bw:T.cM sr=some (.int .u8):=by kernel_rfl
theorem eu:T.eN sr=some 1:=by kernel_rfl
theorem Mg:T.Jo sr=some 1:=by kernel_rfl
theorem HR:T.sL sr=some (.int .u8 0):=by kernel_rfl
theorem oZ:T.cM cq=some (.string):=by kernel_rfl
theorem U2:T.agg cq=some false:=by kernel_rfl
theorem sx:T.cM gB=some (.slice ud):=by kernel_rfl
theorem Jv:T.cM zz=some (.pointer su):=by kernel_rfl
theorem aL:T.cM aq=some (.slice sr):=by kernel_rfl
theorem qP:T.eN aq=some 1:=by kernel_rfl
theorem U3:T.Jo aq=some 24:=by kernel_rfl
theorem HS:T.sL aq=some (.slc none 0 0 true):=by kernel_rfl
theorem Ys:T.cM jA=some (.int .u64):=by kernel_rfl
theorem jB:T.eN jA=some 1:=by kernel_rfl
theorem Yt:T.Jo jA=some 8:=by kernel_rfl
theorem U4:T.sL jA=some (.int .u64 0):=by kernel_rfl
theorem Dd:T.agg jA=some false:=by kernel_rfl
theorem ef:T.cM bO=some (.slice g_):=by kernel_rfl
theorem yK:T.eN bO=some 1:=by kernel_rfl
theorem vZ:T.cM iA=some (.pointer tg):=by kernel_rfl
theorem Jx:T.cM zA=some (.pointer oY):=by kernel_rfl
theorem jZ:T.eN iB=some 2:=by kernel_rfl
theorem ab4:T.Jo iB=some 16:=by kernel_rfl
theorem RK:T.sL iB=some (.agg [.int .i64 0,.int .u64 0]):=by kernel_rfl
theorem ac1:T.agg iB=some true:=by kernel_rfl
theorem Mh:T.cM c_=some (.array 16 jA):=by kernel_rfl
theorem xP:T.cM bg=some (.array 16 jA):=by kernel_rfl
theorem uf:T.eN bg=some 16:=by kernel_rfl
theorem Yu:T.Jo bg=some 128:=by kernel_rfl
theorem U5:T.sL bg=some (.agg [.int .u64 0,.int .u64 0,.int .u64 0,.int .u64 0,.int .u64 0,.int .u64 0,.int .u64 0,.int .u64 0,.int .u64 0,.int .u64 0,.int .u64 0,.int .u64 0,.int .u64 0,.int .u64 0,.int .u64 0,.int .u64 0]):=by kernel_rfl
theorem fH:T.cM bR=some (.slice xO):=by kernel_rfl
theorem Yv:T.eN bR=some 1:=by kernel_rfl
theorem Bx:T.eN g_=some 21:=by kernel_rfl
theorem aaO:T.Jo g_=some 208:=by kernel_rfl
theorem OR:T.sL g_=some (.agg [.int .i64 0,.int .u64 0,.str [],.slc none 0 0 true,.int .u64 0,.int .u64 0,.int .u64 0,.int .u64 0,.int .u64 0,.int .u64 0,.int .u64 0,.int .u64 0,.int .u64 0,.int .u64 0,.int .u64 0,.int .u64 0,.int .u64 0,.int .u64 0,.int .u64 0,.int .u64 0,.slc none 0 0 true]):=by kernel_rfl
theorem ac2:T.sL oX=some (.agg [.str [],.str []]):=by kernel_rfl
theorem De:T.eN xO=some 3:=by kernel_rfl
theorem ac3:T.Jo xO=some 32:=by kernel_rfl
theorem aaP:T.sL xO=some (.agg [.int .i64 0,.int .u64 0,.str []]):=by kernel_rfl
theorem By:T.cM ue=some (.slice rm):=by kernel_rfl
theorem cV:T.cM aH=some (.slice ru):=by kernel_rfl
theorem OS:T.eN aH=some 1:=by kernel_rfl
theorem bG:T.cM az=some (.slice iB):=by kernel_rfl
theorem Bz:T.eN az=some 1:=by kernel_rfl
theorem Yw:T.agg az=some false:=by kernel_rfl
theorem xQ:T.cM lP=some (.pointer nZ):=by kernel_rfl
theorem Mi:T.cM sZ=some (.array 32 sr):=by kernel_rfl
theorem pW:T.eN ru=some 5:=by kernel_rfl
theorem ac4:T.Jo ru=some 56:=by kernel_rfl
theorem aaQ:T.sL ru=some (.agg [.int .i64 0,.int .u64 0,.str [],.str [],.bool false]):=by kernel_rfl
theorem kK:T.cM aF=some (.map cq fQ):=by kernel_rfl
theorem Mj:T.sL su=some (.agg [.slc none 0 0 true,.map none]):=by kernel_rfl
theorem dB:T.cM bp=some (.slice bg):=by kernel_rfl
theorem rz:T.eN bp=some 1:=by kernel_rfl
theorem v_:T.cM fQ=some (.pointer oH):=by kernel_rfl
theorem Df:T.sL fQ=some (.ptr none):=by kernel_rfl
theorem HT:T.sL oH=some (.agg [.int .u64 0,.int .u64 0,.int .u64 0,.int .u64 0,.int .u64 0,.int .u64 0,.int .u64 0,.int .u64 0,.int .u64 0,.int .u64 0,.int .u64 0,.int .u64 0,.int .u64 0,.int .u64 0,.int .u64 0,.int .u64 0,.int .i64 0,.slc none 0 0 true]):=by kernel_rfl
theorem zB:T.cM s_=some (.map iB g_):=by kernel_rfl
theorem Fb:T.cM vY=some (.pointer gl):=by kernel_rfl
theorem xR:T.cM bY=some (.map iB oX):=by kernel_rfl
theorem Mk:T.agg bY=some false:=by kernel_rfl
theorem j8:T.cM bL=some (.map iB ee):=by kernel_rfl
theorem Ml:T.sL oY=some (.agg [.ptr none,.map none,.map none]):=by kernel_rfl
theorem RL:T.sL nZ=some (.agg [.int .u64 0,.int .u64 0,.int .u64 0,.int .u64 0,.int .u64 0,.int .u64 0,.int .u64 0,.int .u64 0,.int .u64 0,.int .u64 0,.int .u64 0,.int .u64 0,.int .u64 0,.int .u64 0,.int .u64 0,.int .u64 0,.slc none 0 0 true,.bool false]):=by kernel_rfl
theorem xS:T.sL ee=some (.agg [.bool false]):=by kernel_rfl
theorem HU:T.sL gl=some (.agg [.slc none 0 0 true,.bool false,.bool false]):=by kernel_rfl
theorem jC:T.cM e_=some (.slice jA):=by kernel_rfl
theorem HV:T.eN Bv=some 1:=by kernel_rfl
theorem U6:T.agg Bv=some false:=by kernel_rfl
theorem EF:T.cM cj=some (.array 8 Bv):=by kernel_rfl
theorem n_:T.cM eF=some (.slice aq):=by kernel_rfl
theorem Mm:T.cM dx=some (.array 64 Bv):=by kernel_rfl
theorem sy:T.cM fX=some (.array 64 sr):=by kernel_rfl
theorem OT:T.cM fy=some (.array 2 jA):=by kernel_rfl
end Go.Proofs.YtohgmogbabkkeaaGreat
end

section
set_option maxRecDepth 100000
set_option maxHeartbeats 4000000
namespace Go.Proofs.YtohgmogbabkkeaaGreat
open Go.Am
def Fe (a0:Int) (s:AS) (R:AV→AS→Prop):Prop :=
 aa Tryz.prog mK [(.int .u64 a0)] s fun v1 s2=>∃ n3:Int,v1=.int .i64 n3∧(R (.int .i64 n3) s2)
def Ff:QA:=(.seq .leaf (.seq (.cond (.seq .leaf .leaf) .leaf) (.seq .leaf .leaf)))
theorem Fg (a0:Int) (s:AS) (R:AV→AS→Prop) (h:Fe a0 s R):aa Tryz.prog kY [(.int .u64 a0)] s R :=
 aa.q (n:=8) (rs:=[.tmp 2]) (A:=Ff) hT bU Tryz.func177 (by kernel_rfl) rfl rfl rfl (by kernel_rfl) (by kernel_rfl) h
def BA (a0:Int) (s:AS) (R:AV→AS→Prop):Prop :=
 bw fun J1 =>
 (∀ n2:Int,∀ n3:Int,∀ s4:AS,J1 [(.int .u64 n2),(.int .i64 n3)] s4 →
 bw fun J5 =>
 (∀ n6:Int,∀ n7:Int,∀ s8:AS,J5 [(.int .u64 n6),(.int .i64 n7)] s8 →
 bw fun J9 =>
 (∀ j9:Int,∀ iN:Int,∀ dg:AS,J9 [(.int .u64 j9),(.int .i64 iN)] dg →
 aW .u8 (jd T cq (.str ([0,1,2,2,3,3,3,3,4,4,4,4,4,4,4,4,5,5,5,5,5,5,5,5,5,5,5,5,5,5,5,5,6,6,6,6,6,6,6,6,6,6,6,6,6,6,6,6,6,6,6,6,6,6,6,6,6,6,6,6,6,6,6,6,7,7,7,7,7,7,7,7,7,7,7,7,7,7,7,7,7,7,7,7,7,7,7,7,7,7,7,7,7,7,7,7,7,7,7,7,7,7,7,7,7,7,7,7,7,7,7,7,7,7,7,7,7,7,7,7,7,7,7,7,7,7,7,7,8,8,8,8,8,8,8,8,8,8,8,8,8,8,8,8,8,8,8,8,8,8,8,8,8,8,8,8,8,8,8,8,8,8,8,8,8,8,8,8,8,8,8,8,8,8,8,8,8,8,8,8,8,8,8,8,8,8,8,8,8,8,8,8,8,8,8,8,8,8,8,8,8,8,8,8,8,8,8,8,8,8,8,8,8,8,8,8,8,8,8,8,8,8,8,8,8,8,8,8,8,8,8,8,8,8,8,8,8,8,8,8,8,8,8,8,8,8,8,8,8,8,8,8,8,8,8,8])) (.int .u8 (IntKind.wrap .u8 j9))) fun wu=>R (.int .i64 (IntKind.wrap .i64 (iN+(IntKind.wrap .i64 wu)))) dg) ∧
 (af (decide ((n6:Int)≥256))
 (NN 8 (J9 [(.int .u64 (Int.fdiv n6 (2 ^ min (Int.toNat 8) (IntKind.bits .u64)))),(.int .i64 (IntKind.wrap .i64 (n7+8)))] s8))
 (J9 [(.int .u64 n6),(.int .i64 n7)] s8))) ∧
 (af (decide ((n2:Int)≥65536))
 (NN 16 (J5 [(.int .u64 (Int.fdiv n2 (2 ^ min (Int.toNat 16) (IntKind.bits .u64)))),(.int .i64 (IntKind.wrap .i64 (n3+16)))] s4))
 (J5 [(.int .u64 n2),(.int .i64 n3)] s4))) ∧
 (af (decide ((a0:Int)≥4294967296))
 (NN 32 (J1 [(.int .u64 (Int.fdiv a0 (2 ^ min (Int.toNat 32) (IntKind.bits .u64)))),(.int .i64 32)] s))
 (J1 [(.int .u64 a0),(.int .i64 0)] s))
def BB:QA:=(.seq .leaf (.join [(0,.int .u64),(2,.int .i64)] [(0,0),(2,6)] (.seq .leaf (.cond (.seq .leaf .leaf) .leaf)) (.join [(0,.int .u64),(2,.int .i64)] [(0,0),(2,2),(7,12)] (.seq .leaf (.cond (.seq .leaf .leaf) .leaf)) (.join [(0,.int .u64),(2,.int .i64)] [(0,0),(2,2),(13,18)] (.seq .leaf (.cond (.seq .leaf .leaf) .leaf)) (.seq .leaf .leaf)))))
theorem BC (a0:Int) (s:AS) (R:AV→AS→Prop) (h:BA a0 s R):aa Tryz.prog mK [(.int .u64 a0)] s R :=
 aa.q (n:=25) (rs:=[.tmp 2]) (A:=BB) hT bU Tryz.func237 (by kernel_rfl) rfl rfl rfl (by kernel_rfl) (by kernel_rfl) h
end Go.Proofs.YtohgmogbabkkeaaGreat
end

section
set_option maxRecDepth 100000
set_option maxHeartbeats 4000000
namespace Go.Proofs.YtohgmogbabkkeaaGreat
open Go.Am
def lQ (a0:Int) (s:AS) (R:AV→AS→Prop):Prop :=
 aa Tryz.prog kY [(.int .u64 (IntKind.wrap .u64 a0))] s fun v1 s2=>∃ n3:Int,v1=.int .i64 n3∧(NN n3 (R (.int .u64 (IntKind.wrap .u64 (1*2 ^ min (Int.toNat n3) (IntKind.bits .u64)))) s2))
def ug:QA:=(.seq .leaf (.seq .leaf .leaf))
theorem uh (a0:Int) (s:AS) (R:AV→AS→Prop) (h:lQ a0 s R):aa Tryz.prog gF [(.int .i64 a0)] s R :=
 aa.q (n:=7) (rs:=[.tmp 2]) (A:=ug) hT bU Tryz.func266 (by kernel_rfl) rfl rfl rfl (by kernel_rfl) (by kernel_rfl) h
def ve (a0:Option (Nat×Nat)) (s:AS) (R:AV→AS→Prop):Prop :=
 ai a0 fun l1 o2=>aW .u64 (av s l1 o2) fun n3=>ai a0 fun l4 o5=>aW .u64 (av s l4 o5) fun n6=>NN 13 (aW .u64 (bB .xor .u64 n3 (IntKind.wrap .u64 (n6*2 ^ min (Int.toNat 13) (IntKind.bits .u64)))) fun n7=>ai a0 fun l8 o9=>bu (cN s l8 o9 [(.int .u64 n7)]) fun jD=>ai a0 fun Dg yU=>aW .u64 (av jD Dg yU) fun wu=>ai a0 fun lR we=>aW .u64 (av jD lR we) fun vg=>NN 7 (aW .u64 (bB .xor .u64 wu (Int.fdiv vg (2 ^ min (Int.toNat 7) (IntKind.bits .u64)))) fun yL=>ai a0 fun GO o19=>bu (cN jD GO o19 [(.int .u64 yL)]) fun fN=>ai a0 fun OU o22=>aW .u64 (av fN OU o22) fun uj=>ai a0 fun RM Yx=>aW .u64 (av fN RM Yx) fun n26=>NN 17 (aW .u64 (bB .xor .u64 uj (IntKind.wrap .u64 (n26*2 ^ min (Int.toNat 17) (IntKind.bits .u64)))) fun EG=>ai a0 fun Dh Jy=>bu (cN fN Dh Jy [(.int .u64 EG)]) fun kL=>ai a0 fun Yy TP=>aW .u64 (av kL Yy TP) fun Mn=>R (.int .u64 Mn) kL)))
def vi:QA:=(.seq .leaf (.seq (.draw 7) (.seq (.draw 7) (.seq (.draw 7) (.seq .leaf .leaf)))))
theorem vj (a0:Option (Nat×Nat)) (s:AS) (R:AV→AS→Prop) (h:ve a0 s R):aa Tryz.prog gZ [(.ptr a0)] s R :=
 aa.q (n:=33) (rs:=[.tmp 2]) (A:=vi) hT bU Tryz.func267 (by kernel_rfl) rfl rfl rfl (by kernel_rfl) (by kernel_rfl) h
end Go.Proofs.YtohgmogbabkkeaaGreat
end

section
set_option maxRecDepth 100000
set_option maxHeartbeats 4000000
namespace Go.Proofs.YtohgmogbabkkeaaGreat.SG
open Go.Am Go.au.SG
structure SE where
 O:OE
 cC:El O→List AV
 w:Nat
 len:∀ x,(cC x).length=w
 one:∀ x,(cC x).all AV.one=true
 ys:TypeId
 ye:TypeId
 us:T.cM ys=some (.slice ye)
 zs:T.eN ye=some w
 vk:FuncId
 fB:FuncId
 fm:FuncId
 mP:FuncId
 jE:FuncId
 iO:FuncId
 eP:FuncId
 gG:FuncId
 lE:FuncId
 iY:FuncId
 dH:FuncId
 kZ:FuncId
 iC:FuncId
 h_:FuncId
variable (E:SE)
def RN (a0:AV) (a1:AV) (s:AS) (R:AV→AS→Prop):Prop :=
 aW .i64 (aP T E.ys a0 s) fun n1=>aa Tryz.prog kY [(.int .u64 (IntKind.wrap .u64 n1))] s fun v2 s3=>∃ n4:Int,v2=.int .i64 n4∧(aa Tryz.prog E.fB [a0,(.int .i64 0),(.int .i64 n1),(.int .i64 n4),a1] s3 fun v5 s6=>v5=.aQ []∧(R (.aQ []) s6))
def RP:QA:=(.seq .leaf .leaf)
def Di (a0:AV) (a1:Int) (a2:Int) (a3:Int) (a4:AV) (s:AS) (R:AV→AS→Prop):Prop :=
 bC fun I1 m2=>I1 m2 [(.int .i64 a1),(.int .i64 a2),(.int .i64 a3),(.bool true),(.bool true)] s ∧
 ∀ m3:Nat,∀ n4:Int,∀ n5:Int,∀ n6:Int,∀ b7:Bool,∀ b8:Bool,∀ s9:AS,I1 m3 [(.int .i64 n4),(.int .i64 n5),(.int .i64 n6),(.bool b7),(.bool b8)] s9 →
 af (decide ((IntKind.wrap .i64 (n5 - n4):Int)≤12))
 (aa Tryz.prog E.fm [a0,(.int .i64 n4),(.int .i64 n5),a4] s9 fun v10 fI=>v10=.aQ []∧(R (.aQ []) fI))
 (af ((n6:Int)==0)
 (aa Tryz.prog E.mP [a0,(.int .i64 n4),(.int .i64 n5),a4] s9 fun i_ bS=>i_=.aQ []∧(R (.aQ []) bS))
 (bw fun J14 =>
 (∀ wR:Int,∀ kr:AS,J14 [(.int .i64 wR)] kr →
 aa Tryz.prog E.jE [a0,(.int .i64 n4),(.int .i64 n5),a4] kr fun o_ eC=>∃ z3:Int,∃ Dk:Int,o_=.aQ [(.int .i64 z3),(.int .i64 Dk)]∧(bw fun J21 =>
 (∀ QK:Int,∀ uj:Int,∀ qx:AS,J21 [(.int .i64 QK),(.int .i64 uj)] qx →
 bw fun J25 =>
 (∀ pX:AS,J25 [] pX →
 bw fun J27 =>
 (∀ b28:Bool,∀ z4:AS,J27 [(.bool b28)] z4 →
 af b28
 (aa Tryz.prog E.gG [a0,(.int .i64 n4),(.int .i64 n5),(.int .i64 QK),a4] z4 fun v30 nA=>∃ n32:Int,v30=.int .i64 n32∧(∃ m',m'<m3∧I1 m' [(.int .i64 n32),(.int .i64 n5),(.int .i64 wR),(.bool b7),(.bool b8)] nA))
 (aa Tryz.prog E.lE [a0,(.int .i64 n4),(.int .i64 n5),(.int .i64 QK),a4] z4 fun qk ku=>∃ WJ:Int,∃ b36:Bool,qk=.aQ [(.int .i64 WJ),(.bool b36)]∧(NZ 8 (af (decide ((IntKind.wrap .i64 (WJ - n4):Int)<(IntKind.wrap .i64 (n5 - WJ))))
 (aa Tryz.prog E.fB [a0,(.int .i64 n4),(.int .i64 WJ),(.int .i64 wR),a4] ku fun v37 xT=>v37=.aQ []∧(∃ m',m'<m3∧I1 m' [(.int .i64 (IntKind.wrap .i64 (WJ+1))),(.int .i64 n5),(.int .i64 wR),(.bool (decide ((IntKind.wrap .i64 (WJ - n4):Int)≥(IntKind.wrap .i64 (Int.tdiv (IntKind.wrap .i64 (n5 - n4)) 8))))),(.bool b36)] xT))
 (aa Tryz.prog E.fB [a0,(.int .i64 (IntKind.wrap .i64 (WJ+1))),(.int .i64 n5),(.int .i64 wR),a4] ku fun v39 GP=>v39=.aQ []∧(∃ m',m'<m3∧I1 m' [(.int .i64 n4),(.int .i64 WJ),(.int .i64 wR),(.bool (decide ((IntKind.wrap .i64 (n5 - WJ):Int)≥(IntKind.wrap .i64 (Int.tdiv (IntKind.wrap .i64 (n5 - n4)) 8))))),(.bool b36)] GP)))))) ∧
 (af (decide ((n4:Int)>0)) (bH (ag T E.ys a0 (.int .i64 (IntKind.wrap .i64 (n4 - 1)))) fun AZ NO=>aR (aB pX AZ NO E.w) fun Dl=>bH (ag T E.ys a0 (.int .i64 QK)) fun NP U7=>aR (aB pX NP U7 E.w) fun g46=>en Tryz.prog a4 [(.agg Dl),(.agg g46)] pX fun Yz U8=>∃ U9:Int,Yz=.int .i64 U9∧(J27 [(.bool (!(decide ((U9:Int)<0))))] U8)) (J27 [(.bool false)] pX))) ∧
 (bw fun J50 =>
 (∀ b51:Bool,∀ wv:AS,J50 [(.bool b51)] wv →
 af b51
 (aa Tryz.prog E.eP [a0,(.int .i64 n4),(.int .i64 n5),a4] wv fun v53 tH=>∃ b55:Bool,v53=.bool b55∧(af b55
 (R (.aQ []) tH)
 (J25 [] tH)))
 (J25 [] wv)) ∧
 (af b7 (af b8 (J50 [(.bool ((uj:Int)==1))] qx) (J50 [(.bool false)] qx)) (J50 [(.bool false)] qx)))) ∧
 (af ((Dk:Int)==2)
 (aa Tryz.prog E.iO [a0,(.int .i64 n4),(.int .i64 n5),a4] eC fun v56 WK=>v56=.aQ []∧(J21 [(.int .i64 (IntKind.wrap .i64 ((IntKind.wrap .i64 (n5 - 1)) - (IntKind.wrap .i64 (z3 - n4))))),(.int .i64 1)] WK))
 (J21 [(.int .i64 z3),(.int .i64 Dk)] eC)))) ∧
 (af (!b7)
 (aa Tryz.prog E.h_ [a0,(.int .i64 n4),(.int .i64 n5),a4] s9 fun CO vl=>CO=.aQ []∧(J14 [(.int .i64 (IntKind.wrap .i64 (n6 - 1)))] vl))
 (J14 [(.int .i64 n6)] s9))))
def Dm:QA:=(.seq .leaf (.seq .leaf (.wrap (.loop [(1,.int .i64),(2,.int .i64),(3,.int .i64),(10,.bool),(11,.bool)] [(1,3),(10,147)] (.wrap (.seq .leaf (.seq (.seq .leaf (.cond (.seq .leaf .leaf) .leaf)) (.seq (.seq .leaf (.cond (.seq .leaf .leaf) .leaf)) (.join [(3,.int .i64)] [(3,3),(38,46)] (.seq .leaf (.cond (.seq .leaf .leaf) .leaf)) (.seq .leaf (.join [(13,.int .i64),(14,.int .i64)] [(13,14),(55,67)] (.seq .leaf (.cond (.seq .leaf (.seq .leaf .leaf)) .leaf)) (.join [] [(68,80)] (.join [(75,.bool)] [(68,75)] .leaf (.cond (.seq .leaf (.cond .leaf .leaf)) .leaf)) (.seq (.join [(97,.bool)] [(81,97)] (.draw 13) (.cond (.seq .leaf (.seq .leaf .leaf)) .leaf)) (.seq .leaf (.seq .leaf (.seq .leaf (.seq .leaf (.seq .leaf (.cond (.seq .leaf (.seq .leaf .leaf)) (.seq .leaf (.seq .leaf .leaf)))))))))))))))))))))
def vn (a0:AV) (a1:Int) (a2:Int) (a3:AV) (s:AS) (R:AV→AS→Prop):Prop :=
 bC fun I1 m2=>I1 m2 [(.int .i64 (IntKind.wrap .i64 (a1+1)))] s ∧
 ∀ m3:Nat,∀ n4:Int,∀ s5:AS,I1 m3 [(.int .i64 n4)] s5 →
 af (decide ((n4:Int)<a2))
 (bC fun I6 m7=>I6 m7 [(.int .i64 n4)] s5 ∧
 ∀ m8:Nat,∀ n9:Int,∀ jD:AS,I6 m8 [(.int .i64 n9)] jD →
 af (decide ((n9:Int)>a1)) (bH (ag T E.ys a0 (.int .i64 n9)) fun Dg yU=>aR (aB jD Dg yU E.w) fun wg=>bH (ag T E.ys a0 (.int .i64 (IntKind.wrap .i64 (n9 - 1)))) fun lR we=>aR (aB jD lR we E.w) fun EH=>en Tryz.prog a3 [(.agg wg),(.agg EH)] jD fun o_ eC=>∃ z3:Int,o_=.int .i64 z3∧(af (decide ((z3:Int)<0))
 (bH (ag T E.ys a0 (.int .i64 (IntKind.wrap .i64 (n9 - 1)))) fun CP Mo=>aR (aB eC CP Mo E.w) fun CQ=>bH (ag T E.ys a0 (.int .i64 n9)) fun QL o24=>aR (aB eC QL o24 E.w) fun Jz=>bH (ag T E.ys a0 (.int .i64 n9)) fun Dn Fh=>fj (some E.w) CQ (bu (cN eC Dn Fh CQ) fun rA=>bH (ag T E.ys a0 (.int .i64 (IntKind.wrap .i64 (n9 - 1)))) fun U_ NQ=>fj (some E.w) Jz (bu (cN rA U_ NQ Jz) fun nA=>∃ m',m'<m8∧I6 m' [(.int .i64 (IntKind.wrap .i64 (n9 - 1)))] nA)))
 (∃ m',m'<m3∧I1 m' [(.int .i64 (IntKind.wrap .i64 (n4+1)))] eC))) (∃ m',m'<m3∧I1 m' [(.int .i64 (IntKind.wrap .i64 (n4+1)))] jD))
 (R (.aQ []) s5)
def vo:QA:=(.seq .leaf (.wrap (.loop [(8,.int .i64)] [(8,9),(12,52)] (.seq (.seq .leaf (.cond .leaf .leaf)) (.seq (.wrap (.seq .leaf (.wrap (.loop [(9,.int .i64)] [(9,9),(18,52)] (.seq (.seq (.draw 14) (.cond .leaf .leaf)) (.seq (.wrap .calm) .leaf)))))) .leaf)))))
def BD (a0:AV) (a1:Int) (a2:Int) (a3:AV) (s:AS) (R:AV→AS→Prop):Prop :=
 bw fun J1 =>
 (∀ s2:AS,J1 [] s2 →
 bC fun I3 m4=>I3 m4 [(.int .i64 (IntKind.wrap .i64 ((IntKind.wrap .i64 (a2 - a1)) - 1)))] s2 ∧
 ∀ m5:Nat,∀ n6:Int,∀ s7:AS,I3 m5 [(.int .i64 n6)] s7 →
 af (decide ((n6:Int)≥0))
 (bH (ag T E.ys a0 (.int .i64 (IntKind.wrap .i64 (a1+n6)))) fun l8 o9=>aR (aB s7 l8 o9 E.w) fun Dp=>bH (ag T E.ys a0 (.int .i64 a1)) fun Dg yU=>aR (aB s7 Dg yU E.w) fun wg=>bH (ag T E.ys a0 (.int .i64 a1)) fun lR we=>fj (some E.w) Dp (bu (cN s7 lR we Dp) fun kr=>bH (ag T E.ys a0 (.int .i64 (IntKind.wrap .i64 (a1+n6)))) fun j_ wz=>fj (some E.w) wg (bu (cN kr j_ wz wg) fun iD=>aa Tryz.prog E.iY [a0,(.int .i64 0),(.int .i64 n6),(.int .i64 a1),a3] iD fun v20 gn=>v20=.aQ []∧(∃ m',m'<m5∧I3 m' [(.int .i64 (IntKind.wrap .i64 (n6 - 1)))] gn))))
 (R (.aQ []) s7)) ∧
 (NZ 2 (bC fun YA Mp=>YA Mp [(.int .i64 (IntKind.wrap .i64 (Int.tdiv (IntKind.wrap .i64 ((IntKind.wrap .i64 (a2 - a1)) - 1)) 2)))] s ∧
 ∀ m24:Nat,∀ ql:Int,∀ pX:AS,YA m24 [(.int .i64 ql)] pX →
 af (decide ((ql:Int)≥0))
 (aa Tryz.prog E.iY [a0,(.int .i64 ql),(.int .i64 (IntKind.wrap .i64 (a2 - a1))),(.int .i64 a1),a3] pX fun K4 rA=>K4=.aQ []∧(∃ m',m'<m24∧YA m' [(.int .i64 (IntKind.wrap .i64 (ql - 1)))] rA))
 (J1 [] pX)))
def BE:QA:=(.seq .leaf (.seq .leaf (.seq .leaf (.join [] [(11,11),(17,29)] (.seq .leaf (.wrap (.loop [(11,.int .i64)] [(11,11),(20,29)] (.seq (.seq .leaf (.cond .leaf .leaf)) (.seq (.wrap .leaf) .leaf))))) (.seq .leaf (.wrap (.loop [(12,.int .i64)] [(12,12),(32,59)] (.seq (.seq .leaf (.cond .leaf .leaf)) (.seq (.wrap (.seq .calm .leaf)) .leaf)))))))))
def xU (a0:AV) (a1:Int) (a2:Int) (a3:AV) (s:AS) (R:AV→AS→Prop):Prop :=
 aj (.cells [(.int .i64 0)] 0 false) s fun l1 s2=>NZ 4 (NZ 4 (NZ 4 (bw fun J3 =>
 (∀ n4:Int,∀ s5:AS,J3 [(.int .i64 n4)] s5 →
 aW .i64 (av s5 l1 0) fun n6=>af ((n6:Int)==0)
 (R (.aQ [(.int .i64 n4),(.int .i64 1)]) s5)
 (af ((n6:Int)==12)
 (R (.aQ [(.int .i64 n4),(.int .i64 2)]) s5)
 (R (.aQ [(.int .i64 n4),(.int .i64 0)]) s5))) ∧
 (af (decide ((IntKind.wrap .i64 (a2 - a1):Int)≥8))
 (bw fun J7 =>
 (∀ n8:Int,∀ n9:Int,∀ j9:Int,∀ fI:AS,J7 [(.int .i64 n8),(.int .i64 n9),(.int .i64 j9)] fI →
 aa Tryz.prog E.kZ [a0,(.int .i64 n8),(.int .i64 n9),(.int .i64 j9),(.ptr (some (l1,0))),a3] fI fun i_ bS=>∃ vp:Int,i_=.int .i64 vp∧(J3 [(.int .i64 vp)] bS)) ∧
 (af (decide ((IntKind.wrap .i64 (a2 - a1):Int)≥50))
 (aa Tryz.prog E.dH [a0,(.int .i64 (IntKind.wrap .i64 (a1+(IntKind.wrap .i64 ((IntKind.wrap .i64 (Int.tdiv (IntKind.wrap .i64 (a2 - a1)) 4))*1))))),(.ptr (some (l1,0))),a3] s2 fun yV kr=>∃ yL:Int,yV=.int .i64 yL∧(aa Tryz.prog E.dH [a0,(.int .i64 (IntKind.wrap .i64 (a1+(IntKind.wrap .i64 ((IntKind.wrap .i64 (Int.tdiv (IntKind.wrap .i64 (a2 - a1)) 4))*2))))),(.ptr (some (l1,0))),a3] kr fun tI iD=>∃ Dk:Int,tI=.int .i64 Dk∧(aa Tryz.prog E.dH [a0,(.int .i64 (IntKind.wrap .i64 (a1+(IntKind.wrap .i64 ((IntKind.wrap .i64 (Int.tdiv (IntKind.wrap .i64 (a2 - a1)) 4))*3))))),(.ptr (some (l1,0))),a3] iD fun Mq fO=>∃ uj:Int,Mq=.int .i64 uj∧(J7 [(.int .i64 yL),(.int .i64 Dk),(.int .i64 uj)] fO))))
 (J7 [(.int .i64 (IntKind.wrap .i64 (a1+(IntKind.wrap .i64 ((IntKind.wrap .i64 (Int.tdiv (IntKind.wrap .i64 (a2 - a1)) 4))*1))))),(.int .i64 (IntKind.wrap .i64 (a1+(IntKind.wrap .i64 ((IntKind.wrap .i64 (Int.tdiv (IntKind.wrap .i64 (a2 - a1)) 4))*2))))),(.int .i64 (IntKind.wrap .i64 (a1+(IntKind.wrap .i64 ((IntKind.wrap .i64 (Int.tdiv (IntKind.wrap .i64 (a2 - a1)) 4))*3)))))] s2)))
 (J3 [(.int .i64 (IntKind.wrap .i64 (a1+(IntKind.wrap .i64 ((IntKind.wrap .i64 (Int.tdiv (IntKind.wrap .i64 (a2 - a1)) 4))*2)))))] s2)))))
def xV:QA:=(.seq .leaf (.seq .leaf (.seq .leaf (.seq .leaf (.seq .leaf (.seq .leaf (.join [(13,.int .i64)] [(12,14),(33,54)] (.seq .leaf (.cond (.join [(12,.int .i64),(13,.int .i64),(14,.int .i64)] [(12,14),(35,48)] (.seq .leaf (.cond (.seq .leaf (.seq .leaf .leaf)) .leaf)) .leaf) .leaf)) (.seq .leaf (.wrap (.seq .leaf (.cond (.seq .leaf .leaf) (.seq .leaf (.cond (.seq .leaf .leaf) (.seq .leaf .leaf))))))))))))))
def wA (a0:AV) (a1:Int) (a2:Int) (a3:AV) (s:AS) (R:AV→AS→Prop):Prop :=
 bC fun I1 m2=>I1 m2 [(.int .i64 a1),(.int .i64 (IntKind.wrap .i64 (a2 - 1)))] s ∧
 ∀ m3:Nat,∀ n4:Int,∀ n5:Int,∀ s6:AS,I1 m3 [(.int .i64 n4),(.int .i64 n5)] s6 →
 af (decide ((n4:Int)<n5))
 (bH (ag T E.ys a0 (.int .i64 n5)) fun l7 o8=>aR (aB s6 l7 o8 E.w) fun g9=>bH (ag T E.ys a0 (.int .i64 n4)) fun nB A0=>aR (aB s6 nB A0 E.w) fun K5=>bH (ag T E.ys a0 (.int .i64 n4)) fun tJ JA=>fj (some E.w) g9 (bu (cN s6 tJ JA g9) fun f_=>bH (ag T E.ys a0 (.int .i64 n5)) fun rU EI=>fj (some E.w) K5 (bu (cN f_ rU EI K5) fun eC=>∃ m',m'<m3∧I1 m' [(.int .i64 (IntKind.wrap .i64 (n4+1))),(.int .i64 (IntKind.wrap .i64 (n5 - 1)))] eC)))
 (R (.aQ []) s6)
def wB:QA:=(.seq .leaf (.seq .leaf (.wrap (.loop [(8,.int .i64),(9,.int .i64)] [(8,9),(13,33)] (.seq (.seq .leaf (.cond .leaf .leaf)) (.wrap (.seq .calm (.seq .leaf .leaf))))))))
def gM (a0:AV) (a1:Int) (a2:Int) (a3:AV) (s:AS) (R:AV→AS→Prop):Prop :=
 bC fun I1 m2=>I1 m2 [(.int .i64 (IntKind.wrap .i64 (a1+1))),(.int .i64 0)] s ∧
 ∀ m3:Nat,∀ n4:Int,∀ n5:Int,∀ s6:AS,I1 m3 [(.int .i64 n4),(.int .i64 n5)] s6 →
 af (decide ((n5:Int)<5))
 (bw fun J7 =>
 (∀ n8:Int,∀ s9:AS,J7 [(.int .i64 n8)] s9 →
 af ((n8:Int)==a2)
 (R (.bool true) s9)
 (af (decide ((IntKind.wrap .i64 (a2 - a1):Int)<50))
 (R (.bool false) s9)
 (bH (ag T E.ys a0 (.int .i64 (IntKind.wrap .i64 (n8 - 1)))) fun nB A0=>aR (aB s9 nB A0 E.w) fun K5=>bH (ag T E.ys a0 (.int .i64 n8)) fun tJ JA=>aR (aB s9 tJ JA E.w) fun z5=>bH (ag T E.ys a0 (.int .i64 n8)) fun rU EI=>fj (some E.w) K5 (bu (cN s9 rU EI K5) fun eC=>bH (ag T E.ys a0 (.int .i64 (IntKind.wrap .i64 (n8 - 1)))) fun A1 Fi=>fj (some E.w) z5 (bu (cN eC A1 Fi z5) fun gn=>bw fun WL =>
 (∀ rO:AS,WL [] rO →
 af (decide ((IntKind.wrap .i64 (a2 - n8):Int)≥2))
 (bC fun I24 m25=>I24 m25 [(.int .i64 (IntKind.wrap .i64 (n8+1)))] rO ∧
 ∀ YB:Nat,∀ EG:Int,∀ rA:AS,I24 YB [(.int .i64 EG)] rA →
 af (decide ((EG:Int)<a2))
 (bH (ag T E.ys a0 (.int .i64 EG)) fun U_ NQ=>aR (aB rA U_ NQ E.w) fun Mr=>bH (ag T E.ys a0 (.int .i64 (IntKind.wrap .i64 (EG - 1)))) fun Ms YC=>aR (aB rA Ms YC E.w) fun NR=>en Tryz.prog a3 [(.agg Mr),(.agg NR)] rA fun v35 oI=>∃ n37:Int,v35=.int .i64 n37∧(af (!(decide ((n37:Int)<0)))
 (∃ m',m'<m3∧I1 m' [(.int .i64 n8),(.int .i64 (IntKind.wrap .i64 (n5+1)))] oI)
 (bH (ag T E.ys a0 (.int .i64 (IntKind.wrap .i64 (EG - 1)))) fun l38 o39=>aR (aB oI l38 o39 E.w) fun g40=>bH (ag T E.ys a0 (.int .i64 EG)) fun AZ NO=>aR (aB oI AZ NO E.w) fun Dl=>bH (ag T E.ys a0 (.int .i64 EG)) fun NP U7=>fj (some E.w) g40 (bu (cN oI NP U7 g40) fun qQ=>bH (ag T E.ys a0 (.int .i64 (IntKind.wrap .i64 (EG - 1)))) fun Va Vb=>fj (some E.w) Dl (bu (cN qQ Va Vb Dl) fun z6=>∃ m',m'<YB∧I24 m' [(.int .i64 (IntKind.wrap .i64 (EG+1)))] z6)))))
 (∃ m',m'<m3∧I1 m' [(.int .i64 n8),(.int .i64 (IntKind.wrap .i64 (n5+1)))] rA))
 (∃ m',m'<m3∧I1 m' [(.int .i64 n8),(.int .i64 (IntKind.wrap .i64 (n5+1)))] rO)) ∧
 (af (decide ((IntKind.wrap .i64 (n8 - a1):Int)≥2))
 (bC fun I50 m51=>I50 m51 [(.int .i64 (IntKind.wrap .i64 (n8 - 1)))] gn ∧
 ∀ m52:Nat,∀ QM:Int,∀ tH:AS,I50 m52 [(.int .i64 QM)] tH →
 af (decide ((QM:Int)≥1))
 (bH (ag T E.ys a0 (.int .i64 QM)) fun l55 o56=>aR (aB tH l55 o56 E.w) fun g57=>bH (ag T E.ys a0 (.int .i64 (IntKind.wrap .i64 (QM - 1)))) fun l58 o59=>aR (aB tH l58 o59 E.w) fun g60=>en Tryz.prog a3 [(.agg g57),(.agg g60)] tH fun v61 BF=>∃ n63:Int,v61=.int .i64 n63∧(af (!(decide ((n63:Int)<0)))
 (WL [] BF)
 (bH (ag T E.ys a0 (.int .i64 (IntKind.wrap .i64 (QM - 1)))) fun l64 o65=>aR (aB BF l64 o65 E.w) fun g66=>bH (ag T E.ys a0 (.int .i64 QM)) fun l67 o68=>aR (aB BF l67 o68 E.w) fun g69=>bH (ag T E.ys a0 (.int .i64 QM)) fun l70 o71=>fj (some E.w) g66 (bu (cN BF l70 o71 g66) fun s72=>bH (ag T E.ys a0 (.int .i64 (IntKind.wrap .i64 (QM - 1)))) fun l73 o74=>fj (some E.w) g69 (bu (cN s72 l73 o74 g69) fun s75=>∃ m',m'<m52∧I50 m' [(.int .i64 (IntKind.wrap .i64 (QM - 1)))] s75)))))
 (WL [] tH))
 (WL [] gn))))))) ∧
 (bC fun I76 m77=>I76 m77 [(.int .i64 n4)] s6 ∧
 ∀ m78:Nat,∀ QN:Int,∀ s80:AS,I76 m78 [(.int .i64 QN)] s80 →
 af (decide ((QN:Int)<a2)) (bH (ag T E.ys a0 (.int .i64 QN)) fun l81 o82=>aR (aB s80 l81 o82 E.w) fun g83=>bH (ag T E.ys a0 (.int .i64 (IntKind.wrap .i64 (QN - 1)))) fun l84 o85=>aR (aB s80 l84 o85 E.w) fun g86=>en Tryz.prog a3 [(.agg g83),(.agg g86)] s80 fun v87 s88=>∃ n89:Int,v87=.int .i64 n89∧(af (!(decide ((n89:Int)<0)))
 (∃ m',m'<m78∧I76 m' [(.int .i64 (IntKind.wrap .i64 (QN+1)))] s88)
 (J7 [(.int .i64 QN)] s88))) (J7 [(.int .i64 QN)] s80)))
 (R (.bool false) s6)
def pe:QA:=(.seq .leaf (.seq .leaf (.seq (.seq .leaf (.wrap (.loop [(9,.int .i64),(10,.int .i64)] [(8,12),(15,140)] (.seq (.seq .leaf (.cond .leaf .leaf)) (.seq (.wrap (.join [(9,.int .i64)] [(9,9),(19,38)] (.wrap (.loop [(9,.int .i64)] [(9,9),(19,38)] (.seq (.seq (.draw 14) (.cond .leaf .leaf)) (.wrap .leaf)))) (.seq (.seq .leaf (.cond (.seq .leaf .leaf) .leaf)) (.seq (.seq .leaf (.cond (.seq .leaf .leaf) .leaf)) (.seq .calm (.join [] [(11,11),(62,100)] (.seq .leaf (.cond (.seq .leaf (.wrap (.loop [(11,.int .i64)] [(11,11),(68,100)] (.seq (.seq .leaf (.cond .leaf .leaf)) (.seq (.wrap (.seq (.seq (.draw 10) (.cond .leaf .leaf)) .calm)) .leaf))))) .leaf)) (.seq .leaf (.cond (.seq .leaf (.wrap (.loop [(12,.int .i64)] [(12,12),(107,140)] (.seq (.seq .leaf (.cond .leaf .leaf)) (.seq (.wrap (.seq (.seq (.draw 10) (.cond .leaf .leaf)) .calm)) .leaf))))) .leaf)))))))) .leaf))))) (.seq .leaf .leaf))))
def uk (a0:AV) (a1:Int) (a2:Int) (a3:Int) (a4:AV) (s:AS) (R:AV→AS→Prop):Prop :=
 bH (ag T E.ys a0 (.int .i64 a3)) fun l1 o2=>aR (aB s l1 o2 E.w) fun g3=>bH (ag T E.ys a0 (.int .i64 a1)) fun l4 o5=>aR (aB s l4 o5 E.w) fun g6=>bH (ag T E.ys a0 (.int .i64 a1)) fun l7 o8=>fj (some E.w) g3 (bu (cN s l7 o8 g3) fun s9=>bH (ag T E.ys a0 (.int .i64 a3)) fun nB A0=>fj (some E.w) g6 (bu (cN s9 nB A0 g6) fun dg=>bC fun I13 m14=>I13 m14 [(.int .i64 (IntKind.wrap .i64 (a1+1))),(.int .i64 (IntKind.wrap .i64 (a2 - 1)))] dg ∧
 ∀ m15:Nat,∀ vg:Int,∀ yL:Int,∀ eC:AS,I13 m15 [(.int .i64 vg),(.int .i64 yL)] eC →
 bw fun J19 =>
 (∀ Dk:Int,∀ gn:AS,J19 [(.int .i64 Dk)] gn →
 bw fun WL =>
 (∀ uj:Int,∀ qx:AS,WL [(.int .i64 uj)] qx →
 af (decide ((Dk:Int)>uj))
 (R (.int .i64 Dk) qx)
 (bH (ag T E.ys a0 (.int .i64 uj)) fun Ji K6=>aR (aB qx Ji K6 E.w) fun g27=>bH (ag T E.ys a0 (.int .i64 Dk)) fun Dh Jy=>aR (aB qx Dh Jy E.w) fun z7=>bH (ag T E.ys a0 (.int .i64 Dk)) fun Yy TP=>fj (some E.w) g27 (bu (cN qx Yy TP g27) fun qR=>bH (ag T E.ys a0 (.int .i64 uj)) fun HW JB=>fj (some E.w) z7 (bu (cN qR HW JB z7) fun oI=>∃ m',m'<m15∧I13 m' [(.int .i64 (IntKind.wrap .i64 (Dk+1))),(.int .i64 (IntKind.wrap .i64 (uj - 1)))] oI)))) ∧
 (bC fun I37 m38=>I37 m38 [(.int .i64 yL)] gn ∧
 ∀ m39:Nat,∀ TQ:Int,∀ Fj:AS,I37 m39 [(.int .i64 TQ)] Fj →
 af (decide ((Dk:Int)≤TQ)) (bH (ag T E.ys a0 (.int .i64 a1)) fun l42 o43=>aR (aB Fj l42 o43 E.w) fun RQ=>bH (ag T E.ys a0 (.int .i64 TQ)) fun l45 o46=>aR (aB Fj l45 o46 E.w) fun g47=>en Tryz.prog a4 [(.agg RQ),(.agg g47)] Fj fun Vc z6=>∃ n50:Int,Vc=.int .i64 n50∧(af (decide ((n50:Int)<0))
 (∃ m',m'<m39∧I37 m' [(.int .i64 (IntKind.wrap .i64 (TQ - 1)))] z6)
 (WL [(.int .i64 TQ)] z6))) (WL [(.int .i64 TQ)] Fj))) ∧
 (bC fun I51 m52=>I51 m52 [(.int .i64 vg)] eC ∧
 ∀ m53:Nat,∀ YD:Int,∀ JC:AS,I51 m53 [(.int .i64 YD)] JC →
 af (decide ((YD:Int)≤yL)) (bH (ag T E.ys a0 (.int .i64 a1)) fun l56 o57=>aR (aB JC l56 o57 E.w) fun g58=>bH (ag T E.ys a0 (.int .i64 YD)) fun l59 o60=>aR (aB JC l59 o60 E.w) fun g61=>en Tryz.prog a4 [(.agg g58),(.agg g61)] JC fun WM A3=>∃ n64:Int,WM=.int .i64 n64∧(af (!(decide ((n64:Int)<0)))
 (∃ m',m'<m53∧I51 m' [(.int .i64 (IntKind.wrap .i64 (YD+1)))] A3)
 (J19 [(.int .i64 YD)] A3))) (J19 [(.int .i64 YD)] JC))))
def um:QA:=(.seq .leaf (.seq .calm (.seq .leaf (.seq (.wrap (.loop [(11,.int .i64),(12,.int .i64)] [(11,12),(31,88)] (.wrap (.join [(11,.int .i64)] [(11,11),(31,49)] (.wrap (.loop [(11,.int .i64)] [(11,11),(31,49)] (.seq (.seq (.draw 13) (.cond .leaf .leaf)) (.wrap .leaf)))) (.join [(12,.int .i64)] [(12,12),(50,67)] (.wrap (.loop [(12,.int .i64)] [(12,12),(50,67)] (.seq (.seq (.draw 13) (.cond .leaf .leaf)) (.wrap .leaf)))) (.seq (.seq .leaf (.cond .leaf .leaf)) (.seq .calm (.seq .leaf .leaf)))))))) (.seq .leaf .leaf)))))
def z8 (a0:AV) (a1:Int) (a2:Int) (a3:Int) (a4:AV) (s:AS) (R:AV→AS→Prop):Prop :=
 bH (ag T E.ys a0 (.int .i64 a3)) fun l1 o2=>aR (aB s l1 o2 E.w) fun g3=>bH (ag T E.ys a0 (.int .i64 a1)) fun l4 o5=>aR (aB s l4 o5 E.w) fun g6=>bH (ag T E.ys a0 (.int .i64 a1)) fun l7 o8=>fj (some E.w) g3 (bu (cN s l7 o8 g3) fun s9=>bH (ag T E.ys a0 (.int .i64 a3)) fun nB A0=>fj (some E.w) g6 (bu (cN s9 nB A0 g6) fun dg=>bw fun YE =>
 (∀ vp:Int,∀ f_:AS,YE [(.int .i64 vp)] f_ →
 bw fun J16 =>
 (∀ yL:Int,∀ eC:AS,J16 [(.int .i64 yL)] eC →
 af (decide ((vp:Int)>yL))
 (bH (ag T E.ys a0 (.int .i64 a1)) fun A1 Fi=>aR (aB eC A1 Fi E.w) fun wC=>bH (ag T E.ys a0 (.int .i64 yL)) fun BG GQ=>aR (aB eC BG GQ E.w) fun wh=>bH (ag T E.ys a0 (.int .i64 yL)) fun Ji K6=>fj (some E.w) wC (bu (cN eC Ji K6 wC) fun mQ=>bH (ag T E.ys a0 (.int .i64 a1)) fun Dh Jy=>fj (some E.w) wh (bu (cN mQ Dh Jy wh) fun kL=>R (.aQ [(.int .i64 yL),(.bool true)]) kL)))
 (bH (ag T E.ys a0 (.int .i64 yL)) fun Yy TP=>aR (aB eC Yy TP E.w) fun WN=>bH (ag T E.ys a0 (.int .i64 vp)) fun HW JB=>aR (aB eC HW JB E.w) fun g36=>bH (ag T E.ys a0 (.int .i64 vp)) fun OV JD=>fj (some E.w) WN (bu (cN eC OV JD WN) fun yM=>bH (ag T E.ys a0 (.int .i64 yL)) fun l40 o41=>fj (some E.w) g36 (bu (cN yM l40 o41 g36) fun K7=>bw fun J43 =>
 (∀ n44:Int,∀ xW:AS,J43 [(.int .i64 n44)] xW →
 bH (ag T E.ys a0 (.int .i64 a1)) fun l46 o47=>aR (aB xW l46 o47 E.w) fun JE=>bH (ag T E.ys a0 (.int .i64 n44)) fun WO o50=>aR (aB xW WO o50 E.w) fun TR=>bH (ag T E.ys a0 (.int .i64 n44)) fun WQ o53=>fj (some E.w) JE (bu (cN xW WQ o53 JE) fun tH=>bH (ag T E.ys a0 (.int .i64 a1)) fun l55 o56=>fj (some E.w) TR (bu (cN tH l55 o56 TR) fun WK=>R (.aQ [(.int .i64 n44),(.bool false)]) WK))) ∧
 (bC fun QO m59=>QO m59 [(.int .i64 (IntKind.wrap .i64 (vp+1))),(.int .i64 (IntKind.wrap .i64 (yL - 1)))] K7 ∧
 ∀ WR:Nat,∀ EJ:Int,∀ WS:Int,∀ A3:AS,QO WR [(.int .i64 EJ),(.int .i64 WS)] A3 →
 bw fun J64 =>
 (∀ n65:Int,∀ Mt:AS,J64 [(.int .i64 n65)] Mt →
 bw fun J67 =>
 (∀ Jj:Int,∀ Vd:AS,J67 [(.int .i64 Jj)] Vd →
 af (decide ((n65:Int)>Jj))
 (J43 [(.int .i64 Jj)] Vd)
 (bH (ag T E.ys a0 (.int .i64 Jj)) fun l70 o71=>aR (aB Vd l70 o71 E.w) fun g72=>bH (ag T E.ys a0 (.int .i64 n65)) fun l73 o74=>aR (aB Vd l73 o74 E.w) fun g75=>bH (ag T E.ys a0 (.int .i64 n65)) fun l76 o77=>fj (some E.w) g72 (bu (cN Vd l76 o77 g72) fun s78=>bH (ag T E.ys a0 (.int .i64 Jj)) fun l79 o80=>fj (some E.w) g75 (bu (cN s78 l79 o80 g75) fun s81=>∃ m',m'<WR∧QO m' [(.int .i64 (IntKind.wrap .i64 (n65+1))),(.int .i64 (IntKind.wrap .i64 (Jj - 1)))] s81)))) ∧
 (bC fun I82 m83=>I82 m83 [(.int .i64 WS)] Mt ∧
 ∀ m84:Nat,∀ RR:Int,∀ OX:AS,I82 m84 [(.int .i64 RR)] OX →
 af (decide ((n65:Int)≤RR)) (bH (ag T E.ys a0 (.int .i64 RR)) fun l87 o88=>aR (aB OX l87 o88 E.w) fun g89=>bH (ag T E.ys a0 (.int .i64 a1)) fun l90 o91=>aR (aB OX l90 o91 E.w) fun g92=>en Tryz.prog a4 [(.agg g89),(.agg g92)] OX fun v93 s94=>∃ n95:Int,v93=.int .i64 n95∧(af (!(decide ((n95:Int)<0)))
 (∃ m',m'<m84∧I82 m' [(.int .i64 (IntKind.wrap .i64 (RR - 1)))] s94)
 (J67 [(.int .i64 RR)] s94))) (J67 [(.int .i64 RR)] OX))) ∧
 (bC fun I96 m97=>I96 m97 [(.int .i64 EJ)] A3 ∧
 ∀ m98:Nat,∀ n99:Int,∀ Ve:AS,I96 m98 [(.int .i64 n99)] Ve →
 af (decide ((n99:Int)≤WS)) (bH (ag T E.ys a0 (.int .i64 n99)) fun ag7 ag8=>aR (aB Ve ag7 ag8 E.w) fun ag9=>bH (ag T E.ys a0 (.int .i64 a1)) fun ac5 ac6=>aR (aB Ve ac5 ac6 E.w) fun ag_=>en Tryz.prog a4 [(.agg ag9),(.agg ag_)] Ve fun aha ac7=>∃ YF:Int,aha=.int .i64 YF∧(af (decide ((YF:Int)<0))
 (∃ m',m'<m98∧I96 m' [(.int .i64 (IntKind.wrap .i64 (n99+1)))] ac7)
 (J64 [(.int .i64 n99)] ac7))) (J64 [(.int .i64 n99)] Ve))))))) ∧
 (bC fun ac8 ahb=>ac8 ahb [(.int .i64 (IntKind.wrap .i64 (a2 - 1)))] f_ ∧
 ∀ aeY:Nat,∀ RS:Int,∀ Mu:AS,ac8 aeY [(.int .i64 RS)] Mu →
 af (decide ((vp:Int)≤RS)) (bH (ag T E.ys a0 (.int .i64 RS)) fun ahc ahd=>aR (aB Mu ahc ahd E.w) fun ahe=>bH (ag T E.ys a0 (.int .i64 a1)) fun ahf ahg=>aR (aB Mu ahf ahg E.w) fun ahh=>en Tryz.prog a4 [(.agg ahe),(.agg ahh)] Mu fun ahi ac9=>∃ aeZ:Int,ahi=.int .i64 aeZ∧(af (!(decide ((aeZ:Int)<0)))
 (∃ m',m'<aeY∧ac8 m' [(.int .i64 (IntKind.wrap .i64 (RS - 1)))] ac9)
 (J16 [(.int .i64 RS)] ac9))) (J16 [(.int .i64 RS)] Mu))) ∧
 (bC fun ac_ aaR=>ac_ aaR [(.int .i64 (IntKind.wrap .i64 (a1+1)))] dg ∧
 ∀ ae0:Nat,∀ RT:Int,∀ Vf:AS,ac_ ae0 [(.int .i64 RT)] Vf →
 af (decide ((RT:Int)≤(IntKind.wrap .i64 (a2 - 1)))) (bH (ag T E.ys a0 (.int .i64 RT)) fun ahj ahk=>aR (aB Vf ahj ahk E.w) fun ahl=>bH (ag T E.ys a0 (.int .i64 a1)) fun ahm ahn=>aR (aB Vf ahm ahn E.w) fun aho=>en Tryz.prog a4 [(.agg ahl),(.agg aho)] Vf fun ahp ada=>∃ ae1:Int,ahp=.int .i64 ae1∧(af (decide ((ae1:Int)<0))
 (∃ m',m'<ae0∧ac_ m' [(.int .i64 (IntKind.wrap .i64 (RT+1)))] ada)
 (YE [(.int .i64 RT)] ada))) (YE [(.int .i64 RT)] Vf))))
def z9:QA:=(.seq .leaf (.seq .calm (.seq .leaf (.join [(12,.int .i64)] [(12,12),(32,49)] (.wrap (.loop [(12,.int .i64)] [(12,12),(32,49)] (.seq (.seq (.draw 13) (.cond .leaf .leaf)) (.wrap .leaf)))) (.join [(13,.int .i64)] [(13,13),(50,68)] (.wrap (.loop [(13,.int .i64)] [(13,13),(50,68)] (.seq (.seq (.draw 13) (.cond .leaf .leaf)) (.wrap .leaf)))) (.seq (.seq .leaf (.cond (.seq .calm (.seq .leaf .leaf)) .leaf)) (.seq .calm (.seq .leaf (.seq .leaf (.join [(13,.int .i64)] [(12,13),(105,162)] (.wrap (.loop [(12,.int .i64),(13,.int .i64)] [(12,13),(105,162)] (.wrap (.join [(12,.int .i64)] [(12,12),(105,122)] (.wrap (.loop [(12,.int .i64)] [(12,12),(105,122)] (.seq (.seq (.draw 13) (.cond .leaf .leaf)) (.wrap .leaf)))) (.join [(13,.int .i64)] [(13,13),(123,141)] (.wrap (.loop [(13,.int .i64)] [(13,13),(123,141)] (.seq (.seq (.draw 13) (.cond .leaf .leaf)) (.wrap .leaf)))) (.seq (.seq .leaf (.cond .leaf .leaf)) (.seq .calm (.seq .leaf .leaf)))))))) (.seq .calm (.seq .leaf .leaf))))))))))))
def BH (a0:AV) (a1:Int) (a2:Int) (a3:Int) (a4:AV) (s:AS) (R:AV→AS→Prop):Prop :=
 bC fun I1 m2=>I1 m2 [(.int .i64 a1)] s ∧
 ∀ m3:Nat,∀ n4:Int,∀ s5:AS,I1 m3 [(.int .i64 n4)] s5 →
 af (decide ((IntKind.wrap .i64 ((IntKind.wrap .i64 (2*n4))+1):Int)≥a2))
 (R (.aQ []) s5)
 (bw fun J6 =>
 (∀ n7:Int,∀ s8:AS,J6 [(.int .i64 n7)] s8 →
 bH (ag T E.ys a0 (.int .i64 (IntKind.wrap .i64 (a3+n4)))) fun l9 Dq=>aR (aB s8 l9 Dq E.w) fun K8=>bH (ag T E.ys a0 (.int .i64 (IntKind.wrap .i64 (a3+n7)))) fun rP wj=>aR (aB s8 rP wj E.w) fun lY=>en Tryz.prog a4 [(.agg K8),(.agg lY)] s8 fun yV kr=>∃ yL:Int,yV=.int .i64 yL∧(af (!(decide ((yL:Int)<0)))
 (R (.aQ []) kr)
 (bH (ag T E.ys a0 (.int .i64 (IntKind.wrap .i64 (a3+n7)))) fun GO o19=>aR (aB kr GO o19 E.w) fun RU=>bH (ag T E.ys a0 (.int .i64 (IntKind.wrap .i64 (a3+n4)))) fun OU o22=>aR (aB kr OU o22 E.w) fun ng=>bH (ag T E.ys a0 (.int .i64 (IntKind.wrap .i64 (a3+n4)))) fun RM Yx=>fj (some E.w) RU (bu (cN kr RM Yx RU) fun pX=>bH (ag T E.ys a0 (.int .i64 (IntKind.wrap .i64 (a3+n7)))) fun GR o28=>fj (some E.w) ng (bu (cN pX GR o28 ng) fun z4=>∃ m',m'<m3∧I1 m' [(.int .i64 n7)] z4))))) ∧
 (bw fun J30 =>
 (∀ b31:Bool,∀ lS:AS,J30 [(.bool b31)] lS →
 af b31
 (J6 [(.int .i64 (IntKind.wrap .i64 ((IntKind.wrap .i64 ((IntKind.wrap .i64 (2*n4))+1))+1)))] lS)
 (J6 [(.int .i64 (IntKind.wrap .i64 ((IntKind.wrap .i64 (2*n4))+1)))] lS)) ∧
 (af (decide ((IntKind.wrap .i64 ((IntKind.wrap .i64 ((IntKind.wrap .i64 (2*n4))+1))+1):Int)<a2)) (bH (ag T E.ys a0 (.int .i64 (IntKind.wrap .i64 (a3+(IntKind.wrap .i64 ((IntKind.wrap .i64 (2*n4))+1)))))) fun l33 Vg=>aR (aB s5 l33 Vg E.w) fun g35=>bH (ag T E.ys a0 (.int .i64 (IntKind.wrap .i64 ((IntKind.wrap .i64 (a3+(IntKind.wrap .i64 ((IntKind.wrap .i64 (2*n4))+1))))+1)))) fun l36 YG=>aR (aB s5 l36 YG E.w) fun g38=>en Tryz.prog a4 [(.agg g35),(.agg g38)] s5 fun v39 GP=>∃ n41:Int,v39=.int .i64 n41∧(J30 [(.bool (decide ((n41:Int)<0)))] GP)) (J30 [(.bool false)] s5))))
def BI:QA:=(.seq .leaf (.wrap (.loop [(10,.int .i64)] [(10,11),(13,81)] (.wrap (.seq .leaf (.seq (.seq .leaf (.cond .leaf .leaf)) (.join [(11,.int .i64)] [(11,11),(19,42)] (.join [(40,.bool)] [(19,40)] (.draw 19) (.cond .leaf .leaf)) (.seq (.seq (.draw 13) (.cond .leaf .leaf)) (.seq .calm .leaf)))))))))
def lT (a0:AV) (a1:Int) (a2:Option (Nat×Nat)) (a3:AV) (s:AS) (R:AV→AS→Prop):Prop :=
 aa Tryz.prog E.kZ [a0,(.int .i64 (IntKind.wrap .i64 (a1 - 1))),(.int .i64 a1),(.int .i64 (IntKind.wrap .i64 (a1+1))),(.ptr a2),a3] s fun v1 s2=>∃ n3:Int,v1=.int .i64 n3∧(R (.int .i64 n3) s2)
def uo:QA:=(.seq .leaf (.seq .leaf .leaf))
def Fk (a0:AV) (a1:Int) (a2:Int) (a3:Int) (a4:Option (Nat×Nat)) (a5:AV) (s:AS) (R:AV→AS→Prop):Prop :=
 aa Tryz.prog E.iC [a0,(.int .i64 a1),(.int .i64 a2),(.ptr a4),a5] s fun v1 s2=>∃ n3:Int,∃ n4:Int,v1=.aQ [(.int .i64 n3),(.int .i64 n4)]∧(aa Tryz.prog E.iC [a0,(.int .i64 n4),(.int .i64 a3),(.ptr a4),a5] s2 fun v5 s6=>∃ n7:Int,∃ n8:Int,v5=.aQ [(.int .i64 n7),(.int .i64 n8)]∧(aa Tryz.prog E.iC [a0,(.int .i64 n3),(.int .i64 n7),(.ptr a4),a5] s6 fun v9 jD=>∃ iN:Int,∃ wS:Int,v9=.aQ [(.int .i64 iN),(.int .i64 wS)]∧(R (.int .i64 wS) jD)))
def Fl:QA:=(.seq .leaf (.seq .leaf (.seq .leaf (.seq .leaf (.seq .leaf .leaf)))))
def Fm (a0:AV) (a1:Int) (a2:Int) (a3:Option (Nat×Nat)) (a4:AV) (s:AS) (R:AV→AS→Prop):Prop :=
 bH (ag T E.ys a0 (.int .i64 a2)) fun l1 o2=>aR (aB s l1 o2 E.w) fun g3=>bH (ag T E.ys a0 (.int .i64 a1)) fun l4 o5=>aR (aB s l4 o5 E.w) fun g6=>en Tryz.prog a4 [(.agg g3),(.agg g6)] s fun v7 s8=>∃ n9:Int,v7=.int .i64 n9∧(af (decide ((n9:Int)<0))
 (ai a3 fun nB A0=>aW .i64 (av s8 nB A0) fun wS=>ai a3 fun tJ JA=>bu (cN s8 tJ JA [(.int .i64 (IntKind.wrap .i64 (wS+1)))]) fun f_=>R (.aQ [(.int .i64 a2),(.int .i64 a1)]) f_)
 (R (.aQ [(.int .i64 a1),(.int .i64 a2)]) s8))
def Fo:QA:=(.seq .leaf (.seq (.seq (.draw 9) (.cond (.seq .leaf (.seq .leaf .leaf)) .leaf)) (.seq .leaf .leaf)))
def mR (a0:AV) (a1:Int) (a2:Int) (a3:AV) (s:AS) (R:AV→AS→Prop):Prop :=
 af (decide ((IntKind.wrap .i64 (a2 - a1):Int)≥8))
 (aj (.cells [(.int .u64 0)] 0 false) s fun l1 s2=>bu (cN s2 l1 0 [(.int .u64 (IntKind.wrap .u64 (IntKind.wrap .i64 (a2 - a1))))]) fun s3=>aa Tryz.prog gF [(.int .i64 (IntKind.wrap .i64 (a2 - a1)))] s3 fun v4 s5=>∃ n6:Int,v4=.int .u64 n6∧(NZ 4 (bC fun I7 m8=>I7 m8 [(.int .i64 (IntKind.wrap .i64 ((IntKind.wrap .i64 (a1+(IntKind.wrap .i64 ((IntKind.wrap .i64 (Int.tdiv (IntKind.wrap .i64 (a2 - a1)) 4))*2)))) - 1)))] s5 ∧
 ∀ m9:Nat,∀ j9:Int,∀ fI:AS,I7 m9 [(.int .i64 j9)] fI →
 NZ 4 (af (decide ((j9:Int)≤(IntKind.wrap .i64 ((IntKind.wrap .i64 (a1+(IntKind.wrap .i64 ((IntKind.wrap .i64 (Int.tdiv (IntKind.wrap .i64 (a2 - a1)) 4))*2))))+1))))
 (aa Tryz.prog gZ [(.ptr (some (l1,0)))] fI fun i_ bS=>∃ vp:Int,i_=.int .u64 vp∧(aW .u64 (bB .and .u64 vp (IntKind.wrap .u64 (n6 - 1))) fun vg=>bw fun J17 =>
 (∀ JF:Int,∀ iD:AS,J17 [(.int .i64 JF)] iD →
 bH (ag T E.ys a0 (.int .i64 (IntKind.wrap .i64 (a1+JF)))) fun CP Mo=>aR (aB iD CP Mo E.w) fun CQ=>bH (ag T E.ys a0 (.int .i64 j9)) fun QL o24=>aR (aB iD QL o24 E.w) fun Jz=>bH (ag T E.ys a0 (.int .i64 j9)) fun Dn Fh=>fj (some E.w) CQ (bu (cN iD Dn Fh CQ) fun rA=>bH (ag T E.ys a0 (.int .i64 (IntKind.wrap .i64 (a1+JF)))) fun U_ NQ=>fj (some E.w) Jz (bu (cN rA U_ NQ Jz) fun nA=>∃ m',m'<m9∧I7 m' [(.int .i64 (IntKind.wrap .i64 (j9+1)))] nA))) ∧
 (af (decide ((IntKind.wrap .i64 vg:Int)≥(IntKind.wrap .i64 (a2 - a1))))
 (J17 [(.int .i64 (IntKind.wrap .i64 ((IntKind.wrap .i64 vg) - (IntKind.wrap .i64 (a2 - a1)))))] bS)
 (J17 [(.int .i64 (IntKind.wrap .i64 vg))] bS))))
 (R (.aQ []) fI)))))
 (R (.aQ []) s)
def vq:QA:=(.seq .leaf (.seq .leaf (.cond (.seq .leaf (.seq .leaf (.seq .leaf (.wrap (.loop [(11,.int .i64)] [(11,12),(28,66)] (.seq (.seq .leaf (.cond .leaf .leaf)) (.seq (.wrap (.seq .leaf (.join [(12,.int .i64)] [(12,12),(43,48)] (.seq .leaf (.cond .leaf .leaf)) .calm))) .leaf))))))) .leaf)))
class SQ (E:SE):Prop where
 z_:∀ (a0:AV) (a1:AV) (s:AS) (R:AV→AS→Prop),RN E a0 a1 s R→aa Tryz.prog E.vk [a0,a1] s R
 og:∀ (a0:AV) (a1:Int) (a2:Int) (a3:Int) (a4:AV) (s:AS) (R:AV→AS→Prop),Di E a0 a1 a2 a3 a4 s R→aa Tryz.prog E.fB [a0,(.int .i64 a1),(.int .i64 a2),(.int .i64 a3),a4] s R
 ic:∀ (a0:AV) (a1:Int) (a2:Int) (a3:AV) (s:AS) (R:AV→AS→Prop),vn E a0 a1 a2 a3 s R→aa Tryz.prog E.fm [a0,(.int .i64 a1),(.int .i64 a2),a3] s R
 sA:∀ (a0:AV) (a1:Int) (a2:Int) (a3:AV) (s:AS) (R:AV→AS→Prop),BD E a0 a1 a2 a3 s R→aa Tryz.prog E.mP [a0,(.int .i64 a1),(.int .i64 a2),a3] s R
 pg:∀ (a0:AV) (a1:Int) (a2:Int) (a3:AV) (s:AS) (R:AV→AS→Prop),xU E a0 a1 a2 a3 s R→aa Tryz.prog E.jE [a0,(.int .i64 a1),(.int .i64 a2),a3] s R
 nC:∀ (a0:AV) (a1:Int) (a2:Int) (a3:AV) (s:AS) (R:AV→AS→Prop),wA E a0 a1 a2 a3 s R→aa Tryz.prog E.iO [a0,(.int .i64 a1),(.int .i64 a2),a3] s R
 gN:∀ (a0:AV) (a1:Int) (a2:Int) (a3:AV) (s:AS) (R:AV→AS→Prop),gM E a0 a1 a2 a3 s R→aa Tryz.prog E.eP [a0,(.int .i64 a1),(.int .i64 a2),a3] s R
 lU:∀ (a0:AV) (a1:Int) (a2:Int) (a3:Int) (a4:AV) (s:AS) (R:AV→AS→Prop),uk E a0 a1 a2 a3 a4 s R→aa Tryz.prog E.gG [a0,(.int .i64 a1),(.int .i64 a2),(.int .i64 a3),a4] s R
 rB:∀ (a0:AV) (a1:Int) (a2:Int) (a3:Int) (a4:AV) (s:AS) (R:AV→AS→Prop),z8 E a0 a1 a2 a3 a4 s R→aa Tryz.prog E.lE [a0,(.int .i64 a1),(.int .i64 a2),(.int .i64 a3),a4] s R
 sB:∀ (a0:AV) (a1:Int) (a2:Int) (a3:Int) (a4:AV) (s:AS) (R:AV→AS→Prop),BH E a0 a1 a2 a3 a4 s R→aa Tryz.prog E.iY [a0,(.int .i64 a1),(.int .i64 a2),(.int .i64 a3),a4] s R
 lV:∀ (a0:AV) (a1:Int) (a2:Option (Nat×Nat)) (a3:AV) (s:AS) (R:AV→AS→Prop),lT E a0 a1 a2 a3 s R→aa Tryz.prog E.dH [a0,(.int .i64 a1),(.ptr a2),a3] s R
 wk:∀ (a0:AV) (a1:Int) (a2:Int) (a3:Int) (a4:Option (Nat×Nat)) (a5:AV) (s:AS) (R:AV→AS→Prop),Fk E a0 a1 a2 a3 a4 a5 s R→aa Tryz.prog E.kZ [a0,(.int .i64 a1),(.int .i64 a2),(.int .i64 a3),(.ptr a4),a5] s R
 wm:∀ (a0:AV) (a1:Int) (a2:Int) (a3:Option (Nat×Nat)) (a4:AV) (s:AS) (R:AV→AS→Prop),Fm E a0 a1 a2 a3 a4 s R→aa Tryz.prog E.iC [a0,(.int .i64 a1),(.int .i64 a2),(.ptr a3),a4] s R
 mS:∀ (a0:AV) (a1:Int) (a2:Int) (a3:AV) (s:AS) (R:AV→AS→Prop),mR E a0 a1 a2 a3 s R→aa Tryz.prog E.h_ [a0,(.int .i64 a1),(.int .i64 a2),a3] s R
end Go.Proofs.YtohgmogbabkkeaaGreat.SG
end

section
set_option maxRecDepth 100000
set_option maxHeartbeats 4000000
namespace Go.Proofs.YtohgmogbabkkeaaGreat
open Go.Am
def Vh  (s:AS) (R:AV→AS→Prop):Prop :=
 pN (aU T nZ [(2,(.bool true))]) fun g1=>cF g1 (aj (.cells g1 0 false) s fun l2 s3=>R (.ptr (some (l2,0))) s3)
def Vi:QA:=(.seq .leaf (.seq .leaf .leaf))
theorem Vj  (s:AS) (R:AV→AS→Prop) (h:Vh  s R):aa Tryz.prog Db [] s R :=
 aa.q (n:=3) (rs:=[.tmp 0]) (A:=Vi) hT bU Tryz.func146 (by kernel_rfl) rfl rfl rfl (by kernel_rfl) (by kernel_rfl) h
def JG (a0:Option (Nat×Nat)) (a1:List AV) (s:AS) (R:AV→AS→Prop):Prop :=
 cF a1 (aj (.cells a1 0 false) s fun l1 s2=>aa Tryz.prog iy [(.ptr a0)] s2 fun v3 s4=>∃ b5:Bool,v3=.bool b5∧(af (!b5)
 (R (.aQ [(.bool false),(.int .i64 1)]) s4)
 (aR (aB s4 l1 0 2) fun g6=>aa Tryz.prog nR [(.agg g6)] s4 fun v7 s8=>∃ b9:Bool,v7=.bool b9∧(af (!b9)
 (R (.aQ [(.bool false),(.int .i64 2)]) s8)
 (aR (aB s8 l1 0 2) fun Dp=>aa Tryz.prog kG [(.ptr a0),(.agg Dp)] s8 fun v11 dg=>∃ Jk:Bool,v11=.bool Jk∧(af Jk
 (R (.aQ [(.bool false),(.int .i64 0)]) dg)
 (ai a0 fun lR we=>aR (aB dg lR we 18) fun EH=>aj (.cells [.int .u64 0,.int .u64 0,.int .u64 0,.int .u64 0,.int .u64 0,.int .u64 0,.int .u64 0,.int .u64 0,.int .u64 0,.int .u64 0,.int .u64 0,.int .u64 0,.int .u64 0,.int .u64 0,.int .u64 0,.int .u64 0,.slc none 0 0 true,.bool false] 0 false) dg fun j_ eC=>fj (some 18) EH (bu (cN eC j_ 0 EH) fun iD=>gu fun S V=>ai a0 fun CP Mo=>dJ (av iD CP (Mo+16)) fun qm=>aR (aB iD l1 0 2) fun ng=>(∀ qx:AS,Ext iD qx→aM qx→(True)→aa Tryz.prog ax [qm,(.agg ng),(.func cK [])] qx fun WT pX=>∃ EG:Int,∃ b28:Bool,WT=.aQ [(.int .i64 EG),(.bool b28)]∧((Ext qx pX∧S 5 [(.func ax []),qm,(.agg ng),(.func cK [])] (.aQ [(.int .i64 EG),(.bool b28)]) pX∧V 5 [(.func ax []),qm,(.agg ng),(.func cK [])] (.aQ [(.int .i64 EG),(.bool b28)]))))∧(∃ v,V 5 [(.func ax []),qm,(.agg ng),(.func cK [])] v)∧∀ mb:AV,V 5 [(.func ax []),qm,(.agg ng),(.func cK [])] mb→∃ A4:Int,∃ b31:Bool,mb=.aQ [(.int .i64 A4),(.bool b31)]∧(∀ lS:AS,Ext iD lS→aM lS→(S 5 [(.func ax []),qm,(.agg ng),(.func cK [])] (.aQ [(.int .i64 A4),(.bool b31)]) lS∧True)→gu fun S V=>ai a0 fun HW JB=>dJ (av lS HW (JB+16)) fun QS=>(∀ k5:AS,Ext lS k5→aM k5→(True)→aa Tryz.prog aG [QS] k5 fun HX yM=>(Ext k5 yM∧S 4 [(.func aG []),QS] HX yM∧V 4 [(.func aG []),QS] HX))∧(∃ v,V 4 [(.func aG []),QS] v)∧∀ yW:AV,V 4 [(.func aG []),QS] yW→aR (aB lS l1 0 2) fun WU=>(∀ K7:AS,Ext lS K7→aM K7→(True)→aR (cZ T az 1 [(0,(.agg WU))]) fun Dl=>aj (.cells Dl 0 false) K7 fun NP xW=>(Ext K7 xW∧S 7 [(.agg WU)] (.slc (some (NP,0)) 1 1 true) xW∧V 7 [(.agg WU)] (.slc (some (NP,0)) 1 1 true)))∧(∃ v,V 7 [(.agg WU)] v)∧∀ v46:AV,V 7 [(.agg WU)] v46→∀ wD:AS,Ext lS wD→aM wD→(S 4 [(.func aG []),QS] yW wD∧(S 7 [(.agg WU)] v46 wD∧True))→aa Tryz.prog dZ [yW,(.int .i64 A4),v46] wD fun v49 pG=>fD T az pG j_ 16 v49 fun YH=>aa Tryz.prog mM [(.ptr (some (j_,0)))] YH fun v52 K9=>v52=.aQ []∧(dJ (av K9 j_ 16) fun GS=>aW .i64 (aP T az GS K9) fun n55=>af (decide ((n55:Int)>4096))
 (R (.aQ [(.bool false),(.int .i64 5)]) K9)
 (aR (aB K9 j_ 0 18) fun g56=>ai a0 fun l57 o58=>fj (some 18) g56 (bu (cN K9 l57 o58 g56) fun vl=>R (.aQ [(.bool true),(.int .i64 0)]) vl))))))))))))
def JH:QA:=(.seq .leaf (.seq (.wrap (.seq .leaf (.cond (.seq .leaf .leaf) (.seq .leaf (.cond (.seq .leaf .leaf) (.seq .leaf (.cond (.seq .leaf .leaf) .leaf))))))) (.seq .leaf (.seq (.gL 10 [[],[],[],[],[],[],[],[],[],[]] [5]) (.seq (.gL 8 [[],[],[],[],[],[],[],[]] [4,7]) (.seq .leaf (.seq (.seq .leaf (.cond (.seq .leaf .leaf) .leaf)) (.seq .leaf (.seq .leaf .leaf)))))))))
theorem JI (a0:Option (Nat×Nat)) (a1:List AV) (s:AS) (R:AV→AS→Prop) (h:JG a0 a1 s R):aa Tryz.prog sV [(.ptr a0),(.agg a1)] s R :=
 aa.q (n:=51) (rs:=[.tmp 4,.tmp 5]) (A:=JH) hT bU Tryz.func227 (by kernel_rfl) rfl rfl rfl (by kernel_rfl) (by kernel_rfl) h
def OY (a0:List AV) (s:AS) (R:AV→AS→Prop):Prop :=
 cF a0 (aj (.cells a0 0 false) s fun l1 s2=>aW .i64 (av s2 l1 0) fun n3=>af (decide ((n3:Int)≥1)) (aW .i64 (av s2 l1 0) fun n4=>af (decide ((n4:Int)≤16)) (aW .u64 (av s2 l1 1) fun n5=>af (decide ((n5:Int)≥1)) (aW .u64 (av s2 l1 1) fun n6=>R (.bool (decide ((n6:Int)≤4611686018427387904))) s2) (R (.bool false) s2)) (R (.bool false) s2)) (R (.bool false) s2))
def OZ:QA:=(.seq .leaf (.seq .leaf .leaf))
theorem O0 (a0:List AV) (s:AS) (R:AV→AS→Prop) (h:OY a0 s R):aa Tryz.prog xF [(.agg a0)] s R :=
 aa.q (n:=21) (rs:=[.tmp 2]) (A:=OZ) hT bU Tryz.func33 (by kernel_rfl) rfl rfl rfl (by kernel_rfl) (by kernel_rfl) h
def Vk (a0:List AV) (s:AS) (R:AV→AS→Prop):Prop :=
 cF a0 (aj (.cells a0 0 false) s fun l1 s2=>aW .i64 (av s2 l1 0) fun n3=>af (decide ((n3:Int)≥1)) (aW .i64 (av s2 l1 0) fun n4=>af (decide ((n4:Int)≤16)) (aW .u64 (av s2 l1 1) fun n5=>af (decide ((n5:Int)≥1)) (aW .u64 (av s2 l1 1) fun n6=>R (.bool (decide ((n6:Int)≤4611686018427387904))) s2) (R (.bool false) s2)) (R (.bool false) s2)) (R (.bool false) s2))
def Vl:QA:=(.seq .leaf (.seq .leaf .leaf))
theorem Vm (a0:List AV) (s:AS) (R:AV→AS→Prop) (h:Vk a0 s R):aa Tryz.prog nR [(.agg a0)] s R :=
 aa.q (n:=21) (rs:=[.tmp 2]) (A:=Vl) hT bU Tryz.func118 (by kernel_rfl) rfl rfl rfl (by kernel_rfl) (by kernel_rfl) h
def JJ (a0:Option (Nat×Nat)) (a1:List AV) (s:AS) (R:AV→AS→Prop):Prop :=
 cF a1 (aj (.cells a1 0 false) s fun l1 s2=>aa Tryz.prog iy [(.ptr a0)] s2 fun v3 s4=>∃ b5:Bool,v3=.bool b5∧(af (!b5) (R (.bool false) s4) (aR (aB s4 l1 0 2) fun g6=>aa Tryz.prog nR [(.agg g6)] s4 fun v7 s8=>∃ b9:Bool,v7=.bool b9∧(af (!b9)
 (R (.bool false) s8)
 (gu fun S V=>ai a0 fun nB A0=>dJ (av s8 nB (A0+16)) fun i_=>aR (aB s8 l1 0 2) fun wg=>(∀ jT:AS,Ext s8 jT→aM jT→(True)→aa Tryz.prog ax [i_,(.agg wg),(.func cK [])] jT fun yV kr=>∃ yL:Int,∃ b18:Bool,yV=.aQ [(.int .i64 yL),(.bool b18)]∧((Ext jT kr∧S 5 [(.func ax []),i_,(.agg wg),(.func cK [])] (.aQ [(.int .i64 yL),(.bool b18)]) kr∧V 5 [(.func ax []),i_,(.agg wg),(.func cK [])] (.aQ [(.int .i64 yL),(.bool b18)]))))∧(∃ v,V 5 [(.func ax []),i_,(.agg wg),(.func cK [])] v)∧∀ wT:AV,V 5 [(.func ax []),i_,(.agg wg),(.func cK [])] wT→∃ Dk:Int,∃ YI:Bool,wT=.aQ [(.int .i64 Dk),(.bool YI)]∧(∀ fO:AS,Ext s8 fO→aM fO→(S 5 [(.func ax []),i_,(.agg wg),(.func cK [])] (.aQ [(.int .i64 Dk),(.bool YI)]) fO∧True)→af YI (R (.bool true) fO) (aW .u64 (av fO l1 1) fun yN=>aW .i64 (av fO l1 0) fun ql=>ai a0 fun Dn Fh=>bH (ag T bg (.ptr (some (Dn,Fh))) (.int .i64 (IntKind.wrap .i64 (ql - 1)))) fun Dh Jy=>aW .u64 (av fO Dh Jy) fun A4=>R (.bool (decide ((yN:Int)≤A4))) fO)))))))
def JK:QA:=(.seq .leaf (.seq (.seq .leaf (.cond (.seq .leaf .leaf) .leaf)) (.seq (.gL 10 [[],[],[],[],[],[],[],[],[],[]] [5]) (.seq (.draw 12) .leaf))))
theorem JL (a0:Option (Nat×Nat)) (a1:List AV) (s:AS) (R:AV→AS→Prop) (h:JJ a0 a1 s R):aa Tryz.prog kG [(.ptr a0),(.agg a1)] s R :=
 aa.q (n:=38) (rs:=[.tmp 4]) (A:=JK) hT bU Tryz.func44 (by kernel_rfl) rfl rfl rfl (by kernel_rfl) (by kernel_rfl) h
def HY (a0:Option (Nat×Nat)) (s:AS) (R:AV→AS→Prop):Prop :=
 aa Tryz.prog iy [(.ptr a0)] s fun v1 s2=>∃ b3:Bool,v1=.bool b3∧(af (!b3)
 (R (.ptr none) s2)
 (gu fun S V=>ai a0 fun l4 o5=>aR (aB s2 l4 o5 16) fun g6=>ai a0 fun l7 o8=>dJ (av s2 l7 (o8+16)) fun v9=>(∀ jD:AS,Ext s2 jD→aM jD→(True)→aa Tryz.prog aG [v9] jD fun v11 dg=>(Ext jD dg∧S 8 [(.func aG []),v9] v11 dg∧V 8 [(.func aG []),v9] v11))∧(∃ v,V 8 [(.func aG []),v9] v)∧∀ JM:AV,V 8 [(.func aG []),v9] JM→∀ jT:AS,Ext s2 jT→aM jT→(S 8 [(.func aG []),v9] JM jT∧True)→pN (aU T nZ [(0,(.agg g6)),(1,JM),(2,(.bool true))]) fun EH=>cF EH (aj (.cells EH 0 false) jT fun j_ eC=>R (.ptr (some (j_,0))) eC)))
def HZ:QA:=(.seq .leaf (.seq (.seq .leaf (.cond (.seq .leaf .leaf) .leaf)) (.seq (.gL 9 [[],[],[],[],[],[],[],[],[]] [8]) .leaf)))
theorem H6 (a0:Option (Nat×Nat)) (s:AS) (R:AV→AS→Prop) (h:HY a0 s R):aa Tryz.prog di [(.ptr a0)] s R :=
 aa.q (n:=17) (rs:=[.tmp 2]) (A:=HZ) hT bU Tryz.func111 (by kernel_rfl) rfl rfl rfl (by kernel_rfl) (by kernel_rfl) h
def wo (a0:Option (Nat×Nat)) (s:AS) (R:AV→AS→Prop):Prop :=
 uD (iK T 100 lP (.ptr a0) (.ptr none)) fun b1=>af (!b1) (ai a0 fun l2 o3=>Rp (av s l2 (o3+17)) fun b4=>R (.bool b4) s) (R (.bool false) s)
def Fp:QA:=(.seq .leaf (.seq .leaf .leaf))
theorem Fq (a0:Option (Nat×Nat)) (s:AS) (R:AV→AS→Prop) (h:wo a0 s R):aa Tryz.prog iy [(.ptr a0)] s R :=
 aa.q (n:=11) (rs:=[.tmp 2]) (A:=Fp) hT bU Tryz.func112 (by kernel_rfl) rfl rfl rfl (by kernel_rfl) (by kernel_rfl) h
def iP (a0:AV) (a1:List AV) (a2:AV) (s:AS) (R:AV→AS→Prop):Prop :=
 cF a1 (aj (.cells a1 0 false) s fun l1 s2=>aW .i64 (aP T az a0 s2) fun n3=>bw fun J4 =>
 (∀ n5:Int,∀ s6:AS,J4 [(.int .i64 n5)] s6 →
 gu fun S V=>af (decide ((n5:Int)<n3)) (bH (ag T az a0 (.int .i64 n5)) fun l7 o8=>aR (aB s6 l7 o8 2) fun g9=>aR (aB s6 l1 0 2) fun Dp=>(∀ fI:AS,Ext s6 fI→aM fI→(True)→en Tryz.prog a2 [(.agg g9),(.agg Dp)] fI fun i_ bS=>∃ vp:Int,i_=.int .i64 vp∧((Ext fI bS∧S 11 [a2,(.agg g9),(.agg Dp)] (.int .i64 vp) bS∧V 11 [a2,(.agg g9),(.agg Dp)] (.int .i64 vp))))∧(∃ v,V 11 [a2,(.agg g9),(.agg Dp)] v)∧∀ yV:AV,V 11 [a2,(.agg g9),(.agg Dp)] yV→∃ vg:Int,yV=.int .i64 vg∧(∀ lZ:AS,Ext s6 lZ→aM lZ→(S 11 [a2,(.agg g9),(.agg Dp)] (.int .i64 vg) lZ∧True)→R (.aQ [(.int .i64 n5),(.bool ((vg:Int)==0))]) lZ)) (∀ iD:AS,Ext s6 iD→aM iD→(True)→R (.aQ [(.int .i64 n5),(.bool false)]) iD)) ∧
 (bC fun WV m22=>WV m22 [(.int .i64 0),(.int .i64 n3)] s2 ∧
 ∀ Mp:Nat,∀ yN:Int,∀ ql:Int,∀ pX:AS,WV Mp [(.int .i64 yN),(.int .i64 ql)] pX →
 af (decide ((yN:Int)<ql))
 (NN 1 (bH (ag T az a0 (.int .i64 (IntKind.wrap .i64 (Int.fdiv (IntKind.wrap .u64 (IntKind.wrap .i64 (yN+ql))) (2 ^ min (Int.toNat 1) (IntKind.bits .u64)))))) fun GR o28=>aR (aB pX GR o28 2) fun RV=>aR (aB pX l1 0 2) fun z7=>en Tryz.prog a2 [(.agg RV),(.agg z7)] pX fun wE lS=>∃ Mn:Int,wE=.int .i64 Mn∧(af (decide ((Mn:Int)<0))
 (∃ m',m'<Mp∧WV m' [(.int .i64 (IntKind.wrap .i64 ((IntKind.wrap .i64 (Int.fdiv (IntKind.wrap .u64 (IntKind.wrap .i64 (yN+ql))) (2 ^ min (Int.toNat 1) (IntKind.bits .u64))))+1))),(.int .i64 ql)] lS)
 (∃ m',m'<Mp∧WV m' [(.int .i64 yN),(.int .i64 (IntKind.wrap .i64 (Int.fdiv (IntKind.wrap .u64 (IntKind.wrap .i64 (yN+ql))) (2 ^ min (Int.toNat 1) (IntKind.bits .u64)))))] lS))))
 (J4 [(.int .i64 yN)] pX)))
def iQ:QA:=(.seq .leaf (.seq .leaf (.seq .leaf (.join [(9,.int .i64)] [(9,11),(15,34)] (.wrap (.loop [(9,.int .i64),(10,.int .i64)] [(9,11),(15,34)] (.seq (.seq .leaf (.cond .leaf .leaf)) (.wrap (.seq .leaf (.seq (.draw 6) (.cond .leaf .leaf))))))) (.seq (.gL 15 [[],[],[],[],[],[],[],[],[],[],[],[],[],[],[]] [11]) .leaf)))))
theorem iR (a0:AV) (a1:List AV) (a2:AV) (s:AS) (R:AV→AS→Prop) (h:iP a0 a1 a2 s R):aa Tryz.prog ax [a0,(.agg a1),a2] s R :=
 aa.q (n:=49) (rs:=[.tmp 6,.tmp 7]) (A:=iQ) hT bU Tryz.func126 (by kernel_rfl) rfl rfl rfl (by kernel_rfl) (by kernel_rfl) h
def O1 (a0:List AV) (a1:List AV) (s:AS) (R:AV→AS→Prop):Prop :=
 cF a0 (aj (.cells a0 0 false) s fun l1 s2=>cF a1 (aj (.cells a1 0 false) s2 fun l3 s4=>gu fun S V=>aW .i64 (av s4 l1 0) fun n5=>aW .i64 (av s4 l3 0) fun n6=>(∀ s7:AS,Ext s4 s7→aM s7→(True)→aa Tryz.prog aO [(.int .i64 n5),(.int .i64 n6)] s7 fun v8 s9=>∃ j9:Int,v8=.int .i64 j9∧((Ext s7 s9∧S 4 [(.func aO []),(.int .i64 n5),(.int .i64 n6)] (.int .i64 j9) s9∧V 4 [(.func aO []),(.int .i64 n5),(.int .i64 n6)] (.int .i64 j9))))∧(∃ v,V 4 [(.func aO []),(.int .i64 n5),(.int .i64 n6)] v)∧∀ v11:AV,V 4 [(.func aO []),(.int .i64 n5),(.int .i64 n6)] v11→∃ wS:Int,v11=.int .i64 wS∧(aW .u64 (av s4 l1 1) fun wu=>aW .u64 (av s4 l3 1) fun vp=>∀ f_:AS,Ext s4 f_→aM f_→(S 4 [(.func aO []),(.int .i64 n5),(.int .i64 n6)] (.int .i64 wS) f_∧True)→aa Tryz.prog ez [(.int .u64 wu),(.int .u64 vp)] f_ fun o_ eC=>∃ z3:Int,o_=.int .i64 z3∧(aR (cZ T gB 2 [(0,(.int .i64 wS)),(1,(.int .i64 z3))]) fun RU=>aj (.cells RU 0 false) eC fun OU fO=>aa Tryz.prog kH [(.slc (some (OU,0)) 2 2 true)] fO fun Jl qx=>∃ ql:Int,Jl=.int .i64 ql∧(R (.int .i64 ql) qx)))))
def O2:QA:=(.seq .leaf (.seq (.gL 9 [[],[],[],[],[],[],[],[],[]] [4]) .leaf))
theorem O3 (a0:List AV) (a1:List AV) (s:AS) (R:AV→AS→Prop) (h:O1 a0 a1 s R):aa Tryz.prog cK [(.agg a0),(.agg a1)] s R :=
 aa.q (n:=17) (rs:=[.tmp 4]) (A:=O2) hT bU Tryz.func127 (by kernel_rfl) rfl rfl rfl (by kernel_rfl) (by kernel_rfl) h
def rC (a0:AV) (a1:Int) (a2:AV) (s:AS) (R:AV→AS→Prop):Prop :=
 dJ (aY T az a0 (some (.int .i64 a1)) none none) fun v1=>aW .i64 (aP T az a2 s) fun n2=>af ((n2:Int)==0)
 (R a0 s)
 (aW .i64 (aP T az a0 s) fun n3=>af ((a1:Int)==n3)
 (iG (aJ T az az a0 a2 s) fun v4 s5=>R v4 s5)
 (aW .i64 (wW T az a0) fun n6=>af (decide ((IntKind.wrap .i64 (n3+n2):Int)>n6))
 (dJ (aY T az a0 none (some (.int .i64 a1)) none) fun v7=>iG (aJ T az ud v7 (.int .i64 (IntKind.wrap .i64 ((IntKind.wrap .i64 (n3+n2)) - a1))) s) fun v8 s9=>dJ (aY T az v8 (some (.int .i64 a1)) none none) fun v10=>iG (qT T az v10 a2 s9) fun v11 dg=>dJ (aY T az v8 (some (.int .i64 (IntKind.wrap .i64 (a1+n2)))) none none) fun JM=>dJ (aY T az a0 (some (.int .i64 a1)) none none) fun tK=>iG (qT T az JM tK dg) fun yV kr=>R v8 kr)
 (dJ (aY T az a0 none (some (.int .i64 (IntKind.wrap .i64 (n3+n2)))) none) fun o_=>dJ (aY T az o_ (some (.int .i64 (IntKind.wrap .i64 (a1+n2)))) none none) fun tI=>aa Tryz.prog mO [a2,tI] s fun wT fN=>∃ YI:Bool,wT=.bool YI∧(af (!YI)
 (dJ (aY T az o_ (some (.int .i64 (IntKind.wrap .i64 (a1+n2)))) none none) fun qm=>dJ (aY T az o_ (some (.int .i64 a1)) none none) fun Jl=>iG (qT T az qm Jl fN) fun wU dM=>dJ (aY T az o_ (some (.int .i64 a1)) none none) fun K_=>iG (qT T az K_ a2 dM) fun K4 rA=>R o_ rA)
 (dJ (aY T az o_ (some (.int .i64 n3)) none none) fun mb=>iG (qT T az mb a2 fN) fun v30 nA=>dJ (aY T az o_ (some (.int .i64 a1)) none none) fun Vn=>aa Tryz.prog rT [Vn,(.int .i64 n2)] nA fun qk ku=>qk=.aQ []∧(R o_ ku))))))
def rD:QA:=(.seq .leaf (.seq .leaf (.seq .leaf (.seq (.seq .leaf (.cond (.seq .leaf .leaf) .leaf)) (.seq .leaf (.seq (.seq .leaf (.cond (.seq .leaf .leaf) .leaf)) (.seq (.seq .leaf (.cond (.seq .leaf (.seq .leaf (.seq (.draw 8) (.seq .leaf .leaf)))) .leaf)) (.seq .leaf (.seq (.seq .leaf (.cond (.seq (.draw 8) (.seq .leaf (.seq .leaf .leaf))) .leaf)) (.seq .leaf (.seq .leaf (.seq .leaf .leaf))))))))))))
theorem jF (a0:AV) (a1:Int) (a2:AV) (s:AS) (R:AV→AS→Prop) (h:rC a0 a1 a2 s R):aa Tryz.prog dZ [a0,(.int .i64 a1),a2] s R :=
 aa.q (n:=95) (rs:=[.tmp 6]) (A:=rD) hT bU Tryz.func263 (by kernel_rfl) rfl rfl rfl (by kernel_rfl) (by kernel_rfl) h
def rV (a0:AV) (s:AS) (R:AV→AS→Prop):Prop :=
 uD (WG T az true a0 (.slc none 0 0 true)) fun b1=>af b1
 (R (.slc none 0 0 true) s)
 (aR (cZ T az 0 []) fun g2=>aj (.cells g2 0 false) s fun l3 s4=>iG (aJ T az az (.slc (some (l3,0)) 0 0 true) a0 s4) fun v5 s6=>R v5 s6)
def rW:QA:=(.seq .leaf (.seq (.seq .leaf (.cond (.seq .leaf .leaf) .leaf)) (.seq .leaf .leaf)))
theorem rX (a0:AV) (s:AS) (R:AV→AS→Prop) (h:rV a0 s R):aa Tryz.prog aG [a0] s R :=
 aa.q (n:=8) (rs:=[.tmp 2]) (A:=rW) hT bU Tryz.func113 (by kernel_rfl) rfl rfl rfl (by kernel_rfl) (by kernel_rfl) h
def BJ (a0:Option (Nat×Nat)) (s:AS) (R:AV→AS→Prop):Prop :=
 bw fun J1 =>
 (∀ v2:AV,∀ s3:AS,J1 [v2] s3 →
 ai a0 fun l4 o5=>fD T az s3 l4 (o5+16) v2 fun s6=>R (.aQ []) s6) ∧
 (ai a0 fun l7 o8=>dJ (av s l7 (o8+16)) fun v9=>aW .i64 (aP T az v9 s) fun j9=>bC fun I11 m12=>I11 m12 [(.slc none 0 0 true),(.int .i64 0)] s ∧
 ∀ m13:Nat,∀ tK:AV,∀ wR:Int,∀ kr:AS,I11 m13 [tK,(.int .i64 wR)] kr →
 af (decide ((wR:Int)<j9))
 (bH (ag T az v9 (.int .i64 wR)) fun j_ wz=>aR (aB kr j_ wz 2) fun GU=>aj (.cells [.int .i64 0,.int .u64 0] 0 false) kr fun CP gn=>fj (some 2) GU (bu (cN gn CP 0 GU) fun fO=>aW .i64 (av fO CP 0) fun uj=>ai a0 fun RM Yx=>bH (ag T bg (.ptr (some (RM,Yx))) (.int .i64 (IntKind.wrap .i64 (uj - 1)))) fun Dn Fh=>aW .u64 (av fO CP 1) fun Jm=>aW .u64 (av fO Dn Fh) fun La=>af (decide ((Jm:Int)≤La))
 (∃ m',m'<m13∧I11 m' [tK,(.int .i64 (IntKind.wrap .i64 (wR+1)))] fO)
 (aW .u64 (av fO CP 1) fun A4=>aW .u64 (av fO Dn Fh) fun n31=>af ((A4:Int)==(IntKind.wrap .u64 (n31+1)))
 (aW .u64 (av fO CP 1) fun n32=>bu (cN fO Dn Fh [(.int .u64 n32)]) fun qR=>∃ m',m'<m13∧I11 m' [tK,(.int .i64 (IntKind.wrap .i64 (wR+1)))] qR)
 (aR (aB fO CP 0 2) fun NR=>aR (cZ T az 1 [(0,(.agg NR))]) fun g35=>aj (.cells g35 0 false) fO fun l36 k5=>iG (aJ T az az tK (.slc (some (l36,0)) 1 1 true) k5) fun HX yM=>∃ m',m'<m13∧I11 m' [HX,(.int .i64 (IntKind.wrap .i64 (wR+1)))] yM))))
 (J1 [tK] kr))
def BK:QA:=(.wrap (.seq .leaf (.seq .leaf (.join [(2,.any)] [(2,2),(4,45)] (.seq .leaf (.wrap (.loop [(2,.any),(11,.int .i64)] [(2,2),(4,5),(11,45)] (.seq .leaf (.seq (.cond .leaf .leaf) (.seq (.wrap (.seq .leaf (.seq (.seq (.draw 6) (.wrap (.seq (.draw 5) (.cond .leaf (.seq (.draw 6) (.cond (.seq .leaf .leaf) .leaf)))))) .leaf))) .leaf)))))) .leaf))))
theorem BL (a0:Option (Nat×Nat)) (s:AS) (R:AV→AS→Prop) (h:BJ a0 s R):aa Tryz.prog mM [(.ptr a0)] s R :=
 aa.q (n:=50) (rs:=[]) (A:=BK) hT bU Tryz.func264 (by kernel_rfl) rfl rfl rfl (by kernel_rfl) (by kernel_rfl) h
def JN (a0:AV) (s:AS) (R:AV→AS→Prop):Prop :=
 aW .i64 (aP T gB a0 s) fun n1=>bC fun I2 m3=>I2 m3 [(.int .i64 0)] s ∧
 ∀ m4:Nat,∀ n5:Int,∀ s6:AS,I2 m4 [(.int .i64 n5)] s6 →
 af (decide ((n5:Int)<n1))
 (bH (ag T gB a0 (.int .i64 n5)) fun l7 o8=>aW .i64 (av s6 l7 o8) fun n9=>af ((n9:Int) != 0)
 (R (.int .i64 n9) s6)
 (∃ m',m'<m4∧I2 m' [(.int .i64 (IntKind.wrap .i64 (n5+1)))] s6))
 (R (.int .i64 0) s6)
def JO:QA:=(.seq .leaf (.seq .leaf (.seq (.seq .leaf (.wrap (.loop [(8,.int .i64)] [(2,2),(5,5),(8,16)] (.seq .leaf (.seq (.cond .leaf .leaf) (.seq (.wrap (.seq .leaf (.seq .leaf (.cond (.seq .leaf .leaf) .leaf)))) .leaf)))))) (.seq .leaf .leaf))))
theorem JP (a0:AV) (s:AS) (R:AV→AS→Prop) (h:JN a0 s R):aa Tryz.prog kH [a0] s R :=
 aa.q (n:=18) (rs:=[.tmp 2]) (A:=JO) hT bU Tryz.func178 (by kernel_rfl) rfl rfl rfl (by kernel_rfl) (by kernel_rfl) h
def Aa (a0:Int) (a1:Int) (s:AS) (R:AV→AS→Prop):Prop :=
 aa Tryz.prog jS [(.int .i64 a0)] s fun v1 s2=>∃ b3:Bool,v1=.bool b3∧(aa Tryz.prog jS [(.int .i64 a1)] s2 fun v4 s5=>∃ b6:Bool,v4=.bool b6∧(af b3
 (af b6
 (R (.int .i64 0) s5)
 (R (.int .i64 (-1)) s5))
 (af b6
 (R (.int .i64 1) s5)
 (af (decide ((a0:Int)<a1))
 (R (.int .i64 (-1)) s5)
 (af (decide ((a0:Int)>a1))
 (R (.int .i64 1) s5)
 (R (.int .i64 0) s5))))))
def Ab:QA:=(.seq .leaf (.seq .leaf (.seq .leaf (.seq (.seq .leaf (.cond (.seq (.seq .leaf (.cond (.seq .leaf .leaf) .leaf)) (.seq .leaf .leaf)) .leaf)) (.seq (.seq .leaf (.cond (.seq .leaf .leaf) .leaf)) (.seq (.seq .leaf (.cond (.seq .leaf .leaf) .leaf)) (.seq (.seq .leaf (.cond (.seq .leaf .leaf) .leaf)) (.seq .leaf .leaf))))))))
theorem Ac (a0:Int) (a1:Int) (s:AS) (R:AV→AS→Prop) (h:Aa a0 a1 s R):aa Tryz.prog aO [(.int .i64 a0),(.int .i64 a1)] s R :=
 aa.q (n:=20) (rs:=[.tmp 4]) (A:=Ab) hT bU Tryz.func179 (by kernel_rfl) rfl rfl rfl (by kernel_rfl) (by kernel_rfl) h
def wF (a0:Int) (a1:Int) (s:AS) (R:AV→AS→Prop):Prop :=
 aa Tryz.prog gA [(.int .u64 a0)] s fun v1 s2=>∃ b3:Bool,v1=.bool b3∧(aa Tryz.prog gA [(.int .u64 a1)] s2 fun v4 s5=>∃ b6:Bool,v4=.bool b6∧(af b3
 (af b6
 (R (.int .i64 0) s5)
 (R (.int .i64 (-1)) s5))
 (af b6
 (R (.int .i64 1) s5)
 (af (decide ((a0:Int)<a1))
 (R (.int .i64 (-1)) s5)
 (af (decide ((a0:Int)>a1))
 (R (.int .i64 1) s5)
 (R (.int .i64 0) s5))))))
def wG:QA:=(.seq .leaf (.seq .leaf (.seq .leaf (.seq (.seq .leaf (.cond (.seq (.seq .leaf (.cond (.seq .leaf .leaf) .leaf)) (.seq .leaf .leaf)) .leaf)) (.seq (.seq .leaf (.cond (.seq .leaf .leaf) .leaf)) (.seq (.seq .leaf (.cond (.seq .leaf .leaf) .leaf)) (.seq (.seq .leaf (.cond (.seq .leaf .leaf) .leaf)) (.seq .leaf .leaf))))))))
theorem wH (a0:Int) (a1:Int) (s:AS) (R:AV→AS→Prop) (h:wF a0 a1 s R):aa Tryz.prog ez [(.int .u64 a0),(.int .u64 a1)] s R :=
 aa.q (n:=20) (rs:=[.tmp 4]) (A:=wG) hT bU Tryz.func180 (by kernel_rfl) rfl rfl rfl (by kernel_rfl) (by kernel_rfl) h
def uq (a0:Int) (s:AS) (R:AV→AS→Prop):Prop :=
 R (.bool ((a0:Int) != a0)) s
def Dr:QA:=(.seq .leaf (.seq .leaf .leaf))
theorem Ds (a0:Int) (s:AS) (R:AV→AS→Prop) (h:uq a0 s R):aa Tryz.prog jS [(.int .i64 a0)] s R :=
 aa.q (n:=6) (rs:=[.tmp 2]) (A:=Dr) hT bU Tryz.func238 (by kernel_rfl) rfl rfl rfl (by kernel_rfl) (by kernel_rfl) h
def qn (a0:Int) (s:AS) (R:AV→AS→Prop):Prop :=
 R (.bool ((a0:Int) != a0)) s
def yX:QA:=(.seq .leaf (.seq .leaf .leaf))
theorem yY (a0:Int) (s:AS) (R:AV→AS→Prop) (h:qn a0 s R):aa Tryz.prog gA [(.int .u64 a0)] s R :=
 aa.q (n:=6) (rs:=[.tmp 2]) (A:=yX) hT bU Tryz.func239 (by kernel_rfl) rfl rfl rfl (by kernel_rfl) (by kernel_rfl) h
end Go.Proofs.YtohgmogbabkkeaaGreat
end

section
namespace Go.Proofs.YtohgmogbabkkeaaGreat
open Go.Am Go.au
def aN (d:aK):List AV:=[.int .i64 d.r,.int .u64 d.c]
theorem bn (d:aK):(aN d).length=2:=rfl
theorem mT (d:aK):(aN d).all AV.one=true:=rfl
theorem sC (a:Int) (s:AS):aa Tryz.prog jS [.int .i64 a] s fun v s'=>v=.bool false∧s'=s:=by
 refine Ds _ _ _ ?_
 simp [uq]
theorem pn (a:Int) (s:AS):aa Tryz.prog gA [.int .u64 a] s fun v s'=>v=.bool false∧s'=s:=by
 refine yY _ _ _ ?_
 simp [qn]
theorem ko (a b:Int) (s:AS):aa Tryz.prog aO [.int .i64 a,.int .i64 b] s fun v s'=>v=.int .i64 (t_ a b)∧s'=s:=by
 refine Ac _ _ _ _ ?_
 refine (sC _ _).mono ?_
 rintro v s1 ⟨rfl,rfl⟩
 refine ⟨_,rfl,?_⟩
 refine (sC _ _).mono ?_
 rintro v s1 ⟨rfl,rfl⟩
 refine ⟨_,rfl,?_⟩
 simp only [gi,t_]
 grind
theorem ie (a b:Int) (s:AS):aa Tryz.prog ez [.int .u64 a,.int .u64 b] s fun v s'=>v=.int .i64 (t_ a b)∧s'=s:=by
 refine wH _ _ _ _ ?_
 refine (pn _ _).mono ?_
 rintro v s1 ⟨rfl,rfl⟩
 refine ⟨_,rfl,?_⟩
 refine (pn _ _).mono ?_
 rintro v s1 ⟨rfl,rfl⟩
 refine ⟨_,rfl,?_⟩
 simp only [gi,t_]
 grind
theorem rE (d:aK) (s:AS):aa Tryz.prog nR [.agg (aN d)] s fun v s'=>v=.bool d.may∧Ext s s':=by
 refine aa.pre fun hw=>Vm _ _ _ ⟨rfl,aj.intro hw rfl fun l s1 F=>?_⟩
 simp only [F.own.at.av,aN,List.getElem?_cons_zero,List.getElem?_cons_succ,go_sem,gi,F.ext,and_true,aK.may]
 grind
theorem Mv (d:aK) (s:AS):aa Tryz.prog xF [.agg (aN d)] s fun v s'=>v=.bool d.may∧Ext s s':=by
 refine aa.pre fun hw=>O0 _ _ _ ⟨rfl,aj.intro hw rfl fun l s1 F=>?_⟩
 simp only [F.own.at.av,aN,List.getElem?_cons_zero,List.getElem?_cons_succ,go_sem,gi,F.ext,and_true,aK.may]
 grind
end Go.Proofs.YtohgmogbabkkeaaGreat
end

section
namespace Go.Proofs.YtohgmogbabkkeaaGreat
open Go.Am Go.au
theorem iE:C5 T az iB 2 16:=⟨bG,jZ,ab4,⟨_,_,RK,rfl,rfl⟩,by decide,by decide⟩
abbrev JQ:=Sl aN 2
theorem aV {n:Int} (h:0≤n∧n≤4611686018427387904):IntKind.wrap .i64 n=n:=IntWalk.i64_in _ (by omega)
theorem sE {n:Int} (h : -4611686018427387904≤n∧n≤4611686018427387904):IntKind.wrap .i64 n=n:=IntWalk.i64_in _ (by omega)
theorem gq {n:Int} (h:0≤n∧n≤18446744073709551615):IntKind.wrap .u64 n=n:=IntWalk.u64_in _ (by omega)
theorem Vo {i j:Nat} (h:i+j≤4611686018427387904):IntKind.wrap .i64 (Int.fdiv (IntKind.wrap .u64 (IntKind.wrap .i64 ((i:Int)+(j:Int)))) (2 ^ min (Int.toNat 1) (IntKind.bits .u64)))=(((i+j) / 2:Nat):Int):=by
 rw [show IntKind.wrap .i64 ((i:Int)+(j:Int))=(i:Int)+(j:Int) from aV (by omega),gq (by omega)]
 have:(2:Int) ^ min (Int.toNat 1) (IntKind.bits .u64)=2:=by decide
 rw [this,Int.fdiv_eq_ediv_of_nonneg _ (by omega),aV (by omega)]
 omega
theorem pY (a b:Int) {s:AS} {l:Nat} (h:At s l [.int .i64 a,.int .i64 b]):aa Tryz.prog kH [.slc (some (l,0)) 2 2 true] s fun v s'=>v=.int .i64 (if a≠0 then a else b)∧s'=s:=by
 have hs:Sl (fun n:Int=>[AV.int .i64 n]) 1 s (.slc (some (l,0)) 2 2 true) [a,b]:=bZ.mk h rfl rfl
 refine JP _ _ _ ⟨_,hs.cG sx s,fun m vs s'=>∃ i:Nat,vs=[.int .i64 i]∧s'=s∧i≤2∧m=2 - i∧(0<i→a=0)∧(1<i→b=0),2,⟨0,by simp⟩,?_⟩
 rintro m n s' ⟨i,hi,rfl,h2,rfl,h3,h4⟩
 simp only [List.cons.injEq,AV.int.injEq,true_and,and_true] at hi
 subst hi
 refine af.dec (fun hlt=>?_) (fun hge=>?_)
 ·simp only [List.length_cons,List.length_nil] at hlt
  have hi2:i<2:=by omega
  obtain ⟨x,hx⟩:∃ x,[a,b][i]? = some x:=⟨_,List.getElem?_eq_getElem (by simpa using hi2)⟩
  obtain ⟨la,o,h5,h6⟩:=hs.ix (sz:=1) (by decide) (fun _=>rfl) sx K3 hx
  refine ⟨la,o,h5 _,x,(h6 _ (Ext.refl _)).1 0 (by decide),af.mk (fun hne=>?_) (fun heq=>?_)⟩
  ·refine ⟨?_,rfl⟩
   have ahq:x≠0:=by simpa using hne
   rcases (show i=0∨i=1 by omega) with rfl | rfl
   ·simp at hx;subst hx;rw [if_pos ahq]
   ·simp at hx;subst hx;rw [if_neg (by simp [h3])]
  ·have heq':x=0:=by simpa using heq
   subst heq'
   refine ⟨2 - (i+1),by omega,i+1,by rw [aV (by omega)];rfl,rfl,by omega,rfl,fun _=>?_,fun h1=>?_⟩
   ·rcases (show i=0∨i=1 by omega) with rfl | rfl
    ·simpa using hx
    ·exact h3 (by decide)
   ·rcases (show i=0∨i=1 by omega) with rfl | rfl
    ·omega
    ·simpa using hx
 ·simp only [List.length_cons,List.length_nil] at hge
  obtain rfl:i=2:=by omega
  refine ⟨?_,rfl⟩
  rw [if_neg (by simp [h3]),h4 (by decide)]
theorem vr (a b:aK) (s:AS):aa Tryz.prog cK [.agg (aN a),.agg (aN b)] s fun v s'=>v=.int .i64 (a.cmp b)∧Ext s s':=by
 refine aa.pre fun hw=>O3 _ _ _ _ ⟨rfl,aj.intro hw rfl fun l s1 F=>⟨rfl,aj.intro F.wf rfl fun l2 s2 F2=>?_⟩⟩
 have e:=F.ext.trans F2.ext
 refine ⟨fun _ _ _ _=>True,fun _ _ v=>v=.int .i64 (t_ a.r b.r),fun _ _ _ _ _ _ _=>trivial,?_⟩
 simp only [(F.own.ext F2.ext).at.av,F2.own.at.av,aN,List.getElem?_cons_zero,List.getElem?_cons_succ,go_sem]
 refine ⟨fun s7 _ _ _=>?_,⟨_,rfl⟩,?_⟩
 ·refine (ko _ _ _).mono ?_
  rintro v s' ⟨rfl,rfl⟩
  exact ⟨_,rfl,Ext.refl _,trivial,rfl⟩
 ·rintro v rfl
  refine ⟨_,rfl,fun f_ Lb _ _=>?_⟩
  refine aa.use (ie _ _ _) ?_
  rintro v s' ⟨rfl,rfl⟩ CV
  refine ⟨_,rfl,?_⟩
  have habs:cZ T gB 2 [(0,.int .i64 (t_ a.r b.r)),(1,.int .i64 (t_ a.c b.c))]=some [.int .i64 (t_ a.r b.r),.int .i64 (t_ a.c b.c)]:=by
   simp only [cZ,sx,K3,Mf,Option.bind_some,uR];rfl
  rw [habs]
  simp only [go_sem]
  refine aj.intro CV rfl fun l3 s3 F3=>?_
  refine (pY _ _ F3.own.at).mono ?_
  rintro v s' ⟨rfl,rfl⟩
  refine ⟨_,rfl,?_,e.trans (Lb.trans F3.ext)⟩
  simp only [aK.cmp]
structure xX (s:AS) (p:Nat) (v:List Int) (ex:List aK):Prop where
 len:v.length=16
 mem:∃ w,Am.Own s p (v.map (.int .u64)++[w,.bool true])∧w.one=true∧JQ s w ex
theorem xX.ext {s s':AS} {p:Nat} {v:List Int} {ex:List aK} (h:xX s p v ex) (e:Ext s s'):xX s' p v ex:=by
 obtain ⟨h1,w,h2,h3,h4⟩:=h
 exact ⟨h1,w,h2.ext e,h3,h4.ext e⟩
theorem vt {s:AS} {p:Nat} {v:List Int} {ex:List aK} (h:xX s p v ex):aa Tryz.prog iy [.ptr (some (p,0))] s fun v s'=>v=.bool true∧s'=s:=by
 obtain ⟨h1,w,h2,h3,h4⟩:=h
 refine Fq _ _ _ ?_
 unfold wo
 rw [iI xQ]
 have:(v.map (AV.int .u64)++[w,.bool true])[0+17]? = some (.bool true):=by
  rw [List.getElem?_append_right (by simp [h1])];simp [h1]
 simp only [go_sem,Option.isNone_some,Bool.not_false,h2.at.av,this,and_self]
end Go.Proofs.YtohgmogbabkkeaaGreat
end

section
namespace Go.Proofs.YtohgmogbabkkeaaGreat
open Go.Am Go.au
theorem H7 {s:AS} {v:AV} {l:List aK} (hl:JQ s v l) (hlen:l.length≤2 ^ 40) (hr:dR l) (d:aK):aa Tryz.prog ax [v,.agg (aN d),.func cK []] s
  fun r s'=>r=.aQ [.int .i64 (pos l d:Nat),.bool (decide (d∈l))]∧Ext s s':=by
 refine aa.pre fun hw=>iR _ _ _ _ _ ⟨rfl,aj.intro hw rfl fun la s2 F=>?_⟩
 refine ⟨_,hl.cG bG s2,fun vs s'=>∃ i:Nat,vs=[.int .i64 (i:Nat)]∧i≤l.length∧Ext s2 s'∧(∀ (k:Nat) x,k<i→l[k]? = some x→x.lt d=true)∧(∀ (k:Nat) x,i≤k→l[k]? = some x→x.lt d=false),?_,?_⟩
 ·rintro n5 s6 ⟨i,hi,hil,he,h1,h2⟩
  simp only [List.cons.injEq,AV.int.injEq,true_and,and_true] at hi
  subst hi
  have hp:pos l d=i:=pos_eq hil h1 fun x hx=>h2 i x (Nat.le_refl _) hx
  have hmem:=hr.mem d
  rw [hp] at hmem ⊢
  refine ⟨fun _ _ _ _=>True,fun _ _ v=>∃ x,l[i]? = some x∧v=.int .i64 (x.cmp d),fun _ _ _ _ _ _ _=>trivial,af.dec (fun hlt=>?_) (fun hge=>?_)⟩
  ·have ahr:i<l.length:=by omega
   have hx:l[i]? = some l[i]:=List.getElem?_eq_getElem ahr
   obtain ⟨la',o,h5,h6⟩:=(hl.ext (F.ext.trans he)).ix (by decide) bn bG jZ hx
   refine ⟨la',o,h5 _,_,(h6 _ (Ext.refl _)).2,_,(F.own.ext he).at.aB (by simp [aN]),fun fI QT _ _=>?_,⟨_,_,hx,rfl⟩,?_⟩
   ·refine (vr _ _ _).mono ?_
    rintro v s' ⟨rfl,e⟩
    exact ⟨_,rfl,e,trivial,_,hx,rfl⟩
   ·rintro v ⟨x,hx',rfl⟩
    rw [hx] at hx';obtain rfl:=Option.some.inj hx'
    refine ⟨_,rfl,fun lZ e17 _ _=>⟨?_,F.ext.trans (he.trans e17)⟩⟩
    congr 4
    rw [Bool.eq_iff_iff,beq_iff_eq,decide_eq_true_eq,aK.acI,← hmem,hx]
    simp
  ·have:l[i]? = none:=List.getElem?_eq_none (by omega)
   rw [this] at hmem
   have hn:¬ d∈l:=by rw [← hmem];simp
   intro iD e19 _ _
   refine ⟨?_,F.ext.trans (he.trans e19)⟩
   simp [hn]
 ·refine ⟨fun m vs s'=>∃ i j:Nat,vs=[.int .i64 (i:Nat),.int .i64 (j:Nat)]∧i≤j∧j≤l.length∧m=j - i∧Ext s2 s'∧(∀ (k:Nat) x,k<i→l[k]? = some x→x.lt d=true)∧(∀ (k:Nat) x,j≤k→l[k]? = some x→x.lt d=false),l.length,?_,?_⟩
  ·refine ⟨0,l.length,rfl,by omega,by omega,rfl,Ext.refl _,fun k x hk=>by omega,fun k x hk hx=>?_⟩
   rw [List.getElem?_eq_none hk] at hx;cases hx
  ·rintro m yN ql pX ⟨i,j,hij,h1,h2,rfl,he,h3,h4⟩
   simp only [List.cons.injEq,AV.int.injEq,true_and,and_true] at hij
   obtain ⟨rfl,rfl⟩:=hij
   refine af.dec (fun hlt=>?_) (fun hge=>?_)
   ·rw [Vo (by omega)]
    have hm1:(i+j) / 2<j:=by omega
    have hm2:i≤(i+j) / 2:=by omega
    generalize hmid:(i+j) / 2=mid at hm1 hm2
    have hx:l[mid]? = some l[mid]:=List.getElem?_eq_getElem (by omega)
    obtain ⟨la',o,h5,h6⟩:=(hl.ext (F.ext.trans he)).ix (by decide) bn bG jZ hx
    refine ⟨by decide,la',o,h5 _,_,(h6 _ (Ext.refl _)).2,_,(F.own.ext he).at.aB (by simp [aN]),?_⟩
    refine (vr _ _ _).mono ?_
    rintro v s' ⟨rfl,e⟩
    refine ⟨_,rfl,af.dec (fun hc=>?_) (fun hc=>?_)⟩
    ·rw [aK.fL] at hc
     refine ⟨j - (mid+1),by omega,mid+1,j,by rw [aV (by omega)];rfl,by omega,h2,rfl,he.trans e,fun k x hk hx'=>?_,h4⟩
     rcases Nat.lt_or_ge k mid with hk' | hk'
     ·exact aK.lt_trans (hr.lt hk' hx' hx) hc
     ·obtain rfl:k=mid:=by omega
      rw [hx] at hx';obtain rfl:=Option.some.inj hx';exact hc
    ·rw [aK.fL] at hc
     refine ⟨mid - i,by omega,i,mid,rfl,by omega,by omega,rfl,he.trans e,h3,fun k x hk hx'=>?_⟩
     cases hq:x.lt d with
     | false=>rfl
     | true =>
      exfalso
      rcases Nat.eq_or_lt_of_le hk with hk' | hk'
      ·subst hk';rw [hx] at hx';obtain rfl:=Option.some.inj hx';exact hc hq
      ·exact hc (aK.lt_trans (hr.lt hk' hx hx') hq)
   ·obtain rfl:i=j:=by omega
    exact ⟨i,rfl,by omega,he,h3,h4⟩
end Go.Proofs.YtohgmogbabkkeaaGreat
end

section
namespace Go.Proofs.YtohgmogbabkkeaaGreat.SG
open Go.Am Go.au.SG
variable {E:SE} [SQ E]
section
class rF (E:SE) (cf:FuncId):Prop where
 ok:∀ (a b:El E.O) (s:AS),aa Tryz.prog cf [.agg (E.cC a),.agg (E.cC b)] s fun v s'=>v=.int .i64 (a.cmp b)∧Ext s s'
variable {cf:FuncId} [rF E cf]
structure jL (s:AS) (a:AV) (lo:Nat) (l:List (El E.O)) (rest:List AV):Prop where
 val:∃ c e,a=.slc (some (lo,0)) l.length c e
 obj:∃ g,s.h lo=some (.cells (l.flatMap E.cC++rest) g false)
section
variable {s:AS} {a:AV} {lo:Nat} {l:List (El E.O)} {rest:List AV}
theorem rG (l:List (El E.O)):(l.flatMap E.cC).length=l.length*E.w:=dS E.len l
theorem ae2 {i n w:Nat} (h:i<n):i*w+w≤n*w:=by have:=Nat.mul_le_mul_right w h;rw [Nat.succ_mul] at this;exact this
theorem jL.mut {L:List Nat} {s':AS} (h:jL s a lo l rest) (m:bD L s s') (hL:lo ∉ L):jL s' a lo l rest:=by
 obtain ⟨h1,g,h2⟩:=h
 exact ⟨h1,g,m.1 _ _ hL h2⟩
theorem jL.ext {s':AS} (h:jL s a lo l rest) (e:Ext s s'):jL s' a lo l rest:=h.mut (L:=[]) e.mut (by simp)
theorem jL.ix (h:jL s a lo l rest) {i:Nat} (hi:i<l.length):ag T E.ys a (.int .i64 (i:Nat))=some (.ptr (some (lo,i*E.w))):=by
 obtain ⟨⟨c,e,rfl⟩,_⟩:=h
 have:(0:Int)≤(i:Int)∧(i:Int)<(l.length:Int):=by omega
 simp only [ag,E.us,E.zs,Option.bind_some]
 rw [if_pos this]
 simp
theorem jL.rd (h:jL s a lo l rest) {i:Nat} (hi:i<l.length):aB s lo (i*E.w) E.w=some (E.cC (el l i)):=by
 have hkw:=ae2 (w:=E.w) hi
 obtain ⟨_,g,h2⟩:=h
 have hat:At s lo (l.flatMap E.cC++rest):=⟨_,_,h2⟩
 rw [hat.aB (by rw [List.length_append,rG];omega)]
 rw [List.drop_append_of_le_length (by rw [rG];omega),List.take_append_of_le_length (by rw [List.length_drop,rG];omega),C4 E.len (zT hi)]
theorem YJ (l:List (El E.O)) (k:Nat) (x:El E.O) (rest:List AV) (hk:k<l.length):qJ (l.flatMap E.cC++rest) (k*E.w) (E.cC x)=(l.set k x).flatMap E.cC++rest:=by
 have hsp:l.flatMap E.cC=(l.take k).flatMap E.cC++(E.cC (l[k])++(l.drop (k+1)).flatMap E.cC):=by
  conv=>lhs;rw [← List.take_append_drop k l,List.flatMap_append,List.drop_eq_getElem_cons hk,List.flatMap_cons]
 have hl:((l.take k).flatMap E.cC).length=k*E.w:=by rw [dS E.len,List.length_take,Nat.min_eq_left (by omega)]
 have:=L6 ((l.take k).flatMap E.cC) (E.cC l[k]) (E.cC x) ((l.drop (k+1)).flatMap E.cC++rest) (by rw [E.len,E.len])
 rw [hl] at this
 rw [hsp,List.append_assoc,List.append_assoc,← List.append_assoc,this,List.set_eq_take_append_cons_drop,if_pos hk,List.flatMap_append,List.flatMap_cons,List.append_assoc,List.append_assoc,List.append_assoc]
theorem jL.wr (h:jL s a lo l rest) (hw:aM s) {i:Nat} (hi:i<l.length) (x:El E.O) {K:AS→Prop} (hk:∀ s',jL s' a lo (l.set i x) rest→aM s'→bD [lo] s s'→K s'):fj (some E.w) (E.cC x) (bu (cN s lo (i*E.w) (E.cC x)) K):=by
 have hkw:=ae2 (w:=E.w) hi
 obtain ⟨h1,g,h2⟩:=h
 refine ⟨⟨E.one _,by rw [E.len]⟩,bu.cN hw h2 (by rw [List.length_append,rG,E.len];omega) fun s' P=>hk s' ⟨?_,g,?_⟩ P.wf P.mut⟩
 ·rw [List.length_set];exact h1
 ·rw [P.at,YJ l i x rest hi]
theorem jL.swap (h:jL s a lo l rest) (hw:aM s) {i j:Nat} (hi:i<l.length) (hj:j<l.length) {K:AS→Prop} (hk:∀ s',jL s' a lo (CN l i j) rest→aM s'→bD [lo] s s'→K s') :
  bH (ag T E.ys a (.int .i64 (j:Nat))) fun CP Mo=>aR (aB s CP Mo E.w) fun CQ=>bH (ag T E.ys a (.int .i64 (i:Nat))) fun QL o24=>aR (aB s QL o24 E.w) fun Jz=>bH (ag T E.ys a (.int .i64 (i:Nat))) fun Dn Fh=>fj (some E.w) CQ (bu (cN s Dn Fh CQ) fun rA=>bH (ag T E.ys a (.int .i64 (j:Nat))) fun U_ NQ=>fj (some E.w) Jz (bu (cN rA U_ NQ Jz) fun nA=>K nA)) :=
 ⟨_,_,h.ix hj,_,h.rd hj,_,_,h.ix hi,_,h.rd hi,_,_,h.ix hi,h.wr hw hi _ fun s1 h1 w1 m1 =>
  ⟨_,_,h1.ix (by simpa using hj),h1.wr w1 (by simpa using hj) _ fun s2 h2 w2 m2=>hk s2 h2 w2 (m1.trans m2)⟩⟩
theorem jL.cmp (h:jL s a lo l rest) {i j:Nat} (hi:i<l.length) (hj:j<l.length) {K:Int→AS→Prop} (hk:∀ s',jL s' a lo l rest→aM s'→bD [lo] s s'→K ((el l i).cmp (el l j)) s') :
  bH (ag T E.ys a (.int .i64 (i:Nat))) fun Dg yU=>aR (aB s Dg yU E.w) fun wg=>bH (ag T E.ys a (.int .i64 (j:Nat))) fun lR we=>aR (aB s lR we E.w) fun EH=>en Tryz.prog (.func cf []) [(.agg wg),(.agg EH)] s fun o_ eC=>∃ z3:Int,o_=.int .i64 z3∧K z3 eC:=by
 refine ⟨_,_,h.ix hi,_,h.rd hi,_,_,h.ix hj,_,h.rd hj,?_⟩
 refine aa.use (rF.ok (E:=E) _ _ _) ?_
 rintro v s' ⟨rfl,e⟩ hw
 exact ⟨_,rfl,hk s' (h.ext e) hw e.mut⟩
end
theorem RW {s:AS} {a:AV} {lo:Nat} {l:List (El E.O)} {rest:List AV} {x y:Nat} (h:jL s a lo l rest) (hxy:x≤y) (hy:y≤l.length) (hn:l.length≤2 ^ 40) :
  aa Tryz.prog E.fm [a,.int .i64 (x:Nat),.int .i64 (y:Nat),.func cf []] s fun r s'=>r=.aQ []∧∃ l',jL s' a lo l' rest∧Sw x y l l'∧EA l' x y∧bD [lo] s s':=by
 refine aa.pre fun hw=>SQ.ic _ _ _ _ _ _ ⟨fun m vs s'=>∃ (i:Nat) (l':List (El E.O)),vs=[.int .i64 (i:Nat)]∧x+1≤i∧(i≤y∨i=x+1)∧m=y - i∧jL s' a lo l' rest∧aM s'∧Sw x y l l'∧EA l' x i∧bD [lo] s s',y - (x+1),⟨x+1,l,by rw [aV (by omega)];rfl,by omega,.inr rfl,rfl,h,hw,.refl _,fun p q h1 h2 h3=>by omega,bD.refl _ _⟩,?_⟩
 rintro m n s5 ⟨i,l1,hi,hxi,hiy,rfl,a5,w5,sw5,so5,m5⟩
 simp only [List.cons.injEq,AV.int.injEq,true_and,and_true] at hi
 subst hi
 have GJ:=sw5.len
 refine af.dec (fun hlt=>?_) (fun hge=>⟨rfl,l1,a5,sw5,fun p q h1 h2 h3=>so5 p q h1 h2 (by omega),m5⟩)
 have fin:∀ s' l',jL s' a lo l' rest→aM s'→Sw x y l l'→EA l' x (i+1)→bD [lo] s s'→∃ m',m'<y - i∧∃ (k:Nat) (l':List (El E.O)),[AV.int .i64 (IntKind.wrap .i64 ((i:Int)+1))]=[.int .i64 (k:Nat)]∧x+1≤k∧(k≤y∨k=x+1)∧m'=y - k∧jL s' a lo l' rest∧aM s'∧Sw x y l l'∧EA l' x k∧bD [lo] s s' :=
  fun s' l' h1 h2 h3 h4 h5=>⟨y - (i+1),by omega,i+1,l',by rw [aV (by omega)];rfl,by omega,.inl (by omega),rfl,h1,h2,h3,h4,h5⟩
 refine ⟨fun m vs s'=>∃ (j:Nat) (l':List (El E.O)),vs=[.int .i64 (j:Nat)]∧x≤j∧j≤i∧m=j - x∧jL s' a lo l' rest∧aM s'∧Sw x y l l'∧(∀ p q,x≤p→p<q→q≤i→q≠j→(el l' p).le (el l' q))∧bD [lo] s s',i - x,⟨i,l1,rfl,by omega,by omega,rfl,a5,w5,sw5,fun p q h1 h2 h3 h4=>so5 p q h1 h2 (by omega),m5⟩,?_⟩
 rintro m n jD ⟨j,l2,hj,hxj,hji,rfl,a10,YK,aaS,adb,Ft⟩
 simp only [List.cons.injEq,AV.int.injEq,true_and,and_true] at hj
 subst hj
 have OC:=aaS.len
 refine af.dec (fun hgt=>?_) (fun hle=>fin _ l2 a10 YK aaS (L3 hxj hji (.inl (by omega)) adb) Ft)
 rw [aV (by omega),show (j:Int) - 1=((j - 1:Nat):Int) by omega]
 refine a10.cmp (by omega) (by omega) fun eC a18 RX TS=>af.dec (fun hc=>?_) (fun hc=>fin _ l2 a18 RX aaS (L3 hxj hji (.inr (El.xw (by rw [← El.fL];exact hc))) adb) (Ft.trans TS))
 rw [El.fL] at hc
 refine a18.swap RX (by omega) (by omega) fun nA a31 NS QU=>⟨j - 1 - x,by omega,j - 1,_,rfl,by omega,by omega,rfl,a31,NS,.step aaS ⟨by omega,by omega⟩ ⟨by omega,by omega⟩ (by omega),Ox (by omega) (by omega) hji hc adb,(Ft.trans TS).trans QU⟩
end
section
variable {cf:FuncId} [rF E cf]
theorem RY {x y:Nat} (h:x+y≤4611686018427387904):IntKind.wrap .i64 ((x:Int)+(y:Int))=((x+y:Nat):Int):=by rw [aV (by omega)];omega
theorem ke {x:Nat} (h:x+1≤4611686018427387904):IntKind.wrap .i64 ((x:Int)+1)=((x+1:Nat):Int):=by rw [aV (by omega)];omega
theorem Fu {x y:Nat} (h:y≤x) (h':x≤4611686018427387904):IntKind.wrap .i64 ((x:Int) - (y:Int))=((x - y:Nat):Int):=by rw [aV (by omega)];omega
theorem kM {x:Nat} (h:1≤x) (h':x≤4611686018427387904):IntKind.wrap .i64 ((x:Int) - 1)=((x - 1:Nat):Int):=by rw [aV (by omega)];omega
theorem ae3 {x:Nat} (h:2*x≤4611686018427387904):IntKind.wrap .i64 (2*(x:Int))=((2*x:Nat):Int):=by rw [aV (by omega)];omega
theorem YL (x k:Nat):Int.tdiv (x:Int) (k:Int)=((x / k:Nat):Int):=rfl
theorem wid {x:Nat} (h:x≤4611686018427387904):IntKind.wrap .i64 (x:Int)=(x:Int):=aV (by omega)
theorem EK {s:AS} {a:AV} {lo:Nat} {l:List (El E.O)} {rest:List AV} {k n f:Nat} (h:jL s a lo l rest) (hl:f+n≤l.length) (hn:l.length≤2 ^ 40) (hk:k≤2 ^ 40) (hh:EY l f n (k+1)) :
  aa Tryz.prog E.iY [a,.int .i64 (k:Nat),.int .i64 (n:Nat),.int .i64 (f:Nat),.func cf []] s fun r s'=>r=.aQ []∧∃ l',jL s' a lo l' rest∧Sw f (f+n) l l'∧EY l' f n k∧bD [lo] s s':=by
 refine aa.pre fun hw=>SQ.sB _ _ _ _ _ _ _ ⟨fun m vs s'=>∃ (root:Nat) (l':List (El E.O)),vs=[.int .i64 (root:Nat)]∧root≤n+k∧m=n+k - root∧jL s' a lo l' rest∧aM s'∧Sw f (f+n) l l'∧RA l' f n k root∧bD [lo] s s',n+k - k,⟨k,l,rfl,by omega,rfl,h,hw,.refl _,hh.agU,bD.refl _ _⟩,?_⟩
 rintro m n4 s5 ⟨root,l1,hi,hrt,rfl,a5,w5,sw5,sf5,m5⟩
 simp only [List.cons.injEq,AV.int.injEq,true_and,and_true] at hi
 subst hi
 have GJ:=sw5.len
 rw [ae3 (by omega),ke (by omega)]
 refine af.dec (fun hge=>⟨rfl,l1,a5,sw5,sf5.done fun c h0 hc hp=>by omega,m5⟩) (fun hlt=>?_)
 refine ⟨fun vs s'=>∃ child:Nat,vs=[.int .i64 (child:Nat)]∧(child=2*root+1∨child=2*root+2)∧child<n∧jL s' a lo l1 rest∧aM s'∧bD [lo] s s'∧(∀ c,0<c→c<n→(c - 1) / 2=root→(el l1 (f+c)).le (el l1 (f+child))),?_,?_⟩
 ·rintro n7 s8 ⟨child,hc,hch,hcn,a8,w8,m8,Ux⟩
  simp only [List.cons.injEq,AV.int.injEq,true_and,and_true] at hc
  subst hc
  rw [RY (by omega),RY (by omega)]
  refine a8.cmp (by omega) (by omega) fun kr a16 w16 m16=>?_
  refine af.mk (fun hc=>?_) (fun hc=>?_)
  ·have hle:=El.xw (show ¬ (el l1 (f+root)).lt (el l1 (f+child))=true by rw [← El.fL];simpa using hc)
   exact ⟨rfl,l1,a16,sw5,sf5.done fun c h0 hc hp=>El.le_trans (Ux c h0 hc hp) hle,m8.trans m16⟩
  ·have Uv:(el l1 (f+root)).lt (el l1 (f+child))=true:=by rw [← El.fL];simpa using hc
   refine a16.swap w16 (by omega) (by omega) fun z4 a29 w29 m29=>⟨n+k - child,by omega,child,_,rfl,by omega,rfl,a29,w29,.step sw5 ⟨by omega,by omega⟩ ⟨by omega,by omega⟩ (by omega),sf5.step (by omega) hch hcn Uv Ux,(m8.trans m16).trans m29⟩
 ·refine ⟨fun vs s'=>∃ t,vs=[.bool t]∧jL s' a lo l1 rest∧aM s'∧bD [lo] s s'∧(t=true→2*root+2<n∧(el l1 (f+(2*root+1))).lt (el l1 (f+(2*root+2)))=true)∧(t=false→2*root+2<n→(el l1 (f+(2*root+2))).le (el l1 (f+(2*root+1)))),?_,?_⟩
  ·rintro b lS ⟨t,ht,a32,YM,m32,h1,h2⟩
   simp only [List.cons.injEq,AV.bool.injEq,and_true] at ht
   subst ht
   refine af.mk (fun hb=>?_) (fun hb=>?_)
   ·obtain ⟨h3,h4⟩:=h1 hb
    rw [ke (by omega)]
    refine ⟨2*root+2,rfl,.inr rfl,h3,a32,YM,m32,fun c h0 hc hp=>?_⟩
    rcases (show c=2*root+1∨c=2*root+2 by omega) with rfl | rfl
    ·exact El.Bn h4
    ·exact El.le_refl _
   ·refine ⟨2*root+1,rfl,.inl rfl,by omega,a32,YM,m32,fun c h0 hc hp=>?_⟩
    rcases (show c=2*root+1∨c=2*root+2 by omega) with rfl | rfl
    ·exact El.le_refl _
    ·exact h2 hb hc
  ·rw [ke (by omega)]
   refine af.dec (fun Uv=>?_) (fun hge=>⟨false,rfl,a5,w5,m5,by simp,fun _ h=>by omega⟩)
   rw [RY (by omega),ke (by omega)]
   refine a5.cmp (by omega) (by omega) fun GP a40 w40 m40=>⟨_,rfl,a40,w40,m5.trans m40,fun h=>⟨by omega,?_⟩,fun h _=>?_⟩
   ·have:=of_decide_eq_true h
    rw [El.fL] at this
    exact this
   ·have:=of_decide_eq_false h
    rw [El.fL] at this
    exact El.xw this
theorem O4 {s:AS} {a:AV} {lo:Nat} {l:List (El E.O)} {rest:List AV} {x y:Nat} (h:jL s a lo l rest) (hxy:x<y) (hy:y≤l.length) (hn:l.length≤2 ^ 40) :
  aa Tryz.prog E.mP [a,.int .i64 (x:Nat),.int .i64 (y:Nat),.func cf []] s fun r s'=>r=.aQ []∧∃ l',jL s' a lo l' rest∧Sw x y l l'∧EA l' x y∧bD [lo] s s':=by
 refine aa.pre fun hw=>SQ.sA _ _ _ _ _ _ ⟨fun vs s'=>∃ l',jL s' a lo l' rest∧aM s'∧Sw x y l l'∧EY l' x (y - x) 0∧bD [lo] s s',?_,by decide,?_⟩
 ·rintro s2 ⟨l1,a2,w2,sw2,hp2,m2⟩
  have GJ:=sw2.len
  rw [Fu (by omega) (by omega),kM (by omega) (by omega)]
  refine ⟨fun m vs s'=>∃ (i:Nat) (l':List (El E.O)),vs=[.int .i64 ((i:Int) - 1)]∧i≤y - x∧m=2*i∧jL s' a lo l' rest∧aM s'∧Sw x y l l'∧EY l' x i 0∧RB l' x y i∧bD [lo] s s',2*(y - x),⟨y - x,l1,by congr 2;omega,by omega,rfl,a2,w2,sw2,hp2,fun p q _ _ _ _=>by omega,m2⟩,?_⟩
  rintro m n6 s7 ⟨i,l2,hi,hiy,rfl,a7,w7,sw7,hp7,tl7,m7⟩
  simp only [List.cons.injEq,AV.int.injEq,true_and,and_true] at hi
  subst hi
  have OC:=sw7.len
  refine af.dec (fun hge=>?_) (fun hlt=>?_)
  ·obtain ⟨j,rfl⟩:∃ j,i=j+1:=⟨i - 1,by omega⟩
   rw [show (((j+1:Nat):Int) - 1)=(j:Int) by omega,RY (by omega)]
   obtain ⟨t1,t2⟩:=tl7.swap (n:=j) (by omega) (by omega) hp7
   refine a7.swap w7 (by omega) (by omega) fun rO a23 YN Mp=>?_
   have ahs:Sw x y l (CN l2 x (x+j)):=.step sw7 ⟨by omega,by omega⟩ ⟨by omega,by omega⟩ (by omega)
   refine aa.use (EK (k:=0) (n:=j) (f:=x) a23 (by rw [GF];omega) (by rw [GF];omega) (by omega) t2) ?_
   rintro r dM ⟨rfl,l3,a25,ae4,aht,m25⟩ H8
   refine ⟨rfl,2*j,by omega,j,l3,by rw [sE (by omega)],by omega,rfl,a25,H8,ahs.trans (ae4.ab0 (Nat.le_refl _) (by omega) (by rw [GF];omega)),aht,t1.sw ae4,(m7.trans Mp).trans m25⟩
  ·obtain rfl:i=0:=by omega
   exact ⟨rfl,l2,a7,sw7,fun p q h1 h2 h3=>tl7 p q h1 h2 h3 (by omega),m7⟩
 ·rw [Fu (by omega) (by omega),kM (by omega) (by omega),show (2:Int)=((2:Nat):Int) by rfl,YL,wid (by omega)]
  refine ⟨fun m vs s'=>∃ (i:Nat) (l':List (El E.O)),vs=[.int .i64 ((i:Int) - 1)]∧i≤y - x∧m=2*i∧jL s' a lo l' rest∧aM s'∧Sw x y l l'∧EY l' x (y - x) i∧bD [lo] s s',2*((y - x - 1) / 2+1),⟨(y - x - 1) / 2+1,l,by congr 2;omega,by omega,rfl,h,hw,.refl _,fun c _ _ _=>by omega,bD.refl _ _⟩,?_⟩
  rintro m La kL ⟨i,l2,hi,hiy,rfl,a30,NT,ade,ae5,WW⟩
  simp only [List.cons.injEq,AV.int.injEq,true_and,and_true] at hi
  subst hi
  have OC:=ade.len
  refine af.dec (fun hge=>?_) (fun hlt=>?_)
  ·obtain ⟨j,rfl⟩:∃ j,i=j+1:=⟨i - 1,by omega⟩
   rw [show (((j+1:Nat):Int) - 1)=(j:Int) by omega]
   refine aa.use (EK (k:=j) (n:=y - x) (f:=x) a30 (by omega) (by omega) (by omega) ae5) ?_
   rintro r lS ⟨rfl,l3,a32,ae6,aaT,m32⟩ YM
   refine ⟨rfl,2*j,by omega,j,l3,by rw [sE (by omega)],by omega,rfl,a32,YM,ade.trans (by rw [show x+(y - x)=y by omega] at ae6;exact ae6),aaT,WW.trans m32⟩
  ·obtain rfl:i=0:=by omega
   exact ⟨l2,a30,NT,ade,ae5,WW⟩
end
section
variable {cf:FuncId} [rF E cf]
theorem RZ {s:AS} {a:AV} {lo:Nat} {l:List (El E.O)} {rest:List AV} {x y:Nat} (h:jL s a lo l rest) (hxy:x<y) (hy:y≤l.length) (hn:l.length≤2 ^ 40) :
  aa Tryz.prog E.iO [a,.int .i64 (x:Nat),.int .i64 (y:Nat),.func cf []] s fun r s'=>r=.aQ []∧∃ l',jL s' a lo l' rest∧Sw x y l l'∧bD [lo] s s':=by
 refine aa.pre fun hw=>SQ.nC _ _ _ _ _ _ ⟨fun m vs s'=>∃ (i j:Nat) (l':List (El E.O)),vs=[.int .i64 (i:Nat),.int .i64 (j:Nat)]∧x≤i∧j<y∧i≤j+1∧m=j+1 - i∧jL s' a lo l' rest∧aM s'∧Sw x y l l'∧bD [lo] s s',y - 1+1 - x,⟨x,y - 1,l,by rw [kM (by omega) (by omega)],by omega,by omega,by omega,rfl,h,hw,.refl _,bD.refl _ _⟩,?_⟩
 rintro m n4 n5 s6 ⟨i,j,l1,hij,hx,hj,hle,rfl,a6,w6,sw6,m6⟩
 simp only [List.cons.injEq,AV.int.injEq,true_and,and_true] at hij
 obtain ⟨rfl,rfl⟩:=hij
 have GJ:=sw6.len
 refine af.dec (fun hlt=>?_) (fun hge=>⟨rfl,l1,a6,sw6,m6⟩)
 refine a6.swap w6 (by omega) (by omega) fun eC a18 RX TS=>?_
 rw [ke (by omega),kM (by omega) (by omega)]
 exact ⟨j - 1+1 - (i+1),by omega,i+1,j - 1,_,rfl,by omega,by omega,by omega,rfl,a18,RX,.step sw6 ⟨by omega,by omega⟩ ⟨by omega,by omega⟩ (by omega),m6.trans TS⟩
structure Lc (L G:El E.O→El E.O→Prop) (s:AS) (a:AV) (lo:Nat) (rest:List AV) (l:List (El E.O)) (x y:Nat) (s':AS) (l':List (El E.O)) (i j:Nat):Prop where
 arr:jL s' a lo l' rest
 wf:aM s'
 sw:Sw x y l l'
 rQ:L4 L G l' x y i j
 eG:bD [lo] s s'
theorem Lc.to {L G:El E.O→El E.O→Prop} {s:AS} {a:AV} {lo:Nat} {rest:List AV} {l:List (El E.O)} {x y:Nat} {s' s'':AS} {l':List (El E.O)} {i j i' j':Nat} (h:Lc L G s a lo rest l x y s' l' i j) (ha:jL s'' a lo l' rest) (hw:aM s'') (m:bD [lo] s' s'') (hp:L4 L G l' x y i' j'):Lc L G s a lo rest l x y s'' l' i' j' :=
 ⟨ha,hw,h.sw,hp,h.eG.trans m⟩
theorem Mw {s:AS} {a:AV} {lo:Nat} {l:List (El E.O)} {rest:List AV} {x y p:Nat} (h:jL s a lo l rest) (hp:x≤p∧p<y) (hy:y≤l.length) (hn:l.length≤2 ^ 40) :
  aa Tryz.prog E.lE [a,.int .i64 (x:Nat),.int .i64 (y:Nat),.int .i64 (p:Nat),.func cf []] s fun r s'=>∃ (m:Nat) (b:Bool) (l':List (El E.O)),r=.aQ [.int .i64 (m:Nat),.bool b]∧jL s' a lo l' rest∧Sw x y l l'∧HH l' x y m∧bD [lo] s s':=by
 refine aa.pre fun hw=>SQ.rB _ _ _ _ _ _ _ ?_
 refine h.swap hw (by omega) (by omega) fun dg a12 GV m12=>?_
 have adf:Sw x y l (CN l x p):=.step (.refl _) ⟨by omega,by omega⟩ hp hy
 have fin:∀ s' l' i j,Lc Lt Ge s a lo rest l x y s' l' i j→j<i→∀ s'' ,jL s'' a lo (CN l' j x) rest→bD [lo] s' s''→∀ b:Bool,∃ (m:Nat) (b':Bool) (l':List (El E.O)),AV.aQ [.int .i64 (j:Nat),.bool b]=.aQ [.int .i64 (m:Nat),.bool b']∧jL s'' a lo l' rest∧Sw x y l l'∧HH l' x y m∧bD [lo] s s'':=by
  intro s' l' i j st hij s'' a2 m2 b
  have:=st.rQ.ij
  have:=st.rQ.xi
  have:=st.rQ.jy
  have hl':=st.sw.len
  exact ⟨j,b,_,rfl,a2,.step st.sw ⟨by omega,by omega⟩ ⟨by omega,by omega⟩ (by omega),st.rQ.fin (by omega) hij,st.eG.trans m2⟩
 have ngt:∀ {u v:El E.O},¬ u.cmp v<0→Ge u v:=fun h=>El.xw (by rw [← El.fL];exact h)
 have ylt:∀ {u v:El E.O},u.cmp v<0→Lt u v:=fun h=>El.fL.1 h
 refine ⟨fun vs s'=>∃ (i:Nat) (l':List (El E.O)),vs=[.int .i64 (i:Nat)]∧Lc Lt Ge s a lo rest l x y s' l' i (y - 1)∧(i≤y - 1→Ge (el l' i) (el l' x)),?_,?_⟩
 ·rintro vp f_ ⟨i,l1,hi,aaU,z5⟩
  simp only [List.cons.injEq,AV.int.injEq,true_and,and_true] at hi
  subst hi
  have GJ:=aaU.sw.len
  have hxi:=aaU.rQ.xi
  have hiy:=aaU.rQ.ij
  refine ⟨fun vs s'=>∃ j:Nat,vs=[.int .i64 (j:Nat)]∧Lc Lt Ge s a lo rest l x y s' l1 i j∧(i≤j→Lt (el l1 j) (el l1 x)),?_,?_⟩
  ·rintro yL eC ⟨j,hj,yZ,xY⟩
   simp only [List.cons.injEq,AV.int.injEq,true_and,and_true] at hj
   subst hj
   have hjy:=yZ.rQ.jy
   have hij:=yZ.rQ.ij
   refine af.dec (fun hgt=>?_) (fun hle=>?_)
   ·refine yZ.arr.swap yZ.wf (by omega) (by omega) fun kL a30 NT WW=>fin _ _ _ _ yZ (by omega) _ a30 WW true
   ·have hne:i≠j:=by
     rintro rfl
     have h1:=z5 (by omega)
     have h2:=xY (by omega)
     rw [Lt] at h2;rw [Ge,El.le] at h1
     rw [h1] at h2;cases h2
    refine yZ.arr.swap yZ.wf (by omega) (by omega) fun K7 a42 w42 m42=>?_
    have ahu:Lc Lt Ge s a lo rest l x y K7 (CN l1 i j) (i+1) (j - 1):=⟨a42,w42,.step yZ.sw ⟨by omega,by omega⟩ ⟨by omega,by omega⟩ (by omega),yZ.rQ.swap (by omega) (by omega) (xY (by omega)) (z5 (by omega)),yZ.eG.trans m42⟩
    refine ⟨fun vs s'=>∃ (i j:Nat) (l':List (El E.O)),vs=[.int .i64 (j:Nat)]∧j<i∧Lc Lt Ge s a lo rest l x y s' l' i j,?_,?_⟩
    ·rintro n44 xW ⟨i',j',l',hj',ahv,Vp⟩
     simp only [List.cons.injEq,AV.int.injEq,true_and,and_true] at hj'
     subst hj'
     have:=Vp.rQ.jy
     have:=Vp.rQ.xi
     have:=Vp.sw.len
     refine Vp.arr.swap Vp.wf (by omega) (by omega) fun WK a57 w57 m57=>fin _ _ _ _ Vp ahv _ a57 m57 false
    ·rw [ke (by omega),kM (by omega) (by omega)]
     refine ⟨fun m vs s'=>∃ (i j:Nat) (l':List (El E.O)),vs=[.int .i64 (i:Nat),.int .i64 (j:Nat)]∧m=j+1 - i∧Lc Lt Ge s a lo rest l x y s' l' i j,_,⟨i+1,j - 1,_,rfl,rfl,ahu⟩,?_⟩
     rintro m EJ WS A3 ⟨i2,j2,l2,R1,rfl,YO⟩
     simp only [List.cons.injEq,AV.int.injEq,true_and,and_true] at R1
     obtain ⟨rfl,rfl⟩:=R1
     have OC:=YO.sw.len
     have hx2:=YO.rQ.xi
     have ahw:=YO.rQ.jy
     have R1:=YO.rQ.ij
     refine ⟨fun vs s'=>∃ (i:Nat),vs=[.int .i64 (i:Nat)]∧i2≤i∧Lc Lt Ge s a lo rest l x y s' l2 i j2∧(i≤j2→Ge (el l2 i) (el l2 x)),?_,?_⟩
     ·rintro n65 Mt ⟨i3,GG,R3,adg,g66⟩
      simp only [List.cons.injEq,AV.int.injEq,true_and,and_true] at GG
      subst GG
      have hx3:=adg.rQ.xi
      have ahx:=adg.rQ.ij
      refine ⟨fun vs s'=>∃ j:Nat,vs=[.int .i64 (j:Nat)]∧j≤j2∧Lc Lt Ge s a lo rest l x y s' l2 i3 j∧(i3≤j→Lt (el l2 j) (el l2 x)),?_,?_⟩
      ·rintro Jj Vd ⟨j3,TU,R4,O5,g69⟩
       simp only [List.cons.injEq,AV.int.injEq,true_and,and_true] at TU
       subst TU
       have aaV:=O5.rQ.jy
       have ahy:=O5.rQ.ij
       refine af.dec (fun hgt=>⟨i3,j3,l2,rfl,by omega,O5⟩) (fun hle=>?_)
       have hne:i3≠j3:=by
        rintro rfl
        have h1:=g66 (by omega)
        have h2:=g69 (by omega)
        rw [Lt] at h2;rw [Ge,El.le] at h1
        rw [h1] at h2;cases h2
       refine O5.arr.swap O5.wf (by omega) (by omega) fun s81 a81 w81 m81=>?_
       rw [ke (by omega),kM (by omega) (by omega)]
       exact ⟨j3 - 1+1 - (i3+1),by omega,i3+1,j3 - 1,_,rfl,rfl,a81,w81,.step O5.sw ⟨by omega,by omega⟩ ⟨by omega,by omega⟩ (by omega),O5.rQ.swap (by omega) (by omega) (g69 (by omega)) (g66 (by omega)),O5.eG.trans m81⟩
      ·refine ⟨fun m vs s'=>∃ j:Nat,vs=[.int .i64 (j:Nat)]∧j≤j2∧m=2*j∧Lc Lt Ge s a lo rest l x y s' l2 i3 j,2*j2,⟨j2,rfl,by omega,rfl,adg⟩,?_⟩
       rintro m RR OX ⟨j3,TU,R4,rfl,R5⟩
       simp only [List.cons.injEq,AV.int.injEq,true_and,and_true] at TU
       subst TU
       have aaV:=R5.rQ.jy
       refine af.dec (fun hle=>?_) (fun hgt=>⟨j3,rfl,R4,R5,fun h=>by omega⟩)
       refine R5.arr.cmp (by omega) (by omega) fun s94 a94 w94 m94=>af.mk (fun hc=>?_) (fun hc=>?_)
       ·have rN:=ngt (by simpa using hc)
        rw [kM (by omega) (by omega)]
        exact ⟨2*(j3 - 1),by omega,j3 - 1,rfl,by omega,rfl,R5.to a94 w94 m94 (R5.rQ.right (by omega) rN)⟩
       ·have rN:=ylt (by simpa using hc)
        exact ⟨j3,rfl,R4,R5.to a94 w94 m94 R5.rQ,fun _=>rN⟩
     ·refine ⟨fun m vs s'=>∃ i:Nat,vs=[.int .i64 (i:Nat)]∧i2≤i∧m=y - i∧Lc Lt Ge s a lo rest l x y s' l2 i j2,y - i2,⟨i2,rfl,by omega,rfl,YO⟩,?_⟩
      rintro m n99 Ve ⟨i3,GG,R3,rfl,H9⟩
      simp only [List.cons.injEq,AV.int.injEq,true_and,and_true] at GG
      subst GG
      have hx3:=H9.rQ.xi
      refine af.dec (fun hle=>?_) (fun hgt=>⟨i3,rfl,R3,H9,fun h=>by omega⟩)
      refine H9.arr.cmp (by omega) (by omega) fun ac7 ae7 ae8 ae9=>af.dec (fun hc=>?_) (fun hc=>?_)
      ·rw [ke (by omega)]
       exact ⟨y - (i3+1),by omega,i3+1,rfl,by omega,rfl,H9.to ae7 ae8 ae9 (H9.rQ.left (by omega) (ylt hc))⟩
      ·exact ⟨i3,rfl,R3,H9.to ae7 ae8 ae9 H9.rQ,fun _=>ngt hc⟩
  ·rw [kM (by omega) (by omega)]
   refine ⟨fun m vs s'=>∃ j:Nat,vs=[.int .i64 (j:Nat)]∧m=2*j∧Lc Lt Ge s a lo rest l x y s' l1 i j,2*(y - 1),⟨y - 1,rfl,rfl,aaU⟩,?_⟩
   rintro m RS Mu ⟨j3,TU,rfl,H_⟩
   simp only [List.cons.injEq,AV.int.injEq,true_and,and_true] at TU
   subst TU
   have aaV:=H_.rQ.jy
   refine af.dec (fun hle=>?_) (fun hgt=>⟨j3,rfl,H_,fun h=>by omega⟩)
   refine H_.arr.cmp (by omega) (by omega) fun ac9 ae_ afa afb=>af.mk (fun hc=>?_) (fun hc=>?_)
   ·have rN:=ngt (by simpa using hc)
    rw [kM (by omega) (by omega)]
    exact ⟨2*(j3 - 1),by omega,j3 - 1,rfl,rfl,H_.to ae_ afa afb (H_.rQ.right (by omega) rN)⟩
   ·have rN:=ylt (by simpa using hc)
    exact ⟨j3,rfl,H_.to ae_ afa afb H_.rQ,fun _=>rN⟩
 ·rw [ke (by omega),kM (by omega) (by omega)]
  refine ⟨fun m vs s'=>∃ i:Nat,vs=[.int .i64 (i:Nat)]∧m=y - i∧Lc Lt Ge s a lo rest l x y s' (CN l x p) i (y - 1),y - (x+1),⟨x+1,rfl,rfl,a12,GV,adf,L4.start (by omega),m12⟩,?_⟩
  rintro m RT Vf ⟨i3,GG,rfl,EL⟩
  simp only [List.cons.injEq,AV.int.injEq,true_and,and_true] at GG
  subst GG
  have hx3:=EL.rQ.xi
  have hl3:=EL.sw.len
  refine af.dec (fun hle=>?_) (fun hgt=>⟨i3,_,rfl,EL,fun h=>by omega⟩)
  refine EL.arr.cmp (by omega) (by omega) fun ada afc afd afe=>af.dec (fun hc=>?_) (fun hc=>?_)
  ·rw [ke (by omega)]
   exact ⟨y - (i3+1),by omega,i3+1,rfl,rfl,EL.to afc afd afe (EL.rQ.left (by omega) (ylt hc))⟩
  ·exact ⟨i3,_,rfl,EL.to afc afd afe EL.rQ,fun _=>ngt hc⟩
end
section
variable {cf:FuncId} [rF E cf]
theorem Vq {s:AS} {a:AV} {lo:Nat} {l:List (El E.O)} {rest:List AV} {x y p:Nat} (h:jL s a lo l rest) (hp:x≤p∧p<y) (hy:y≤l.length) (hn:l.length≤2 ^ 40) :
  aa Tryz.prog E.gG [a,.int .i64 (x:Nat),.int .i64 (y:Nat),.int .i64 (p:Nat),.func cf []] s fun r s'=>∃ (i j:Nat) (l':List (El E.O)),r=.int .i64 (i:Nat)∧jL s' a lo l' rest∧Sw x y l l'∧L4 Le' Gt' l' x y i j∧j<i∧el l' x=el l p∧bD [lo] s s':=by
 refine aa.pre fun hw=>SQ.lU _ _ _ _ _ _ _ ?_
 refine h.swap hw (by omega) (by omega) fun dg a12 GV m12=>?_
 have adf:Sw x y l (CN l x p):=.step (.refl _) ⟨by omega,by omega⟩ hp hy
 have ahz:el (CN l x p) x=el l p:=by
  rw [mB (by omega) (by omega)]
  split
  ·rename_i e;rw [e]
  ·rw [if_pos rfl]
 have ngt:∀ {u v:El E.O},¬ u.cmp v<0→Le' v u:=fun h=>El.xw (by rw [← El.fL];exact h)
 have ylt:∀ {u v:El E.O},u.cmp v<0→Gt' v u:=fun h=>El.fL.1 h
 rw [ke (by omega),kM (by omega) (by omega)]
 refine ⟨fun m vs s'=>∃ (i j:Nat) (l':List (El E.O)),vs=[.int .i64 (i:Nat),.int .i64 (j:Nat)]∧m=j+1 - i∧Lc Le' Gt' s a lo rest l x y s' l' i j∧el l' x=el l p,_,⟨x+1,y - 1,_,rfl,rfl,⟨a12,GV,adf,L4.start (by omega),m12⟩,ahz⟩,?_⟩
 rintro m vg yL eC ⟨i2,j2,l2,R1,rfl,yZ,aff⟩
 simp only [List.cons.injEq,AV.int.injEq,true_and,and_true] at R1
 obtain ⟨rfl,rfl⟩:=R1
 have OC:=yZ.sw.len
 have hx2:=yZ.rQ.xi
 have ahw:=yZ.rQ.jy
 have R1:=yZ.rQ.ij
 refine ⟨fun vs s'=>∃ (i:Nat),vs=[.int .i64 (i:Nat)]∧i2≤i∧Lc Le' Gt' s a lo rest l x y s' l2 i j2∧(i≤j2→Gt' (el l2 i) (el l2 x)),?_,?_⟩
 ·rintro Dk gn ⟨i3,GG,R3,Vr,wC⟩
  simp only [List.cons.injEq,AV.int.injEq,true_and,and_true] at GG
  subst GG
  have hx3:=Vr.rQ.xi
  have ahx:=Vr.rQ.ij
  refine ⟨fun vs s'=>∃ j:Nat,vs=[.int .i64 (j:Nat)]∧j≤j2∧Lc Le' Gt' s a lo rest l x y s' l2 i3 j∧(i3≤j→Le' (el l2 j) (el l2 x)),?_,?_⟩
  ·rintro uj qx ⟨j3,TU,R4,Ia,wh⟩
   simp only [List.cons.injEq,AV.int.injEq,true_and,and_true] at TU
   subst TU
   have aaV:=Ia.rQ.jy
   have ahy:=Ia.rQ.ij
   refine af.dec (fun hgt=>⟨i3,j3,l2,rfl,Ia.arr,Ia.sw,Ia.rQ,by omega,aff,Ia.eG⟩) (fun hle=>?_)
   have hne:i3≠j3:=by
    rintro rfl
    have h1:=wC (by omega)
    have h2:=wh (by omega)
    rw [Gt'] at h1;rw [Le',El.le] at h2
    rw [h2] at h1;cases h1
   refine Ia.arr.swap Ia.wf (by omega) (by omega) fun oI a36 w36 m36=>?_
   rw [ke (by omega),kM (by omega) (by omega)]
   exact ⟨j3 - 1+1 - (i3+1),by omega,i3+1,j3 - 1,_,rfl,rfl,⟨a36,w36,.step Ia.sw ⟨by omega,by omega⟩ ⟨by omega,by omega⟩ (by omega),Ia.rQ.swap (by omega) (by omega) (wh (by omega)) (wC (by omega)),Ia.eG.trans m36⟩,by rw [mB (by omega) (by omega),if_neg (by omega),if_neg (by omega)];exact aff⟩
  ·refine ⟨fun m vs s'=>∃ j:Nat,vs=[.int .i64 (j:Nat)]∧j≤j2∧m=2*j∧Lc Le' Gt' s a lo rest l x y s' l2 i3 j,2*j2,⟨j2,rfl,by omega,rfl,Vr⟩,?_⟩
   rintro m TQ Fj ⟨j3,TU,R4,rfl,R6⟩
   simp only [List.cons.injEq,AV.int.injEq,true_and,and_true] at TU
   subst TU
   have aaV:=R6.rQ.jy
   refine af.dec (fun hle=>?_) (fun hgt=>⟨j3,rfl,R4,R6,fun h=>by omega⟩)
   refine R6.arr.cmp (by omega) (by omega) fun z6 a49 w49 Vs=>af.dec (fun hc=>?_) (fun hc=>?_)
   ·rw [kM (by omega) (by omega)]
    exact ⟨2*(j3 - 1),by omega,j3 - 1,rfl,by omega,rfl,R6.to a49 w49 Vs (R6.rQ.right (by omega) (ylt hc))⟩
   ·exact ⟨j3,rfl,R4,R6.to a49 w49 Vs R6.rQ,fun _=>ngt hc⟩
 ·refine ⟨fun m vs s'=>∃ i:Nat,vs=[.int .i64 (i:Nat)]∧i2≤i∧m=y - i∧Lc Le' Gt' s a lo rest l x y s' l2 i j2,y - i2,⟨i2,rfl,by omega,rfl,yZ⟩,?_⟩
  rintro m YD JC ⟨i3,GG,R3,rfl,R7⟩
  simp only [List.cons.injEq,AV.int.injEq,true_and,and_true] at GG
  subst GG
  have hx3:=R7.rQ.xi
  refine af.dec (fun hle=>?_) (fun hgt=>⟨i3,rfl,R3,R7,fun h=>by omega⟩)
  refine R7.arr.cmp (by omega) (by omega) fun A3 a63 w63 m63=>af.mk (fun hc=>?_) (fun hc=>?_)
  ·have rN:=ngt (by simpa using hc)
   rw [ke (by omega)]
   exact ⟨y - (i3+1),by omega,i3+1,rfl,by omega,rfl,R7.to a63 w63 m63 (R7.rQ.left (by omega) rN)⟩
  ·have rN:=ylt (by simpa using hc)
   exact ⟨i3,rfl,R3,R7.to a63 w63 m63 R7.rQ,fun _=>rN⟩
structure GW (s:AS) (a:AV) (lo:Nat) (rest:List AV) (l:List (El E.O)) (x y:Nat) (s':AS) (l':List (El E.O)):Prop where
 arr:jL s' a lo l' rest
 wf:aM s'
 sw:Sw x y l l'
 eG:bD [lo] s s'
theorem GW.to {s:AS} {a:AV} {lo:Nat} {rest:List AV} {l:List (El E.O)} {x y:Nat} {s' s'':AS} {l':List (El E.O)} (h:GW s a lo rest l x y s' l') (ha:jL s'' a lo l' rest) (hw:aM s'') (m:bD [lo] s' s''):GW s a lo rest l x y s'' l':=⟨ha,hw,h.sw,h.eG.trans m⟩
theorem GW.swap {s:AS} {a:AV} {lo:Nat} {rest:List AV} {l:List (El E.O)} {x y:Nat} {s' s'':AS} {l':List (El E.O)} {i j:Nat} (h:GW s a lo rest l x y s' l') (hy:y≤l.length) (hi:x≤i∧i<y) (hj:x≤j∧j<y) (ha:jL s'' a lo (CN l' i j) rest) (hw:aM s'') (m:bD [lo] s' s''):GW s a lo rest l x y s'' (CN l' i j) :=
 ⟨ha,hw,.step h.sw hi hj (by rw [h.sw.len];exact hy),h.eG.trans m⟩
theorem YP {l:List (El E.O)} {x i:Nat} (h:EA l x i) (hx:x<i) (hle:(el l (i - 1)).le (el l i)):EA l x (i+1):=by
 intro p q h1 h2 h3
 by_cases e:q=i
 ·subst e
  by_cases e2:p=q - 1
  ·rw [e2];exact hle
  ·exact El.le_trans (h p (q - 1) h1 (by omega) (by omega)) hle
 ·exact h p q h1 h2 (by omega)
theorem YQ {l l':List (El E.O)} {x y:Nat} (h:Sw x y l l') (Mx:0<x→∀ q,x≤q→q<y→(el l (x - 1)).le (el l q)):0<x→∀ q,x≤q→q<y→(el l' (x - 1)).le (el l' q):=by
 intro h0 q h1 h2
 obtain ⟨j,hj,e⟩:=h.mem (k:=q) ⟨h1,h2⟩
 rw [h.out (.inl (by omega)),e]
 exact Mx h0 j hj.1 hj.2
theorem R8 {s:AS} {a:AV} {lo:Nat} {l:List (El E.O)} {rest:List AV} {x y:Nat} (h:jL s a lo l rest) (hxy:x<y) (hy:y≤l.length) (hn:l.length≤2 ^ 40) (Mx:0<x→∀ q,x≤q→q<y→(el l (x - 1)).le (el l q)) :
  aa Tryz.prog E.eP [a,.int .i64 (x:Nat),.int .i64 (y:Nat),.func cf []] s fun r s'=>∃ (b:Bool) (l':List (El E.O)),r=.bool b∧GW s a lo rest l x y s' l'∧(b=true→EA l' x y):=by
 have w0:aM s→GW s a lo rest l x y s l:=fun hw=>⟨h,hw,.refl _,bD.refl _ _⟩
 refine aa.pre fun hw=>SQ.gN _ _ _ _ _ _ ?_
 rw [gM,ke (by omega)]
 refine ⟨fun m vs s'=>∃ (i k:Nat) (l':List (El E.O)),vs=[.int .i64 (i:Nat),.int .i64 (k:Nat)]∧k≤5∧m=5 - k∧x+1≤i∧i≤y∧GW s a lo rest l x y s' l'∧EA l' x i,5,⟨x+1,0,l,rfl,by omega,rfl,by omega,by omega,w0 hw,fun p q _ _ _=>by omega⟩,?_⟩
 rintro m n4 n5 s6 ⟨i0,k,l1,hik,hk,rfl,hi1,hi2,st6,so6⟩
 simp only [List.cons.injEq,AV.int.injEq,true_and,and_true] at hik
 obtain ⟨rfl,rfl⟩:=hik
 refine af.dec (fun ajT=>?_) (fun _=>⟨false,l1,rfl,st6,by simp⟩)
 refine ⟨fun vs s'=>∃ (i:Nat) (l':List (El E.O)),vs=[.int .i64 (i:Nat)]∧x+1≤i∧i≤y∧GW s a lo rest l x y s' l'∧EA l' x i∧(i<y→(el l' i).lt (el l' (i - 1))=true),?_,?_⟩
 ·rintro n8 s9 ⟨i,l2,hi,GG,hi4,st9,so9,g9⟩
  simp only [List.cons.injEq,AV.int.injEq,true_and,and_true] at hi
  subst hi
  have OC:=st9.sw.len
  refine af.mk (fun he=>?_) (fun hne=>?_)
  ·have:i=y:=by simp at he;omega
   subst this
   exact ⟨true,l2,rfl,st9,fun _=>so9⟩
  have hiy:i<y:=by simp at hne;omega
  rw [Fu (by omega) (by omega)]
  refine af.dec (fun _=>⟨false,l2,rfl,st9,by simp⟩) (fun _=>?_)
  rw [kM (by omega) (by omega)]
  refine st9.arr.swap st9.wf (by omega) (by omega) fun gn a21 w21 m21=>?_
  have Vr:=st9.swap hy ⟨by omega,by omega⟩ ⟨by omega,by omega⟩ a21 w21 m21
  have ahA:∀ p q,x≤p→p<q→q≤i - 1→q≠i - 1→(el (CN l2 i (i - 1)) p).le (el (CN l2 i (i - 1)) q):=by
   intro p q h1 h2 h3 h4
   rw [mB (by omega) (by omega),mB (by omega) (by omega),if_neg (by omega),if_neg (by omega),if_neg (by omega),if_neg (by omega)]
   exact so9 p q h1 h2 (by omega)
  have next:∀ s' l',GW s a lo rest l x y s' l'→EA l' x i→∃ m',m'<5 - k∧∃ (i' k':Nat) (l':List (El E.O)),[AV.int .i64 (i:Nat),.int .i64 (IntKind.wrap .i64 ((k:Int)+1))]=[.int .i64 (i':Nat),.int .i64 (k':Nat)]∧k'≤5∧m'=5 - k'∧x+1≤i'∧i'≤y∧GW s a lo rest l x y s' l'∧EA l' x i' :=
   fun s' l' h1 h2=>⟨5 - (k+1),by omega,i,k+1,l',by rw [ke (by omega)],by omega,rfl,by omega,by omega,h1,h2⟩
  refine ⟨fun vs s'=>∃ l',GW s a lo rest l x y s' l'∧EA l' x i,?_,?_⟩
  ·rintro rO ⟨l3,afg,afh⟩
   rw [Fu (by omega) (by omega)]
   refine af.dec (fun _=>?_) (fun _=>next _ _ afg afh)
   rw [ke (by omega)]
   refine ⟨fun m vs s'=>∃ (j:Nat) (l':List (El E.O)),vs=[.int .i64 (j:Nat)]∧i+1≤j∧m=y - j∧GW s a lo rest l x y s' l'∧EA l' x i,y - (i+1),⟨i+1,l3,rfl,by omega,rfl,afg,afh⟩,?_⟩
   rintro m EG rA ⟨j,l4,hj,hij,rfl,YR,adh⟩
   simp only [List.cons.injEq,AV.int.injEq,true_and,and_true] at hj
   subst hj
   have hl4:=YR.sw.len
   refine af.dec (fun hjy=>?_) (fun _=>next _ _ YR adh)
   rw [kM (by omega) (by omega)]
   refine YR.arr.cmp (by omega) (by omega) fun oI a36 w36 m36=>af.mk (fun _=>next _ _ (YR.to a36 w36 m36) adh) (fun _=>?_)
   refine a36.swap w36 (by omega) (by omega) fun z6 a49 w49 Vs=>?_
   rw [ke (by omega)]
   refine ⟨y - (j+1),by omega,j+1,_,rfl,by omega,rfl,(YR.to a36 w36 m36).swap hy ⟨by omega,by omega⟩ ⟨by omega,by omega⟩ a49 w49 Vs,fun p q h1 h2 h3=>?_⟩
   rw [mB (by omega) (by omega),mB (by omega) (by omega),if_neg (by omega),if_neg (by omega),if_neg (by omega),if_neg (by omega)]
   exact adh p q h1 h2 h3
  ·rw [Fu (by omega) (by omega)]
   refine af.dec (fun h2=>?_) (fun h2=>⟨_,Vr,fun p q h1 h2 h3=>by omega⟩)
   refine ⟨fun m vs s'=>∃ (j:Nat) (l':List (El E.O)),vs=[.int .i64 (j:Nat)]∧x≤j∧j≤i - 1∧m=2*j∧GW s a lo rest l x y s' l'∧(∀ p q,x≤p→p<q→q≤i - 1→q≠j→(el l' p).le (el l' q)),2*(i - 1),⟨i - 1,_,rfl,by omega,by omega,rfl,Vr,ahA⟩,?_⟩
   rintro m QM tH ⟨j,l4,hj,hxj,hji,rfl,JR,afi⟩
   simp only [List.cons.injEq,AV.int.injEq,true_and,and_true] at hj
   subst hj
   have hl4:=JR.sw.len
   have fin:∀ s',GW s a lo rest l x y s' l4→(j=x∨(el l4 (j - 1)).le (el l4 j))→∃ l',GW s a lo rest l x y s' l'∧EA l' x i:=by
    intro s' h1 h2
    have:=L3 hxj hji h2 afi
    rw [show i - 1+1=i by omega] at this
    exact ⟨l4,h1,this⟩
   refine af.dec (fun hj1=>?_) (fun hj1=>fin _ JR (.inl (by omega)))
   rw [kM (by omega) (by omega)]
   refine JR.arr.cmp (by omega) (by omega) fun BF a62 w62 m62=>af.mk (fun hc=>fin _ (JR.to a62 w62 m62) (.inr (El.xw (by rw [← El.fL];simpa using hc)))) (fun hc=>?_)
   have rN:(el l4 j).lt (el l4 (j - 1))=true:=by rw [← El.fL];simpa using hc
   have ahB:x<j:=by
    rcases Nat.lt_or_ge x j with h' | h'
    ·exact h'
    ·exfalso
     obtain rfl:x=j:=by omega
     have:=YQ JR.sw Mx (by omega) x (by omega) (by omega)
     rw [El.le] at this
     rw [this] at rN;cases rN
   refine a62.swap w62 (by omega) (by omega) fun s75 a75 w75 m75=>?_
   exact ⟨2*(j - 1),by omega,j - 1,_,rfl,by omega,by omega,rfl,(JR.to a62 w62 m62).swap hy ⟨by omega,by omega⟩ ⟨by omega,by omega⟩ a75 w75 m75,Ox (by omega) ahB hji rN afi⟩
 ·refine ⟨fun m vs s'=>∃ (i:Nat),vs=[.int .i64 (i:Nat)]∧x+1≤i∧i≤y∧m=y - i∧GW s a lo rest l x y s' l1∧EA l1 x i,y - i0,⟨i0,rfl,hi1,hi2,rfl,st6,so6⟩,?_⟩
  rintro m QN s80 ⟨i,hi,GG,hi4,rfl,YS,adi⟩
  simp only [List.cons.injEq,AV.int.injEq,true_and,and_true] at hi
  subst hi
  have GJ:=YS.sw.len
  refine af.dec (fun hiy=>?_) (fun hge=>⟨i,l1,rfl,GG,hi4,YS,adi,fun h=>by omega⟩)
  rw [kM (by omega) (by omega)]
  refine YS.arr.cmp (by omega) (by omega) fun s88 a88 w88 m88=>af.mk (fun hc=>?_) (fun hc=>?_)
  ·rw [ke (by omega)]
   exact ⟨y - (i+1),by omega,i+1,rfl,by omega,by omega,rfl,YS.to a88 w88 m88,YP adi (by omega) (El.xw (by rw [← El.fL];simpa using hc))⟩
  ·exact ⟨i,l1,rfl,GG,hi4,YS.to a88 w88 m88,adi,fun _=>by rw [← El.fL];simpa using hc⟩
end
section
variable {cf:FuncId} [rF E cf]
noncomputable def TV (x:Nat):Bool:=match jd T cq (.str [0,1,2,2,3,3,3,3,4,4,4,4,4,4,4,4,5,5,5,5,5,5,5,5,5,5,5,5,5,5,5,5,6,6,6,6,6,6,6,6,6,6,6,6,6,6,6,6,6,6,6,6,6,6,6,6,6,6,6,6,6,6,6,6,7,7,7,7,7,7,7,7,7,7,7,7,7,7,7,7,7,7,7,7,7,7,7,7,7,7,7,7,7,7,7,7,7,7,7,7,7,7,7,7,7,7,7,7,7,7,7,7,7,7,7,7,7,7,7,7,7,7,7,7,7,7,7,7,8,8,8,8,8,8,8,8,8,8,8,8,8,8,8,8,8,8,8,8,8,8,8,8,8,8,8,8,8,8,8,8,8,8,8,8,8,8,8,8,8,8,8,8,8,8,8,8,8,8,8,8,8,8,8,8,8,8,8,8,8,8,8,8,8,8,8,8,8,8,8,8,8,8,8,8,8,8,8,8,8,8,8,8,8,8,8,8,8,8,8,8,8,8,8,8,8,8,8,8,8,8,8,8,8,8,8,8,8,8,8,8,8,8,8,8,8,8,8,8,8,8,8,8,8,8,8,8]) (.int .u8 (IntKind.wrap .u8 (x:Nat))) with
 | some (.int .u8 k)=>decide (0≤k∧k≤8∧(x=0∨(x<2 ^ k.toNat∧2 ^ k.toNat≤2*x)))
 | _=>false
theorem YT:(List.range 256).all TV=true:=by kernel_rfl
theorem YU {x:Nat} (h:x<256):∃ k:Nat,jd T cq (.str [0,1,2,2,3,3,3,3,4,4,4,4,4,4,4,4,5,5,5,5,5,5,5,5,5,5,5,5,5,5,5,5,6,6,6,6,6,6,6,6,6,6,6,6,6,6,6,6,6,6,6,6,6,6,6,6,6,6,6,6,6,6,6,6,7,7,7,7,7,7,7,7,7,7,7,7,7,7,7,7,7,7,7,7,7,7,7,7,7,7,7,7,7,7,7,7,7,7,7,7,7,7,7,7,7,7,7,7,7,7,7,7,7,7,7,7,7,7,7,7,7,7,7,7,7,7,7,7,8,8,8,8,8,8,8,8,8,8,8,8,8,8,8,8,8,8,8,8,8,8,8,8,8,8,8,8,8,8,8,8,8,8,8,8,8,8,8,8,8,8,8,8,8,8,8,8,8,8,8,8,8,8,8,8,8,8,8,8,8,8,8,8,8,8,8,8,8,8,8,8,8,8,8,8,8,8,8,8,8,8,8,8,8,8,8,8,8,8,8,8,8,8,8,8,8,8,8,8,8,8,8,8,8,8,8,8,8,8,8,8,8,8,8,8,8,8,8,8,8,8,8,8,8,8,8,8]) (.int .u8 (IntKind.wrap .u8 (x:Nat)))=some (.int .u8 (k:Nat))∧k≤8∧(x=0∨(x<2 ^ k∧2 ^ k≤2*x)):=by
 have:=List.all_eq_true.1 YT x (List.mem_range.2 h)
 unfold TV at this
 split at this
 ·rename_i k hk
  obtain ⟨h1,h2,h3⟩:=of_decide_eq_true this
  refine ⟨k.toNat,?_,by omega,h3⟩
  rw [hk,Int.toNat_of_nonneg h1]
 ·cases this
theorem R9 {x:Nat} (hx:x<65536) (s:AS):aa Tryz.prog kY [.int .u64 (x:Nat)] s fun r s'=>∃ k:Nat,r=.int .i64 (k:Nat)∧k≤16∧(0<x→x<2 ^ k∧2 ^ k≤2*x)∧s'=s:=by
 refine Fg _ _ _ ?_
 suffices h:aa Tryz.prog mK [.int .u64 (x:Nat)] s fun r s'=>∃ k:Nat,r=.int .i64 (k:Nat)∧k≤16∧(0<x→x<2 ^ k∧2 ^ k≤2*x)∧s'=s from
  h.mono (by rintro r s' ⟨k,rfl,h1,h2,rfl⟩;exact ⟨_,rfl,k,rfl,h1,h2,rfl⟩)
 refine BC _ _ _ ⟨fun vs s'=>vs=[.int .u64 (x:Nat),.int .i64 0]∧s'=s,?_,af.dec (fun h=>by omega) (fun _=>⟨rfl,rfl⟩)⟩
 rintro n2 n3 s4 ⟨hv,rfl⟩
 simp only [List.cons.injEq,AV.int.injEq,true_and,and_true] at hv
 obtain ⟨rfl,rfl⟩:=hv
 refine ⟨fun vs s'=>vs=[.int .u64 (x:Nat),.int .i64 0]∧s'=s4,?_,af.dec (fun h=>by omega) (fun _=>⟨rfl,rfl⟩)⟩
 rintro n6 n7 s8 ⟨hv,rfl⟩
 simp only [List.cons.injEq,AV.int.injEq,true_and,and_true] at hv
 obtain ⟨rfl,rfl⟩:=hv
 refine ⟨fun vs s'=>∃ y b:Nat,vs=[.int .u64 (y:Nat),.int .i64 (b:Nat)]∧y<256∧((b=0∧y=x)∨(b=8∧y=x / 256∧0<y))∧s'=s8,?_,af.dec (fun h=>⟨by decide,x / 256,8,?_,by omega,.inr ⟨rfl,rfl,by omega⟩,rfl⟩) (fun h=>⟨x,0,rfl,by omega,.inl ⟨rfl,rfl⟩,rfl⟩)⟩
 ·rintro j9 iN dg ⟨y,b,hv,hy,hb,rfl⟩
  simp only [List.cons.injEq,AV.int.injEq,true_and,and_true] at hv
  obtain ⟨rfl,rfl⟩:=hv
  obtain ⟨k,hk,h1,h2⟩:=YU hy
  refine ⟨_,hk,b+k,?_,by omega,fun h0=>?_,rfl⟩
  ·rw [aV (n:=(k:Int)) (by omega),aV (by omega)];rfl
  ·rcases hb with ⟨rfl,rfl⟩ | ⟨rfl,hyx,h3⟩
   ·rw [Nat.zero_add];omega
   ·rw [Nat.pow_add]
    rcases h2 with h2 | ⟨h2,h4⟩
    ·omega
    ·generalize 2 ^ k=w at h2 h4 ⊢
     omega
 ·have:Int.fdiv (x:Int) (2 ^ min (Int.toNat 8) (IntKind.bits .u64))=((x / 256:Nat):Int):=by
   show Int.fdiv (x:Int) ((256:Nat):Int)=_
   rw [Int.fdiv_eq_ediv_of_nonneg _ (by omega)];rfl
  rw [this];rfl
theorem aaW {x:Nat} (hx:x<65536) (h0:0<x) (s:AS):aa Tryz.prog gF [.int .i64 (x:Nat)] s fun r s'=>∃ k:Nat,r=.int .u64 ((2 ^ k:Nat):Int)∧k≤16∧x<2 ^ k∧2 ^ k≤2*x∧s'=s:=by
 refine uh _ _ _ ?_
 rw [lQ,gq (by omega)]
 refine (R9 hx s).mono ?_
 rintro r s' ⟨k,rfl,h1,h2,rfl⟩
 obtain ⟨h3,h4⟩:=h2 h0
 refine ⟨_,rfl,by omega,k,?_,h1,h3,h4,rfl⟩
 have e:min (Int.toNat (k:Int)) (IntKind.bits .u64)=k:=by
  rw [Int.toNat_natCast]
  exact Nat.min_eq_left (Nat.le_trans h1 (by decide))
 rw [e,Int.one_mul,gq]
 ·rw [Int.natCast_pow];rfl
 ·have:(2:Int) ^ k=((2 ^ k:Nat):Int):=by rw [Int.natCast_pow];rfl
  rw [this];omega
theorem YV (n m:Int):∃ w:Int,bB .xor .u64 n m=some (.int .u64 w):=⟨_,rfl⟩
theorem aW.xor {n m:Int} {K:Int→Prop} (h:∀ w:Int,K w):aW .u64 (bB .xor .u64 n m) K:=⟨_,(YV n m).choose_spec,h _⟩
theorem YW {s:AS} {q:Nat} {v0:AV} {w:Int} {K:AS→Prop} (hw:aM s) (ho:Am.Own s q [v0]) (h:∀ s',Am.Own s' q [.int .u64 w]→aM s'→bD [q] s s'→K s'):ai (some (q,0)) fun l o=>bu (cN s l o [.int .u64 w]) K :=
 bu.own hw ho (by simp) fun s' P=>h s' P.at P.wf P.mut
theorem rdq {s:AS} {q:Nat} {n:Int} {K:Int→Prop} (ho:Am.Own s q [.int .u64 n]) (h:K n):ai (some (q,0)) fun l o=>aW .u64 (av s l o) K:=⟨n,by rw [ho.at.av];rfl,h⟩
set_option maxRecDepth 100000 in
theorem YX {s:AS} {q:Nat} {n:Int} (h:Am.Own s q [.int .u64 n]):aa Tryz.prog gZ [.ptr (some (q,0))] s fun r s'=>∃ m m':Int,r=.int .u64 m∧Am.Own s' q [.int .u64 m']∧bD [q] s s':=by
 refine aa.pre fun hw=>vj _ _ _ ?_
 refine rdq h ?_
 refine rdq h ?_
 refine ⟨by decide,?_⟩
 refine aW.xor fun w=>?_
 try dsimp only
 refine YW (w:=w) hw h fun jD Dq YK Ft=>?_
 refine rdq Dq ?_
 refine rdq Dq ?_
 refine ⟨by decide,?_⟩
 refine aW.xor fun w=>?_
 try dsimp only
 refine YW (w:=w) YK Dq fun fN Fi Vt m20=>?_
 refine rdq Fi ?_
 refine rdq Fi ?_
 refine ⟨by decide,?_⟩
 refine aW.xor fun w=>?_
 try dsimp only
 refine YW (w:=w) Vt Fi fun kL NQ NT WW=>?_
 exact rdq NQ ⟨_,_,rfl,NQ,(Ft.trans m20).trans WW⟩
theorem Vu {n:Int} {k:Nat} (hk:k≤16):∃ w:Nat,bB .and .u64 n (IntKind.wrap .u64 (((2 ^ k:Nat):Int) - 1))=some (.int .u64 (w:Nat))∧w<2 ^ k:=by
 have h1:0<2 ^ k:=Nat.pow_pos (by omega)
 have h2:2 ^ k≤65536:=Nat.le_trans (Nat.pow_le_pow_right (by omega) hk) (by decide)
 refine ⟨(BitVec.ofInt 64 n &&& BitVec.ofInt 64 (((2 ^ k - 1:Nat):Int))).toNat,?_,?_⟩
 ·rw [gq (by omega)]
  rw [show (((2 ^ k:Nat):Int) - 1)=((2 ^ k - 1:Nat):Int) by omega]
  have key:∀ z:BitVec 64,IntKind.wrap .u64 (z.toNat:Int)=(z.toNat:Int):=fun z=>gq ⟨by omega,by have:=z.isLt;omega⟩
  exact congrArg (fun u=>some (AV.int .u64 u)) (key (BitVec.ofInt 64 n &&& BitVec.ofInt 64 (((2 ^ k - 1:Nat):Int))))
 ·rw [BitVec.toNat_and]
  have h3:=@Nat.and_le_right (BitVec.ofInt 64 n).toNat (BitVec.ofInt 64 (((2 ^ k - 1:Nat):Int))).toNat
  have h4:(BitVec.ofInt 64 (((2 ^ k - 1:Nat):Int))).toNat=2 ^ k - 1:=by
   rw [BitVec.ofInt_natCast,BitVec.toNat_ofNat]
   exact Nat.mod_eq_of_lt (by omega)
  omega
theorem YY {s:AS} {a:AV} {lo:Nat} {l:List (El E.O)} {rest:List AV} {x y:Nat} (h:jL s a lo l rest) (hxy:x<y) (hy:y≤l.length) (hn:l.length<65536) :
  aa Tryz.prog E.h_ [a,.int .i64 (x:Nat),.int .i64 (y:Nat),.func cf []] s fun r s'=>r=.aQ []∧∃ l',GW s a lo rest l x y s' l':=by
 refine aa.pre fun hw=>SQ.mS _ _ _ _ _ _ ?_
 have hlo:s.h lo≠none:=by obtain ⟨_,g,h2⟩:=h;rw [h2];simp
 rw [mR,Fu (by omega) (by omega)]
 refine af.dec (fun h8=>?_) (fun _=>⟨rfl,l,h,hw,.refl _,bD.refl _ _⟩)
 refine aj.intro hw rfl fun q s2 F=>bu.own F.wf F.own (by simp) fun s3 P=>?_
 have o3:Am.Own s3 q [_]:=P.at
 have hq:q≠lo:=by rintro rfl;exact hlo F.no
 have a3:jL s3 a lo l rest:=(h.ext F.ext).mut P.mut (by simp;exact fun e=>hq e.symm)
 have m3:bD [lo] s s3:=⟨fun z o hz ho=>by
  have:=F.ext.1 z o ho
  exact P.mut.1 z o (by simp;rintro rfl;rw [F.no] at ho;cases ho) this,Nat.le_trans F.ext.2 P.mut.2⟩
 refine aa.use (aaW (x:=y - x) (by omega) (by omega) s3) ?_
 rintro r s5 ⟨k,rfl,hk,hk1,hk2,rfl⟩ hw5
 refine ⟨_,rfl,by decide,?_⟩
 rw [show (4:Int)=((4:Nat):Int) by rfl,YL,wid (by omega),show (((y - x) / 4:Nat):Int)*2=(((y - x) / 4*2:Nat):Int) by omega,wid (by omega),RY (by omega),kM (by omega) (by omega),ke (by omega)]
 generalize hd:x+(y - x) / 4*2=d
 refine ⟨fun m vs s'=>∃ (i:Nat) (l':List (El E.O)) (v:Int),vs=[.int .i64 (i:Nat)]∧d - 1≤i∧m=d+2 - i∧Am.Own s' q [.int .u64 v]∧GW s a lo rest l x y s' l',d+2 - (d - 1),⟨d - 1,l,_,rfl,by omega,rfl,o3,a3,hw5,.refl _,m3⟩,?_⟩
 rintro m j9 fI ⟨i,l1,v,hi,hdi,rfl,A0,Vv⟩
 simp only [List.cons.injEq,AV.int.injEq,true_and,and_true] at hi
 subst hi
 have GJ:=Vv.sw.len
 refine ⟨by decide,af.dec (fun hle=>?_) (fun _=>⟨rfl,l1,Vv⟩)⟩
 refine aa.use (YX A0) ?_
 rintro r bS ⟨w1,w2,rfl,wj,m13⟩ ahC
 have a13:jL bS a lo l1 rest:=Vv.arr.mut m13 (by simp;exact fun e=>hq e.symm)
 have WX:bD [lo] s bS:=⟨fun z o hz ho=>m13.1 z o (by simp;rintro rfl;rw [F.no] at ho;cases ho) (Vv.eG.1 z o hz ho),Nat.le_trans Vv.eG.2 m13.2⟩
 have adj:GW s a lo rest l x y bS l1:=⟨a13,ahC,Vv.sw,WX⟩
 obtain ⟨w,hw1,QJ⟩:=Vu (n:=w1) hk
 refine ⟨_,rfl,_,hw1,?_⟩
 show bw _
 rw [wid (by omega)]
 refine ⟨fun vs s'=>s'=bS∧∃ t:Nat,vs=[.int .i64 (t:Nat)]∧t<y - x,?_,af.dec (fun hge=>⟨rfl,w - (y - x),by rw [Fu (by omega) (by omega)],by omega⟩) (fun hlt=>⟨rfl,w,rfl,by omega⟩)⟩
 rintro JF iD ⟨rfl,t,ht,hty⟩
 simp only [List.cons.injEq,AV.int.injEq,true_and,and_true] at ht
 subst ht
 rw [RY (by omega)]
 refine adj.arr.swap adj.wf (by omega) (by omega) fun nA a31 NS QU=>?_
 rw [ke (by omega)]
 exact ⟨d+2 - (i+1),by omega,i+1,_,_,rfl,by omega,rfl,wj.mut QU (by simpa using hq),adj.swap hy ⟨by omega,by omega⟩ ⟨by omega,by omega⟩ a31 NS QU⟩
end
section
variable {cf:FuncId} [rF E cf]
theorem TW {L L':List Nat} {s s':AS} (h:bD L s s') (hs:∀ x∈L,x∈L'):bD L' s s':=⟨fun x o hx ho=>h.1 x o (fun hm=>hx (hs x hm)) ho,h.2⟩
structure Ct (s:AS) (a:AV) (lo:Nat) (l:List (El E.O)) (rest:List AV) (q:Nat) (s':AS):Prop where
 ne:q≠lo
 own:∃ c:Int,Am.Own s' q [.int .i64 c]
 arr:jL s' a lo l rest
 wf:aM s'
 eG:bD [q,lo] s s'
section
variable {s s0:AS} {a:AV} {lo:Nat} {l:List (El E.O)} {rest:List AV} {q:Nat}
theorem Dt (h:Ct s0 a lo l rest q s) {x y:Nat} (hx:x<l.length) (hy:y<l.length) :
  aa Tryz.prog E.iC [a,.int .i64 (x:Nat),.int .i64 (y:Nat),.ptr (some (q,0)),.func cf []] s fun r s'=>∃ u v:Nat,r=.aQ [.int .i64 (u:Nat),.int .i64 (v:Nat)]∧(u=x∨u=y)∧(v=x∨v=y)∧Ct s0 a lo l rest q s':=by
 refine SQ.wm _ _ _ _ _ _ _ ?_
 refine h.arr.cmp hy hx fun s8 a8 w8 m8=>?_
 obtain ⟨c,o⟩:=h.own
 have o8:Am.Own s8 q _:=o.mut m8 (by simpa using h.ne)
 have M8:bD [q,lo] s0 s8:=h.eG.trans (TW m8 (by simp))
 refine af.dec (fun _=>?_) (fun _=>⟨x,y,rfl,.inl rfl,.inr rfl,h.ne,⟨c,o8⟩,a8,w8,M8⟩)
 refine ⟨c,by rw [o8.at.av];rfl,bu.own w8 o8 (by simp) fun f_ P=>⟨y,x,rfl,.inr rfl,.inl rfl,h.ne,⟨_,P.at⟩,a8.mut P.mut (by simp;exact fun e=>h.ne e.symm),P.wf,M8.trans (TW P.mut (by simp))⟩⟩
theorem Ld (h:Ct s0 a lo l rest q s) {x y z:Nat} (hx:x<l.length) (hy:y<l.length) (hz:z<l.length) :
  aa Tryz.prog E.kZ [a,.int .i64 (x:Nat),.int .i64 (y:Nat),.int .i64 (z:Nat),.ptr (some (q,0)),.func cf []] s fun r s'=>∃ u:Nat,r=.int .i64 (u:Nat)∧(u=x∨u=y∨u=z)∧Ct s0 a lo l rest q s':=by
 refine SQ.wk _ _ _ _ _ _ _ _ ?_
 refine (Dt h hx hy).mono ?_
 rintro r s2 ⟨u1,v1,rfl,hu1,hv1,h2⟩
 refine ⟨_,_,rfl,(Dt h2 (by omega) hz).mono ?_⟩
 rintro r s6 ⟨u2,v2,rfl,hu2,hv2,h6⟩
 refine ⟨_,_,rfl,(Dt h6 (by omega) (by omega)).mono ?_⟩
 rintro r jD ⟨u3,v3,rfl,hu3,hv3,h10⟩
 exact ⟨_,_,rfl,v3,rfl,by omega,h10⟩
theorem Du (h:Ct s0 a lo l rest q s) {x:Nat} (h0:1≤x) (hx:x+1<l.length) (hn:l.length<65536) :
  aa Tryz.prog E.dH [a,.int .i64 (x:Nat),.ptr (some (q,0)),.func cf []] s fun r s'=>∃ u:Nat,r=.int .i64 (u:Nat)∧(x≤u+1∧u≤x+1)∧Ct s0 a lo l rest q s':=by
 refine SQ.lV _ _ _ _ _ _ ?_
 rw [lT,kM (by omega) (by omega),ke (by omega)]
 refine (Ld h (by omega) (by omega) (by omega)).mono ?_
 rintro r s' ⟨u,rfl,hu,h'⟩
 exact ⟨_,rfl,u,rfl,by omega,h'⟩
theorem Vx {x y:Nat} (h:jL s a lo l rest) (hxy:x<y) (hy:y≤l.length) (hn:l.length<65536) :
  aa Tryz.prog E.jE [a,.int .i64 (x:Nat),.int .i64 (y:Nat),.func cf []] s fun r s'=>∃ (p:Nat) (t:Int),r=.aQ [.int .i64 (p:Nat),.int .i64 t]∧(x≤p∧p<y)∧jL s' a lo l rest∧bD [lo] s s':=by
 have hlo:s.h lo≠none:=by obtain ⟨_,g,h2⟩:=h;rw [h2];simp
 refine aa.pre fun hw=>SQ.pg _ _ _ _ _ _ (aj.intro hw rfl fun q s2 F=>⟨by decide,by decide,by decide,?_⟩)
 have hq:q≠lo:=by rintro rfl;exact hlo F.no
 have c2:Ct s2 a lo l rest q s2:=⟨hq,⟨_,F.own⟩,h.ext F.ext,F.wf,bD.refl _ _⟩
 have back:∀ s',Ct s2 a lo l rest q s'→bD [lo] s s':=fun s' c=>⟨fun z o hz ho=>c.eG.1 z o (by
  simp only [List.mem_cons,List.not_mem_nil,or_false,not_or]
  exact ⟨(by rintro rfl;rw [F.no] at ho;cases ho),by simpa using hz⟩) (F.ext.1 z o ho),Nat.le_trans F.ext.2 c.eG.2⟩
 have w4:∀ k:Nat,k≤3→IntKind.wrap .i64 ((x:Int)+IntKind.wrap .i64 (IntKind.wrap .i64 (Int.tdiv (IntKind.wrap .i64 ((y:Int) - (x:Int))) 4)*((k:Nat):Int)))=((x+(y - x) / 4*k:Nat):Int):=by
  intro k hk
  have hm:(y - x) / 4*k≤(y - x) / 4*3:=Nat.mul_le_mul_left _ hk
  rw [Fu (by omega) (by omega),show (4:Int)=((4:Nat):Int) by rfl,YL,wid (by omega),← Int.natCast_mul,wid (by omega),RY (by omega)]
 have w1:=w4 1 (by omega)
 have w2:=w4 2 (by omega)
 have w3:=w4 3 (by omega)
 simp only [Int.natCast_one,show ((2:Nat):Int)=2 by rfl,show ((3:Nat):Int)=3 by rfl] at w1 w2 w3
 rw [w1,w2,w3,Fu (by omega) (by omega)]
 refine ⟨fun vs s'=>∃ p:Nat,vs=[.int .i64 (p:Nat)]∧(x≤p∧p<y)∧Ct s2 a lo l rest q s',?_,af.dec (fun h8=>?_) (fun _=>⟨_,rfl,by omega,c2⟩)⟩
 ·rintro n4 s5 ⟨p,hp,hpy,c5⟩
  simp only [List.cons.injEq,AV.int.injEq,true_and,and_true] at hp
  subst hp
  obtain ⟨c,o⟩:=c5.own
  refine ⟨c,by rw [o.at.av];rfl,?_⟩
  refine af.mk (fun _=>⟨p,_,rfl,hpy,c5.arr,back _ c5⟩) (fun _=>af.mk (fun _=>⟨p,_,rfl,hpy,c5.arr,back _ c5⟩) (fun _=>⟨p,_,rfl,hpy,c5.arr,back _ c5⟩))
 ·refine ⟨fun vs s'=>∃ i j k:Nat,vs=[.int .i64 (i:Nat),.int .i64 (j:Nat),.int .i64 (k:Nat)]∧(x≤i∧i<y)∧(x≤j∧j<y)∧(x≤k∧k<y)∧Ct s2 a lo l rest q s',?_,af.dec (fun h50=>?_) (fun _=>⟨_,_,_,rfl,by omega,by omega,by omega,c2⟩)⟩
  ·rintro n8 n9 j9 fI ⟨i,j,k,hv,hi,hj,hk,c11⟩
   simp only [List.cons.injEq,AV.int.injEq,true_and,and_true] at hv
   obtain ⟨rfl,rfl,rfl⟩:=hv
   refine (Ld c11 (by omega) (by omega) (by omega)).mono ?_
   rintro r bS ⟨u,rfl,hu,c13⟩
   exact ⟨_,rfl,u,rfl,by omega,c13⟩
  ·refine (Du c2 (by omega) (by omega) hn).mono ?_
   rintro r kr ⟨i,rfl,hi,c16⟩
   refine ⟨_,rfl,(Du c16 (by omega) (by omega) hn).mono ?_⟩
   rintro r iD ⟨j,rfl,hj,c19⟩
   refine ⟨_,rfl,(Du c19 (by omega) (by omega) hn).mono ?_⟩
   rintro r fO ⟨k,rfl,hk,c22⟩
   exact ⟨_,rfl,i,j,k,rfl,by omega,by omega,by omega,c22⟩
end
end
section
variable {cf:FuncId} [rF E cf]
structure Gd (s:AS) (a:AV) (lo:Nat) (rest:List AV) (l:List (El E.O)) (x y:Nat) (s':AS) (l':List (El E.O)) (c d:Nat):Prop where
 st:GW s a lo rest l x y s' l'
 ar:iL l' x y c d
 xc:x≤c
 cd:c≤d
 dy:d≤y
section
variable {s:AS} {a:AV} {lo:Nat} {rest:List AV} {l:List (El E.O)} {x y:Nat}
theorem Gd.sub {s' s'':AS} {l' l'':List (El E.O)} {c d c' d':Nat} (h:Gd s a lo rest l x y s' l' c d) (hy:y≤l.length) (ha:jL s'' a lo l'' rest) (hw:aM s'') (hs:Sw c' d' l' l'') (m:bD [lo] s' s'') (hc:c≤c') (hd:d'≤d):GW s a lo rest l x y s'' l'' :=
 ⟨ha,hw,h.st.sw.trans (hs.ab0 (Nat.le_trans h.xc hc) (Nat.le_trans hd h.dy) (by rw [h.st.sw.len];exact hy)),h.st.eG.trans m⟩
theorem Gd.perm {s' s'':AS} {l' l'':List (El E.O)} {c d:Nat} (h:Gd s a lo rest l x y s' l' c d) (hy:y≤l.length) (ha:jL s'' a lo l'' rest) (hw:aM s'') (hs:Sw c d l' l'') (m:bD [lo] s' s''):Gd s a lo rest l x y s'' l'' c d :=
 ⟨h.sub hy ha hw hs m (Nat.le_refl _) (Nat.le_refl _),h.ar.sw h.xc h.dy hs,h.xc,h.cd,h.dy⟩
theorem Gd.to {s' s'':AS} {l':List (El E.O)} {c d:Nat} (h:Gd s a lo rest l x y s' l' c d) (ha:jL s'' a lo l' rest) (hw:aM s'') (m:bD [lo] s' s''):Gd s a lo rest l x y s'' l' c d :=
 ⟨h.st.to ha hw m,h.ar,h.xc,h.cd,h.dy⟩
theorem Gd.low {s':AS} {l':List (El E.O)} {c d:Nat} (h:Gd s a lo rest l x y s' l' c d) (Mx:0<x→∀ q,x≤q→q<y→(el l (x - 1)).le (el l q)):0<c→∀ q,c≤q→q<d→(el l' (c - 1)).le (el l' q):=by
 intro h0 q h1 h2
 have:=h.xc
 have:=h.dy
 by_cases e:c=x
 ·subst e
  exact YQ h.st.sw Mx h0 q h1 (by omega)
 ·exact h.ar (c - 1) q (by omega) (by omega) (by omega) (.inl (by omega))
end
theorem adk {a:AV} {lo:Nat} {rest:List AV}:∀ (n:Nat) {s:AS} {l:List (El E.O)} {x y:Nat} (lim:Int),y - x=n→jL s a lo l rest→x≤y→y≤l.length→l.length<65536→(0<x→∀ q,x≤q→q<y→(el l (x - 1)).le (el l q)) →
  aa Tryz.prog E.fB [a,.int .i64 (x:Nat),.int .i64 (y:Nat),.int .i64 lim,.func cf []] s fun r s'=>r=.aQ []∧∃ l',GW s a lo rest l x y s' l'∧EA l' x y:=by
 intro n
 induction n using Nat.strongRecOn with
 | _ n IH =>
 intro s l x y lim hn h hxy hy hl Mx
 refine aa.pre fun hw=>SQ.og _ _ _ _ _ _ _ ⟨fun m vs s'=>∃ (c d:Nat) (li:Int) (b1 b2:Bool) (l':List (El E.O)),vs=[.int .i64 (c:Nat),.int .i64 (d:Nat),.int .i64 li,.bool b1,.bool b2]∧m=d - c∧Gd s a lo rest l x y s' l' c d,y - x,⟨x,y,lim,true,true,l,rfl,rfl,⟨h,hw,.refl _,bD.refl _ _⟩,iL.start _ _ _,by omega,by omega,by omega⟩,?_⟩
 rintro m n4 n5 n6 b7 b8 s9 ⟨c,d,li,b1,b2,l1,hv,rfl,g9⟩
 simp only [List.cons.injEq,AV.int.injEq,AV.bool.injEq,true_and,and_true] at hv
 obtain ⟨rfl,rfl,rfl,rfl,rfl⟩:=hv
 have hxc:=g9.xc
 have hcd:=g9.cd
 have hdy:=g9.dy
 have GJ:=g9.st.sw.len
 rw [Fu (by omega) (by omega)]
 refine af.dec (fun h12=>?_) (fun h12=>af.mk (fun _=>?_) (fun _=>?_))
 ·refine aa.use (RW g9.st.arr hcd (by omega) (by omega)) ?_
  rintro r fI ⟨rfl,l2,a11,adl,adm,QV⟩ YZ
  have K8:=g9.perm hy a11 YZ adl QV
  exact ⟨rfl,rfl,l2,K8.st,K8.ar.srt adm⟩
 ·refine aa.use (O4 g9.st.arr (by omega) (by omega) (by omega)) ?_
  rintro r fI ⟨rfl,l2,a11,adl,adm,QV⟩ YZ
  have K8:=g9.perm hy a11 YZ adl QV
  exact ⟨rfl,rfl,l2,K8.st,K8.ar.srt adm⟩
 have aaX:c<d:=by omega
 refine ⟨fun vs s'=>∃ (li:Int) (l':List (El E.O)),vs=[.int .i64 li]∧Gd s a lo rest l x y s' l' c d,?_,af.mk (fun _=>?_) (fun _=>⟨_,l1,rfl,g9⟩)⟩
 ·rintro wR kr ⟨li2,l2,hv,EH⟩
  simp only [List.cons.injEq,AV.int.injEq,true_and,and_true] at hv
  subst hv
  have OC:=EH.st.sw.len
  refine aa.use (Vx EH.st.arr aaX (by omega) (by omega)) ?_
  rintro r eC ⟨p,t,rfl,hp,a18,TS⟩ RX
  have xY:=EH.to a18 RX TS
  refine ⟨_,_,rfl,fun vs s'=>∃ (p:Nat) (t:Int) (l':List (El E.O)),vs=[.int .i64 (p:Nat),.int .i64 t]∧(c≤p∧p<d)∧Gd s a lo rest l x y s' l' c d,?_,af.mk (fun _=>?_) (fun _=>⟨p,t,l2,rfl,hp,xY⟩)⟩
  ·rintro QK uj qx ⟨p,t,l3,hv,hp,wh⟩
   simp only [List.cons.injEq,AV.int.injEq,true_and,and_true] at hv
   obtain ⟨rfl,rfl⟩:=hv
   refine ⟨fun vs s'=>∃ l',Gd s a lo rest l x y s' l' c d,?_,?_⟩
   ·rintro pX ⟨l4,Fx⟩
    have hl4:=Fx.st.sw.len
    refine ⟨fun vs s'=>∃ b,vs=[.bool b]∧Gd s a lo rest l x y s' l4 c d∧(b=true→0<c∧(el l4 p).le (el l4 (c - 1))),?_,?_⟩
    ·rintro b28 z4 ⟨b,hv,RV,hb⟩
     simp only [List.cons.injEq,AV.bool.injEq,and_true] at hv
     subst hv
     refine af.mk (fun Xm=>?_) (fun _=>?_)
     ·obtain ⟨hc0,hle⟩:=hb Xm
      refine aa.use (Vq RV.st.arr hp (by omega) (by omega)) ?_
      rintro r nA ⟨i,j,l5,rfl,a31,afj,aaY,hji,ahD,QU⟩ NS
      have Mr:=RV.perm hy a31 NS afj QU
      have hxi:=aaY.xi
      have hjd:=aaY.jy
      have hij:=aaY.ij
      refine ⟨_,rfl,d - i,by omega,i,d,_,_,_,l5,rfl,rfl,Mr.st,Mr.ar.equal hxc hdy aaY hji (fun k h1 h2=>?_),by omega,by omega,by omega⟩
      rw [ahD]
      refine El.le_trans hle ?_
      have:=Mr.low Mx hc0 k h1 h2
      rw [afj.out (.inl (by omega))] at this
      exact this
     ·refine aa.use (Mw RV.st.arr hp (by omega) (by omega)) ?_
      rintro r ku ⟨mm,bb,l5,rfl,a34,ahE,Y0,m34⟩ w34
      have NR:=RV.perm hy a34 w34 ahE m34
      have UE:=Y0.xm
      have hmd:=Y0.my
      have hl5:=NR.st.sw.len
      have afk:=NR.low Mx
      refine ⟨_,_,rfl,by decide,?_⟩
      rw [ke (by omega)]
      refine af.mk (fun _=>?_) (fun _=>?_)
      ·refine aa.use (IH (mm - c) (by omega) (s:=ku) (l:=l5) (x:=c) (y:=mm) _ rfl a34 UE (by omega) (by omega) (fun h0 q h1 h2=>afk h0 q h1 (by omega))) ?_
       rintro r xT ⟨rfl,l6,My,adn⟩ w38
       refine ⟨rfl,d - (mm+1),by omega,mm+1,d,_,_,_,l6,rfl,rfl,NR.sub hy My.arr w38 My.sw My.eG (Nat.le_refl _) (by omega),NR.ar.right hxc hdy Y0 My.sw adn,by omega,by omega,by omega⟩
      ·refine aa.use (IH (d - (mm+1)) (by omega) (s:=ku) (l:=l5) (x:=mm+1) (y:=d) _ rfl a34 (by omega) (by omega) (by omega) (fun h0 q h1 h2=>by
        rw [Nat.add_sub_cancel];exact Y0.ge q (by omega) h2)) ?_
       rintro r xT ⟨rfl,l6,My,adn⟩ w38
       refine ⟨rfl,mm - c,by omega,c,mm,_,_,_,l6,rfl,rfl,NR.sub hy My.arr w38 My.sw My.eG (by omega) (Nat.le_refl _),NR.ar.left hxc hdy Y0 My.sw adn,by omega,by omega,by omega⟩
    ·refine af.dec (fun hc0=>?_) (fun _=>⟨false,rfl,Fx,by simp⟩)
     rw [kM (by omega) (by omega)]
     refine Fx.st.arr.cmp (by omega) (by omega) fun U8 a48 w48 m48=>⟨_,rfl,Fx.to a48 w48 m48,fun hb=>⟨by omega,?_⟩⟩
     exact El.xw (by rw [← El.fL];simpa using hb)
   ·refine ⟨fun vs s'=>∃ b,vs=[.bool b]∧s'=qx,?_,af.mk (fun _=>af.mk (fun _=>⟨_,rfl,rfl⟩) (fun _=>⟨_,rfl,rfl⟩)) (fun _=>⟨_,rfl,rfl⟩)⟩
    rintro b51 wv ⟨b,hv,rfl⟩
    simp only [List.cons.injEq,AV.bool.injEq,and_true] at hv
    subst hv
    have hl3:=wh.st.sw.len
    refine af.mk (fun _=>?_) (fun _=>⟨l3,wh⟩)
    refine aa.use (R8 wh.st.arr aaX (by omega) (by omega) (wh.low Mx)) ?_
    rintro r tH ⟨b,l4,rfl,JR,hs⟩ w54
    have Y1:=wh.perm hy JR.arr w54 JR.sw JR.eG
    exact ⟨_,rfl,af.mk (fun hb=>⟨rfl,l4,Y1.st,Y1.ar.srt (hs hb)⟩) (fun _=>⟨l4,Y1⟩)⟩
  ·refine aa.use (RZ xY.st.arr aaX (by omega) (by omega)) ?_
   rintro r WK ⟨rfl,l3,a57,ahF,m57⟩ w57
   rw [kM (by omega) (by omega),Fu (by omega) (by omega),Fu (by omega) (by omega)]
   exact ⟨rfl,d - 1 - (p - c),1,l3,rfl,by omega,xY.perm hy a57 w57 ahF m57⟩
 ·refine aa.use (YY g9.st.arr aaX (by omega) (by omega)) ?_
  rintro r vl ⟨rfl,l2,ado⟩ w59
  exact ⟨rfl,_,l2,rfl,g9.perm hy ado.arr w59 ado.sw ado.eG⟩
theorem aaZ {s:AS} {a:AV} {lo:Nat} {rest:List AV} {l:List (El E.O)} (h:jL s a lo l rest) (hl:l.length<65536) :
  aa Tryz.prog E.vk [a,.func cf []] s fun r s'=>r=.aQ []∧∃ l',jL s' a lo l' rest∧l'.Perm l∧EA l' 0 l'.length∧bD [lo] s s':=by
 refine SQ.z_ _ _ _ _ ?_
 have hlen:aP T E.ys a s=some (.int .i64 (l.length:Nat)):=by
  obtain ⟨⟨c,e,rfl⟩,_⟩:=h
  simp [aP,E.us]
 refine ⟨_,hlen,?_⟩
 dsimp only
 rw [gq (by omega)]
 refine aa.use (R9 hl s) ?_
 rintro r s3 ⟨k,rfl,_,_,rfl⟩ w3
 refine ⟨_,rfl,?_⟩
 refine (adk (l.length - 0) (x:=0) (y:=l.length) k rfl h (by omega) (by omega) hl (by omega)).mono ?_
 rintro r s6 ⟨rfl,l',st,so⟩
 exact ⟨rfl,rfl,l',st.arr,st.sw.perm,by rw [st.sw.len];exact so,st.eG⟩
end
section
theorem R_ {cf:FuncId} {a:Option (Nat×Nat)} (s:AS):aa Tryz.prog E.fm [.slc a 0 0 true,.int .i64 0,.int .i64 0,.func cf []] s fun r s'=>r=.aQ []∧s'=s:=by
 refine SQ.ic _ _ _ _ _ _ ⟨fun m vs s'=>vs=[.int .i64 1]∧s'=s,0,⟨rfl,rfl⟩,?_⟩
 rintro m n s5 ⟨hi,rfl⟩
 simp only [List.cons.injEq,AV.int.injEq,true_and,and_true] at hi
 subst hi
 exact af.no (by decide) ⟨rfl,rfl⟩
theorem Sa {cf:FuncId} {a:Option (Nat×Nat)} (s:AS) (lim:Int):aa Tryz.prog E.fB [.slc a 0 0 true,.int .i64 0,.int .i64 0,.int .i64 lim,.func cf []] s fun r s'=>r=.aQ []∧s'=s:=by
 refine SQ.og _ _ _ _ _ _ _ ⟨fun m vs s'=>vs=[.int .i64 0,.int .i64 0,.int .i64 lim,.bool true,.bool true]∧s'=s,0,⟨rfl,rfl⟩,?_⟩
 rintro m n4 n5 n6 b7 b8 s9 ⟨hi,rfl⟩
 simp only [List.cons.injEq,AV.int.injEq,AV.bool.injEq,true_and,and_true] at hi
 obtain ⟨rfl,rfl,rfl,rfl,rfl⟩:=hi
 refine af.yes (by decide) ?_
 refine aa.use (R_ s9) ?_
 rintro r s' ⟨rfl,rfl⟩ _
 exact ⟨rfl,rfl,rfl⟩
theorem O6 {cf:FuncId} {a:Option (Nat×Nat)} (s:AS):aa Tryz.prog E.vk [.slc a 0 0 true,.func cf []] s fun r s'=>r=.aQ []∧s'=s:=by
 refine SQ.z_ _ _ _ _ ?_
 have hlen:aP T E.ys (.slc a 0 0 true) s=some (.int .i64 0):=by simp [aP,E.us]
 refine ⟨_,hlen,?_⟩
 dsimp only
 rw [show IntKind.wrap .u64 (0:Int)=((0:Nat):Int) from gq (by omega)]
 refine aa.use (R9 (by omega) s) ?_
 rintro r s3 ⟨k,rfl,_,_,rfl⟩ w3
 refine ⟨_,rfl,?_⟩
 refine aa.use (Sa _ _) ?_
 rintro r s6 ⟨rfl,rfl⟩ _
 exact ⟨rfl,rfl,rfl⟩
def Sb (s0 s:AS) (v:AV) (l:List (El E.O)):Prop:=Ext s0 s∧((l=[]∧∃ a,v=.slc a 0 0 true)∨∃ la,v=.slc (some (la,0)) l.length l.length false∧jL s v la l []∧s0.h la=none)
variable {cf:FuncId} [rF E cf]
theorem Ad {s0 s:AS} {v:AV} {l:List (El E.O)} {sz:Nat} (g:aT E.cC sz [] s0 s v l) (hl:l.length<65536) :
  aa Tryz.prog E.vk [v,.func cf []] s fun r s'=>r=.aQ []∧∃ l',l'.Perm l∧EA l' 0 l'.length∧Sb s0 s' v l':=by
 have e0:Ext s0 s:=g.eG.ext
 rcases g.wq with ⟨rfl,a,rfl⟩ | ⟨la,rfl,ho⟩
 ·refine (O6 s).mono ?_
  rintro r s' ⟨rfl,rfl⟩
  exact ⟨rfl,[],.refl _,fun i j h1 h2 h3=>by simp at h3,e0,.inl ⟨rfl,a,rfl⟩⟩
 ·have ha:jL s (.slc (some (la,0)) l.length l.length false) la l []:=⟨⟨_,_,rfl⟩,sz,by simpa using ho⟩
  have hn:s0.h la=none:=g.new la (by simp [ay])
  refine (aaZ ha hl).mono ?_
  rintro r s' ⟨rfl,l',ha',hp,hs,m'⟩
  refine ⟨rfl,l',hp,hs,⟨fun x o hx=>m'.1 x o (by simp only [List.mem_singleton];rintro rfl;rw [hn] at hx;cases hx) (e0.1 x o hx),Nat.le_trans e0.2 m'.2⟩,.inr ⟨la,by rw [hp.length_eq],ha',hn⟩⟩
end
end Go.Proofs.YtohgmogbabkkeaaGreat.SG
end

section
set_option maxRecDepth 100000
set_option maxHeartbeats 4000000
namespace Go.Proofs.YtohgmogbabkkeaaGreat
open Go.Am Go.au
def oe:Go.au.SG.OE:=⟨aK,⟨0,0⟩,aK.lt,aK.cmp,fun a b=>aK.fL,fun a b c h h'=>aK.le_trans (a:=a) (b:=b) (c:=c) h h',fun a=>aK.le_refl a,fun a b h=>aK.Bn h⟩
def se:SG.SE:=⟨oe,aN,2,bn,fun x=>rfl,az,iB,bG,jZ,eY,pV,lC,oU,mN,lX,iz,kI,nX,oV,kJ,qv,qw,lD⟩
instance:SG.SQ se where
 z_:=fun a0 a1 s R h =>
  aa.q (n:=14) (rs:=[]) (A:=SG.RP) hT bU Tryz.func192 (by kernel_rfl) rfl rfl rfl (by kernel_rfl) (by kernel_rfl) h
 og:=fun a0 a1 a2 a3 a4 s R h =>
  aa.q (n:=148) (rs:=[]) (A:=SG.Dm) hT bU Tryz.func247 (by kernel_rfl) rfl rfl rfl (by kernel_rfl) (by kernel_rfl) h
 ic:=fun a0 a1 a2 a3 s R h =>
  aa.q (n:=53) (rs:=[]) (A:=SG.vo) hT bU Tryz.func272 (by kernel_rfl) rfl rfl rfl (by kernel_rfl) (by kernel_rfl) h
 sA:=fun a0 a1 a2 a3 s R h =>
  aa.q (n:=60) (rs:=[]) (A:=SG.BE) hT bU Tryz.func273 (by kernel_rfl) rfl rfl rfl (by kernel_rfl) (by kernel_rfl) h
 pg:=fun a0 a1 a2 a3 s R h =>
  aa.q (n:=63) (rs:=[.tmp 8,.tmp 9]) (A:=SG.xV) hT bU Tryz.func275 (by kernel_rfl) rfl rfl rfl (by kernel_rfl) (by kernel_rfl) h
 nC:=fun a0 a1 a2 a3 s R h =>
  aa.q (n:=34) (rs:=[]) (A:=SG.wB) hT bU Tryz.func276 (by kernel_rfl) rfl rfl rfl (by kernel_rfl) (by kernel_rfl) h
 gN:=fun a0 a1 a2 a3 s R h =>
  aa.q (n:=141) (rs:=[.tmp 8]) (A:=SG.pe) hT bU Tryz.func277 (by kernel_rfl) rfl rfl rfl (by kernel_rfl) (by kernel_rfl) h
 lU:=fun a0 a1 a2 a3 a4 s R h =>
  aa.q (n:=90) (rs:=[.tmp 10]) (A:=SG.um) hT bU Tryz.func278 (by kernel_rfl) rfl rfl rfl (by kernel_rfl) (by kernel_rfl) h
 rB:=fun a0 a1 a2 a3 a4 s R h =>
  aa.q (n:=178) (rs:=[.tmp 10,.tmp 11]) (A:=SG.z9) hT bU Tryz.func279 (by kernel_rfl) rfl rfl rfl (by kernel_rfl) (by kernel_rfl) h
 sB:=fun a0 a1 a2 a3 a4 s R h =>
  aa.q (n:=82) (rs:=[]) (A:=SG.BI) hT bU Tryz.func303 (by kernel_rfl) rfl rfl rfl (by kernel_rfl) (by kernel_rfl) h
 lV:=fun a0 a1 a2 a3 s R h =>
  aa.q (n:=18) (rs:=[.tmp 8]) (A:=SG.uo) hT bU Tryz.func304 (by kernel_rfl) rfl rfl rfl (by kernel_rfl) (by kernel_rfl) h
 wk:=fun a0 a1 a2 a3 a4 a5 s R h =>
  aa.q (n:=41) (rs:=[.tmp 12]) (A:=SG.Fl) hT bU Tryz.func305 (by kernel_rfl) rfl rfl rfl (by kernel_rfl) (by kernel_rfl) h
 wm:=fun a0 a1 a2 a3 a4 s R h =>
  aa.q (n:=32) (rs:=[.tmp 10,.tmp 11]) (A:=SG.Fo) hT bU Tryz.func313 (by kernel_rfl) rfl rfl rfl (by kernel_rfl) (by kernel_rfl) h
 mS:=fun a0 a1 a2 a3 s R h =>
  aa.q (n:=67) (rs:=[]) (A:=SG.vq) hT bU Tryz.func274 (by kernel_rfl) rfl rfl rfl (by kernel_rfl) (by kernel_rfl) h
class rF (cf:FuncId):Prop where
 ok:∀ (a b:aK) (s:AS),aa Tryz.prog cf [.agg (aN a),.agg (aN b)] s fun v s'=>v=.int .i64 (a.cmp b)∧Ext s s'
instance:rF cK:=⟨vr⟩
structure jL (s:AS) (a:AV) (lo:Nat) (l:List aK) (rest:List AV):Prop where
 val:∃ c e,a=.slc (some (lo,0)) l.length c e
 obj:∃ g,s.h lo=some (.cells (l.flatMap aN++rest) g false)
section
variable {s:AS} {a:AV} {lo:Nat} {l:List aK} {rest:List AV}
theorem rG (l:List aK):(l.flatMap aN).length=l.length*2:=by
 induction l with
 | nil=>rfl
 | cons x l ih=>simp only [List.flatMap_cons,List.length_append,ih,bn,List.length_cons];omega
end
instance agH {cf:FuncId} [h:rF cf]:SG.rF se cf:=⟨h.ok⟩
theorem jL.of {s:AS} {a:AV} {lo:Nat} {l:List aK} {rest:List AV} (h:SG.jL (E:=se) s a lo l rest):jL s a lo l rest:=⟨h.val,h.obj⟩
def Sb (s0 s:AS) (v:AV) (l:List aK):Prop:=Ext s0 s∧((l=[]∧∃ a,v=.slc a 0 0 true)∨∃ la,v=.slc (some (la,0)) l.length l.length false∧jL s v la l []∧s0.h la=none)
theorem Ad {cf:FuncId} [rF cf] {s0 s:AS} {v:AV} {l:List aK} {sz:Nat} (g:aT aN sz [] s0 s v l) (hl:l.length<65536) :
  aa Tryz.prog eY [v,.func cf []] s fun r s'=>r=.aQ []∧∃ l',l'.Perm l∧EA l' 0 l'.length∧Sb s0 s' v l':=by
 refine (SG.Ad (E:=se) (cf:=cf) g hl).mono ?_
 rintro r s' ⟨h1,l',h2,h3,h4,h5⟩
 refine ⟨h1,l',h2,h3,h4,?_⟩
 rcases h5 with h5 | ⟨la,h6,h7,h8⟩
 ·exact .inl h5
 ·exact .inr ⟨la,h6,jL.of h7,h8⟩
theorem Sb.ahG {s0 s:AS} {v:AV} {l:List aK} (h:Sb s0 s v l):Sl aN 2 s v l:=by
 rcases h.2 with ⟨rfl,a,rfl⟩ | ⟨la,rfl,⟨_,g,ho⟩,_⟩
 ·exact Sl.nil
 ·refine bZ.mk ⟨_,_,ho⟩ (rG l) ?_ (Nat.le_refl _)
  rw [List.drop_zero]
  show (l.flatMap aN++[]).take _=_
  rw [List.append_nil]
  exact List.take_of_length_le (Nat.le_of_eq (rG l))
end Go.Proofs.YtohgmogbabkkeaaGreat
end

section
namespace Go.Proofs.YtohgmogbabkkeaaGreat
open Go.Am Go.au
theorem TX:∀ (b a c:List AV),b.length≤c.length→qJ (a++c) a.length b=a++b++c.drop b.length
 | [],a,c,h=>by simp [qJ]
 | v::b,a,[],h=>by simp at h
 | v::b,a,y::c,h=>by
  have ih:=TX b (a++[v]) c (by simpa using h)
  have e:(a++y::c).set a.length v=a++[v]++c:=by
   rw [List.set_append_right _ _ (Nat.le_refl _)];simp
  show qJ ((a++y::c).set a.length v) (a.length+1) b=_
  rw [e]
  simp only [List.length_append,List.length_cons,List.length_nil,Nat.zero_add] at ih
  rw [ih]
  simp
end Go.Proofs.YtohgmogbabkkeaaGreat
end

section
namespace Go.Proofs.YtohgmogbabkkeaaGreat
open Go.Am Go.au
end Go.Proofs.YtohgmogbabkkeaaGreat
end

section
namespace Go.Proofs.YtohgmogbabkkeaaGreat
open Go.Am Go.au
theorem aa0:triples (T.cM iB)=some [(false,ud,0),(false,jA,1)]:=by kernel_rfl
theorem adp:T.eqt iB=true:=by kernel_rfl
theorem Mz (a b:aK):iK T 100 iB (.agg (aN a)) (.agg (aN b))=some (decide (a=b)):=by
 rw [TL aa0 adp]
 simp only [HI,cond_false,C6 acY,C6 Dd,aN,List.getElem?_cons_zero,List.getElem?_cons_succ,Option.bind_some,Yc TO,Yc Ys]
 cases a;cases b
 simp only [aK.mk.injEq]
 rename_i r c r' c'
 by_cases h1:r=r' <;> by_cases h2:c=c' <;> simp [h1,h2]
theorem WY {l o:Nat} {i:Int} (h:0≤i∧i<16):ag T bg (.ptr (some (l,o))) (.int .i64 i)=some (.ptr (some (l,o+i.toNat*1))):=uY xP jB h
theorem Sc {l o:Nat} {i:Int} (h:0≤i∧i<16):ag T c_ (.ptr (some (l,o))) (.int .i64 i)=some (.ptr (some (l,o+i.toNat*1))):=uY Mh jB h
theorem O7 {s:AS} {v:AV} {l:List aK} (hl:JQ s v l) (hn:l.length≤2 ^ 30):aa Tryz.prog aG [v] s fun r s'=>aT aN 2 [] s s' r l:=by
 refine aa.pre fun hw=>rX _ _ _ ?_
 have main:aR (cZ T az 0 []) fun g2=>aj (.cells g2 0 false) s fun l3 s4=>iG (aJ T az az (.slc (some (l3,0)) 0 0 true) v s4) fun v5 s6=>aT aN 2 [] s s6 v5 l:=by
  refine ⟨_,Bo iE,aj.intro hw rfl fun l3 s4 F=>?_⟩
  refine aT.kU iE bn mT F.wf (aT.start (M:=[]) F.ext.mut) (by simp) (hl.ext F.ext) (by simpa using hn) bG fun v' s' g _ _=>?_
  simpa using g
 rcases hl with ⟨rfl,_,sM⟩ | ⟨a,c,e,rfl,hlen,h3⟩
 ·refine ⟨_,si bG _ _ _ _,af.no rfl main⟩
 ·refine ⟨_,sg bG _ _ _ _ _ _ _ _,af.mk (fun h=>?_) (fun _=>main)⟩
  have:a=none:=by simpa using h
  subst this
  have:l=[]:=by
   rcases h3 with h3 | ⟨la,o,C,h,_⟩
   ·exact List.length_eq_zero_iff.1 h3
   ·cases h
  subst this
  exact aT.nil
def eR:List Int:=List.replicate 16 0
theorem BM {v:List Int} (h:v.length=16) (w:AV):(v.map (AV.int .u64)++[w,.bool true]).length=18:=by simp [h]
theorem Sd {v:List Int} (h:v.length=16) (w:AV) {i:Nat} (hi:i<16):(v.map (AV.int .u64)++[w,.bool true])[i]? = some (.int .u64 (v.getD i 0)):=by
 rw [List.getElem?_append_left (by simp [h];omega),List.getElem?_map,List.getElem?_eq_getElem (by omega),List.getD_eq_getElem?_getD,List.getElem?_eq_getElem (by omega)];rfl
theorem Dw {v:List Int} (h:v.length=16) (w:AV):(v.map (AV.int .u64)++[w,.bool true])[16]? = some w:=by
 rw [List.getElem?_append_right (by simp [h])];simp [h]
theorem Y2 {v:List Int} (h:v.length=16) (w:AV):((v.map (AV.int .u64)++[w,.bool true]).drop 0).take 16=v.map (AV.int .u64):=by
 rw [List.drop_zero,List.take_append_of_le_length (by simp [h]),List.take_of_length_le (by simp [h])]
theorem cg (k:IntKind) (v:List Int):(v.map (AV.int k)).all AV.one=true:=by simp [List.all_eq_true]
def ff (v:List Int) (ex:List aK) (d:aK):Bool:=d.may&&(decide (d∈ex)||decide (d.c≤v.getD (d.r - 1).toNat 0))
theorem Ae {s:AS} {p:Nat} {v:List Int} {ex:List aK} (h:xX s p v ex) (hr:dR ex) (hn:ex.length≤2 ^ 30) (d:aK):aa Tryz.prog kG [.ptr (some (p,0)),.agg (aN d)] s fun r s'=>r=.bool (ff v ex d)∧Ext s s':=by
 refine aa.pre fun hw=>JL _ _ _ _ ⟨rfl,aj.intro hw rfl fun l s1 F=>?_⟩
 refine (vt (h.ext F.ext)).mono ?_
 rintro r s2 ⟨rfl,rfl⟩
 refine ⟨_,rfl,af.no rfl ⟨_,F.own.at.aB (by simp [aN]),?_⟩⟩
 refine (rE d _).mono ?_
 rintro r s3 ⟨rfl,e3⟩
 have e:=F.ext.trans e3
 refine ⟨_,rfl,af.mk (fun hm=>?_) (fun hm=>?_)⟩
 ·simp only [Bool.not_eq_true'] at hm
  exact ⟨by simp [ff,hm],e⟩
 ·simp only [Bool.not_eq_false'] at hm
  obtain ⟨h1,w,h2,h3,h4⟩:=h
  refine ⟨fun _ _ _ _=>True,fun _ _ v=>v=.aQ [.int .i64 (pos ex d:Nat),.bool (decide (d∈ex))],fun _ _ _ _ _ _ _=>trivial,w,?_,_,(F.own.ext e3).at.aB (by simp [aN]),fun s4 e4 _ _=>?_,⟨_,rfl⟩,?_⟩
  ·rw [(h2.ext e).at.av];exact Dw h1 w
  ·refine (H7 (h4.ext (e.trans e4)) (by omega) hr d).mono ?_
   rintro r s5 ⟨rfl,e5⟩
   exact ⟨_,_,rfl,e5,trivial,rfl⟩
  ·rintro r rfl
   refine ⟨_,_,rfl,fun fO Y3 _ _=>af.mk (fun hd=>?_) (fun hd=>?_)⟩
   ·refine ⟨?_,e.trans Y3⟩
    simp [ff,hm,hd]
   ·have hm':=aK.gz.1 hm
    have hat:=(F.own.ext (e3.trans Y3)).at
    have hc:=(h2.ext (e.trans Y3)).at
    refine ⟨_,by rw [hat.av];rfl,_,by rw [hat.av];rfl,?_⟩
    dsimp only
    rw [sE (by omega)]
    refine ⟨_,_,WY (by omega),_,by rw [hc.av,Nat.zero_add,Nat.mul_one];exact Sd h1 w (by omega),?_,e.trans Y3⟩
    simp [ff,hm,hd]
end Go.Proofs.YtohgmogbabkkeaaGreat
end

section
namespace Go.au
end Go.au
namespace Go.Proofs.YtohgmogbabkkeaaGreat
open Go.Am Go.au
end Go.Proofs.YtohgmogbabkkeaaGreat
end

section
namespace Go.Proofs.YtohgmogbabkkeaaGreat
open Go.Am Go.au
end Go.Proofs.YtohgmogbabkkeaaGreat
end

section
namespace Go.Proofs.YtohgmogbabkkeaaGreat
open Go.Am Go.au
theorem cW {α:Type} {l:List α} {i:Nat} (h:i<l.length):∃ x,l[i]? = some x:=⟨_,List.getElem?_eq_getElem h⟩
theorem Tn (a b:Int):N3 true [.int .u64 a,.int .u64 b]=some (.int .u64 (if b>a then b else a)):=rfl
end Go.Proofs.YtohgmogbabkkeaaGreat
end

section
namespace Go.Proofs.YtohgmogbabkkeaaGreat
open Go.Am Go.au
theorem qy {s:AS} {w:AV} {l:List aK} (h:JQ s w l):∀ k n,w≠.int k n:=by
 rintro k n rfl
 rcases h with ⟨h,_⟩ | ⟨_,_,_,h,_⟩ <;> cases h
theorem TY (v:List Int) (x:List AV) (i:Nat) (c:Int) (hi:i<v.length):(v.map (AV.int .u64)++x).set i (.int .u64 c)=(v.set i c).map (AV.int .u64)++x:=by
 rw [List.set_append_left _ _ (by simpa using hi),List.map_set]
theorem Dx {s s':AS} {p:Nat} {v:List Int} {x:List AV} {w:AV} {l:List aK} (h:JQ s w l) (hp:At s p (v.map (AV.int .u64)++x)) (hx:∀ y∈x,∀ n,y≠.int .i64 n) (e:bD [p] s s'):JQ s' w l:=by
 refine Sl.mut h e bn (by decide) fun q hq C hC d hd i c hc he=>?_
 obtain rfl:q=p:=by simpa using hq
 obtain rfl:=hC.inj hp
 simp only [aN,List.getElem?_cons_zero,Option.some.injEq] at hc
 subst hc
 have:=List.mem_of_getElem? he
 rcases List.mem_append.1 this with h | h
 ·obtain ⟨y,_,hy⟩:=List.mem_map.1 h
  cases hy
 ·exact hx _ h _ rfl
structure vu (s0 s:AS) (p:Nat) (v:List Int) (ex:List aK):Prop where
 len:v.length=16
 mem:∃ w,Am.Own s p (v.map (.int .u64)++[w,.bool true])∧w.one=true∧bt aN 2 s w ex∧∀ la∈ay w,s0.h la=none
theorem vu.mut {s0 s s':AS} {L:List Nat} {p:Nat} {v:List Int} {ex:List aK} (h:vu s0 s p v ex) (m:bD L s s') (hp:p ∉ L) (hL:∀ x∈L,s0.h x≠none∨s.h x=none):vu s0 s' p v ex:=by
 obtain ⟨h1,w,h2,h3,h4,h5⟩:=h
 refine ⟨h1,w,h2.mut m hp,h3,h4.mut m fun x hx hm=>?_,h5⟩
 rcases hL x hm with h | h
 ·exact h (h5 x hx)
 ·rcases h4 with ⟨_,a,rfl⟩ | ⟨la,rfl,ho⟩
  ·simp [ay] at hx
  ·obtain rfl:x=la:=by simpa [ay] using hx
   rw [h] at ho;cases ho
theorem vu.ext {s0 s s':AS} {p:Nat} {v:List Int} {ex:List aK} (h:vu s0 s p v ex) (e:Ext s s'):vu s0 s' p v ex:=h.mut (L:=[]) e.mut (by simp) (by simp)
theorem vu.back {s0 s1 s:AS} {p:Nat} {v:List Int} {ex:List aK} (h:vu s1 s p v ex) (e:Ext s0 s1):vu s0 s p v ex:=by
 obtain ⟨h1,w,h2,h3,h4,h5⟩:=h
 exact ⟨h1,w,h2,h3,h4,fun x hx=>e.none (h5 x hx)⟩
theorem Fy {s:AS} {p:Nat} {v:List Int} {ex:List aK} (h:xX s p v ex) (hv:HF v) (hm:∀ d∈ex,d.may=true) (hn:ex.length<2 ^ 30) :
  aa Tryz.prog mM [.ptr (some (p,0))] s fun r s'=>r=.aQ []∧vu s s' p (compact v ex).1 (compact v ex).2∧bD [p] s s':=by
 refine aa.pre fun hw=>BL _ _ _ ?_
 obtain ⟨h1,w,h2,h3,h4⟩:=h
 have hsp:∀ x∈[p],s.h x≠none:=by
  intro x hx;obtain rfl:x=p:=by simpa using hx
  rw [h2];simp
 have hnew:∀ {r:AV} {s':AS} {l:List aK},aT aN 2 [p] s s' r l→p ∉ ay r:=fun g hm=>hsp p (by simp) (g.new p hm)
 have hx2:∀ y∈[w,AV.bool true],∀ n,y≠.int .i64 n:=by
  intro y hy n
  rcases List.mem_cons.1 hy with rfl | hy
  ·exact qy h4 _ _
  ·obtain rfl:y=.bool true:=by simpa using hy
   intro h;cases h
 let qo:Nat→List Int×List aK:=fun i=>(ex.take i).foldl fT (v,[])
 have Y4:∀ i,HF (qo i).1:=fun i=>GD _ _ hv fun d hd=>hm d (List.mem_of_mem_take hd)
 have Y5:∀ i,(qo i).2.length≤i:=fun i=>by have:=Bm (ex.take i) (v,[]);simp only [List.length_nil,Nat.zero_add] at this;have h2:=List.length_take_le i ex;exact Nat.le_trans this h2
 refine ⟨fun vs s'=>∃ left,vs=[left]∧aM s'∧aT aN 2 [p] s s' left (compact v ex).2∧Am.Own s' p ((compact v ex).1.map (.int .u64)++[w,.bool true]),?_,?_⟩
 ·rintro r s3 ⟨left,hl,hw3,g,ho⟩
  simp only [List.cons.injEq,and_true] at hl
  subst hl
  have hok:HF (compact v ex).1:=by have:=Y4 ex.length;simp only [qo,List.take_length] at this;exact this
  refine cL g.iW.2 Bz (bu.own hw3 ho (by rw [BM hok.len];simp) fun s6 P=>⟨rfl,⟨hok.len,r,?_,g.iW.2,(g.wr hsp P.mut).wq,(g.wr hsp P.mut).new⟩,g.eG.trans P.mut⟩)
  ·have:qJ ((compact v ex).1.map (AV.int .u64)++[w,.bool true]) (0+16) [r]=(compact v ex).1.map (AV.int .u64)++[r,.bool true]:=by
    rw [fk,List.set_append_right _ _ (by simp [hok.len])]
    simp [hok.len]
   rw [this] at P
   exact P.at
 ·have hc:=h2.at
  refine ⟨w,by rw [hc.av];exact Dw h1 w,_,h4.cG bG _,fun m vs s'=>∃ (i:Nat) (left:AV),vs=[left,.int .i64 (i:Nat)]∧i≤ex.length∧m=ex.length - i∧aM s'∧aT aN 2 [p] s s' left (qo i).2∧Am.Own s' p ((qo i).1.map (.int .u64)++[w,.bool true]),ex.length,⟨0,_,rfl,by omega,rfl,hw,aT.nil,h2⟩,?_⟩
  rintro m left n kr ⟨i,left',hi,h6,rfl,Ag,g,ho⟩
  simp only [List.cons.injEq,AV.int.injEq,true_and,and_true] at hi
  obtain ⟨rfl,rfl⟩:=hi
  refine af.dec (fun hlt=>?_) (fun hge=>?_)
  ·obtain ⟨x,hx⟩:=cW (l:=ex) (i:=i) (by omega)
   have hd:=Dx h4 hc hx2 g.eG
   have Y6:=Y4 i
   obtain ⟨la,o,h8,h9⟩:=hd.ix (by decide) bn bG jZ hx
   have bU:=aK.gz.1 (hm x (List.mem_of_getElem? hx))
   have ht:qo (i+1)=fT (qo i) x:=by simp only [qo];rw [List.take_add_one,hx,Option.toList_some,List.foldl_append];rfl
   refine ⟨la,o,h8 _,_,(h9 _ (Ext.refl _)).2,lN Ag rfl rfl rfl fun CP fO F=>?_⟩
   have FA:=ho.ext F.ext
   have gg:=g.step F.ext
   have hidx:(x.r - 1).toNat<16:=by omega
   have hbd:=Y6.get (x.r - 1).toNat
   refine ⟨_,by rw [F.own.at.av];rfl,?_⟩
   dsimp only
   rw [sE (by omega)]
   refine ⟨_,_,WY (by omega),_,by rw [F.own.at.av];rfl,_,by rw [FA.at.av,Nat.zero_add,Nat.mul_one];exact Sd Y6.len w hidx,?_⟩
   have cont:∀ (r:AV) (s':AS),aM s'→aT aN 2 [p] s s' r (qo (i+1)).2→Am.Own s' p ((qo (i+1)).1.map (.int .u64)++[w,.bool true]) →
     ∃ m',m'<ex.length - i∧∃ (j:Nat) (left:AV),[r,AV.int .i64 (IntKind.wrap .i64 ((i:Int)+1))]=[left,.int .i64 (j:Nat)]∧j≤ex.length∧m'=ex.length - j∧aM s'∧aT aN 2 [p] s s' left (qo j).2∧Am.Own s' p ((qo j).1.map (.int .u64)++[w,.bool true]) :=
    fun r s' a b c=>⟨ex.length - (i+1),by omega,i+1,r,by rw [aV (by omega)];rfl,by omega,rfl,a,b,c⟩
   refine af.dec (fun hle=>?_) (fun hgt=>?_)
   ·have hs:qo (i+1)=qo i:=by rw [ht];unfold fT;rw [if_pos hle]
    exact cont _ _ F.wf (by rw [hs];exact gg) (by rw [hs];exact FA)
   ·refine ⟨_,by rw [F.own.at.av];rfl,_,by rw [FA.at.av,Nat.zero_add,Nat.mul_one];exact Sd Y6.len w hidx,?_⟩
    dsimp only
    rw [gq (by omega)]
    refine af.mk (fun hq=>?_) (fun hq=>?_)
    ·have Xv:x.c=(qo i).1.getD (x.r - 1).toNat 0+1:=by simpa using hq
     have hs:qo (i+1)=((qo i).1.set (x.r - 1).toNat x.c,(qo i).2):=by rw [ht];unfold fT;rw [if_neg hgt,if_pos Xv]
     refine ⟨_,by rw [F.own.at.av];rfl,bu.own F.wf FA (by rw [BM Y6.len];simp;omega) fun qR P=>?_⟩
     refine cont _ _ P.wf (by rw [hs];exact g.wr hsp (F.ext.mut.trans P.mut)) ?_
     rw [hs]
     have:=P.at
     rw [fk,Nat.zero_add,Nat.mul_one,TY _ _ _ _ (by rw [Y6.len];exact hidx)] at this
     exact this
    ·have Xv:¬ x.c=(qo i).1.getD (x.r - 1).toNat 0+1:=by simpa using hq
     have hs:qo (i+1)=((qo i).1,(qo i).2++[x]):=by rw [ht];unfold fT;rw [if_neg hgt,if_neg Xv]
     have hM:∀ y∈[p],fO.h y≠none:=by
      intro y hy;obtain rfl:y=p:=by simpa using hy
      rw [FA];simp
     refine ⟨_,F.own.at.aB (by simp [aN]),aT.iX iE bn mT F.wf gg hM x (by have:=Y5 i;omega) fun r s' g' CV mm=>?_⟩
     exact cont _ _ CV (by rw [hs];exact g') (by rw [hs];exact FA.mut mm (hnew g))
  ·obtain rfl:i=ex.length:=by omega
   have hs:qo ex.length=compact v ex:=by simp only [qo,List.take_length];rfl
   rw [hs] at g ho
   exact ⟨left,rfl,Ag,g,ho⟩
end Go.Proofs.YtohgmogbabkkeaaGreat
end

section
namespace Go.Proofs.YtohgmogbabkkeaaGreat
open Go.Am Go.au
theorem xZ {y i:Nat} {k:IntKind} (h:i≤y):gy y (.int k (i:Nat))=some i:=by
 unfold gy
 simp [h]
theorem Se {a o n c i:Nat} (h1:i≤n) (h2:n≤c) (h3:i<c):aY T az (.slc (some (a,o)) n c true) (some (.int .i64 (i:Nat))) none none=some (.slc (some (a,o+i*2)) (n - i) (c - i) true):=by
 have e1:¬ ((i:Int)<0∨(n:Int)<i):=by omega
 have e2:¬ c=i:=by omega
 simp [aY,bG,jZ,cO,tN,qg,xZ,e2,h1,h2]
theorem TZ {a o n c i:Nat} (h1:i≤n) (h2:n≤c) (h3:i<c):aY T az (.slc (some (a,o)) n c false) (some (.int .i64 (i:Nat))) none none=some (.slc (some (a,o+i*2)) (n - i) (c - i) false):=by
 have e2:¬ c=i:=by omega
 simp [aY,bG,jZ,cO,tN,qg,xZ,e2,h1,h2]
theorem Y7 {a o n c i:Nat} (h1:i≤c):aY T az (.slc (some (a,o)) n c true) none (some (.int .i64 (i:Nat))) none=some (.slc (some (a,o)) i c true):=by
 simp [aY,bG,jZ,cO,tN,qg,xZ,h1]
theorem BN {a b o o2 n n2 c c2 g:Nat} {e e2:Bool} {cs new:List AV} {s:AS} (hd:s.h a=some (.cells cs g false)) (hs:aB s b o2 (min n2 n*2)=some new) (hne:new≠[]) (hfit:o+new.length≤cs.length) :
  qT T az (.slc (some (a,o)) n c e) (.slc (some (b,o2)) n2 c2 e2) s=some (.int .i64 ((min n2 n:Nat):Int),s.put a (.cells (qJ cs o new) g false)):=by
 have Yb:nH 2 (min n2 n) s (.slc (some (b,o2)) n2 c2 e2)=some new:=by
  by_cases h0:min n2 n=0
  ·exfalso
   rw [h0] at hs
   unfold aB at hs
   split at hs
   ·split at hs
    ·simp at hs;exact hne (by first | exact hs | exact hs.symm)
    ·cases hs
   ·cases hs
  ·simp only [nH,if_neg h0];exact hs
 simp only [qT,bG,jZ,ES,Option.bind_some,Yb,if_neg hne,cN,hd,if_pos hfit,Option.map_some]
theorem ahH {a n c k g:Nat} {ro:Bool} {cs:List AV} {s:AS} (h:s.h a=some (.cells cs g ro)) (hle:n*2≤cs.length) (afl:n+k≤2 ^ 30) (hroom:c<n+k) :
  aJ T az ud (.slc (some (a,0)) n c true) (.int .i64 (k:Nat)) s=some (.slc (some (s.nl,0)) (n+k) (n+k) false,s.new (.cells (cs.take (n*2)++rep k [.int .i64 0,.int .u64 0]) 2 false)):=by
 have h1:¬ ((2:Nat)≠2∨(k:Int)<0∨2 ^ 40<n+k∨2*((n+k+256)*16)>2 ^ 48∨n+k≤c):=by omega
 have h2:nH 2 n s (.slc (some (a,0)) n c true)=some (cs.take (n*2)):=by
  by_cases hn:n=0
  ·subst hn;simp [nH]
  ·simp only [nH,if_neg hn]
   rw [uS h (by omega),List.drop_zero]
 simp only [aJ,bG,TO,if_true,tO,jZ,ab4,RK,bJ,AV.cells,Option.bind_some,Int.toNat_natCast,h2,Option.map_some,List.length_cons,List.length_nil,List.all_cons,List.all_nil,aaB,Bool.and_self,Nat.zero_add,Nat.reduceAdd]
 rw [if_neg h1]
theorem adq:Extern.find Tryz.f300=some (Extern.SlicesOverlaps.overlaps #[az,az] #[rm]):=by kernel_rfl
theorem adr:Extern.findNext Tryz.f300=none:=by kernel_rfl
theorem ads : (Tryz.f300.name == "runtime.NumGoroutine") = false := by kernel_rfl
theorem adt:Tryz.f300.body.isNone=true:=by kernel_rfl
theorem Sf {a b:Nat} (h:a+b≤2 ^ 40):IntKind.i64.wrap ((a:Int)+(b:Int))=((a+b:Nat):Int):=by
 rw [IntWalk.i64_in _ (by omega)];rfl
theorem adu {a b:Nat} (h:a≤2 ^ 40) (hb:b≤a):IntKind.i64.wrap ((a:Int) - (b:Int))=((a - b:Nat):Int):=by
 rw [IntWalk.i64_in _ (by omega)];omega
def Vy (cs V:List AV) (i len:Nat):List AV:=cs.take (i*2)++V++(cs.drop (i*2)).take ((len - i)*2)
set_option maxRecDepth 20000 in
theorem Sg {s:AS} {l lb cap len i m mc ob gb:Nat} {cs bs:List AV} {eb:Bool} (hl:s.h l=some (.cells cs 2 false)) (hcap:cap*2=cs.length) (hlen:len≤cap) (hi:i<len) (hm:0<m) (hlb:l≠lb)
  (hb:s.h lb=some (.cells bs gb false)) (hgb:gb≠1) (yI:ob+m*2≤bs.length) (afl:len+m≤2 ^ 30) (hst:1≤s.st) :
  aa Tryz.prog dZ [.slc (some (l,0)) len cap false,.int .i64 (i:Nat),.slc (some (lb,ob)) m mc eb] s
   fun v s'=>v=.slc (some (s.nl+2*s.st,0)) (len+m) (len+m) false∧s'=s.E0 l 2 (.cells (Vy cs ((bs.drop ob).take (m*2)) i len) 2 false):=by
 refine aa.acM (sz:=2) hl (by decide) (by omega) ?_
 intro x js hjs hj1 hnone
 have hN:s.h s.nl=none:=by have:=hnone 0;simpa using this
 have hN2:s.h (s.nl+s.st)=none:=by have:=hnone 1;simpa using this
 have adv:lb≠s.nl:=fun e=>by rw [e,hN] at hb;cases hb
 have afm:lb≠s.nl+s.st:=fun e=>by rw [e,hN2] at hb;cases hb
 have hlN:l≠s.nl:=fun e=>by rw [e,hN] at hl;cases hl
 generalize hS:(s.kill l).new (.cells (cs++js) 2 false)=S
 have hSL:S.h s.nl=some (.cells (cs++js) 2 false):=by rw [← hS,AS.oK _ rfl];simp [AS.oF]
 have hSb:S.h lb=some (.cells bs gb false):=by rw [← hS,AS.oK _ rfl,AS.sJ];simp [AS.oF,adv,Ne.symm hlb,hb]
 have hSk:∀ k ob,k≠l→s.h k=some ob→S.h k=some ob:=by
  intro k p hk hp
  rw [← hS,AS.oK _ rfl,AS.sJ,AS.oF]
  rw [if_neg (fun e=>by rw [e,hN] at hp;cases hp),if_neg hk]
  exact hp
 have Vz:S.nl=s.nl+s.st:=by rw [← hS];rfl
 have ahI:S.st=s.st:=by rw [← hS];rfl
 have hCl:(cs++js).length=(cap+x)*2:=by rw [List.length_append,hjs];omega
 generalize hC:cs++js=C at hSL hCl
 generalize hV:(bs.drop ob).take (m*2)=V
 have hVl:V.length=m*2:=by rw [← hV,List.length_take,List.length_drop];omega
 have afn:V≠[]:=by intro e;rw [e] at hVl;simp at hVl;omega
 have f1:=Se (a:=s.nl) (o:=0) (n:=len) (c:=cap+x) (i:=i) (by omega) (by omega) (by omega)
 simp only [Nat.zero_add] at f1
 have f2:((m:Int)==0)=false:=by simp;omega
 have f3:((i:Int)==(len:Int))=false:=by simp;omega
 have f4:IntKind.i64.wrap ((len:Int)+(m:Int))=((len+m:Nat):Int):=Sf (by omega)
 have lB:∀ (a:Option (Nat×Nat)) (n c:Nat) (e:Bool) (s':AS),aP T az (.slc a n c e) s'=some (.int .i64 (n:Nat)):=by intros;simp [aP,bG]
 have cB:wW T az (.slc (some (s.nl,0)) len (cap+x) true)=some (.int .i64 ((cap+x:Nat):Int)):=by simp [wW,bG]
 refine jF _ _ _ _ _ ⟨_,f1,_,lB _ _ _ _ _,af.no f2 ⟨_,lB _ _ _ _ _,af.no f3 ⟨_,cB,?_⟩⟩⟩
 dsimp only
 rw [f4]
 have hTl:aB S s.nl (i*2) ((len - i)*2)=some ((C.drop (i*2)).take ((len - i)*2)):=uS hSL (by omega)
 generalize adw:(C.drop (i*2)).take ((len - i)*2)=Tl at hTl
 have Y8:Tl.length=(len - i)*2:=by rw [← adw,List.length_take,List.length_drop];omega
 have ab5:Tl≠[]:=by intro e;rw [e] at Y8;simp at Y8;omega
 have hVr:aB S lb ob (m*2)=some V:=by rw [uS hSb yI,hV]
 have hCt:∀ k,k<len*2→C[k]? = cs[k]? := by
  intro k hk
  rw [← hC,List.getElem?_append_left (by omega)]
 have adx:Tl=(cs.drop (i*2)).take ((len - i)*2):=by
  rw [← adw]
  apply List.ext_getElem?
  intro k
  rw [List.getElem?_take,List.getElem?_take,List.getElem?_drop,List.getElem?_drop]
  split
  ·exact hCt _ (by omega)
  ·rfl
 refine af.dec (fun ady=>?_) (fun ady=>?_)
 ·have hroom:cap+x<len+m:=by omega
  have fA1:=Y7 (a:=s.nl) (o:=0) (n:=len) (c:=cap+x) (i:=i) (by omega)
  have fA2:IntKind.i64.wrap (((len+m:Nat):Int) - (i:Int))=((len+m - i:Nat):Int):=adu (by omega) (by omega)
  have fA3:=ahH (k:=len+m - i) (n:=i) (c:=cap+x) hSL (by omega) (by omega) (by omega)
  rw [show i+(len+m - i)=len+m by omega] at fA3
  generalize hZ:C.take (i*2)++rep (len+m - i) [AV.int .i64 0,AV.int .u64 0]=Z at fA3
  have hZl:Z.length=(len+m)*2:=by rw [← hZ,List.length_append,List.length_take,uL];simp;omega
  generalize hS3:S.new (.cells Z 2 false)=S3 at fA3
  have h3N:S3.h S.nl=some (.cells Z 2 false):=by rw [← hS3,AS.oK _ rfl,if_pos rfl]
  have afo:s.nl≠S.nl:=by rw [Vz];omega
  have h3L:S3.h s.nl=some (.cells C 2 false):=by rw [← hS3,AS.oK _ rfl,if_neg afo];exact hSL
  have h3b:S3.h lb=some (.cells bs gb false):=by rw [← hS3,AS.oK _ rfl,if_neg (by rw [Vz];exact afm)];exact hSb
  have fA4:=TZ (a:=S.nl) (o:=0) (n:=len+m) (c:=len+m) (i:=i) (by omega) (by omega) (by omega)
  have fA5:=BN (a:=S.nl) (b:=lb) (o:=i*2) (o2:=ob) (n:=len+m - i) (n2:=m) (c:=len+m - i) (c2:=mc) (e:=false) (e2:=eb) (new:=V) h3N (by rw [show min m (len+m - i)=m by omega,uS h3b yI,hV]) afn (by omega)
  generalize hS4:S3.put S.nl (.cells (qJ Z (i*2) V) 2 false)=S4 at fA5
  have h4N:S4.h S.nl=some (.cells (qJ Z (i*2) V) 2 false):=by rw [← hS4,AS.oJ _ _ rfl,if_pos rfl]
  have h4L:S4.h s.nl=some (.cells C 2 false):=by rw [← hS4,AS.oJ _ _ rfl,if_neg afo];exact h3L
  have fA6:IntKind.i64.wrap ((i:Int)+(m:Int))=((i+m:Nat):Int):=Sf (by omega)
  have fA7:=TZ (a:=S.nl) (o:=0) (n:=len+m) (c:=len+m) (i:=i+m) (by omega) (by omega) (by omega)
  have fA8:=BN (a:=S.nl) (b:=s.nl) (o:=(i+m)*2) (o2:=i*2) (n:=len+m - (i+m)) (n2:=len - i) (c:=len+m - (i+m)) (c2:=cap+x - i) (e:=false) (e2:=true) (new:=Tl) h4N (by rw [show min (len - i) (len+m - (i+m))=len - i by omega,uS h4L (by omega),adw]) ab5 (by rw [gS];omega)
  simp only [Nat.zero_add] at fA4 fA7
  generalize hS5:S4.put S.nl (.cells (qJ (qJ Z (i*2) V) ((i+m)*2) Tl) 2 false)=S5 at fA8
  refine ⟨_,fA1,?_⟩
  dsimp only
  rw [fA2]
  refine ⟨_,_,fA3,_,fA4,_,_,fA5,?_⟩
  dsimp only
  rw [fA6]
  refine ⟨_,fA7,_,f1,_,_,fA8,?_⟩
  have h5N:S5.h S.nl=some (.cells (qJ (qJ Z (i*2) V) ((i+m)*2) Tl) 2 false):=by rw [← hS5,AS.oJ _ _ rfl,if_pos rfl]
  have hkeep:∀ k ob,k≠l→s.h k=some ob→S5.h k=some ob:=by
   intro k p hk hp
   have hkN:k≠S.nl:=fun e=>by rw [e,Vz,hN2] at hp;cases hp
   rw [← hS5,AS.oJ _ _ rfl,if_neg hkN,← hS4,AS.oJ _ _ rfl,if_neg hkN,← hS3,AS.oK _ rfl,if_neg hkN]
   exact hSk k p hk hp
  refine ⟨⟨2,Nat.le_refl 2,?_⟩,hkeep,.inr ⟨S.nl,rfl,by rw [Vz];exact hN2,?_,?_⟩⟩
  ·rw [← hS5,AS.CS,← hS4,AS.CS,← hS3,AS.uF,Vz,ahI];omega
  ·rw [h5N]
   congr 2
   unfold Vy
   rw [← adx]
   apply List.ext_getElem?
   intro k
   rw [jM _ _ _ _ (by rw [gS];omega),jM _ _ _ _ (by omega),Y8,hVl]
   rw [List.getElem?_append,List.getElem?_append,List.length_append,List.length_take,hVl]
   by_cases k1:k<i*2
   ·rw [if_neg (by omega),if_neg (by omega),if_pos (by omega),if_pos (by omega),← hZ,List.getElem?_append_left (by rw [List.length_take];omega),List.getElem?_take,List.getElem?_take,if_pos k1,if_pos k1]
    exact hCt k (by omega)
   ·by_cases k2:k<(i+m)*2
    ·rw [if_neg (by omega),if_pos (by omega),if_pos (by omega),if_neg (by omega)]
     congr 1;omega
    ·by_cases k3:k<(len+m)*2
     ·rw [if_pos (by omega),if_neg (by omega)]
      congr 1;omega
     ·rw [if_neg (by omega),if_neg (by omega),if_neg (by omega),List.getElem?_eq_none (by omega),List.getElem?_eq_none (by omega)]
  ·unfold Vy
   rw [← adx,List.length_append,List.length_append,List.length_take,hVl,Y8];omega
 ·have hroom:¬ cap+x<len+m:=by omega
  have fB1:=Y7 (a:=s.nl) (o:=0) (n:=len) (c:=cap+x) (i:=len+m) (by omega)
  have fB2:IntKind.i64.wrap ((i:Int)+(m:Int))=((i+m:Nat):Int):=Sf (by omega)
  have fB3:=Se (a:=s.nl) (o:=0) (n:=len+m) (c:=cap+x) (i:=i+m) (by omega) (by omega) (by omega)
  have fB4:=Se (a:=s.nl) (o:=0) (n:=len+m) (c:=cap+x) (i:=i) (by omega) (by omega) (by omega)
  simp only [Nat.zero_add] at fB3 fB4
  have hCS:aB S s.nl (i*2) (min (len+m - i) (len+m - (i+m))*2)=some Tl:=by rw [show min (len+m - i) (len+m - (i+m))=len - i by omega];exact hTl
  have fB5:=BN (a:=s.nl) (b:=s.nl) (o:=(i+m)*2) (o2:=i*2) (n:=len+m - (i+m)) (n2:=len+m - i) (c:=cap+x - (i+m)) (c2:=cap+x - i) (e:=true) (e2:=true) (new:=Tl) hSL hCS ab5 (by omega)
  generalize hS4:S.put s.nl (.cells (qJ C ((i+m)*2) Tl) 2 false)=S4 at fB5
  have h4N:S4.h s.nl=some (.cells (qJ C ((i+m)*2) Tl) 2 false):=by rw [← hS4,AS.oJ _ _ rfl,if_pos rfl]
  have h4b:S4.h lb=some (.cells bs gb false):=by rw [← hS4,AS.oJ _ _ rfl,if_neg adv];exact hSb
  have fB6:=BN (a:=s.nl) (b:=lb) (o:=i*2) (o2:=ob) (n:=len+m - i) (n2:=m) (c:=cap+x - i) (c2:=mc) (e:=true) (e2:=eb) (new:=V) h4N (by rw [show min m (len+m - i)=m by omega,uS h4b yI,hV]) afn (by rw [gS];omega)
  generalize hS5:S4.put s.nl (.cells (qJ (qJ C ((i+m)*2) Tl) (i*2) V) 2 false)=S5 at fB6
  have hov:=EZ (g:=mO) (tR:=rm) (na:=m) (ca:=mc) (ea:=eb) (oa:=ob) (ob:=(i+m)*2) (nb:=len+m - (i+m)) (cb:=cap+x - (i+m)) (eb:=true) hT Tryz.func300 ads adt adr adq bG jZ hSb hgb hSL (by intro e;rw [e] at hCl;simp at hCl;omega) adv
  refine ⟨_,fB1,?_⟩
  dsimp only
  rw [fB2]
  refine ⟨_,fB3,hov.mono ?_⟩
  rintro v s' ⟨rfl,rfl⟩
  refine ⟨_,rfl,af.yes rfl ⟨_,fB3,_,fB4,_,_,fB5,_,fB4,_,_,fB6,?_⟩⟩
  have h5N:S5.h s.nl=some (.cells (qJ (qJ C ((i+m)*2) Tl) (i*2) V) 2 false):=by rw [← hS5,AS.oJ _ _ rfl,if_pos rfl]
  have hkeep:∀ k ob,k≠l→s.h k=some ob→S5.h k=some ob:=by
   intro k p hk hp
   have hkN:k≠s.nl:=fun e=>by rw [e,hN] at hp;cases hp
   rw [← hS5,AS.oJ _ _ rfl,if_neg hkN,← hS4,AS.oJ _ _ rfl,if_neg hkN]
   exact hSk k p hk hp
  refine ⟨⟨1,by omega,?_⟩,hkeep,.inl ⟨rfl,by omega,_,h5N,?_,?_⟩⟩
  ·rw [← hS5,AS.CS,← hS4,AS.CS,Vz];omega
  ·rw [gS,gS,hCl];omega
  ·unfold Vy
   rw [← adx]
   apply List.ext_getElem?
   intro k
   rw [List.getElem?_take,List.drop_zero,jM _ _ _ _ (by rw [gS];omega),jM _ _ _ _ (by omega),Y8,hVl]
   rw [List.getElem?_append,List.getElem?_append,List.length_append,List.length_take,hVl]
   by_cases k1:k<i*2
   ·rw [if_pos (by omega),if_neg (by omega),if_neg (by omega),if_pos (by omega),if_pos (by omega),List.getElem?_take,if_pos k1]
    exact hCt k (by omega)
   ·by_cases k2:k<(i+m)*2
    ·rw [if_pos (by omega),if_pos (by omega),if_pos (by omega),if_neg (by omega)]
     congr 1;omega
    ·by_cases k3:k<(len+m)*2
     ·rw [if_pos (by omega),if_neg (by omega),if_pos (by omega),if_neg (by omega)]
      congr 1;omega
     ·rw [if_neg (by omega),if_neg (by omega),List.getElem?_eq_none (by omega)]
end Go.Proofs.YtohgmogbabkkeaaGreat
end

section
namespace Go.Proofs.YtohgmogbabkkeaaGreat
open Go.Am Go.au
theorem VA {s:AS} {v:AV} {l:List aK} {d:aK} {i lb:Nat} (g:bt aN 2 s v l) (hb:s.h lb=some (.cells (aN d) 0 false)) (hi:i≤l.length) (hn:l.length+1≤2 ^ 30) :
  aa Tryz.prog dZ [v,.int .i64 (i:Nat),.slc (some (lb,0)) 1 1 true] s fun r s'=>bt aN 2 s' r (l.take i++d::l.drop i)∧bD (ay v) s s'∧(∀ la∈ay r,la∈ay v∨s.h la=none):=by
 refine aa.pre fun hw=>?_
 have UX:=g.sl bn
 have hlb:JQ s (.slc (some (lb,0)) 1 1 true) [d]:=bZ.mk ⟨_,_,hb⟩ rfl rfl
 by_cases he:i=l.length
 ·subst he
  have hne:v≠.emp:=by rcases g with ⟨_,a,rfl⟩ | ⟨la,rfl,_⟩ <;> (intro h;cases h)
  obtain ⟨w,h1,_⟩:=UX.from bn bG jZ hne (Nat.le_refl _) .i64
  obtain ⟨v',s',h2,h3,h4,h5,h6⟩:=bt.append iE bn mT hw g hlb (by simpa using hn) bG
  refine jF _ _ _ _ _ ⟨_,h1,_,hlb.cG bG _,af.no rfl ⟨_,UX.cG bG _,af.yes (by simp) ⟨_,_,h2,?_,h4,h6⟩⟩⟩
  rw [List.take_of_length_le (Nat.le_refl _),List.drop_of_length_le (Nat.le_refl _)]
  exact h3
 ·rcases g with ⟨rfl,_⟩ | ⟨la,rfl,hla⟩
  ·simp at hi;subst hi;exact absurd rfl he
  ·have hne:la≠lb:=by
    rintro rfl
    rw [hb] at hla
    simp at hla
   refine (Sg (i:=i) hla (by rw [dS bn]) (Nat.le_refl _) (by omega) (by omega) hne hb (by decide) (by simp [aN]) hn hw.1).mono ?_
   rintro r s' ⟨rfl,rfl⟩
   have Uy:s.h (s.nl+2*s.st)=none:=hw.2 2
   have hcs:Vy (l.flatMap aN) (((aN d).drop 0).take (1*2)) i l.length=(l.take i++d::l.drop i).flatMap aN:=by
    unfold Vy
    rw [ua bn,qN bn,show ((l.drop i).flatMap aN).take ((l.length - i)*2)=(l.drop i).flatMap aN from List.take_of_length_le (by rw [dS bn,List.length_drop];exact Nat.le_refl _)]
    simp [aN]
   refine ⟨.inr ⟨s.nl+2*s.st,?_,?_⟩,⟨fun x o hx ho=>?_,?_⟩,fun y hy=>?_⟩
   ·have:(l.take i++d::l.drop i).length=l.length+1:=by simp;omega
    rw [this]
   ·rw [AS.C7 _ _ _ rfl,if_pos rfl,hcs]
   ·rw [AS.C7 _ _ _ rfl,if_neg (fun e=>by rw [e,Uy] at ho;cases ho),if_neg (by simpa [ay] using hx)];exact ho
   ·show s.nl≤s.nl+2*s.st+s.st;omega
   ·simp only [ay,List.mem_singleton] at hy
    subst hy;exact .inr Uy
def lF (v:List Int) (ex:List aK) (d:aK):Bool×Int×List Int×List aK :=
 if d.may=false then (false,2,v,ex)
 else if ff v ex d then (false,0,v,ex)
 else if 4096<(compact v (ins ex d)).2.length then (false,5,v,ex)
 else (true,0,compact v (ins ex d))
theorem O8 {s:AS} {p:Nat} {v:List Int} {ex:List aK} (h:xX s p v ex) (hv:HF v) (hr:dR ex) (hm:∀ d∈ex,d.may=true) (hn:ex.length+1<2 ^ 30) (d:aK) :
  aa Tryz.prog sV [.ptr (some (p,0)),.agg (aN d)] s fun r s'=>r=.aQ [.bool (lF v ex d).1,.int .i64 (lF v ex d).2.1]∧xX s' p (lF v ex d).2.2.1 (lF v ex d).2.2.2∧bD [p] s s'∧((lF v ex d).1=false→Ext s s')∧((lF v ex d).1=true→vu s s' p (lF v ex d).2.2.1 (lF v ex d).2.2.2):=by
 refine aa.pre fun hw=>JI _ _ _ _ ⟨rfl,aj.intro hw rfl fun l1 s2 F1=>?_⟩
 refine aa.use (vt (h.ext F1.ext)) ?_
 rintro r s4 ⟨rfl,rfl⟩ hw4
 refine ⟨_,rfl,af.no rfl ⟨_,F1.own.at.aB (by simp [aN]),?_⟩⟩
 refine aa.use (rE d _) ?_
 rintro r s8 ⟨rfl,e8⟩ hw8
 have E8:=F1.ext.trans e8
 refine ⟨_,rfl,af.mk (fun hd=>?_) (fun hd=>?_)⟩
 ·simp only [Bool.not_eq_true'] at hd
  have:lF v ex d=(false,2,v,ex):=by simp [lF,hd]
  rw [this]
  exact ⟨rfl,h.ext E8,E8.mut,(fun _=>E8),fun h=>absurd h (by simp)⟩
 simp only [Bool.not_eq_false'] at hd
 refine ⟨_,(F1.own.ext e8).at.aB (by simp [aN]),?_⟩
 refine aa.use (Ae (h.ext E8) hr (by omega) d) ?_
 rintro r dg ⟨rfl,Dy⟩ ahJ
 have E12:=E8.trans Dy
 refine ⟨_,rfl,af.mk (fun hh=>?_) (fun hh=>?_)⟩
 ·have:lF v ex d=(false,0,v,ex):=by simp [lF,hd,hh]
  rw [this]
  exact ⟨rfl,h.ext E12,E12.mut,(fun _=>E12),fun h=>absurd h (by simp)⟩
 have Y9:d ∉ ex:=by
  intro hin
  simp [ff,hd,hin] at hh
 obtain ⟨h1,w,h2,h3,h4⟩:=h
 have hlen:=BM h1 w
 refine ⟨_,(h2.ext E12).at.aB (by rw [hlen];omega),?_⟩
 have hg:((v.map (AV.int .u64)++[w,.bool true]).drop 0).take 18=v.map (AV.int .u64)++[w,.bool true]:=by
  rw [List.drop_zero,List.take_of_length_le (by rw [hlen];exact Nat.le_refl _)]
 rw [hg]
 refine lN ahJ hlen rfl (by simp [h3]) fun j_ iD T0=>?_
 have E19:=E12.trans T0.ext
 refine ⟨fun _ _ _ _=>True,fun _ _ r=>r=.aQ [.int .i64 (pos ex d:Nat),.bool (decide (d∈ex))],fun _ _ _ _ _ _ _=>trivial,w,by rw [(h2.ext E19).at.av];exact Dw h1 w,_,(F1.own.ext (e8.trans (Dy.trans T0.ext))).at.aB (by simp [aN]),fun qx e24 _ _=>?_,⟨_,rfl⟩,?_⟩
 ·refine (H7 (h4.ext (E19.trans e24)) (by omega) hr d).mono ?_
  rintro r s' ⟨rfl,e⟩
  exact ⟨_,_,rfl,e,trivial,rfl⟩
 rintro r rfl
 refine ⟨_,_,rfl,fun lS Y_ _ _=>?_⟩
 have E32:=E19.trans Y_
 have EI:=T0.own.ext Y_
 refine ⟨fun i _ r s'=>(i=4→aT aN 2 [] lS s' r ex)∧(i=7→∃ lb,r=.slc (some (lb,0)) 1 1 true∧s'.h lb=some (.cells (aN d) 0 false)),fun i _ r=>i=7→∃ lb,r=.slc (some (lb,0)) 1 1 true,?_,w,by rw [(h2.ext E32).at.av];exact Dw h1 w,fun k5 e37 _ _=>?_,⟨.undef,(fun h=>by cases h)⟩,fun yW _=>⟨_,(F1.own.ext (e8.trans (Dy.trans (T0.ext.trans Y_)))).at.aB (by simp [aN]),?_⟩⟩
 ·rintro i k r s s' e ⟨ha,hb⟩
  refine ⟨fun hi=>(ha hi).step e,fun hi=>?_⟩
  obtain ⟨lb,h1,h2⟩:=hb hi
  exact ⟨lb,h1,e.1 _ _ h2⟩
 ·refine (O7 (h4.ext (E32.trans e37)) (by omega)).mono fun r s' g=>⟨g.eG.ext,⟨(fun _=>⟨g.wq,e37.mut.trans g.eG,fun la hla=>e37.none (g.new la hla)⟩),(fun h=>by cases h)⟩,(fun h=>by cases h)⟩
 refine ⟨fun K7 e42 w42 _=>⟨_,kD iE (c:=aN d) rfl rfl,?_⟩,⟨.slc (some (0,0)) 1 1 true,fun _=>⟨0,rfl⟩⟩,fun v46 ajU wD e47 _ hS=>?_⟩
 ·exact aj.intro w42 rfl fun l xW F=>⟨F.ext,⟨(fun h=>by cases h),fun _=>⟨l,rfl,F.at⟩⟩,fun _=>⟨l,rfl⟩⟩
 obtain ⟨g40,lb,rfl,hlb⟩:aT aN 2 [] lS wD yW ex∧∃ lb,v46=.slc (some (lb,0)) 1 1 true∧wD.h lb=some (.cells (aN d) 0 false):=⟨hS.1.1 rfl,hS.2.1.2 rfl⟩
 refine aa.use (VA g40.wq hlb (L0 ex d) (by omega)) ?_
 rintro r pG ⟨g50,m50,n50⟩ ahK
 have hnot:∀ x,(∃ o,lS.h x=some o)→x ∉ ay yW:=by
  rintro x ⟨o,ho⟩ hx
  rw [g40.new x hx] at ho;cases ho
 have afp:∀ x,(∃ o,lS.h x=some o)→x ∉ ay r:=by
  rintro x ⟨o,ho⟩ hx
  rcases n50 x hx with h | h
  ·exact hnot x ⟨o,ho⟩ h
  ·rw [e47.1 _ _ ho] at h;cases h
 have ahL:=(EI.ext e47).mut m50 (hnot j_ ⟨_,EI⟩)
 have hone:r.one=true:=by rcases g50 with ⟨_,a,rfl⟩ | ⟨la,rfl,_⟩ <;> rfl
 refine cL hone Bz (bu.own ahK ahL (by rw [hlen];simp) fun YH P=>?_)
 have Za:(ex.take (pos ex d)++d::ex.drop (pos ex d))=ins ex d:=rfl
 rw [Za] at g50
 have hP:=P.at
 rw [fk,List.set_append_right _ _ (by simp [h1])] at hP
 simp only [List.length_map,h1,Nat.sub_self,List.set_cons_zero] at hP
 have c51:xX YH j_ v (ins ex d):=⟨h1,r,hP,hone,(g50.mut (L:=[j_]) P.mut (fun x hx=>by simp only [List.mem_singleton];rintro rfl;exact afp _ ⟨_,EI⟩ hx)).sl bn⟩
 have TB:∀ x∈ins ex d,x.may=true:=by
  intro x hx
  rcases uX.1 hx with rfl | hx
  ·exact hd
  ·exact hm x hx
 refine aa.use (Fy c51 hv TB (by rw [yH];omega)) ?_
 rintro r2 K9 ⟨rfl,c53,m53⟩ ahM
 have hp:Am.Own K9 p (v.map (.int .u64)++[w,.bool true]):=by
  have aaT:=h2.ext E32
  have hne:p ∉ [j_]:=by
   simp only [List.mem_singleton]
   rintro rfl
   have:=T0.no
   rw [h2.ext E12] at this;cases this
  exact ((((aaT.ext e47).mut m50 (hnot p ⟨_,aaT⟩)).mut P.mut hne).mut m53 hne)
 have hall:bD [p] s K9:=by
  refine ⟨fun x o hx ho=>?_,?_⟩
  ·have h32:=E32.1 _ _ ho
   have hne:x ∉ [j_]:=by
    simp only [List.mem_singleton]
    rintro rfl
    have:=T0.no
    rw [E12.1 _ _ ho] at this;cases this
   exact m53.1 _ _ hne (P.mut.1 _ _ hne (m50.1 _ _ (hnot x ⟨_,h32⟩) (e47.1 _ _ h32)))
  ·exact Nat.le_trans E32.2 (Nat.le_trans e47.2 (Nat.le_trans m50.2 (Nat.le_trans P.mut.2 m53.2)))
 obtain ⟨k1,w',k2,k3,kg,kn⟩:=c53
 have k4:=kg.sl bn
 have hnw:∀ la∈ay w',s.h la=none:=by
  intro la hla
  cases hq:s.h la with
  | none=>rfl
  | some o =>
   exfalso
   have h32:=E32.1 _ _ hq
   have hne:la ∉ [j_]:=by
    simp only [List.mem_singleton]
    rintro rfl
    have:=T0.no
    rw [E12.1 _ _ hq] at this;cases this
   have:=P.mut.1 _ _ hne (m50.1 _ _ (hnot la ⟨_,h32⟩) (e47.1 _ _ h32))
   rw [kn la hla] at this;cases this
 refine ⟨rfl,w',by rw [k2.at.av];exact Dw k1 w',_,k4.cG bG _,af.dec (fun hgt=>?_) (fun hle=>?_)⟩
 ·have:lF v ex d=(false,5,v,ex):=by
   simp only [lF,hd,hh,Bool.true_eq_false,Bool.false_eq_true,if_false]
   rw [if_pos (by omega)]
  rw [this]
  refine ⟨rfl,⟨h1,w,hp,h3,?_⟩,hall,(fun _=>⟨fun x o ho=>?_,hall.2⟩),fun h=>absurd h (by simp)⟩
  rotate_left
  ·by_cases hx:x=p
   ·subst hx
    rw [show s.h x=_ from h2] at ho
    rw [← ho]
    exact hp
   ·exact hall.1 x o (by simpa using hx) ho
  refine Sl.mut h4 hall bn (by decide) fun q hq C hC x hx i c hc he=>?_
  obtain rfl:q=p:=by simpa using hq
  obtain rfl:=hC.inj h2.at
  simp only [aN,List.getElem?_cons_zero,Option.some.injEq] at hc
  subst hc
  rcases List.mem_append.1 (List.mem_of_getElem? he) with h | h
  ·obtain ⟨y,_,hy⟩:=List.mem_map.1 h
   cases hy
  ·rcases List.mem_cons.1 h with rfl | h
   ·exact qy h4 _ _ rfl
   ·simp at h
 ·have:lF v ex d=(true,0,compact v (ins ex d)):=by
   simp only [lF,hd,hh,Bool.true_eq_false,Bool.false_eq_true,if_false]
   rw [if_neg (by omega)]
  rw [this]
  have hlen':=BM k1 w'
  have hg':(((compact v (ins ex d)).1.map (AV.int .u64)++[w',.bool true]).drop 0).take 18=(compact v (ins ex d)).1.map (AV.int .u64)++[w',.bool true]:=by
   rw [List.drop_zero,List.take_of_length_le (by rw [hlen'];exact Nat.le_refl _)]
  refine ⟨_,k2.at.aB (by rw [hlen'];omega),?_⟩
  rw [hg']
  refine ⟨⟨by simp [k3],by rw [hlen']⟩,bu.own ahM hp (by rw [hlen,hlen'];omega) fun vl P2=>?_⟩
  have afq:Am.Own vl p ((compact v (ins ex d)).1.map (AV.int .u64)++[w',.bool true]):=by
   have:=P2.at
   rw [dD (by rw [hlen,hlen'])] at this
   exact this
  refine ⟨rfl,⟨k1,w',afq,k3,?_⟩,hall.trans P2.mut,(fun h=>absurd h (by simp)),fun _=>⟨k1,w',afq,k3,kg.mut P2.mut fun x hx hm=>?_,hnw⟩⟩
  rotate_left
  ·obtain rfl:=List.mem_singleton.1 hm
   have:=hnw x hx
   rw [h2] at this;cases this
  ·refine Dx k4 hp.at (x:=[w,.bool true]) ?_ P2.mut
   intro y hy n
   rcases List.mem_cons.1 hy with rfl | hy
   ·exact qy h4 _ _
   ·obtain rfl:y=.bool true:=by simpa using hy
    intro h;cases h
end Go.Proofs.YtohgmogbabkkeaaGreat
end

section
namespace Go.Proofs.YtohgmogbabkkeaaGreat
open Go.Am Go.au
def Ah (v:List Int) (ex:List aK) (d:aK):List Int×List aK:=if ff v ex d then (v,ex) else compact v (ins ex d)
end Go.Proofs.YtohgmogbabkkeaaGreat
end

section
namespace Go.Proofs.YtohgmogbabkkeaaGreat
open Go.Am Go.au
theorem own:ownKnob Tryz.prog.godebug=none:=by kernel_rfl
set_option maxRecDepth 100000
theorem laid:laidOutB Tryz.prog=true:=by kernel_rfl
end Go.Proofs.YtohgmogbabkkeaaGreat
end

section
namespace Go.Proofs.YtohgmogbabkkeaaGreat
open Go.Am Go.au Go.ChangeShapes Go.WideShapes Go.ChangeAt Go.RowKit
structure O9 (v:List Int) (ex:List aK):Prop where
 v:HF v
 r:dR ex
 m:∀ d∈ex,d.may=true
theorem O9.add {v:List Int} {ex:List aK} (h:O9 v ex) {d:aK} (hd:d.may=true):O9 (Ah v ex d).1 (Ah v ex d).2:=by
 unfold Ah
 split
 ·exact h
 ·rename_i hh
  have Y9:d ∉ ex:=fun hin=>hh (by simp [ff,hd,hin])
  have TB:∀ x∈ins ex d,x.may=true:=by
   intro x hx
   rcases uX.1 hx with rfl | hx
   ·exact hd
   ·exact h.m x hx
  have hs:=r_ v (ins ex d)
  exact ⟨Rz h.v TB,(h.r.ins Y9).sub hs,fun x hx=>TB x (hs.subset hx)⟩
theorem Zb {v:List Int} {ex:List aK} {d:aK}:(Ah v ex d).2.length≤ex.length+1:=by
 unfold Ah
 split
 ·simp
 ·have:=(r_ v (ins ex d)).length_le
  rw [yH] at this
  exact this
theorem Zc {v:List Int} {ex:List aK} {d:aK} (hd:d.may=true) (hn:ex.length<4096):lF v ex d=(!ff v ex d,0,Ah v ex d):=by
 have h1:=(r_ v (ins ex d)).length_le
 rw [yH] at h1
 unfold lF Ah
 rw [hd]
 simp only [Bool.true_eq_false,if_false]
 cases ff v ex d with
 | true=>simp
 | false=>simp only [Bool.false_eq_true,if_false,Bool.not_false];rw [if_neg (by omega)]
theorem O9.zero:O9 eR []:=⟨⟨rfl,by decide⟩,List.Pairwise.nil,by simp⟩
theorem Ext.wr {s s1 s2:AS} {p:Nat} (e:Ext s s1) (hp:s.h p=none) (m:bD [p] s1 s2):Ext s s2 :=
 ⟨fun x o ho=>m.1 x o (by simp only [List.mem_singleton];rintro rfl;rw [hp] at ho;cases ho) (e.1 x o ho),Nat.le_trans e.2 m.2⟩
end Go.Proofs.YtohgmogbabkkeaaGreat
end

section
namespace Go.Proofs.YtohgmogbabkkeaaGreat
open Go.Am Go.au Go.ChangeShapes Go.WideShapes Go.ChangeAt Go.RowKit
structure VIn (v:List Int):Prop where
 len:v.length=16
 rng:∀ x∈v,0≤x∧x≤18446744073709551615
theorem adz:places T nZ=some [(0,16),(16,1),(17,1)]:=by kernel_rfl
theorem Sh {l:List AV} (h:l.all AV.one=true):bJ (.agg l)=some l:=by rw [Ro,if_pos h]
theorem O_ {v:AV} (h:v.one=true):bJ v=some [v]:=by cases v <;> first | rfl | cases h
theorem VB {v:List Int} (h:v.length=16) {w:AV} (hw:w.one=true):aU T nZ [(0,.agg (v.map (.int .u64))),(1,w),(2,.bool true)]=some (.agg (v.map (.int .u64)++[w,.bool true])):=by
 rw [qO adz RL rfl]
 have e0:=nN (pl:=fun i=>[(0,16),(16,1),(17,1)][i]?) (pre:=[]) (mid:=eR.map (.int .u64)) (post:=[.slc none 0 0 true,.bool false]) (c:=v.map (.int .u64)) (i:=0) (sz:=16) (v:=.agg (v.map (.int .u64))) (rest:=[(1,w),(2,.bool true)]) rfl (Sh (cg _ _)) (by simp [h]) rfl
 have e1:=nN (pl:=fun i=>[(0,16),(16,1),(17,1)][i]?) (pre:=v.map (.int .u64)) (mid:=[.slc none 0 0 true]) (post:=[.bool false]) (c:=[w]) (i:=1) (sz:=1) (v:=w) (rest:=[(2,.bool true)]) (by simp [h]) (O_ hw) rfl rfl
 have e2:=nN (pl:=fun i=>[(0,16),(16,1),(17,1)][i]?) (pre:=v.map (.int .u64)++[w]) (mid:=[.bool false]) (post:=[]) (c:=[.bool true]) (i:=2) (sz:=1) (v:=.bool true) (rest:=[]) (by simp [h]) rfl rfl rfl
 refine (congrArg (Option.map AV.agg) e0).trans ?_
 simp only [List.nil_append]
 rw [show v.map (AV.int .u64)++[.slc none 0 0 true,.bool false]=v.map (AV.int .u64)++[.slc none 0 0 true]++[.bool false] by simp,e1]
 rw [show v.map (AV.int .u64)++[w]++[.bool false]=v.map (AV.int .u64)++[w]++[.bool false]++[] by simp,e2]
 simp [jc]
theorem aa1 {v:List Int} (h:v.length=16) {i:Nat} (hi:i<16):jd T bg (.agg (v.map (.int .u64))) (.int .i64 (i:Nat))=some (.int .u64 (v.getD i 0)):=by
 have:(0:Int)≤(i:Int)∧(i:Int)<((16:Nat):Int):=by omega
 simp only [jd,xP,jB,Option.bind_some,if_pos this,C6 Dd,Int.toNat_natCast,Nat.mul_one,List.getElem?_map]
 rw [List.getElem?_eq_getElem (by omega),List.getD_eq_getElem?_getD,List.getElem?_eq_getElem (by omega)];rfl
end Go.Proofs.YtohgmogbabkkeaaGreat
end

section
namespace Go.Proofs.YtohgmogbabkkeaaGreat
open Go.Am Go.au Go.ChangeShapes Go.WideShapes Go.ChangeAt Go.RowKit
theorem aa2 {s s9:AS} {v:AV} {l:List aK} (e:Ext s s9) (h:JQ s9 v l) (hn:l.length≤2 ^ 30):aa Tryz.prog aG [v] s9 fun r s'=>Ext s9 s'∧(bt aN 2 s' r l∧(∀ la∈ay r,s.h la=none)∧r≠.emp∧r.one=true):=by
 refine (O7 h hn).mono ?_
 intro r s' g
 exact ⟨g.eG.ext,g.wq,fun la hla=>e.none (g.new la hla),g.iW⟩
end Go.Proofs.YtohgmogbabkkeaaGreat
end

section
namespace Go.Proofs.YtohgmogbabkkeaaGreat
open Go.Am Go.au Go.ChangeShapes Go.WideShapes Go.ChangeAt Go.RowKit
theorem Pa:∀ (l:List aK) (st:List Int×List aK),HF st.1→dR l→(∀ d∈l,d.may=true) →
  (∀ y∈st.2,y.may=true∧st.1.getD (y.r - 1).toNat 0+1<y.c∧∀ d∈l,y.lt d=true) →
  ∀ y∈(l.foldl fT st).2,(l.foldl fT st).1.getD (y.r - 1).toNat 0+1<y.c
 | [],st,hv,hr,hm,h=>fun y hy=>(h y hy).2.1
 | d::l,st,hv,hr,hm,h=>by
  have hd:=aK.gz.1 (hm d (by simp))
  obtain ⟨Oa,hr2⟩:=List.pairwise_cons.1 hr
  refine Pa l (fT st d) (HG hv (hm d (by simp))) hr2 (fun x hx=>hm x (by simp [hx])) ?_
  intro y hy
  unfold fT at hy ⊢
  split at hy
  ·rename_i hc
   rw [if_pos hc]
   exact ⟨(h y hy).1,(h y hy).2.1,fun x hx=>(h y hy).2.2 x (by simp [hx])⟩
  ·rename_i hc
   rw [if_neg hc]
   split at hy
   ·rename_i zu
    rw [if_pos zu]
    obtain ⟨h1,h2,h3⟩:=h y hy
    refine ⟨h1,?_,fun x hx=>h3 x (by simp [hx])⟩
    have hym:=aK.gz.1 h1
    have hlt:=aK.lt_iff.1 (h3 d (by simp))
    have hne:(d.r - 1).toNat≠(y.r - 1).toNat:=by
     intro e
     have:y.r=d.r:=by omega
     rw [this] at h2
     omega
    simp only [List.getD_eq_getElem?_getD] at h2 ⊢
    rw [List.getElem?_set_ne hne]
    exact h2
   ·rename_i zu
    rw [if_neg zu]
    simp only [List.mem_append,List.mem_singleton] at hy
    rcases hy with hy | rfl
    ·exact ⟨(h y hy).1,(h y hy).2.1,fun x hx=>(h y hy).2.2 x (by simp [hx])⟩
    ·refine ⟨hm y (by simp),?_,Oa⟩
     show st.1.getD (y.r - 1).toNat 0+1<y.c
     omega
def Zd (v:List Int) (ex:List aK):Prop:=∀ y∈ex,v.getD (y.r - 1).toNat 0+1<y.c
theorem Zd.add {v:List Int} {ex:List aK} (h:O9 v ex) (g:Zd v ex) {d:aK} (hd:d.may=true):Zd (Ah v ex d).1 (Ah v ex d).2:=by
 unfold Ah
 split
 ·exact g
 ·rename_i hh
  have Y9:d ∉ ex:=fun hin=>hh (by simp [ff,hd,hin])
  have TB:∀ x∈ins ex d,x.may=true:=by
   intro x hx
   rcases uX.1 hx with rfl | hx
   ·exact hd
   ·exact h.m x hx
  exact Pa (ins ex d) (v,[]) h.v (h.r.ins Y9) TB (by simp)
end Go.Proofs.YtohgmogbabkkeaaGreat
end

section
namespace Go.Proofs.YtohgmogbabkkeaaGreat
open Go.Am Go.au
theorem ur {v:List Int} {ex:List aK} {d:aK}:ff v ex d=true↔d.may=true∧(d∈ex∨d.c≤v.getD (d.r - 1).toNat 0):=by
 simp [ff]
theorem Ib (x:aK) (hx:x.may=true):∀ (l:List aK) (st:List Int×List aK),HF st.1→(∀ d∈l,d.may=true) →
  ((x∈(l.foldl fT st).2∨x.c≤(l.foldl fT st).1.getD (x.r - 1).toNat 0)↔(x∈l∨x∈st.2∨x.c≤st.1.getD (x.r - 1).toNat 0))
 | [],st,_,_=>by simp
 | d::l,st,hv,hm=>by
  have hd:=hm d (by simp)
  have ih:=Ib x hx l (fT st d) (HG hv hd) (fun y hy=>hm y (by simp [hy]))
  rw [List.foldl_cons,ih]
  have hdm:=aK.gz.1 hd
  have hxm:=aK.gz.1 hx
  have hlen:=hv.len
  simp only [List.mem_cons]
  unfold fT
  split
  ·rename_i hc
   constructor
   ·rintro (h | h | h)
    ·exact .inl (.inr h)
    ·exact .inr (.inl h)
    ·exact .inr (.inr h)
   ·rintro ((h | h) | h | h)
    ·subst h;exact .inr (.inr hc)
    ·exact .inl h
    ·exact .inr (.inl h)
    ·exact .inr (.inr h)
  ·rename_i hc
   split
   ·rename_i zu
    have hg:(st.1.set (d.r - 1).toNat d.c).getD (x.r - 1).toNat 0=if x.r=d.r then d.c else st.1.getD (x.r - 1).toNat 0:=by
     simp only [List.getD_eq_getElem?_getD,List.getElem?_set]
     by_cases e:x.r=d.r
     ·rw [if_pos (by rw [e]),if_pos e,if_pos (by omega)];rfl
     ·rw [if_neg (by omega),if_neg e]
    show (x∈l∨x∈st.2∨x.c≤(st.1.set (d.r - 1).toNat d.c).getD (x.r - 1).toNat 0)↔_
    rw [hg]
    by_cases e:x.r=d.r
    ·rw [if_pos e]
     have hxd:x=d↔x.c=d.c:=⟨fun h=>by rw [h],fun h=>by cases x;cases d;simp_all⟩
     rw [hxd]
     rw [← e] at zu
     constructor
     ·rintro (h | h | h)
      ·exact .inl (.inr h)
      ·exact .inr (.inl h)
      ·by_cases h2:x.c=d.c
       ·exact .inl (.inl h2)
       ·exact .inr (.inr (by omega))
     ·rintro ((h | h) | h | h)
      ·exact .inr (.inr (by omega))
      ·exact .inl h
      ·exact .inr (.inl h)
      ·exact .inr (.inr (by omega))
    ·rw [if_neg e]
     have hne:x≠d:=fun h=>e (by rw [h])
     simp [hne]
   ·show (x∈l∨x∈st.2++[d]∨x.c≤st.1.getD (x.r - 1).toNat 0)↔_
    simp only [List.mem_append,List.mem_singleton]
    constructor
    ·rintro (h | (h | h) | h)
     ·exact .inl (.inr h)
     ·exact .inr (.inl h)
     ·exact .inl (.inl h)
     ·exact .inr (.inr h)
    ·rintro ((h | h) | h | h)
     ·exact .inr (.inl (.inr h))
     ·exact .inl h
     ·exact .inr (.inl (.inl h))
     ·exact .inr (.inr h)
theorem Pb {v:List Int} {l:List aK} (hv:HF v) (hm:∀ d∈l,d.may=true) (x:aK):ff (compact v l).1 (compact v l).2 x=true↔x.may=true∧(x∈l∨x.c≤v.getD (x.r - 1).toNat 0):=by
 rw [ur]
 constructor
 ·rintro ⟨h1,h2⟩
  have:=(Ib x h1 l (v,[]) hv hm).1 h2
  exact ⟨h1,by simpa using this⟩
 ·rintro ⟨h1,h2⟩
  exact ⟨h1,(Ib x h1 l (v,[]) hv hm).2 (by simpa using h2)⟩
theorem Pc {v:List Int} {ex:List aK} (h:O9 v ex) {d:aK} (hd:d.may=true) (x:aK):ff (Ah v ex d).1 (Ah v ex d).2 x=true↔ff v ex x=true∨x=d:=by
 unfold Ah
 split
 ·rename_i hh
  constructor
  ·exact .inl
  ·rintro (h | rfl)
   ·exact h
   ·exact hh
 ·have TB:∀ x∈ins ex d,x.may=true:=by
   intro x hx
   rcases uX.1 hx with rfl | hx
   ·exact hd
   ·exact h.m x hx
  rw [Pb h.v TB,ur,uX]
  constructor
  ·rintro ⟨h1,(rfl | h2) | h2⟩
   ·exact .inr rfl
   ·exact .inl ⟨h1,.inl h2⟩
   ·exact .inl ⟨h1,.inr h2⟩
  ·rintro (⟨h1,h2 | h2⟩ | rfl)
   ·exact ⟨h1,.inl (.inr h2)⟩
   ·exact ⟨h1,.inr h2⟩
   ·exact ⟨hd,.inl (.inl rfl)⟩
end Go.Proofs.YtohgmogbabkkeaaGreat
end

section
set_option maxRecDepth 100000
set_option maxHeartbeats 4000000
namespace Go.Proofs.YtohgmogbabkkeaaGreat
open Go.Am
end Go.Proofs.YtohgmogbabkkeaaGreat
end

section
namespace Go.Proofs.YtohgmogbabkkeaaGreat
open Go.Am Go.au
end Go.Proofs.YtohgmogbabkkeaaGreat
end

section
namespace Go.Proofs.YtohgmogbabkkeaaGreat
open Go.Am Go.au
/-! ### many at once -/
/-! ### contracts -/
theorem Ic {s:AS} {p:Nat} {v:List Int} {ex:List aK} (h:xX s p v ex) (hn:ex.length≤2 ^ 30):aa Tryz.prog di [.ptr (some (p,0))] s fun r s'=>∃ q,r=.ptr (some (q,0))∧s.h q=none∧vu s s' q v ex∧Ext s s':=by
 refine H6 _ _ _ ?_
 refine aa.use (vt h) ?_
 rintro r s2 ⟨rfl,rfl⟩ _
 obtain ⟨h1,w,h2,h3,h4⟩:=h
 refine ⟨_,rfl,af.no rfl ⟨fun k _ r s'=>k=8→bt aN 2 s' r ex∧(∀ la∈ay r,s2.h la=none)∧r≠.emp∧r.one=true,fun k _ r=>k=8→r.one=true,fun _ _ _ _ _ e h hk=>⟨(h hk).1.ext e,(h hk).2⟩,_,h2.at.aB (by rw [BM h1];omega),w,by rw [h2.at.av];exact Dw h1 w,fun jD MB YK _=>?_,⟨.bool true,fun _=>rfl⟩,?_⟩⟩
 ·refine (aa2 (s:=s2) MB (h4.ext MB) hn).mono ?_
  rintro r s' ⟨e,h⟩
  exact ⟨e,fun _=>h,fun _=>h.2.2.2⟩
 rintro r hr jT VC Ze ⟨hr2,_⟩
 obtain ⟨g,hnew,hne,hone⟩:=hr2 rfl
 rw [Y2 h1]
 refine ⟨_,VB h1 hone,by simp [cF,hone],aj.intro Ze rfl fun q eC F=>⟨q,rfl,VC.none F.no,⟨h1,r,F.own,hone,g.ext F.ext,hnew⟩,VC.trans F.ext⟩⟩
/-! ### the reference -/
end Go.Proofs.YtohgmogbabkkeaaGreat
end

section
namespace Go.Proofs.YtohgmogbabkkeaaGreat
open Go.Am Go.au Go.ChangeShapes Go.WideShapes Go.ChangeAt Go.RowKit
theorem Zf (x:aK):ff eR [] x=false:=by
 cases hq:ff eR [] x with
 | false=>rfl
 | true =>
  obtain ⟨hm,h⟩:=ur.1 hq
  have:=aK.gz.1 hm
  rcases h with h | h
  ·cases h
  ·have e:eR.getD (x.r - 1).toNat 0=0:=by
    simp only [eR,List.getD_eq_getElem?_getD,List.getElem?_replicate]
    split <;> rfl
   omega
theorem Zg {v:List Int} {ex:List aK} (ok:O9 v ex) (Ie:Zd v ex) (hn:ex.length<4096) (d:aK):O9 (lF v ex d).2.2.1 (lF v ex d).2.2.2∧Zd (lF v ex d).2.2.1 (lF v ex d).2.2.2∧(lF v ex d).2.2.2.length≤ex.length+1∧∀ x,ff (lF v ex d).2.2.1 (lF v ex d).2.2.2 x=true↔ff v ex x=true∨(x=d∧d.may=true):=by
 cases hm:d.may with
 | false =>
  have:lF v ex d=(false,2,v,ex):=by simp [lF,hm]
  rw [this]
  exact ⟨ok,Ie,by simp,fun x=>by simp⟩
 | true =>
  rw [Zc hm hn]
  exact ⟨ok.add hm,Zd.add ok Ie hm,Zb,fun x=>by rw [Pc ok hm];simp⟩
theorem place {n:Int} {k:Nat} (hk:0<k) (hk2:k≤80):∃ j:Nat,j<k∧Int.tmod (IntKind.wrap .i64 (Int.tmod n (k:Int)+(k:Int))) (k:Int)=(j:Int):=by
 have h1:=Int.tmod_lt_of_pos n (show (0:Int)<k by omega)
 have h2 : -(k:Int)<Int.tmod n k:=by
  have:=Int.tmod_lt_of_pos (-n) (show (0:Int)<k by omega)
  rw [Int.neg_tmod] at this
  omega
 rw [aV (by omega)]
 have h3:0≤Int.tmod (Int.tmod n k+k) k:=Int.tmod_nonneg _ (by omega)
 have h4:=Int.tmod_lt_of_pos (Int.tmod n k+k) (show (0:Int)<k by omega)
 exact ⟨(Int.tmod (Int.tmod n k+k) k).toNat,by omega,by omega⟩
end Go.Proofs.YtohgmogbabkkeaaGreat
end

section
set_option maxRecDepth 100000
set_option maxHeartbeats 4000000
namespace Go.Proofs.YtohgmogbabkkeaaGreat
open Go.Am
def JS  (s:AS) (R:AV→AS→Prop):Prop :=
 aa Tryz.prog kF [] s fun v1 s2=>∃ p3:Option (Nat×Nat),∃ b4:Bool,v1=.aQ [(.ptr p3),(.bool b4)]∧(af (!b4) (R (.bool false) s2) (aa Tryz.prog cS [(.ptr p3),(.str ([116])),(.str ([97]))] s2 fun v5 s6=>∃ b7:Bool,v5=.bool b7∧(af (!b7) (R (.bool false) s6) (aa Tryz.prog de [(.ptr p3),(.str ([116]))] s6 fun v8 s9=>∃ VD:Bool,v8=.bool VD∧(af (!VD) (R (.bool false) s9) (aa Tryz.prog de [(.ptr p3),(.str ([116]))] s9 fun v11 dg=>∃ Jk:Bool,v11=.bool Jk∧(af (!Jk)
 (R (.bool false) dg)
 (aa Tryz.prog jq [] dg fun tK f_=>aa Tryz.prog q9 [tK] f_ fun oh lZ=>∃ p18:Option (Nat×Nat),oh=.ptr p18∧(aa Tryz.prog eD [(.ptr p18),(.str ([97])),(.slc none 0 0 true)] lZ fun wT fN=>∃ T1:Int,wT=.int .i64 T1∧(ai p3 fun BG GQ=>qi (av fN BG GQ) fun p24=>ai p3 fun Ji K6=>qi (av fN Ji (K6+1)) fun p27=>aa Tryz.prog fA [(.ptr p18),(.str ([97])),(.int .i64 5),(.ptr p24),(.ptr p27)] fN fun Ai z4=>∃ v30:AV,∃ n31:Int,Ai=.aQ [v30,(.int .i64 n31)]∧(aa Tryz.prog kW [(.ptr p18),(.str ([97])),(.int .i64 1)] z4 fun Vn qR=>∃ VE:AV,∃ WJ:Int,Vn=.aQ [VE,(.int .i64 WJ)]∧(aa Tryz.prog gU [(.ptr p18),(.str ([97]))] qR fun QS k5=>∃ HX:AV,∃ n39:Int,QS=.aQ [HX,(.int .i64 n39)]∧(aa Tryz.prog eD [(.ptr p18),(.str ([97])),VE] k5 fun yW Fj=>∃ n42:Int,yW=.int .i64 n42∧(ai p3 fun l43 Zh=>qi (av Fj l43 Zh) fun p45=>ai p3 fun l46 o47=>qi (av Fj l46 (o47+1)) fun p48=>aa Tryz.prog fA [(.ptr p18),(.str ([97])),(.int .i64 5),(.ptr p45),(.ptr p48)] Fj fun v49 pG=>∃ Aj:AV,∃ n52:Int,v49=.aQ [Aj,(.int .i64 n52)]∧(af ((T1:Int)==0) (af ((n31:Int)==0) (af ((WJ:Int)==0) (af ((n39:Int)==0) (af ((n42:Int)==0) (af ((n52:Int)==0) (aW .i64 (aP T bO v30 pG) fun QM=>af ((QM:Int)==2) (Jh ((cP T aq cq VE pG).map (·.1)) fun x54=>Jh ((cP T aq cq HX pG).map (·.1)) fun x55=>af ((x54:List UInt8)==x55) (aW .i64 (aP T bO Aj pG) fun n56=>af ((n56:Int)==1) (bH (ag T bO Aj (.int .i64 0)) fun l57 o58=>aW .u64 (av pG l57 (o58+1)) fun n59=>R (.bool ((n59:Int)==2)) pG) (R (.bool false) pG)) (R (.bool false) pG)) (R (.bool false) pG)) (R (.bool false) pG)) (R (.bool false) pG)) (R (.bool false) pG)) (R (.bool false) pG)) (R (.bool false) pG)) (R (.bool false) pG))))))))))))))))
def JT:QA:=(.seq .leaf (.seq .leaf (.seq (.seq .leaf (.cond (.seq .leaf .leaf) .leaf)) (.seq .leaf (.seq .leaf (.seq .calm (.seq .leaf (.seq .leaf (.seq .leaf (.seq .calm (.seq .leaf .leaf)))))))))))
theorem JU  (s:AS) (R:AV→AS→Prop) (h:JS  s R):aa Tryz.prog oG [] s R :=
 aa.q (n:=125) (rs:=[.tmp 0]) (A:=JT) hT bU Tryz.func12 (by kernel_rfl) rfl rfl rfl (by kernel_rfl) (by kernel_rfl) h
def JV  (s:AS) (R:AV→AS→Prop):Prop :=
 aa Tryz.prog zY [(.int .i64 3),(.int .i64 1)] s fun v1 s2=>∃ p3:Option (Nat×Nat),∃ n4:Int,v1=.aQ [(.ptr p3),(.int .i64 n4)]∧(aa Tryz.prog xG [] s2 fun v5 s6=>∃ p7:Option (Nat×Nat),v5=.ptr p7∧(pN (aU T ny [(0,(.int .i64 3)),(1,(.int .i64 1))]) fun g8=>cF g8 (aj (.cells g8 0 false) s6 fun l9 jD=>pN (aU T ry []) fun K8=>cF K8 (aj (.cells K8 0 false) jD fun rP bS=>pN (aU T oW [(0,(.ptr p3)),(1,(.ptr p7)),(2,(.ptr (some (l9,0)))),(3,(.ptr (some (rP,0))))]) fun lY=>cF lY (aj (.cells lY 0 false) bS fun Dz kr=>R (.aQ [(.ptr (some (Dz,0))),(.bool ((n4:Int)==0))]) kr)))))
def JW:QA:=(.seq .leaf (.seq .leaf (.seq .leaf .leaf)))
theorem JX  (s:AS) (R:AV→AS→Prop) (h:JV  s R):aa Tryz.prog kF [] s R :=
 aa.q (n:=18) (rs:=[.tmp 0,.tmp 1]) (A:=JW) hT bU Tryz.func13 (by kernel_rfl) rfl rfl rfl (by kernel_rfl) (by kernel_rfl) h
def uu (a0:Option (Nat×Nat)) (a1:List UInt8) (a2:List UInt8) (s:AS) (R:AV→AS→Prop):Prop :=
 ai a0 fun l1 o2=>qi (av s l1 (o2+3)) fun p3=>ai p3 fun l4 o5=>aa Tryz.prog nQ [(.ptr (some (l4,o5))),(.int .i64 1)] s fun v6 s7=>∃ n8:Int,v6=.int .u64 n8∧(pN (aU T iB [(0,(.int .i64 1)),(1,(.int .u64 (IntKind.wrap .u64 (n8+1))))]) fun g9=>aj (.cells [.int .i64 0,.int .u64 0] 0 false) s7 fun nB fI=>fj (some 2) g9 (bu (cN fI nB 0 g9) fun dg=>tW dg fun X C c S V=>ai a0 fun lR we=>(∀ bS:AS,X dg bS→aM bS→ai a0 fun rU EI=>(((.ptr (some (rU,EI))):AV)=(.ptr (some (lR,we)))))∧(qi (av dg lR (we+1)) fun WZ=>(∀ eC:AS,X dg eC→aM eC→qi (av eC lR (we+1)) fun p20=>(((.ptr p20):AV)=(.ptr WZ)))∧(pN (aU T oX [(0,(.str a1)),(1,(.str a2))]) fun wC=>aR (aB dg nB 0 2) fun ng=>(∀ fO:AS,X dg fO→aM fO→aR (aB fO nB 0 2) fun wh=>(((.agg wh):AV)=(.agg ng)))∧((∀ dM:AS,X dg dM→aM dM→(True)→c dM→aa Tryz.prog cX [(.ptr WZ),(.agg wC),(.agg ng)] dM fun K_ mQ=>∃ Ai:AV,∃ La:Int,K_=.aQ [Ai,(.int .i64 La)]∧(((X dM mQ∧C 8 [(.func cX []),(.ptr WZ),(.agg wC),(.agg ng)] (.aQ [Ai,(.int .i64 La)]) mQ)∧S 8 [(.func cX []),(.ptr WZ),(.agg wC),(.agg ng)] (.aQ [Ai,(.int .i64 La)]) mQ∧V 8 [(.func cX []),(.ptr WZ),(.agg wC),(.agg ng)] (.aQ [Ai,(.int .i64 La)]))))∧(∃ v,V 8 [(.func cX []),(.ptr WZ),(.agg wC),(.agg ng)] v)∧∀ v30:AV,V 8 [(.func cX []),(.ptr WZ),(.agg wC),(.agg ng)] v30→∃ wE:AV,∃ n32:Int,v30=.aQ [wE,(.int .i64 n32)]∧(∀ qR:AS,X dg qR→aM qR→(S 8 [(.func cX []),(.ptr WZ),(.agg wC),(.agg ng)] (.aQ [wE,(.int .i64 n32)]) qR∧True)→C 8 [(.func cX []),(.ptr WZ),(.agg wC),(.agg ng)] (.aQ [wE,(.int .i64 n32)]) qR→bw fun J34 =>
 (∀ b35:Bool,∀ oI:AS,J34 [(.bool b35)] oI →
 af b35
 (R (.bool ((n32:Int)==2)) oI)
 (ai a0 fun OV JD=>qi (av oI OV (JD+3)) fun p39=>pN (aU T oX [(0,(.str a1)),(1,(.str a2))]) fun g40=>aR (aB oI nB 0 2) fun WU=>aa Tryz.prog pQ [(.ptr p39),(.agg g40),(.agg WU)] oI fun y4 CR=>R (.bool ((n32:Int)==0)) CR)) ∧
 (aa Tryz.prog jQ [(.str a1)] qR fun Pd xW=>∃ b46:Bool,Pd=.bool b46∧(af (!b46) (J34 [(.bool true)] xW) (aa Tryz.prog jQ [(.str a2)] xW fun Yz U8=>∃ b49:Bool,Yz=.bool b49∧(J34 [(.bool (!b49))] U8))))))))))
def uv:QA:=(.seq .leaf (.seq .leaf (.seq (.vW [0,1,2,3,4,5,6,7,8,9,10,11,12] [13] [[],[],[],[],[],[],[],[],[],[],[],[],[]] [8] [8]) (.seq (.join [(38,.bool)] [(31,38)] .leaf (.cond (.seq .leaf .leaf) .leaf)) (.seq (.draw 8) (.seq .leaf .leaf))))))
theorem uw (a0:Option (Nat×Nat)) (a1:List UInt8) (a2:List UInt8) (s:AS) (R:AV→AS→Prop) (h:uu a0 a1 a2 s R):aa Tryz.prog cS [(.ptr a0),(.str a1),(.str a2)] s R :=
 aa.q (n:=52) (rs:=[.tmp 6]) (A:=uv) hT bU Tryz.func14 (by kernel_rfl) rfl rfl rfl (by kernel_rfl) (by kernel_rfl) h
def Ig  (s:AS) (R:AV→AS→Prop):Prop :=
 aR (cZ T aq 10 [(0,(.int .u8 98)),(1,(.int .u8 101)),(2,(.int .u8 116)),(3,(.int .u8 119)),(4,(.int .u8 101)),(5,(.int .u8 101)),(6,(.int .u8 110)),(7,(.int .u8 32)),(8,(.int .u8 117)),(9,(.int .u8 115))]) fun g1=>aj (.cells g1 1 false) s fun l2 s3=>iG (cP T aq aq (.slc (some (l2,0)) 10 10 true) s3) fun v4 s5=>R v4 s5
def Ih:QA:=(.seq .leaf (.seq .leaf .leaf))
theorem Ii  (s:AS) (R:AV→AS→Prop) (h:Ig  s R):aa Tryz.prog jq [] s R :=
 aa.q (n:=3) (rs:=[.tmp 0]) (A:=Ih) hT bU Tryz.func16 (by kernel_rfl) rfl rfl rfl (by kernel_rfl) (by kernel_rfl) h
def wI (a0:Option (Nat×Nat)) (a1:List UInt8) (s:AS) (R:AV→AS→Prop):Prop :=
 tW s fun X C c S V=>ai a0 fun l2 o3=>(∀ s1:AS,X s s1→aM s1→ai a0 fun l4 o5=>(((.ptr (some (l4,o5))):AV)=(.ptr (some (l2,o3)))))∧(qi (av s l2 o3) fun p7=>(∀ s6:AS,X s s6→aM s6→qi (av s6 l2 o3) fun p8=>(((.ptr p8):AV)=(.ptr p7)))∧(ai a0 fun nB A0=>(∀ s9:AS,X s s9→aM s9→ai a0 fun rP wj=>(((.ptr (some (rP,wj))):AV)=(.ptr (some (nB,A0)))))∧(qi (av s nB (A0+1)) fun p15=>(∀ jT:AS,X s jT→aM jT→qi (av jT nB (A0+1)) fun p16=>(((.ptr p16):AV)=(.ptr p15)))∧((∀ lZ:AS,X s lZ→aM lZ→(True)→aa Tryz.prog cQ [(.ptr p15),(.str a1)] lZ fun tI iD=>(Ext lZ iD∧S 10 [(.func cQ []),(.ptr p15),(.str a1)] tI iD∧V 10 [(.func cQ []),(.ptr p15),(.str a1)] tI))∧(∃ v,V 10 [(.func cQ []),(.ptr p15),(.str a1)] v)∧∀ v20:AV,V 10 [(.func cQ []),(.ptr p15),(.str a1)] v20→(∀ gn:AS,X s gn→aM gn→(S 10 [(.func cQ []),(.ptr p15),(.str a1)] v20 gn∧True)→c gn→aa Tryz.prog bI [(.ptr p7),(.str a1),(.slc none 0 0 true),v20] gn fun qm rO=>∃ wh:List AV,∃ ql:Int,qm=.aQ [(.agg wh),(.int .i64 ql)]∧(((X gn rO∧C 11 [(.func bI []),(.ptr p7),(.str a1),(.slc none 0 0 true),v20] (.aQ [(.agg wh),(.int .i64 ql)]) rO)∧S 11 [(.func bI []),(.ptr p7),(.str a1),(.slc none 0 0 true),v20] (.aQ [(.agg wh),(.int .i64 ql)]) rO∧V 11 [(.func bI []),(.ptr p7),(.str a1),(.slc none 0 0 true),v20] (.aQ [(.agg wh),(.int .i64 ql)]))))∧(∃ v,V 11 [(.func bI []),(.ptr p7),(.str a1),(.slc none 0 0 true),v20] v)∧∀ K_:AV,V 11 [(.func bI []),(.ptr p7),(.str a1),(.slc none 0 0 true),v20] K_→∃ g27:List AV,∃ Jm:Int,K_=.aQ [(.agg g27),(.int .i64 Jm)]∧((∀ z4:AS,X s z4→aM z4→(True)→aj (.cells [.int .i64 0,.int .u64 0,.str [],.slc none 0 0 true,.int .u64 0,.int .u64 0,.int .u64 0,.int .u64 0,.int .u64 0,.int .u64 0,.int .u64 0,.int .u64 0,.int .u64 0,.int .u64 0,.int .u64 0,.int .u64 0,.int .u64 0,.int .u64 0,.int .u64 0,.int .u64 0,.slc none 0 0 true] 0 false) z4 fun Si nA=>(Ext z4 nA∧S 15 [] (.ptr (some (Si,0))) nA∧V 15 [] (.ptr (some (Si,0)))))∧(∃ v,V 15 [] v)∧∀ Vn:AV,V 15 [] Vn→∃ p33:Option (Nat×Nat),Vn=.ptr p33∧(∀ ku:AS,X s ku→aM ku→(S 10 [(.func cQ []),(.ptr p15),(.str a1)] v20 ku∧(S 11 [(.func bI []),(.ptr p7),(.str a1),(.slc none 0 0 true),v20] (.aQ [(.agg g27),(.int .i64 Jm)]) ku∧(S 15 [] (.ptr p33) ku∧True)))→C 11 [(.func bI []),(.ptr p7),(.str a1),(.slc none 0 0 true),v20] (.aQ [(.agg g27),(.int .i64 Jm)]) ku→ai p33 fun Pe MC=>fj (some 21) g27 (bu (cN ku Pe MC g27) fun k5=>tW k5 fun X C c S V=>ai a0 fun VF VG=>(∀ xT:AS,X k5 xT→aM xT→ai a0 fun AZ NO=>(((.ptr (some (AZ,NO))):AV)=(.ptr (some (VF,VG)))))∧(qi (av k5 VF (VG+2)) fun T2=>(∀ CR:AS,X k5 CR→aM CR→qi (av CR VF (VG+2)) fun p45=>(((.ptr p45):AV)=(.ptr T2)))∧(ai a0 fun Va Vb=>(∀ qQ:AS,X k5 qQ→aM qQ→ai a0 fun WO o50=>(((.ptr (some (WO,o50))):AV)=(.ptr (some (Va,Vb)))))∧(qi (av k5 Va (Vb+3)) fun p52=>(∀ YH:AS,X k5 YH→aM YH→qi (av YH Va (Vb+3)) fun p53=>(((.ptr p53):AV)=(.ptr p52)))∧((∀ tH:AS,X k5 tH→aM tH→(True)→aa Tryz.prog cR [(.ptr p52),(.str a1)] tH fun Jn zC=>(Ext tH zC∧S 10 [(.func cR []),(.ptr p52),(.str a1)] Jn zC∧V 10 [(.func cR []),(.ptr p52),(.str a1)] Jn))∧(∃ v,V 10 [(.func cR []),(.ptr p52),(.str a1)] v)∧∀ MD:AV,V 10 [(.func cR []),(.ptr p52),(.str a1)] MD→(∀ QW:AS,X k5 QW→aM QW→(S 10 [(.func cR []),(.ptr p52),(.str a1)] MD QW∧True)→c QW→aa Tryz.prog bF [(.ptr T2),(.str a1),(.slc none 0 0 true),MD] QW fun v59 s60=>∃ g61:List AV,∃ b62:Bool,v59=.aQ [(.agg g61),(.bool b62)]∧(((X QW s60∧C 11 [(.func bF []),(.ptr T2),(.str a1),(.slc none 0 0 true),MD] (.aQ [(.agg g61),(.bool b62)]) s60)∧S 11 [(.func bF []),(.ptr T2),(.str a1),(.slc none 0 0 true),MD] (.aQ [(.agg g61),(.bool b62)]) s60∧V 11 [(.func bF []),(.ptr T2),(.str a1),(.slc none 0 0 true),MD] (.aQ [(.agg g61),(.bool b62)]))))∧(∃ v,V 11 [(.func bF []),(.ptr T2),(.str a1),(.slc none 0 0 true),MD] v)∧∀ v63:AV,V 11 [(.func bF []),(.ptr T2),(.str a1),(.slc none 0 0 true),MD] v63→∃ g64:List AV,∃ b65:Bool,v63=.aQ [(.agg g64),(.bool b65)]∧((∀ Mt:AS,X k5 Mt→aM Mt→(True)→aj (.cells [.int .i64 0,.int .u64 0,.str [],.slc none 0 0 true,.int .u64 0,.int .u64 0,.int .u64 0,.int .u64 0,.int .u64 0,.int .u64 0,.int .u64 0,.int .u64 0,.int .u64 0,.int .u64 0,.int .u64 0,.int .u64 0,.int .u64 0,.int .u64 0,.int .u64 0,.int .u64 0,.slc none 0 0 true] 0 false) Mt fun l67 QX=>(Ext Mt QX∧S 15 [] (.ptr (some (l67,0))) QX∧V 15 [] (.ptr (some (l67,0)))))∧(∃ v,V 15 [] v)∧∀ v69:AV,V 15 [] v69→∃ p70:Option (Nat×Nat),v69=.ptr p70∧(∀ s71:AS,X k5 s71→aM s71→(S 10 [(.func cR []),(.ptr p52),(.str a1)] MD s71∧(S 11 [(.func bF []),(.ptr T2),(.str a1),(.slc none 0 0 true),MD] (.aQ [(.agg g64),(.bool b65)]) s71∧(S 15 [] (.ptr p70) s71∧True)))→C 11 [(.func bF []),(.ptr T2),(.str a1),(.slc none 0 0 true),MD] (.aQ [(.agg g64),(.bool b65)]) s71→ai p70 fun l72 o73=>fj (some 21) g64 (bu (cN s71 l72 o73 g64) fun s74=>R (.bool ((b65:Bool)==((Jm:Int)==0))) s74))))))))))))))
def wJ:QA:=(.seq .leaf (.seq (.vW [0,1,2,3,4,5,6,7,8,9,10,11,12,13,14,15] [16,17] [[],[],[],[],[],[],[],[],[],[],[],[10],[],[],[],[],[],[]] [10,11,15] [11]) (.seq (.vW [0,1,2,3,4,5,6,7,8,9,10,11,12,13,14,15] [16,17] [[],[],[],[],[],[],[],[],[],[],[],[10],[],[],[],[],[],[]] [10,11,15] [11]) (.seq .leaf .leaf))))
theorem wK (a0:Option (Nat×Nat)) (a1:List UInt8) (s:AS) (R:AV→AS→Prop) (h:wI a0 a1 s R):aa Tryz.prog de [(.ptr a0),(.str a1)] s R :=
 aa.q (n:=43) (rs:=[.tmp 4]) (A:=wJ) hT bU Tryz.func17 (by kernel_rfl) rfl rfl rfl (by kernel_rfl) (by kernel_rfl) h
def DA (a0:AV) (a1:List UInt8) (a2:List UInt8) (s:AS) (R:AV→AS→Prop):Prop :=
 bw fun J1 =>
 (∀ b2:Bool,∀ s3:AS,J1 [(.bool b2)] s3 →
 af b2
 (aa Tryz.prog oG [] s3 fun v4 s5=>∃ b6:Bool,v4=.bool b6∧(R (.bool b6) s5))
 (aa Tryz.prog kF [] s3 fun v7 s8=>∃ p9:Option (Nat×Nat),∃ VD:Bool,v7=.aQ [(.ptr p9),(.bool VD)]∧(af (!VD) (R (.bool false) s8) (aa Tryz.prog cS [(.ptr p9),(.str a1),(.str a2)] s8 fun v11 dg=>∃ Jk:Bool,v11=.bool Jk∧(af (!Jk)
 (R (.bool false) dg)
 (bw fun J14 =>
 (∀ wR:Int,∀ kr:AS,J14 [(.int .i64 wR)] kr →
 aa Tryz.prog jq [] kr fun o_ eC=>aa Tryz.prog q9 [o_] eC fun wT fN=>∃ p21:Option (Nat×Nat),wT=.ptr p21∧(aa Tryz.prog eD [(.ptr p21),(.str a2),(.slc none 0 0 true)] fN fun qm rO=>∃ yN:Int,qm=.int .i64 yN∧(af ((yN:Int) != 0)
 (R (.bool false) rO)
 (ai p9 fun Ji K6=>qi (av rO Ji K6) fun p27=>ai p9 fun Dh Jy=>qi (av rO Dh (Jy+1)) fun p30=>aa Tryz.prog jR [(.ptr p21),(.str a2),(.ptr p27),(.ptr p30)] rO fun wE lS=>∃ Mn:Int,∃ n34:Int,wE=.aQ [(.int .i64 Mn),(.int .i64 n34)]∧(bw fun J35 =>
 (∀ Zi:Int,∀ k5:AS,J35 [(.int .i64 Zi)] k5 →
 af ((n34:Int)==0) (af ((Mn:Int)==wR) (af ((Zi:Int)==wR) (aa Tryz.prog oG [] k5 fun HX yM=>∃ b40:Bool,HX=.bool b40∧(R (.bool b40) yM)) (R (.bool false) k5)) (R (.bool false) k5)) (R (.bool false) k5)) ∧
 (bC fun I41 m42=>I41 m42 [(.int .i64 0),(.int .i64 0)] lS ∧
 ∀ Sj:Nat,∀ n44:Int,∀ n45:Int,∀ qQ:AS,I41 Sj [(.int .i64 n44),(.int .i64 n45)] qQ →
 af (decide ((n45:Int)<6))
 (ai p9 fun Va Vb=>qi (av qQ Va Vb) fun p49=>ai p9 fun l50 o51=>qi (av qQ l50 (o51+1)) fun p52=>aa Tryz.prog fA [(.ptr p21),(.str a2),(.int .i64 16),(.ptr p49),(.ptr p52)] qQ fun v53 tH=>∃ Jn:AV,∃ n56:Int,v53=.aQ [Jn,(.int .i64 n56)]∧(af ((n56:Int) != 0)
 (R (.bool false) tH)
 (aW .i64 (aP T bO Jn tH) fun n57=>∃ m',m'<Sj∧I41 m' [(.int .i64 (IntKind.wrap .i64 (n44+n57))),(.int .i64 (IntKind.wrap .i64 (n45+1)))] tH)))
 (J35 [(.int .i64 n44)] qQ))))))) ∧
 (bC fun QO m59=>QO m59 [(.int .i64 0),(.int .i64 0)] dg ∧
 ∀ WR:Nat,∀ EJ:Int,∀ WS:Int,∀ A3:AS,QO WR [(.int .i64 EJ),(.int .i64 WS)] A3 →
 aW .i64 (aP T ue a0 A3) fun n64=>af (decide ((WS:Int)<n64))
 (bw fun J65 =>
 (∀ b66:Bool,∀ n67:Int,∀ QX:AS,J65 [(.bool b66),(.int .i64 n67)] QX →
 af (!b66)
 (R (.bool false) QX)
 (∃ m',m'<WR∧QO m' [(.int .i64 n67),(.int .i64 (IntKind.wrap .i64 (WS+1)))] QX)) ∧
 (bH (ag T ue a0 (.int .i64 WS)) fun l69 o70=>Rp (av A3 l69 o70) fun b71=>af b71
 (aa Tryz.prog cS [(.ptr p9),(.str a1),(.str a2)] A3 fun v72 s73=>∃ b74:Bool,v72=.bool b74∧(J65 [(.bool b74),(.int .i64 EJ)] s73))
 (aa Tryz.prog de [(.ptr p9),(.str a1)] A3 fun v75 s76=>∃ b77:Bool,v75=.bool b77∧(J65 [(.bool b77),(.int .i64 (IntKind.wrap .i64 (EJ+1)))] s76))))
 (J14 [(.int .i64 EJ)] A3)))))))) ∧
 (aW .i64 (aP T ue a0 s) fun n78=>af (decide ((n78:Int)>40)) (J1 [(.bool true)] s) (aa Tryz.prog jQ [(.str a1)] s fun v79 s80=>∃ b81:Bool,v79=.bool b81∧(af (!b81) (J1 [(.bool true)] s80) (aa Tryz.prog jQ [(.str a2)] s80 fun v82 s83=>∃ b84:Bool,v82=.bool b84∧(J1 [(.bool (!b84))] s83)))))
def DB:QA:=(.seq .leaf (.seq (.join [(30,.bool)] [(18,30)] .leaf (.cond (.seq .leaf .leaf) .leaf)) (.seq .leaf (.seq (.seq .leaf (.cond (.seq .leaf .leaf) .leaf)) (.seq .leaf (.join [(9,.int .i64)] [(6,6),(8,10),(45,65)] (.seq .leaf (.wrap (.loop [(9,.int .i64),(10,.int .i64)] [(6,6),(8,10),(45,65)] (.seq (.seq .leaf (.cond .leaf .leaf)) (.seq (.wrap (.join [(8,.bool),(9,.int .i64)] [(8,9),(51,63)] (.seq .leaf (.cond .leaf (.seq .leaf .leaf))) (.seq .leaf (.cond (.seq .leaf .leaf) .leaf)))) .leaf))))) (.seq .leaf (.seq (.seq .leaf (.cond (.seq .leaf .leaf) .leaf)) (.seq .calm (.seq .leaf (.join [(14,.int .i64)] [(6,6),(14,17),(86,109)] (.seq .leaf (.wrap (.loop [(14,.int .i64),(15,.int .i64)] [(6,6),(14,17),(86,109)] (.seq (.seq .leaf (.cond .leaf .leaf)) (.seq (.wrap (.seq .calm (.seq (.seq .leaf (.cond (.seq .leaf .leaf) .leaf)) .leaf))) .leaf))))) (.seq .leaf .leaf))))))))))))
theorem DC (a0:AV) (a1:List UInt8) (a2:List UInt8) (s:AS) (R:AV→AS→Prop) (h:DA a0 a1 a2 s R):aa Tryz.prog jP [a0,(.str a1),(.str a2)] s R :=
 aa.q (n:=125) (rs:=[.tmp 6]) (A:=DB) hT bU Tryz.func5 (by kernel_rfl) rfl rfl rfl (by kernel_rfl) (by kernel_rfl) h
end Go.Proofs.YtohgmogbabkkeaaGreat
end

section
set_option maxRecDepth 100000
set_option maxHeartbeats 4000000
namespace Go.Proofs.YtohgmogbabkkeaaGreat
open Go.Am
def Ak (a0:Option (Nat×Nat)) (a1:List AV) (s:AS) (R:AV→AS→Prop):Prop :=
 cF a1 (aj (.cells a1 0 false) s fun l1 s2=>aR (aB s2 l1 0 2) fun g3=>aa Tryz.prog sk [(.agg g3)] s2 fun v4 s5=>∃ b6:Bool,v4=.bool b6∧(af (!b6) (R (.bool false) s5) (aW .i64 (av s5 l1 0) fun n7=>ai a0 fun l8 o9=>aW .i64 (av s5 l8 o9) fun j9=>af (decide ((n7:Int)>j9)) (R (.bool false) s5) (Jh (av s5 l1 2) fun x11=>aa Tryz.prog qs [(.str x11)] s5 fun i_ bS=>∃ FB:Bool,i_=.bool FB∧(af (!FB) (R (.bool false) bS) (dJ (av bS l1 3) fun yV=>aW .i64 (aP T aq yV bS) fun vg=>af (decide ((vg:Int)>512)) (R (.bool false) bS) (dJ (av bS l1 20) fun o_=>aW .i64 (aP T bR o_ bS) fun JF=>af (decide ((JF:Int)>1024)) (R (.bool false) bS) (aW .i64 (av bS l1 0) fun z3=>bH (ag T bg (.ptr (some (l1,4))) (.int .i64 (IntKind.wrap .i64 (z3 - 1)))) fun CP Mo=>aW .u64 (av bS CP Mo) fun QK=>aW .u64 (av bS l1 1) fun uj=>af ((QK:Int) != (IntKind.wrap .u64 (uj - 1)))
 (R (.bool false) bS)
 (bw fun J24 =>
 (∀ dM:AS,J24 [] dM →
 bC fun I26 m27=>I26 m27 [(.int .i64 0)] dM ∧
 ∀ m28:Nat,∀ La:Int,∀ kL:AS,I26 m28 [(.int .i64 La)] kL →
 dJ (av kL l1 20) fun wE=>aW .i64 (aP T bR wE kL) fun n32=>af (decide ((La:Int)<n32))
 (dJ (av kL l1 20) fun qk=>bH (ag T bR qk (.int .i64 La)) fun HW JB=>aR (aB kL HW JB 2) fun g36=>aa Tryz.prog sk [(.agg g36)] kL fun v37 xT=>∃ W_:Bool,v37=.bool W_∧(af (!W_) (R (.bool false) xT) (dJ (av xT l1 20) fun yW=>bH (ag T bR yW (.int .i64 La)) fun AZ NO=>Jh (av xT AZ (NO+2)) fun x43=>aa Tryz.prog qs [(.str x43)] xT fun Pd xW=>∃ b46:Bool,Pd=.bool b46∧(af (!b46) (R (.bool false) xW) (af (decide ((La:Int)>0)) (dJ (av xW l1 20) fun Yz=>bH (ag T bR Yz (.int .i64 (IntKind.wrap .i64 (La - 1)))) fun l48 o49=>aR (aB xW l48 o49 2) fun g50=>dJ (av xW l1 20) fun Aj=>bH (ag T bR Aj (.int .i64 La)) fun WQ o53=>aR (aB xW WQ o53 2) fun Y1=>aa Tryz.prog u5 [(.agg g50),(.agg Y1)] xW fun Jn zC=>∃ b57:Bool,Jn=.bool b57∧(af (!b57)
 (R (.bool false) zC)
 (∃ m',m'<m28∧I26 m' [(.int .i64 (IntKind.wrap .i64 (La+1)))] zC))) (∃ m',m'<m28∧I26 m' [(.int .i64 (IntKind.wrap .i64 (La+1)))] xW))))))
 (R (.bool true) kL)) ∧
 (bC fun QO m59=>QO m59 [(.int .i64 0)] bS ∧
 ∀ WR:Nat,∀ EJ:Int,∀ BF:AS,QO WR [(.int .i64 EJ)] BF →
 af (decide ((EJ:Int)<16))
 (bH (ag T bg (.ptr (some (l1,4))) (.int .i64 EJ)) fun l63 o64=>aW .u64 (av BF l63 o64) fun n65=>af (decide ((n65:Int)>4611686018427387904)) (R (.bool false) BF) (ai a0 fun l66 o67=>aW .i64 (av BF l66 o67) fun Jj=>af (decide ((EJ:Int)≥Jj)) (bH (ag T bg (.ptr (some (l1,4))) (.int .i64 EJ)) fun l69 o70=>aW .u64 (av BF l69 o70) fun n71=>af ((n71:Int) != 0)
 (R (.bool false) BF)
 (∃ m',m'<WR∧QO m' [(.int .i64 (IntKind.wrap .i64 (EJ+1)))] BF)) (∃ m',m'<WR∧QO m' [(.int .i64 (IntKind.wrap .i64 (EJ+1)))] BF)))
 (J24 [] BF)))))))))))
def Al:QA:=(.seq .leaf (.seq (.seq .calm (.cond (.seq .leaf .leaf) .leaf)) (.join [] [(4,5),(53,76)] (.seq .leaf (.wrap (.loop [(5,.int .i64)] [(4,5),(53,76)] (.seq (.seq .leaf (.cond .leaf .leaf)) (.seq (.wrap (.seq .leaf (.cond (.seq .leaf .leaf) .leaf))) .leaf))))) (.seq (.seq .leaf (.wrap (.loop [(6,.int .i64)] [(4,4),(6,6),(77,122)] (.seq (.seq .leaf (.cond .leaf .leaf)) (.seq (.wrap (.seq .calm (.cond (.seq .leaf .leaf) .leaf))) .leaf))))) (.seq .leaf .leaf)))))
theorem An (a0:Option (Nat×Nat)) (a1:List AV) (s:AS) (R:AV→AS→Prop) (h:Ak a0 a1 s R):aa Tryz.prog lz [(.ptr a0),(.agg a1)] s R :=
 aa.q (n:=123) (rs:=[.tmp 4]) (A:=Al) hT bU Tryz.func29 (by kernel_rfl) rfl rfl rfl (by kernel_rfl) (by kernel_rfl) h
def Pf (a0:List AV) (s:AS) (R:AV→AS→Prop):Prop :=
 cF a0 (aj (.cells a0 0 false) s fun l1 s2=>aW .i64 (av s2 l1 0) fun n3=>af (decide ((n3:Int)≥1)) (aW .i64 (av s2 l1 0) fun n4=>af (decide ((n4:Int)≤16)) (aW .u64 (av s2 l1 1) fun n5=>af (decide ((n5:Int)≥1)) (aW .u64 (av s2 l1 1) fun n6=>R (.bool (decide ((n6:Int)≤4611686018427387904))) s2) (R (.bool false) s2)) (R (.bool false) s2)) (R (.bool false) s2))
def Pg:QA:=(.seq .leaf (.seq .leaf .leaf))
theorem Ph (a0:List AV) (s:AS) (R:AV→AS→Prop) (h:Pf a0 s R):aa Tryz.prog sk [(.agg a0)] s R :=
 aa.q (n:=21) (rs:=[.tmp 2]) (A:=Pg) hT bU Tryz.func99 (by kernel_rfl) rfl rfl rfl (by kernel_rfl) (by kernel_rfl) h
def ME (a0:List UInt8) (s:AS) (R:AV→AS→Prop):Prop :=
 aW .i64 (aP T cq (.str a0) s) fun n1=>af (decide ((n1:Int)≥1)) (aW .i64 (aP T cq (.str a0) s) fun n2=>R (.bool (decide ((n2:Int)≤32))) s) (R (.bool false) s)
def MF:QA:=(.seq .leaf (.seq .leaf .leaf))
theorem MG (a0:List UInt8) (s:AS) (R:AV→AS→Prop) (h:ME a0 s R):aa Tryz.prog qs [(.str a0)] s R :=
 aa.q (n:=11) (rs:=[.tmp 2]) (A:=MF) hT bU Tryz.func100 (by kernel_rfl) rfl rfl rfl (by kernel_rfl) (by kernel_rfl) h
def MH (a0:List AV) (a1:List AV) (s:AS) (R:AV→AS→Prop):Prop :=
 cF a0 (aj (.cells a0 0 false) s fun l1 s2=>cF a1 (aj (.cells a1 0 false) s2 fun l3 s4=>aW .i64 (av s4 l1 0) fun n5=>aW .i64 (av s4 l3 0) fun n6=>af (decide ((n5:Int)<n6)) (R (.bool true) s4) (aW .i64 (av s4 l1 0) fun n7=>aW .i64 (av s4 l3 0) fun n8=>af ((n7:Int)==n8) (aW .u64 (av s4 l1 1) fun n9=>aW .u64 (av s4 l3 1) fun j9=>R (.bool (decide ((n9:Int)<j9))) s4) (R (.bool false) s4))))
def MI:QA:=(.seq .leaf (.seq .leaf .leaf))
theorem MJ (a0:List AV) (a1:List AV) (s:AS) (R:AV→AS→Prop) (h:MH a0 a1 s R):aa Tryz.prog u5 [(.agg a0),(.agg a1)] s R :=
 aa.q (n:=24) (rs:=[.tmp 4]) (A:=MI) hT bU Tryz.func101 (by kernel_rfl) rfl rfl rfl (by kernel_rfl) (by kernel_rfl) h
def vz (a0:Option (Nat×Nat)) (a1:List UInt8) (a2:AV) (a3:AV) (s:AS) (R:AV→AS→Prop):Prop :=
 aj (.cells [.int .i64 0,.int .u64 0,.str [],.slc none 0 0 true,.int .u64 0,.int .u64 0,.int .u64 0,.int .u64 0,.int .u64 0,.int .u64 0,.int .u64 0,.int .u64 0,.int .u64 0,.int .u64 0,.int .u64 0,.int .u64 0,.int .u64 0,.int .u64 0,.int .u64 0,.int .u64 0,.slc none 0 0 true] 0 false) s fun l1 s2=>gu fun S V=>ai a0 fun l3 o4=>aW .i64 (av s2 l3 (o4+1)) fun n5=>ai a0 fun l6 o7=>aW .i64 (av s2 l6 (o7+1)) fun n8=>ai a0 fun l9 Dq=>bH (ag T c_ (.ptr (some (l9,(Dq+2)))) (.int .i64 (IntKind.wrap .i64 (n8 - 1)))) fun Dg yU=>aW .u64 (av s2 Dg yU) fun wu=>pN (aU T iB [(0,(.int .i64 n5)),(1,(.int .u64 (IntKind.wrap .u64 (wu+1))))]) fun lY=>(∀ f_:AS,Ext s2 f_→aM f_→(True)→iG (aJ T aq aq (.slc none 0 0 true) a2 f_) fun oh lZ=>(Ext f_ lZ∧S 18 [(.slc none 0 0 true),a2] oh lZ∧V 18 [(.slc none 0 0 true),a2] oh))∧(∃ v,V 18 [(.slc none 0 0 true),a2] v)∧∀ tI:AV,V 18 [(.slc none 0 0 true),a2] tI→ai a0 fun A1 Fi=>aR (aB s2 A1 (Fi+2) 16) fun wC=>(∀ fO:AS,Ext s2 fO→aM fO→(S 18 [(.slc none 0 0 true),a2] tI fO∧True)→iG (aJ T bR bR (.slc none 0 0 true) a3 fO) fun Jl qx=>(Ext fO qx∧S 24 [(.slc none 0 0 true),a3] Jl qx∧V 24 [(.slc none 0 0 true),a3] Jl))∧(∃ v,V 24 [(.slc none 0 0 true),a3] v)∧∀ WT:AV,V 24 [(.slc none 0 0 true),a3] WT→pN (aU T g_ [(0,(.agg lY)),(1,(.str a1)),(2,tI),(3,(.agg wC)),(4,WT)]) fun Fx=>(∀ mQ:AS,Ext s2 mQ→aM mQ→(True)→aj (.cells [.int .i64 0,.int .u64 0,.str [],.slc none 0 0 true,.int .u64 0,.int .u64 0,.int .u64 0,.int .u64 0,.int .u64 0,.int .u64 0,.int .u64 0,.int .u64 0,.int .u64 0,.int .u64 0,.int .u64 0,.int .u64 0,.int .u64 0,.int .u64 0,.int .u64 0,.int .u64 0,.slc none 0 0 true] 0 false) mQ fun Dh z4=>(Ext mQ z4∧S 26 [] (.ptr (some (Dh,0))) z4∧V 26 [] (.ptr (some (Dh,0)))))∧(∃ v,V 26 [] v)∧∀ v30:AV,V 26 [] v30→∃ p31:Option (Nat×Nat),v30=.ptr p31∧(∀ lS:AS,Ext s2 lS→aM lS→(S 18 [(.slc none 0 0 true),a2] tI lS∧(S 24 [(.slc none 0 0 true),a3] WT lS∧(S 26 [] (.ptr p31) lS∧True)))→ai p31 fun HW JB=>fj (some 21) Fx (bu (cN lS HW JB Fx) fun oI=>ai p31 fun OV JD=>aR (aB oI OV JD 21) fun g39=>aa Tryz.prog lz [(.ptr a0),(.agg g39)] oI fun yW Fj=>∃ b42:Bool,yW=.bool b42∧(af (!b42)
 (pN (aU T g_ []) fun Dl=>fj (some 21) Dl (bu (cN Fj l1 0 Dl) fun FC=>aR (aB FC l1 0 21) fun VH=>R (.aQ [(.agg VH),(.bool false)]) FC))
 (ai p31 fun l46 o47=>aR (aB Fj l46 o47 21) fun JE=>aa Tryz.prog jt [(.ptr a0),(.agg JE)] Fj fun v49 pG=>v49=.aQ []∧(ai p31 fun l51 o52=>aR (aB pG l51 o52 21) fun g53=>fj (some 21) g53 (bu (cN pG l1 0 g53) fun tH=>aR (aB tH l1 0 21) fun g55=>R (.aQ [(.agg g55),(.bool true)]) tH))))))
def vA:QA:=(.seq .leaf (.seq (.gL 27 [[],[],[],[],[],[],[],[],[],[],[],[],[],[],[],[],[],[],[],[],[],[],[],[],[18],[],[]] [18,24,26]) (.seq (.seq .leaf (.cond (.seq .leaf .leaf) .leaf)) (.seq .leaf (.seq .leaf .leaf)))))
theorem vB (a0:Option (Nat×Nat)) (a1:List UInt8) (a2:AV) (a3:AV) (s:AS) (R:AV→AS→Prop) (h:vz a0 a1 a2 a3 s R):aa Tryz.prog bF [(.ptr a0),(.str a1),a2,a3] s R :=
 aa.q (n:=46) (rs:=[.cell 8 52,.tmp 9]) (A:=vA) hT bU Tryz.func73 (by kernel_rfl) rfl rfl rfl (by kernel_rfl) (by kernel_rfl) h
def x4 (a0:Option (Nat×Nat)) (a1:List AV) (s:AS) (R:AV→AS→Prop):Prop :=
 cF a1 (aj (.cells a1 0 false) s fun l1 s2=>aW .i64 (av s2 l1 0) fun n3=>ai a0 fun l4 o5=>bH (ag T c_ (.ptr (some (l4,(o5+2)))) (.int .i64 (IntKind.wrap .i64 (n3 - 1)))) fun l6 o7=>aW .u64 (av s2 l6 o7) fun n8=>ai a0 fun l9 Dq=>bH (ag T c_ (.ptr (some (l9,(Dq+2)))) (.int .i64 (IntKind.wrap .i64 (n3 - 1)))) fun Dg yU=>bu (cN s2 Dg yU [(.int .u64 (IntKind.wrap .u64 (n8+1)))]) fun bS=>tW bS fun X C c S V=>ai a0 fun Dz FD=>(∀ jT:AS,X bS jT→aM jT→ai a0 fun j_ wz=>(((.ptr (some (j_,wz))):AV)=(.ptr (some (Dz,FD)))))∧(dJ (av bS Dz (FD+18)) fun v20=>(∀ iD:AS,X bS iD→aM iD→dJ (av iD Dz (FD+18)) fun Mq=>((Mq:AV)=v20))∧(aR (aB bS l1 0 21) fun ng=>(∀ fO:AS,X bS fO→aM fO→aR (aB fO l1 0 21) fun wh=>(((.agg wh):AV)=(.agg ng)))∧((∀ dM:AS,X bS dM→aM dM→(True)→aR (cZ T bO 1 [(0,(.agg ng))]) fun Fx=>aj (.cells Fx 0 false) dM fun GR rA=>(Ext dM rA∧S 6 [(.agg ng)] (.slc (some (GR,0)) 1 1 true) rA∧V 6 [(.agg ng)] (.slc (some (GR,0)) 1 1 true)))∧(∃ v,V 6 [(.agg ng)] v)∧∀ mb:AV,V 6 [(.agg ng)] mb→(∀ kL:AS,X bS kL→aM kL→(S 6 [(.agg ng)] mb kL∧True)→c kL→iG (aJ T bO bO v20 mb kL) fun wE lS=>((X kL lS∧C 7 [v20,mb] wE lS)∧S 7 [v20,mb] wE lS∧V 7 [v20,mb] wE))∧(∃ v,V 7 [v20,mb] v)∧∀ qk:AV,V 7 [v20,mb] qk→∀ ku:AS,X bS ku→aM ku→(S 6 [(.agg ng)] mb ku∧(S 7 [v20,mb] qk ku∧True))→C 7 [v20,mb] qk ku→ai a0 fun Pe MC=>fD T bO ku Pe (MC+18) qk fun k5=>tW k5 fun X C c S V=>ai a0 fun VF VG=>(∀ xT:AS,X k5 xT→aM xT→ai a0 fun AZ NO=>(((.ptr (some (AZ,NO))):AV)=(.ptr (some (VF,VG)))))∧(dJ (av k5 VF (VG+19)) fun Pd=>(∀ CR:AS,X k5 CR→aM CR→dJ (av CR VF (VG+19)) fun v45=>((v45:AV)=Pd))∧(ai a0 fun Va Vb=>(∀ qQ:AS,X k5 qQ→aM qQ→ai a0 fun WO o50=>(((.ptr (some (WO,o50))):AV)=(.ptr (some (Va,Vb)))))∧(aR (aB k5 Va (Vb+2) 16) fun JY=>(∀ YH:AS,X k5 YH→aM YH→aR (aB YH Va (Vb+2) 16) fun g53=>(((.agg g53):AV)=(.agg JY)))∧((∀ tH:AS,X k5 tH→aM tH→(True)→aR (cZ T bp 1 [(0,(.agg JY))]) fun g55=>aj (.cells g55 0 false) tH fun l56 WK=>(Ext tH WK∧S 9 [(.agg JY)] (.slc (some (l56,0)) 1 1 true) WK∧V 9 [(.agg JY)] (.slc (some (l56,0)) 1 1 true)))∧(∃ v,V 9 [(.agg JY)] v)∧∀ CO:AV,V 9 [(.agg JY)] CO→(∀ vl:AS,X k5 vl→aM vl→(S 9 [(.agg JY)] CO vl∧True)→c vl→iG (aJ T bp bp Pd CO vl) fun v60 MK=>((X vl MK∧C 10 [Pd,CO] v60 MK)∧S 10 [Pd,CO] v60 MK∧V 10 [Pd,CO] v60))∧(∃ v,V 10 [Pd,CO] v)∧∀ WM:AV,V 10 [Pd,CO] WM→∀ A3:AS,X k5 A3→aM A3→(S 9 [(.agg JY)] CO A3∧(S 10 [Pd,CO] WM A3∧True))→C 10 [Pd,CO] WM A3→ai a0 fun l64 o65=>fD T bp A3 l64 (o65+19) WM fun Mt=>R (.aQ []) Mt))))))))
def x6:QA:=(.seq .leaf (.seq (.draw 12) (.seq (.vW [0,1,2,3,4,5,6,7] [8,9,10] [[],[],[],[],[],[],[],[6]] [6,7] [7]) (.vW [0,1,2,3,4,5,6,7,8,9,10] [11,12,13] [[],[],[],[],[],[],[],[],[],[],[9]] [9,10] [10]))))
theorem x9 (a0:Option (Nat×Nat)) (a1:List AV) (s:AS) (R:AV→AS→Prop) (h:x4 a0 a1 s R):aa Tryz.prog jt [(.ptr a0),(.agg a1)] s R :=
 aa.q (n:=40) (rs:=[]) (A:=x6) hT bU Tryz.func108 (by kernel_rfl) rfl rfl rfl (by kernel_rfl) (by kernel_rfl) h
def DD (a0:Option (Nat×Nat)) (a1:Int) (s:AS) (R:AV→AS→Prop):Prop :=
 ai a0 fun l1 o2=>bH (ag T c_ (.ptr (some (l1,o2))) (.int .i64 (IntKind.wrap .i64 (a1 - 1)))) fun l3 o4=>aW .u64 (av s l3 o4) fun n5=>bC fun I6 m7=>I6 m7 [(.int .u64 n5),(.int .i64 0)] s ∧
 ∀ m8:Nat,∀ n9:Int,∀ j9:Int,∀ fI:AS,I6 m8 [(.int .u64 n9),(.int .i64 j9)] fI →
 ai a0 fun rP wj=>dJ (av fI rP (wj+16)) fun tK=>aW .i64 (aP T az tK fI) fun wR=>af (decide ((j9:Int)<wR))
 (bw fun J16 =>
 (∀ b17:Bool,∀ eC:AS,J16 [(.bool b17)] eC →
 af b17
 (ai a0 fun A1 Fi=>dJ (av eC A1 (Fi+16)) fun Mq=>bH (ag T az Mq (.int .i64 j9)) fun BG GQ=>aW .u64 (av eC BG (GQ+1)) fun yN=>∃ m',m'<m8∧I6 m' [(.int .u64 yN),(.int .i64 (IntKind.wrap .i64 (j9+1)))] eC)
 (∃ m',m'<m8∧I6 m' [(.int .u64 n9),(.int .i64 (IntKind.wrap .i64 (j9+1)))] eC)) ∧
 (ai a0 fun Ji K6=>dJ (av fI Ji (K6+16)) fun K4=>bH (ag T az K4 (.int .i64 j9)) fun Dh Jy=>aW .i64 (av fI Dh Jy) fun A4=>af ((A4:Int)==a1) (ai a0 fun Yy TP=>dJ (av fI Yy (TP+16)) fun qk=>bH (ag T az qk (.int .i64 j9)) fun HW JB=>aW .u64 (av fI HW (JB+1)) fun Zi=>J16 [(.bool (decide ((Zi:Int)>n9)))] fI) (J16 [(.bool false)] fI)))
 (R (.int .u64 n9) fI)
def DE:QA:=(.seq .leaf (.seq .leaf (.seq (.seq .leaf (.wrap (.loop [(5,.int .u64),(6,.int .i64)] [(5,6),(14,52)] (.seq (.seq .leaf (.cond .leaf .leaf)) (.seq (.wrap (.join [(44,.bool)] [(23,44)] .leaf (.cond .leaf .leaf))) .leaf))))) (.seq .leaf .leaf))))
theorem DF (a0:Option (Nat×Nat)) (a1:Int) (s:AS) (R:AV→AS→Prop) (h:DD a0 a1 s R):aa Tryz.prog nQ [(.ptr a0),(.int .i64 a1)] s R :=
 aa.q (n:=54) (rs:=[.tmp 4]) (A:=DE) hT bU Tryz.func67 (by kernel_rfl) rfl rfl rfl (by kernel_rfl) (by kernel_rfl) h
end Go.Proofs.YtohgmogbabkkeaaGreat
end

section
set_option maxRecDepth 100000
set_option maxHeartbeats 4000000
namespace Go.Proofs.YtohgmogbabkkeaaGreat
open Go.Am
def Sk (a0:Int) (a1:Int) (s:AS) (R:AV→AS→Prop):Prop :=
 bw fun J1 =>
 (∀ b2:Bool,∀ s3:AS,J1 [(.bool b2)] s3 →
 af b2
 (R (.aQ [(.ptr none),(.int .i64 2)]) s3)
 (aj (.map [] 0 false) s3 fun l4 s5=>pN (aU T tg [(0,(.int .i64 a0)),(1,(.int .i64 a1)),(5,(.map (some l4)))]) fun g6=>cF g6 (aj (.cells g6 0 false) s5 fun l7 s8=>R (.aQ [(.ptr (some (l7,0))),(.int .i64 0)]) s8))) ∧
 (af (decide ((a0:Int)<1)) (J1 [(.bool true)] s) (af (decide ((a0:Int)>16)) (J1 [(.bool true)] s) (af (decide ((a1:Int)<1)) (J1 [(.bool true)] s) (J1 [(.bool (decide ((a1:Int)>a0)))] s))))
def Sm:QA:=(.seq .leaf (.seq (.join [(20,.bool)] [(6,20)] .leaf (.cond (.seq .leaf .leaf) .leaf)) (.seq .leaf .leaf)))
theorem Sn (a0:Int) (a1:Int) (s:AS) (R:AV→AS→Prop) (h:Sk a0 a1 s R):aa Tryz.prog zY [(.int .i64 a0),(.int .i64 a1)] s R :=
 aa.q (n:=26) (rs:=[.tmp 4,.tmp 5]) (A:=Sm) hT bU Tryz.func66 (by kernel_rfl) rfl rfl rfl (by kernel_rfl) (by kernel_rfl) h
def wL (a0:Option (Nat×Nat)) (a1:List UInt8) (a2:AV) (a3:AV) (s:AS) (R:AV→AS→Prop):Prop :=
 aj (.cells [.int .i64 0,.int .u64 0,.str [],.slc none 0 0 true,.int .u64 0,.int .u64 0,.int .u64 0,.int .u64 0,.int .u64 0,.int .u64 0,.int .u64 0,.int .u64 0,.int .u64 0,.int .u64 0,.int .u64 0,.int .u64 0,.int .u64 0,.int .u64 0,.int .u64 0,.int .u64 0,.slc none 0 0 true] 0 false) s fun l1 s2=>aa Tryz.prog ec [(.ptr a0)] s2 fun v3 s4=>∃ b5:Bool,v3=.bool b5∧(af (!b5)
 (pN (aU T g_ []) fun g6=>fj (some 21) g6 (bu (cN s4 l1 0 g6) fun s7=>aR (aB s7 l1 0 21) fun g8=>R (.aQ [(.agg g8),(.int .i64 1)]) s7))
 (gu fun S V=>ai a0 fun l9 Dq=>aW .i64 (av s4 l9 (Dq+1)) fun iN=>ai a0 fun rP wj=>aW .i64 (av s4 rP (wj+1)) fun vp=>ai a0 fun Dz FD=>bH (ag T bg (.ptr (some (Dz,(FD+2)))) (.int .i64 (IntKind.wrap .i64 (vp - 1)))) fun j_ wz=>aW .u64 (av s4 j_ wz) fun z3=>pN (aU T iB [(0,(.int .i64 iN)),(1,(.int .u64 (IntKind.wrap .u64 (z3+1))))]) fun RU=>ai a0 fun OU o22=>aR (aB s4 OU (o22+2) 16) fun ng=>pN (aU T g_ [(0,(.agg RU)),(1,(.str a1)),(2,a2),(3,(.agg ng)),(4,a3)]) fun wh=>(∀ dM:AS,Ext s4 dM→aM dM→(True)→aj (.cells [.int .i64 0,.int .u64 0,.str [],.slc none 0 0 true,.int .u64 0,.int .u64 0,.int .u64 0,.int .u64 0,.int .u64 0,.int .u64 0,.int .u64 0,.int .u64 0,.int .u64 0,.int .u64 0,.int .u64 0,.int .u64 0,.int .u64 0,.int .u64 0,.int .u64 0,.int .u64 0,.slc none 0 0 true] 0 false) dM fun Dn mQ=>(Ext dM mQ∧S 24 [] (.ptr (some (Dn,0))) mQ∧V 24 [] (.ptr (some (Dn,0)))))∧(∃ v,V 24 [] v)∧∀ Ai:AV,V 24 [] Ai→∃ p29:Option (Nat×Nat),Ai=.ptr p29∧(∀ kL:AS,Ext s4 kL→aM kL→(S 24 [] (.ptr p29) kL∧True)→ai p29 fun Ms YC=>fj (some 21) wh (bu (cN kL Ms YC wh) fun ku=>ai p29 fun Pe MC=>aW .u64 (av ku Pe (MC+1)) fun n37=>bw fun J38 =>
 (∀ yM:AS,J38 [] yM →
 ai p29 fun l40 o41=>aR (aB yM l40 o41 21) fun g42=>aa Tryz.prog mF [(.ptr a0),(.agg g42)] yM fun So FC=>∃ b45:Bool,So=.bool b45∧(af (!b45)
 (pN (aU T g_ []) fun g46=>fj (some 21) g46 (bu (cN FC l1 0 g46) fun wD=>aR (aB wD l1 0 21) fun JE=>R (.aQ [(.agg JE),(.int .i64 2)]) wD))
 (af (decide ((n37:Int)>4611686018427387904))
 (pN (aU T g_ []) fun g49=>fj (some 21) g49 (bu (cN FC l1 0 g49) fun pG=>aR (aB pG l1 0 21) fun TR=>R (.aQ [(.agg TR),(.int .i64 5)]) pG))
 (ai p29 fun WQ o53=>aR (aB FC WQ o53 21) fun Y1=>aa Tryz.prog dX [(.agg Y1)] FC fun Jn zC=>∃ g57:List AV,Jn=.agg g57∧(aa Tryz.prog ki [(.ptr a0),(.agg g57)] zC fun CO vl=>CO=.aQ []∧(ai p29 fun l60 o61=>aR (aB vl l60 o61 21) fun g62=>aa Tryz.prog dX [(.agg g62)] vl fun v63 JZ=>∃ g65:List AV,v63=.agg g65∧(fj (some 21) g65 (bu (cN JZ l1 0 g65) fun Mt=>aR (aB Mt l1 0 21) fun g67=>R (.aQ [(.agg g67),(.int .i64 0)]) Mt)))))))) ∧
 (af (decide ((n37:Int)>4611686018427387904))
 (gu fun S V=>ai a0 fun l68 o69=>aW .i64 (av ku l68 (o69+1)) fun n70=>ai p29 fun l71 o72=>(∀ s73:AS,Ext ku s73→aM s73→(True)→bu (cN s73 l71 (o72+1) [(.int .u64 1)]) fun s74=>(Ext s73 s74∧S 7 [(.ptr (some (l71,(o72+1)))),(.int .u64 1)] (.aQ []) s74∧V 7 [(.ptr (some (l71,(o72+1)))),(.int .u64 1)] (.aQ [])))∧(∃ v,V 7 [(.ptr (some (l71,(o72+1)))),(.int .u64 1)] v)∧∀ v75:AV,V 7 [(.ptr (some (l71,(o72+1)))),(.int .u64 1)] v75→v75=.aQ []∧(ai p29 fun l76 o77=>∀ s78:AS,Ext ku s78→aM s78→(S 7 [(.ptr (some (l71,(o72+1)))),(.int .u64 1)] (.aQ []) s78∧True)→bH (ag T bg (.ptr (some (l76,(o77+4)))) (.int .i64 (IntKind.wrap .i64 (n70 - 1)))) fun l80 o81=>bu (cN s78 l80 o81 [(.int .u64 0)]) fun s82=>J38 [] s82))
 (J38 [] ku))))))
def wM:QA:=(.seq .leaf (.seq (.seq .leaf (.cond (.seq .leaf .leaf) .leaf)) (.seq (.gL 25 [[],[],[],[],[],[],[],[],[],[],[],[],[],[],[],[],[],[],[],[],[],[],[],[],[]] [24]) (.seq .leaf (.join [] [(44,53)] (.seq .leaf (.cond (.gL 9 [[],[],[],[],[],[],[],[],[]] [7]) .leaf)) (.seq (.wrap (.seq .leaf (.cond (.seq .leaf .leaf) (.seq .leaf (.cond (.seq .leaf .leaf) .leaf))))) (.seq .leaf (.seq .leaf .leaf))))))))
theorem wN (a0:Option (Nat×Nat)) (a1:List UInt8) (a2:AV) (a3:AV) (s:AS) (R:AV→AS→Prop) (h:wL a0 a1 a2 a3 s R):aa Tryz.prog bI [(.ptr a0),(.str a1),a2,a3] s R :=
 aa.q (n:=69) (rs:=[.cell 8 52,.tmp 9]) (A:=wM) hT bU Tryz.func71 (by kernel_rfl) rfl rfl rfl (by kernel_rfl) (by kernel_rfl) h
def Ao (a0:Option (Nat×Nat)) (s:AS) (R:AV→AS→Prop):Prop :=
 aa Tryz.prog ec [(.ptr a0)] s fun v1 s2=>∃ b3:Bool,v1=.bool b3∧(af (!b3)
 (R (.ptr none) s2)
 (ai a0 fun l4 o5=>aR (aB s2 l4 o5 21) fun g6=>aj (.cells [.int .i64 0,.int .i64 0,.int .u64 0,.int .u64 0,.int .u64 0,.int .u64 0,.int .u64 0,.int .u64 0,.int .u64 0,.int .u64 0,.int .u64 0,.int .u64 0,.int .u64 0,.int .u64 0,.int .u64 0,.int .u64 0,.int .u64 0,.int .u64 0,.slc none 0 0 true,.slc none 0 0 true,.map none] 0 false) s2 fun l7 s8=>fj (some 21) g6 (bu (cN s8 l7 0 g6) fun s9=>gu fun S V=>ai a0 fun nB A0=>dJ (av s9 nB (A0+18)) fun i_=>(∀ bS:AS,Ext s9 bS→aM bS→(True)→aa Tryz.prog a_ [i_] bS fun tK f_=>(Ext bS f_∧S 4 [(.func a_ []),i_] tK f_∧V 4 [(.func a_ []),i_] tK))∧(∃ v,V 4 [(.func a_ []),i_] v)∧∀ oh:AV,V 4 [(.func a_ []),i_] oh→ai a0 fun j_ wz=>dJ (av s9 j_ (wz+19)) fun wT=>(∀ fN:AS,Ext s9 fN→aM fN→(S 4 [(.func a_ []),i_] oh fN∧True)→aa Tryz.prog br [wT] fN fun Mq fO=>(Ext fN fO∧S 9 [(.func br []),wT] Mq fO∧V 9 [(.func br []),wT] Mq))∧(∃ v,V 9 [(.func br []),wT] v)∧∀ Jl:AV,V 9 [(.func br []),wT] Jl→ai a0 fun RM Yx=>zO (av s9 RM (Yx+20)) fun r26=>∀ mQ:AS,Ext s9 mQ→aM mQ→(S 4 [(.func a_ []),i_] oh mQ∧(S 9 [(.func br []),wT] Jl mQ∧True))→aa Tryz.prog fu [(.map r26)] mQ fun mb kL=>∃ r31:Option Nat,mb=.map r31∧(fD T bO kL l7 18 oh fun lS=>fD T bp lS l7 19 Jl fun qR=>bu (cN qR l7 20 [(.map r31)]) fun ku=>R (.ptr (some (l7,0))) ku))))
def Aq:QA:=(.seq .leaf (.seq (.seq .leaf (.cond (.seq .leaf .leaf) .leaf)) (.seq .leaf (.seq (.gL 14 [[],[],[],[],[],[],[],[],[],[4],[],[],[],[]] [4,9]) (.seq .leaf .leaf)))))
theorem Ar (a0:Option (Nat×Nat)) (s:AS) (R:AV→AS→Prop) (h:Ao a0 s R):aa Tryz.prog fE [(.ptr a0)] s R :=
 aa.q (n:=28) (rs:=[.tmp 2]) (A:=Aq) hT bU Tryz.func77 (by kernel_rfl) rfl rfl rfl (by kernel_rfl) (by kernel_rfl) h
def y5 (a0:Option (Nat×Nat)) (s:AS) (R:AV→AS→Prop):Prop :=
 uD (iK T 100 iA (.ptr a0) (.ptr none)) fun b1=>af (!b1) (ai a0 fun l2 o3=>zO (av s l2 (o3+20)) fun r4=>uD (iK T 100 s_ (.map r4) (.map none)) fun b5=>R (.bool (!b5)) s) (R (.bool false) s)
def y6:QA:=(.seq .leaf (.seq .leaf .leaf))
theorem y7 (a0:Option (Nat×Nat)) (s:AS) (R:AV→AS→Prop) (h:y5 a0 s R):aa Tryz.prog ec [(.ptr a0)] s R :=
 aa.q (n:=12) (rs:=[.tmp 2]) (A:=y6) hT bU Tryz.func84 (by kernel_rfl) rfl rfl rfl (by kernel_rfl) (by kernel_rfl) h
def BO (a0:Option (Nat×Nat)) (s:AS) (R:AV→AS→Prop):Prop :=
 aa Tryz.prog ec [(.ptr a0)] s fun v1 s2=>∃ b3:Bool,v1=.bool b3∧(af (!b3)
 (R (.int .i64 0) s2)
 (ai a0 fun l4 o5=>dJ (av s2 l4 (o5+18)) fun v6=>aW .i64 (aP T bO v6 s2) fun n7=>R (.int .i64 n7) s2))
def BP:QA:=(.seq .leaf (.seq (.seq .leaf (.cond (.seq .leaf .leaf) .leaf)) (.seq .leaf .leaf)))
theorem BQ (a0:Option (Nat×Nat)) (s:AS) (R:AV→AS→Prop) (h:BO a0 s R):aa Tryz.prog mD [(.ptr a0)] s R :=
 aa.q (n:=11) (rs:=[.tmp 2]) (A:=BP) hT bU Tryz.func22 (by kernel_rfl) rfl rfl rfl (by kernel_rfl) (by kernel_rfl) h
def BR (a0:Option (Nat×Nat)) (a1:List AV) (s:AS) (R:AV→AS→Prop):Prop :=
 cF a1 (aj (.cells a1 0 false) s fun l1 s2=>aR (aB s2 l1 0 21) fun g3=>aa Tryz.prog xK [(.agg g3)] s2 fun v4 s5=>∃ b6:Bool,v4=.bool b6∧(af (!b6) (R (.bool false) s5) (aW .i64 (av s5 l1 0) fun n7=>ai a0 fun l8 o9=>aW .i64 (av s5 l8 o9) fun j9=>af (decide ((n7:Int)>j9)) (R (.bool false) s5) (aW .i64 (av s5 l1 0) fun iN=>bH (ag T bg (.ptr (some (l1,4))) (.int .i64 (IntKind.wrap .i64 (iN - 1)))) fun rP wj=>aW .u64 (av s5 rP wj) fun vp=>aW .u64 (av s5 l1 1) fun wR=>af ((vp:Int) != (IntKind.wrap .u64 (wR - 1)))
 (R (.bool false) s5)
 (ai a0 fun rU EI=>aW .i64 (av s5 rU EI) fun JF=>dJ (aY T bg (.ptr (some (l1,4))) (some (.int .i64 JF)) none none) fun wT=>aW .i64 (aP T e_ wT s5) fun Dk=>bC fun WV m22=>WV m22 [(.int .i64 0)] s5 ∧
 ∀ Mp:Nat,∀ yN:Int,∀ dM:AS,WV Mp [(.int .i64 yN)] dM →
 af (decide ((yN:Int)<Dk))
 (bH (ag T e_ wT (.int .i64 yN)) fun Dn Fh=>aW .u64 (av dM Dn Fh) fun Jm=>af ((Jm:Int) != 0)
 (R (.bool false) dM)
 (∃ m',m'<Mp∧WV m' [(.int .i64 (IntKind.wrap .i64 (yN+1)))] dM))
 (R (.bool true) dM))))))
def BS:QA:=(.seq .leaf (.seq (.seq .calm (.cond (.seq .leaf .leaf) .leaf)) (.seq (.seq .leaf (.wrap (.loop [(41,.int .i64)] [(4,4),(6,6),(41,47)] (.seq .leaf (.seq (.cond .leaf .leaf) (.seq (.wrap (.seq .leaf (.seq .leaf (.cond (.seq .leaf .leaf) .leaf)))) .leaf)))))) (.seq .leaf .leaf))))
theorem BT (a0:Option (Nat×Nat)) (a1:List AV) (s:AS) (R:AV→AS→Prop) (h:BR a0 a1 s R):aa Tryz.prog mF [(.ptr a0),(.agg a1)] s R :=
 aa.q (n:=48) (rs:=[.tmp 4]) (A:=BS) hT bU Tryz.func102 (by kernel_rfl) rfl rfl rfl (by kernel_rfl) (by kernel_rfl) h
def ML (a0:List AV) (s:AS) (R:AV→AS→Prop):Prop :=
 cF a0 (aj (.cells a0 0 false) s fun l1 s2=>aj (.cells [.int .i64 0,.int .u64 0,.str [],.slc none 0 0 true,.int .u64 0,.int .u64 0,.int .u64 0,.int .u64 0,.int .u64 0,.int .u64 0,.int .u64 0,.int .u64 0,.int .u64 0,.int .u64 0,.int .u64 0,.int .u64 0,.int .u64 0,.int .u64 0,.int .u64 0,.int .u64 0,.slc none 0 0 true] 0 false) s2 fun l3 s4=>gu fun S V=>dJ (av s4 l1 3) fun v5=>(∀ s6:AS,Ext s4 s6→aM s6→(True)→aa Tryz.prog aS [v5] s6 fun v7 s8=>(Ext s6 s8∧S 2 [(.func aS []),v5] v7 s8∧V 2 [(.func aS []),v5] v7))∧(∃ v,V 2 [(.func aS []),v5] v)∧∀ v9:AV,V 2 [(.func aS []),v5] v9→dJ (av s4 l1 20) fun v10=>(∀ fI:AS,Ext s4 fI→aM fI→(S 2 [(.func aS []),v5] v9 fI∧True)→aa Tryz.prog bE [v10] fI fun i_ bS=>(Ext fI bS∧S 5 [(.func bE []),v10] i_ bS∧V 5 [(.func bE []),v10] i_))∧(∃ v,V 5 [(.func bE []),v10] v)∧∀ tK:AV,V 5 [(.func bE []),v10] tK→∀ f_:AS,Ext s4 f_→aM f_→(S 2 [(.func aS []),v5] v9 f_∧(S 5 [(.func bE []),v10] tK f_∧True))→fD T aq f_ l1 3 v9 fun lZ=>fD T bR lZ l1 20 tK fun eC=>aR (aB eC l1 0 21) fun GU=>fj (some 21) GU (bu (cN eC l3 0 GU) fun fN=>aR (aB fN l3 0 21) fun wC=>R (.agg wC) fN))
def MN:QA:=(.seq .leaf (.seq (.gL 7 [[],[],[],[],[],[2],[]] [2,5]) (.seq .leaf .leaf)))
theorem MO (a0:List AV) (s:AS) (R:AV→AS→Prop) (h:ML a0 s R):aa Tryz.prog dX [(.agg a0)] s R :=
 aa.q (n:=12) (rs:=[.cell 2 52]) (A:=MN) hT bU Tryz.func104 (by kernel_rfl) rfl rfl rfl (by kernel_rfl) (by kernel_rfl) h
def y8 (a0:Option (Nat×Nat)) (a1:List AV) (s:AS) (R:AV→AS→Prop):Prop :=
 cF a1 (aj (.cells a1 0 false) s fun l1 s2=>aW .i64 (av s2 l1 0) fun n3=>ai a0 fun l4 o5=>bH (ag T bg (.ptr (some (l4,(o5+2)))) (.int .i64 (IntKind.wrap .i64 (n3 - 1)))) fun l6 o7=>aW .u64 (av s2 l6 o7) fun n8=>ai a0 fun l9 Dq=>bH (ag T bg (.ptr (some (l9,(Dq+2)))) (.int .i64 (IntKind.wrap .i64 (n3 - 1)))) fun Dg yU=>bu (cN s2 Dg yU [(.int .u64 (IntKind.wrap .u64 (n8+1)))]) fun bS=>tW bS fun X C c S V=>ai a0 fun Dz FD=>(∀ jT:AS,X bS jT→aM jT→ai a0 fun j_ wz=>(((.ptr (some (j_,wz))):AV)=(.ptr (some (Dz,FD)))))∧(dJ (av bS Dz (FD+18)) fun v20=>(∀ iD:AS,X bS iD→aM iD→dJ (av iD Dz (FD+18)) fun Mq=>((Mq:AV)=v20))∧(aR (aB bS l1 0 21) fun ng=>(∀ fO:AS,X bS fO→aM fO→aR (aB fO l1 0 21) fun wh=>(((.agg wh):AV)=(.agg ng)))∧((∀ dM:AS,X bS dM→aM dM→(True)→aR (cZ T bO 1 [(0,(.agg ng))]) fun Fx=>aj (.cells Fx 0 false) dM fun GR rA=>(Ext dM rA∧S 7 [(.agg ng)] (.slc (some (GR,0)) 1 1 true) rA∧V 7 [(.agg ng)] (.slc (some (GR,0)) 1 1 true)))∧(∃ v,V 7 [(.agg ng)] v)∧∀ mb:AV,V 7 [(.agg ng)] mb→(∀ kL:AS,X bS kL→aM kL→(S 7 [(.agg ng)] mb kL∧True)→c kL→iG (aJ T bO bO v20 mb kL) fun wE lS=>((X kL lS∧C 8 [v20,mb] wE lS)∧S 8 [v20,mb] wE lS∧V 8 [v20,mb] wE))∧(∃ v,V 8 [v20,mb] v)∧∀ qk:AV,V 8 [v20,mb] qk→ai a0 fun Pe MC=>(∀ ku:AS,X bS ku→aM ku→ai a0 fun OV JD=>(((.ptr (some (OV,JD))):AV)=(.ptr (some (Pe,MC)))))∧(dJ (av bS Pe (MC+19)) fun yW=>(∀ yM:AS,X bS yM→aM yM→dJ (av yM Pe (MC+19)) fun Zj=>((Zj:AV)=yW))∧(ai a0 fun l43 Zh=>(∀ K7:AS,X bS K7→aM K7→ai a0 fun l45 o46=>(((.ptr (some (l45,o46))):AV)=(.ptr (some (l43,Zh)))))∧(aR (aB bS l43 (Zh+2) 16) fun JE=>(∀ wD:AS,X bS wD→aM wD→aR (aB wD l43 (Zh+2) 16) fun g49=>(((.agg g49):AV)=(.agg JE)))∧((∀ pG:AS,X bS pG→aM pG→(True)→aR (cZ T bp 1 [(0,(.agg JE))]) fun TR=>aj (.cells TR 0 false) pG fun WQ K9=>(Ext pG K9∧S 17 [(.agg JE)] (.slc (some (WQ,0)) 1 1 true) K9∧V 17 [(.agg JE)] (.slc (some (WQ,0)) 1 1 true)))∧(∃ v,V 17 [(.agg JE)] v)∧∀ GS:AV,V 17 [(.agg JE)] GS→(∀ JC:AS,X bS JC→aM JC→(S 7 [(.agg ng)] mb JC∧(S 8 [v20,mb] qk JC∧(S 17 [(.agg JE)] GS JC∧True)))→C 8 [v20,mb] qk JC→iG (aJ T bp bp yW GS JC) fun v56 WK=>((X JC WK∧C 18 [yW,GS] v56 WK)∧S 18 [yW,GS] v56 WK∧V 18 [yW,GS] v56))∧(∃ v,V 18 [yW,GS] v)∧∀ CO:AV,V 18 [yW,GS] CO→ai a0 fun l60 o61=>(∀ vl:AS,X bS vl→aM vl→ai a0 fun l62 o63=>(((.ptr (some (l62,o63))):AV)=(.ptr (some (l60,o61)))))∧(∀ JZ:AS,X bS JZ→aM JZ→(S 7 [(.agg ng)] mb JZ∧(S 8 [v20,mb] qk JZ∧(S 17 [(.agg JE)] GS JZ∧(S 18 [yW,GS] CO JZ∧True))))→C 18 [yW,GS] CO JZ→fD T bO JZ l60 (o61+18) qk fun s65=>ai a0 fun l66 o67=>fD T bp s65 l66 (o67+19) CO fun QX=>R (.aQ []) QX)))))))))
def y9:QA:=(.seq .leaf (.seq (.draw 12) (.vW [0,1,2,3,4,5,6,7,8,9,10,11,12,13,14,15,16,17,18,19,20] [21,22,23,24] [[],[],[],[],[],[],[],[],[7],[],[],[],[],[],[],[],[],[],[7,8,17],[],[],[],[],[],[]] [7,8,17,18] [8,18])))
theorem y_ (a0:Option (Nat×Nat)) (a1:List AV) (s:AS) (R:AV→AS→Prop) (h:y8 a0 a1 s R):aa Tryz.prog ki [(.ptr a0),(.agg a1)] s R :=
 aa.q (n:=40) (rs:=[]) (A:=y9) hT bU Tryz.func105 (by kernel_rfl) rfl rfl rfl (by kernel_rfl) (by kernel_rfl) h
def DG (a0:Option (Nat×Nat)) (a1:Int) (s:AS) (R:AV→AS→Prop):Prop :=
 aj (.cells [.int .i64 0,.int .u64 0,.str [],.slc none 0 0 true,.int .u64 0,.int .u64 0,.int .u64 0,.int .u64 0,.int .u64 0,.int .u64 0,.int .u64 0,.int .u64 0,.int .u64 0,.int .u64 0,.int .u64 0,.int .u64 0,.int .u64 0,.int .u64 0,.int .u64 0,.int .u64 0,.slc none 0 0 true] 0 false) s fun l1 s2=>aj (.cells [.int .u64 0,.int .u64 0,.int .u64 0,.int .u64 0,.int .u64 0,.int .u64 0,.int .u64 0,.int .u64 0,.int .u64 0,.int .u64 0,.int .u64 0,.int .u64 0,.int .u64 0,.int .u64 0,.int .u64 0,.int .u64 0] 0 false) s2 fun l3 s4=>bw fun J5 =>
 (∀ b6:Bool,∀ s7:AS,J5 [(.bool b6)] s7 →
 af b6
 (pN (aU T g_ []) fun g8=>pN (aU T bg []) fun g9=>fj (some 21) g8 (bu (cN s7 l1 0 g8) fun jD=>fj (some 16) g9 (bu (cN jD l3 0 g9) fun fI=>aR (aB fI l1 0 21) fun K5=>aR (aB fI l3 0 16) fun wg=>R (.aQ [(.agg K5),(.agg wg),(.bool false)]) fI)))
 (tW s7 fun X C c S V=>ai a0 fun Dz FD=>(∀ jT:AS,X s7 jT→aM jT→ai a0 fun j_ wz=>(((.ptr (some (j_,wz))):AV)=(.ptr (some (Dz,FD)))))∧(dJ (av s7 Dz (FD+18)) fun v20=>(∀ iD:AS,X s7 iD→aM iD→dJ (av iD Dz (FD+18)) fun Mq=>((Mq:AV)=v20))∧(bH (ag T bO v20 (.int .i64 a1)) fun BG GQ=>aR (aB s7 BG GQ 21) fun Jz=>(∀ qx:AS,X s7 qx→aM qx→aR (aB qx BG GQ 21) fun Fx=>(((.agg Fx):AV)=(.agg Jz)))∧((∀ mQ:AS,X s7 mQ→aM mQ→(True)→aa Tryz.prog dX [(.agg Jz)] mQ fun Ai z4=>∃ z7:List AV,Ai=.agg z7∧((Ext mQ z4∧S 7 [(.func dX []),(.agg Jz)] (.agg z7) z4∧V 7 [(.func dX []),(.agg Jz)] (.agg z7))))∧(∃ v,V 7 [(.func dX []),(.agg Jz)] v)∧∀ wE:AV,V 7 [(.func dX []),(.agg Jz)] wE→∃ MP:List AV,wE=.agg MP∧(ai a0 fun HW JB=>(∀ qR:AS,X s7 qR→aM qR→ai a0 fun l36 YG=>(((.ptr (some (l36,YG))):AV)=(.ptr (some (HW,JB)))))∧(dJ (av s7 HW (JB+19)) fun v39=>(∀ xT:AS,X s7 xT→aM xT→dJ (av xT HW (JB+19)) fun yW=>((yW:AV)=v39))∧(bH (ag T bp v39 (.int .i64 a1)) fun AZ NO=>aR (aB s7 AZ NO 16) fun RQ=>(∀ CR:AS,X s7 CR→aM CR→aR (aB CR AZ NO 16) fun VH=>(((.agg VH):AV)=(.agg RQ)))∧((∀ qQ:AS,X s7 qQ→aM qQ→(S 7 [(.func dX []),(.agg Jz)] (.agg MP) qQ∧True)→c qQ→fj (some 21) MP (bu (cN qQ l1 0 MP) fun wD=>((X qQ wD∧C 15 [(.ptr (some (l1,0))),(.agg MP)] (.aQ []) wD)∧S 15 [(.ptr (some (l1,0))),(.agg MP)] (.aQ []) wD∧V 15 [(.ptr (some (l1,0))),(.agg MP)] (.aQ []))))∧(∃ v,V 15 [(.ptr (some (l1,0))),(.agg MP)] v)∧∀ Vc:AV,V 15 [(.ptr (some (l1,0))),(.agg MP)] Vc→Vc=.aQ []∧(∀ z6:AS,X s7 z6→aM z6→(S 7 [(.func dX []),(.agg Jz)] (.agg MP) z6∧(S 15 [(.ptr (some (l1,0))),(.agg MP)] (.aQ []) z6∧True))→C 15 [(.ptr (some (l1,0))),(.agg MP)] (.aQ []) z6→fj (some 16) RQ (bu (cN z6 l3 0 RQ) fun pG=>aR (aB pG l1 0 21) fun TR=>aR (aB pG l3 0 16) fun JY=>R (.aQ [(.agg TR),(.agg JY),(.bool true)]) pG))))))))))) ∧
 (aa Tryz.prog ec [(.ptr a0)] s4 fun v53 tH=>∃ b55:Bool,v53=.bool b55∧(af (!b55) (J5 [(.bool true)] tH) (af (decide ((a1:Int)<0)) (J5 [(.bool true)] tH) (ai a0 fun l56 o57=>dJ (av tH l56 (o57+18)) fun CO=>aW .i64 (aP T bO CO tH) fun n59=>J5 [(.bool (decide ((a1:Int)≥n59)))] tH))))
def DH:QA:=(.seq .leaf (.seq (.join [(22,.bool)] [(7,22)] .leaf (.cond (.seq .leaf .leaf) .leaf)) (.seq (.vW [0,1,2,3,4,5,6,7,8,9,10,11,12,13,14,15] [16,17] [[],[],[],[],[],[],[],[],[],[],[],[],[],[],[],[7]] [7,15] [15]) .leaf)))
theorem DI (a0:Option (Nat×Nat)) (a1:Int) (s:AS) (R:AV→AS→Prop) (h:DG a0 a1 s R):aa Tryz.prog nT [(.ptr a0),(.int .i64 a1)] s R :=
 aa.q (n:=40) (rs:=[.cell 4 52,.cell 5 49,.tmp 6]) (A:=DH) hT bU Tryz.func159 (by kernel_rfl) rfl rfl rfl (by kernel_rfl) (by kernel_rfl) h
def pZ (a0:AV) (s:AS) (R:AV→AS→Prop):Prop :=
 aW .i64 (aP T bO a0 s) fun n1=>aW .i64 (aP T bO a0 s) fun n2=>dJ (aY T bO a0 none (some (.int .i64 n1)) (some (.int .i64 n2))) fun v3=>R v3 s
def p0:QA:=(.seq .leaf (.seq .leaf .leaf))
theorem p_ (a0:AV) (s:AS) (R:AV→AS→Prop) (h:pZ a0 s R):aa Tryz.prog a_ [a0] s R :=
 aa.q (n:=9) (rs:=[.tmp 2]) (A:=p0) hT bU Tryz.func156 (by kernel_rfl) rfl rfl rfl (by kernel_rfl) (by kernel_rfl) h
def oq (a0:AV) (s:AS) (R:AV→AS→Prop):Prop :=
 aW .i64 (aP T bp a0 s) fun n1=>aW .i64 (aP T bp a0 s) fun n2=>dJ (aY T bp a0 none (some (.int .i64 n1)) (some (.int .i64 n2))) fun v3=>R v3 s
def ot:QA:=(.seq .leaf (.seq .leaf .leaf))
theorem ov (a0:AV) (s:AS) (R:AV→AS→Prop) (h:oq a0 s R):aa Tryz.prog br [a0] s R :=
 aa.q (n:=9) (rs:=[.tmp 2]) (A:=ot) hT bU Tryz.func157 (by kernel_rfl) rfl rfl rfl (by kernel_rfl) (by kernel_rfl) h
def qz (a0:AV) (s:AS) (R:AV→AS→Prop):Prop :=
 uD (WG T bR true a0 (.slc none 0 0 true)) fun b1=>af b1
 (R (.slc none 0 0 true) s)
 (aR (cZ T bR 0 []) fun g2=>aj (.cells g2 0 false) s fun l3 s4=>iG (aJ T bR bR (.slc (some (l3,0)) 0 0 true) a0 s4) fun v5 s6=>R v5 s6)
def qA:QA:=(.seq .leaf (.seq (.seq .leaf (.cond (.seq .leaf .leaf) .leaf)) (.seq .leaf .leaf)))
theorem qB (a0:AV) (s:AS) (R:AV→AS→Prop) (h:qz a0 s R):aa Tryz.prog bE [a0] s R :=
 aa.q (n:=8) (rs:=[.tmp 2]) (A:=qA) hT bU Tryz.func170 (by kernel_rfl) rfl rfl rfl (by kernel_rfl) (by kernel_rfl) h
end Go.Proofs.YtohgmogbabkkeaaGreat
end
