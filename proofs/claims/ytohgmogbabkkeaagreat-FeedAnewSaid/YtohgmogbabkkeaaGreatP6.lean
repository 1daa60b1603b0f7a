/-
  A part of the proof: an abstract machine over the model, and contracts of functions of this program over it.
-/
import Derived.KernelRfl
import Derived.Test.YtohgmogbabkkeaaGreatP5
set_option linter.unusedVariables false
set_option linter.unusedSimpArgs false
set_option linter.unusedSectionVars false
section
namespace Go.Proofs.YtohgmogbabkkeaaGreat
open Go.Am Go.au Go.aC Go.bW
theorem T_ (n:Int):0≤IntKind.wrap .u64 n:=by
 simp only [IntKind.wrap,IntKind.signed,Bool.false_and,Bool.false_eq_true,if_false,IntKind.bits];exact Int.emod_nonneg _ (by decide)
theorem Cp {i:Nat} (h:i≤2 ^ 61):IntKind.wrap .i64 ((i:Int)+1)=((i+1:Nat):Int):=by rw [aV (by omega)];omega
theorem V1 (x y:Int) (l:List Int):E_ x (l++[y])=xA .u32 (E_ x l) (acU x (IntKind.wrap .i64 (0 - y))):=by simp [E_]
theorem adW (x k:Int) (s:AS):aa Tryz.prog gj [.int .u32 x,.int .i64 k] s fun r s'=>r=.int .u32 (acU x k)∧s'=s :=
 tr _ _ _ _ ⟨_,rfl,T_ _,T_ _,_,rfl,rfl,rfl⟩
def P7 (n:Int):List AV:=[.int .i64 n]
theorem ZF (n:Int):(P7 n).length=1:=rfl
theorem Nw {s:AS} {v:AV} {l:List Int} (h:Sl P7 1 s v l) (hn:l.length≤2 ^ 40) (x:Int):aa Tryz.prog aE [.int .u32 x,v] s fun r s'=>r=.int .u32 (E_ x l)∧s'=s:=by
 refine ze _ _ _ _ ⟨_,h.cG sx _,fun m vs s'=>∃ i:Nat,vs=[.int .u32 (E_ x (l.take i)),.int .i64 (i:Nat)]∧i≤l.length∧m=l.length - i∧s'=s,l.length,⟨0,rfl,by omega,rfl,rfl⟩,?_⟩
 rintro m n5 n6 s7 ⟨i,hi,h6,rfl,rfl⟩
 simp only [List.cons.injEq,AV.int.injEq,true_and,and_true] at hi
 obtain ⟨rfl,rfl⟩:=hi
 refine af.dec (fun hlt=>?_) (fun hge=>⟨?_,rfl⟩)
 ·obtain ⟨y,hy⟩:=cW (l:=l) (i:=i) (by omega)
  obtain ⟨la,o,h8,h9⟩:=h.ix (by decide) ZF sx K3 hy
  have h0:=(h9 _ (Ext.refl _)).1 0 (by decide)
  refine ⟨la,o,h8 _,y,by simpa [P7] using h0,?_⟩
  refine aa.use (adW _ _ _) ?_
  rintro v s' ⟨rfl,rfl⟩ _
  refine ⟨_,rfl,_,rfl,l.length - (i+1),by omega,i+1,?_,by omega,rfl,rfl⟩
  rw [Cp (by omega),List.take_add_one,hy,Option.toList_some,V1];rfl
 ·rw [List.take_of_length_le (by omega)]
theorem SX (a b:Int) (s:AS):aa Tryz.prog fW [.int .u64 a,.int .u64 b] s fun r s'=>r=.aQ [.int .u64 (oR a b).1,.int .u64 (oR a b).2]∧s'=s :=
 BZ _ _ _ _ ⟨_,rfl,by decide,_,rfl,by decide,by decide,_,rfl,by decide,by decide,rfl,rfl⟩
theorem Ua (a b:Int):0≤(oR a b).1∧0≤(oR a b).2:=⟨T_ _,T_ _⟩
theorem adX {x y:Int} (hx:0≤x) (hy:0≤y) (s:AS):aa Tryz.prog sq [.int .u64 x,.int .u64 y,.int .u64 0] s fun v s'=>v=.aQ [.int .u64 ((x+y+0) % 18446744073709551616),.int .u64 ((x+y+0) / 18446744073709551616)]∧s'=s :=
 Mc Tryz.func307 (by kernel_rfl) (by kernel_rfl) (by kernel_rfl) (by kernel_rfl) hx hy (by decide) (by decide)
theorem Lm (a b:Int):aU T fy [(0,.int .u64 a),(1,.int .u64 b)]=some (.agg [.int .u64 a,.int .u64 b]):=by kernel_rfl
theorem ix2 {l:Nat} {i:Int} (h:0≤i∧i<2):ag T fy (.ptr (some (l,0))) (.int .i64 i)=some (.ptr (some (l,0+i.toNat*1))):=uY OT jB h
theorem Ln (a:Int) (s:AS):aa Tryz.prog fl [.int .u64 a] s fun r s'=>r=.agg [.int .u64 (oR a a).1,.int .u64 (oR a a).2]∧Ext s s':=by
 refine aa.pre fun hw=>MV _ _ _ (aj.intro hw rfl fun l1 s2 F2=>?_)
 refine aa.use (SX _ _ _) ?_
 rintro v s' ⟨rfl,rfl⟩ w4
 refine ⟨_,_,rfl,_,Lm _ _,⟨rfl,rfl⟩,bu.own w4 F2.own (by simp) fun s8 P=>⟨_,At.aB (cs:=[.int .u64 (oR a a).1,.int .u64 (oR a a).2]) ⟨_,_,P.at⟩ (by simp),rfl,Ext.wr F2.ext F2.no P.mut⟩⟩
theorem abn (a:Int) (s:AS):aa Tryz.prog z2 [.int .u64 a] s fun r s'=>r=.aQ [.agg ((zy a).map (.int .u64)),.bool (TN a)]∧Ext s s':=by
 refine aa.pre fun hw=>Ss _ _ _ (aj.intro hw rfl fun l1 s2 F2=>?_)
 refine aa.use (Ln _ _) ?_
 rintro v s4 ⟨rfl,e4⟩ w4
 refine ⟨_,rfl,lN w4 rfl rfl rfl fun l6 s8 F8=>⟨_,_,ix2 (i:=1) (by omega),_,by rw [F8.own.at.av];rfl,?_⟩⟩
 refine aa.use (SX _ _ _) ?_
 rintro v bS ⟨rfl,rfl⟩ QZ
 refine ⟨_,_,rfl,_,_,ix2 (i:=0) (by omega),_,by rw [F8.own.at.av];rfl,?_⟩
 refine aa.use (SX _ _ _) ?_
 rintro v fN ⟨rfl,rfl⟩ Vt
 refine ⟨_,_,rfl,?_⟩
 refine aa.use (adX (Ua _ _).2 (Ua _ _).1 _) ?_
 rintro v qx ⟨rfl,rfl⟩ w24
 have o1:=(F2.own.ext e4).ext F8.ext
 refine ⟨_,_,rfl,by decide,by decide,_,rfl,by decide,by decide,_,rfl,_,Lm _ _,by decide,⟨rfl,rfl⟩,bu.own w24 o1 (by simp) fun kL P=>⟨_,At.aB (cs:=(zy a).map (.int .u64)) ⟨_,_,P.at⟩ (by simp [zy]),rfl,Ext.wr ((F2.ext.trans e4).trans F8.ext) F2.no P.mut⟩⟩
theorem P8 (x y:Int) (lost:Bool) (p:Int) (s:AS):aa Tryz.prog sn [.agg [.int .u64 x,.int .u64 y],.bool lost,.int .u64 p] s fun r s'=>r=.bool (q7 x y lost p)∧Ext s s':=by
 refine aa.pre fun hw=>Pm _ _ _ _ _ ⟨rfl,aj.intro hw rfl fun l1 s2 F2=>?_⟩
 have g0:av s2 l1 (0+(0:Int).toNat*1)=some (.int .u64 x):=by rw [F2.own.at.av];rfl
 have g1:av s2 l1 (0+(1:Int).toNat*1)=some (.int .u64 y):=by rw [F2.own.at.av];rfl
 refine ⟨_,_,ix2 (i:=0) (by omega),_,g0,af.dec (fun h1=>⟨?_,F2.ext⟩) (fun h1=>⟨_,_,ix2 (i:=0) (by omega),_,g0,af.mk (fun h2=>⟨_,_,ix2 (i:=1) (by omega),_,g1,af.dec (fun h3=>⟨?_,F2.ext⟩) (fun h3=>⟨?_,F2.ext⟩)⟩) (fun h2=>⟨?_,F2.ext⟩)⟩)⟩
 ·simp [q7,h1]
 ·simp [q7,h1,h2,h3]
 ·simp [q7,h1,h2,h3]
 ·simp [q7,h1,h2]
theorem Ub {g:AV} {P:Int→Bool} {s:AS} (hw:aM s) (hP:∀ x s1,Ext s s1→aM s1→en Tryz.prog g [.int .u64 x] s1 fun v s'=>v=.bool (P x)∧Ext s1 s'∧aM s'):aa Tryz.prog va [g] s fun r s'=>r=.int .u32 (Yo P)∧Ext s s':=by
 refine Sv _ _ _ ⟨fun vs s'=>vs=[.int .u64 (Bs P 38)]∧Ext s s',?_,fun m vs s'=>∃ i:Nat,vs=[.int .u64 (Bs P i),.int .i64 (i:Nat)]∧i≤38∧m=38 - i∧Ext s s'∧aM s',38,⟨0,rfl,by omega,rfl,Ext.refl _,hw⟩,?_⟩
 ·rintro n2 s3 ⟨h,e⟩
  simp only [List.cons.injEq,AV.int.injEq,true_and,and_true] at h
  subst h;exact ⟨rfl,e⟩
 ·rintro m n7 n8 s9 ⟨i,hi,h6,rfl,e9,w9⟩
  simp only [List.cons.injEq,AV.int.injEq,true_and,and_true] at hi
  obtain ⟨rfl,rfl⟩:=hi
  refine af.dec (fun hlt=>?_) (fun hge=>?_)
  ·refine ⟨by rw [aV (by omega)];omega,_,rfl,?_⟩
   have:=hP (bOr .u64 (Bs P i) (shl .u64 1 (IntKind.wrap .i64 (37 - (i:Int))))) s9 e9 w9
   have key:∀ (g:AV) {R R':AV→AS→Prop},en Tryz.prog g [.int .u64 (bOr .u64 (Bs P i) (shl .u64 1 (IntKind.wrap .i64 (37 - (i:Int)))))] s9 R→(∀ v s',R v s'→R' v s')→en Tryz.prog g [.int .u64 (bOr .u64 (Bs P i) (shl .u64 1 (IntKind.wrap .i64 (37 - (i:Int)))))] s9 R':=by
    intro g R R' h hr
    cases g <;> first | exact h.elim | exact aa.mono h hr
   refine key _ this ?_
   rintro v s' ⟨rfl,e,w⟩
   refine ⟨_,rfl,af.mk (fun hb=>⟨38 - (i+1),by omega,i+1,?_,by omega,rfl,e9.trans e,w⟩) (fun hb=>⟨38 - (i+1),by omega,i+1,?_,by omega,rfl,e9.trans e,w⟩)⟩
   ·rw [Cp (by omega),Bs,HQ,if_neg (by simpa using hb)];rfl
   ·rw [Cp (by omega),Bs,HQ,if_pos (by simpa using hb)]
  ·obtain rfl:i=38:=by omega
   exact ⟨rfl,e9⟩
theorem V2 {s:AS} {l:Nat} {p:Int} (h:At s l [.int .u64 p]) (x:Int):aa Tryz.prog nY [.int .u64 x,.ptr (some (l,0))] s fun r s'=>r=.bool (q7 ((zy x).getD 0 0) ((zy x).getD 1 0) (TN x) p)∧Ext s s':=by
 refine DL _ _ _ _ ?_
 refine aa.use (abn _ _) ?_
 rintro v s2 ⟨rfl,e2⟩ w2
 refine ⟨_,_,rfl,lN w2 rfl rfl rfl fun l5 s7 F=>?_⟩
 refine ⟨_,F.own.at.aB (by simp [zy]),_,by rw [((h.ext e2).ext F.ext).av];rfl,?_⟩
 refine aa.use (P8 _ _ _ _ _) ?_
 rintro v s3 ⟨rfl,e3⟩ w3
 exact ⟨_,rfl,rfl,(e2.trans F.ext).trans e3⟩
theorem P_ (p:Int) (s:AS):aa Tryz.prog ri [.int .u64 p] s fun r s'=>r=.int .u32 (RF p)∧Ext s s':=by
 refine aa.pre fun hw=>Ip _ _ _ (aj.intro hw rfl fun l1 s2 F=>?_)
 refine aa.use (Ub (P:=fun x=>q7 ((zy x).getD 0 0) ((zy x).getD 1 0) (TN x) p) F.wf fun x s1 e w=>?_) ?_
 ·show aa _ _ _ _ _
  refine aa.use (V2 (F.own.at.ext e) x) ?_
  rintro v s' ⟨rfl,e'⟩ w'
  exact ⟨rfl,e',w'⟩
 ·rintro v s4 ⟨rfl,e4⟩ w4
  exact ⟨_,rfl,rfl,F.ext.trans e4⟩
theorem V3 {s:AS} {l:Nat} {p:Int} (h:At s l [.int .u64 p]) (x:Int):aa Tryz.prog sX [.int .u64 x,.ptr (some (l,0))] s fun r s'=>r=.bool (q7 (oR x x).1 (oR x x).2 false p)∧Ext s s':=by
 refine Ka _ _ _ _ ⟨fun _ _ _ _=>True,fun _ _ v=>v=.agg [.int .u64 (oR x x).1,.int .u64 (oR x x).2],fun _ _ _ _ _ _ _=>trivial,?_⟩
 refine ⟨fun s1 e1 w1 _=>?_,⟨_,rfl⟩,?_⟩
 ·refine (Ln _ _).mono ?_
  rintro v s3 ⟨rfl,e3⟩
  exact ⟨_,rfl,e3,trivial,rfl⟩
 ·rintro v rfl
  refine ⟨_,rfl,_,by rw [h.av];rfl,fun jD MB YK _=>?_⟩
  refine aa.use (P8 _ _ _ _ _) ?_
  rintro v s3 ⟨rfl,e3⟩ w3
  exact ⟨_,rfl,rfl,MB.trans e3⟩
theorem ZG (p:Int) (s:AS):aa Tryz.prog xN [.int .u64 p] s fun r s'=>r=.int .u32 (Yp p)∧Ext s s':=by
 refine aa.pre fun hw=>Pp _ _ _ (aj.intro hw rfl fun l1 s2 F=>?_)
 refine aa.use (Ub (P:=fun x=>q7 (oR x x).1 (oR x x).2 false p) F.wf fun x s1 e w=>?_) ?_
 ·show aa _ _ _ _ _
  refine aa.use (V3 (F.own.at.ext e) x) ?_
  rintro v s' ⟨rfl,e'⟩ w'
  exact ⟨rfl,e',w'⟩
 ·rintro v s4 ⟨rfl,e4⟩ w4
  exact ⟨_,rfl,rfl,F.ext.trans e4⟩
end Go.Proofs.YtohgmogbabkkeaaGreat
end

section
namespace Go.Proofs.YtohgmogbabkkeaaGreat
open Go.Am Go.au
def yc (n:Int):List AV:=[.int .u64 n]
theorem uA (n:Int):(yc n).length=1:=rfl
theorem Qa:C5 T e_ jA 1 8:=⟨jC,jB,Yt,⟨_,_,U4,rfl,rfl⟩,by decide,by decide⟩
section
variable {s:AS} {a:AV} {l:List Int} {g:FuncId} {cap:List AV} {P:Int→Bool}
theorem Kq (hl:Sl yc 1 s a l) (hn:l.length≤2 ^ 40) (hf:∀ i∈l,∀ s',Ext s s'→aM s'→aa Tryz.prog g ([.int .u64 i]++cap) s' fun v s''=>v=.bool (P i)∧Ext s' s'') :
  aa Tryz.prog dn [a,.func g cap] s fun v s'=>Ext s s'∧∃ n:Int,v=.int .i64 n∧((n = -1∧l.any P=false)∨∃ k:Nat,n=k∧k<l.length∧(∃ x,l[k]? = some x∧P x=true)∧∀ j x,j<k→l[j]? = some x→P x=false):=by
 refine aa.pre fun hw=>kP _ _ _ _ ⟨_,hl.cG jC _,fun m vs s'=>∃ i:Nat,vs=[.int .i64 (i:Nat)]∧i≤l.length∧m=l.length - i∧Ext s s'∧aM s'∧(∀ j x,j<i→l[j]? = some x→P x=false),l.length,⟨0,rfl,by omega,rfl,Ext.refl _,hw,by omega⟩,?_⟩
 rintro m n s6 ⟨i,hi,h6,rfl,e6,w6,hall⟩
 simp only [List.cons.injEq,AV.int.injEq,true_and,and_true] at hi
 subst hi
 refine af.dec (fun hlt=>?_) (fun hge=>⟨e6,-1,rfl,.inl ⟨rfl,?_⟩⟩)
 ·obtain ⟨x,hx⟩:=cW (l:=l) (i:=i) (by omega)
  obtain ⟨la,o,h8,h9⟩:=hl.ix (by decide) uA jC jB hx
  refine ⟨la,o,h8 _,x,by simpa [yc] using (h9 _ e6).1 0 (by decide),?_⟩
  refine aa.use (hf x (List.mem_of_getElem? hx) s6 e6 w6) ?_
  rintro v fI ⟨rfl,QT⟩ YZ
  refine ⟨_,rfl,af.mk (fun hb=>⟨e6.trans QT,_,rfl,.inr ⟨i,rfl,by omega,⟨x,hx,hb⟩,hall⟩⟩) (fun hb=>⟨l.length - (i+1),by omega,i+1,by rw [aV (by omega)];rfl,by omega,rfl,e6.trans QT,YZ,fun j y hj hy=>?_⟩)⟩
  rcases Nat.lt_or_ge j i with h | h
  ·exact hall j y h hy
  ·obtain rfl:j=i:=by omega
   rw [hx] at hy;obtain rfl:=Option.some.inj hy;exact hb
 ·rw [List.any_eq_false]
  intro x hx
  obtain ⟨j,hj⟩:=List.mem_iff_getElem?.1 hx
  have:j<l.length:=by
   rcases Nat.lt_or_ge j l.length with h | h
   ·exact h
   ·rw [List.getElem?_eq_none h] at hj;cases hj
  rw [hall j x (by omega) hj];simp
theorem uB (hl:Sl yc 1 s a l) (hn:l.length≤2 ^ 40) (hf:∀ i∈l,∀ s',Ext s s'→aM s'→aa Tryz.prog g ([.int .u64 i]++cap) s' fun v s''=>v=.bool (P i)∧Ext s' s'') :
  aa Tryz.prog bX [a,.func g cap] s fun v s'=>v=.bool (l.any P)∧Ext s s':=by
 refine jJ _ _ _ _ ?_
 refine aa.use (Kq hl hn hf) ?_
 rintro v s2 ⟨e,n,rfl,h⟩ _
 refine ⟨_,rfl,?_,e⟩
 congr 1
 rcases h with ⟨rfl,h⟩ | ⟨k,rfl,hk,⟨x,hx,hp⟩,_⟩
 ·rw [h];decide
 ·rw [List.any_eq_true.2 ⟨x,List.mem_of_getElem? hx,hp⟩,decide_eq_true_eq];omega
end
section
variable {s:AS} {a:AV} {l:List aK} {g:FuncId} {cap:List AV} {P:aK→Bool}
theorem Kr (hl:Sl aN 2 s a l) (hn:l.length≤2 ^ 40) (hf:∀ i∈l,∀ s',Ext s s'→aM s'→aa Tryz.prog g ([.agg (aN i)]++cap) s' fun v s''=>v=.bool (P i)∧Ext s' s'') :
  aa Tryz.prog eO [a,.func g cap] s fun v s'=>Ext s s'∧∃ n:Int,v=.int .i64 n∧((n = -1∧l.any P=false)∨∃ k:Nat,n=k∧k<l.length∧(∃ x,l[k]? = some x∧P x=true)∧∀ j x,j<k→l[j]? = some x→P x=false):=by
 refine aa.pre fun hw=>pA _ _ _ _ ⟨_,hl.cG bG _,fun m vs s'=>∃ i:Nat,vs=[.int .i64 (i:Nat)]∧i≤l.length∧m=l.length - i∧Ext s s'∧aM s'∧(∀ j x,j<i→l[j]? = some x→P x=false),l.length,⟨0,rfl,by omega,rfl,Ext.refl _,hw,by omega⟩,?_⟩
 rintro m n s6 ⟨i,hi,h6,rfl,e6,w6,hall⟩
 simp only [List.cons.injEq,AV.int.injEq,true_and,and_true] at hi
 subst hi
 refine af.dec (fun hlt=>?_) (fun hge=>⟨e6,-1,rfl,.inl ⟨rfl,?_⟩⟩)
 ·obtain ⟨x,hx⟩:=cW (l:=l) (i:=i) (by omega)
  obtain ⟨la,o,h8,h9⟩:=hl.ix (by decide) bn bG jZ hx
  refine ⟨la,o,h8 _,_,(h9 _ e6).2,?_⟩
  refine aa.use (hf x (List.mem_of_getElem? hx) s6 e6 w6) ?_
  rintro v fI ⟨rfl,QT⟩ YZ
  refine ⟨_,rfl,af.mk (fun hb=>⟨e6.trans QT,_,rfl,.inr ⟨i,rfl,by omega,⟨x,hx,hb⟩,hall⟩⟩) (fun hb=>⟨l.length - (i+1),by omega,i+1,by rw [aV (by omega)];rfl,by omega,rfl,e6.trans QT,YZ,fun j y hj hy=>?_⟩)⟩
  rcases Nat.lt_or_ge j i with h | h
  ·exact hall j y h hy
  ·obtain rfl:j=i:=by omega
   rw [hx] at hy;obtain rfl:=Option.some.inj hy;exact hb
 ·rw [List.any_eq_false]
  intro x hx
  obtain ⟨j,hj⟩:=List.mem_iff_getElem?.1 hx
  have:j<l.length:=by
   rcases Nat.lt_or_ge j l.length with h | h
   ·exact h
   ·rw [List.getElem?_eq_none h] at hj;cases hj
  rw [hall j x (by omega) hj];simp
theorem D6 (hl:Sl aN 2 s a l) (hn:l.length≤2 ^ 40) (hf:∀ i∈l,∀ s',Ext s s'→aM s'→aa Tryz.prog g ([.agg (aN i)]++cap) s' fun v s''=>v=.bool (P i)∧Ext s' s'') :
  aa Tryz.prog dY [a,.func g cap] s fun v s'=>v=.bool (l.any P)∧Ext s s':=by
 refine mW _ _ _ _ ?_
 refine aa.use (Kr hl hn hf) ?_
 rintro v s2 ⟨e,n,rfl,h⟩ _
 refine ⟨_,rfl,?_,e⟩
 congr 1
 rcases h with ⟨rfl,h⟩ | ⟨k,rfl,hk,⟨x,hx,hp⟩,_⟩
 ·rw [h];decide
 ·rw [List.any_eq_true.2 ⟨x,List.mem_of_getElem? hx,hp⟩,decide_eq_true_eq];omega
end
end Go.Proofs.YtohgmogbabkkeaaGreat
end

section
namespace Go.Proofs.YtohgmogbabkkeaaGreat
open Go.Am Go.au Go.aC Go.bW
theorem SY {s:AS} {l:Nat} {n p:Int} (h:At s l [.int .u64 n]) (hp:p≠0):aa Tryz.prog rj [.int .u64 p,.ptr (some (l,0))] s fun r s'=>r=.bool (Int.tmod n p==0)∧Ext s s' :=
 Il _ _ _ _ ⟨_,by rw [h.av];rfl,hp,rfl,Ext.refl _⟩
theorem V4 (s:AS):aa Tryz.prog u_ [] s fun v s'=>aT yc 1 [] s s' v yJ:=by
 refine aa.pre fun hw=>MS _ _ (aj.intro hw rfl fun l1 s2 F2=>bu.own F2.wf F2.own (by simp) fun s3 P3=>?_)
 have o3:Am.Own s3 l1 [.int .u64 2]:=P3.at
 refine ⟨fun m vs s'=>∃ (k:Nat) (v:AV) (ln:Nat),vs=[v,.ptr (some (ln,0))]∧k≤310∧m=310 - k∧aT yc 1 [] s s' v (eK k)∧Am.Own s' ln [.int .u64 ((k:Int)+2)]∧aM s',310,⟨0,_,l1,rfl,by omega,rfl,aT.start (Ext.wr F2.ext F2.no P3.mut).mut,by simpa using o3,P3.wf⟩,?_⟩
 rintro m v7 p8 s9 ⟨k,v,ln,hvs,hk,rfl,g,o9,w9⟩
 simp only [List.cons.injEq,AV.ptr.injEq,and_true] at hvs
 obtain ⟨rfl,rfl⟩:=hvs
 have UX:=g.sl uA
 have hlen:(eK k).length≤64:=by
  have:=zV hk
  rw [Da] at this;exact this
 refine ⟨_,UX.cG jC _,af.dec (fun hlt=>?_) (fun hge=>?_)⟩
 ·have hk9:k<310:=by
   rcases Nat.lt_or_ge k 310 with h | h
   ·exact h
   ·have h1:=zV h
    rw [Da] at h1
    omega
  refine ⟨fun vs s'=>∃ v,vs=[v]∧aT yc 1 [] s s' v (eK (k+1))∧Am.Own s' ln [.int .u64 ((k:Int)+2)]∧aM s',?_,?_⟩
  ·rintro i_ bS ⟨v,hv,wg,wj,QZ⟩
   simp only [List.cons.injEq,and_true] at hv
   subst hv
   refine ⟨_,by rw [wj.at.av];rfl,aj.intro QZ rfl fun j_ eC F=>bu.own F.wf F.own (by simp) fun iD P=>?_⟩
   have o19:Am.Own iD j_ [.int .u64 ((k:Int)+2)]:=P.at
   refine ⟨_,by rw [o19.at.av];rfl,bu.own P.wf o19 (by simp) fun gn P2=>⟨310 - (k+1),by omega,k+1,_,j_,rfl,by omega,rfl,?_,?_,P2.wf⟩⟩
   ·exact wg.step (Ext.wr (Ext.wr F.ext F.no P.mut) F.no P2.mut)
   ·have:=P2.at
    rw [dD (by simp),gq (by omega)] at this
    rw [Am.Own,this];congr 4
  ·refine aa.use (uB UX (by omega) fun i hi s' e w=>SY (o9.at.ext e) (by have:=xB k i hi;omega)) ?_
   rintro qm rO ⟨rfl,Q0⟩ YN
   refine ⟨_,rfl,af.mk (fun hb=>?_) (fun hb=>?_)⟩
   ·have hb':(eK k).any (fun p=>Int.tmod ((k:Int)+2) p==0)=false:=by simpa using hb
    refine ⟨_,by rw [(o9.ext Q0).at.av];rfl,?_⟩
    refine aT.OB (f:=fun n=>AV.int .u64 n) Qa rfl (fun _=>rfl) YN (g.step Q0) (by simp) ((k:Int)+2) (by omega) fun v' s' g' w' m'=>⟨v',rfl,?_,?_,w'⟩
    ·rw [eK,hb',if_neg (by simp)];exact g'
    ·exact (o9.ext Q0).mut m' (fun hm=>bt.ne (by decide) (g.wq.ext Q0) (o9.ext Q0) _ hm (by simp))
   ·have hb':(eK k).any (fun p=>Int.tmod ((k:Int)+2) p==0)=true:=by simpa using hb
    refine ⟨_,rfl,?_,o9.ext Q0,YN⟩
    rw [eK,if_pos hb'];exact g.step Q0
 ·have hk9:k=310:=by
   rcases Nat.lt_or_ge k 310 with h | h
   ·have h1:=zV (show k≤309 by omega)
    rw [U0] at h1
    omega
   ·omega
  subst hk9
  exact g
theorem Xh {l o:Nat} {i:Int} (h:0≤i∧i<8):ag T cj (.ptr (some (l,o))) (.int .i64 i)=some (.ptr (some (l,o+i.toNat*1))):=uY EF HV h
theorem Ks {l o:Nat} {i:Int} (h:0≤i∧i<64):ag T dx (.ptr (some (l,o))) (.int .i64 i)=some (.ptr (some (l,o+i.toNat*1))):=uY Mm HV h
theorem Cq (k:IntKind) (n:Nat):List.replicate n (AV.int k 0)=(List.replicate n (0:Int)).map (AV.int k):=by simp
set_option maxRecDepth 100000 in
theorem ZH (s:AS):aa Tryz.prog xM [] s fun v s'=>v=.agg (sO.map (.int .u32))∧Ext s s':=by
 refine aa.pre fun hw=>Pt _ _ (aj.intro hw rfl fun l1 s2 F2=>aj.intro F2.wf rfl fun l3 s4 F4=>?_)
 refine aa.use (V4 _) ?_
 rintro v5 s6 g6 w6
 have e6:Ext s4 s6:=g6.eG.ext
 have UX:=g6.sl uA
 have CW:yJ.length=64:=Da
 have hs3:s.h l3=none:=F2.ext.none F4.no
 refine ⟨_,UX.cG jC _,fun m vs s'=>∃ i:Nat,vs=[.int .i64 (i:Nat)]∧i≤64∧m=64 - i∧Ext s2 s'∧aM s'∧Am.Own s' l3 ((u0 i).map (.int .u32))∧Sl yc 1 s' v5 yJ,64,⟨0,rfl,by omega,rfl,F4.ext.trans e6,w6,?_,UX⟩,?_⟩
 ·exact (Cq .u32 72) ▸ (F4.own.ext e6:Am.Own s6 l3 (List.replicate 72 (AV.int .u32 0)))
 rintro m iN dg ⟨i,hi,h6,rfl,Dy,GV,yU,abo⟩
 simp only [List.cons.injEq,AV.int.injEq,true_and,and_true] at hi
 subst hi
 refine af.dec (fun hlt=>?_) (fun hge=>?_)
 ·obtain ⟨y,hy⟩:=cW (l:=yJ) (i:=i) (by omega)
  obtain ⟨la,o,h8,h9⟩:=abo.ix (by decide) uA jC jB hy
  have hyd:yJ.getD i 0=y:=by rw [List.getD_eq_getElem?_getD,hy];rfl
  refine ⟨la,o,h8 _,y,by simpa [yc] using (h9 _ (Ext.refl _)).1 0 (by decide),?_⟩
  refine aa.use (P_ _ _) ?_
  rintro oh lZ ⟨rfl,e17⟩ w17
  refine ⟨_,rfl,_,_,Ks (by omega),bu.int w17 (yU.ext e17) (i:=8+i) (by rw [q8];omega) (by simp) fun gn Mo w21 m21=>?_⟩
  have hg:∀ {l:List Int} {v:AV} {s s':AS},Sl yc 1 s v l→∀ {C:List Int},Am.Own s l3 (C.map (.int .u32))→bD [l3] s s'→Sl yc 1 s' v l:=by
   intro l v s s' h C ho m
   refine h.mut m uA (by decide) ?_
   rintro p hp D hD x hx j c hc hj
   obtain rfl:=List.mem_singleton.1 hp
   rw [ho.at.inj hD |>.symm] at hj
   rw [List.getElem?_map] at hj
   simp only [yc,List.getElem?_cons_zero,Option.some.injEq] at hc
   subst hc
   cases hq:C[j]? with
   | none=>rw [hq] at hj;cases hj
   | some z=>rw [hq] at hj;simp at hj
  have afW:=hg (abo.ext e17) (yU.ext e17) m21
  have e21:Ext s2 gn:=Ext.wr (Dy.trans e17) F4.no m21
  refine af.dec (fun h8'=>?_) (fun h8'=>?_)
  ·refine aa.use (ZG _ _) ?_
   rintro qm rO ⟨rfl,Q0⟩ YN
   refine ⟨_,rfl,_,_,Xh (by omega),bu.int YN (Mo.ext Q0) (i:=i) (by simp [q8];omega) (by simp) fun mQ Fh w27 m27=>⟨64 - (i+1),by omega,i+1,by rw [Cp (by omega)],by omega,rfl,Ext.wr (e21.trans Q0) F4.no m27,w27,?_,hg (afW.ext Q0) (Mo.ext Q0) m27⟩⟩
   rw [u0,GK,if_pos (by omega),hyd];exact Fh
  ·refine ⟨64 - (i+1),by omega,i+1,by rw [Cp (by omega)],by omega,rfl,e21,w21,?_,afW⟩
   rw [u0,GK,if_neg (by omega),hyd];exact Mo
 ·obtain rfl:i=64:=by omega
  have o1:=F2.own.ext Dy
  have hl:((u0 64).map (AV.int .u32)).length=72:=by simp [q8]
  refine ⟨_,yU.at.aB (by omega),?_⟩
  rw [List.drop_zero,List.take_of_length_le (by omega)]
  refine ⟨⟨cg _ _,by rw [hl]⟩,bu.own GV o1 (by simp [hl]) fun z4 P=>?_⟩
  have hP:=P.at
  rw [dD (by simp [hl])] at hP
  refine ⟨_,At.aB ⟨_,_,hP⟩ (by omega),?_,Ext.wr (F2.ext.trans Dy) F2.no P.mut⟩
  rw [List.drop_zero,List.take_of_length_le (by omega)];rfl
end Go.Proofs.YtohgmogbabkkeaaGreat
end

section
namespace Go.Proofs.YtohgmogbabkkeaaGreat
open Go.Am Go.au Go.aC Go.bW
theorem SZ (a b:Int):cZ T gB 2 [(0,.int .i64 a),(1,.int .i64 b)]=some [.int .i64 a,.int .i64 b]:=by
 simp only [cZ,sx,K3,Mf,Option.bind_some,uR];rfl
theorem ZI (a b c:Int):cZ T gB 3 [(0,.int .i64 a),(1,.int .i64 b),(2,.int .i64 c)]=some [.int .i64 a,.int .i64 b,.int .i64 c]:=by
 simp only [cZ,sx,K3,Mf,Option.bind_some,uR];rfl
theorem acd {s:AS} {l:Nat} {a b:Int} (h:At s l [.int .i64 a,.int .i64 b]):Sl P7 1 s (.slc (some (l,0)) 2 2 true) [a,b]:=bZ.mk h rfl rfl
theorem ace {s:AS} {l:Nat} {a b c:Int} (h:At s l [.int .i64 a,.int .i64 b,.int .i64 c]):Sl P7 1 s (.slc (some (l,0)) 3 3 true) [a,b,c]:=bZ.mk h rfl rfl
theorem Qb (a b c d e f g z:Int):aU T cj [(0,.int .u32 a),(1,.int .u32 b),(2,.int .u32 c),(3,.int .u32 d),(4,.int .u32 e),(5,.int .u32 f),(6,.int .u32 g),(7,.int .u32 z)]=some (.agg [.int .u32 a,.int .u32 b,.int .u32 c,.int .u32 d,.int .u32 e,.int .u32 f,.int .u32 g,.int .u32 z]):=by kernel_rfl
theorem ZJ (v:W8) {i:Nat} (hi:i<8):jd T cj (.agg (v.list.map (.int .u32))) (.int .i64 (i:Nat))=some (.int .u32 (v.list.getD i 0)):=by
 simp only [jd,EF,HV,Option.bind_some,C6 U6]
 rcases v with ⟨a,b,c,d,e,f,g,z⟩
 match i,hi with
 | 0,_=>simp [W8.list]
 | 1,_=>simp [W8.list]
 | 2,_=>simp [W8.list]
 | 3,_=>simp [W8.list]
 | 4,_=>simp [W8.list]
 | 5,_=>simp [W8.list]
 | 6,_=>simp [W8.list]
 | 7,_=>simp [W8.list]
def W8.vs (v:W8):List AV:=[.int .u32 v.a,.int .u32 v.b,.int .u32 v.c,.int .u32 v.d,.int .u32 v.e,.int .u32 v.f,.int .u32 v.g,.int .u32 v.z]
theorem W8.inj {v:W8} {a b c d e f g z:Int} (h:[AV.int .u32 a,.int .u32 b,.int .u32 c,.int .u32 d,.int .u32 e,.int .u32 f,.int .u32 g,.int .u32 z]=W8.vs v):v=⟨a,b,c,d,e,f,g,z⟩:=by
 cases v
 simp only [W8.vs,List.cons.injEq,AV.int.injEq,true_and,and_true] at h
 obtain ⟨rfl,rfl,rfl,rfl,rfl,rfl,rfl,rfl⟩:=h
 rfl
set_option maxRecDepth 100000 in
theorem ZK {s:AS} {p:Nat} {st:List Int} {bv:AV} {pE:List Int} (ho:Am.Own s p (st.map (.int .u32))) (hst:st.length=72) (hb:gx s bv pE) (hne:bv≠.emp) (NK:pE.length=64) :
  aa Tryz.prog mL [.ptr (some (p,0)),bv] s fun r s'=>r=.aQ []∧bD [p] s s'∧Am.Own s' p ((RI st pE).map (.int .u32)):=by
 refine aa.pre fun hw=>BW _ _ _ _ (aj.intro hw rfl fun l1 s2 F2=>?_)
 have hlp:l1≠p:=fun e=>by
  have:=F2.no
  rw [e,ho] at this;cases this
 have o1:Am.Own s2 l1 ((w1N pE 0).map (.int .u32)):=(Cq .u32 64) ▸ (F2.own:Am.Own s2 l1 (List.replicate 64 (AV.int .u32 0)))
 refine ⟨fun vs s'=>Ext s s'∧aM s'∧Am.Own s' l1 ((OO pE 0).map (.int .u32)),?_,?_⟩
 ·rintro s4 ⟨e4,w4,o4⟩
  refine ⟨fun vs s'=>Ext s s'∧aM s'∧Am.Own s' l1 ((OO pE 48).map (.int .u32)),?_,?_⟩
  ·rintro s6 ⟨e6,w6,o6⟩
   have op6:=ho.ext e6
   have rd:∀ i:Nat,i<8→av s6 p (0+((i:Nat):Int).toNat*1)=some (.int .u32 (st.getD i 0)):=fun i hi=>op6.at.U1 (by omega) (by simp)
   refine ⟨_,_,Xh (i:=0) (by omega),_,rd 0 (by omega),_,_,Xh (i:=1) (by omega),_,rd 1 (by omega),_,_,Xh (i:=2) (by omega),_,rd 2 (by omega),_,_,Xh (i:=3) (by omega),_,rd 3 (by omega),_,_,Xh (i:=4) (by omega),_,rd 4 (by omega),_,_,Xh (i:=5) (by omega),_,rd 5 (by omega),_,_,Xh (i:=6) (by omega),_,rd 6 (by omega),_,_,Xh (i:=7) (by omega),_,rd 7 (by omega),?_⟩
   refine ⟨fun vs s'=>vs=W8.vs (xC st (OO pE 48) 64)∧Ext s s'∧aM s',?_,?_⟩
   ·rintro n48 U9 n50 Sx n52 QM YD n55 zC ⟨hv,e56,w56⟩
    have hv:=W8.inj hv
    refine ⟨_,Qb _ _ _ _ _ _ _ _,fun m vs s'=>∃ i:Nat,vs=[.int .i64 (i:Nat)]∧i≤8∧m=8 - i∧bD [p] s s'∧aM s'∧Am.Own s' p ((OP (xC st (OO pE 48) 64).list st i).map (.int .u32)),8,⟨0,rfl,by omega,rfl,e56.mut,w56,ho.ext e56⟩,?_⟩
    rintro m EJ BF ⟨i,hi,h6,rfl,m62,w62,o62⟩
    simp only [List.cons.injEq,AV.int.injEq,true_and,and_true] at hi
    subst hi
    refine af.dec (fun hlt=>?_) (fun hge=>?_)
    ·have hx:=ZJ (xC st (OO pE 48) 64) (i:=i) (by omega)
     have hr:av BF p (0+((i:Nat):Int).toNat*1)=some (.int .u32 ((OP (xC st (OO pE 48) 64).list st i).getD i 0)):=o62.at.U1 (by rw [Bt];omega) (by simp)
     rw [hv] at hx
     refine ⟨_,hx,_,_,Xh (by omega),_,hr,_,_,Xh (by omega),bu.int w62 o62 (i:=i) (by rw [Bt];omega) (by simp) fun s73 o73 w73 m73=>⟨8 - (i+1),by omega,i+1,by rw [Cp (by omega)],by omega,rfl,m62.trans m73,w73,?_⟩⟩
     rw [OP]
     rw [hv] at o73 ⊢
     exact o73
    ·obtain rfl:i=8:=by omega
     exact ⟨rfl,m62,o62⟩
   ·refine ⟨fun m vs s'=>∃ i:Nat,vs=W8.vs (xC st (OO pE 48) i)++[.int .i64 (i:Nat)]∧i≤64∧m=64 - i∧Ext s6 s'∧aM s',64,⟨0,rfl,by omega,rfl,Ext.refl _,w6⟩,?_⟩
    rintro m a b c d e f g z RR OX ⟨i,hi,h6,rfl,e86,w86⟩
    obtain ⟨hv,hi⟩:=List.append_inj' (s₁:=[AV.int .u32 a,.int .u32 b,.int .u32 c,.int .u32 d,.int .u32 e,.int .u32 f,.int .u32 g,.int .u32 z]) (t₁:=[AV.int .i64 RR]) hi rfl
    have hv:=W8.inj hv
    simp only [List.cons.injEq,AV.int.injEq,true_and,and_true] at hi
    subst hi
    refine af.dec (fun hlt=>?_) (fun hge=>?_)
    ·have hk:av OX p (0+8+((i:Nat):Int).toNat*1)=some (.int .u32 (st.getD (8+i) 0)):=(op6.ext e86).at.U1 (by omega) (by simp)
     have hwd:av OX l1 (0+((i:Nat):Int).toNat*1)=some (.int .u32 ((OO pE 48).getD i 0)):=(o6.ext e86).at.U1 (by rw [GN];omega) (by simp)
     refine ⟨fun q _ v s=>q=3→Sl P7 1 s v [6,11,25],fun q _ v=>q=4→v=.int .u32 (E_ e [6,11,25]),fun q _ v s s' e h hq=>(h hq).ext e,fun s87 e87 w87 _=>⟨_,ZI _ _ _,aj.intro w87 rfl fun l89 s90 F=>⟨F.ext,(fun _=>ace F.own.at),(fun h=>by cases h)⟩⟩,⟨.bad,fun h=>by cases h⟩,fun v91 _=>⟨fun s92 e92 w92 hS=>?_,⟨_,fun _=>rfl⟩,fun v96 aiM=>?_⟩⟩
     ·refine (Nw (hS.1 rfl) (by decide) _).mono ?_
      rintro v s' ⟨rfl,rfl⟩
      exact ⟨_,rfl,Ext.refl _,(fun h=>by cases h),(fun _=>rfl)⟩
     ·obtain rfl:=aiM rfl
      refine ⟨_,rfl,_,rfl,_,rfl,_,rfl,_,rfl,_,_,Ks (by omega),_,hk,_,_,Ks (by omega),_,hwd,fun VJ aiN aiO _=>⟨_,ZI _ _ _,aj.intro aiO rfl fun aft Mu F=>?_⟩⟩
      refine aa.use (Nw (ace F.own.at) (by decide) _) ?_
      rintro v afu ⟨rfl,rfl⟩ aiP
      refine ⟨_,rfl,_,rfl,_,rfl,_,rfl,_,rfl,_,rfl,64 - (i+1),by omega,i+1,?_,by omega,rfl,e86.trans (aiN.trans F.ext),aiP⟩
      rw [Cp (by omega),xC,hv]
      rfl
    ·obtain rfl:i=64:=by omega
     refine ⟨?_,e6.trans e86,w86⟩
     rw [hv];rfl
  ·refine ⟨fun m vs s'=>∃ i:Nat,vs=[.int .i64 ((16+i:Nat):Int)]∧i≤48∧m=48 - i∧Ext s s'∧aM s'∧Am.Own s' l1 ((OO pE i).map (.int .u32)),48,⟨0,rfl,by omega,rfl,e4,w4,o4⟩,?_⟩
   rintro m MX DM ⟨i,hi,h6,rfl,e7,w7,o7⟩
   simp only [List.cons.injEq,AV.int.injEq,true_and,and_true] at hi
   subst hi
   refine af.dec (fun hlt=>?_) (fun hge=>?_)
   ·have ww:∀ k:Nat,k≤16→IntKind.wrap .i64 (((16+i:Nat):Int) - (k:Int))=((16+i - k:Nat):Int):=fun k hk=>by rw [aV (by omega)];omega
    have rd:∀ k:Nat,k<64→av DM l1 (0+(k:Int).toNat*1)=some (.int .u32 ((OO pE i).getD k 0)):=fun k hk=>o7.at.U1 (by rw [GN];omega) (by simp)
    have w15:=ww 15 (by omega)
    have w2:=ww 2 (by omega)
    have w16:=ww 16 (by omega)
    have w7':=ww 7 (by omega)
    rw [show ((15:Nat):Int)=15 from rfl] at w15
    rw [show ((2:Nat):Int)=2 from rfl] at w2
    rw [show ((16:Nat):Int)=16 from rfl] at w16
    rw [show ((7:Nat):Int)=7 from rfl] at w7'
    rw [w15,w2,w16,w7']
    refine ⟨_,_,Ks (by omega),_,rd _ (by omega),_,_,Ks (by omega),_,rd _ (by omega),fun q _ v s=>(q=7→Sl P7 1 s v [7,18])∧(q=20→Sl P7 1 s v [17,19]),fun q _ v=>(q=8→v=.int .u32 (E_ ((OO pE i).getD (16+i - 15) 0) [7,18]))∧(q=21→v=.int .u32 (E_ ((OO pE i).getD (16+i - 2) 0) [17,19])),fun q _ v s s' e h=>⟨fun hq=>(h.1 hq).ext e,fun hq=>(h.2 hq).ext e⟩,_,_,Ks (by omega),_,rd _ (by omega),fun Zm ajX aiQ _=>⟨_,SZ _ _,aj.intro aiQ rfl fun adB adC F=>⟨F.ext,⟨(fun _=>acd F.own.at),(fun h=>by cases h)⟩,(fun h=>by cases h),(fun h=>by cases h)⟩⟩,⟨.bad,(fun h=>by cases h),(fun h=>by cases h)⟩,fun FE _=>⟨fun VK ajY ajZ hS=>?_,⟨_,(fun _=>rfl),(fun h=>by cases h)⟩,fun adE afX=>?_⟩⟩
    ·refine (Nw (hS.1.1 rfl) (by decide) _).mono ?_
     rintro v s' ⟨rfl,rfl⟩
     exact ⟨_,rfl,Ext.refl _,⟨(fun h=>by cases h),(fun h=>by cases h)⟩,(fun _=>rfl),(fun h=>by cases h)⟩
    ·obtain rfl:=afX.1 rfl
     refine ⟨_,rfl,by decide,_,rfl,_,_,Ks (by omega),_,rd _ (by omega),fun Zn aj0 aiR _=>⟨_,SZ _ _,aj.intro aiR rfl fun adF adG F=>⟨F.ext,⟨(fun h=>by cases h),(fun _=>acd F.own.at)⟩,(fun h=>by cases h),(fun h=>by cases h)⟩⟩,⟨.bad,(fun h=>by cases h),(fun h=>by cases h)⟩,fun Kb _=>⟨fun Pv aj1 aj2 hS=>?_,⟨_,(fun h=>by cases h),(fun _=>rfl)⟩,fun adI afY=>?_⟩⟩
     ·refine (Nw (hS.2.2.1.2 rfl) (by decide) _).mono ?_
      rintro v s' ⟨rfl,rfl⟩
      exact ⟨_,rfl,Ext.refl _,⟨(fun h=>by cases h),(fun h=>by cases h)⟩,(fun h=>by cases h),(fun _=>rfl)⟩
     ·obtain rfl:=afY.2 rfl
      refine ⟨_,rfl,by decide,_,rfl,fun Pw afZ aiS _=>⟨_,_,Ks (by omega),bu.int aiS (o7.ext afZ) (i:=16+i) (by rw [GN];omega) (by simp;omega) fun afy aiT aiU aiV=>⟨48 - (i+1),by omega,i+1,by rw [Cp (by omega)];rfl,by omega,rfl,Ext.wr (e7.trans afZ) F2.no aiV,aiU,?_⟩⟩⟩
      rw [OO,RH]
      exact aiT
   ·obtain rfl:i=48:=by omega
    exact ⟨e7,w7,o7⟩
 ·refine ⟨fun m vs s'=>∃ i:Nat,vs=[.int .i64 (i:Nat)]∧i≤16∧m=16 - i∧Ext s s'∧aM s'∧Am.Own s' l1 ((w1N pE i).map (.int .u32)),16,⟨0,rfl,by omega,rfl,F2.ext,F2.wf,o1⟩,?_⟩
  rintro m Px Zo ⟨i,hi,h6,rfl,adY,af0,af1⟩
  simp only [List.cons.injEq,AV.int.injEq,true_and,and_true] at hi
  subst hi
  refine af.dec (fun hlt=>?_) (fun hge=>?_)
  ·have w4:IntKind.wrap .i64 (4*(i:Int))=((4*i:Nat):Int):=by rw [aV (by omega)];omega
   have w8:IntKind.wrap .i64 (((4*i:Nat):Int)+4)=((4*i+4:Nat):Int):=by rw [aV (by omega)];omega
   obtain ⟨v',pM,sl'⟩:=(hb.ext adY).mid bT aL eu hne (i:=4*i) (j:=4*i+4) (by omega) (by omega) .i64 .i64
   rw [w4,w8]
   have hl4:((pE.drop (4*i)).take (4*i+4 - 4*i)).length=4:=by rw [List.length_take,List.length_drop];omega
   refine ⟨_,pM,_,sl'.cG aL _,fun m vs s'=>∃ k:Nat,vs=[.int .i64 (k:Nat)]∧k≤4∧m=4 - k∧Ext s s'∧aM s'∧Sl qH 1 s' v' ((pE.drop (4*i)).take (4*i+4 - 4*i))∧Am.Own s' l1 ((inN pE i (w1N pE i) k).map (.int .u32)),4,⟨0,rfl,by omega,rfl,adY,af0,sl',af1⟩,?_⟩
   rintro m Zp Sz ⟨k,hk,h6k,rfl,af2,af3,acf,abp⟩
   simp only [List.cons.injEq,AV.int.injEq,true_and,and_true] at hk
   subst hk
   rw [hl4]
   refine af.dec (fun hlt=>?_) (fun hge=>?_)
   ·obtain ⟨y,hy⟩:=cW (l:=(pE.drop (4*i)).take (4*i+4 - 4*i)) (i:=k) (by omega)
    have hyd:pE.getD (4*i+k) 0=y:=by
     rw [List.getElem?_take,if_pos (by omega),List.getElem?_drop] at hy
     rw [List.getD_eq_getElem?_getD,hy];rfl
    obtain ⟨la,o,h8,h9⟩:=acf.ix (by decide) bT aL eu hy
    have hr:av Sz l1 (0+((i:Nat):Int).toNat*1)=some (.int .u32 ((inN pE i (w1N pE i) k).getD i 0)):=abp.at.U1 (by rw [GL,GM];omega) (by simp)
    refine ⟨la,o,h8 _,y,by simpa [qH] using (h9 _ (Ext.refl _)).1 0 (by decide),_,_,Ks (by omega),_,hr,by decide,_,rfl,_,_,Ks (by omega),bu.int af3 abp (i:=i) (by rw [GL,GM];omega) (by simp) fun afC aiW aiX af4=>⟨4 - (k+1),by omega,k+1,by rw [Cp (by omega)],by omega,rfl,Ext.wr af2 F2.no af4,aiX,?_,?_⟩⟩
    ·refine acf.mut af4 bT (by decide) ?_
     rintro q hq D hD x hx j c hc hj
     obtain rfl:=List.mem_singleton.1 hq
     rw [← abp.at.inj hD,List.getElem?_map] at hj
     simp only [qH,List.getElem?_cons_zero,Option.some.injEq] at hc
     subst hc
     cases hq:(inN pE i (w1N pE i) k)[j]? with
     | none=>rw [hq] at hj;cases hj
     | some z=>rw [hq] at hj;simp at hj
    ·rw [inN,RG,hyd];exact aiW
   ·obtain rfl:k=4:=by omega
    refine ⟨16 - (i+1),by omega,i+1,by rw [Cp (by omega)],by omega,rfl,af2,af3,abp⟩
  ·obtain rfl:i=16:=by omega
   exact ⟨adY,af0,af1⟩
end Go.Proofs.YtohgmogbabkkeaaGreat
end

section
namespace Go.Proofs.YtohgmogbabkkeaaGreat
open Go.Am Go.au Go.aC Go.bW
theorem ZL (k:Nat):(List.replicate k (0:Int)).flatMap qH=rep k [AV.int .u8 0]:=by
 induction k with
 | zero=>rfl
 | succ k ih=>simp only [List.replicate_succ,List.flatMap_cons,ih,rep];rfl
theorem V5 {s0 s:AS} (hw:aM s) {v:AV} {l:List Int} (h:Av s0 s v l) (hv:l≠[]) (k:Nat) (hb:l.length+k≤2 ^ 28) {K:AV→AS→Prop} (hK:∀ v' s',Av s0 s' v' (l++List.replicate k 0)→aM s'→K v' s'):iG (aJ T aq ud v (.int .i64 (k:Nat)) s) K:=by
 rcases h with ⟨⟨rfl,_⟩ | ⟨la,rfl,hla⟩,hc,hn⟩
 ·exact absurd rfl hv
 have hfl:=tD l
 have hz:bJ (AV.int IntKind.u8 0)=some [AV.int .u8 0]:=rfl
 have ha:aJ T aq ud (.slc (some (la,0)) l.length l.length false) (.int .i64 (k:Nat)) s=if k=0 then some (.slc (some (la,0)) l.length l.length false,s) else
   some (.slc (some (s.nl,0)) (l.length+k) (l.length+k) false,(s.kill la).new (.cells (l.flatMap qH++rep k [.int .u8 0]) 1 false)):=by
  simp only [aJ,aL,TO,if_true,tO,eu,Mg,HR,Option.bind_some,hz,List.length_cons,List.length_nil,Int.toNat_natCast,Nat.zero_add]
  rw [if_neg (by omega)]
  split
  ·rfl
  ·have hsrc:nH 1 l.length s (.slc (some (la,0)) l.length l.length false)=some (l.flatMap qH):=by
    have:l.length≠0:=fun h=>hv (List.length_eq_zero_iff.1 h)
    simp only [nH,if_neg this]
    rw [uS hla (by rw [hfl];omega),List.drop_zero,List.take_of_length_le (by rw [hfl];omega)]
   rw [hsrc]
   simp only [Option.bind_some,hla,Nat.zero_add]
   rw [if_pos ⟨trivial,by omega,by omega⟩]
 by_cases h0:k=0
 ·subst h0
  rw [if_pos rfl] at ha
  refine ⟨_,_,ha,hK _ _ ?_ hw⟩
  simp only [List.replicate_zero,List.append_nil]
  exact ⟨.inr ⟨la,rfl,hla⟩,hc,hn⟩
 ·rw [if_neg h0] at ha
  have hk:aM (s.kill la):=by
   refine ⟨hw.1,fun j=>?_⟩
   rw [AS.sJ,AS.oF,AS.Gw]
   split
   ·rfl
   ·exact hw.2 j
  have hF:=hk.new (o:=.cells (l.flatMap qH++rep k [.int .u8 0]) 1 false) rfl
  refine ⟨_,_,ha,hK _ _ ⟨.inr ⟨s.nl,by simp,?_⟩,⟨fun y o hy ho=>hF.ext.1 y o ?_,Nat.le_trans hc.2 hF.ext.2⟩,fun x hx=>?_⟩ hF.wf⟩
  ·rw [List.flatMap_append,ZL];exact hF.at
  ·rw [AS.sJ,if_neg]
   ·exact hc.1 y o hy ho
   ·rintro rfl
    rw [hn y (by simp [ay])] at ho;cases ho
  ·simp only [ay,List.mem_singleton] at hx
   subst hx
   cases hq:s0.h s.nl with
   | none=>rfl
   | some o =>
    have:=hc.1 _ _ (by simp) hq
    rw [hw.none] at this;cases this
theorem abq (n:Nat) (hn:n≤2 ^ 40):Int.tmod (IntKind.wrap .i64 (120 - Int.tmod ((n+1:Nat):Int) 64)) 64=((Me n:Nat):Int):=by
 have h1:Int.tmod ((n+1:Nat):Int) 64=(((n+1) % 64:Nat):Int):=by
  rw [Int.tmod_eq_emod_of_nonneg (by omega)];omega
 rw [h1,aV (by omega),Int.tmod_eq_emod_of_nonneg (by omega),Me]
 omega
theorem abr (f:Nat→Int) {i n:Nat} (h:i<n):((List.range i).map f++List.replicate (n - i) 0).set i (f i)=(List.range (i+1)).map f++List.replicate (n - (i+1)) 0:=by
 have e:n - i=(n - (i+1))+1:=by omega
 rw [e,List.range_succ,List.set_append,if_neg (by simp)]
 simp [List.replicate_succ]
theorem ixH {l:Nat} {i:Int} (h:0≤i∧i<32):ag T sZ (.ptr (some (l,0))) (.int .i64 i)=some (.ptr (some (l,0+i.toNat*1))):=uY Mi eu h
theorem V6 {k:IntKind} (hk:k≠.u8) {s s':AS} {q:Nat} {C:List Int} {v:AV} {l:List Int} (h:gx s v l) (ho:Am.Own s q (C.map (.int k))) (m:bD [q] s s'):gx s' v l:=by
 refine Sl.mut h m bT (by decide) ?_
 rintro p hp D hD x hx j c hc hj
 obtain rfl:=List.mem_singleton.1 hp
 rw [← ho.at.inj hD,List.getElem?_map] at hj
 simp only [qH,List.getElem?_cons_zero,Option.some.injEq] at hc
 subst hc
 cases hq:C[j]? with
 | none=>rw [hq] at hj;cases hj
 | some z=>rw [hq] at hj;simp at hj;exact hk hj.1
set_option maxRecDepth 100000 in
theorem Uc {s:AS} {st:List Int} (hst:st.length=72) {a:AV} {L:List (AV×List Int)} (ha:Sl prC 1 s a L) (hL:∀ p∈L,gx s p.1 p.2) (hn:L.length≤2 ^ 20) (hb:qI L≤2 ^ 20) :
  aa Tryz.prog cD [.agg (st.map (.int .u32)),a] s fun r s'=>r=.agg ((EE st (L.flatMap Prod.snd)).map (.int .u8))∧Ext s s':=by
 refine aa.pre fun hw=>B2 _ _ _ _ ⟨cg _ _,aj.intro hw rfl fun l1 s2 F2=>aj.intro F2.wf rfl fun l3 s4 F4=>?_⟩
 have e4:=F2.ext.trans F4.ext
 have o1:Am.Own s4 l1 (st.map (.int .u32)):=F2.own.ext F4.ext
 have o3:Am.Own s4 l3 ((List.replicate 32 (0:Int)).map (.int .u8)):=(Cq .u8 32) ▸ (F4.own:Am.Own s4 l3 (List.replicate 32 (AV.int .u8 0)))
 have h13:l1≠l3:=fun e=>by
  have:=F4.no
  rw [← e,F2.own] at this;cases this
 have n3:s.h l3=none:=F2.ext.none F4.no
 refine aa.use (VZ (ha.ext e4) (fun p hp=>(hL p hp).ext e4) hn (by omega)) ?_
 rintro v5 s6 g6 w6
 have NK:=yR L
 generalize L.flatMap Prod.snd=b at g6 NK ⊢
 refine ⟨_,(g6.sl bT).cG aL _,?_⟩
 refine ya w6 g6 (by simp) 128 (by omega) fun v11 dg K5 GV m12=>?_
 refine ⟨_,(K5.sl bT).cG aL _,by decide,by decide,?_⟩
 have hpz:Me b.length<64:=by unfold Me;omega
 have Xm:(b++[(128:Int)]).length=b.length+1:=by simp
 rw [Xm,abq _ (by omega)]
 refine V5 GV K5 (by simp) (Me b.length) (by simp;omega) fun tK f_ z5 w15=>?_
 have CW:=OQ b
 have hpm:=Yq b
 refine ⟨fun vs s'=>∃ v,vs=[v]∧Av s4 s' v (sP b)∧aM s',?_,?_⟩
 ·rintro o_ eC ⟨v,hv,xY,RX⟩
  simp only [List.cons.injEq,and_true] at hv
  subst hv
  refine ⟨fun vs s'=>Ext s s'∧aM s'∧Am.Own s' l1 ((xD st (sP b) ((sP b).length / 64)).map (.int .u32))∧Am.Own s' l3 ((List.replicate 32 (0:Int)).map (.int .u8)),?_,?_⟩
  ·rintro fN ⟨Na,Vt,p20,q20⟩
   generalize hS:xD st (sP b) ((sP b).length / 64)=S at p20
   have hSl:S.length=72:=by rw [← hS,zW,hst]
   refine ⟨fun m vs s'=>∃ i:Nat,vs=[.int .i64 (i:Nat)]∧i≤32∧m=32 - i∧Ext s s'∧aM s'∧Am.Own s' l1 (S.map (.int .u32))∧Am.Own s' l3 (((List.range i).map (aaM S)++List.replicate (32 - i) 0).map (.int .u8)),32,⟨0,rfl,by omega,rfl,Na,Vt,p20,by simpa using q20⟩,?_⟩
   rintro m yN dM ⟨i,hi,h6,rfl,T6,H8,p25,q25⟩
   simp only [List.cons.injEq,AV.int.injEq,true_and,and_true] at hi
   subst hi
   refine af.dec (fun hlt=>?_) (fun hge=>?_)
   ·have hd:IntKind.wrap .i64 (Int.tdiv (i:Int) 4)=((i / 4:Nat):Int):=by
     rw [Int.tdiv_eq_ediv_of_nonneg (by omega),aV (by omega)];omega
    have ht:Int.tmod (i:Int) 4=((i % 4:Nat):Int):=by rw [Int.tmod_eq_emod_of_nonneg (by omega)];omega
    have hr:av dM l1 (0+((i / 4:Nat):Int).toNat*1)=some (.int .u32 (S.getD (i / 4) 0)):=p25.at.U1 (by omega) (by simp;omega)
    rw [hd]
    refine ⟨by decide,_,_,Xh (by omega),_,hr,by decide,?_,_,_,ixH (by omega),bu.int H8 q25 (i:=i) (by simp;omega) (by simp) fun nA q31 NS QU=>⟨32 - (i+1),by omega,i+1,by rw [Cp (by omega)],by omega,rfl,Ext.wr T6 n3 QU,NS,p25.mut QU (by simpa using h13),?_⟩⟩
    ·rw [ht,aV (n:=8*((i % 4:Nat):Int)) (by omega),aV (by omega)];omega
    ·rw [← abr (aaM S) (by omega)];exact q31
   ·obtain rfl:i=32:=by omega
    simp only [Nat.sub_self,List.replicate_zero,List.append_nil] at q25
    have hl:(((List.range 32).map (aaM S)).map (AV.int .u8)).length=32:=by simp
    refine ⟨_,q25.at.aB (by omega),?_⟩
    rw [List.drop_zero,List.take_of_length_le (by omega)]
    refine ⟨⟨cg _ _,by rw [hl]⟩,bu.own H8 q25 (by omega) fun qR P=>?_⟩
    have hP:=P.at
    rw [dD (by omega)] at hP
    refine ⟨_,At.aB ⟨_,_,hP⟩ (by omega),?_,Ext.wr T6 n3 P.mut⟩
    rw [List.drop_zero,List.take_of_length_le (by omega),EE,hS,acW]
  ·refine ⟨fun m vs s'=>∃ (k:Nat) (v:AV),vs=[v]∧64*k≤(sP b).length∧m=(sP b).length / 64 - k∧Ext s s'∧aM s'∧gx s' v ((sP b).drop (64*k))∧Am.Own s' l1 ((xD st (sP b) k).map (.int .u32))∧Am.Own s' l3 ((List.replicate 32 (0:Int)).map (.int .u8)),(sP b).length / 64,⟨0,_,rfl,by omega,rfl,e4.trans xY.eG.ext,RX,by simpa using xY.sl bT,o1.ext xY.eG.ext,o3.ext xY.eG.ext⟩,?_⟩
   rintro m HX yM ⟨k,v,hv,hk,rfl,e39,w39,W_,p39,q39⟩
   simp only [List.cons.injEq,and_true] at hv
   subst hv
   have hdl:((sP b).drop (64*k)).length=(sP b).length - 64*k:=List.length_drop
   refine ⟨_,W_.cG aL _,af.dec (fun hgt=>?_) (fun hle=>?_)⟩
   ·have hne:(sP b).drop (64*k)≠[]:=fun h=>by rw [h] at hgt;simp at hgt
    have hem:=W_.Yr hne
    obtain ⟨v',pM,sl'⟩:=W_.upto bT aL eu hem (i:=64) (by omega) .i64
    refine ⟨_,pM,?_⟩
    have Zx:(((sP b).drop (64*k)).take 64).length=64:=by rw [List.length_take];omega
    refine aa.use (ZK p39 (by rw [zW,hst]) sl' (sl'.Yr fun h=>by rw [h] at Zx;simp at Zx) Zx) ?_
    rintro y4 CR ⟨rfl,Sj,p43⟩ w43
    have b43:=V6 (by decide) W_ p39 Sj
    obtain ⟨v2,hv2,sl2⟩:=b43.rest bT aL eu (i:=64) (by omega) .i64
    refine ⟨rfl,_,hv2,(sP b).length / 64 - (k+1),by omega,k+1,v2,rfl,by omega,rfl,Ext.wr e39 F2.no Sj,w43,?_,?_,q39.mut Sj (by simpa using Ne.symm h13)⟩
    ·rw [List.drop_drop] at sl2
     rw [show 64*(k+1)=64*k+64 by omega];exact sl2
    ·rw [xD];exact p43
   ·have:(sP b).length / 64=k:=by omega
    exact ⟨e39,w39,by rw [this];exact p39,q39⟩
 ·refine ⟨fun m vs s'=>∃ (i:Nat) (v:AV),vs=[v,.int .i64 (i:Nat)]∧i≤8∧m=8 - i∧aM s'∧Av s4 s' v (b++[128]++List.replicate (Me b.length) 0++(List.range i).map (acV b.length)),8,⟨0,_,rfl,by omega,rfl,w15,by simpa using z5⟩,?_⟩
  rintro m Vc U9 pG ⟨i,v,hi,h6,rfl,w50,g50⟩
  simp only [List.cons.injEq,AV.int.injEq,true_and,and_true] at hi
  obtain ⟨rfl,rfl⟩:=hi
  refine af.dec (fun hlt=>?_) (fun hge=>?_)
  ·refine ⟨by rw [aV (n:=8*(i:Int)) (by omega),aV (by omega)];omega,?_⟩
   refine ya w50 g50 (by simp) (acV b.length i) (by simp;omega) fun v' s' g' w' _=>⟨8 - (i+1),by omega,i+1,v',by rw [Cp (by omega)],by omega,rfl,w',?_⟩
   rw [List.range_succ,List.map_append,← List.append_assoc]
   exact g'
  ·obtain rfl:i=8:=by omega
   exact ⟨Vc,rfl,g50,w50⟩
end Go.Proofs.YtohgmogbabkkeaaGreat
end

section
namespace Go.Proofs.YtohgmogbabkkeaaGreat
open Go.Am Go.au Go.aC Go.bW
theorem EO:C5 T eF aq 1 24:=⟨n_,qP,U3,⟨_,_,HS,rfl,rfl⟩,by decide,by decide⟩
theorem ixK {l:Nat} {i:Int} (h:0≤i∧i<64):ag T fX (.ptr (some (l,0))) (.int .i64 i)=some (.ptr (some (l,0+i.toNat*1))):=uY sy eu h
def Cr (f:Int→Int) (K:List Int) (i:Nat):List Int:=(K.take i).map f++K.drop i
theorem Cs (f:Int→Int) (K:List Int) (i:Nat):(Cr f K i).length=K.length:=by simp [Cr];omega
theorem Ud (f:Int→Int) {K:List Int} {i:Nat} (h:i<K.length):(Cr f K i).getD i 0=K.getD i 0:=by
 rw [Cr,List.getD_eq_getElem?_getD,List.getD_eq_getElem?_getD,List.getElem?_append_right (by simp;omega)]
 simp [Nat.min_eq_left (Nat.le_of_lt h)]
theorem Qc (f:Int→Int) {K:List Int} {i:Nat} (h:i<K.length):(Cr f K i).set i (f (K.getD i 0))=Cr f K (i+1):=by
 have hd:=List.drop_eq_getElem_cons h
 have hg:K.getD i 0=K[i]:=by simp [List.getD_eq_getElem?_getD,List.getElem?_eq_getElem h]
 have hl:((K.take i).map f).length=i:=by simp;omega
 rw [Cr,Cr,List.set_append,if_neg (by omega),hl,Nat.sub_self,hd,List.set_cons_zero,List.take_add_one,List.getElem?_eq_getElem h,Option.toList_some,List.map_append,List.append_assoc,hg]
 rfl
theorem ZM (f:Int→Int) (K:List Int):Cr f K K.length=K.map f:=by simp [Cr]
theorem abt {k:IntKind} (sec:List Int) (h:sec.length≤64):qJ ((List.replicate 64 (0:Int)).map (AV.int k)) 0 (sec.map (AV.int k))=(sec++List.replicate (64 - sec.length) 0).map (AV.int k):=by
 apply List.ext_getElem?
 intro j
 rw [jM _ _ _ _ (by simp;omega)]
 simp only [List.length_map,Nat.zero_add,Nat.zero_le,true_and,Nat.sub_zero,List.map_append]
 by_cases hj:j<sec.length
 ·rw [if_pos hj,List.getElem?_append_left (by simpa using hj)]
 ·rw [if_neg hj,List.getElem?_append_right (by simpa using hj)]
  simp only [List.getElem?_map,List.getElem?_replicate,List.length_map]
  by_cases h2:j<64
  ·rw [if_pos h2,if_pos (by omega)]
  ·rw [if_neg h2,if_neg (by omega)]
theorem kR (l:List Int):l.flatMap qH=l.map (AV.int .u8):=by
 induction l with
 | nil=>rfl
 | cons x xs ih=>rw [List.flatMap_cons,ih];rfl
theorem ZN {s:AS} (hw:aM s) {l:Nat} (ho:Am.Own s l ((List.replicate 64 (0:Int)).map (.int .u8))) {v:AV} {sec:List Int} (hs:gx s v sec) (hl:sec.length≤64) {K:AV→AS→Prop}
  (hK:∀ v' s',Am.Own s' l ((sec++List.replicate (64 - sec.length) 0).map (.int .u8))→aM s'→bD [l] s s'→K v' s'):iG (qT T aq (.slc (some (l,0)) 64 64 true) v s) K:=by
 obtain ⟨hsrc,hlen⟩:=bZ.src gr hs
 have e:qT T aq (.slc (some (l,0)) 64 64 true) v s=if sec.flatMap qH=[] then some (.int .i64 ((min sec.length 64:Nat):Int),s) else (Am.cN s l 0 (sec.flatMap qH)).map fun s'=>(.int .i64 ((min sec.length 64:Nat):Int),s'):=by
  simp only [qT,aL,eu,Option.bind_some,hlen,show ES (AV.slc (some (l,0)) 64 64 true)=some 64 from rfl,Nat.min_eq_left hl,hsrc]
 rw [kR] at e
 by_cases h0:sec=[]
 ·subst h0
  simp only [List.map_nil,if_true] at e
  exact ⟨_,_,e,hK _ _ (by simpa using ho) hw (bD.refl _ _)⟩
 ·rw [if_neg (by simpa using h0)] at e
  obtain ⟨s',h1,h2⟩:=bu.own (K:=fun s'=>Am.Own s' l ((sec++List.replicate (64 - sec.length) 0).map (.int .u8))∧aM s'∧bD [l] s s') (vs:=sec.map (AV.int .u8)) (o:=0) hw ho (by simp;omega) (fun s' P=>⟨by have:=P.at;rw [abt _ hl] at this;exact this,P.wf,P.mut⟩)
  rw [h1] at e
  exact ⟨_,_,e,hK _ _ h2.1 h2.2.1 h2.2.2⟩
theorem Qd (sec:List Int) (h:sec.length≤64) (m:Int):(xE sec m).length=64:=by simp [xE];omega
theorem Ue {a b:AV} (ha:a.one=true) (hb:b.one=true):cZ T eF 2 [(0,a),(1,b)]=some [a,b]:=by
 have e1:∀ v:AV,v.one=true→bJ v=some [v]:=fun v hv=>by cases v <;> first | rfl | cases hv
 simp only [cZ,n_,qP,HS,Option.bind_some,e1 _ ha,e1 _ hb,jc,e1 (AV.slc none 0 0 true) rfl]
 rfl
set_option maxRecDepth 100000 in
theorem abu {s:AS} {sv:AV} {sec:List Int} (hs:gx s sv sec) (hl:sec.length≤64) {a:AV} {L:List (AV×List Int)} (ha:Sl prC 1 s a L) (hL:∀ p∈L,gx s p.1 p.2) (hn:L.length≤2 ^ 10) (hb:qI L≤2 ^ 16) :
  aa Tryz.prog zZ [sv,a] s fun r s'=>r=.agg ((Bu sec (L.flatMap Prod.snd)).map (.int .u8))∧Ext s s':=by
 refine aa.pre fun hw=>SC _ _ _ _ (aj.intro hw rfl fun l1 s2 F2=>?_)
 refine aa.use (ZH _) ?_
 rintro v3 s4 ⟨rfl,e4⟩ w4
 have NK:sO.length=72:=q8 64
 refine ⟨_,rfl,lN w4 (by simp [NK]) (by simp) (cg _ _) fun l6 s8 F8=>?_⟩
 have e8:=(F2.ext.trans e4).trans F8.ext
 have o1:=(F2.own.ext e4).ext F8.ext
 refine ⟨fun vs s'=>vs=[sv]∧s'=s8,?_,⟨_,(hs.ext e8).cG aL _,af.no (by rw [decide_eq_false_iff_not];omega) ⟨rfl,rfl⟩⟩⟩
 rintro v10 fI ⟨hv,rfl⟩
 simp only [List.cons.injEq,and_true] at hv
 subst hv
 refine aj.intro F8.wf rfl fun rP bS Ko=>aj.intro Ko.wf rfl fun lR f_ F15=>⟨_,nP sy eu (by decide),?_⟩
 have Lb:=(e8.trans Ko.ext).trans F15.ext
 have yU:Am.Own f_ rP ((List.replicate 64 (0:Int)).map (.int .u8)):=((Cq .u8 64) ▸ (Ko.own:Am.Own bS rP (List.replicate 64 (AV.int .u8 0)))).ext F15.ext
 have JA:Am.Own f_ lR ((List.replicate 64 (0:Int)).map (.int .u8)):=(Cq .u8 64) ▸ (F15.own:Am.Own f_ lR (List.replicate 64 (AV.int .u8 0)))
 have wS:s.h rP=none:=e8.none Ko.no
 have vp:s.h lR=none:=(e8.trans Ko.ext).none F15.no
 have d1:rP≠lR:=fun e=>by
  have:=F15.no
  rw [← e,Ko.own] at this;cases this
 have d6:l6≠rP:=fun e=>by
  have:=Ko.no
  rw [← e,F8.own] at this;cases this
 have d7:l6≠lR:=fun e=>by
  have:=F15.no
  rw [← e,F8.own.ext Ko.ext] at this;cases this
 have d8:l1≠rP:=fun e=>by
  have:=Ko.no
  rw [← e,o1] at this;cases this
 have d9:l1≠lR:=fun e=>by
  have:=F15.no
  rw [← e,o1.ext Ko.ext] at this;cases this
 refine ZN F15.wf yU (hs.ext Lb) hl fun o_ eC wz RX TS=>?_
 generalize hK:sec++List.replicate (64 - sec.length) 0=K at wz
 have hKl:K.length=64:=by rw [← hK];simp;omega
 have hKc:(K.map (AV.int .u8)).length=64:=by simp [hKl]
 refine ⟨_,wz.at.aB (by omega),?_⟩
 rw [List.drop_zero,List.take_of_length_le (by omega)]
 refine ⟨⟨cg _ _,by rw [hKc]⟩,bu.own RX (JA.mut TS (by simpa using Ne.symm d1)) (by simp [hKl]) fun fN V7=>?_⟩
 have Fi:Am.Own fN lR (K.map (.int .u8)):=by
  have:=V7.at
  rw [dD (by simp [hKl])] at this;exact this
 have E20:Ext s fN:=Ext.wr (Ext.wr Lb wS TS) vp V7.mut
 have b20:Am.Own fN l6 (sO.map (.int .u32)):=(((F8.own.ext Ko.ext).ext F15.ext).mut TS (by simpa using d6)).mut V7.mut (by simpa using d7)
 have r20:=(((o1.ext Ko.ext).ext F15.ext).mut TS (by simpa using d8)).mut V7.mut (by simpa using d9)
 refine ⟨fun vs s'=>Ext s s'∧aM s'∧Am.Own s' rP ((xE sec 54).map (.int .u8))∧Am.Own s' lR ((xE sec 92).map (.int .u8))∧Am.Own s' l6 (sO.map (.int .u32))∧Am.Own s' l1 (List.replicate 32 (.int .u8 0)),?_,?_⟩
 ·rintro fO ⟨Y3,w22,VO,p14,p6,p1⟩
  have ZO:=Qd sec hl 54
  have ZP:=Qd sec hl 92
  have rdB:∀ s',Ext fO s'→aB s' l6 0 72=some (sO.map (.int .u32)):=fun s' e=>by
   rw [(p6.ext e).at.aB (by simp [NK]),List.drop_zero,List.take_of_length_le (by simp [NK])]
  have abo:∀ s',Ext fO s'→gx s' (.slc (some (rP,0)) 64 64 true) (xE sec 54):=fun s' e=>bZ.mk (VO.ext e).at (by rw [kR,ZO];simp [ZO]) (by rw [kR,List.drop_zero,List.take_of_length_le (by simp [ZO])]) |> (ZO ▸ ·)
  have aiY:∀ s',Ext fO s'→gx s' (.slc (some (lR,0)) 64 64 true) (xE sec 92):=fun s' e=>bZ.mk (p14.ext e).at (by rw [kR,ZP];simp [ZP]) (by rw [kR,List.drop_zero,List.take_of_length_le (by simp [ZP])]) |> (ZP ▸ ·)
  refine ⟨fun q _ v s'=>(q=2→∃ l,v=.slc (some (l,0)) 1 1 true∧At s' l [.slc (some (rP,0)) 64 64 true])∧(q=4→Sl prC 1 s' v ((.slc (some (rP,0)) 64 64 true,xE sec 54)::L))∧(q=6→∃ l,v=.ptr (some (l,0))∧Am.Own s' l (List.replicate 32 (.int .u8 0))∧fO.h l=none),fun q _ v=>(q=5→v=.agg ((EE sO (xE sec 54++L.flatMap Prod.snd)).map (.int .u8)))∧(q=6→∃ l,v=.ptr (some (l,0))),?_,_,rdB _ (Ext.refl _),_,nP sy eu (by decide),fun dM T6 H8 _=>⟨_,OA EO rfl rfl,aj.intro H8 rfl fun GR rA F=>⟨F.ext,⟨(fun _=>⟨GR,rfl,F.own.at⟩),(fun h=>by cases h),(fun h=>by cases h)⟩,(fun h=>by cases h),(fun h=>by cases h)⟩⟩,⟨.bad,(fun h=>by cases h),(fun h=>by cases h)⟩,fun mb _=>⟨fun kL IA NT hS=>?_,⟨.bad,(fun h=>by cases h),(fun h=>by cases h)⟩,fun qk _=>⟨fun ku e34 w34 hS=>?_,⟨_,(fun _=>rfl),(fun h=>by cases h)⟩,fun HX aiZ=>?_⟩⟩⟩
  ·rintro q ks v s' s'' e ⟨h1,h2,h3⟩
   refine ⟨fun hq=>?_,fun hq=>(h2 hq).ext e,fun hq=>?_⟩
   ·obtain ⟨l,a,b⟩:=h1 hq;exact ⟨l,a,b.ext e⟩
   ·obtain ⟨l,a,b,c⟩:=h3 hq;exact ⟨l,a,b.ext e,c⟩
  ·obtain ⟨l,rfl,OC⟩:=hS.1.1 rfl
   refine aaN (f:=prC) EO Nv NT (x:=(.slc (some (rP,0)) 64 64 true,xE sec 54)) OC (ha.ext (Y3.trans IA)) (by omega) fun wE lS h32 YM Y_=>⟨Y_,⟨(fun h=>by cases h),(fun _=>h32),(fun h=>by cases h)⟩,(fun h=>by cases h),(fun h=>by cases h)⟩
  ·refine (Uc NK (hS.2.1.2.1 rfl) ?_ (by simp;omega) (by simp [qI,ZO] at hb ⊢;omega)).mono ?_
   ·intro p hp
    rcases List.mem_cons.1 hp with rfl | hp
    ·exact abo _ e34
    ·exact (hL p hp).ext (Y3.trans e34)
   ·rintro v s' ⟨rfl,e⟩
    exact ⟨_,rfl,e,⟨(fun h=>by cases h),(fun h=>by cases h),(fun h=>by cases h)⟩,(fun _=>rfl),(fun h=>by cases h)⟩
  ·obtain rfl:=aiZ.1 rfl
   generalize hH:EE sO (xE sec 54++L.flatMap Prod.snd)=H1
   have hH1:H1.length=32:=by rw [← hH,nO]
   refine ⟨_,rfl,fun GP e40 w40 _=>aj.intro w40 rfl fun AZ K7 F=>⟨F.ext,⟨(fun h=>by cases h),(fun h=>by cases h),(fun _=>⟨AZ,rfl,F.own,e40.none F.no⟩)⟩,(fun h=>by cases h),(fun _=>⟨AZ,rfl⟩)⟩,⟨.ptr (some (0,0)),(fun h=>by cases h),(fun _=>⟨0,rfl⟩)⟩,fun So ai0=>?_⟩
   obtain ⟨AZ,rfl⟩:=ai0.2 rfl
   refine ⟨_,rfl,fun xW e45 w45 hS=>?_⟩
   obtain ⟨l',hl',U7,n45⟩:=hS.2.2.2.1.2.2 rfl
   simp only [AV.ptr.injEq,Option.some.injEq,Prod.mk.injEq,and_true] at hl'
   subst hl'
   refine ⟨⟨cg _ _,by simp [hH1]⟩,bu.own w45 U7 (by simp [hH1]) fun z6 P49=>?_⟩
   have o49:Am.Own z6 AZ (H1.map (.int .u8)):=by
    have:=P49.at
    rw [dD (by simp [hH1])] at this;exact this
   have E49:Ext fO z6:=Ext.wr e45 n45 P49.mut
   refine ⟨fun q _ v s'=>q=3→∃ l,v=.slc (some (l,0)) 2 2 true∧At s' l [.slc (some (lR,0)) 64 64 true,.slc (some (AZ,0)) 32 32 true],fun _ _ _=>True,?_,_,rdB _ E49,_,nP sy eu (by decide),_,nP Mi eu (by decide),fun K9 e53 w53 _=>⟨_,Ue rfl rfl,aj.intro w53 rfl fun l55 zC F=>⟨F.ext,(fun _=>⟨l55,rfl,F.own.at⟩),trivial⟩⟩,⟨.bad,trivial⟩,fun MD _ QW e58 w58 hS=>?_⟩
   ·rintro q ks v s' s'' e h hq
    obtain ⟨l,a,b⟩:=h hq;exact ⟨l,a,b.ext e⟩
   ·obtain ⟨l,rfl,OC⟩:=hS.1 rfl
    have hh:gx QW (.slc (some (AZ,0)) 32 32 true) H1:=bZ.mk (o49.ext e58).at (by rw [kR];simp [hH1]) (by rw [kR,List.drop_zero,List.take_of_length_le (by simp [hH1])]) |> (hH1 ▸ ·)
    refine aa.use (Uc (L:=[(.slc (some (lR,0)) 64 64 true,xE sec 92),(.slc (some (AZ,0)) 32 32 true,H1)]) NK (bZ.mk OC rfl rfl) ?_ (by simp) (by simp [qI,ZP,hH1])) ?_
    ·intro p hp
     simp only [List.mem_cons,List.not_mem_nil,or_false] at hp
     rcases hp with rfl | rfl
     ·exact aiY _ (E49.trans e58)
     ·exact hh
    ·rintro v60 MK ⟨rfl,e61⟩ w61
     have E61:=(E49.trans e58).trans e61
     have hc:([(AV.slc (some (lR,0)) 64 64 true,xE sec 92),(AV.slc (some (AZ,0)) 32 32 true,H1)].flatMap Prod.snd)=xE sec 92++H1:=by simp
     rw [hc]
     refine ⟨_,rfl,⟨cg _ _,by simp [nO]⟩,bu.own w61 (p1.ext E61) (by simp [nO]) fun A3 P=>?_⟩
     have hP:=P.at
     rw [dD (by simp [nO])] at hP
     refine ⟨_,At.aB ⟨_,_,hP⟩ (by simp [nO]),?_,Ext.wr (Y3.trans E61) F2.no P.mut⟩
     rw [List.drop_zero,List.take_of_length_le (by simp [nO]),Bu,hH]
 ·refine ⟨fun m vs s'=>∃ i:Nat,vs=[.int .i64 (i:Nat)]∧i≤64∧m=64 - i∧Ext s s'∧aM s'∧Am.Own s' rP ((Cr (fun x=>xA .u8 x 54) K i).map (.int .u8))∧Am.Own s' lR ((Cr (fun x=>xA .u8 x 92) K i).map (.int .u8))∧Am.Own s' l6 (sO.map (.int .u32))∧Am.Own s' l1 (List.replicate 32 (.int .u8 0)),64,⟨0,rfl,by omega,rfl,E20,V7.wf,by simpa [Cr] using wz.mut V7.mut (by simpa using d1),by simpa [Cr] using Fi,b20,r20⟩,?_⟩
  rintro m Jj Vd ⟨i,hi,h6,rfl,e69,w69,VO,p14,p6,p1⟩
  simp only [List.cons.injEq,AV.int.injEq,true_and,and_true] at hi
  subst hi
  refine af.dec (fun hlt=>?_) (fun hge=>?_)
  ·have hr:av Vd rP (0+((i:Nat):Int).toNat*1)=some (.int .u8 (K.getD i 0)):=by rw [← Ud (fun x=>xA .u8 x 54) (by omega)];exact VO.at.U1 (by rw [Cs];omega) (by simp)
   refine ⟨_,_,ixK (by omega),_,hr,_,rfl,_,_,ixK (by omega),bu.int w69 VO (i:=i) (by rw [Cs];omega) (by simp) fun s76 q12 w76 m76=>?_⟩
   have af5:=p14.mut m76 (by simpa using Ne.symm d1)
   have hr2:av s76 lR (0+((i:Nat):Int).toNat*1)=some (.int .u8 (K.getD i 0)):=by rw [← Ud (fun x=>xA .u8 x 92) (by omega)];exact af5.at.U1 (by rw [Cs];omega) (by simp)
   refine ⟨_,_,ixK (by omega),_,hr2,_,rfl,_,_,ixK (by omega),bu.int w76 af5 (i:=i) (by rw [Cs];omega) (by simp) fun s83 q14 w83 m83=>⟨64 - (i+1),by omega,i+1,by rw [Cp (by omega)],by omega,rfl,Ext.wr (Ext.wr e69 wS m76) vp m83,w83,?_,?_,(p6.mut m76 (by simpa using d6)).mut m83 (by simpa using d7),(p1.mut m76 (by simpa using d8)).mut m83 (by simpa using d9)⟩⟩
   ·rw [← Qc (fun x=>xA .u8 x 54) (by omega)];exact q12.mut m83 (by simpa using d1)
   ·rw [← Qc (fun x=>xA .u8 x 92) (by omega)];exact q14
  ·obtain rfl:i=K.length:=by omega
   rw [ZM] at VO p14
   refine ⟨e69,w69,?_,?_,p6,p1⟩
   ·rw [xE,hK];exact VO
   ·rw [xE,hK];exact p14
theorem xor_self (n:Int):xA .u8 n n=0:=by
 unfold xA;rw [BitVec.xor_self];rfl
theorem S0 {H:List Int} (hH:H.length=32) (s:AS):aa Tryz.prog xH [.agg (H.map (.int .u8)),.agg (H.map (.int .u8))] s fun r s'=>r=.bool true∧Ext s s':=by
 refine aa.pre fun hw=>PA _ _ _ _ ⟨cg _ _,aj.intro hw rfl fun l1 s2 F2=>⟨cg _ _,aj.intro F2.wf rfl fun l3 s4 F4=>?_⟩⟩
 have e4:=F2.ext.trans F4.ext
 refine ⟨fun vs s'=>vs=[.int .u8 0]∧s'=s4,?_,fun m vs s'=>∃ i:Nat,vs=[.int .u8 0,.int .i64 (i:Nat)]∧i≤32∧m=32 - i∧s'=s4,32,⟨0,rfl,by omega,rfl,rfl⟩,?_⟩
 ·rintro n s7 ⟨h,rfl⟩
  simp only [List.cons.injEq,AV.int.injEq,true_and,and_true] at h
  subst h;exact ⟨rfl,e4⟩
 ·rintro m iN wS bS ⟨i,hi,h6,rfl,rfl⟩
  simp only [List.cons.injEq,AV.int.injEq,true_and,and_true] at hi
  obtain ⟨rfl,rfl⟩:=hi
  refine af.dec (fun hlt=>?_) (fun hge=>⟨rfl,rfl⟩)
  have h1:av bS l1 (0+((i:Nat):Int).toNat*1)=some (.int .u8 (H.getD i 0)):=(F2.own.ext F4.ext).at.U1 (by omega) (by simp)
  have h3:av bS l3 (0+((i:Nat):Int).toNat*1)=some (.int .u8 (H.getD i 0)):=F4.own.at.U1 (by omega) (by simp)
  have hx:bB .xor .u8 (H.getD i 0) (H.getD i 0)=some (.int .u8 0):=congrArg (fun n=>some (AV.int .u8 n)) (xor_self _)
  refine ⟨_,_,ixH (by omega),_,h1,_,_,ixH (by omega),_,h3,_,hx,0,rfl,32 - (i+1),by omega,i+1,by rw [Cp (by omega)],by omega,rfl,rfl⟩
end Go.Proofs.YtohgmogbabkkeaaGreat
end

section
namespace Go.Proofs.YtohgmogbabkkeaaGreat
open Go.Am Go.au Go.aC
theorem Lp {α:Type} {f:α→List Int} {n:Nat} (h:∀ x,(f x).length=n):∀ l:List α,(l.flatMap f).length=l.length*n
 | []=>by simp
 | a::l=>by rw [List.flatMap_cons,List.length_append,h,Lp h l,List.length_cons,Nat.add_mul];omega
theorem S1 {s:AS} (hw:aM s) (t:List UInt8) {K:AV→AS→Prop} (hK:∀ v s',gx s' v (P1 t)→Ext s s'→aM s'→K v s'):iG (cP T cq aq (.str t) s) K:=by
 have Fr:=hw.new (o:=.cells (t.map fun c=>.int .u8 c.toNat) 1 false) rfl
 refine ⟨.slc (some (s.nl,0)) t.length t.length false,s.new (.cells (t.map fun c=>.int .u8 c.toNat) 1 false),by simp [cP,oZ,aL,Bw],hK _ _ ?_ Fr.ext Fr.wf⟩
 have:=bZ.mk (s:=s.new (.cells (t.map fun c=>.int .u8 c.toNat) 1 false)) (la:=s.nl) (o:=0) (n:=t.length) (c:=t.length) (e:=false) (sz:=1) (cs:=(P1 t).flatMap qH) ⟨_,_,Fr.at⟩ (by rw [tD,x_]) (by rw [VX,List.drop_zero];exact List.take_of_length_le (by simp)) (Nat.le_refl _)
 show bZ _ _ _ _ (P1 t).length
 rw [x_];exact this
section
variable {F:List Nat} {s:AS} {p:Nat} {x:aI} {B:Nat}
end
end Go.Proofs.YtohgmogbabkkeaaGreat
end

section
namespace Go.Proofs.YtohgmogbabkkeaaGreat
open Go.Am Go.au Go.aC
theorem Aw {n:Int} (h:0≤n) {sh:Nat} (hs:sh≤64):vH n sh=n / 2 ^ sh % 256:=by
 unfold vH
 rw [IntKind.wrap_u8,Nat.min_eq_left (show sh≤IntKind.bits .u64 from hs),Int.fdiv_eq_ediv_of_nonneg _ (Int.le_of_lt (Int.pow_pos (by decide)))]
theorem V8 (n:Int) (sh:Nat):0≤vH n sh∧vH n sh<256:=by unfold vH;rw [IntKind.wrap_u8];omega
theorem Nx (n:Int) {k i:Nat} (h:i<k):(yQ n k)[i]? = some (vH n (8*(k - 1 - i))):=by
 simp [yQ,h]
theorem adZ (n:Int) (k:Nat):∀ b∈yQ n k,0≤b∧b<256:=by
 intro b hb
 obtain ⟨i,_,rfl⟩:=List.mem_map.1 hb
 exact V8 _ _
end Go.Proofs.YtohgmogbabkkeaaGreat
end

section
set_option maxRecDepth 100000
set_option maxHeartbeats 4000000
namespace Go.Proofs.YtohgmogbabkkeaaGreat
open Go.Am
def Qe (a0:AV) (s:AS) (R:AV→AS→Prop):Prop :=
 aa Tryz.prog aS [a0] s fun v1 s2=>pN (aU T gl [(0,v1),(1,(.bool true)),(2,(.bool true))]) fun g3=>cF g3 (aj (.cells g3 0 false) s2 fun l4 s5=>R (.ptr (some (l4,0))) s5)
def Qf:QA:=(.seq .leaf (.seq .leaf .leaf))
theorem Qg (a0:AV) (s:AS) (R:AV→AS→Prop) (h:Qe a0 s R):aa Tryz.prog sj [a0] s R :=
 aa.q (n:=7) (rs:=[.tmp 2]) (A:=Qf) hT bU Tryz.func88 (by kernel_rfl) rfl rfl rfl (by kernel_rfl) (by kernel_rfl) h
def yd (a0:Option (Nat×Nat)) (s:AS) (R:AV→AS→Prop):Prop :=
 aj (.cells [.int .u64 0,.int .u64 0,.int .u64 0,.int .u64 0,.int .u64 0,.int .u64 0,.int .u64 0,.int .u64 0,.int .u64 0,.int .u64 0,.int .u64 0,.int .u64 0,.int .u64 0,.int .u64 0,.int .u64 0,.int .u64 0] 0 false) s fun l1 s2=>aa Tryz.prog gX [(.ptr a0),(.int .i64 128)] s2 fun v3 s4=>∃ v5:AV,∃ b6:Bool,v3=.aQ [v5,(.bool b6)]∧(aa Tryz.prog sj [v5] s4 fun v7 s8=>∃ p9:Option (Nat×Nat),v7=.ptr p9∧(aj (.cells [(.ptr none)] 0 false) s8 fun nB fI=>bu (cN fI nB 0 [(.ptr p9)]) fun dg=>bC fun I13 m14=>I13 m14 [(.int .i64 0)] dg ∧
 ∀ m15:Nat,∀ vg:Int,∀ lZ:AS,I13 m15 [(.int .i64 vg)] lZ →
 af (decide ((vg:Int)<16))
 (aa Tryz.prog gY [(.ptr (some (nB,0)))] lZ fun tI iD=>∃ Dk:Int,tI=.int .u64 Dk∧(bH (ag T bg (.ptr (some (l1,0))) (.int .i64 vg)) fun OU o22=>bu (cN iD OU o22 [(.int .u64 Dk)]) fun rO=>∃ m',m'<m15∧I13 m' [(.int .i64 (IntKind.wrap .i64 (vg+1)))] rO))
 (aR (aB lZ l1 0 16) fun wh=>fj (some 16) wh (bu (cN lZ l1 0 wh) fun dM=>aR (aB dM l1 0 16) fun Fx=>R (.agg Fx) dM))))
def yf:QA:=(.seq .leaf (.seq .leaf (.seq .leaf (.seq .leaf (.seq (.seq .leaf (.wrap (.loop [(16,.int .i64)] [(7,7),(16,23)] (.seq .leaf (.seq (.cond .leaf .leaf) (.seq (.wrap (.seq .leaf .leaf)) .leaf)))))) (.seq .leaf .leaf))))))
theorem yg (a0:Option (Nat×Nat)) (s:AS) (R:AV→AS→Prop) (h:yd a0 s R):aa Tryz.prog jr [(.ptr a0)] s R :=
 aa.q (n:=25) (rs:=[.cell 2 49]) (A:=yf) hT bU Tryz.func89 (by kernel_rfl) rfl rfl rfl (by kernel_rfl) (by kernel_rfl) h
def yh (a0:Option (Nat×Nat)) (a1:Int) (s:AS) (R:AV→AS→Prop):Prop :=
 bw fun J1 =>
 (∀ n2:Int,∀ s3:AS,J1 [(.int .i64 n2)] s3 →
 aa Tryz.prog gX [(.ptr a0),(.int .i64 n2)] s3 fun v4 s5=>∃ v6:AV,∃ b7:Bool,v4=.aQ [v6,(.bool b7)]∧(aa Tryz.prog z1 [v6] s5 fun v8 s9=>∃ j9:Int,∃ iN:Int,v8=.aQ [(.int .u64 j9),(.int .i64 iN)]∧(R (.int .u64 j9) s9))) ∧
 (af (decide ((a1:Int)<1)) (J1 [(.int .i64 (-1))] s) (af (decide ((a1:Int)>8))
 (J1 [(.int .i64 (-1))] s)
 (J1 [(.int .i64 a1)] s)))
def yj:QA:=(.seq .leaf (.join [(1,.int .i64)] [(1,1),(9,14)] (.seq .leaf (.cond .leaf .leaf)) (.seq .leaf (.seq .leaf (.seq .leaf .leaf)))))
theorem yl (a0:Option (Nat×Nat)) (a1:Int) (s:AS) (R:AV→AS→Prop) (h:yh a0 a1 s R):aa Tryz.prog ju [(.ptr a0),(.int .i64 a1)] s R :=
 aa.q (n:=27) (rs:=[.tmp 4]) (A:=yj) hT bU Tryz.func165 (by kernel_rfl) rfl rfl rfl (by kernel_rfl) (by kernel_rfl) h
def ym (a0:Option (Nat×Nat)) (s:AS) (R:AV→AS→Prop):Prop :=
 uD (iK T 100 vY (.ptr a0) (.ptr none)) fun b1=>af b1 (R (.bool true) s) (ai a0 fun l2 o3=>Rp (av s l2 (o3+1)) fun b4=>R (.bool (!b4)) s)
def yo:QA:=(.seq .leaf (.seq .leaf .leaf))
theorem yp (a0:Option (Nat×Nat)) (s:AS) (R:AV→AS→Prop) (h:ym a0 s R):aa Tryz.prog jx [(.ptr a0)] s R :=
 aa.q (n:=12) (rs:=[.tmp 2]) (A:=yo) hT bU Tryz.func217 (by kernel_rfl) rfl rfl rfl (by kernel_rfl) (by kernel_rfl) h
def Ax (a0:Option (Nat×Nat)) (a1:Int) (s:AS) (R:AV→AS→Prop):Prop :=
 aa Tryz.prog jx [(.ptr a0)] s fun v1 s2=>∃ b3:Bool,v1=.bool b3∧(af b3
 (R (.aQ [(.slc none 0 0 true),(.bool false)]) s2)
 (bw fun J4 =>
 (∀ b5:Bool,∀ s6:AS,J4 [(.bool b5)] s6 →
 af b5
 (pN (aU T gl [(2,(.bool true))]) fun g7=>ai a0 fun l8 o9=>fj (some 3) g7 (bu (cN s6 l8 o9 g7) fun jD=>R (.aQ [(.slc none 0 0 true),(.bool false)]) jD))
 (ai a0 fun Dg yU=>dJ (av s6 Dg yU) fun JM=>dJ (aY T aq JM none (some (.int .i64 a1)) (some (.int .i64 a1))) fun tK=>ai a0 fun Dz FD=>dJ (av s6 Dz FD) fun o_=>dJ (aY T aq o_ (some (.int .i64 a1)) none none) fun tI=>ai a0 fun A1 Fi=>fD T aq s6 A1 Fi tI fun gn=>R (.aQ [tK,(.bool true)]) gn)) ∧
 (af (decide ((a1:Int)<0)) (J4 [(.bool true)] s2) (ai a0 fun BG GQ=>dJ (av s2 BG GQ) fun wU=>aW .i64 (aP T aq wU s2) fun ql=>J4 [(.bool (decide ((a1:Int)>ql)))] s2))))
def Ay:QA:=(.seq .leaf (.seq (.wrap (.seq .leaf (.cond (.seq .leaf .leaf) (.join [(10,.bool)] [(10,21)] .leaf (.cond (.seq .leaf (.seq .leaf .leaf)) .leaf))))) (.seq .leaf (.seq .leaf (.seq .leaf .leaf)))))
theorem Az (a0:Option (Nat×Nat)) (a1:Int) (s:AS) (R:AV→AS→Prop) (h:Ax a0 a1 s R):aa Tryz.prog gX [(.ptr a0),(.int .i64 a1)] s R :=
 aa.q (n:=42) (rs:=[.tmp 4,.tmp 5]) (A:=Ay) hT bU Tryz.func163 (by kernel_rfl) rfl rfl rfl (by kernel_rfl) (by kernel_rfl) h
def vI (c0:Option (Nat×Nat)) (s:AS) (R:AV→AS→Prop):Prop :=
 ai c0 fun l1 o2=>qi (av s l1 o2) fun p3=>aa Tryz.prog ju [(.ptr p3),(.int .i64 8)] s fun v4 s5=>∃ n6:Int,v4=.int .u64 n6∧(R (.int .u64 n6) s5)
def vJ:QA:=(.seq .leaf (.seq .leaf .leaf))
theorem vK (c0:Option (Nat×Nat)) (s:AS) (R:AV→AS→Prop) (h:vI c0 s R):aa Tryz.prog gY [(.ptr c0)] s R :=
 aa.q (n:=4) (rs:=[.tmp 1]) (A:=vJ) hT bU Tryz.func164 (by kernel_rfl) rfl rfl rfl (by kernel_rfl) (by kernel_rfl) h
def S2 (a0:AV) (s:AS) (R:AV→AS→Prop):Prop :=
 bw fun J1 =>
 (∀ b2:Bool,∀ s3:AS,J1 [(.bool b2)] s3 →
 af b2
 (R (.aQ [(.int .u64 0),(.int .i64 2)]) s3)
 (bw fun J4 =>
 (∀ n5:Int,∀ s6:AS,J4 [(.int .u64 n5)] s6 →
 R (.aQ [(.int .u64 n5),(.int .i64 0)]) s6) ∧
 (aW .i64 (aP T aq a0 s3) fun n7=>bC fun I8 m9=>I8 m9 [(.int .u64 0),(.int .i64 0)] s3 ∧
 ∀ Ft:Nat,∀ iN:Int,∀ wS:Int,∀ bS:AS,I8 Ft [(.int .u64 iN),(.int .i64 wS)] bS →
 af (decide ((wS:Int)<n7))
 (bH (ag T aq a0 (.int .i64 wS)) fun lR we=>aW .u8 (av bS lR we) fun vg=>NN 8 (aW .u64 (bB .or .u64 (IntKind.wrap .u64 (iN*2 ^ min (Int.toNat 8) (IntKind.bits .u64))) (IntKind.wrap .u64 vg)) fun yL=>∃ m',m'<Ft∧I8 m' [(.int .u64 yL),(.int .i64 (IntKind.wrap .i64 (wS+1)))] bS))
 (J4 [(.int .u64 iN)] bS)))) ∧
 (aW .i64 (aP T aq a0 s) fun JF=>af (decide ((JF:Int)<1)) (J1 [(.bool true)] s) (aW .i64 (aP T aq a0 s) fun z3=>J1 [(.bool (decide ((z3:Int)>8)))] s))
def S6:QA:=(.seq .leaf (.seq (.join [(14,.bool)] [(7,14)] .leaf (.cond (.seq .leaf .leaf) .leaf)) (.seq .leaf (.join [(4,.int .u64)] [(4,4),(6,6),(15,26)] (.seq .leaf (.wrap (.loop [(4,.int .u64),(17,.int .i64)] [(4,4),(6,6),(17,26)] (.seq .leaf (.seq (.cond .leaf .leaf) (.seq (.wrap (.seq .leaf .leaf)) .leaf)))))) (.seq .leaf .leaf)))))
theorem S7 (a0:AV) (s:AS) (R:AV→AS→Prop) (h:S2 a0 s R):aa Tryz.prog z1 [a0] s R :=
 aa.q (n:=28) (rs:=[.tmp 2,.tmp 3]) (A:=S6) hT bU Tryz.func218 (by kernel_rfl) rfl rfl rfl (by kernel_rfl) (by kernel_rfl) h
end Go.Proofs.YtohgmogbabkkeaaGreat
end

section
namespace Go.Proofs.YtohgmogbabkkeaaGreat
open Go.Am Go.au Go.aC
/-! ### numbers of bytes -/
def NV (l:List Int):Prop:=∀ x∈l,0≤x∧x<256
theorem NV.take {l:List Int} (h:NV l) (n:Nat):NV (l.take n):=fun x hx=>h x (List.mem_of_mem_take hx)
theorem NV.drop {l:List Int} (h:NV l) (n:Nat):NV (l.drop n):=fun x hx=>h x (List.mem_of_mem_drop hx)
theorem NV.nil:NV []:=by simp [NV]
def D7 (l:List Int):Int:=l.foldl (fun n x=>n*256+x) 0
theorem D8 (l:List Int) (x:Int):D7 (l++[x])=D7 l*256+x:=by simp [D7]
theorem abv:∀ (l:List Int) (n:Nat),NV l→l.length≤n→0≤D7 l∧D7 l<256 ^ n:=by
 intro l
 induction hl:l.length generalizing l with
 | zero =>
  intro n _ _
  obtain rfl:=List.length_eq_zero_iff.1 hl
  exact ⟨by simp [D7],by simp only [D7,List.foldl_nil];exact Int.pow_pos (by decide)⟩
 | succ k ih =>
  intro n h hn
  obtain ⟨m,x,rfl⟩:∃ m x,l=m++[x]:=⟨l.dropLast,l.getLast (by intro e;subst e;simp at hl),(List.dropLast_concat_getLast _).symm⟩
  have hk:m.length=k:=by simpa using hl
  obtain ⟨n',rfl⟩:∃ n',n=n'+1:=⟨n - 1,by omega⟩
  have:=ih m hk n' (fun y hy=>h y (by simp [hy])) (by omega)
  have hx:=h x (by simp)
  rw [D8,Int.pow_succ]
  exact ⟨by omega,by omega⟩
theorem abw {a x:Int} (ha:0≤a∧a<256 ^ 7) (hx:0≤x∧x<256):bB .or .u64 (IntKind.wrap .u64 (a*2 ^ min (Int.toNat 8) (IntKind.bits .u64))) (IntKind.wrap .u64 x)=some (.int .u64 (a*256+x)):=by
 have e1:(2:Int) ^ min (Int.toNat 8) (IntKind.bits .u64)=256:=by decide
 have e7:(256:Int) ^ 7=72057594037927936:=by decide
 rw [e7] at ha
 rw [e1,gq (by omega),gq (by omega)]
 obtain ⟨A,rfl⟩:=Int.eq_ofNat_of_zero_le ha.1
 obtain ⟨X,rfl⟩:=Int.eq_ofNat_of_zero_le hx.1
 have h1:(BitVec.ofInt (IntKind.bits .u64) ((A:Int)*256)).toNat=2 ^ 8*A:=by
  rw [BitVec.toNat_ofInt]
  have:((2 ^ (IntKind.bits .u64):Nat):Int)=18446744073709551616:=by decide
  rw [this];omega
 have h2:(BitVec.ofInt (IntKind.bits .u64) (X:Int)).toNat=X:=by
  rw [BitVec.toNat_ofInt]
  have:((2 ^ (IntKind.bits .u64):Nat):Int)=18446744073709551616:=by decide
  rw [this];omega
 simp only [bB,BitVec.toNat_or,h1,h2]
 rw [← Nat.two_pow_add_eq_or_of_lt (show X<2 ^ 8 by omega),gq (by omega)]
 congr 2;omega
def V9 (l:List Int):Int:=if 1≤l.length∧l.length≤8 then D7 l else 0
theorem ad0 {s:AS} {v:AV} {l:List Int} (h:gx s v l) (hb:NV l):aa Tryz.prog z1 [v] s fun r s'=>s'=s∧∃ c,r=.aQ [.int .u64 (V9 l),.int .i64 c]:=by
 refine S7 _ _ _ ⟨fun vs s'=>s'=s∧vs=[.bool (decide (¬ (1≤l.length∧l.length≤8)))],?_,_,h.cG aL _,af.dec (fun h1=>⟨rfl,?_⟩) (fun h1=>⟨_,h.cG aL _,rfl,?_⟩)⟩
 rotate_left
 ·rw [decide_eq_true (by omega)]
 ·congr 2
  apply decide_eq_decide.2
  omega
 rintro b s3 ⟨rfl,Em⟩
 obtain rfl:b=decide (¬ (1≤l.length∧l.length≤8)):=AV.bool.inj (List.cons.inj Em).1
 refine af.dec (fun hc=>⟨rfl,2,?_⟩) (fun hc=>?_)
 ·rw [show V9 l=0 from if_neg hc]
 have hc:1≤l.length∧l.length≤8:=Classical.not_not.1 hc
 refine ⟨fun vs s'=>s'=s3∧vs=[.int .u64 (D7 l)],?_,_,h.cG aL _,fun m vs s'=>∃ i:Nat,vs=[.int .u64 (D7 (l.take i)),.int .i64 (i:Nat)]∧i≤l.length∧m=l.length - i∧s'=s3,l.length,⟨0,rfl,by omega,rfl,rfl⟩,?_⟩
 ·rintro n s6 ⟨rfl,hn⟩
  obtain rfl:n=D7 l:=by simpa using hn
  exact ⟨rfl,0,by rw [show V9 l=D7 l from if_pos hc]⟩
 rintro m iN wS bS ⟨i,hin,hi,rfl,rfl⟩
 simp only [List.cons.injEq,AV.int.injEq,true_and,and_true] at hin
 obtain ⟨rfl,rfl⟩:=hin
 refine af.dec (fun hlt=>?_) (fun hge=>?_)
 ·obtain ⟨x,hx⟩:=cW (l:=l) (i:=i) (by omega)
  obtain ⟨la,o,k8,k9⟩:=h.ix (by decide) bT aL eu hx
  have step:=List.take_add_one (l:=l) (i:=i)
  rw [hx,Option.toList_some] at step
  have hn:=abv (l.take i) 7 (hb.take i) (by rw [List.length_take];omega)
  refine ⟨la,o,k8 _,x,(k9 _ (Ext.refl _)).1 0 (by decide),by omega,_,abw hn (hb x (List.mem_of_getElem? hx)),l.length - (i+1),by omega,i+1,?_,by omega,rfl,rfl⟩
  rw [step,D8,aV (by omega)];rfl
 ·rw [List.take_of_length_le (by omega)]
  exact ⟨rfl,rfl⟩
/-! ### readers,plainly: what is left;none: it has failed -/
abbrev RO:=Option (List Int)
def RO.fit (o:RO) (n:Int):Bool:=match o with
 | some B=>decide (0≤n∧n≤B.length)
 | none=>false
def RO.take (o:RO) (n:Int):List Int:=if o.fit n then (o.getD []).take n.toNat else []
def RO.left (o:RO) (n:Int):RO:=if o.fit n then o.map fun B=>B.drop n.toNat else none
def RO.Qh (o:RO) (k:Int):Int:=V9 (o.take k)
def zo (B:RO):Nat→List Int
 | 0=>[]
 | n+1=>RO.Qh B 8::zo (B.left 8) n
def RO.abx (o:RO):List Int:=zo (some (o.take 128)) 16
def RO.In (o:RO):Prop:=∀ B,o=some B→NV B
theorem RO.In.getD {o:RO} (h:o.In):NV (o.getD []):=by
 cases o with
 | none=>exact NV.nil
 | some B=>exact h B rfl
theorem RO.In.take {o:RO} (h:o.In) (n:Int):NV (o.take n):=by
 unfold RO.take
 split
 ·exact h.getD.take _
 ·exact NV.nil
theorem RO.In.left {o:RO} (h:o.In) (n:Int):(o.left n).In:=by
 intro B hB
 unfold RO.left at hB
 split at hB
 ·cases o with
  | none=>cases hB
  | some A=>obtain rfl:=Option.some.inj hB;exact (h A rfl).drop _
 ·cases hB
/-! ### a reader in memory -/
structure iZ (s:AS) (p:Nat) (o:RO):Prop where
 inb:o.In
 mem:∃ v,Am.Own s p [v,.bool o.isSome,.bool true]∧gx s v (o.getD [])
def V_ (s:AS) (q:Nat):Prop:=∀ (C:List AV),At s q C→∀ (k:Nat) (x:Int),C[k]? ≠ some (AV.int .u8 x)
theorem V_.own {s:AS} {q:Nat} {C:List AV} (h:At s q C) (hC:∀ v∈C,∀ x,v≠AV.int .u8 x):V_ s q:=by
 intro C' h' k x he
 rw [h'.inj h] at he
 exact hC _ (List.mem_of_getElem? he) x rfl
theorem bZ.nu8 {s:AS} {v:AV} {n sz:Nat} {cs:List AV} (h:bZ s v sz cs n) (x:Int):v≠AV.int .u8 x:=by
 rcases h with ⟨rfl,_⟩ | ⟨a,c,e,rfl,_⟩ <;> exact fun h=>by cases h
theorem gx.ad1 {s s':AS} {v:AV} {l:List Int} {L:List Nat} (h:gx s v l) (m:bD L s s') (hL:∀ q∈L,V_ s q):gx s' v l :=
 Sl.mut h m bT (by decide) fun q hq C hC x _ k c hc he=>hL q hq C hC k x (by rw [he,← hc];rfl)
section
variable {s s':AS} {p:Nat} {o:RO}
theorem iZ.noB (h:iZ s p o):V_ s p:=by
 obtain ⟨_,v,h1,h2⟩:=h
 refine V_.own h1.at fun w hw x=>?_
 simp only [List.mem_cons,List.not_mem_nil,or_false] at hw
 rcases hw with rfl | rfl | rfl
 ·exact bZ.nu8 h2 x
 ·exact fun h=>by cases h
 ·exact fun h=>by cases h
theorem iZ.there (h:iZ s p o):s.h p≠none:=by
 obtain ⟨_,v,h1,_⟩:=h
 rw [h1];simp
theorem iZ.mut {L:List Nat} (h:iZ s p o) (m:bD L s s') (hp:p ∉ L) (hL:∀ q∈L,V_ s q):iZ s' p o:=by
 obtain ⟨h0,v,h1,h2⟩:=h
 exact ⟨h0,v,h1.mut m hp,h2.ad1 m hL⟩
theorem iZ.ext (h:iZ s p o) (e:Ext s s'):iZ s' p o:=h.mut (L:=[]) e.mut (by simp) (by simp)
theorem Wa (h:iZ s p o):aa Tryz.prog jx [.ptr (some (p,0))] s fun r s'=>r=.bool (!o.isSome)∧s'=s:=by
 obtain ⟨_,v,h1,_⟩:=h
 exact yp _ _ _ ⟨_,iI Fb _,af.no rfl ⟨o.isSome,by rw [h1.at.av];rfl,rfl,rfl⟩⟩
theorem ad2:places T gl=some [(0,1),(1,1),(2,1)]:=by kernel_rfl
theorem ZQ:aU T gl [(2,.bool true)]=some (.agg [.slc none 0 0 true,.bool false,.bool true]):=by kernel_rfl
theorem Wb {w:AV} (hw:w.one=true):aU T gl [(0,w),(1,.bool true),(2,.bool true)]=some (.agg [w,.bool true,.bool true]):=by
 rw [qO ad2 HU rfl]
 have e0:=nN (pl:=fun i=>[(0,1),(1,1),(2,1)][i]?) (pre:=[]) (mid:=[.slc none 0 0 true]) (post:=[.bool false,.bool false]) (c:=[w]) (i:=0) (sz:=1) (v:=w) (rest:=[(1,.bool true),(2,.bool true)]) rfl (O_ hw) rfl rfl
 have e1:=nN (pl:=fun i=>[(0,1),(1,1),(2,1)][i]?) (pre:=[w]) (mid:=[.bool false]) (post:=[.bool false]) (c:=[.bool true]) (i:=1) (sz:=1) (v:=.bool true) (rest:=[(2,.bool true)]) rfl rfl rfl rfl
 have e2:=nN (pl:=fun i=>[(0,1),(1,1),(2,1)][i]?) (pre:=[w,.bool true]) (mid:=[.bool false]) (post:=[]) (c:=[.bool true]) (i:=2) (sz:=1) (v:=.bool true) (rest:=[]) rfl rfl rfl rfl
 exact congrArg (Option.map AV.agg) (e0.trans (e1.trans e2))
theorem Uf (h:iZ s p o) (n:Int):aa Tryz.prog gX [.ptr (some (p,0)),.int .i64 n] s fun r s'=>bD [p] s s'∧iZ s' p (o.left n)∧∃ v,r=.aQ [v,.bool (o.fit n)]∧gx s' v (o.take n):=by
 refine aa.pre fun hw=>Az _ _ _ _ ?_
 refine aa.use (Wa h) ?_
 rintro v1 s2 ⟨rfl,rfl⟩ w2
 obtain ⟨hin,v,h1,h2⟩:=id h
 cases o with
 | none=>exact ⟨_,rfl,af.yes rfl ⟨bD.refl _ _,h,_,rfl,Sl.nil⟩⟩
 | some B =>
  simp only [Option.isSome_some,Option.getD_some] at h1 h2
  refine ⟨_,rfl,af.no rfl ⟨fun vs s'=>s'=s2∧vs=[.bool (!RO.fit (some B) n)],?_,?_⟩⟩
  rotate_left
  ·refine af.dec (fun hn=>⟨rfl,?_⟩) (fun hn=>⟨v,by rw [h1.at.av];rfl,_,h2.cG aL _,rfl,?_⟩)
   ·rw [show RO.fit (some B) n=false from decide_eq_false (by omega)];rfl
   ·congr 2
    unfold RO.fit
    rw [← decide_not,decide_eq_decide]
    omega
  rintro b s6 ⟨rfl,hb⟩
  obtain rfl:b=!RO.fit (some B) n:=AV.bool.inj (List.cons.inj hb).1
  refine af.mk (fun hf=>?_) (fun hf=>?_)
  ·have hf:RO.fit (some B) n=false:=by simpa using hf
   refine ⟨_,ZQ,⟨rfl,rfl⟩,bu.own w2 h1 (by simp) fun jD P=>⟨P.mut,⟨hin.left n,.slc none 0 0 true,?_,?_⟩,_,by rw [hf],?_⟩⟩
   ·simp only [RO.left,hf,Bool.false_eq_true,if_false];exact P.at
   ·simp only [RO.left,hf,Bool.false_eq_true,if_false];exact Sl.nil
   ·simp only [RO.take,hf,Bool.false_eq_true,if_false];exact Sl.nil
  ·have hf:RO.fit (some B) n=true:=by simpa using hf
   have hn:0≤n∧n≤B.length:=by simpa [RO.fit] using hf
   obtain ⟨k,rfl⟩:=Int.eq_ofNat_of_zero_le hn.1
   obtain ⟨tK,VC,FB⟩:=Sl.head bT aL eu h2 (i:=k) (by omega) .i64
   obtain ⟨tI,e18,b18⟩:=Sl.rest bT aL eu h2 (i:=k) (by omega) .i64
   refine ⟨v,by rw [h1.at.av];rfl,tK,VC,v,by rw [h1.at.av];rfl,tI,e18,?_⟩
   refine cL (bZ.one b18) qP (bu.own w2 h1 (by simp) fun gn P=>?_)
   have hN:∀ q∈[p],V_ s6 q:=by
    intro q hq
    obtain rfl:=List.mem_singleton.1 hq
    exact h.noB
   refine ⟨P.mut,⟨hin.left _,tI,?_,?_⟩,tK,by rw [hf],?_⟩
   ·simp only [RO.left,hf,if_true];exact P.at
   ·simp only [RO.left,hf,if_true,Option.map_some,Option.getD_some,Int.toNat_natCast];exact gx.ad1 b18 P.mut hN
   ·simp only [RO.take,hf,if_true,Option.getD_some,Int.toNat_natCast];exact gx.ad1 FB P.mut hN
theorem Wc (h:iZ s p o) {k:Int} (hk:1≤k∧k≤8):aa Tryz.prog ju [.ptr (some (p,0)),.int .i64 k] s fun r s'=>r=.int .u64 (o.Qh k)∧bD [p] s s'∧iZ s' p (o.left k):=by
 refine yl _ _ _ _ ⟨fun vs s'=>s'=s∧vs=[.int .i64 k],?_,af.dec (fun h=>absurd h (by omega)) (fun _=>af.dec (fun h=>absurd h (by omega)) (fun _=>⟨rfl,rfl⟩))⟩
 rintro n s3 ⟨rfl,hn⟩
 obtain rfl:n=k:=by simpa using hn
 refine aa.use (Uf h n) ?_
 rintro v4 s5 ⟨m5,r5,v6,rfl,b6⟩ w5
 refine ⟨_,_,rfl,?_⟩
 refine aa.use (ad0 b6 (h.inb.take n)) ?_
 rintro v8 s9 ⟨rfl,c,rfl⟩ w9
 exact ⟨_,_,rfl,rfl,m5,r5⟩
end
theorem D9 {s:AS} {v:AV} {l:List Int} (hl:gx s v l) (hn:l.length≤2 ^ 30):aa Tryz.prog aS [v] s fun r s'=>Av s s' r l:=by
 refine aa.pre fun hw=>qE _ _ _ ?_
 have main:aR (cZ T aq 0 []) fun g2=>aj (.cells g2 0 false) s fun l3 s4=>iG (aJ T aq aq (.slc (some (l3,0)) 0 0 true) v s4) fun v5 s6=>Av s s6 v5 l:=by
  refine ⟨_,Bo gr,aj.intro hw rfl fun l3 s4 F=>?_⟩
  refine aT.kU gr bT Nu F.wf (aT.start (M:=[]) F.ext.mut) (by simp) (hl.ext F.ext) (by simpa using hn) aL fun v' s' g _ _=>?_
  simpa using g
 rcases hl with ⟨rfl,_,sM⟩ | ⟨a,c,e,rfl,hlen,h3⟩
 ·refine ⟨_,si aL _ _ _ _,af.no rfl main⟩
 ·refine ⟨_,sg aL _ _ _ _ _ _ _ _,af.mk (fun h=>?_) (fun _=>main)⟩
  have:a=none:=by simpa using h
  subst this
  have:l=[]:=by
   rcases h3 with h3 | ⟨la,o,C,h,_⟩
   ·exact List.length_eq_zero_iff.1 h3
   ·cases h
  subst this
  exact aT.nil
theorem Ug {s:AS} {v:AV} {l:List Int} (hl:gx s v l) (hb:NV l) (hn:l.length≤2 ^ 30):aa Tryz.prog sj [v] s fun r s'=>∃ p,r=.ptr (some (p,0))∧s.h p=none∧iZ s' p (some l)∧Ext s s':=by
 refine Qg _ _ _ ?_
 refine aa.use (D9 hl hn) ?_
 rintro v1 s2 g w2
 have h1:=g.iW.2
 refine ⟨_,Wb h1,?_,aj.intro w2 rfl fun l4 s5 F5=>⟨l4,rfl,g.eG.ext.none F5.no,⟨?_,v1,F5.own,(g.sl bT).ext F5.ext⟩,g.eG.ext.trans F5.ext⟩⟩
 ·simp [h1]
 ·intro B hB;obtain rfl:=Option.some.inj hB;exact hb
section
variable {s:AS} {p:Nat} {o:RO}
theorem ad3 {n:Nat}:(o.take n).length≤n:=by
 unfold RO.take
 split
 ·rw [List.length_take];omega
 ·simp
end
end Go.Proofs.YtohgmogbabkkeaaGreat
end

section
namespace Go.Proofs.YtohgmogbabkkeaaGreat
open Go.Am Go.au Go.aC
def Cu:RO→Nat→RO
 | B,0=>B
 | B,n+1=>Cu (B.left 8) n
theorem IM:∀ (n:Nat) (B:RO),Cu B (n+1)=(Cu B n).left 8
 | 0,B=>rfl
 | n+1,B=>by rw [Cu,IM n,Cu]
theorem Lq:∀ (n:Nat) (B:RO),zo B (n+1)=zo B n++[(Cu B n).Qh 8]
 | 0,B=>rfl
 | n+1,B=>by rw [zo,Lq n,zo,Cu];rfl
theorem Cv:∀ (n:Nat) (B:RO),(zo B n).length=n
 | 0,_=>rfl
 | n+1,B=>by rw [zo,List.length_cons,Cv n]
theorem aby (l:List Int) (m:Nat) (x:Int):qJ ((l++List.replicate (m+1) 0).map (AV.int .u64)) l.length [.int .u64 x]=((l++[x])++List.replicate m 0).map (AV.int .u64):=by
 rw [fk]
 simp [List.replicate_succ,List.set_append]
section
variable {s:AS} {p:Nat} {o:RO}
theorem S8 {c q:Nat} (hc:At s c [.ptr (some (q,0))]) (h:iZ s q o):aa Tryz.prog gY [.ptr (some (c,0))] s fun r s'=>r=.int .u64 (o.Qh 8)∧bD [q] s s'∧iZ s' q (o.left 8):=by
 refine vK _ _ _ ⟨_,by rw [hc.av];rfl,?_⟩
 refine aa.use (Wc h (k:=8) (by omega)) ?_
 rintro v s' ⟨rfl,h1,h2⟩ _
 exact ⟨_,rfl,rfl,h1,h2⟩
theorem S9 (h:iZ s p o):aa Tryz.prog jr [.ptr (some (p,0))] s fun r s'=>r=.agg (o.abx.map (.int .u64))∧bD [p] s s'∧iZ s' p (o.left 128):=by
 refine aa.pre fun hw=>yg _ _ _ (aj.intro hw rfl fun l1 s2 F2=>?_)
 refine aa.use (Uf (h.ext F2.ext) 128) ?_
 rintro v3 s4 ⟨m4,r4,v5,rfl,b5⟩ w4
 have CW:l1≠p:=by rintro rfl;exact h.there F2.no
 refine ⟨_,_,rfl,?_⟩
 have hlen:(o.take 128).length≤128:=ad3 (n:=128)
 refine aa.use (Ug b5 (h.inb.take 128) (by omega)) ?_
 rintro v7 s8 ⟨q,rfl,hq,rq,e8⟩ w8
 refine ⟨_,rfl,aj.intro w8 rfl fun nB fI yO=>bu.own yO.wf yO.own (by simp) fun dg P12=>?_⟩
 have hqp:p≠q:=by rintro rfl;exact r4.there hq
 have GJ:Am.Own s4 l1 (eR.map (.int .u64)):=F2.own.mut m4 (by simpa using CW)
 have hql:l1≠q:=by rintro rfl;rw [GJ] at hq;cases hq
 have af6:=GJ.ext e8
 have af7:nB≠l1:=by
  rintro rfl
  have:=yO.no
  rw [af6] at this;cases this
 have af8:nB≠q:=by rintro rfl;exact rq.there yO.no
 have af9:nB≠p:=by rintro rfl;exact (r4.ext e8).there yO.no
 have j9:V_ fI nB:=V_.own yO.own.at (by intro w hw x;obtain rfl:=List.mem_singleton.1 hw;exact fun h=>by cases h)
 have a12:Am.Own dg l1 (eR.map (.int .u64)):=(af6.ext yO.ext).mut P12.mut (by simpa using Ne.symm af7)
 have ai1:iZ dg q (some (o.take 128)):=(rq.ext yO.ext).mut P12.mut (by simpa using Ne.symm af8) (by intro x hx;obtain rfl:=List.mem_singleton.1 hx;exact j9)
 have ai2:iZ dg p (o.left 128):=((r4.ext e8).ext yO.ext).mut P12.mut (by simpa using Ne.symm af9) (by intro x hx;obtain rfl:=List.mem_singleton.1 hx;exact j9)
 have c12:Am.Own dg nB [.ptr (some (q,0))]:=P12.at
 have hsq:s.h q=none:=by
  cases hs:s.h q with
  | none=>rfl
  | some ob =>
   have:=m4.1 q ob (by simpa using Ne.symm hqp) (F2.ext.1 _ _ hs)
   rw [this] at hq;cases hq
 have ai3:s.h nB=none:=by
  cases hs:s.h nB with
  | none=>rfl
  | some ob =>
   have:=e8.1 _ _ (m4.1 nB ob (by simpa using af9) (F2.ext.1 _ _ hs))
   rw [yO.no] at this;cases this
 have m12:bD [p] s dg:=(((F2.ext.mut.trans m4).trans e8.mut).trans yO.ext.mut).new P12.mut (by intro x hx;obtain rfl:=List.mem_singleton.1 hx;exact .inr ai3)
 refine ⟨fun m vs s'=>∃ i:Nat,vs=[.int .i64 (i:Nat)]∧i≤16∧m=16 - i∧aM s'∧bD [p] s s'∧Am.Own s' l1 ((zo (some (o.take 128)) i++List.replicate (16 - i) 0).map (.int .u64))∧Am.Own s' nB [.ptr (some (q,0))]∧iZ s' q (Cu (some (o.take 128)) i)∧iZ s' p (o.left 128),16,⟨0,rfl,by omega,rfl,P12.wf,m12,a12,c12,ai1,ai2⟩,?_⟩
 rintro m n lZ ⟨i,hin,hi,rfl,w17,m17,a17,c17,af_,aga⟩
 simp only [List.cons.injEq,AV.int.injEq,true_and,and_true] at hin
 subst hin
 refine af.dec (fun hlt=>?_) (fun hge=>?_)
 ·refine aa.use (S8 c17.at af_) ?_
  rintro tI iD ⟨rfl,Xe,ai4⟩ w19
  have a19:=a17.mut Xe (by simpa using hql)
  have hx:=WY (l:=l1) (o:=0) (i:=(i:Nat)) (by omega)
  simp only [Int.toNat_natCast,Nat.mul_one,Nat.zero_add] at hx
  have e16:16 - i=(16 - (i+1))+1:=by omega
  rw [e16] at a19
  refine ⟨_,rfl,_,_,hx,bu.own w19 a19 (by simp [Cv]) fun rO P=>⟨16 - (i+1),by omega,i+1,by rw [aV (by omega)];rfl,by omega,rfl,P.wf,?_,?_,?_,?_,?_⟩⟩
  ·exact (m17.new Xe (by intro x hx;obtain rfl:=List.mem_singleton.1 hx;exact .inr hsq)).new P.mut (by intro x hx;obtain rfl:=List.mem_singleton.1 hx;exact .inr F2.no)
  ·have:=P.at
   rw [Lq]
   have hv:=aby (zo (some (o.take 128)) i) (16 - (i+1)) ((Cu (some (o.take 128)) i).Qh 8)
   rw [Cv] at hv
   rw [hv] at this
   exact this
  ·exact (c17.mut Xe (by simpa using af8)).mut P.mut (by simpa using af7)
  ·rw [IM]
   refine ai4.mut P.mut (by simpa using Ne.symm hql) ?_
   intro x hx;obtain rfl:=List.mem_singleton.1 hx
   exact V_.own a19.at (by intro w hw x;obtain ⟨n,_,rfl⟩:=List.mem_map.1 hw;exact fun h=>by cases h)
  ·refine (aga.mut Xe (by simpa using hqp) (by intro x hx;obtain rfl:=List.mem_singleton.1 hx;exact af_.noB)).mut P.mut (by simpa using Ne.symm CW) ?_
   intro x hx;obtain rfl:=List.mem_singleton.1 hx
   exact V_.own a19.at (by intro w hw x;obtain ⟨n,_,rfl⟩:=List.mem_map.1 hw;exact fun h=>by cases h)
 ·obtain rfl:i=16:=by omega
  simp only [Nat.sub_self,List.replicate_zero,List.append_nil] at a17
  have hl:((zo (some (o.take 128)) 16).map (AV.int .u64)).length=16:=by simp [Cv]
  have h1:=cg .u64 (zo (some (o.take 128)) 16)
  have yL:V_ lZ l1:=V_.own a17.at (by intro w hw x;obtain ⟨n,_,rfl⟩:=List.mem_map.1 hw;exact fun h=>by cases h)
  have hR:(zo (some (o.take 128)) 16).map (AV.int .u64)=o.abx.map (.int .u64):=rfl
  generalize (zo (some (o.take 128)) 16).map (AV.int .u64)=C at a17 hl h1 hR
  have ht:∀ D:List AV,D.length=16→(D.drop 0).take 16=D:=fun D hD=>by rw [List.drop_zero,List.take_of_length_le (by omega)]
  refine ⟨C,by rw [a17.at.aB (by omega),ht C hl],⟨h1,by rw [hl]⟩,bu.own w17 a17 (by omega) fun dM P=>?_⟩
  have hP:=P.at
  rw [aaF rfl] at hP
  refine ⟨C,by rw [At.aB ⟨_,_,hP⟩ (by omega),ht C hl],by rw [hR],?_,?_⟩
  ·exact m17.new P.mut (by intro x hx;obtain rfl:=List.mem_singleton.1 hx;exact .inr F2.no)
  ·refine aga.mut P.mut (by simpa using Ne.symm CW) ?_
   intro x hx;obtain rfl:=List.mem_singleton.1 hx
   exact yL
end
/-! ### what is read of what was written -/
theorem ZR (n:Int) (hn:0≤n) (k:Nat) (hk:k≤7):yQ n (k+1)=yQ (n / 256) k++[n % 256]:=by
 apply List.ext_getElem?
 intro i
 by_cases h1:i<k
 ·rw [Nx _ (by omega),List.getElem?_append_left (by rw [jW];exact h1),Nx _ h1,Aw hn (by omega),Aw (by omega) (by omega)]
  rw [Int.ediv_ediv_of_nonneg (by decide),show (256:Int)*2 ^ (8*(k - 1 - i))=2 ^ (8*(k+1 - 1 - i)) by
   rw [show 8*(k+1 - 1 - i)=8+8*(k - 1 - i) by omega,Int.pow_add];rfl]
 ·by_cases h2:i=k
  ·subst h2
   rw [Nx _ (by omega),List.getElem?_append_right (by rw [jW];omega),jW,Nat.sub_self,Aw hn (by omega)]
   simp
  ·rw [List.getElem?_eq_none (by rw [jW];omega),List.getElem?_eq_none (by simp [jW];omega)]
theorem Qi:∀ (k:Nat) (n:Int),k≤8→0≤n→n<256 ^ k→D7 (yQ n k)=n
 | 0,n,_,h0,h1=>by
  have:n=0:=by simp at h1;omega
  subst this;rfl
 | k+1,n,hk,h0,h1=>by
  rw [Int.pow_succ] at h1
  rw [ZR n h0 k (by omega),D8,Qi k (n / 256) (by omega) (by omega) (by omega)]
  omega
theorem ZS {k:Nat} (hk:1≤k∧k≤8) {n:Int} (h0:0≤n) (h1:n<256 ^ k):V9 (yQ n k)=n:=by
 unfold V9
 rw [jW,if_pos hk,Qi k n hk.2 h0 h1]
theorem ad4:(256:Int) ^ 8=18446744073709551616:=by decide
theorem Qj {A B:List Int} {n:Int} (h:n=A.length):RO.take (some (A++B)) n=A∧RO.left (some (A++B)) n=some B:=by
 subst h
 have hf:RO.fit (some (A++B)) A.length=true:=by simp [RO.fit];omega
 constructor
 ·simp [RO.take,hf]
 ·simp [RO.left,hf]
theorem abz {k:Nat} (hk:1≤k∧k≤8) {n:Int} (h0:0≤n) (h1:n<256 ^ k) (B:List Int):RO.Qh (some (yQ n k++B)) k=n∧RO.left (some (yQ n k++B)) k=some B:=by
 obtain ⟨a,b⟩:=Qj (A:=yQ n k) (B:=B) (n:=k) (by rw [jW])
 exact ⟨by rw [RO.Qh,a,ZS hk h0 h1],b⟩
theorem Qk:∀ (v:List Int),(∀ x∈v,0≤x∧x≤18446744073709551615)→∀ B,zo (some ((v.flatMap fun n=>yQ n 8)++B)) v.length=v
 | [],_,_=>rfl
 | x::v,h,B=>by
  have hx:=h x (by simp)
  obtain ⟨a,b⟩:=abz (k:=8) (by omega) (n:=x) (by omega) (by rw [ad4];omega) ((v.flatMap fun n=>yQ n 8)++B)
  rw [List.flatMap_cons,List.append_assoc,List.length_cons,zo]
  have a':RO.Qh (some (yQ x 8++((v.flatMap fun n=>yQ n 8)++B))) 8=x:=a
  have b':RO.left (some (yQ x 8++((v.flatMap fun n=>yQ n 8)++B))) 8=some ((v.flatMap fun n=>yQ n 8)++B):=b
  rw [a',b',Qk v (fun y hy=>h y (by simp [hy])) B]
theorem abA {v:List Int} (h:VIn v) (B:List Int):RO.abx (some ((v.flatMap fun n=>yQ n 8)++B))=v∧RO.left (some ((v.flatMap fun n=>yQ n 8)++B)) 128=some B:=by
 have hl:(v.flatMap fun n=>yQ n 8).length=128:=by rw [Lp (f:=fun n=>yQ n 8) (n:=8) (fun n=>jW n 8),h.len]
 obtain ⟨a,b⟩:=Qj (A:=v.flatMap fun n=>yQ n 8) (B:=B) (n:=128) (by rw [hl];rfl)
 refine ⟨?_,b⟩
 have:=Qk v h.rng []
 rw [List.append_nil,h.len] at this
 rw [RO.abx,a,this]
theorem Lr {s:AS} {v:AV} {l:List Int} (h:gx s v l):(cP T aq cq v s).map (·.1)=some (.str (toB l)):=by
 by_cases hz:l=[]
 ·subst hz
  rcases h with ⟨rfl,h2,h3⟩ | ⟨a,c,e,rfl,⟨h1,h2⟩,h3⟩
  ·simp [cP,aL,oZ,Bw,toB]
  ·rcases a with _ | ⟨la,o⟩ <;> simp [cP,aL,oZ,Bw,toB]
 ·exact ZD h hz
end Go.Proofs.YtohgmogbabkkeaaGreat
end

section
set_option maxRecDepth 100000
set_option maxHeartbeats 4000000
namespace Go.Proofs.YtohgmogbabkkeaaGreat
open Go.Am
def Kt (a0:List AV) (a1:List AV) (s:AS) (R:AV→AS→Prop):Prop :=
 cF a0 (aj (.cells a0 0 false) s fun l1 s2=>cF a1 (aj (.cells a1 0 false) s2 fun l3 s4=>aj (.cells [.int .u64 0,.int .u64 0,.int .u64 0,.int .u64 0,.int .u64 0,.int .u64 0,.int .u64 0,.int .u64 0,.int .u64 0,.int .u64 0,.int .u64 0,.int .u64 0,.int .u64 0,.int .u64 0,.int .u64 0,.int .u64 0] 0 false) s4 fun l5 s6=>aR (aB s6 l3 0 16) fun g7=>bC fun I8 m9=>I8 m9 [(.int .i64 0)] s6 ∧
 ∀ Ft:Nat,∀ iN:Int,∀ dg:AS,I8 Ft [(.int .i64 iN)] dg →
 af (decide ((iN:Int)<16))
 (aW .u64 (jd T bg (.agg g7) (.int .i64 iN)) fun wu=>bH (ag T bg (.ptr (some (l1,0))) (.int .i64 iN)) fun lR we=>aW .u64 (av dg lR we) fun vg=>aW .u64 (N3 true [(.int .u64 vg),(.int .u64 wu)]) fun yL=>bH (ag T bg (.ptr (some (l1,0))) (.int .i64 iN)) fun GO o19=>bu (cN dg GO o19 [(.int .u64 yL)]) fun fN=>∃ m',m'<Ft∧I8 m' [(.int .i64 (IntKind.wrap .i64 (iN+1)))] fN)
 (aR (aB dg l1 0 16) fun wC=>fj (some 16) wC (bu (cN dg l5 0 wC) fun fO=>aR (aB fO l5 0 16) fun ng=>R (.agg ng) fO))))
def Ku:QA:=(.seq .leaf (.seq (.seq .leaf (.wrap (.loop [(8,.int .i64)] [(5,6),(8,19)] (.seq .leaf (.seq (.cond .leaf .leaf) (.seq (.wrap (.seq .leaf .leaf)) .leaf)))))) (.seq .leaf .leaf)))
theorem Kv (a0:List AV) (a1:List AV) (s:AS) (R:AV→AS→Prop) (h:Kt a0 a1 s R):aa Tryz.prog sQ [(.agg a0),(.agg a1)] s R :=
 aa.q (n:=21) (rs:=[.cell 4 49]) (A:=Ku) hT bU Tryz.func81 (by kernel_rfl) rfl rfl rfl (by kernel_rfl) (by kernel_rfl) h
def AA (a0:List UInt8) (s:AS) (R:AV→AS→Prop):Prop :=
 aW .i64 (aP T cq (.str a0) s) fun n1=>af (decide ((n1:Int)≥1)) (aW .i64 (aP T cq (.str a0) s) fun n2=>R (.bool (decide ((n2:Int)≤32))) s) (R (.bool false) s)
def AB:QA:=(.seq .leaf (.seq .leaf .leaf))
theorem AD (a0:List UInt8) (s:AS) (R:AV→AS→Prop) (h:AA a0 s R):aa Tryz.prog gV [(.str a0)] s R :=
 aa.q (n:=11) (rs:=[.tmp 2]) (A:=AB) hT bU Tryz.func87 (by kernel_rfl) rfl rfl rfl (by kernel_rfl) (by kernel_rfl) h
def Ny (a0:List AV) (s:AS) (R:AV→AS→Prop):Prop :=
 cF a0 (aj (.cells a0 0 false) s fun l1 s2=>aR (aB s2 l1 0 16) fun g3=>bC fun I4 m5=>I4 m5 [(.bool true),(.int .i64 0)] s2 ∧
 ∀ m6:Nat,∀ b7:Bool,∀ n8:Int,∀ s9:AS,I4 m6 [(.bool b7),(.int .i64 n8)] s9 →
 af (decide ((n8:Int)<16))
 (aW .u64 (jd T bg (.agg g3) (.int .i64 n8)) fun j9=>af (!(decide ((j9:Int)≤4611686018427387904)))
 (R (.bool (decide ((j9:Int)≤4611686018427387904))) s9)
 (∃ m',m'<m6∧I4 m' [(.bool (decide ((j9:Int)≤4611686018427387904))),(.int .i64 (IntKind.wrap .i64 (n8+1)))] s9))
 (R (.bool b7) s9))
def Nz:QA:=(.seq .leaf (.wrap (.seq .leaf (.seq .leaf (.seq (.seq .leaf (.wrap (.loop [(3,.bool),(7,.int .i64)] [(3,3),(5,5),(7,14)] (.seq .leaf (.seq (.cond .leaf .leaf) (.seq (.wrap (.seq .leaf (.seq .leaf (.seq .leaf (.cond .leaf .leaf))))) .leaf)))))) (.seq .leaf .leaf))))))
theorem NA (a0:List AV) (s:AS) (R:AV→AS→Prop) (h:Ny a0 s R):aa Tryz.prog dw [(.agg a0)] s R :=
 aa.q (n:=16) (rs:=[.tmp 2]) (A:=Nz) hT bU Tryz.func90 (by kernel_rfl) rfl rfl rfl (by kernel_rfl) (by kernel_rfl) h
def Kw (a0:AV) (a1:List UInt8) (a2:AV) (s:AS) (R:AV→AS→Prop):Prop :=
 aj (.cells (List.replicate 32 (.int .u8 0)) 0 false) s fun l1 s2=>iG (cP T cq aq (.str a1) s2) fun v3 s4=>aa Tryz.prog xJ [v3] s4 fun v5 s6=>∃ v7:AV,∃ n8:Int,v5=.aQ [v7,(.int .i64 n8)]∧(aR (cZ T eF 2 [(0,v7),(1,a2)]) fun g9=>aj (.cells g9 0 false) s6 fun nB fI=>aa Tryz.prog zZ [a0,(.slc (some (nB,0)) 2 2 true)] fI fun i_ bS=>∃ lY:List AV,i_=.agg lY∧(fj (some 32) lY (bu (cN bS l1 0 lY) fun f_=>aR (aB f_ l1 0 32) fun EH=>R (.agg EH) f_)))
def Kx:QA:=(.seq .leaf (.seq .leaf (.seq .leaf .leaf)))
theorem Ky (a0:AV) (a1:List UInt8) (a2:AV) (s:AS) (R:AV→AS→Prop) (h:Kw a0 a1 a2 s R):aa Tryz.prog eL [a0,(.str a1),a2] s R :=
 aa.q (n:=20) (rs:=[.cell 6 93]) (A:=Kx) hT bU Tryz.func92 (by kernel_rfl) rfl rfl rfl (by kernel_rfl) (by kernel_rfl) h
def IN (a0:AV) (a1:List UInt8) (a2:List AV) (s:AS) (R:AV→AS→Prop):Prop :=
 cF a2 (aj (.cells a2 0 false) s fun l1 s2=>bw fun J3 =>
 (∀ b4:Bool,∀ s5:AS,J3 [(.bool b4)] s5 →
 af b4
 (R (.aQ [(.slc none 0 0 true),(.int .i64 2)]) s5)
 (aR (aB s5 l1 0 16) fun g6=>aa Tryz.prog sR [(.agg g6)] s5 fun v7 s8=>aa Tryz.prog eL [a0,(.str a1),v7] s8 fun v9 jD=>∃ K8:List AV,v9=.agg K8∧(aj (.cells (List.replicate 32 (.int .u8 0)) 0 false) jD fun rP bS=>fj (some 32) K8 (bu (cN bS rP 0 K8) fun jT=>dJ (aY T sZ (.ptr (some (rP,0))) none none none) fun yV=>iG (aJ T aq aq v7 yV jT) fun oh lZ=>R (.aQ [oh,(.int .i64 0)]) lZ)))) ∧
 (aa Tryz.prog gV [(.str a1)] s2 fun tI iD=>∃ b20:Bool,tI=.bool b20∧(af (!b20) (J3 [(.bool true)] iD) (aR (aB iD l1 0 16) fun wC=>aa Tryz.prog dw [(.agg wC)] iD fun qm rO=>∃ VI:Bool,qm=.bool VI∧(J3 [(.bool (!VI))] rO)))))
def IP:QA:=(.seq .leaf (.seq (.join [(17,.bool)] [(10,17)] .leaf (.cond (.seq .leaf .leaf) .leaf)) (.seq .leaf (.seq .leaf (.seq .leaf .leaf)))))
theorem IQ (a0:AV) (a1:List UInt8) (a2:List AV) (s:AS) (R:AV→AS→Prop) (h:IN a0 a1 a2 s R):aa Tryz.prog fF [a0,(.str a1),(.agg a2)] s R :=
 aa.q (n:=27) (rs:=[.tmp 6,.tmp 7]) (A:=IP) hT bU Tryz.func83 (by kernel_rfl) rfl rfl rfl (by kernel_rfl) (by kernel_rfl) h
def Ql (a0:AV) (a1:List UInt8) (a2:AV) (s:AS) (R:AV→AS→Prop):Prop :=
 aj (.cells [.int .u64 0,.int .u64 0,.int .u64 0,.int .u64 0,.int .u64 0,.int .u64 0,.int .u64 0,.int .u64 0,.int .u64 0,.int .u64 0,.int .u64 0,.int .u64 0,.int .u64 0,.int .u64 0,.int .u64 0,.int .u64 0] 0 false) s fun l1 s2=>aa Tryz.prog gV [(.str a1)] s2 fun v3 s4=>∃ b5:Bool,v3=.bool b5∧(af (!b5)
 (pN (aU T bg []) fun g6=>fj (some 16) g6 (bu (cN s4 l1 0 g6) fun s7=>aR (aB s7 l1 0 16) fun g8=>R (.aQ [(.agg g8),(.int .i64 2)]) s7))
 (aW .i64 (aP T aq a2 s4) fun n9=>af ((n9:Int)==0)
 (pN (aU T bg []) fun Dp=>fj (some 16) Dp (bu (cN s4 l1 0 Dp) fun fI=>aR (aB fI l1 0 16) fun K5=>R (.aQ [(.agg K5),(.int .i64 0)]) fI))
 (aW .i64 (aP T aq a2 s4) fun wu=>af ((wu:Int) != 160)
 (pN (aU T bg []) fun lY=>fj (some 16) lY (bu (cN s4 l1 0 lY) fun f_=>aR (aB f_ l1 0 16) fun EH=>R (.aQ [(.agg EH),(.int .i64 9)]) f_))
 (dJ (aY T aq a2 none (some (.int .i64 128)) (some (.int .i64 128))) fun o_=>dJ (aY T aq a2 (some (.int .i64 128)) none none) fun tI=>aa Tryz.prog sj [o_] s4 fun wT fN=>∃ p21:Option (Nat×Nat),wT=.ptr p21∧(aa Tryz.prog jr [(.ptr p21)] fN fun qm rO=>∃ wh:List AV,qm=.agg wh∧(aj (.cells [.int .u64 0,.int .u64 0,.int .u64 0,.int .u64 0,.int .u64 0,.int .u64 0,.int .u64 0,.int .u64 0,.int .u64 0,.int .u64 0,.int .u64 0,.int .u64 0,.int .u64 0,.int .u64 0,.int .u64 0,.int .u64 0] 0 false) rO fun Ji pX=>fj (some 16) wh (bu (cN pX Ji 0 wh) fun mQ=>bw fun J28 =>
 (∀ Zq:Bool,∀ kL:AS,J28 [(.bool Zq)] kL →
 af Zq
 (pN (aU T bg []) fun Mr=>fj (some 16) Mr (bu (cN kL l1 0 Mr) fun lS=>aR (aB lS l1 0 16) fun WN=>R (.aQ [(.agg WN),(.int .i64 9)]) lS))
 (aR (aB kL Ji 0 16) fun NR=>fj (some 16) NR (bu (cN kL l1 0 NR) fun VN=>aR (aB VN l1 0 16) fun g36=>R (.aQ [(.agg g36),(.int .i64 0)]) VN))) ∧
 (gu fun S V=>aR (aB mQ Ji 0 16) fun Kc=>(∀ xT:AS,Ext mQ xT→aM xT→(True)→aa Tryz.prog dw [(.agg Kc)] xT fun v39 GP=>∃ b41:Bool,v39=.bool b41∧((Ext xT GP∧S 1 [(.func dw []),(.agg Kc)] (.bool b41) GP∧V 1 [(.func dw []),(.agg Kc)] (.bool b41))))∧(∃ v,V 1 [(.func dw []),(.agg Kc)] v)∧∀ y4:AV,V 1 [(.func dw []),(.agg Kc)] y4→∃ b43:Bool,y4=.bool b43∧(af (!b43) (∀ FC:AS,Ext mQ FC→aM FC→(S 1 [(.func dw []),(.agg Kc)] (.bool b43) FC∧True)→J28 [(.bool true)] FC) ((∀ qQ:AS,Ext mQ qQ→aM qQ→(S 1 [(.func dw []),(.agg Kc)] (.bool b43) qQ∧True)→aa Tryz.prog eL [a0,(.str a1),o_] qQ fun Yz U8=>∃ g49:List AV,Yz=.agg g49∧((Ext qQ U8∧S 7 [(.func eL []),a0,(.str a1),o_] (.agg g49) U8∧V 7 [(.func eL []),a0,(.str a1),o_] (.agg g49))))∧(∃ v,V 7 [(.func eL []),a0,(.str a1),o_] v)∧∀ v50:AV,V 7 [(.func eL []),a0,(.str a1),o_] v50→∃ TR:List AV,v50=.agg TR∧((∀ wv:AS,Ext mQ wv→aM wv→(S 1 [(.func dw []),(.agg Kc)] (.bool b43) wv∧True)→qi (Ur T sZ tI) fun p53=>(Ext wv wv∧S 9 [tI] (.ptr p53) wv∧V 9 [tI] (.ptr p53)))∧(∃ v,V 9 [tI] v)∧∀ GS:AV,V 9 [tI] GS→∃ p55:Option (Nat×Nat),GS=.ptr p55∧(ai p55 fun l56 o57=>aR (aB mQ l56 o57 32) fun g58=>∀ vl:AS,Ext mQ vl→aM vl→(S 1 [(.func dw []),(.agg Kc)] (.bool b43) vl∧(S 7 [(.func eL []),a0,(.str a1),o_] (.agg TR) vl∧(S 9 [tI] (.ptr p55) vl∧True)))→aa Tryz.prog xH [(.agg TR),(.agg g58)] vl fun v61 BF=>∃ b63:Bool,v61=.bool b63∧(J28 [(.bool (!b63))] BF)))))))))))))
def Qm:QA:=(.seq .leaf (.seq (.wrap (.seq .leaf (.cond (.seq .leaf .leaf) (.seq .leaf (.cond (.seq .leaf .leaf) (.seq .leaf (.cond (.seq .leaf .leaf) .leaf))))))) (.seq (.draw 5) (.seq .leaf (.seq (.join [(46,.bool)] [(33,46)] (.gL 11 [[],[],[],[],[],[],[],[1],[],[1],[]] [1,7,9]) (.cond (.seq .leaf .leaf) .leaf)) (.seq .leaf .leaf))))))
theorem EP (a0:AV) (a1:List UInt8) (a2:AV) (s:AS) (R:AV→AS→Prop) (h:Ql a0 a1 a2 s R):aa Tryz.prog oS [a0,(.str a1),a2] s R :=
 aa.q (n:=49) (rs:=[.cell 6 49,.tmp 7]) (A:=Qm) hT bU Tryz.func24 (by kernel_rfl) rfl rfl rfl (by kernel_rfl) (by kernel_rfl) h
def nq (a0:AV) (s:AS) (R:AV→AS→Prop):Prop :=
 uD (WG T bp true a0 (.slc none 0 0 true)) fun b1=>af b1
 (R (.slc none 0 0 true) s)
 (aR (cZ T bp 0 []) fun g2=>aj (.cells g2 0 false) s fun l3 s4=>iG (aJ T bp bp (.slc (some (l3,0)) 0 0 true) a0 s4) fun v5 s6=>R v5 s6)
def nr:QA:=(.seq .leaf (.seq (.seq .leaf (.cond (.seq .leaf .leaf) .leaf)) (.seq .leaf .leaf)))
theorem nu (a0:AV) (s:AS) (R:AV→AS→Prop) (h:nq a0 s R):aa Tryz.prog eo [a0] s R :=
 aa.q (n:=8) (rs:=[.tmp 2]) (A:=nr) hT bU Tryz.func82 (by kernel_rfl) rfl rfl rfl (by kernel_rfl) (by kernel_rfl) h
end Go.Proofs.YtohgmogbabkkeaaGreat
end

section
namespace Go.Proofs.YtohgmogbabkkeaaGreat
open Go.Am Go.au Go.aC Go.bW
def uC (v:List Int):Bool:=v.all fun n=>decide (n≤4611686018427387904)
def AE (v:List Int):List Int:=v.flatMap fun n=>yQ n 8
def Cw (sec:List Int) (dev:List UInt8) (v:List Int):List Int:=AE v++Bu sec (uz dev++AE v)
theorem IS {v:List Int} (h:v.length=16):(AE v).length=128:=by
 have:∀ l:List Int,(AE l).length=8*l.length:=by
  intro l
  induction l with
  | nil=>rfl
  | cons x xs ih=>simp only [AE,List.flatMap_cons,List.length_append,jW] at ih ⊢;rw [ih];simp;omega
 rw [this,h]
theorem ZT (sec:List Int) (dev:List UInt8) {v:List Int} (h:v.length=16):(Cw sec dev v).length=160:=by
 rw [Cw,List.length_append,IS h,jO]
def nD (a b:List Int):List Int:=(List.range 16).map fun i=>if b.getD i 0>a.getD i 0 then b.getD i 0 else a.getD i 0
theorem dh (a b:List Int):(nD a b).length=16:=by simp [nD]
theorem ZU {v:List Int} (h:v.length=16) {i:Nat} (hi:i<16):jd T bg (.agg (v.map (.int .u64))) (.int .i64 (i:Nat))=some (.int .u64 (v.getD i 0)):=by
 simp only [jd,xP,jB,Option.bind_some,C6 Dd]
 rw [if_pos (by omega),List.getElem?_map,List.getElem?_eq_getElem (by simp;omega),List.getD_eq_getElem?_getD,List.getElem?_eq_getElem (by omega)]
 simp
theorem vrd {v:List Int} (h:v.length=16) {s:AS} {l:Nat} (ho:At s l (v.map (.int .u64))):aB s l 0 16=some (v.map (.int .u64)):=by
 rw [ho.aB (by simp [h]),List.drop_zero,List.take_of_length_le (by simp [h])]
theorem ad5 (a b:List Int) {i:Nat} (h:i<16) (ha:a.length=16):(((nD a b).take i)++a.drop i).set i (if b.getD i 0>a.getD i 0 then b.getD i 0 else a.getD i 0)=((nD a b).take (i+1))++a.drop (i+1):=by
 have hd:=List.drop_eq_getElem_cons (l:=a) (i:=i) (by omega)
 have hl:((nD a b).take i).length=i:=by simp [dh];omega
 have hg:(nD a b)[i]? = some (if b.getD i 0>a.getD i 0 then b.getD i 0 else a.getD i 0):=by
  rw [nD,List.getElem?_map,List.getElem?_range h];rfl
 rw [List.set_append,if_neg (by omega),hl,Nat.sub_self,hd,List.set_cons_zero,List.take_add_one,hg,Option.toList_some,List.append_assoc]
 rfl
theorem ZV {a b:List Int} (ha:a.length=16) (hb:b.length=16) (s:AS):aa Tryz.prog sQ [.agg (a.map (.int .u64)),.agg (b.map (.int .u64))] s fun r s'=>r=.agg ((nD a b).map (.int .u64))∧Ext s s':=by
 refine aa.pre fun hw=>Kv _ _ _ _ ⟨cg _ _,aj.intro hw rfl fun l1 s2 F2=>⟨cg _ _,aj.intro F2.wf rfl fun l3 s4 F4=>aj.intro F4.wf rfl fun l5 s6 F6=>?_⟩⟩
 have e6:=(F2.ext.trans F4.ext).trans F6.ext
 have n1:=F2.no
 have d5:l5≠l1:=fun e=>by
  have:=F6.no
  rw [e,F2.own.ext F4.ext] at this;cases this
 refine ⟨_,vrd hb (F4.own.ext F6.ext).at,fun m vs s'=>∃ i:Nat,vs=[.int .i64 (i:Nat)]∧i≤16∧m=16 - i∧Ext s s'∧aM s'∧Am.Own s' l1 (((nD a b).take i++a.drop i).map (.int .u64))∧Am.Own s' l5 (eR.map (.int .u64)),16,⟨0,rfl,by omega,rfl,e6,F6.wf,by simpa using (F2.own.ext F4.ext).ext F6.ext,F6.own⟩,?_⟩
 rintro m n dg ⟨i,hi,h6,rfl,Dy,GV,p1,p5⟩
 simp only [List.cons.injEq,AV.int.injEq,true_and,and_true] at hi
 subst hi
 refine af.dec (fun hlt=>?_) (fun hge=>?_)
 ·have hg:((nD a b).take i++a.drop i).getD i 0=a.getD i 0:=by
   rw [List.getD_eq_getElem?_getD,List.getD_eq_getElem?_getD,List.getElem?_append_right (by simp [dh];omega)]
   simp [dh,Nat.min_eq_left (show i≤16 by omega)]
  have hr:av dg l1 (0+((i:Nat):Int).toNat*1)=some (.int .u64 (a.getD i 0)):=by rw [← hg];exact p1.at.U1 (by simp [dh];omega) (by simp)
  refine ⟨_,ZU hb (by omega),_,_,WY (by omega),_,hr,_,Tn _ _,_,_,WY (by omega),bu.int GV p1 (i:=i) (by simp [dh];omega) (by simp) fun fN q1 Vt m20=>⟨16 - (i+1),by omega,i+1,by rw [Cp (by omega)],by omega,rfl,Ext.wr Dy n1 m20,Vt,?_,p5.mut m20 (by simpa using d5)⟩⟩
  rw [← ad5 a b (by omega) ha];exact q1
 ·obtain rfl:i=16:=by omega
  have h16:(nD a b).take 16++a.drop 16=nD a b:=by rw [List.take_of_length_le (by simp [dh]),List.drop_eq_nil_of_le (by omega),List.append_nil]
  rw [h16] at p1
  refine ⟨_,vrd (dh a b) p1.at,⟨cg _ _,by simp [dh]⟩,bu.own GV p5 (by simp [dh,eR]) fun fO P=>?_⟩
  have hP:=P.at
  rw [dD (by simp [dh,eR])] at hP
  exact ⟨_,vrd (dh a b) ⟨_,_,hP⟩,rfl,Ext.wr Dy ((F2.ext.trans F4.ext).none F6.no) P.mut⟩
theorem vL (t:List UInt8) (s:AS):aa Tryz.prog gV [.str t] s fun v s'=>v=.bool (aD t)∧s'=s:=by
 refine AD _ _ _ ⟨_,kQ t s,af.dec (fun h=>⟨_,kQ t s,?_,rfl⟩) (fun h=>⟨?_,rfl⟩)⟩
 ·congr 1
  rw [aD,decide_eq_decide];omega
 ·congr 1
  symm
  rw [aD,decide_eq_false_iff_not];omega
theorem Uh {v:List Int} (h:v.length=16) (s:AS):aa Tryz.prog dw [.agg (v.map (.int .u64))] s fun r s'=>r=.bool (uC v)∧Ext s s':=by
 refine aa.pre fun hw=>NA _ _ _ ⟨cg _ _,aj.intro hw rfl fun l1 s2 F2=>⟨_,vrd h F2.own.at,fun m vs s'=>∃ i:Nat,vs=[.bool true,.int .i64 (i:Nat)]∧i≤16∧m=16 - i∧s'=s2∧(v.take i).all (fun n=>decide (n≤4611686018427387904))=true,16,⟨0,rfl,by omega,rfl,rfl,rfl⟩,?_⟩⟩
 rintro m b n s9 ⟨i,hi,h6,rfl,rfl,hall⟩
 simp only [List.cons.injEq,AV.int.injEq,AV.bool.injEq,true_and,and_true] at hi
 obtain ⟨rfl,rfl⟩:=hi
 refine af.dec (fun hlt=>⟨_,ZU h (by omega),af.mk (fun hb=>⟨?_,F2.ext⟩) (fun hb=>⟨16 - (i+1),by omega,i+1,?_,by omega,rfl,rfl,?_⟩)⟩) (fun hge=>⟨?_,F2.ext⟩)
 ·have hb':decide (v.getD i 0≤4611686018427387904)=false:=by simpa using hb
  rw [hb']
  congr 1
  symm
  rw [uC,List.all_eq_false]
  refine ⟨v.getD i 0,?_,by simpa using hb'⟩
  rw [List.getD_eq_getElem?_getD,List.getElem?_eq_getElem (by omega)]
  exact List.getElem_mem _
 ·have hb':decide (v.getD i 0≤4611686018427387904)=true:=by simpa using hb
  rw [hb',Cp (by omega)]
 ·have hb':decide (v.getD i 0≤4611686018427387904)=true:=by simpa using hb
  rw [List.take_add_one,List.all_append,hall]
  rw [List.getD_eq_getElem?_getD] at hb'
  rw [List.getElem?_eq_getElem (by omega)] at hb' ⊢
  simpa using hb'
 ·rw [List.take_of_length_le (by omega)] at hall
  rw [uC,hall]
theorem Ui {s:AS} {sv vv:AV} {sec vb:List Int} (hs:gx s sv sec) (hl:sec.length≤64) (hv:gx s vv vb) (hvl:vb.length≤1000) (dev:List UInt8) (hd:dev.length≤1000) :
  aa Tryz.prog eL [sv,.str dev,vv] s fun r s'=>r=.agg ((Bu sec (uz dev++vb)).map (.int .u8))∧Ext s s':=by
 refine aa.pre fun hw=>Ky _ _ _ _ _ (aj.intro hw rfl fun l1 s2 F2=>?_)
 refine S1 F2.wf dev fun v3 s4 b4 e4 w4=>?_
 refine aa.use (abk b4 (by rw [x_];omega)) ?_
 rintro v s6 ⟨v7,rfl,g7⟩ w6
 have e6:=(F2.ext.trans e4).trans g7.eG.ext
 have hv6:=hv.ext e6
 have h7:=g7.sl bT
 refine ⟨_,_,rfl,_,Ue g7.iW.2 hv6.one,aj.intro w6 rfl fun nB fI yO=>?_⟩
 have QT:=e6.trans yO.ext
 refine aa.use (abu (L:=[(v7,uz dev),(vv,vb)]) (hs.ext QT) hl (bZ.mk yO.own.at rfl rfl) ?_ (by simp) ?_) ?_
 ·intro p hp
  simp only [List.mem_cons,List.not_mem_nil,or_false] at hp
  rcases hp with rfl | rfl
  ·have:=h7.ext yO.ext
   rw [x_] at this;exact this
  ·exact hv.ext QT
 ·simp [qI,VY];omega
 ·rintro i_ bS ⟨rfl,Q1⟩ QZ
  have hc:([(v7,uz dev),(vv,vb)].flatMap Prod.snd)=uz dev++vb:=by simp
  rw [hc]
  have o1:=(((F2.own.ext e4).ext g7.eG.ext).ext yO.ext).ext Q1
  refine ⟨_,rfl,⟨cg _ _,by simp [jO]⟩,bu.own QZ o1 (by simp [jO]) fun f_ P=>?_⟩
  have hP:=P.at
  rw [dD (by simp [jO])] at hP
  refine ⟨_,At.aB ⟨_,_,hP⟩ (by simp [jO]),?_,Ext.wr (QT.trans Q1) F2.no P.mut⟩
  rw [List.drop_zero,List.take_of_length_le (by simp [jO])]
theorem Qn {s:AS} {sv:AV} {sec:List Int} (hs:gx s sv sec) (hl:sec.length≤64) (dev:List UInt8) {v:List Int} (hv:v.length=16) (hn:aD dev=true) (hm:uC v=true) :
  aa Tryz.prog fF [sv,.str dev,.agg (v.map (.int .u64))] s fun r s'=>∃ w,r=.aQ [w,.int .i64 0]∧Av s s' w (Cw sec dev v):=by
 refine aa.pre fun hw=>IQ _ _ _ _ _ ⟨cg _ _,aj.intro hw rfl fun l1 s2 F2=>⟨fun vs s'=>vs=[.bool false]∧Ext s2 s'∧aM s',?_,?_⟩⟩
 ·rintro b s5 ⟨hb,e5,w5⟩
  obtain rfl:b=false:=by simpa using hb
  refine af.no rfl ⟨_,vrd hv (F2.own.ext e5).at,?_⟩
  refine aa.use (V0 v hv _) ?_
  rintro v7 s8 (g8:Av s5 s8 v7 (AE v)) w8
  have e8:=(F2.ext.trans e5).trans g8.eG.ext
  have hd:dev.length≤32:=by
   simp only [aD,decide_eq_true_eq] at hn;omega
  have hvl:=IS hv
  refine aa.use (Ui (hs.ext e8) hl (g8.sl bT) (by rw [hvl];omega) dev (by omega)) ?_
  rintro v9 jD ⟨rfl,MB⟩ YK
  refine ⟨_,rfl,lN YK (by simp [jO]) (by simp) (cg _ _) fun rP jT F14=>⟨_,nP Mi eu (by decide),?_⟩⟩
  have yB:=jO sec (uz dev++AE v)
  have hh:gx jT (.slc (some (rP,0)) 32 32 true) (Bu sec (uz dev++AE v)):=bZ.mk F14.own.at (by rw [kR];simp [yB]) (by rw [kR,List.drop_zero,List.take_of_length_le (by simp [yB])]) |> (yB ▸ ·)
  refine yb F14.wf (g8.step (MB.trans F14.ext)) (by simp) hh (by rw [hvl,yB];omega) fun v' s' g' w' _=>⟨v',rfl,?_⟩
  exact ⟨g'.wq,(F2.ext.trans e5).mut.trans g'.eG,fun la hla=>(F2.ext.trans e5).none (g'.new la hla)⟩
 ·refine aa.use (vL dev _) ?_
  rintro tI iD ⟨rfl,rfl⟩ w19
  refine ⟨_,rfl,af.no (by simp [hn]) ⟨_,vrd hv F2.own.at,?_⟩⟩
  refine aa.use (Uh hv _) ?_
  rintro qm rO ⟨rfl,Q0⟩ YN
  exact ⟨_,rfl,by simp [hm],Q0,YN⟩
theorem IT:aU T bg []=some (.agg (eR.map (.int .u64))):=by kernel_rfl
theorem Sl.ai5 {s:AS} {v:AV} {l:List Int} (h:gx s v l) (hl:l.length=32):∃ la o,Ur T sZ v=some (.ptr (some (la,o)))∧∀ s',Ext s s'→aB s' la o 32=some (l.map (.int .u8)):=by
 rcases h with ⟨_,h0,_⟩ | ⟨a,c,e,rfl,⟨OC,hc⟩,h3⟩
 ·omega
 ·rcases h3 with h3 | ⟨la,o,C,rfl,hC,hcs⟩
  ·omega
  ·refine ⟨la,o,by simp [Ur,Mi,hl],fun s' e'=>?_⟩
   have hlen:=congrArg List.length hcs
   rw [List.length_take,List.length_drop,tD,hl] at hlen
   rw [(hC.ext e').aB (by omega),← kR,← hcs,hl]
theorem S_ {s s4:AS} {l1:Nat} {v:List Int} (hv:v.length=16) (e4:Ext s s4) (w4:aM s4) (n1:s.h l1=none) (o1:Am.Own s4 l1 (eR.map (.int .u64))) {c c':Int} (hc:c=c') :
  fj (some 16) (v.map (AV.int .u64)) (bu (Am.cN s4 l1 0 (v.map (.int .u64))) fun s7=>aR (aB s7 l1 0 16) fun g8=>(fun r s'=>r=AV.aQ [.agg (v.map (.int .u64)),.int .i64 c']∧Ext s s') (.aQ [.agg g8,.int .i64 c]) s7):=by
 refine ⟨⟨cg _ _,by simp [hv]⟩,bu.own w4 o1 (by simp [hv,eR]) fun s7 P=>?_⟩
 have hP:=P.at
 rw [dD (by simp [hv,eR])] at hP
 exact ⟨_,vrd hv ⟨_,_,hP⟩,by rw [hc],Ext.wr e4 n1 P.mut⟩
theorem abB (v:List Int):NV (AE v):=by
 intro x hx
 obtain ⟨n,_,hx⟩:=List.mem_flatMap.1 hx
 exact adZ n 8 x hx
theorem ad6 {s:AS} {sv bv:AV} {b:List Int} (hb:gx s bv b) (dev:List UInt8) (h0:aD dev=false∨b=[]) :
  aa Tryz.prog oS [sv,.str dev,bv] s fun r s'=>r=.aQ [.agg (eR.map (.int .u64)),.int .i64 (if aD dev then 0 else 2)]∧Ext s s':=by
 refine aa.pre fun hw=>EP _ _ _ _ _ (aj.intro hw rfl fun l1 s2 F2=>?_)
 refine aa.use (vL dev _) ?_
 rintro v3 s4 ⟨rfl,rfl⟩ w4
 refine ⟨_,rfl,af.mk (fun h=>⟨_,IT,S_ rfl F2.ext w4 F2.no F2.own (by rw [if_neg (by simpa using h)])⟩) (fun h=>?_)⟩
 ·have hn:aD dev=true:=by simpa using h
  rcases h0 with h0 | rfl
  ·rw [hn] at h0;cases h0
  ·refine ⟨_,(hb.ext F2.ext).cG aL _,af.yes (by simp) ⟨_,IT,S_ rfl F2.ext w4 F2.no F2.own (by rw [if_pos hn])⟩⟩
theorem ad7 {s:AS} {sv bv:AV} {sec:List Int} (hs:gx s sv sec) (hl:sec.length≤64) (dev:List UInt8) (hn:aD dev=true) {v:List Int} (hv:VIn v) (hm:uC v=true) (hb:gx s bv (Cw sec dev v)) :
  aa Tryz.prog oS [sv,.str dev,bv] s fun r s'=>r=.aQ [.agg (v.map (.int .u64)),.int .i64 0]∧Ext s s':=by
 have hvl:=hv.len
 have hd:dev.length≤32:=by
  simp only [aD,decide_eq_true_eq] at hn;omega
 have NK:=ZT sec dev hvl
 have hvb:=IS hvl
 have yB:=jO sec (uz dev++AE v)
 refine aa.pre fun hw=>EP _ _ _ _ _ (aj.intro hw rfl fun l1 s2 F2=>?_)
 refine aa.use (vL dev _) ?_
 rintro v3 s4 ⟨rfl,rfl⟩ w4
 have hb4:=hb.ext F2.ext
 refine ⟨_,rfl,af.no (by simp [hn]) ⟨_,hb4.cG aL _,af.no (by simp [NK]) ⟨_,hb4.cG aL _,af.no (by simp [NK]) ?_⟩⟩⟩
 obtain ⟨o_,h17,ad8⟩:=hb4.head bT aL eu (i:=128) (by omega) .i64
 obtain ⟨tI,h18,agb⟩:=hb4.rest bT aL eu (i:=128) (by omega) .i64
 have t1:(Cw sec dev v).take 128=AE v:=by rw [Cw,List.take_append_of_le_length (by omega),List.take_of_length_le (by omega)]
 have t2:(Cw sec dev v).drop 128=Bu sec (uz dev++AE v):=by rw [Cw,List.drop_append_of_le_length (by omega),List.drop_eq_nil_of_le (by omega),List.nil_append]
 rw [t1] at ad8
 rw [t2] at agb
 refine ⟨_,h17,_,h18,?_⟩
 refine aa.use (Ug ad8 (abB v) (by omega)) ?_
 rintro wT fN ⟨p,rfl,hp,rp,Na⟩ Vt
 refine ⟨_,rfl,?_⟩
 refine aa.use (S9 rp) ?_
 rintro qm rO ⟨rfl,Mp,aj3⟩ YN
 have hva:=abA hv []
 rw [List.append_nil] at hva
 rw [show (v.flatMap fun n=>yQ n 8)=AE v from rfl] at hva
 rw [hva.1]
 have E23:Ext s4 rO:=Ext.wr Na hp Mp
 refine ⟨_,rfl,lN YN (by simp [hvl]) rfl (cg _ _) fun Ji mQ F27=>?_⟩
 have E27:=E23.trans F27.ext
 have Fh:=F2.own.ext E27
 refine ⟨fun vs s'=>vs=[.bool false]∧Ext mQ s'∧aM s',?_,fun q _ v s'=>q=9→∃ la o,v=.ptr (some (la,o)),fun q _ w=>(q=1→w=.bool true)∧(q=7→w=.agg ((Bu sec (uz dev++AE v)).map (.int .u8)))∧(q=9→∃ la o,w=.ptr (some (la,o))∧aB mQ la o 32=some ((Bu sec (uz dev++AE v)).map (.int .u8))),fun q _ w s s' e h=>h,?_⟩
 ·rintro b kL ⟨hb,IA,NT⟩
  obtain rfl:b=false:=by simpa using hb
  refine af.no rfl ⟨_,vrd hvl (F27.own.ext IA).at,S_ hvl ((F2.ext.trans E27).trans IA) NT F2.no (Fh.ext IA) rfl⟩
 ·refine ⟨_,vrd hvl F27.own.at,fun xT e38 w38 _=>?_,⟨_,(fun _=>rfl),(fun h=>by cases h),(fun h=>by cases h)⟩,fun y4 ai6=>?_⟩
  ·refine (Uh hvl _).mono ?_
   rintro w s' ⟨rfl,e⟩
   exact ⟨_,rfl,e,(fun h=>by cases h),(fun _=>by rw [hm]),(fun h=>by cases h),(fun h=>by cases h)⟩
  ·obtain rfl:=ai6.1 rfl
   obtain ⟨la,o,EX,ha2⟩:=Sl.ai5 (agb.ext E27) yB
   refine ⟨_,rfl,af.no rfl ⟨fun qQ e46 w46 _=>?_,⟨_,(fun h=>by cases h),(fun _=>rfl),(fun h=>by cases h)⟩,fun v50 ai7=>?_⟩⟩
   ·refine (Ui (hs.ext ((F2.ext.trans E27).trans e46)) hl (ad8.ext (E27.trans e46)) (by omega) dev (by omega)).mono ?_
    rintro w s' ⟨rfl,e⟩
    exact ⟨_,rfl,e,(fun h=>by cases h),(fun h=>by cases h),(fun _=>rfl),(fun h=>by cases h)⟩
   ·obtain rfl:=ai7.2.1 rfl
    refine ⟨_,rfl,fun wv e52 w52 _=>⟨_,EX,Ext.refl _,(fun _=>⟨la,o,rfl⟩),(fun h=>by cases h),(fun h=>by cases h),(fun _=>⟨la,o,rfl,ha2 _ (Ext.refl _)⟩)⟩,⟨_,(fun h=>by cases h),(fun h=>by cases h),(fun _=>⟨la,o,rfl,ha2 _ (Ext.refl _)⟩)⟩,fun GS ai8=>?_⟩
    obtain ⟨la',o',rfl,hr'⟩:=ai8.2.2 rfl
    refine ⟨_,rfl,_,hr',fun vl e59 w59 _=>?_⟩
    refine aa.use (S0 yB _) ?_
    rintro w BF ⟨rfl,e62⟩ w62
    exact ⟨_,rfl,rfl,e59.trans e62,w62⟩
end Go.Proofs.YtohgmogbabkkeaaGreat
end

section
namespace Go.Proofs.YtohgmogbabkkeaaGreat
open Go.Am Go.au Go.aC Go.bW
structure Ev where
 id:aK
 dL:List UInt8
 vM:List Int
 jX:List Int
 to:List GY
structure nE where
 ev:Ev
 pv:AV
 tv:AV
 len:ev.jX.length=16
 p1:pv.one=true
 t1:tv.one=true
def ig (m:nE):List AV:=[.int .i64 m.ev.id.r,.int .u64 m.ev.id.c,.str m.ev.dL,m.pv]++(m.ev.jX.map (.int .u64)++[m.tv])
theorem bq (m:nE):(ig m).length=21:=by simp [ig,m.len]
theorem dz (m:nE):(ig m).all AV.one=true:=by
 have h1:=m.p1
 have h2:=m.t1
 have h3:=cg .u64 m.ev.jX
 rw [ig,List.all_append,List.all_append,h3]
 simp [h1,h2]
theorem Cx (m:nE) {i:Nat} (h:i<16):(ig m)[4+i]? = some (.int .u64 (m.ev.jX.getD i 0)):=by
 have hl:=m.len
 rw [ig,List.getElem?_append_right (by simp),List.getElem?_append_left (by simp;omega),List.getElem?_map,List.getElem?_eq_getElem (by simp;omega),List.getD_eq_getElem?_getD]
 simp [List.getElem?_eq_getElem (show i<m.ev.jX.length by omega)]
theorem rM (m:nE):(ig m)[20]? = some m.tv:=by
 have hl:=m.len
 rw [ig,List.getElem?_append_right (by simp),List.getElem?_append_right (by simp;omega)]
 simp [hl]
theorem Ta (m:nE):((ig m).drop 0).take 2=aN m.ev.id:=rfl
theorem Uj (m:nE):((ig m).drop 4).take 16=m.ev.jX.map (.int .u64):=by
 have hl:=m.len
 rw [ig,List.drop_append_of_le_length (by simp)]
 simp [List.take_append_of_le_length,hl]
theorem gC (m:nE):((ig m).drop 0).take 21=ig m:=by rw [List.drop_zero,List.take_of_length_le (by rw [bq];exact Nat.le_refl _)]
def Cy (s:AS) (m:nE):Prop:=gx s m.pv m.ev.vM∧Sl rY 3 s m.tv m.ev.to
theorem Cy.ext {s s':AS} {m:nE} (h:Cy s m) (e:Ext s s'):Cy s' m:=⟨h.1.ext e,h.2.ext e⟩
theorem D_ (d:aK) (s:AS):aa Tryz.prog jz [.agg (aN d)] s fun v s'=>v=.bool d.may∧Ext s s':=by
 refine aa.pre fun hw=>Is _ _ _ ⟨rfl,aj.intro hw rfl fun l s1 F=>?_⟩
 simp only [F.own.at.av,aN,List.getElem?_cons_zero,List.getElem?_cons_succ,go_sem,gi,F.ext,and_true,aK.may]
 grind
theorem vO (t:List UInt8) (s:AS):aa Tryz.prog fP [.str t] s fun v s'=>v=.bool (aD t)∧s'=s:=by
 refine FH _ _ _ ⟨_,kQ t s,af.dec (fun h=>⟨_,kQ t s,?_,rfl⟩) (fun h=>⟨?_,rfl⟩)⟩
 ·congr 1
  rw [aD,decide_eq_decide];omega
 ·congr 1
  symm
  rw [aD,decide_eq_false_iff_not];omega
theorem ZW (a b:aK) (s:AS):aa Tryz.prog u9 [.agg (aN a),.agg (aN b)] s fun v s'=>v=.bool (a.lt b)∧Ext s s':=by
 refine aa.pre fun hw=>M4 _ _ _ _ ⟨rfl,aj.intro hw rfl fun l s1 F=>⟨rfl,aj.intro F.wf rfl fun l2 s2 F2=>?_⟩⟩
 have e:=F.ext.trans F2.ext
 refine ⟨fun _ _ _ _=>True,fun _ _ v=>v=.int .i64 (t_ a.r b.r),fun _ _ _ _ _ _ _=>trivial,?_⟩
 simp only [(F.own.ext F2.ext).at.av,F2.own.at.av,aN,List.getElem?_cons_zero,List.getElem?_cons_succ,go_sem]
 refine ⟨fun s7 _ _ _=>?_,⟨_,rfl⟩,?_⟩
 ·refine (ko _ _ _).mono ?_
  rintro v s' ⟨rfl,rfl⟩
  exact ⟨_,rfl,Ext.refl _,trivial,rfl⟩
 ·rintro v rfl
  refine ⟨_,rfl,fun f_ Lb _ _=>?_⟩
  refine aa.use (ie _ _ _) ?_
  rintro v s' ⟨rfl,rfl⟩ CV
  refine ⟨_,rfl,_,SZ _ _,aj.intro CV rfl fun l3 s3 F3=>?_⟩
  refine (pY _ _ F3.own.at).mono ?_
  rintro v s' ⟨rfl,rfl⟩
  refine ⟨_,rfl,?_,e.trans (Lb.trans F3.ext)⟩
  congr 1
  rw [Bool.eq_iff_iff,decide_eq_true_eq,← aK.fL,aK.cmp]
theorem ad9 {s:AS} {l o:Nat} {C:List AV} {v:List Int} (hv:v.length=16) (h:At s l C) (hc:(C.drop o).take 16=v.map (.int .u64)):Sl yc 1 s (.slc (some (l,o)) 16 16 true) v:=by
 have hf:v.flatMap yc=v.map (.int .u64):=by
  clear hv hc
  induction v with
  | nil=>rfl
  | cons x xs ih=>rw [List.flatMap_cons,ih];rfl
 exact (bZ.mk (n:=16) (c:=16) h (by rw [hf];simp [hv]) (by rw [hf];exact hc)) |> (hv ▸ ·)
theorem Wd {v:List Int} (hv:v.length=16) (s:AS):aa Tryz.prog mJ [.agg (v.map (.int .u64))] s fun r s'=>r=.bool (uC v)∧Ext s s':=by
 refine aa.pre fun hw=>B5 _ _ _ ⟨cg _ _,aj.intro hw rfl fun l1 s2 F2=>⟨_,nP xP jB (by decide),?_⟩⟩
 have hs:=ad9 hv F2.own.at (by rw [List.drop_zero,List.take_of_length_le (by simp [hv])])
 refine aa.use (uB (P:=fun n=>decide (n>4611686018427387904)) hs (by omega) fun i _ s' e w=>zh _ _ _ ⟨rfl,Ext.refl _⟩) ?_
 rintro w s5 ⟨rfl,e5⟩ w5
 refine ⟨_,rfl,?_,F2.ext.trans e5⟩
 congr 1
 rw [uC,Bool.eq_iff_iff]
 simp only [Bool.not_eq_true',List.any_eq_false,decide_eq_true_eq,List.all_eq_true,Int.not_lt,gt_iff_lt]
def vP (l:List GY) (j:Nat):Bool:=match l[j]? with
 | none=>true
 | some t=>t.dot.may&&aD t.dev&&(decide (j=0)||match l[j - 1]? with
  | none=>true
  | some u=>u.dot.lt t.dot)
def yq (l:List GY):Bool:=(List.range l.length).all (vP l)
def yu (e:Ev):Bool:=decide (e.jX.getD (e.id.r.toNat - 1) 0=IntKind.wrap .u64 (e.id.c - 1))
def tE (e:Ev):Bool:=e.id.may&&uC e.jX&&yu e&&aD e.dL&&decide (e.vM.length≤512)&&decide (e.to.length≤1024)&&yq e.to
theorem Ea {d:aK} (h:d.may=true):IntKind.wrap .i64 (d.r - 1)=((d.r.toNat - 1:Nat):Int)∧d.r.toNat - 1<16:=by
 have:=aK.gz.1 h
 rw [aV (by omega)];omega
set_option maxRecDepth 20000 in
theorem abC {s:AS} {m:nE} (h:Cy s m):aa Tryz.prog xK [.agg (ig m)] s fun r s'=>r=.bool (tE m.ev)∧Ext s s':=by
 refine aa.pre fun hw=>PD _ _ _ ⟨dz m,aj.intro hw rfl fun l1 s2 F2=>?_⟩
 have c2:=F2.own.at
 have ev:=bq m
 refine ⟨_,c2.aB (by omega),?_⟩
 rw [Ta]
 refine aa.use (D_ _ _) ?_
 rintro v4 s5 ⟨rfl,e5⟩ w5
 have c5:=c2.ext e5
 refine ⟨_,rfl,af.mk (fun hb=>⟨?_,F2.ext.trans e5⟩) (fun hb=>⟨_,c5.aB (by omega),?_⟩)⟩
 ·simp only [Bool.not_eq_true'] at hb
  simp [tE,hb]
 have hid:m.ev.id.may=true:=by simpa using hb
 rw [Uj]
 refine aa.use (Wd m.len _) ?_
 rintro v8 s9 ⟨rfl,e9⟩ w9
 have c9:=c5.ext e9
 have E9:=(F2.ext.trans e5).trans e9
 refine ⟨_,rfl,af.mk (fun hb=>⟨?_,E9⟩) (fun hb=>⟨m.ev.id.r,by rw [c9.av];rfl,?_⟩)⟩
 ·simp only [Bool.not_eq_true'] at hb
  simp [tE,hb]
 have hv:uC m.ev.jX=true:=by simpa using hb
 obtain ⟨hr,Cz⟩:=Ea hid
 dsimp only
 rw [hr]
 have hx:ag T bg (.ptr (some (l1,4))) (.int .i64 ((m.ev.id.r.toNat - 1:Nat):Int))=some (.ptr (some (l1,4+(m.ev.id.r.toNat - 1)))):=by
  rw [WY (by omega)];simp
 refine ⟨_,_,hx,_,by rw [c9.av,Cx m Cz],m.ev.id.c,by rw [c9.av];rfl,af.mk (fun hb=>⟨?_,E9⟩) (fun hb=>?_)⟩
 ·have:yu m.ev=false:=decide_eq_false (bne_iff_ne.1 hb)
  simp [tE,this]
 have hp:yu m.ev=true:=decide_eq_true (by rw [bne_eq_false_iff_eq] at hb;exact hb)
 refine ⟨m.ev.dL,by rw [c9.av];rfl,?_⟩
 refine aa.use (vO _ _) ?_
 rintro o_ eC ⟨rfl,rfl⟩ RX
 have h18:=h.ext E9
 refine ⟨_,rfl,af.mk (fun hb=>⟨?_,E9⟩) (fun hb=>⟨m.pv,by rw [c9.av];rfl,_,h18.1.cG aL _,af.dec (fun ad_=>⟨?_,E9⟩) (fun ad_=>⟨m.tv,by rw [c9.av,rM],_,h18.2.cG fH _,af.dec (fun ZX=>⟨?_,E9⟩) (fun ZX=>⟨m.tv,by rw [c9.av,rM],_,h18.2.cG fH _,?_⟩)⟩)⟩)⟩
 ·have:aD m.ev.dL=false:=by simpa using hb
  simp [tE,this]
 ·simp [tE,show ¬ m.ev.vM.length≤512 by omega]
 ·simp [tE,show ¬ m.ev.to.length≤1024 by omega]
 have hn:aD m.ev.dL=true:=by simpa using hb
 have hend:tE m.ev=yq m.ev.to:=by
  simp [tE,hid,hv,hp,hn,show m.ev.vM.length≤512 by omega,show m.ev.to.length≤1024 by omega]
 rw [hend]
 refine ⟨fun m' vs s'=>∃ i:Nat,vs=[.bool true,.int .i64 (i:Nat)]∧i≤m.ev.to.length∧m'=m.ev.to.length - i∧Ext eC s'∧aM s'∧(List.range i).all (vP m.ev.to)=true,m.ev.to.length,⟨0,rfl,by omega,rfl,Ext.refl _,RX,rfl⟩,?_⟩
 rintro m' b n nA ⟨i,hi,h6,rfl,e31,NS,hall⟩
 simp only [List.cons.injEq,AV.int.injEq,AV.bool.injEq,true_and,and_true] at hi
 obtain ⟨rfl,rfl⟩:=hi
 refine af.dec (fun hlt=>?_) (fun hge=>?_)
 ·obtain ⟨y,hy⟩:=cW (l:=m.ev.to) (i:=i) (by omega)
  obtain ⟨la,o,h8,h9⟩:=h18.2.ix (by decide) d_ fH De hy
  refine ⟨la,o,h8 _,_,(h9 _ e31).2,lN NS (d_ y) rfl (ux y) fun Pe k5 F37=>?_⟩
  have E37:=e31.trans F37.ext
  refine ⟨fun vs s'=>vs=[.bool (vP m.ev.to i)]∧Ext k5 s'∧aM s',?_,?_⟩
  ·rintro b GP ⟨hb,e40,w40⟩
   simp only [List.cons.injEq,AV.bool.injEq,and_true] at hb
   subst hb
   refine af.mk (fun hb=>⟨?_,E9.trans (E37.trans e40)⟩) (fun hb=>?_)
   ·have hb':vP m.ev.to i=false:=by simpa using hb
    rw [hb']
    congr 1
    symm
    rw [yq,List.all_eq_false]
    exact ⟨i,by simp;omega,by simp [hb']⟩
   ·have hb':vP m.ev.to i=true:=by simpa using hb
    refine ⟨m.ev.to.length - (i+1),by omega,i+1,by rw [hb',Cp (by omega)],by omega,rfl,E37.trans e40,w40,?_⟩
    rw [List.range_succ,List.all_append,hall];simp [hb']
  ·refine ⟨_,F37.own.at.aB (by rw [d_];omega),?_⟩
   rw [show ((rY y).drop 0).take 2=aN y.dot from rfl]
   refine aa.use (D_ _ _) ?_
   rintro y4 CR ⟨rfl,e43⟩ w43
   have c43:=(F37.own.ext e43).at
   refine ⟨_,rfl,af.mk (fun h1=>⟨y.dev,by rw [c43.av];rfl,?_⟩) (fun h1=>⟨by simp [vP,hy,h1],e43,w43⟩)⟩
   refine aa.use (vO _ _) ?_
   rintro v46 wD ⟨rfl,rfl⟩ w47
   refine ⟨_,rfl,af.mk (fun h2=>af.mk (fun h3=>⟨?_,e43,w47⟩) (fun h3=>?_)) (fun h2=>⟨by simp [vP,hy,h1,h2],e43,w47⟩)⟩
   ·obtain rfl:i=0:=by simp at h3;omega
    simp [vP,hy,h1,h2]
   ·have hi0:i≠0:=by simp at h3;omega
    obtain ⟨u,hu⟩:=cW (l:=m.ev.to) (i:=i - 1) (by omega)
    obtain ⟨lu,ou,k8,k9⟩:=h18.2.ix (by decide) d_ fH De hu
    have hw1:IntKind.wrap .i64 ((i:Int) - 1)=((i - 1:Nat):Int):=by rw [aV (by omega)];omega
    rw [hw1]
    refine ⟨m.tv,by rw [((c9.ext (E37.trans e43))).av,rM],lu,ou,k8 _,aN u.dot,?_,_,c43.aB (by rw [d_];omega),?_⟩
    ·exact sF (k9 _ (E37.trans e43)).2 (by omega)
    ·rw [show ((rY y).drop 0).take 2=aN y.dot from rfl]
     refine aa.use (ZW _ _ _) ?_
     rintro GS JC ⟨rfl,e55⟩ w55
     exact ⟨_,rfl,by simp [vP,hy,h1,h2,hi0,hu],e43.trans e55,w55⟩
 ·obtain rfl:i=m.ev.to.length:=by omega
  exact ⟨by rw [yq,hall],E9.trans e31⟩
def under (v:List Int) (d:aK):Bool:=d.may&&decide (v.getD (d.r.toNat - 1) 0≥d.c)
theorem ZY {v:List Int} (hv:v.length=16) (d:aK) (s:AS):aa Tryz.prog sS [.agg (v.map (.int .u64)),.agg (aN d)] s fun r s'=>r=.bool (under v d)∧Ext s s':=by
 refine aa.pre fun hw=>Kg _ _ _ _ ⟨cg _ _,aj.intro hw rfl fun l1 s2 F2=>⟨rfl,aj.intro F2.wf rfl fun l3 s4 F4=>⟨_,F4.own.at.aB (by simp [aN]),?_⟩⟩⟩
 refine aa.use (D_ _ _) ?_
 rintro v6 s7 ⟨rfl,e7⟩ w7
 have E7:=(F2.ext.trans F4.ext).trans e7
 have c3:=(F4.own.ext e7).at
 have c1:=((F2.own.ext F4.ext).ext e7).at
 refine ⟨_,rfl,af.mk (fun hb=>⟨d.r,by rw [c3.av];rfl,?_⟩) (fun hb=>⟨by simp [under,hb],E7⟩)⟩
 obtain ⟨hr,Cz⟩:=Ea hb
 dsimp only
 rw [hr]
 exact ⟨_,_,WY (by omega),_,c1.U1 (i:=d.r.toNat - 1) (by omega) (by simp),d.c,by rw [c3.av];rfl,by simp [under,hb],E7⟩
def iT (l:List GY) (dev:List UInt8):List aK:=(l.filter fun t=>t.dev==dev).map GY.dot
theorem agc {s:AS} {m:nE} (h:Cy s m) (hn:m.ev.to.length≤2 ^ 29) (dev:List UInt8):aa Tryz.prog z0 [.agg (ig m),.str dev] s fun r s'=>aT aN 2 [] s s' r (iT m.ev.to dev):=by
 refine aa.pre fun hw=>SH _ _ _ _ ⟨dz m,aj.intro hw rfl fun l1 s2 F2=>?_⟩
 have h2:=h.ext F2.ext
 refine ⟨m.tv,by rw [F2.own.at.av,rM],_,h2.2.cG fH _,fun m' vs s'=>∃ (i:Nat) (v:AV),vs=[v,.int .i64 (i:Nat)]∧i≤m.ev.to.length∧m'=m.ev.to.length - i∧aM s'∧aT aN 2 [] s s' v (iT (m.ev.to.take i) dev),m.ev.to.length,⟨0,_,rfl,by omega,rfl,F2.wf,aT.start F2.ext.mut⟩,?_⟩
 rintro m' v8 n9 jD ⟨i,v,hi,h6,rfl,YK,Dp⟩
 simp only [List.cons.injEq,AV.int.injEq,true_and,and_true] at hi
 obtain ⟨rfl,rfl⟩:=hi
 refine af.dec (fun hlt=>?_) (fun hge=>?_)
 ·obtain ⟨y,hy⟩:=cW (l:=m.ev.to) (i:=i) (by omega)
  obtain ⟨la,o,h8,h9⟩:=h.2.ix (by decide) d_ fH De hy
  have ht:m.ev.to.take (i+1)=m.ev.to.take i++[y]:=by rw [List.take_add_one,hy];rfl
  have hlen:(iT (m.ev.to.take i) dev).length≤i:=by
   simp only [iT,List.length_map]
   exact Nat.le_trans (List.length_filter_le _ _) (by rw [List.length_take];omega)
  refine ⟨la,o,h8 _,_,(h9 _ Dp.eG.ext).2,lN YK (d_ y) rfl (ux y) fun lR kr ZZ=>⟨y.dev,by rw [ZZ.own.at.av];rfl,af.mk (fun hb=>?_) (fun hb=>?_)⟩⟩
  ·refine ⟨_,ZZ.own.at.aB (by rw [d_];omega),?_⟩
   rw [show ((rY y).drop 0).take 2=aN y.dot from rfl]
   refine aT.iX iE bn mT ZZ.wf (Dp.step ZZ.ext) (by simp) y.dot (by omega) fun v' s' g' w' _=>⟨m.ev.to.length - (i+1),by omega,i+1,v',by rw [Cp (by omega)],by omega,rfl,w',?_⟩
   rw [ht,iT,List.filter_append,List.map_append]
   simp only [List.filter_cons,hb,if_true,List.filter_nil,List.map_cons,List.map_nil]
   exact g'
  ·refine ⟨m.ev.to.length - (i+1),by omega,i+1,v8,by rw [Cp (by omega)],by omega,rfl,ZZ.wf,?_⟩
   rw [ht,iT,List.filter_append]
   simp only [List.filter_cons,hb,List.filter_nil,Bool.false_eq_true,if_false,List.append_nil]
   exact Dp.step ZZ.ext
 ·rw [List.take_of_length_le (by omega)] at Dp
  exact Dp
end Go.Proofs.YtohgmogbabkkeaaGreat
end

section
namespace Go.Proofs.YtohgmogbabkkeaaGreat
open Go.Am Go.au Go.aC Go.bW
/-! ### marks of objects -/
def Tag (s:AS) (y g:Nat):Prop:=∃ cs,s.h y=some (.cells cs g false)
theorem Tag.uniq {s:AS} {y a b:Nat} (h:Tag s y a) (h':Tag s y b):a=b:=by
 obtain ⟨cs,h⟩:=h
 obtain ⟨cs',h'⟩:=h'
 rw [h] at h'
 simp only [Option.some.injEq,AO.cells.injEq] at h'
 exact h'.2.1
theorem bt.tag {α:Type} {f:α→List AV} {sz:Nat} {s:AS} {v:AV} {l:List α} (h:bt f sz s v l):∀ y∈ay v,Tag s y sz:=by
 intro y hy
 rcases h with ⟨_,a,rfl⟩ | ⟨la,rfl,h⟩
 ·simp [ay] at hy
 ·obtain rfl:y=la:=by simpa [ay] using hy
  exact ⟨_,h⟩
theorem Own.tag {s:AS} {l:Nat} {cs:List AV} (h:Am.Own s l cs):Tag s l 0:=⟨cs,h⟩
theorem Tag.there {s:AS} {y g:Nat} (h:Tag s y g):s.h y≠none:=by
 obtain ⟨cs,h⟩:=h
 rw [h];simp
theorem bt.eW {α:Type} {f:α→List AV} {sz:Nat} {s s':AS} {v:AV} {l:List α} {L:List Nat} (h:bt f sz s v l) (m:bD L s s') (hL:∀ y∈L,∀ g,Tag s y g→g≠sz):bt f sz s' v l :=
 h.mut m fun y hy hm=>hL y hm sz (bt.tag h y hy) rfl
theorem bt.lJ {α:Type} {f:α→List AV} {sz:Nat} {s:AS} {v:AV} {l:List α} (h:bt f sz s v l):∀ y∈ay v,s.h y≠none:=fun y hy=>(bt.tag h y hy).there
/-! ### events in memory of one's own -/
def kq (F:List Nat) (s:AS) (m:nE):Prop:=bt qH 1 s m.pv m.ev.vM∧bt rY 3 s m.tv m.ev.to∧∀ y,y∈ay m.pv∨y∈ay m.tv→y∈F
theorem kq.at {F:List Nat} {s:AS} {m:nE} (h:kq F s m):Cy s m:=⟨h.1.sl bT,h.2.1.sl d_⟩
theorem kq.mut {F:List Nat} {s s':AS} {m:nE} {L:List Nat} (h:kq F s m) (e:bD L s s') (hL:∀ y∈L,y ∉ F):kq F s' m :=
 ⟨h.1.mut e fun y hy hm=>hL y hm (h.2.2 y (.inl hy)),h.2.1.mut e fun y hy hm=>hL y hm (h.2.2 y (.inr hy)),h.2.2⟩
theorem kq.ext {F:List Nat} {s s':AS} {m:nE} (h:kq F s m) (e:Ext s s'):kq F s' m:=h.mut (L:=[]) e.mut (by simp)
theorem kq.sub {F F':List Nat} {s:AS} {m:nE} (h:kq F s m) (hF:∀ y∈F,y∈F'):kq F' s m:=⟨h.1,h.2.1,fun y hy=>hF y (h.2.2 y hy)⟩
theorem kq.eW {F:List Nat} {s s':AS} {m:nE} {L:List Nat} (h:kq F s m) (e:bD L s s') (hL:∀ y∈L,∀ g,Tag s y g→g≠1∧g≠3):kq F s' m :=
 ⟨bt.eW h.1 e fun y hy g t=>(hL y hy g t).1,bt.eW h.2.1 e fun y hy g t=>(hL y hy g t).2,h.2.2⟩
def nE.set (m:nE) (v w:AV) (h1:v.one=true) (h2:w.one=true):nE:=⟨m.ev,v,w,m.len,h1,h2⟩
theorem abD (m:nE) (v w:AV) (h1:v.one=true) (h2:w.one=true):((ig m).set 3 v).set 20 w=ig (m.set v w h1 h2):=by
 have hl:=m.len
 simp only [ig,nE.set]
 rw [List.set_append,if_pos (by simp),List.set_append,if_neg (by simp)]
 simp [List.set_append,hl]
theorem oC:C5 T bO g_ 21 208:=⟨ef,Bx,aaO,⟨_,_,OR,rfl,rfl⟩,by decide,by decide⟩
theorem gP:C5 T bp bg 16 128:=⟨dB,uf,Yu,⟨_,_,U5,rfl,rfl⟩,by decide,by decide⟩
theorem We {s:AS} {v:AV} {l:List GY} (hl:Sl rY 3 s v l) (hn:l.length≤2 ^ 30):aa Tryz.prog bE [v] s fun r s'=>aT rY 3 [] s s' r l:=by
 refine aa.pre fun hw=>qB _ _ _ ?_
 have main:aR (cZ T bR 0 []) fun g2=>aj (.cells g2 0 false) s fun l3 s4=>iG (aJ T bR bR (.slc (some (l3,0)) 0 0 true) v s4) fun v5 s6=>aT rY 3 [] s s6 v5 l:=by
  refine ⟨_,Bo uy,aj.intro hw rfl fun l3 s4 F=>?_⟩
  refine aT.kU uy d_ ux F.wf (aT.start (M:=[]) F.ext.mut) (by simp) (hl.ext F.ext) (by simpa using hn) fH fun v' s' g _ _=>?_
  simpa using g
 rcases hl with ⟨rfl,_,sM⟩ | ⟨a,c,e,rfl,hlen,h3⟩
 ·refine ⟨_,si fH _ _ _ _,af.no rfl main⟩
 ·refine ⟨_,sg fH _ _ _ _ _ _ _ _,af.mk (fun h=>?_) (fun _=>main)⟩
  have:a=none:=by simpa using h
  subst this
  have:l=[]:=by
   rcases h3 with h3 | ⟨la,o,C,h,_⟩
   ·exact List.length_eq_zero_iff.1 h3
   ·cases h
  subst this
  exact aT.nil
set_option maxRecDepth 20000 in
theorem IU {s:AS} {m:nE} (h:Cy s m) (h1:m.ev.vM.length≤2 ^ 30) (h2:m.ev.to.length≤2 ^ 30):aa Tryz.prog dX [.agg (ig m)] s fun r s'=>∃ (m':nE) (F:List Nat),m'.ev=m.ev∧r=.agg (ig m')∧kq F s' m'∧(∀ y∈F,s.h y=none)∧(∀ y∈F,s'.h y≠none)∧Ext s s':=by
 refine aa.pre fun hw=>MO _ _ _ ⟨dz m,aj.intro hw rfl fun l1 s2 F2=>aj.intro F2.wf rfl fun l3 s4 F4=>?_⟩
 have e4:=F2.ext.trans F4.ext
 have ev:=bq m
 have o1:=F2.own.ext F4.ext
 have h4:=h.ext e4
 have d13:l1≠l3:=fun e=>by
  have:=F4.no
  rw [← e,F2.own] at this;cases this
 refine ⟨fun q _ v s'=>(q=2→aT qH 1 [] s4 s' v m.ev.vM)∧(q=5→aT rY 3 [] s4 s' v m.ev.to),fun q _ v=>v.one=true,fun q _ v s s' e g=>⟨fun hq=>(g.1 hq).step e,fun hq=>(g.2 hq).step e⟩,m.pv,by rw [o1.at.av];rfl,fun s6 e6 w6 _=>?_,⟨_,m.p1⟩,fun v9 hv9=>⟨m.tv,by rw [o1.at.av,rM],fun fI QT YZ _=>?_,⟨_,m.t1⟩,fun tK Z0 f_ Lb w15 hS=>?_⟩⟩
 ·refine (D9 (h4.1.ext e6) h1).mono ?_
  intro v s' g
  exact ⟨g.eG.ext,⟨(fun _=>aT.back g e6),(fun h=>by cases h)⟩,g.iW.2⟩
 ·refine (We (h4.2.ext QT) h2).mono ?_
  intro v s' g
  exact ⟨g.eG.ext,⟨(fun h=>by cases h),(fun _=>aT.back g QT)⟩,g.iW.2⟩
 have g9:=hS.1.1 rfl
 have lY:=hS.2.1.2 rfl
 have n1:∀ {v:AV} {f:Nat},(∀ la∈ay v,s4.h la=none)→∀ y∈ay v,y ∉ [l1]:=fun h y hy hm=>by
  obtain rfl:=List.mem_singleton.1 hm
  have:=h y hy
  rw [o1] at this;cases this
 have n3:∀ {v:AV} {f:Nat},(∀ la∈ay v,s4.h la=none)→∀ y∈ay v,y ∉ [l3]:=fun h y hy hm=>by
  obtain rfl:=List.mem_singleton.1 hm
  have:=h y hy
  rw [F4.own] at this;cases this
 refine cL hv9 qP (bu.own w15 (o1.ext Lb) (by simp [ev]) fun lZ P17=>?_)
 have EI:Am.Own lZ l1 ((ig m).set 3 v9):=P17.at
 refine cL Z0 Yv (bu.own P17.wf EI (by simp [ev]) fun eC QY=>?_)
 have wz:Am.Own eC l1 (ig (m.set v9 tK hv9 Z0)):=by
  have:=QY.at
  rw [fk,abD m v9 tK hv9 Z0] at this;exact this
 have ev':=bq (m.set v9 tK hv9 Z0)
 have o3:=((F4.own.ext Lb).mut P17.mut (by simpa using Ne.symm d13)).mut QY.mut (by simpa using Ne.symm d13)
 refine ⟨_,wz.at.aB (by omega),?_⟩
 rw [gC]
 refine ⟨⟨dz _,by rw [ev']⟩,bu.own QY.wf o3 (by rw [ev'];simp) fun fN V7=>?_⟩
 have hP:=V7.at
 rw [dD (by rw [ev'];simp)] at hP
 refine ⟨_,At.aB ⟨_,_,hP⟩ (by omega),m.set v9 tK hv9 Z0,ay v9++ay tK,rfl,by rw [gC],⟨?_,?_,fun y hy=>List.mem_append.2 hy⟩,?_,?_,Ext.wr (Ext.wr (Ext.wr (e4.trans Lb) F2.no P17.mut) F2.no QY.mut) (F2.ext.none F4.no) V7.mut⟩
 ·exact ((g9.wq.mut P17.mut (n1 (f:=0) g9.new)).mut QY.mut (n1 (f:=0) g9.new)).mut V7.mut (n3 (f:=0) g9.new)
 ·exact ((lY.wq.mut P17.mut (n1 (f:=0) lY.new)).mut QY.mut (n1 (f:=0) lY.new)).mut V7.mut (n3 (f:=0) lY.new)
 ·intro y hy
  rcases List.mem_append.1 hy with hy | hy
  ·exact e4.none (g9.new y hy)
  ·exact e4.none (lY.new y hy)
 ·intro y hy
  rcases List.mem_append.1 hy with hy | hy
  ·exact bt.lJ (((g9.wq.mut P17.mut (n1 (f:=0) g9.new)).mut QY.mut (n1 (f:=0) g9.new)).mut V7.mut (n3 (f:=0) g9.new)) y hy
  ·exact bt.lJ (((lY.wq.mut P17.mut (n1 (f:=0) lY.new)).mut QY.mut (n1 (f:=0) lY.new)).mut V7.mut (n3 (f:=0) lY.new)) y hy
/-! ### the caster -/
structure iH where
 v:List Int
 log:List Ev
 NW:List (List Int)
 held:aK→Option Ev
 nh:Nat
def iH.zero:iH:=⟨eR,[],[],fun _=>none,0⟩
structure IV where
 v:List Int
 len:v.length=16
def rR (m:IV):List AV:=m.v.map (.int .u64)
theorem cI (m:IV):(rR m).length=16:=by simp [rR,m.len]
theorem mY (m:IV):(rR m).all AV.one=true:=cg _ _
def fZ (v:List Int) (lg bh hd:AV):List AV:=[.int .i64 3,.int .i64 1]++(v.map (.int .u64)++[lg,bh,hd])
def evA (m:nE):AV:=.agg (ig m)
structure jK (F:List Nat) (s:AS) (p:Nat) (c:iH):Prop where
 len:c.v.length=16
 mem:∃ (lg bh:AV) (hm:Nat) (L:List nE) (B:List IV) (es:List (aK×nE×Nat)) (k:Nat),
  Am.Own s p (fZ c.v lg bh (.map (some hm)))∧p∈F∧hm∈F ∧
  (bt ig 21 s lg L∧(∀ y∈ay lg,y∈F)∧L.map nE.ev=c.log∧∀ m∈L,kq F s m) ∧
  (bt rR 16 s bh B∧(∀ y∈ay bh,y∈F)∧B.map IV.v=c.NW) ∧
  eJ dK evA s hm es k false∧(∀ d,(dU es d).map nE.ev=c.held d)∧es.length=c.nh∧∀ e∈es,kq F s e.2.1
section
variable {F F':List Nat} {s s':AS} {p:Nat} {c:iH}
theorem jK.mut {L:List Nat} (h:jK F s p c) (m:bD L s s') (hL:∀ y∈L,y ∉ F):jK F s' p c:=by
 obtain ⟨hl,lg,bh,hm,L',B,es,k,h1,h2,h3,⟨a1,a2,a3,a4⟩,⟨b1,b2,b3⟩,c1,c2,c3,c4⟩:=h
 exact ⟨hl,lg,bh,hm,L',B,es,k,h1.mut m (fun hx=>hL p hx h2),h2,h3,⟨a1.mut m (fun y hy hx=>hL y hx (a2 y hy)),a2,a3,fun x hx=>(a4 x hx).mut m hL⟩,⟨b1.mut m (fun y hy hx=>hL y hx (b2 y hy)),b2,b3⟩,c1.mut m (fun hx=>hL hm hx h3),c2,c3,fun e he=>(c4 e he).mut m hL⟩
theorem jK.ext (h:jK F s p c) (e:Ext s s'):jK F s' p c:=h.mut (L:=[]) e.mut (by simp)
end
theorem pC {v:List Int} (h:v.length=16) (lg bh hd:AV):(fZ v lg bh hd).length=21:=by simp [fZ,h]
theorem NB {v:List Int} (h:v.length=16) (lg bh hd:AV) {i:Nat} (hi:i<16):(fZ v lg bh hd)[2+i]? = some (.int .u64 (v.getD i 0)):=by
 rw [fZ,List.getElem?_append_right (by simp),List.getElem?_append_left (by simp;omega),List.getElem?_map,List.getElem?_eq_getElem (by simp;omega),List.getD_eq_getElem?_getD]
 simp [List.getElem?_eq_getElem (show i<v.length by omega)]
theorem AF {v:List Int} (h:v.length=16) (lg bh hd:AV):(fZ v lg bh hd)[18]? = some lg∧(fZ v lg bh hd)[19]? = some bh∧(fZ v lg bh hd)[20]? = some hd:=by
 refine ⟨?_,?_,?_⟩ <;>
 ·rw [fZ,List.getElem?_append_right (by simp),List.getElem?_append_right (by simp;omega)]
  simp [h]
theorem CA {v:List Int} (h:v.length=16) (lg bh hd:AV):((fZ v lg bh hd).drop 2).take 16=v.map (.int .u64):=by
 rw [fZ,List.drop_append_of_le_length (by simp)]
 simp [List.take_append_of_le_length,h]
theorem Ls {v:List Int} (h:v.length=16) (lg bh hd:AV) {i:Nat} (hi:i<16) (x:Int):(fZ v lg bh hd).set (2+i) (.int .u64 x)=fZ (v.set i x) lg bh hd:=by
 rw [fZ,fZ,List.set_append,if_neg (by simp),List.set_append,if_pos (by simp;omega),List.map_set]
 simp
theorem Wg {v:List Int} (h:v.length=16) (lg bh hd lg' bh':AV):((fZ v lg bh hd).set 18 lg').set 19 bh'=fZ v lg' bh' hd:=by
 simp [fZ,List.set_append,h]
theorem Lu {t k e:TypeId} (hu:T.cM t=some (.map k e)) (r:Option Nat):iK T 100 t (.map r) (.map none)=some r.isNone:=by
 cases r <;> simp [iK,hu]
section
variable {F:List Nat} {s:AS} {p:Nat} {c:iH}
theorem yS (h:jK F s p c):aa Tryz.prog ec [.ptr (some (p,0))] s fun r s'=>r=.bool true∧s'=s:=by
 obtain ⟨hl,lg,bh,hm,L',B,es,k,h1,_⟩:=h
 exact y7 _ _ _ ⟨_,iI vZ _,af.yes rfl ⟨_,by rw [h1.at.av,(AF hl lg bh _).2.2],_,Lu zB _,rfl,rfl⟩⟩
theorem abE (h:jK F s p c):aa Tryz.prog mD [.ptr (some (p,0))] s fun r s'=>r=.int .i64 (c.log.length:Nat)∧s'=s:=by
 refine BQ _ _ _ ?_
 refine aa.use (yS h) ?_
 rintro v s2 ⟨rfl,rfl⟩ _
 obtain ⟨hl,lg,bh,hm,L',B,es,k,h1,_,_,⟨a1,_,a3,_⟩,_⟩:=h
 refine ⟨_,rfl,af.no rfl ⟨lg,by rw [h1.at.av,(AF hl lg bh _).1],_,(a1.sl bq).cG ef _,?_,rfl⟩⟩
 rw [← a3,List.length_map]
def oD (e:Ev):Bool:=tE e&&decide (e.id.r≤3)&&(e.jX.drop 3).all fun n=>decide (n=0)
set_option maxRecDepth 20000 in
theorem aea (h:jK F s p c) {m:nE} (hm:Cy s m):aa Tryz.prog mF [.ptr (some (p,0)),.agg (ig m)] s fun r s'=>r=.bool (oD m.ev)∧Ext s s':=by
 have ev:=bq m
 refine aa.pre fun hw=>BT _ _ _ _ ⟨dz m,aj.intro hw rfl fun l1 s2 F2=>⟨_,F2.own.at.aB (by omega),?_⟩⟩
 rw [gC]
 refine aa.use (abC (hm.ext F2.ext)) ?_
 rintro v4 s5 ⟨rfl,e5⟩ w5
 have E5:=F2.ext.trans e5
 obtain ⟨hl,lg,bh,vT,L',B,es,k,h1,_⟩:=h.ext E5
 have c5:=(F2.own.ext e5).at
 refine ⟨_,rfl,af.mk (fun hb=>⟨?_,E5⟩) (fun hb=>⟨m.ev.id.r,by rw [c5.av];rfl,3,by rw [h1.at.av];rfl,af.dec (fun hgt=>⟨?_,E5⟩) (fun hgt=>⟨m.ev.id.r,by rw [c5.av];rfl,?_⟩)⟩)⟩
 ·simp only [Bool.not_eq_true'] at hb
  simp [oD,hb]
 ·simp [oD,show ¬ m.ev.id.r≤3 by omega]
 have hmE:tE m.ev=true:=by simpa using hb
 have aeb:=hmE
 simp only [tE,Bool.and_eq_true] at aeb
 have hid:m.ev.id.may=true:=aeb.1.1.1.1.1.1
 have age:yu m.ev=true:=aeb.1.1.1.1.2
 obtain ⟨hr,Cz⟩:=Ea hid
 dsimp only
 rw [hr]
 have hx:ag T bg (.ptr (some (l1,4))) (.int .i64 ((m.ev.id.r.toNat - 1:Nat):Int))=some (.ptr (some (l1,4+(m.ev.id.r.toNat - 1)))):=by
  rw [WY (by omega)];simp
 have hall:(m.ev.jX.drop 3).all (fun n=>decide (n=0))=oD m.ev:=by simp [oD,hmE,show m.ev.id.r≤3 by omega]
 refine ⟨_,_,hx,_,by rw [c5.av,Cx m Cz],m.ev.id.c,by rw [c5.av];rfl,af.no (bne_eq_false_iff_eq.2 (of_decide_eq_true age)) ⟨3,by rw [h1.at.av];rfl,?_⟩⟩
 have hml:=m.len
 have agf:(m.ev.jX.drop 3).length=13:=by rw [List.length_drop];omega
 have UX:aY T bg (.ptr (some (l1,4))) (some (.int .i64 3)) none none=some (.slc (some (l1,7)) 13 13 true):=by
  simp only [aY,xP,jB,Option.bind_some]
  rfl
 have hS:Sl yc 1 s5 (.slc (some (l1,7)) 13 13 true) (m.ev.jX.drop 3):=by
  have hf:∀ v:List Int,v.flatMap yc=v.map (.int .u64):=fun v=>by
   induction v with
   | nil=>rfl
   | cons x xs ih=>rw [List.flatMap_cons,ih];rfl
  refine (bZ.mk (n:=13) (c:=13) c5 (by rw [hf,List.length_map,agf]) ?_) |> (agf ▸ ·)
  have:=Uj m
  rw [hf,List.map_drop,← this,List.drop_take,List.drop_drop]
 refine ⟨_,UX,_,hS.cG jC _,fun m' vs s'=>∃ i:Nat,vs=[.int .i64 (i:Nat)]∧i≤(m.ev.jX.drop 3).length∧m'=(m.ev.jX.drop 3).length - i∧s'=s5∧((m.ev.jX.drop 3).take i).all (fun n=>decide (n=0))=true,(m.ev.jX.drop 3).length,⟨0,rfl,by omega,rfl,rfl,rfl⟩,?_⟩
 rintro m' n dM ⟨i,hi,h6,rfl,rfl,TH⟩
 simp only [List.cons.injEq,AV.int.injEq,true_and,and_true] at hi
 subst hi
 refine af.dec (fun hlt=>?_) (fun hge=>⟨?_,E5⟩)
 ·obtain ⟨y,hy⟩:=cW (l:=m.ev.jX.drop 3) (i:=i) (by omega)
  obtain ⟨la,o,h8,h9⟩:=hS.ix (by decide) uA jC jB hy
  refine ⟨la,o,h8 _,y,by simpa [yc] using (h9 _ (Ext.refl _)).1 0 (by decide),af.mk (fun h0=>⟨?_,E5⟩) (fun h0=>⟨(m.ev.jX.drop 3).length - (i+1),by omega,i+1,by rw [Cp (by omega)],by omega,rfl,rfl,?_⟩)⟩
  ·rw [← hall]
   congr 1
   symm
   rw [List.all_eq_false]
   exact ⟨y,List.mem_of_getElem? hy,by simpa using h0⟩
  ·rw [List.take_add_one,hy,List.all_append,TH]
   simpa using h0
 ·rw [List.take_of_length_le (by omega)] at TH
  rw [← hall,TH]
end
end Go.Proofs.YtohgmogbabkkeaaGreat
end

section
namespace Go.Proofs.YtohgmogbabkkeaaGreat
open Go.Am Go.au Go.aC Go.bW
def yw (p:Nat) (s s':AS):Prop:=∀ l cs g,s.h l=some (.cells cs g false)→g≠21→g≠16→(g=0→l≠p)→s'.h l=some (.cells cs g false)
theorem yw.trans {p:Nat} {a b c:AS} (h:yw p a b) (h':yw p b c):yw p a c:=fun l cs g e h1 h2 h3=>h' l cs g (h l cs g e h1 h2 h3) h1 h2 h3
theorem Ext.eW {p:Nat} {a b:AS} (h:Ext a b):yw p a b:=fun l cs g e _ _ _=>h.1 l _ e
theorem bt.Uk {α:Type} {f:α→List AV} {sz p:Nat} {s s':AS} {v:AV} {l:List α} (h:bt f sz s v l) (k:yw p s s') (h1:sz≠21) (h2:sz≠16) (h3:sz≠0):bt f sz s' v l:=by
 rcases h with ⟨h,a,rfl⟩ | ⟨la,rfl,h⟩
 ·exact .inl ⟨h,a,rfl⟩
 ·exact .inr ⟨la,rfl,k _ _ _ h h1 h2 (fun e=>absurd e h3)⟩
def NX (m:nE):List Nat:=ay m.pv++ay m.tv
theorem kq.NX {F:List Nat} {s:AS} {m:nE} (h:kq F s m):∀ y∈NX m,s.h y≠none:=fun y hy=>by
 rcases List.mem_append.1 hy with hy | hy
 ·exact bt.lJ h.1 y hy
 ·exact bt.lJ h.2.1 y hy
theorem jK.NC {F:List Nat} {s:AS} {p:Nat} {c:iH} (h:jK F s p c):∃ F0,jK F0 s p c∧(∀ y∈F0,y∈F)∧(∀ y∈F0,s.h y≠none)∧∀ y∈F0,y≠p→¬ Tag s y 0:=by
 obtain ⟨hl,lg,bh,hm,L,B,es,k,h1,h2,h3,⟨a1,a2,a3,a4⟩,⟨b1,b2,b3⟩,c1,c2,c3,c4⟩:=h
 refine ⟨p::hm::(ay lg++(ay bh++(L.flatMap NX++es.flatMap fun e=>NX e.2.1))),⟨hl,lg,bh,hm,L,B,es,k,h1,by simp,by simp,⟨a1,fun y hy=>by simp [hy],a3,fun m hm=>⟨(a4 m hm).1,(a4 m hm).2.1,fun y hy=>?_⟩⟩,⟨b1,fun y hy=>by simp [hy],b3⟩,c1,c2,c3,fun e he=>⟨(c4 e he).1,(c4 e he).2.1,fun y hy=>?_⟩⟩,?_,?_,?_⟩
 ·have:y∈L.flatMap NX:=List.mem_flatMap.2 ⟨m,hm,List.mem_append.2 hy⟩
  simp [this]
 ·have:y∈es.flatMap fun e=>NX e.2.1:=List.mem_flatMap.2 ⟨e,he,List.mem_append.2 hy⟩
  simp only [List.mem_cons,List.mem_append,this,or_true]
 ·intro y hy
  simp only [List.mem_cons,List.mem_append] at hy
  rcases hy with rfl | rfl | hy | hy | hy | hy
  ·exact h2
  ·exact h3
  ·exact a2 y hy
  ·exact b2 y hy
  ·obtain ⟨m,hm,hy⟩:=List.mem_flatMap.1 hy
   exact (a4 m hm).2.2 y (List.mem_append.1 hy)
  ·obtain ⟨e,he,hy⟩:=List.mem_flatMap.1 hy
   exact (c4 e he).2.2 y (List.mem_append.1 hy)
 ·intro y hy
  simp only [List.mem_cons,List.mem_append] at hy
  rcases hy with rfl | rfl | hy | hy | hy | hy
  ·rw [h1];simp
  ·rw [c1.obj];simp
  ·exact bt.lJ a1 y hy
  ·exact bt.lJ b1 y hy
  ·obtain ⟨m,hm,hy⟩:=List.mem_flatMap.1 hy
   exact (a4 m hm).NX y hy
  ·obtain ⟨e,he,hy⟩:=List.mem_flatMap.1 hy
   exact (c4 e he).NX y hy
 ·intro y hy hne ht
  have ev0:∀ {F:List Nat} {m:nE},kq F s m→y∈NX m→False:=fun h hy=>by
   rcases List.mem_append.1 hy with hy | hy
   ·have:=ht.uniq (bt.tag h.1 y hy);omega
   ·have:=ht.uniq (bt.tag h.2.1 y hy);omega
  simp only [List.mem_cons,List.mem_append] at hy
  rcases hy with rfl | rfl | hy | hy | hy | hy
  ·exact hne rfl
  ·obtain ⟨cs,ht⟩:=ht
   rw [c1.obj] at ht;cases ht
  ·have:=ht.uniq (bt.tag a1 y hy);omega
  ·have:=ht.uniq (bt.tag b1 y hy);omega
  ·obtain ⟨m,hm,hy⟩:=List.mem_flatMap.1 hy
   exact ev0 (a4 m hm) hy
  ·obtain ⟨e,he,hy⟩:=List.mem_flatMap.1 hy
   exact ev0 (c4 e he) hy
theorem jK.tight {F:List Nat} {s:AS} {p:Nat} {c:iH} (h:jK F s p c):∃ F0,jK F0 s p c∧(∀ y∈F0,y∈F)∧∀ y∈F0,s.h y≠none:=by
 obtain ⟨F0,h1,h2,h3,_⟩:=h.NC
 exact ⟨F0,h1,h2,h3⟩
theorem Wh (hm:Nat):aU T tg [(0,.int .i64 3),(1,.int .i64 1),(5,.map (some hm))]=some (.agg (fZ eR (.slc none 0 0 true) (.slc none 0 0 true) (.map (some hm)))):=by kernel_rfl
theorem abF (s:AS):aa Tryz.prog zY [.int .i64 3,.int .i64 1] s fun r s'=>∃ p F,r=.aQ [.ptr (some (p,0)),.int .i64 0]∧jK F s' p iH.zero∧(∀ y∈F,s.h y=none)∧(∀ y∈F,s'.h y≠none)∧Ext s s':=by
 refine aa.pre fun hw=>Sn _ _ _ _ ⟨fun vs s'=>vs=[.bool false]∧s'=s,?_,af.no rfl (af.no rfl (af.no rfl ⟨rfl,rfl⟩))⟩
 rintro b s3 ⟨hb,rfl⟩
 obtain rfl:b=false:=by simpa using hb
 refine af.no rfl (aj.intro hw rfl fun l4 s5 F5=>⟨_,Wh l4,rfl,aj.intro F5.wf rfl fun l7 s8 F8=>⟨l7,[l7,l4],rfl,⟨rfl,_,_,l4,[],[],[],0,F8.own,by simp,by simp,⟨bt.nil,by simp [ay],rfl,by simp⟩,⟨bt.nil,by simp [ay],rfl⟩,eJ.new (F8.ext.1 _ _ F5.at),fun d=>rfl,rfl,by simp⟩,?_,?_,F5.ext.trans F8.ext⟩⟩)
 ·intro y hy
  simp only [List.mem_cons,List.not_mem_nil,or_false] at hy
  rcases hy with rfl | rfl
  ·exact F5.ext.none F8.no
  ·exact F5.no
 ·intro y hy
  simp only [List.mem_cons,List.not_mem_nil,or_false] at hy
  rcases hy with rfl | rfl
  ·rw [F8.at];simp
  ·rw [F8.ext.1 _ _ F5.at];simp
theorem bt.IW {α:Type} {f:α→List AV} {sz:Nat} (hf:∀ x,(f x).length=sz) (hz:0<sz) {s:AS} {v v':AV} {l l':List α} (h:bt f sz s v l) (h':bt f sz s v' l') (hl:l.length≠l'.length):∀ y∈ay v,y ∉ ay v':=by
 intro y hy hy'
 rcases h with ⟨_,a,rfl⟩ | ⟨la,rfl,h⟩
 ·simp [ay] at hy
 rcases h' with ⟨_,a,rfl⟩ | ⟨lb,rfl,h'⟩
 ·simp [ay] at hy'
 simp only [ay,List.mem_singleton] at hy hy'
 subst hy;subst hy'
 rw [h] at h'
 simp only [Option.some.injEq,AO.cells.injEq] at h'
 have:=congrArg List.length h'.1
 rw [dS hf,dS hf] at this
 exact hl (Nat.eq_of_mul_eq_mul_right hz this)
theorem bt.one {α:Type} {f:α→List AV} {sz:Nat} {s:AS} {v:AV} {l:List α} (h:bt f sz s v l):v.one=true:=by
 rcases h with ⟨_,a,rfl⟩ | ⟨la,rfl,_⟩ <;> rfl
def iH.apply (c:iH) (e:Ev):iH:={ c with
 v:=c.v.set (e.id.r.toNat - 1) (IntKind.wrap .u64 (c.v.getD (e.id.r.toNat - 1) 0+1))
 log:=c.log++[e]
 NW:=c.NW++[c.v.set (e.id.r.toNat - 1) (IntKind.wrap .u64 (c.v.getD (e.id.r.toNat - 1) 0+1))] }
theorem Eb {α:Type} {f:α→List AV} {sz:Nat} (hf:∀ x,(f x).length=sz) {s:AS} {l:Nat} {x:α} (h:At s l (f x)):Sl f sz s (.slc (some (l,0)) 1 1 true) [x] :=
 bZ.mk h (by simp [hf]) (by simp [List.take_of_length_le,hf])
set_option maxRecDepth 20000 in
theorem Z1 {F G:List Nat} {s:AS} {p:Nat} {c:iH} {m:nE} (h:jK F s p c) (hm:kq G s m) (hid:m.ev.id.may=true) (hn:c.log.length+1≤2 ^ 29) (hn2:c.NW.length+1≤2 ^ 29) :
  aa Tryz.prog ki [.ptr (some (p,0)),.agg (ig m)] s fun r s'=>r=.aQ []∧∃ F',jK F' s' p (c.apply m.ev)∧bD F s s'∧(∀ y∈F',y∈F∨y∈G∨s.h y=none)∧(∀ y∈F',s'.h y≠none)∧yw p s s':=by
 have ev:=bq m
 refine aa.pre fun hw=>y_ _ _ _ _ ⟨dz m,aj.intro hw rfl fun l1 s2 F2=>⟨m.ev.id.r,by rw [F2.own.at.av];rfl,?_⟩⟩
 obtain ⟨hl,lg,bh,vT,L,B,es,k,h1,h2,h3,⟨a1,a2,a3,a4⟩,⟨b1,b2,b3⟩,c1,c2,c3,c4⟩:=id h
 obtain ⟨hr,Cz⟩:=Ea hid
 have hLn:L.length=c.log.length:=by rw [← a3,List.length_map]
 have hBn:B.length=c.NW.length:=by rw [← b3,List.length_map]
 dsimp only
 rw [hr]
 generalize hi:m.ev.id.r.toNat - 1=i at Cz ⊢
 have o2:=h1.ext F2.ext
 have hx:ag T bg (.ptr (some (p,0+2))) (.int .i64 ((i:Nat):Int))=some (.ptr (some (p,2+i))):=by
  rw [WY (by omega)];simp
 have yB:=pC hl lg bh (.map (some vT))
 refine ⟨_,_,hx,_,by rw [o2.at.av,NB hl lg bh _ Cz],_,_,hx,bu.own F2.wf o2 (by rw [yB];simp;omega) fun bS P13=>?_⟩
 generalize pM:c.v.set i (IntKind.wrap .u64 (c.v.getD i 0+1))=v'
 have hvl:v'.length=16:=by rw [← pM,List.length_set,hl]
 have wj:Am.Own bS p (fZ v' lg bh (.map (some vT))):=by
  have:=P13.at
  rw [fk,Ls hl lg bh _ Cz,pM] at this;exact this
 have Z2:=pC hvl lg bh (.map (some vT))
 have WX:bD [p] s bS:=F2.ext.mut.trans P13.mut
 have d1:l1≠p:=fun e=>by
  have:=F2.no
  rw [e,h1] at this;cases this
 have q13:Am.Own bS l1 (ig m):=F2.own.mut P13.mut (by simpa using d1)
 have t0:∀ y∈[p],∀ g,Tag s y g→g=0:=fun y hy g t=>by
  obtain rfl:=List.mem_singleton.1 hy
  exact t.uniq (Own.tag h1)
 have a13:bt ig 21 bS lg L:=bt.eW a1 WX fun y hy g t=>by rw [t0 y hy g t];decide
 have Jk:bt rR 16 bS bh B:=bt.eW b1 WX fun y hy g t=>by rw [t0 y hy g t];decide
 have ta:=bt.tag a13
 have tb:=bt.tag Jk
 have tL:∀ y∈ay lg++ay bh,∃ g,Tag bS y g∧(g=21∨g=16):=fun y hy=>by
  rcases List.mem_append.1 hy with hy | hy
  ·exact ⟨21,ta y hy,.inl rfl⟩
  ·exact ⟨16,tb y hy,.inr rfl⟩
 have hs:=AF hvl lg bh (.map (some vT))
 let vm:IV:=⟨v',hvl⟩
 refine ⟨fun a b=>(∀ l cs,Am.Own a l cs→Am.Own b l cs)∧(∀ v,bt ig 21 a v (L++[m])→bt ig 21 b v (L++[m]))∧bD (ay lg++ay bh) a b,fun q _ v s'=>(q=8→bt rR 16 s' bh B)∧(q=18→bt rR 16 s' v (B++[vm])),fun s'=>bt ig 21 s' lg L∧bt rR 16 s' bh B,
  fun q _ v s'=>(q=7→∃ l,v=.slc (some (l,0)) 1 1 true∧Am.Own s' l (ig m))∧(q=8→bt ig 21 s' v (L++[m])∧∀ y∈ay v,y∈ay lg++ay bh∨bS.h y=none)∧(q=17→∃ l,v=.slc (some (l,0)) 1 1 true∧Am.Own s' l (rR vm))∧(q=18→∀ y∈ay v,y∈ay lg++ay bh∨bS.h y=none),
  fun q _ v=>(q=8∨q=18→v.one=true),fun a b e=>⟨fun l cs o=>o.ext e,fun v g=>g.ext e,e.mut⟩,fun a b c x y=>⟨fun l cs o=>y.1 l cs (x.1 l cs o),fun v g=>y.2.1 v (x.2.1 v g),x.2.2.trans y.2.2⟩,fun q _ v a b e g=>⟨fun hq=>(g.1 hq).ext e,fun hq=>(g.2 hq).ext e⟩,?_,fun a b e g=>⟨g.1.ext e,g.2.ext e⟩,⟨a13,Jk⟩,?_⟩
 ·rintro q ks v a b ⟨x1,x2,_⟩ ⟨g1,g2,g3,g4⟩
  refine ⟨fun hq=>?_,fun hq=>⟨x2 v (g2 hq).1,(g2 hq).2⟩,fun hq=>?_,g4⟩
  ·obtain ⟨l,e,hA⟩:=g1 hq
   exact ⟨l,e,x1 _ _ hA⟩
  ·obtain ⟨l,e,hA⟩:=g3 hq
   exact ⟨l,e,x1 _ _ hA⟩
 have r18:∀ s',Am.Own s' p (fZ v' lg bh (.map (some vT)))→av s' p (0+18)=some lg:=fun s' o=>by rw [o.at.av];exact hs.1
 have T4:∀ s',Am.Own s' p (fZ v' lg bh (.map (some vT)))→av s' p (0+19)=some bh:=fun s' o=>by rw [o.at.av];exact hs.2.1
 have rl:∀ s',Am.Own s' l1 (ig m)→aB s' l1 0 21=some (ig m):=fun s' o=>by rw [o.at.aB (by omega),gC]
 have rv:∀ s',Am.Own s' p (fZ v' lg bh (.map (some vT)))→aB s' p (0+2) 16=some (rR vm):=fun s' o=>by rw [o.at.aB (by rw [Z2];omega),CA hvl];rfl
 have new:∀ {s':AS} {y:Nat},bD (ay lg++ay bh) bS s'→s'.h y=none→y∈ay lg++ay bh∨bS.h y=none:=fun {s' y} mm hn=>by
  by_cases hy:y∈ay lg++ay bh
  ·exact .inl hy
  ·right
   cases hq:bS.h y with
   | none=>rfl
   | some o=>rw [mm.1 y o hy hq] at hn;cases hn
 refine ⟨fun s' _ _=>rfl,_,r18 _ wj,fun s' x _=>⟨_,r18 _ (x.1 _ _ wj),rfl⟩,_,rl _ q13,fun s' x _=>⟨_,rl _ (x.1 _ _ q13),rfl⟩,fun dM x25 H8 _=>⟨_,kD oC (bq m) (dz m),aj.intro H8 rfl fun GR rA F28=>⟨F28.ext,⟨(fun _=>⟨GR,rfl,F28.own⟩),(fun h=>by cases h),(fun h=>by cases h),(fun h=>by cases h)⟩,(fun h=>by rcases h with h | h <;> cases h)⟩⟩,⟨.bad,(fun h=>by rcases h with h | h <;> cases h)⟩,fun mb _=>⟨fun kL x30 NT hS hc=>?_,⟨.nilFunc,fun _=>rfl⟩,fun qk aec=>⟨fun s' _ _=>rfl,_,T4 _ wj,fun s' x _=>⟨_,T4 _ (x.1 _ _ wj),rfl⟩,fun s' _ _=>rfl,_,rv _ wj,fun s' x _=>⟨_,rv _ (x.1 _ _ wj),rfl⟩,fun pG x50 w50 _=>⟨_,kD gP (cI vm) (mY vm),aj.intro w50 rfl fun WQ K9 F53=>⟨F53.ext,⟨(fun h=>by cases h),(fun h=>by cases h),(fun _=>⟨WQ,rfl,F53.own⟩),(fun h=>by cases h)⟩,(fun h=>by rcases h with h | h <;> cases h)⟩⟩,⟨.bad,(fun h=>by rcases h with h | h <;> cases h)⟩,fun GS _=>⟨fun JC x55 w55 hS hc=>?_,⟨.nilFunc,fun _=>rfl⟩,fun CO ai9=>⟨fun s' _ _=>rfl,fun JZ x64 w64 hS hC=>?_⟩⟩⟩⟩⟩
 ·obtain ⟨l,rfl,hA⟩:=hS.1.1 rfl
  obtain ⟨ga,gb⟩:=hc
  obtain ⟨v',s',e1,g1,m1,_,n1⟩:=bt.append oC bq dz NT ga (Eb bq hA.at) (by simp;omega) ef
  have t1:=bt.tag ga
  refine ⟨v',s',e1,⟨⟨fun l cs o=>o.mut m1 fun hy=>?_,fun v g=>g.mut m1 (bt.IW bq (by decide) g ga (by simp)),m1.mono fun y hy=>List.mem_append_left _ hy⟩,(fun _=>gb.mut m1 fun y hy hx=>?_),(fun h=>by cases h)⟩,⟨(fun h=>by cases h),(fun _=>⟨g1,fun y hy=>?_⟩),(fun h=>by cases h),(fun h=>by cases h)⟩,fun _=>bt.one g1⟩
  ·have:=(t1 _ hy).uniq (Own.tag o);omega
  ·have:=(t1 _ hx).uniq (bt.tag gb y hy);omega
  ·rcases n1 y hy with h | h
   ·exact .inl (List.mem_append_left _ h)
   ·exact new x30.2.2 h
 ·obtain ⟨l,rfl,hA⟩:=hS.2.2.1.2.2.1 rfl
  have gb:=hc.1 rfl
  obtain ⟨v',s',e1,g1,m1,_,n1⟩:=bt.append gP cI mY w55 gb (Eb cI hA.at) (by simp;omega) dB
  have t1:=bt.tag gb
  refine ⟨v',s',e1,⟨⟨fun l cs o=>o.mut m1 fun hy=>?_,fun v g=>g.mut m1 fun y hy hx=>?_,m1.mono fun y hy=>List.mem_append_right _ hy⟩,(fun h=>by cases h),(fun _=>g1)⟩,⟨(fun h=>by cases h),(fun h=>by cases h),(fun h=>by cases h),(fun _ y hy=>?_)⟩,fun _=>bt.one g1⟩
  ·have:=(t1 _ hy).uniq (Own.tag o);omega
  ·have:=(t1 _ hx).uniq (bt.tag g y hy);omega
  ·rcases n1 y hy with h | h
   ·exact .inl (List.mem_append_right _ h)
   ·exact new x55.2.2 h
 ·obtain ⟨_,⟨_,h8,_⟩,_,⟨_,_,_,h18⟩,_⟩:=hS
  obtain ⟨WN,Mn⟩:=h8 rfl
  have n58:=h18 rfl
  have g58:=hC.2 rfl
  have o64:=x64.1 _ _ wj
  refine cL (aec (.inl rfl)) yK (bu.own w64 o64 (by simp [Z2]) fun s65 P65=>?_)
  have o65:Am.Own s65 p ((fZ v' lg bh (.map (some vT))).set 18 qk):=P65.at
  refine cL (ai9 (.inr rfl)) rz (bu.own P65.wf o65 (by simp [Z2]) fun QX P68=>⟨rfl,?_⟩)
  have o68:Am.Own QX p (fZ v' qk CO (.map (some vT))):=by
   have:=P68.at
   rw [fk,Wg hvl] at this;exact this
  have M68:bD [p] JZ QX:=P65.mut.trans P68.mut
  have t64:∀ y∈[p],∀ g,Tag JZ y g→g=0:=fun y hy g t=>by
   obtain rfl:=List.mem_singleton.1 hy
   exact t.uniq (Own.tag o64)
  have MA:bD (p::(ay lg++ay bh)) s QX:=((WX.mono (by simp)).trans (x64.2.2.mono (fun y hy=>List.mem_cons_of_mem _ hy))).trans (M68.mono (by simp))
  have tA:∀ y∈p::(ay lg++ay bh),∀ g,Tag s y g→g=0∨g=21∨g=16:=fun y hy g t=>by
   rcases List.mem_cons.1 hy with rfl | hy
   ·exact .inl (t.uniq (Own.tag h1))
   ·rcases List.mem_append.1 hy with hy | hy
    ·exact .inr (.inl (t.uniq (bt.tag a1 y hy)))
    ·exact .inr (.inr (t.uniq (bt.tag b1 y hy)))
  have kE:∀ {X:List Nat} {x:nE},kq X s x→kq X QX x:=fun hx=>hx.eW MA fun y hy g t=>by rcases tA y hy g t with h | h | h <;> omega
  have hin:∀ y,y∈ay lg++ay bh∨bS.h y=none→y∈F∨s.h y=none:=fun y hy=>by
   rcases hy with hy | hy
   ·rcases List.mem_append.1 hy with hy | hy
    ·exact .inl (a2 y hy)
    ·exact .inl (b2 y hy)
   ·right
    cases hq:s.h y with
    | none=>rfl
    | some o =>
     by_cases hyp:y=p
     ·subst hyp;rw [wj] at hy;cases hy
     ·rw [WX.1 y o (by simpa using hyp) hq] at hy;cases hy
  have hC':jK (ay qk++(ay CO++(F++G))) QX p (c.apply m.ev):=by
   refine ⟨by simp [iH.apply,hl],qk,CO,vT,L++[m],B++[vm],es,k,?_,by simp [h2],by simp [h3],⟨bt.eW WN M68 fun y hy g t=>by rw [t64 y hy g t];decide,fun y hy=>by simp [hy],by simp [iH.apply,a3],fun x hx=>?_⟩,⟨bt.eW g58 M68 fun y hy g t=>by rw [t64 y hy g t];decide,fun y hy=>by simp [hy],?_⟩,c1.mut MA ?_,c2,c3,fun e he=>(kE (c4 e he)).sub fun y hy=>by simp [hy]⟩
   ·simp only [iH.apply,hi,pM];exact o68
   ·rcases List.mem_append.1 hx with hx | hx
    ·exact (kE (a4 x hx)).sub fun y hy=>by simp [hy]
    ·obtain rfl:=List.mem_singleton.1 hx
     exact (kE hm).sub fun y hy=>by simp [hy]
   ·simp only [iH.apply,hi,pM,List.map_append,b3];rfl
   ·intro hy
    have:∀ g,¬ Tag s vT g:=fun g ⟨cs,t⟩=>by rw [c1.obj] at t;cases t
    rcases List.mem_cons.1 hy with rfl | hy
    ·exact this _ (Own.tag h1)
    ·rcases List.mem_append.1 hy with hy | hy
     ·exact this _ (bt.tag a1 _ hy)
     ·exact this _ (bt.tag b1 _ hy)
  obtain ⟨F0,hF0,hsub,As⟩:=hC'.tight
  refine ⟨F0,hF0,MA.mono fun y hy=>?_,fun y hy=>?_,As,fun l cs g hl wC EH g0=>MA.1 l _ (fun hm=>?_) hl⟩
  rotate_right
  ·rcases List.mem_cons.1 hm with rfl | hm
   ·exact g0 (Tag.uniq ⟨cs,hl⟩ (Own.tag h1)) rfl
   ·rcases List.mem_append.1 hm with hm | hm
    ·exact wC (Tag.uniq ⟨cs,hl⟩ (bt.tag a1 _ hm))
    ·exact EH (Tag.uniq ⟨cs,hl⟩ (bt.tag b1 _ hm))
  ·rcases List.mem_cons.1 hy with rfl | hy
   ·exact h2
   ·rcases List.mem_append.1 hy with hy | hy
    ·exact a2 y hy
    ·exact b2 y hy
  ·have:=hsub y hy
   simp only [List.mem_append] at this
   rcases this with h | h | h | h
   ·rcases hin y (Mn y h) with h | h
    ·exact .inl h
    ·exact .inr (.inr h)
   ·rcases hin y (n58 y h) with h | h
    ·exact .inl h
    ·exact .inr (.inr h)
   ·exact .inl h
   ·exact .inr (.inl h)
end Go.Proofs.YtohgmogbabkkeaaGreat
end

section
namespace Go.Proofs.YtohgmogbabkkeaaGreat
open Go.Am Go.au Go.aC Go.bW
theorem Z3 {v:List Int} (h:v.length=16):∃ a b c d e f g i j k l m n o p q:Int,v=[a,b,c,d,e,f,g,i,j,k,l,m,n,o,p,q]:=by
 match v,h with
 | [a,b,c,d,e,f,g,i,j,k,l,m,n,o,p,q],_=>exact ⟨a,b,c,d,e,f,g,i,j,k,l,m,n,o,p,q,rfl⟩
theorem Qo {id:aK} {dL:List UInt8} {pv tv:AV} {jX:List Int} (hl:jX.length=16) (h1:pv.one=true) (h2:tv.one=true):aU T g_ [(0,.agg (aN id)),(1,.str dL),(2,pv),(3,.agg (jX.map (.int .u64))),(4,tv)]=some (.agg ([.int .i64 id.r,.int .u64 id.c,.str dL,pv]++(jX.map (.int .u64)++[tv]))):=by
 obtain ⟨a,b,c,d,e,f,g,i,j,k,l,m,n,o,p,q,rfl⟩:=Z3 hl
 have e1:∀ v:AV,v.one=true→bJ v=some [v]:=fun v hv=>by cases v <;> first | rfl | cases hv
 rw [qO (pl:=[(0,2),(2,1),(3,1),(4,16),(20,1)]) (by kernel_rfl) OR rfl]
 have q1:bJ (.agg (aN id))=some [.int .i64 id.r,.int .u64 id.c]:=rfl
 have q2:bJ (.str dL)=some [.str dL]:=rfl
 have q3:bJ (.agg ([a,b,c,d,e,f,g,i,j,k,l,m,n,o,p,q].map (AV.int .u64)))=some ([a,b,c,d,e,f,g,i,j,k,l,m,n,o,p,q].map (AV.int .u64)):=rfl
 simp only [List.map_cons,List.map_nil] at q3 ⊢
 simp only [jc,AV.cells,e1 _ h1,e1 _ h2,q1,q2,q3,List.getElem?_cons_zero,List.getElem?_cons_succ,List.length_cons,List.length_nil,List.length_map,Nat.zero_add,Nat.reduceAdd,Nat.reduceLeDiff,and_self,if_true,qJ,List.set_cons_zero,List.set_cons_succ,List.map_cons,List.map_nil,Option.map_some,List.cons_append,List.nil_append]
def NY:List AV:=[.int .i64 0,.int .u64 0,.str [],.slc none 0 0 true,.int .u64 0,.int .u64 0,.int .u64 0,.int .u64 0,.int .u64 0,.int .u64 0,.int .u64 0,.int .u64 0,.int .u64 0,.int .u64 0,.int .u64 0,.int .u64 0,.int .u64 0,.int .u64 0,.int .u64 0,.int .u64 0,.slc none 0 0 true]
theorem Lv:aU T g_ []=some (.agg NY):=by kernel_rfl
theorem IX {s4 s7:AS} {l1:Nat} {g C:List AV} (hg:g.length=21) (hC:C.length=21) (P:Put s4 s7 l1 (.cells (qJ C 0 g) 0 false)):Am.Own s7 l1 g∧aB s7 l1 0 21=some g:=by
 have hP:=P.at
 rw [dD (by omega)] at hP
 exact ⟨hP,by rw [At.aB ⟨_,_,hP⟩ (by omega),List.drop_zero,List.take_of_length_le (by omega)]⟩
def Tb (c:iH) (dL:List UInt8) (vM:List Int) (to:List GY):Ev:=⟨⟨1,IntKind.wrap .u64 (c.v.getD 0 0+1)⟩,dL,vM,c.v,to⟩
set_option maxRecDepth 20000 in
theorem Tc {F:List Nat} {s:AS} {p:Nat} {c:iH} (h:jK F s p c) (As:∀ y∈F,s.h y≠none) {dL:List UInt8} {pv tv:AV} {vM:List Int} {to:List GY} (gp:bt qH 1 s pv vM) (gt:bt rY 3 s tv to) (acg:0≤c.v.getD 0 0∧c.v.getD 0 0<4611686018427387904) (hn:c.log.length+1≤2 ^ 29) (hn2:c.NW.length+1≤2 ^ 29) :
  aa Tryz.prog bI [.ptr (some (p,0)),.str dL,pv,tv] s fun r s' =>
   (oD (Tb c dL vM to)=false∧(∃ g,r=.aQ [.agg g,.int .i64 2]∧g.all AV.one=true∧g.length=21)∧Ext s s') ∨
   (oD (Tb c dL vM to)=true∧(∃ g,r=.aQ [.agg g,.int .i64 0]∧g.all AV.one=true∧g.length=21)∧∃ F',jK F' s' p (c.apply (Tb c dL vM to))∧bD F s s'∧(∀ y∈F',y∈F∨s.h y=none)∧(∀ y∈F',s'.h y≠none)∧yw p s s'):=by
 have hp:=gp.sl bT
 have ht:=gt.sl d_
 have h1:=hp.one
 have h2:=ht.one
 refine aa.pre fun hw=>wN _ _ _ _ _ _ (aj.intro hw rfl fun l1 s2 F2=>?_)
 have o2:Am.Own s2 l1 NY:=F2.own
 refine aa.use (yS (h.ext F2.ext)) ?_
 rintro v3 s4 ⟨rfl,rfl⟩ w4
 obtain ⟨hl,lg,bh,vT,L,B,es,k,Er,_⟩:=id (h.ext F2.ext)
 have yB:=pC hl lg bh (.map (some vT))
 let m:nE:=⟨Tb c dL vM to,pv,tv,hl,h1,h2⟩
 have ev:=bq m
 have hx:ag T bg (.ptr (some (p,0+2))) (.int .i64 (IntKind.wrap .i64 (1 - 1)))=some (.ptr (some (p,2+0))):=by
  rw [aV (by omega),WY (by omega)];rfl
 refine ⟨_,rfl,af.no rfl ⟨fun q _ v s'=>q=24→∃ l,v=.ptr (some (l,0))∧Am.Own s' l NY∧s4.h l=none,fun q _ v=>q=24→∃ l,v=.ptr (some (l,0)),fun q _ v a b e g hq=>by obtain ⟨l,x,y,z⟩:=g hq;exact ⟨l,x,y.ext e,z⟩,1,by rw [Er.at.av];rfl,1,by rw [Er.at.av];rfl,_,_,hx,_,by rw [Er.at.av,NB hl lg bh _ (by omega)],_,Au _ _,_,Er.at.aB (by rw [yB];omega),?_⟩⟩
 rw [CA hl]
 refine ⟨_,Qo hl h1 h2,fun dM T6 H8 _=>aj.intro H8 rfl fun Dn mQ F27=>⟨F27.ext,(fun _=>⟨Dn,rfl,F27.own,T6.none F27.no⟩),(fun _=>⟨Dn,rfl⟩)⟩,⟨.ptr (some (0,0)),fun _=>⟨0,rfl⟩⟩,fun Ai aed=>?_⟩
 obtain ⟨l,rfl⟩:=aed rfl
 refine ⟨_,rfl,fun kL IA NT hS=>?_⟩
 obtain ⟨l',hl',NQ,A4⟩:=hS.1 rfl
 simp only [AV.ptr.injEq,Option.some.injEq,Prod.mk.injEq,and_true] at hl'
 subst hl'
 refine ⟨⟨dz m,congrArg some ev.symm⟩,bu.own NT NQ (vs:=ig m) (by rw [ev];exact Nat.le_refl _) fun ku P34=>?_⟩
 have Vg:Am.Own ku l (ig m):=by
  have:=P34.at
  rw [dD (by rw [show NY.length=21 from rfl];exact ev)] at this;exact this
 have E34:Ext s ku:=Ext.wr (F2.ext.trans IA) (F2.ext.none A4) P34.mut
 have d1:l1≠l:=fun e=>by rw [← e,o2] at A4;cases A4
 have p34:Am.Own ku l1 NY:=(o2.ext IA).mut P34.mut (by simpa using d1)
 have hwr:IntKind.wrap .u64 (c.v.getD 0 0+1)=c.v.getD 0 0+1:=gq (by omega)
 refine ⟨IntKind.wrap .u64 (c.v.getD 0 0+1),by rw [Vg.at.av];rfl,fun vs s'=>s'=ku,?_,af.no (by rw [decide_eq_false_iff_not,hwr];omega) rfl⟩
 rintro yM rfl
 refine ⟨_,Vg.at.aB (by omega),?_⟩
 rw [gC]
 have hE:Cy yM m:=⟨hp.ext E34,ht.ext E34⟩
 have hC:=h.ext E34
 refine aa.use (aea hC hE) ?_
 rintro So FC ⟨rfl,Z4⟩ w44
 refine ⟨_,rfl,af.mk (fun hb=>⟨_,Lv,?_⟩) (fun hb=>af.no (by rw [decide_eq_false_iff_not,hwr];omega) ?_)⟩
 ·have hb':oD (Tb c dL vM to)=false:=by simpa using hb
  refine ⟨⟨rfl,rfl⟩,bu.own w44 (p34.ext Z4) (Nat.le_refl _) fun s7 P=>⟨NY,(IX rfl rfl P).2,.inl ⟨hb',⟨_,rfl,rfl,rfl⟩,Ext.wr (E34.trans Z4) F2.no P.mut⟩⟩⟩
 have hok:oD (Tb c dL vM to)=true:=by simpa using hb
 have Td:=hok
 simp only [oD,tE,Bool.and_eq_true,decide_eq_true_eq] at Td
 have hid:m.ev.id.may=true:=Td.1.1.1.1.1.1.1.1
 have CW:m.ev.vM.length≤512:=Td.1.1.1.1.2
 have Zx:m.ev.to.length≤1024:=Td.1.1.1.2
 have E44:=E34.trans Z4
 have Zh:=Vg.ext Z4
 refine ⟨_,Zh.at.aB (by omega),?_⟩
 rw [gC]
 refine aa.use (IU (hE.ext Z4) (by omega) (by omega)) ?_
 rintro Jn zC ⟨m',G,hm',rfl,gE,nG,tG,e56⟩ w56
 have E56:=E44.trans e56
 refine ⟨_,rfl,?_⟩
 refine aa.use (Z1 (h.ext E56) gE (by rw [hm'];exact hid) hn hn2) ?_
 rintro CO vl ⟨rfl,F',Ul,M59,ach,ai_,K59⟩ w59
 rw [hm'] at Ul
 have nF:∀ y,s.h y=none→y ∉ F:=fun y hn hy=>As y hy hn
 have aja:s.h l=none:=F2.ext.none A4
 have o59:Am.Own vl l (ig m):=(Zh.ext e56).mut M59 (nF _ aja)
 have p59:Am.Own vl l1 NY:=((p34.ext Z4).ext e56).mut M59 (nF _ F2.no)
 have ajb:Cy vl m:=⟨(bt.Uk (gp.ext E56) K59 (by decide) (by decide) (by decide)).sl bT,(bt.Uk (gt.ext E56) K59 (by decide) (by decide) (by decide)).sl d_⟩
 refine ⟨rfl,_,o59.at.aB (by omega),?_⟩
 rw [gC]
 refine aa.use (IU ajb (by omega) (by omega)) ?_
 rintro v63 JZ ⟨m2,G2,hm2,rfl,gE2,nG2,tG2,e64⟩ w64
 refine ⟨_,rfl,⟨dz m2,by rw [bq]⟩,bu.own w64 (p59.ext e64) (by rw [bq];exact Nat.le_refl _) fun s7 P=>?_⟩
 obtain ⟨_,hrd⟩:=IX (bq m2) rfl P
 have GJ:l1 ∉ F':=fun hy=>by
  rcases ach l1 hy with h | h | h
  ·exact nF _ F2.no h
  ·have:=nG l1 h
   rw [p34.ext Z4] at this;cases this
  ·rw [(p34.ext Z4).ext e56] at h;cases h
 refine ⟨_,hrd,.inr ⟨hok,⟨_,rfl,dz m2,bq m2⟩,F',(Ul.ext e64).mut P.mut (fun y hy=>by obtain rfl:=List.mem_singleton.1 hy;exact GJ),?_,?_,?_,fun y cs g hy h21 h16 h0=>?_⟩⟩
 ·refine ⟨fun y o hy ho=>?_,Nat.le_trans E56.2 (Nat.le_trans M59.2 (Nat.le_trans e64.2 (by rw [P.nl];exact Nat.le_refl _)))⟩
  have hne:y≠l1:=fun e=>by rw [e,F2.no] at ho;cases ho
  rw [P.eq y hne]
  exact e64.1 _ _ (M59.1 y o hy (E56.1 _ _ ho))
 ·intro y hy
  rcases ach y hy with h | h | h
  ·exact .inl h
  ·exact .inr (E44.none (nG y h))
  ·exact .inr (E56.none h)
 ·intro y hy
  have hne:y≠l1:=fun e=>GJ (e ▸ hy)
  rw [P.eq y hne]
  cases hq:vl.h y with
  | none=>exact absurd hq (ai_ y hy)
  | some ob=>rw [e64.1 y ob hq];simp
 ·have hne:y≠l1:=fun e=>by rw [e,F2.no] at hy;cases hy
  rw [P.eq y hne]
  exact e64.1 _ _ (K59 y cs g (E56.1 _ _ hy) h21 h16 h0)
end Go.Proofs.YtohgmogbabkkeaaGreat
end

section
namespace Go.Proofs.YtohgmogbabkkeaaGreat
open Go.Am Go.au Go.aC Go.bW
theorem aee {F:List Nat} {s:AS} {p:Nat} {c:iH} (h:jK F s p c) (hb:c.NW.length=c.log.length) {i:Nat} (hi:i<c.log.length) (hp:∀ e∈c.log,e.vM.length≤2 ^ 30∧e.to.length≤2 ^ 30) (hi2:i≤2 ^ 40) :
  aa Tryz.prog nT [.ptr (some (p,0)),.int .i64 (i:Nat)] s fun r s'=>∃ (m:nE) (v:IV) (G:List Nat),c.log[i]? = some m.ev∧c.NW[i]? = some v.v∧r=.aQ [.agg (ig m),.agg (rR v),.bool true]∧kq G s' m∧(∀ y∈G,s.h y=none)∧(∀ y∈G,s'.h y≠none)∧Ext s s':=by
 refine aa.pre fun hw=>DI _ _ _ _ (aj.intro hw rfl fun l1 s2 F2=>aj.intro F2.wf rfl fun l3 s4 F4=>?_)
 have e4:=F2.ext.trans F4.ext
 have o1:Am.Own s4 l1 NY:=F2.own.ext F4.ext
 have o3:Am.Own s4 l3 (eR.map (.int .u64)):=F4.own
 have d13:l1≠l3:=fun e=>by
  have:=F4.no
  rw [← e,F2.own] at this;cases this
 obtain ⟨hl,lg,bh,vT,L,B,es,k,h1,h2,h3,⟨a1,a2,a3,a4⟩,⟨b1,b2,b3⟩,c1,c2,c3,c4⟩:=id (h.ext e4)
 have hs:=AF hl lg bh (.map (some vT))
 have hLn:L.length=c.log.length:=by rw [← a3,List.length_map]
 have hBn:B.length=c.NW.length:=by rw [← b3,List.length_map]
 have hlp:l1≠p:=fun e=>by
  obtain ⟨_,_,_,_,_,_,_,_,hp0,_⟩:=h
  have:=F2.no
  rw [e,hp0] at this;cases this
 refine ⟨fun vs s'=>vs=[.bool false]∧s'=s4,?_,?_⟩
 ·rintro b s7 ⟨hb',rfl⟩
  obtain rfl:b=false:=by simpa using hb'
  obtain ⟨m,hm⟩:=cW (l:=L) (i:=i) (by omega)
  obtain ⟨v,hv⟩:=cW (l:=B) (i:=i) (by omega)
  have Z5:c.log[i]? = some m.ev:=by rw [← a3,List.getElem?_map,hm];rfl
  have aef:c.NW[i]? = some v.v:=by rw [← b3,List.getElem?_map,hv];rfl
  have ta:=bt.tag a1
  have tb:=bt.tag b1
  have key:∀ s',bD [l1] s7 s'→Am.Own s' p (fZ c.v lg bh (.map (some vT)))∧bt ig 21 s' lg L∧bt rR 16 s' bh B∧Cy s' m:=fun s' x=>by
   have t0:∀ y∈[l1],∀ g,Tag s7 y g→g=0:=fun y hy g t=>by
    obtain rfl:=List.mem_singleton.1 hy
    exact t.uniq (Own.tag o1)
   refine ⟨h1.mut x (by simpa using Ne.symm hlp),bt.eW a1 x fun y hy g t=>by rw [t0 y hy g t];decide,bt.eW b1 x fun y hy g t=>by rw [t0 y hy g t];decide,kq.at ((a4 m (List.mem_of_getElem? hm)).eW x fun y hy g t=>by rw [t0 y hy g t];decide)⟩
  have M0:bD [l1] s7 s7:=bD.refl _ _
  obtain ⟨la,oa,k8,k9⟩:=(a1.sl bq).ix (by decide) bq ef Bx hm
  obtain ⟨lb,ob,m8,m9⟩:=(b1.sl cI).ix (by decide) cI dB uf hv
  have hla:∀ s',bD [l1] s7 s'→aB s' la oa 21=some (ig m):=fun s' x=>by
   obtain ⟨la',oa',k8',k9'⟩:=((key s' x).2.1.sl bq).ix (by decide) bq ef Bx hm
   have:=(k8 .i64).symm.trans (k8' .i64)
   simp only [Option.some.injEq,AV.ptr.injEq,Prod.mk.injEq] at this
   rw [this.1,this.2];exact (k9' _ (Ext.refl _)).2
  have hlb:∀ s',bD [l1] s7 s'→aB s' lb ob 16=some (rR v):=fun s' x=>by
   obtain ⟨la',oa',k8',k9'⟩:=((key s' x).2.2.1.sl cI).ix (by decide) cI dB uf hv
   have:=(m8 .i64).symm.trans (k8' .i64)
   simp only [Option.some.injEq,AV.ptr.injEq,Prod.mk.injEq] at this
   rw [this.1,this.2];exact (k9' _ (Ext.refl _)).2
  have r18:∀ s',bD [l1] s7 s'→av s' p (0+18)=some lg:=fun s' x=>by rw [(key s' x).1.at.av];exact hs.1
  have T4:∀ s',bD [l1] s7 s'→av s' p (0+19)=some bh:=fun s' x=>by rw [(key s' x).1.at.av];exact hs.2.1
  have Yk:=hp m.ev (List.mem_of_getElem? Z5)
  refine af.no rfl ⟨fun a b=>bD [l1] a b∧(a.h l1≠none→b.h l1≠none),fun q ks _ s'=>q=15→∃ g cs,ks=[.ptr (some (l1,0)),.agg g]∧Am.Own s' l1 cs∧cs=g,fun s'=>∃ cs,Am.Own s' l1 cs∧cs.length=21∧l1≠l3,fun q _ v s'=>q=7→∃ m' G,v=.agg (ig m')∧kq G s' m'∧(∀ y∈G,s7.h y=none)∧m'.ev=m.ev,fun q _ v=>(q=7→∃ m',v=.agg (ig m'))∧(q=15→v=.aQ []),fun a b e=>⟨e.mut,fun hn=>by cases hq:a.h l1 with | none=>exact absurd hq hn | some o=>rw [e.1 _ _ hq];simp⟩,fun a b c x y=>⟨x.1.trans y.1,fun hn=>y.2 (x.2 hn)⟩,fun q ks v a b e g hq=>by obtain ⟨g',cs,x,y,z⟩:=g hq;exact ⟨g',cs,x,y.ext e,z⟩,fun q _ v a b x g hq=>?_,fun a b e g=>by obtain ⟨cs,x,y⟩:=g;exact ⟨cs,x.ext e,y⟩,⟨_,o1,rfl,d13⟩,?_⟩
  ·obtain ⟨m',G,e1,e2,e3,e5⟩:=g hq
   refine ⟨m',G,e1,e2.mut x.1 fun y hy hG=>?_,e3,e5⟩
   obtain rfl:=List.mem_singleton.1 hy
   have:=e3 y hG
   rw [o1] at this;cases this
  refine ⟨fun s' _ _=>rfl,_,r18 _ M0,fun s' x _=>⟨_,r18 _ x.1,rfl⟩,la,oa,k8 _,_,hla _ M0,fun s' x _=>⟨_,hla _ x.1,rfl⟩,fun mQ x27 w27 _=>?_,⟨.agg (ig m),(fun _=>⟨m,rfl⟩),(fun h=>by cases h)⟩,fun wE ajc=>?_⟩
  ·refine (IU (key mQ x27.1).2.2.2 Yk.1 Yk.2).mono ?_
   rintro w s' ⟨m',G,hm',rfl,gE,nG,tG,e⟩
   refine ⟨_,rfl,e,(fun _=>⟨m',G,rfl,gE,fun y hy=>?_,hm'⟩),(fun _=>⟨m',rfl⟩),(fun h=>by cases h)⟩
   have:=nG y hy
   cases hq:s7.h y with
   | none=>rfl
   | some o =>
    by_cases hy1:y=l1
    ·subst hy1
     exact absurd this (x27.2 (by rw [o1];simp))
    ·rw [x27.1.1 y o (by simpa using hy1) hq] at this;cases this
  obtain ⟨m',rfl⟩:=ajc.1 rfl
  refine ⟨_,rfl,fun s' _ _=>rfl,_,T4 _ M0,fun s' x _=>⟨_,T4 _ x.1,rfl⟩,lb,ob,m8 _,_,hlb _ M0,fun s' x _=>⟨_,hlb _ x.1,rfl⟩,fun qQ x46 w46 _ hc=>?_,⟨.aQ [],(fun h=>by cases h),(fun _=>rfl)⟩,fun Vc ajd=>?_⟩
  ·obtain ⟨cs,oc,yB,_⟩:=hc
   refine ⟨⟨dz m',by rw [bq]⟩,bu.own w46 oc (by rw [bq];omega) fun wD P=>?_⟩
   obtain ⟨ho,_⟩:=IX (bq m') yB P
   exact ⟨⟨⟨P.mut,fun _=>by rw [ho];simp⟩,(fun _=>⟨_,_,rfl,ho,rfl⟩)⟩,(fun h=>by cases h),(fun h=>by cases h),(fun _=>rfl)⟩
  ·refine ⟨ajd.2 rfl,fun z6 x49 w49 hS hC=>?_⟩
   obtain ⟨m2,G,e1,gE,nG,hm2⟩:=hS.1 rfl
   obtain ⟨g',cs,hk,oc,rfl⟩:=hC rfl
   simp only [List.cons.injEq,AV.agg.injEq,true_and,and_true] at hk e1
   subst hk
   have o49:=o3.mut x49.1 (by simpa using Ne.symm d13)
   have n3:l3 ∉ G:=fun hy=>by
    have:=nG _ hy
    rw [o3] at this;cases this
   refine ⟨⟨mY v,by rw [cI]⟩,bu.own w49 o49 (by rw [cI];simp [eR]) fun pG P=>?_⟩
   have hP:=P.at
   rw [dD (by rw [cI];simp [eR])] at hP
   have aje:=oc.mut P.mut (by simpa using d13)
   have gE4:=gE.mut P.mut (fun y hy hG=>by obtain rfl:=List.mem_singleton.1 hy;exact n3 hG)
   have gE5:kq (NX m2) pG m2:=⟨gE4.1,gE4.2.1,fun y hy=>List.mem_append.2 hy⟩
   have hrd:=aje.at.aB (o:=0) (n:=21) (by rw [bq];omega)
   rw [gC] at hrd
   refine ⟨_,hrd,_,by rw [At.aB ⟨_,_,hP⟩ (by rw [cI];omega),List.drop_zero,List.take_of_length_le (by rw [cI];omega)],m2,v,NX m2,by rw [hm2];exact Z5,aef,by rw [e1],gE5,fun y hy=>e4.none (nG y (gE.2.2 y (List.mem_append.1 hy))),gE5.NX,?_⟩
   ·exact Ext.wr (Ext.wrL e4 (fun y hy=>by obtain rfl:=List.mem_singleton.1 hy;exact F2.no) x49.1) (F2.ext.none F4.no) P.mut
 ·refine aa.use (yS (h.ext e4)) ?_
  rintro yW Fj ⟨rfl,rfl⟩ w41
  refine ⟨_,rfl,af.no rfl (af.no (by rw [decide_eq_false_iff_not];omega) ⟨lg,by rw [h1.at.av];exact hs.1,_,(a1.sl bq).cG ef _,?_,rfl⟩)⟩
  rw [show decide ((i:Int)≥(L.length:Int))=false by rw [decide_eq_false_iff_not];omega]
theorem Wi {s:AS} {m c:Nat} {ro:Bool} {es:List (aK×nE×Nat)} (hm:eJ dK evA s m es c ro):aa Tryz.prog fu [.map (some m)] s fun v s'=>∃ m',v=.map (some m')∧Ext s s':=by
 refine (xz hT Tryz.func158 (tm:=s_) (ti:=sY) (tb:=rm) (cl:=u6) (by kernel_rfl) (by kernel_rfl) (by kernel_rfl) (by kernel_rfl) zB Tryz.func210 Np Nq No Nn hm.obj).mono ?_
 rintro v s' ⟨m',rfl,F⟩
 exact ⟨m',rfl,F.ext⟩
theorem Z6 {s:AS} {v:AV} {l:List nE} (h:Sl ig 21 s v l):aa Tryz.prog a_ [v] s fun r s'=>r.one=true∧s'=s:=by
 obtain ⟨v',h1,h2⟩:=h.head bq ef Bx (i:=l.length) (Nat.le_refl _) .i64
 exact p_ _ _ _ ⟨_,h.cG ef _,_,h.cG ef _,_,h1,h2.one,rfl⟩
theorem Z7 {s:AS} {v:AV} {l:List IV} (h:Sl rR 16 s v l):aa Tryz.prog br [v] s fun r s'=>r.one=true∧s'=s:=by
 obtain ⟨v',h1,h2⟩:=h.head cI dB uf (i:=l.length) (Nat.le_refl _) .i64
 exact ov _ _ _ ⟨_,h.cG dB _,_,h.cG dB _,_,h1,h2.one,rfl⟩
set_option maxRecDepth 20000 in
theorem Z8 {F:List Nat} {s:AS} {p:Nat} {c:iH} (h:jK F s p c):aa Tryz.prog fE [.ptr (some (p,0))] s fun r s'=>(∃ q,r=.ptr (some q))∧Ext s s':=by
 refine Ar _ _ _ ?_
 refine aa.use (yS h) ?_
 rintro v s2 ⟨rfl,rfl⟩ w2
 obtain ⟨hl,lg,bh,vT,L,B,es,k,h1,h2,h3,⟨a1,a2,a3,a4⟩,⟨b1,b2,b3⟩,c1,_⟩:=id h
 have yB:=pC hl lg bh (.map (some vT))
 have hs:=AF hl lg bh (.map (some vT))
 have hone:(fZ c.v lg bh (.map (some vT))).all AV.one=true:=by
  have x1:=bt.one a1
  have x2:=bt.one b1
  rw [fZ,List.all_append,List.all_append,cg]
  simp [x1,x2]
 refine ⟨_,rfl,af.no rfl ⟨_,by rw [h1.at.aB (by omega),List.drop_zero,List.take_of_length_le (by omega)],lN w2 yB rfl hone fun l7 s9 F9=>?_⟩⟩
 have c9:=h1.ext F9.ext
 refine ⟨fun _ _ _ _=>True,fun _ _ v=>v.one=true,fun _ _ _ _ _ _ h=>h,lg,by rw [c9.at.av];exact hs.1,fun bS Q1 QZ _=>?_,⟨_,bt.one a1⟩,fun oh Z9=>⟨bh,by rw [c9.at.av];exact hs.2.1,fun fN Na Vt _=>?_,⟨_,bt.one b1⟩,fun Jl ajf=>⟨_,by rw [c9.at.av];exact hs.2.2,fun mQ e27 w27 _=>?_⟩⟩⟩
 ·refine (Z6 ((a1.ext (F9.ext.trans Q1)).sl bq)).mono ?_
  rintro v s' ⟨h1,rfl⟩
  exact ⟨Ext.refl _,trivial,h1⟩
 ·refine (Z7 ((b1.ext (F9.ext.trans Na)).sl cI)).mono ?_
  rintro v s' ⟨h1,rfl⟩
  exact ⟨Ext.refl _,trivial,h1⟩
 ·refine aa.use (Wi (c1.ext (F9.ext.trans e27))) ?_
  rintro mb kL ⟨m',rfl,IA⟩ NT
  have NQ:=(F9.own.ext e27).ext IA
  refine ⟨_,rfl,cL Z9 yK (bu.own NT NQ (by simp [yB]) fun lS P32=>?_)⟩
  have TP:Am.Own lS l7 ((fZ c.v lg bh (.map (some vT))).set 18 oh):=P32.at
  refine cL ajf rz (bu.own P32.wf TP (by simp [yB]) fun qR P33=>?_)
  have YC:Am.Own qR l7 (((fZ c.v lg bh (.map (some vT))).set 18 oh).set 19 Jl):=P33.at
  refine bu.own P33.wf YC (by simp [yB]) fun ku P34=>⟨⟨_,rfl⟩,Ext.wr (Ext.wr (Ext.wr ((F9.ext.trans e27).trans IA) F9.no P32.mut) F9.no P33.mut) F9.no P34.mut⟩
end Go.Proofs.YtohgmogbabkkeaaGreat
end

section
namespace Go.Proofs.YtohgmogbabkkeaaGreat
open Go.Am Go.au Go.aC Go.bW
theorem Um (d:aK) (s:AS):aa Tryz.prog sk [.agg (aN d)] s fun v s'=>v=.bool d.may∧Ext s s':=by
 refine aa.pre fun hw=>Ph _ _ _ ⟨rfl,aj.intro hw rfl fun l s1 F=>?_⟩
 simp only [F.own.at.av,aN,List.getElem?_cons_zero,List.getElem?_cons_succ,go_sem,gi,F.ext,and_true,aK.may]
 grind
theorem Qp (t:List UInt8) (s:AS):aa Tryz.prog qs [.str t] s fun v s'=>v=.bool (aD t)∧s'=s:=by
 refine MG _ _ _ ⟨_,kQ t s,af.dec (fun h=>⟨_,kQ t s,?_,rfl⟩) (fun h=>⟨?_,rfl⟩)⟩
 ·congr 1
  rw [aD,decide_eq_decide];omega
 ·congr 1
  symm
  rw [aD,decide_eq_false_iff_not];omega
theorem Z_ (a b:aK) (s:AS):aa Tryz.prog u5 [.agg (aN a),.agg (aN b)] s fun v s'=>v=.bool (a.lt b)∧Ext s s':=by
 refine aa.pre fun hw=>MJ _ _ _ _ ⟨rfl,aj.intro hw rfl fun l s1 F=>⟨rfl,aj.intro F.wf rfl fun l2 s2 F2=>?_⟩⟩
 have e:=F.ext.trans F2.ext
 simp only [(F.own.ext F2.ext).at.av,F2.own.at.av,aN,List.getElem?_cons_zero,List.getElem?_cons_succ,go_sem,gi,e,and_true,aK.lt]
 grind
def pJ (l:List Int) (i:Nat):Bool:=decide (l.getD i 0≤4611686018427387904)&&(decide (i<3)||decide (l.getD i 0=0))
theorem aeg {l:List Int} (h:l.length=16):(List.range 16).all (pJ l)=(uC l&&(l.drop 3).all fun n=>decide (n=0)):=by
 obtain ⟨a,b,c,d,e,f,g,i,j,k,l,m,n,o,p,q,rfl⟩:=Z3 h
 rw [Bool.eq_iff_iff]
 simp [List.range,List.range.loop,pJ,uC]
 grind
structure IY (F:List Nat) (s:AS) (p:Nat) (v:List Int) (n:Nat):Prop where
 len:v.length=16
 mem:∃ (lg bh hd:AV) (L:List nE) (B:List IV),Am.Own s p (fZ v lg bh hd)∧p∈F ∧
  (bt ig 21 s lg L∧(∀ y∈ay lg,y∈F)∧L.length=n)∧(bt rR 16 s bh B∧(∀ y∈ay bh,y∈F)∧B.length=n)
section
variable {F F':List Nat} {s s':AS} {p n:Nat} {v:List Int}
theorem IY.mut {L:List Nat} (h:IY F s p v n) (m:bD L s s') (hL:∀ y∈L,y ∉ F):IY F s' p v n:=by
 obtain ⟨hl,lg,bh,hd,L',B,h1,h2,⟨a1,a2,a3⟩,⟨b1,b2,b3⟩⟩:=h
 exact ⟨hl,lg,bh,hd,L',B,h1.mut m (fun hx=>hL p hx h2),h2,⟨a1.mut m (fun y hy hx=>hL y hx (a2 y hy)),a2,a3⟩,⟨b1.mut m (fun y hy hx=>hL y hx (b2 y hy)),b2,b3⟩⟩
theorem IY.ext (h:IY F s p v n) (e:Ext s s'):IY F s' p v n:=h.mut (L:=[]) e.mut (by simp)
set_option maxRecDepth 20000 in
theorem abG (h:IY F s p v n) {m:nE} (hm:Cy s m):aa Tryz.prog lz [.ptr (some (p,0)),.agg (ig m)] s fun r s'=>r=.bool (oD m.ev)∧Ext s s':=by
 refine aa.pre fun hw=>An _ _ _ _ ⟨dz m,aj.intro hw rfl fun l1 s2 F2=>?_⟩
 have c2:=F2.own.at
 have ev:=bq m
 refine ⟨_,c2.aB (by omega),?_⟩
 rw [Ta]
 refine aa.use (Um _ _) ?_
 rintro v4 s5 ⟨rfl,e5⟩ w5
 have c5:=c2.ext e5
 have E5:=F2.ext.trans e5
 obtain ⟨hl,lg,bh,hd,L',B,h1,_⟩:=h.ext E5
 refine ⟨_,rfl,af.mk (fun hb=>⟨?_,E5⟩) (fun hb=>⟨m.ev.id.r,by rw [c5.av];rfl,3,by rw [h1.at.av];rfl,af.dec (fun hgt=>⟨?_,E5⟩) (fun hgt=>⟨m.ev.dL,by rw [c5.av];rfl,?_⟩)⟩)⟩
 ·simp only [Bool.not_eq_true'] at hb
  simp [oD,tE,hb]
 ·simp [oD,show ¬ m.ev.id.r≤3 by omega]
 have hid:m.ev.id.may=true:=by simpa using hb
 have hr3:m.ev.id.r≤3:=by omega
 refine aa.use (Qp _ _) ?_
 rintro o_ bS ⟨rfl,rfl⟩ QZ
 have h13:=hm.ext E5
 refine ⟨_,rfl,af.mk (fun hb=>⟨?_,E5⟩) (fun hb=>⟨m.pv,by rw [c5.av];rfl,_,h13.1.cG aL _,af.dec (fun ad_=>⟨?_,E5⟩) (fun ad_=>⟨m.tv,by rw [c5.av,rM],_,h13.2.cG fH _,af.dec (fun ZX=>⟨?_,E5⟩) (fun ZX=>⟨m.ev.id.r,by rw [c5.av];rfl,?_⟩)⟩)⟩)⟩
 ·have:aD m.ev.dL=false:=by simpa using hb
  simp [oD,tE,this]
 ·simp [oD,tE,show ¬ m.ev.vM.length≤512 by omega]
 ·simp [oD,tE,show ¬ m.ev.to.length≤1024 by omega]
 have hn:aD m.ev.dL=true:=by simpa using hb
 obtain ⟨hr,Cz⟩:=Ea hid
 dsimp only
 rw [hr]
 have hx:ag T bg (.ptr (some (l1,4))) (.int .i64 ((m.ev.id.r.toNat - 1:Nat):Int))=some (.ptr (some (l1,4+(m.ev.id.r.toNat - 1)))):=by
  rw [WY (by omega)];simp
 refine ⟨_,_,hx,_,by rw [c5.av,Cx m Cz],m.ev.id.c,by rw [c5.av];rfl,af.mk (fun hb=>⟨?_,E5⟩) (fun hb=>?_)⟩
 ·have:yu m.ev=false:=decide_eq_false (bne_iff_ne.1 hb)
  simp [oD,tE,this]
 have hp:yu m.ev=true:=decide_eq_true (by rw [bne_eq_false_iff_eq] at hb;exact hb)
 have hend:oD m.ev=((List.range 16).all (pJ m.ev.jX)&&yq m.ev.to):=by
  rw [aeg m.len]
  simp only [oD,tE,hid,hp,hn,hr3,show m.ev.vM.length≤512 by omega,show m.ev.to.length≤1024 by omega,decide_true,Bool.true_and,Bool.and_true]
  cases uC m.ev.jX <;> cases yq m.ev.to <;> simp
 rw [hend]
 refine ⟨fun vs s'=>vs=[]∧Ext bS s'∧aM s'∧(List.range 16).all (pJ m.ev.jX)=true,?_,?_⟩
 ·rintro dM ⟨_,T6,H8,hall⟩
  rw [hall,Bool.true_and]
  refine ⟨fun m' vs s'=>∃ i:Nat,vs=[.int .i64 (i:Nat)]∧i≤m.ev.to.length∧m'=m.ev.to.length - i∧Ext bS s'∧aM s'∧(List.range i).all (vP m.ev.to)=true,m.ev.to.length,⟨0,rfl,by omega,rfl,T6,H8,rfl⟩,?_⟩
  rintro m' La kL ⟨i,hi,h6,rfl,IA,NT,TH⟩
  simp only [List.cons.injEq,AV.int.injEq,true_and,and_true] at hi
  subst hi
  have c30:=c5.ext IA
  refine ⟨m.tv,by rw [c30.av,rM],_,(h13.2.ext IA).cG fH _,af.dec (fun hlt=>?_) (fun hge=>?_)⟩
  ·obtain ⟨y,hy⟩:=cW (l:=m.ev.to) (i:=i) (by omega)
   obtain ⟨la,o,h8,h9⟩:=h13.2.ix (by decide) d_ fH De hy
   refine ⟨m.tv,by rw [c30.av,rM],la,o,h8 _,aN y.dot,sF (h9 _ IA).2 (by omega),?_⟩
   have next:∀ {s':AS},Ext bS s'→aM s'→vP m.ev.to i=true→∃ m',m'<m.ev.to.length - i∧∃ k:Nat,[AV.int .i64 (IntKind.wrap .i64 ((i:Int)+1))]=[.int .i64 (k:Nat)]∧k≤m.ev.to.length∧m'=m.ev.to.length - k∧Ext bS s'∧aM s'∧(List.range k).all (vP m.ev.to)=true:=fun e w ht=>by
    refine ⟨m.ev.to.length - (i+1),by omega,i+1,by rw [Cp (by omega)],by omega,rfl,e,w,?_⟩
    rw [List.range_succ,List.all_append,TH];simp [ht]
   have bad:vP m.ev.to i=false→yq m.ev.to=false:=fun hb'=>by
    rw [yq,List.all_eq_false]
    exact ⟨i,by simp;omega,by simp [hb']⟩
   refine aa.use (Um _ _) ?_
   rintro y4 xT ⟨rfl,e38⟩ w38
   have E38:=IA.trans e38
   have c38:=c5.ext E38
   have ajg:av xT la (o+2)=some (.str y.dev):=by rw [(h9 _ E38).1 2 (by omega)];rfl
   refine ⟨_,rfl,af.mk (fun h1=>⟨by rw [bad (by simpa [vP,hy] using fun h=>by simp [h] at h1)],E5.trans E38⟩) (fun h1=>⟨m.tv,by rw [c38.av,rM],la,o,h8 _,y.dev,ajg,?_⟩)⟩
   have hd1:y.dot.may=true:=by simpa using h1
   refine aa.use (Qp _ _) ?_
   rintro v46 xW ⟨rfl,rfl⟩ w45
   refine ⟨_,rfl,af.mk (fun h2=>⟨by rw [bad (by simp only [Bool.not_eq_true'] at h2;simp [vP,hy,hd1,h2])],E5.trans E38⟩) (fun h2=>af.dec (fun hpos=>?_) (fun hz=>?_))⟩
   ·have hn1:aD y.dev=true:=by simpa using h2
    have hi0:i≠0:=by omega
    obtain ⟨u,hu⟩:=cW (l:=m.ev.to) (i:=i - 1) (by omega)
    obtain ⟨lu,ou,k8,k9⟩:=h13.2.ix (by decide) d_ fH De hu
    have hw1:IntKind.wrap .i64 ((i:Int) - 1)=((i - 1:Nat):Int):=by rw [aV (by omega)];omega
    rw [hw1]
    refine ⟨m.tv,by rw [c38.av,rM],lu,ou,k8 _,aN u.dot,sF (k9 _ E38).2 (by omega),m.tv,by rw [c38.av,rM],la,o,h8 _,aN y.dot,sF (h9 _ E38).2 (by omega),?_⟩
    refine aa.use (Z_ _ _ _) ?_
    rintro GS zC ⟨rfl,e56⟩ w56
    have ht:vP m.ev.to i=u.dot.lt y.dot:=by simp [vP,hy,hd1,hn1,hi0,hu]
    refine ⟨_,rfl,af.mk (fun h3=>⟨by rw [bad (by rw [ht];simpa using h3)],E5.trans (E38.trans e56)⟩) (fun h3=>next (E38.trans e56) w56 (by rw [ht];simpa using h3))⟩
   ·have hn1:aD y.dev=true:=by simpa using h2
    obtain rfl:i=0:=by omega
    exact next E38 w45 (by simp [vP,hy,hd1,hn1])
  ·obtain rfl:i=m.ev.to.length:=by omega
   exact ⟨by rw [yq,TH],E5.trans IA⟩
 ·refine ⟨fun m' vs s'=>∃ i:Nat,vs=[.int .i64 (i:Nat)]∧i≤16∧m'=16 - i∧s'=bS∧(List.range i).all (pJ m.ev.jX)=true,16,⟨0,rfl,by omega,rfl,rfl,rfl⟩,?_⟩
  rintro m' EJ BF ⟨i,hi,h6,rfl,rfl,TH⟩
  simp only [List.cons.injEq,AV.int.injEq,true_and,and_true] at hi
  subst hi
  refine af.dec (fun hlt=>?_) (fun hge=>?_)
  ·have hx:ag T bg (.ptr (some (l1,4))) (.int .i64 (i:Nat))=some (.ptr (some (l1,4+i))):=by
    rw [WY (by omega)];simp
   have hrd:av BF l1 (4+i)=some (.int .u64 (m.ev.jX.getD i 0)):=by rw [c5.av,Cx m (by omega)]
   have next:pJ m.ev.jX i=true→∃ m',m'<16 - i∧∃ k:Nat,[AV.int .i64 (IntKind.wrap .i64 ((i:Int)+1))]=[.int .i64 (k:Nat)]∧k≤16∧m'=16 - k∧BF=BF∧(List.range k).all (pJ m.ev.jX)=true:=fun ht=>by
    refine ⟨16 - (i+1),by omega,i+1,by rw [Cp (by omega)],by omega,rfl,rfl,?_⟩
    rw [List.range_succ,List.all_append,TH];simp [ht]
   have bad:pJ m.ev.jX i=false→(List.range 16).all (pJ m.ev.jX)=false:=fun hb'=>by
    rw [List.all_eq_false]
    exact ⟨i,by simp;omega,by simp [hb']⟩
   refine ⟨_,_,hx,_,hrd,af.dec (fun afl=>⟨by rw [bad (by rw [pJ,decide_eq_false (by omega)];rfl)];simp,E5⟩) (fun TD=>⟨3,by rw [h1.at.av];rfl,af.dec (fun h3=>⟨_,_,hx,_,hrd,af.mk (fun hne=>⟨?_,E5⟩) (fun he=>next ?_)⟩) (fun h3=>next ?_)⟩)⟩
   ·rw [bad (by rw [pJ,decide_eq_false (show ¬ i<3 by omega),decide_eq_false (bne_iff_ne.1 hne)];simp)];simp
   ·rw [bne_eq_false_iff_eq] at he
    rw [pJ,he];simp
   ·rw [pJ,decide_eq_true (show i<3 by omega),decide_eq_true (show m.ev.jX.getD i 0≤4611686018427387904 by omega)];rfl
  ·obtain rfl:i=16:=by omega
   exact ⟨rfl,Ext.refl _,QZ,TH⟩
end
end Go.Proofs.YtohgmogbabkkeaaGreat
end

section
namespace Go.Proofs.YtohgmogbabkkeaaGreat
open Go.Am Go.au Go.aC Go.bW
theorem aaa {v:List Int} (h:v.length=16) (lg bh hd lg':AV):(fZ v lg bh hd).set 18 lg'=fZ v lg' bh hd:=by
 simp [fZ,List.set_append,h]
theorem aab {v:List Int} (h:v.length=16) (lg bh hd bh':AV):(fZ v lg bh hd).set 19 bh'=fZ v lg bh' hd:=by
 simp [fZ,List.set_append,h]
section
variable {F:List Nat} {s:AS} {p n:Nat} {v:List Int}
theorem vQ {L:List Nat} {s s':AS} {y:Nat} (mm:bD L s s') (hn:s'.h y=none):y∈L∨s.h y=none:=by
 by_cases hy:y∈L
 ·exact .inl hy
 ·right
  cases hq:s.h y with
  | none=>rfl
  | some o=>rw [mm.1 y o hy hq] at hn;cases hn
set_option maxRecDepth 20000 in
theorem Wj {m:nE} (h:IY F s p v n) (hid:m.ev.id.may=true) (hn:n+1≤2 ^ 29) :
  aa Tryz.prog jt [.ptr (some (p,0)),.agg (ig m)] s fun r s'=>r=.aQ []∧∃ F',IY F' s' p (v.set (m.ev.id.r.toNat - 1) (IntKind.wrap .u64 (v.getD (m.ev.id.r.toNat - 1) 0+1))) (n+1)∧bD F s s'∧(∀ y∈F',y∈F∨s.h y=none)∧(∀ y∈F',s'.h y≠none)∧yw p s s':=by
 have ev:=bq m
 refine aa.pre fun hw=>x9 _ _ _ _ ⟨dz m,aj.intro hw rfl fun l1 s2 F2=>⟨m.ev.id.r,by rw [F2.own.at.av];rfl,?_⟩⟩
 obtain ⟨hl,lg,bh,hd,L,B,h1,h2,⟨a1,a2,a3⟩,⟨b1,b2,b3⟩⟩:=id h
 obtain ⟨hr,Cz⟩:=Ea hid
 dsimp only
 rw [hr]
 generalize hi:m.ev.id.r.toNat - 1=i at Cz ⊢
 have o2:=h1.ext F2.ext
 have hx:ag T c_ (.ptr (some (p,0+2))) (.int .i64 ((i:Nat):Int))=some (.ptr (some (p,2+i))):=by
  rw [Sc (by omega)];simp
 have yB:=pC hl lg bh hd
 refine ⟨_,_,hx,_,by rw [o2.at.av,NB hl lg bh _ Cz],_,_,hx,bu.own F2.wf o2 (by rw [yB];simp;omega) fun bS P13=>?_⟩
 generalize pM:v.set i (IntKind.wrap .u64 (v.getD i 0+1))=v'
 have hvl:v'.length=16:=by rw [← pM,List.length_set,hl]
 have wj:Am.Own bS p (fZ v' lg bh hd):=by
  have:=P13.at
  rw [fk,Ls hl lg bh _ Cz,pM] at this;exact this
 have Z2:=pC hvl lg bh hd
 have WX:bD [p] s bS:=F2.ext.mut.trans P13.mut
 have d1:l1≠p:=fun e=>by
  have:=F2.no
  rw [e,h1] at this;cases this
 have q13:Am.Own bS l1 (ig m):=F2.own.mut P13.mut (by simpa using d1)
 have t0:∀ y∈[p],∀ g,Tag s y g→g=0:=fun y hy g t=>by
  obtain rfl:=List.mem_singleton.1 hy
  exact t.uniq (Own.tag h1)
 have a13:bt ig 21 bS lg L:=bt.eW a1 WX fun y hy g t=>by rw [t0 y hy g t];decide
 have Jk:bt rR 16 bS bh B:=bt.eW b1 WX fun y hy g t=>by rw [t0 y hy g t];decide
 have hs:=AF hvl lg bh hd
 let vm:IV:=⟨v',hvl⟩
 have r18:∀ s',Am.Own s' p (fZ v' lg bh hd)→av s' p (0+18)=some lg:=fun s' o=>by rw [o.at.av];exact hs.1
 have rl:∀ s',Am.Own s' l1 (ig m)→aB s' l1 0 21=some (ig m):=fun s' o=>by rw [o.at.aB (by omega),gC]
 refine ⟨fun a b=>(∀ l cs,Am.Own a l cs→Am.Own b l cs)∧bD (ay lg) a b,fun q _ v s'=>bt ig 21 s' v (L++[m]),fun s'=>bt ig 21 s' lg L,
  fun q _ v s'=>(q=6→∃ l,v=.slc (some (l,0)) 1 1 true∧Am.Own s' l (ig m))∧(q=7→∀ y∈ay v,y∈ay lg∨bS.h y=none),
  fun q _ v=>(q=7→v.one=true),fun a b e=>⟨fun l cs o=>o.ext e,e.mut⟩,fun a b c x y=>⟨fun l cs o=>y.1 l cs (x.1 l cs o),x.2.trans y.2⟩,fun q _ v a b e g=>g.ext e,?_,fun a b e g=>g.ext e,a13,?_⟩
 ·rintro q ks v a b ⟨x1,_⟩ ⟨g1,g2⟩
  refine ⟨fun hq=>?_,g2⟩
  obtain ⟨l,e,hA⟩:=g1 hq
  exact ⟨l,e,x1 _ _ hA⟩
 refine ⟨fun s' _ _=>rfl,_,r18 _ wj,fun s' x _=>⟨_,r18 _ (x.1 _ _ wj),rfl⟩,_,rl _ q13,fun s' x _=>⟨_,rl _ (x.1 _ _ q13),rfl⟩,fun dM x25 H8 _=>⟨_,kD oC (bq m) (dz m),aj.intro H8 rfl fun GR rA F28=>⟨F28.ext,⟨(fun _=>⟨GR,rfl,F28.own⟩),(fun h=>by cases h)⟩,(fun h=>by cases h)⟩⟩,⟨.bad,(fun h=>by cases h)⟩,fun mb _=>⟨fun kL x30 NT hS hc=>?_,⟨.nilFunc,fun _=>rfl⟩,fun qk aec ku x34 w34 hS hC=>?_⟩⟩
 ·obtain ⟨l,rfl,hA⟩:=hS.1.1 rfl
  obtain ⟨v',s',e1,g1,m1,_,n1⟩:=bt.append oC bq dz NT hc (Eb bq hA.at) (by simp;omega) ef
  have t1:=bt.tag hc
  refine ⟨v',s',e1,⟨⟨fun l cs o=>o.mut m1 fun hy=>?_,m1⟩,g1⟩,⟨(fun h=>by cases h),(fun _ y hy=>?_)⟩,fun _=>bt.one g1⟩
  ·have:=(t1 _ hy).uniq (Own.tag o);omega
  ·rcases n1 y hy with h | h
   ·exact .inl h
   ·exact vQ x30.2 h
 have Mn:=hS.2.1.2 rfl
 have WN:bt ig 21 ku qk (L++[m]):=hC
 have Vg:=x34.1 _ _ wj
 have b34:bt rR 16 ku bh B:=bt.eW Jk x34.2 fun y hy g t=>by
  have:=t.uniq (bt.tag a13 y hy);omega
 refine cL (aec rfl) yK (bu.own w34 Vg (by simp [Z2]) fun k5 P37=>?_)
 have YG:Am.Own k5 p (fZ v' qk bh hd):=by
  have:=P37.at
  rw [fk,Nat.zero_add,aaa hvl] at this;exact this
 have t34:∀ y∈[p],∀ g,Tag ku y g→g=0:=fun y hy g t=>by
  obtain rfl:=List.mem_singleton.1 hy
  exact t.uniq (Own.tag Vg)
 have Kc:bt ig 21 k5 qk (L++[m]):=bt.eW WN P37.mut fun y hy g t=>by rw [t34 y hy g t];decide
 have b37:bt rR 16 k5 bh B:=bt.eW b34 P37.mut fun y hy g t=>by rw [t34 y hy g t];decide
 have hs':=AF hvl qk bh hd
 have agh:=pC hvl qk bh hd
 have T4:∀ s',Am.Own s' p (fZ v' qk bh hd)→av s' p (0+19)=some bh:=fun s' o=>by rw [o.at.av];exact hs'.2.1
 have rv:∀ s',Am.Own s' p (fZ v' qk bh hd)→aB s' p (0+2) 16=some (rR vm):=fun s' o=>by rw [o.at.aB (by rw [agh];omega),CA hvl];rfl
 refine ⟨fun a b=>(∀ l cs,Am.Own a l cs→Am.Own b l cs)∧bD (ay bh) a b,fun q _ v s'=>bt rR 16 s' v (B++[vm]),fun s'=>bt rR 16 s' bh B,
  fun q _ v s'=>(q=9→∃ l,v=.slc (some (l,0)) 1 1 true∧Am.Own s' l (rR vm))∧(q=10→∀ y∈ay v,y∈ay bh∨k5.h y=none),
  fun q _ v=>(q=10→v.one=true),fun a b e=>⟨fun l cs o=>o.ext e,e.mut⟩,fun a b c x y=>⟨fun l cs o=>y.1 l cs (x.1 l cs o),x.2.trans y.2⟩,fun q _ v a b e g=>g.ext e,?_,fun a b e g=>g.ext e,b37,?_⟩
 ·rintro q ks v a b ⟨x1,_⟩ ⟨g1,g2⟩
  refine ⟨fun hq=>?_,g2⟩
  obtain ⟨l,e,hA⟩:=g1 hq
  exact ⟨l,e,x1 _ _ hA⟩
 refine ⟨fun s' _ _=>rfl,_,T4 _ YG,fun s' x _=>⟨_,T4 _ (x.1 _ _ YG),rfl⟩,fun s' _ _=>rfl,_,rv _ YG,fun s' x _=>⟨_,rv _ (x.1 _ _ YG),rfl⟩,fun tH x54 w54 _=>⟨_,kD gP (cI vm) (mY vm),aj.intro w54 rfl fun GR rA F28=>⟨F28.ext,⟨(fun _=>⟨GR,rfl,F28.own⟩),(fun h=>by cases h)⟩,(fun h=>by cases h)⟩⟩,⟨.bad,(fun h=>by cases h)⟩,fun CO _=>⟨fun vl x59 w59 hS hc=>?_,⟨.nilFunc,fun _=>rfl⟩,fun WM ajh A3 x63 w63 hS hC=>?_⟩⟩
 ·obtain ⟨l,rfl,hA⟩:=hS.1.1 rfl
  obtain ⟨v',s',e1,g1,m1,_,n1⟩:=bt.append gP cI mY w59 hc (Eb cI hA.at) (by simp;omega) dB
  have t1:=bt.tag hc
  refine ⟨v',s',e1,⟨⟨fun l cs o=>o.mut m1 fun hy=>?_,m1⟩,g1⟩,⟨(fun h=>by cases h),(fun _ y hy=>?_)⟩,fun _=>bt.one g1⟩
  ·have:=(t1 _ hy).uniq (Own.tag o);omega
  ·rcases n1 y hy with h | h
   ·exact .inl h
   ·exact vQ x59.2 h
 have WS:=hS.2.1.2 rfl
 have g62:bt rR 16 A3 WM (B++[vm]):=hC
 have o63:=x63.1 _ _ YG
 have g63:bt ig 21 A3 qk (L++[m]):=bt.eW Kc x63.2 fun y hy g t=>by
  have:=t.uniq (bt.tag b37 y hy);omega
 refine cL (ajh rfl) rz (bu.own w63 o63 (by simp [agh]) fun Mt P66=>⟨rfl,?_⟩)
 have o66:Am.Own Mt p (fZ v' qk WM hd):=by
  have:=P66.at
  rw [fk,Nat.zero_add,aab hvl] at this;exact this
 have t63:∀ y∈[p],∀ g,Tag A3 y g→g=0:=fun y hy g t=>by
  obtain rfl:=List.mem_singleton.1 hy
  exact t.uniq (Own.tag o63)
 have g66:bt ig 21 Mt qk (L++[m]):=bt.eW g63 P66.mut fun y hy g t=>by rw [t63 y hy g t];decide
 have v66:bt rR 16 Mt WM (B++[vm]):=bt.eW g62 P66.mut fun y hy g t=>by rw [t63 y hy g t];decide
 have MA:bD (p::(ay lg++ay bh)) s Mt:=(((WX.mono (by simp)).trans (x34.2.mono (fun y hy=>List.mem_cons_of_mem _ (List.mem_append_left _ hy)))).trans (P37.mut.mono (by simp))).trans ((x63.2.mono (fun y hy=>List.mem_cons_of_mem _ (List.mem_append_right _ hy))).trans (P66.mut.mono (by simp)))
 have inF:∀ y∈p::(ay lg++ay bh),y∈F:=fun y hy=>by
  rcases List.mem_cons.1 hy with rfl | hy
  ·exact h2
  ·rcases List.mem_append.1 hy with hy | hy
   ·exact a2 y hy
   ·exact b2 y hy
 refine ⟨p::(ay qk++ay WM),⟨hvl,qk,WM,hd,L++[m],B++[vm],o66,by simp,⟨g66,fun y hy=>by simp [hy],by simp [a3]⟩,⟨v66,fun y hy=>by simp [hy],by simp [b3]⟩⟩,MA.mono inF,fun y hy=>?_,fun y hy=>?_,fun l cs g hl wC EH g0=>MA.1 l _ (fun hm=>?_) hl⟩
 ·rcases List.mem_cons.1 hy with rfl | hy
  ·exact .inl h2
  ·rcases List.mem_append.1 hy with hy | hy
   ·rcases Mn y hy with h | h
    ·exact .inl (a2 y h)
    ·rcases vQ WX h with h | h
     ·obtain rfl:=List.mem_singleton.1 h;exact .inl h2
     ·exact .inr h
   ·rcases WS y hy with h | h
    ·exact .inl (b2 y h)
    ·have M37:bD (p::ay lg) s k5:=((WX.mono (by simp)).trans (x34.2.mono (fun y hy=>List.mem_cons_of_mem _ hy))).trans (P37.mut.mono (by simp))
     rcases vQ M37 h with h | h
     ·rcases List.mem_cons.1 h with rfl | h
      ·exact .inl h2
      ·exact .inl (a2 y h)
     ·exact .inr h
 ·rcases List.mem_cons.1 hy with rfl | hy
  ·rw [o66];simp
  ·rcases List.mem_append.1 hy with hy | hy
   ·exact bt.lJ g66 y hy
   ·exact bt.lJ v66 y hy
 ·rcases List.mem_cons.1 hm with rfl | hm
  ·exact g0 (Tag.uniq ⟨cs,hl⟩ (Own.tag h1)) rfl
  ·rcases List.mem_append.1 hm with hm | hm
   ·exact wC (Tag.uniq ⟨cs,hl⟩ (bt.tag a1 _ hm))
   ·exact EH (Tag.uniq ⟨cs,hl⟩ (bt.tag b1 _ hm))
end
end Go.Proofs.YtohgmogbabkkeaaGreat
end

section
namespace Go.Proofs.YtohgmogbabkkeaaGreat
open Go.Am Go.au Go.aC Go.bW
def oE (v:List Int) (dL:List UInt8) (vM:List Int) (to:List GY):Ev:=⟨⟨1,IntKind.wrap .u64 (v.getD 0 0+1)⟩,dL,vM,v,to⟩
section
variable {F:List Nat} {s:AS} {p n:Nat} {v:List Int}
set_option maxRecDepth 20000 in
theorem Qq (h:IY F s p v n) (As:∀ y∈F,s.h y≠none) {dL:List UInt8} {pv tv:AV} {vM:List Int} {to:List GY} (gp:Sl qH 1 s pv vM) (gt:Sl rY 3 s tv to) (hp:vM.length≤2 ^ 29) (ht:to.length≤2 ^ 29) (hn:n+1≤2 ^ 29) :
  aa Tryz.prog bF [.ptr (some (p,0)),.str dL,pv,tv] s fun r s' =>
   (oD (oE v dL vM to)=false∧(∃ g,r=.aQ [.agg g,.bool false]∧g.all AV.one=true∧g.length=21)∧Ext s s') ∨
   (oD (oE v dL vM to)=true∧(∃ g,r=.aQ [.agg g,.bool true]∧g.all AV.one=true∧g.length=21)∧∃ F',IY F' s' p (v.set 0 (IntKind.wrap .u64 (v.getD 0 0+1))) (n+1)∧bD F s s'∧(∀ y∈F',y∈F∨s.h y=none)∧(∀ y∈F',s'.h y≠none)∧yw p s s'):=by
 refine aa.pre fun hw=>vB _ _ _ _ _ _ (aj.intro hw rfl fun l1 s2 F2=>?_)
 have o2:Am.Own s2 l1 NY:=F2.own
 obtain ⟨hl,lg,bh,hd,L,B,Er,_⟩:=id (h.ext F2.ext)
 have yB:=pC hl lg bh hd
 have hx:ag T c_ (.ptr (some (p,0+2))) (.int .i64 (IntKind.wrap .i64 (1 - 1)))=some (.ptr (some (p,2+0))):=by
  rw [aV (by omega),Sc (by omega)];rfl
 refine ⟨fun q _ v s'=>(q=18→aT qH 1 [] s2 s' v vM)∧(q=24→aT rY 3 [] s2 s' v to)∧(q=26→∃ l,v=.ptr (some (l,0))∧Am.Own s' l NY∧s2.h l=none),fun q _ v=>(q=18∨q=24→v.one=true)∧(q=26→∃ l,v=.ptr (some (l,0))),fun q _ v a b e g=>⟨fun hq=>(g.1 hq).step e,fun hq=>(g.2.1 hq).step e,fun hq=>by obtain ⟨l,x,y,z⟩:=g.2.2 hq;exact ⟨l,x,y.ext e,z⟩⟩,1,by rw [Er.at.av];rfl,1,by rw [Er.at.av];rfl,_,_,hx,_,by rw [Er.at.av,NB hl lg bh _ (by omega)],_,Au _ _,fun f_ Lb w15 _=>?_,⟨.slc none 0 0 true,(fun _=>rfl),(fun h=>by cases h)⟩,fun tI aji=>⟨_,Er.at.aB (by rw [yB];omega),fun fO Y3 w22 _=>?_,⟨.slc none 0 0 true,(fun _=>rfl),(fun h=>by cases h)⟩,fun WT ajj=>?_⟩⟩
 ·refine aT.kU gr bT Nu w15 (aT.start (M:=[]) Lb.mut) (by simp) (gp.ext (F2.ext.trans Lb)) (by simp;omega) aL fun v' s' g w' m=>?_
  exact ⟨(show bD [] f_ s' from m).ext,⟨(fun _=>by simpa using g),(fun h=>by cases h),(fun h=>by cases h)⟩,(fun _=>g.iW.2),(fun h=>by cases h)⟩
 ·refine aT.kU uy d_ ux w22 (aT.start (M:=[]) Y3.mut) (by simp) (gt.ext (F2.ext.trans Y3)) (by simp;omega) fH fun v' s' g w' m=>?_
  exact ⟨(show bD [] fO s' from m).ext,⟨(fun h=>by cases h),(fun _=>by simpa using g),(fun h=>by cases h)⟩,(fun _=>g.iW.2),(fun h=>by cases h)⟩
 rw [CA hl]
 have k1:=aji.1 (.inl rfl)
 have k2:=ajj.1 (.inr rfl)
 let m:nE:=⟨oE v dL vM to,tI,WT,hl,k1,k2⟩
 have ev:=bq m
 refine ⟨_,Qo hl k1 k2,fun mQ e27 w27 _=>aj.intro w27 rfl fun Dh z4 F29=>⟨F29.ext,⟨(fun h=>by cases h),(fun h=>by cases h),(fun _=>⟨Dh,rfl,F29.own,e27.none F29.no⟩)⟩,(fun h=>by rcases h with h | h <;> cases h),(fun _=>⟨Dh,rfl⟩)⟩,⟨.ptr (some (0,0)),(fun h=>by rcases h with h | h <;> cases h),(fun _=>⟨0,rfl⟩)⟩,fun v30 ajk=>?_⟩
 obtain ⟨l,rfl⟩:=ajk.2 rfl
 refine ⟨_,rfl,fun lS Y_ YM hS=>?_⟩
 have xY:=hS.1.1 rfl
 have wh:=hS.2.1.2.1 rfl
 obtain ⟨l',hl',TP,n32⟩:=hS.2.2.1.2.2 rfl
 simp only [AV.ptr.injEq,Option.some.injEq,Prod.mk.injEq,and_true] at hl'
 subst hl'
 refine ⟨⟨dz m,congrArg some ev.symm⟩,bu.own YM TP (vs:=ig m) (by rw [ev];exact Nat.le_refl _) fun oI P36=>?_⟩
 have MC:Am.Own oI l (ig m):=by
  have:=P36.at
  rw [dD (by rw [show NY.length=21 from rfl];exact ev)] at this;exact this
 have Wk:Ext s oI:=Ext.wr (F2.ext.trans Y_) (F2.ext.none n32) P36.mut
 have d1:l1≠l:=fun e=>by rw [← e,o2] at n32;cases n32
 have p36:Am.Own oI l1 NY:=(o2.ext Y_).mut P36.mut (by simpa using d1)
 have t32:∀ y∈[l],∀ g,Tag lS y g→g=0:=fun y hy g t=>by
  obtain rfl:=List.mem_singleton.1 hy
  exact t.uniq (Own.tag TP)
 have b36:bt qH 1 oI tI vM:=bt.eW xY.wq P36.mut fun y hy g t=>by rw [t32 y hy g t];decide
 have d36:bt rY 3 oI WT to:=bt.eW wh.wq P36.mut fun y hy g t=>by rw [t32 y hy g t];decide
 have hE:Cy oI m:=⟨b36.sl bT,d36.sl d_⟩
 refine ⟨_,MC.at.aB (by omega),?_⟩
 rw [gC]
 refine aa.use (abG (h.ext Wk) hE) ?_
 rintro yW Fj ⟨rfl,e41⟩ w41
 have E41:=Wk.trans e41
 refine ⟨_,rfl,af.mk (fun hb=>⟨_,Lv,?_⟩) (fun hb=>?_)⟩
 ·have hb':oD (oE v dL vM to)=false:=by simpa using hb
  exact ⟨⟨rfl,rfl⟩,bu.own w41 (p36.ext e41) (Nat.le_refl _) fun s7 P=>⟨NY,(IX rfl rfl P).2,.inl ⟨hb',⟨_,rfl,rfl,rfl⟩,Ext.wr E41 F2.no P.mut⟩⟩⟩
 have hok:oD (oE v dL vM to)=true:=by simpa using hb
 have Td:=hok
 simp only [oD,tE,Bool.and_eq_true,decide_eq_true_eq] at Td
 have hid:m.ev.id.may=true:=Td.1.1.1.1.1.1.1.1
 have o41:=MC.ext e41
 refine ⟨_,o41.at.aB (by omega),?_⟩
 rw [gC]
 refine aa.use (Wj (h.ext E41) hid hn) ?_
 rintro v49 pG ⟨rfl,F',Ul,M50,aci,ajl,K50⟩ w50
 have nF:∀ y,s.h y=none→y ∉ F:=fun y hn hy=>As y hy hn
 have o50:Am.Own pG l (ig m):=o41.mut M50 (nF _ (F2.ext.none n32))
 have p50:Am.Own pG l1 NY:=(p36.ext e41).mut M50 (nF _ F2.no)
 refine ⟨rfl,_,o50.at.aB (by omega),?_⟩
 rw [gC]
 refine ⟨⟨dz m,by rw [ev]⟩,bu.own w50 p50 (by rw [ev];exact Nat.le_refl _) fun s7 P=>?_⟩
 obtain ⟨_,hrd⟩:=IX ev rfl P
 have GJ:l1 ∉ F':=fun hy=>by
  rcases aci l1 hy with h | h
  ·exact nF _ F2.no h
  ·rw [p36.ext e41] at h;cases h
 refine ⟨_,hrd,.inr ⟨hok,⟨_,rfl,dz m,bq m⟩,F',Ul.mut P.mut (fun y hy=>by obtain rfl:=List.mem_singleton.1 hy;exact GJ),?_,?_,?_,fun y cs g hy h21 h16 h0=>?_⟩⟩
 ·refine ⟨fun y o hy ho=>?_,Nat.le_trans E41.2 (Nat.le_trans M50.2 (by rw [P.nl];exact Nat.le_refl _))⟩
  have hne:y≠l1:=fun e=>by rw [e,F2.no] at ho;cases ho
  rw [P.eq y hne]
  exact M50.1 y o hy (E41.1 _ _ ho)
 ·intro y hy
  rcases aci y hy with h | h
  ·exact .inl h
  ·exact .inr (E41.none h)
 ·intro y hy
  have hne:y≠l1:=fun e=>GJ (e ▸ hy)
  rw [P.eq y hne]
  exact ajl y hy
 ·have hne:y≠l1:=fun e=>by rw [e,F2.no] at hy;cases hy
  rw [P.eq y hne]
  exact K50 y cs g (E41.1 _ _ hy) h21 h16 h0
end
section
variable {F:List Nat} {s:AS} {q:Nat} {x:aI}
theorem abH (h:qd F s q x) (hn:x.ex.length≤2 ^ 40):aa Tryz.prog nQ [.ptr (some (q,0)),.int .i64 1] s fun r s'=>s'=s∧∃ m:Int,r=.int .u64 m∧0≤m∧x.has ⟨1,m+1⟩=false∧(m=0∨x.has ⟨1,m⟩=true):=by
 obtain ⟨⟨hvv,hr,hm⟩,_,w,iw,I,a,⟨b1,b2,b3⟩,_⟩:=h
 have hv:=hvv.len
 have hx:ag T c_ (.ptr (some (q,0))) (.int .i64 (IntKind.wrap .i64 (1 - 1)))=some (.ptr (some (q,0))):=by
  rw [aV (by omega),Sc (by omega)];rfl
 have Ag:av s q (0+16)=some w:=by
  rw [a.at.av,List.getElem?_append_right (by simp [hv])];simp [hv]
 have h0:av s q 0=some (.int .u64 (x.v.getD 0 0)):=by
  rw [a.at.av,List.getElem?_append_left (by simp;omega),List.getElem?_map,List.getElem?_eq_getElem (by omega),List.getD_eq_getElem?_getD,List.getElem?_eq_getElem (show 0<x.v.length by omega)];rfl
 have hs:=b3.sl bn
 refine DF _ _ _ _ ⟨_,_,hx,_,h0,fun m' vs s'=>∃ (i:Nat) (m:Int),vs=[.int .u64 m,.int .i64 (i:Nat)]∧i≤x.ex.length∧m'=x.ex.length - i∧s'=s∧x.v.getD 0 0≤m∧(∀ e∈x.ex.take i,e.r=1→e.c≤m)∧(m=x.v.getD 0 0∨∃ e∈x.ex,e.r=1∧e.c=m),x.ex.length,⟨0,_,rfl,by omega,rfl,rfl,Int.le_refl _,by simp,.inl rfl⟩,?_⟩
 rintro m' n9 j9 fI ⟨i,m,hi,h6,rfl,rfl,h1,h2,h3⟩
 simp only [List.cons.injEq,AV.int.injEq,true_and,and_true] at hi
 obtain ⟨rfl,rfl⟩:=hi
 refine ⟨w,Ag,_,hs.cG bG _,af.dec (fun hlt=>?_) (fun hge=>?_)⟩
 ·obtain ⟨e,he⟩:=cW (l:=x.ex) (i:=i) (by omega)
  obtain ⟨la,o,k8,k9⟩:=hs.ix (by decide) bn bG jZ he
  have hr0:av fI la o=some (.int .i64 e.r):=by have:=(k9 _ (Ext.refl _)).1 0 (by omega);simpa [aN] using this
  have Oa:av fI la (o+1)=some (.int .u64 e.c):=by rw [(k9 _ (Ext.refl _)).1 1 (by omega)];rfl
  have ht:x.ex.take (i+1)=x.ex.take i++[e]:=by rw [List.take_add_one,he];rfl
  refine ⟨fun vs s'=>s'=fI∧vs=[.bool (decide (e.r=1)&&decide (e.c>n9))],?_,w,Ag,la,o,k8 _,e.r,hr0,af.mk (fun hb=>⟨w,Ag,la,o,k8 _,e.c,Oa,rfl,?_⟩) (fun hb=>⟨rfl,?_⟩)⟩
  ·rintro b eC ⟨rfl,hb⟩
   simp only [List.cons.injEq,AV.bool.injEq,and_true] at hb
   subst hb
   refine af.mk (fun hb=>⟨w,Ag,la,o,k8 _,e.c,Oa,x.ex.length - (i+1),by omega,i+1,e.c,by rw [Cp (by omega)],by omega,rfl,rfl,?_,?_,.inr ⟨e,List.mem_of_getElem? he,?_⟩⟩) (fun hb=>⟨x.ex.length - (i+1),by omega,i+1,n9,by rw [Cp (by omega)],by omega,rfl,rfl,h1,?_,h3⟩)
   ·simp at hb;omega
   ·simp at hb
    rw [ht]
    intro y hy hy1
    rcases List.mem_append.1 hy with hy | hy
    ·have:=h2 y hy hy1;omega
    ·obtain rfl:=List.mem_singleton.1 hy;omega
   ·simp at hb;exact ⟨hb.1,rfl⟩
   ·simp at hb
    rw [ht]
    intro y hy hy1
    rcases List.mem_append.1 hy with hy | hy
    ·exact h2 y hy hy1
    ·obtain rfl:=List.mem_singleton.1 hy;exact hb hy1
  ·simp at hb;simp [hb]
  ·simp at hb;simp [hb]
 ·obtain rfl:i=x.ex.length:=by omega
  rw [List.take_of_length_le (Nat.le_refl _)] at h2
  have hv0:=hvv.get 0
  refine ⟨rfl,n9,rfl,by omega,?_,?_⟩
  ·cases hq:x.has ⟨1,n9+1⟩ with
   | false=>rfl
   | true =>
    rcases (ur.1 hq).2 with h | h
    ·have:=h2 _ h rfl;simp only at this;omega
    ·simp only [show ((1:Int) - 1).toNat=0 from rfl] at h;omega
  ·rcases h3 with rfl | ⟨e,he,her,rfl⟩
   ·by_cases hz:x.v.getD 0 0=0
    ·exact .inl hz
    ·exact .inr (ur.2 ⟨aK.gz.2 (by simp only;omega),.inr (Int.le_refl _)⟩)
   ·have e2:(⟨1,e.c⟩:aK)=e:=by cases e;simp only at her;subst her;rfl
    rw [e2]
    exact .inr (ur.2 ⟨hm e he,.inl he⟩)
end
end Go.Proofs.YtohgmogbabkkeaaGreat
end

section
set_option maxRecDepth 100000
set_option maxHeartbeats 4000000
namespace Go.Proofs.YtohgmogbabkkeaaGreat
open Go.Am
def Te (a0:AV) (s:AS) (R:AV→AS→Prop):Prop :=
 aa Tryz.prog aS [a0] s fun v1 s2=>aj (.map [] 0 false) s2 fun l3 s4=>pN (aU T su [(0,v1),(1,(.map (some l3)))]) fun g5=>cF g5 (aj (.cells g5 0 false) s4 fun l6 s7=>R (.ptr (some (l6,0))) s7)
def Tf:QA:=(.seq .leaf (.seq .leaf .leaf))
theorem Tg (a0:AV) (s:AS) (R:AV→AS→Prop) (h:Te a0 s R):aa Tryz.prog q9 [a0] s R :=
 aa.q (n:=8) (rs:=[.tmp 2]) (A:=Tf) hT bU Tryz.func15 (by kernel_rfl) rfl rfl rfl (by kernel_rfl) (by kernel_rfl) h
def CB (a0:Option (Nat×Nat)) (s:AS) (R:AV→AS→Prop):Prop :=
 uD (iK T 100 zz (.ptr a0) (.ptr none)) fun b1=>af (!b1) (ai a0 fun l2 o3=>zO (av s l2 (o3+1)) fun r4=>uD (iK T 100 aF (.map r4) (.map none)) fun b5=>R (.bool (!b5)) s) (R (.bool false) s)
def CC:QA:=(.seq .leaf (.seq .leaf .leaf))
theorem CD (a0:Option (Nat×Nat)) (s:AS) (R:AV→AS→Prop) (h:CB a0 s R):aa Tryz.prog dV [(.ptr a0)] s R :=
 aa.q (n:=12) (rs:=[.tmp 2]) (A:=CC) hT bU Tryz.func75 (by kernel_rfl) rfl rfl rfl (by kernel_rfl) (by kernel_rfl) h
def CE (a0:Option (Nat×Nat)) (a1:List UInt8) (a2:Bool) (s:AS) (R:AV→AS→Prop):Prop :=
 aa Tryz.prog dV [(.ptr a0)] s fun v1 s2=>∃ b3:Bool,v1=.bool b3∧(af (!b3)
 (R (.int .i64 1) s2)
 (bw fun J4 =>
 (∀ b5:Bool,∀ s6:AS,J4 [(.bool b5)] s6 →
 af b5
 (R (.int .i64 2) s6)
 (ai a0 fun l7 o8=>zO (av s6 l7 (o8+1)) fun r9=>qi (dI T aF (.map r9) (.str a1) false s6) fun p10=>uD (iK T 100 fQ (.ptr p10) (.ptr none)) fun b11=>af b11
 (R (.int .i64 7) s6)
 (R (.int .i64 0) s6))) ∧
 (aa Tryz.prog fP [(.str a1)] s2 fun i_ bS=>∃ FB:Bool,i_=.bool FB∧(af (!FB) (J4 [(.bool true)] bS) (J4 [(.bool (!a2))] bS)))))
def CF:QA:=(.seq .leaf (.seq (.wrap (.seq .leaf (.cond (.seq .leaf .leaf) (.join [(11,.bool)] [(11,18)] .leaf (.cond (.seq .leaf .leaf) (.seq .leaf (.cond (.seq .leaf .leaf) .leaf))))))) (.seq .leaf .leaf)))
theorem CG (a0:Option (Nat×Nat)) (a1:List UInt8) (a2:Bool) (s:AS) (R:AV→AS→Prop) (h:CE a0 a1 a2 s R):aa Tryz.prog dW [(.ptr a0),(.str a1),(.bool a2)] s R :=
 aa.q (n:=27) (rs:=[.tmp 6]) (A:=CF) hT bU Tryz.func78 (by kernel_rfl) rfl rfl rfl (by kernel_rfl) (by kernel_rfl) h
def AG (a0:Option (Nat×Nat)) (a1:List UInt8) (a2:AV) (s:AS) (R:AV→AS→Prop):Prop :=
 aa Tryz.prog dV [(.ptr a0)] s fun v1 s2=>∃ b3:Bool,v1=.bool b3∧(af (!b3)
 (R (.int .i64 1) s2)
 (aa Tryz.prog fP [(.str a1)] s2 fun v4 s5=>∃ b6:Bool,v4=.bool b6∧(af (!b6)
 (R (.int .i64 2) s5)
 (ai a0 fun l7 o8=>zO (av s5 l7 (o8+1)) fun r9=>qi (dI T aF (.map r9) (.str a1) false s5) fun p10=>uD (iK T 100 fQ (.ptr p10) (.ptr none)) fun b11=>af (!b11)
 (R (.int .i64 7) s5)
 (ai a0 fun rP wj=>dJ (av s5 rP wj) fun tK=>aa Tryz.prog oS [tK,(.str a1),a2] s5 fun yV kr=>∃ PL:List AV,∃ JF:Int,yV=.aQ [(.agg PL),(.int .i64 JF)]∧(aj (.cells [.int .u64 0,.int .u64 0,.int .u64 0,.int .u64 0,.int .u64 0,.int .u64 0,.int .u64 0,.int .u64 0,.int .u64 0,.int .u64 0,.int .u64 0,.int .u64 0,.int .u64 0,.int .u64 0,.int .u64 0,.int .u64 0] 0 false) kr fun A1 fN=>fj (some 16) PL (bu (cN fN A1 0 PL) fun gn=>af ((JF:Int) != 0)
 (R (.int .i64 JF) gn)
 (ai a0 fun BG GQ=>zO (av gn BG (GQ+1)) fun r24=>aW .i64 (aP T aF (.map r24) gn) fun ql=>af (decide ((ql:Int)≥64))
 (R (.int .i64 5) gn)
 (gu fun S V=>ai a0 fun Dn Fh=>zO (av gn Dn (Fh+1)) fun r28=>aR (aB gn A1 0 16) fun RV=>pN (aU T oH [(0,(.agg RV))]) fun z7=>(∀ nA:AS,Ext gn nA→aM nA→(True)→cF z7 (aj (.cells z7 0 false) nA fun Ms qR=>(Ext nA qR∧S 7 [(.agg z7)] (.ptr (some (Ms,0))) qR∧V 7 [(.agg z7)] (.ptr (some (Ms,0))))))∧(∃ v,V 7 [(.agg z7)] v)∧∀ VE:AV,V 7 [(.agg z7)] VE→∃ p35:Option (Nat×Nat),VE=.ptr p35∧(∀ oI:AS,Ext gn oI→aM oI→(S 7 [(.agg z7)] (.ptr p35) oI∧True)→bu (dN T aF (.map r28) (.str a1) (.ptr p35) oI) fun xT=>R (.int .i64 0) xT))))))))))
def AH:QA:=(.seq .leaf (.seq (.wrap (.seq .leaf (.cond (.seq .leaf .leaf) (.seq .leaf (.cond (.seq .leaf .leaf) (.seq .leaf (.cond (.seq .leaf .leaf) .leaf))))))) (.seq .leaf (.seq (.wrap (.seq .leaf (.cond (.seq .leaf .leaf) (.seq .leaf (.cond (.seq .leaf .leaf) .leaf))))) (.seq (.gL 8 [[],[],[],[],[],[],[],[]] [7]) (.seq .leaf .leaf))))))
theorem AI (a0:Option (Nat×Nat)) (a1:List UInt8) (a2:AV) (s:AS) (R:AV→AS→Prop) (h:AG a0 a1 a2 s R):aa Tryz.prog eD [(.ptr a0),(.str a1),a2] s R :=
 aa.q (n:=54) (rs:=[.tmp 6]) (A:=AH) hT bU Tryz.func18 (by kernel_rfl) rfl rfl rfl (by kernel_rfl) (by kernel_rfl) h
def Qr (a0:List UInt8) (a1:Option (Nat×Nat)) (a2:List AV) (a3:Option (Nat×Nat)) (s:AS) (R:AV→AS→Prop):Prop :=
 cF a2 (aj (.cells a2 0 false) s fun l1 s2=>aj (.cells [(.ptr a3)] 0 false) s2 fun l3 s4=>aR (aB s4 l1 0 21) fun g5=>aa Tryz.prog z0 [(.agg g5),(.str a0)] s4 fun v6 s7=>ai a1 fun l8 o9=>aR (aB s7 l8 o9 16) fun Dp=>aR (aB s7 l1 0 2) fun K8=>aa Tryz.prog sS [(.agg Dp),(.agg K8)] s7 fun i_ bS=>∃ FB:Bool,i_=.bool FB∧(af FB (R (.bool false) bS) (aW .i64 (aP T az v6 bS) fun wR=>af ((wR:Int)==0)
 (R (.bool false) bS)
 (qi (av bS l3 0) fun p16=>Jh (av bS l1 2) fun x17=>pN (aU T oX [(0,(.str x17)),(1,(.str a0))]) fun xY=>aa Tryz.prog pP [(.ptr p16),(.agg xY)] bS fun wT fN=>∃ YI:Bool,wT=.bool YI∧(af YI (R (.bool true) fN) (aa Tryz.prog dY [v6,(.func sU [(.ptr (some (l3,0)))])] fN fun qm rO=>∃ VI:Bool,qm=.bool VI∧(R (.bool VI) rO)))))))
def Qs:QA:=(.seq .leaf (.seq .leaf (.seq (.seq (.draw 6) (.cond (.seq .leaf .leaf) .leaf)) (.seq .leaf .leaf))))
theorem Qt (a0:List UInt8) (a1:Option (Nat×Nat)) (a2:List AV) (a3:Option (Nat×Nat)) (s:AS) (R:AV→AS→Prop) (h:Qr a0 a1 a2 a3 s R):aa Tryz.prog xI [(.str a0),(.ptr a1),(.agg a2),(.ptr a3)] s R :=
 aa.q (n:=36) (rs:=[.tmp 8]) (A:=Qs) hT bU Tryz.func160 (by kernel_rfl) rfl rfl rfl (by kernel_rfl) (by kernel_rfl) h
def Kz (a0:List AV) (c0:Option (Nat×Nat)) (s:AS) (R:AV→AS→Prop):Prop :=
 cF a0 (aj (.cells a0 0 false) s fun l1 s2=>ai c0 fun l3 o4=>qi (av s2 l3 o4) fun p5=>aR (aB s2 l1 0 2) fun g6=>aa Tryz.prog nV [(.ptr p5),(.agg g6)] s2 fun v7 s8=>∃ b9:Bool,v7=.bool b9∧(R (.bool (!b9)) s8))
def KA:QA:=(.seq .leaf (.seq .leaf .leaf))
theorem KB (a0:List AV) (c0:Option (Nat×Nat)) (s:AS) (R:AV→AS→Prop) (h:Kz a0 c0 s R):aa Tryz.prog sU [(.agg a0),(.ptr c0)] s R :=
 aa.q (n:=8) (rs:=[.tmp 3]) (A:=KA) hT bU Tryz.func214 (by kernel_rfl) rfl rfl rfl (by kernel_rfl) (by kernel_rfl) h
def AJ (a0:Option (Nat×Nat)) (a1:List UInt8) (a2:Option (Nat×Nat)) (a3:Option (Nat×Nat)) (a4:AV) (s:AS) (R:AV→AS→Prop):Prop :=
 ai a0 fun l1 o2=>aW .i64 (av s l1 (o2+16)) fun n3=>bC fun I4 m5=>I4 m5 [(.int .i64 n3)] s ∧
 ∀ m6:Nat,∀ n7:Int,∀ s8:AS,I4 m6 [(.int .i64 n7)] s8 →
 aa Tryz.prog mD [(.ptr a2)] s8 fun v9 jD=>∃ iN:Int,v9=.int .i64 iN∧(af (decide ((n7:Int)<iN))
 (aa Tryz.prog nT [(.ptr a2),(.int .i64 n7)] jD fun i_ bS=>∃ lY:List AV,∃ z5:List AV,∃ b16:Bool,i_=.aQ [(.agg lY),(.agg z5),(.bool b16)]∧(aj (.cells [.int .i64 0,.int .u64 0,.str [],.slc none 0 0 true,.int .u64 0,.int .u64 0,.int .u64 0,.int .u64 0,.int .u64 0,.int .u64 0,.int .u64 0,.int .u64 0,.int .u64 0,.int .u64 0,.int .u64 0,.int .u64 0,.int .u64 0,.int .u64 0,.int .u64 0,.int .u64 0,.slc none 0 0 true] 0 false) bS fun j_ eC=>aj (.cells [.int .u64 0,.int .u64 0,.int .u64 0,.int .u64 0,.int .u64 0,.int .u64 0,.int .u64 0,.int .u64 0,.int .u64 0,.int .u64 0,.int .u64 0,.int .u64 0,.int .u64 0,.int .u64 0,.int .u64 0,.int .u64 0] 0 false) eC fun A1 fN=>fj (some 21) lY (bu (cN fN j_ 0 lY) fun gn=>fj (some 16) z5 (bu (cN gn A1 0 z5) fun fO=>bw fun J23 =>
 (∀ VI:Bool,∀ dM:AS,J23 [(.bool VI)] dM →
 af VI
 (R (.int .i64 (IntKind.wrap .i64 (n7+1))) dM)
 (∃ m',m'<m6∧I4 m' [(.int .i64 (IntKind.wrap .i64 (n7+1)))] dM)) ∧
 (aR (aB fO j_ 0 21) fun Fx=>aa Tryz.prog xI [(.str a1),(.ptr a0),(.agg Fx),(.ptr a3)] fO fun K4 rA=>∃ Zq:Bool,K4=.bool Zq∧(af Zq (aR (aB rA j_ 0 21) fun z7=>aR (aB rA A1 0 16) fun Mr=>en Tryz.prog a4 [(.agg z7),(.agg Mr)] rA fun Vn qR=>∃ b34:Bool,Vn=.bool b34∧(J23 [(.bool (!b34))] qR)) (J23 [(.bool false)] rA)))))))
 (R (.int .i64 n7) jD))
def AK:QA:=(.seq .leaf (.seq .leaf (.seq (.wrap (.loop [(11,.int .i64)] [(10,14),(19,45)] (.seq (.seq .leaf (.cond .leaf .leaf)) (.seq (.wrap (.seq .leaf (.join [(43,.bool)] [(32,43)] .leaf (.cond (.seq .leaf .leaf) .leaf)))) .leaf)))) (.seq .leaf .leaf))))
theorem AL (a0:Option (Nat×Nat)) (a1:List UInt8) (a2:Option (Nat×Nat)) (a3:Option (Nat×Nat)) (a4:AV) (s:AS) (R:AV→AS→Prop) (h:AJ a0 a1 a2 a3 a4 s R):aa Tryz.prog bQ [(.ptr a0),(.str a1),(.ptr a2),(.ptr a3),a4] s R :=
 aa.q (n:=47) (rs:=[.tmp 10]) (A:=AK) hT bU Tryz.func79 (by kernel_rfl) rfl rfl rfl (by kernel_rfl) (by kernel_rfl) h
def Ec (a0:Option (Nat×Nat)) (a1:List UInt8) (a2:Int) (a3:Option (Nat×Nat)) (a4:Option (Nat×Nat)) (s:AS) (R:AV→AS→Prop):Prop :=
 aj (.cells [(.int .i64 a2)] 0 false) s fun l1 s2=>bw fun J3 =>
 (∀ b4:Bool,∀ s5:AS,J3 [(.bool b4)] s5 →
 af b4
 (R (.aQ [(.slc none 0 0 true),(.int .i64 1)]) s5)
 (bw fun J6 =>
 (∀ n7:Int,∀ s8:AS,J6 [(.int .i64 n7)] s8 →
 af ((n7:Int) != 0)
 (R (.aQ [(.slc none 0 0 true),(.int .i64 n7)]) s8)
 (ai a0 fun l9 Dq=>zO (av s8 l9 (Dq+1)) fun r11=>qi (dI T aF (.map r11) (.str a1) false s8) fun VO=>aj (.cells [(.ptr none)] 0 false) s8 fun tJ jT=>bu (cN jT tJ 0 [(.ptr VO)]) fun f_=>aj (.cells [(.slc none 0 0 true)] 0 false) f_ fun rU lZ=>tW lZ fun X C c S V=>qi (av lZ tJ 0) fun WZ=>(∀ eC:AS,X lZ eC→aM eC→qi (av eC tJ 0) fun p20=>(((.ptr p20):AV)=(.ptr WZ)))∧(qi (av lZ tJ 0) fun p22=>(∀ gn:AS,X lZ gn→aM gn→qi (av gn tJ 0) fun p23=>(((.ptr p23):AV)=(.ptr p22)))∧((∀ qx:AS,X lZ qx→aM qx→(((.func bK [(.ptr (some (rU,0))),(.ptr (some (tJ,0))),(.ptr (some (l1,0)))]):AV)=(.func bK [(.ptr (some (rU,0))),(.ptr (some (tJ,0))),(.ptr (some (l1,0)))])))∧((∀ dM:AS,X lZ dM→aM dM→(True)→c dM→aa Tryz.prog bQ [(.ptr p22),(.str a1),(.ptr a3),(.ptr a4),(.func bK [(.ptr (some (rU,0))),(.ptr (some (tJ,0))),(.ptr (some (l1,0)))])] dM fun K_ mQ=>∃ Jm:Int,K_=.int .i64 Jm∧(((X dM mQ∧C 6 [(.func bQ []),(.ptr p22),(.str a1),(.ptr a3),(.ptr a4),(.func bK [(.ptr (some (rU,0))),(.ptr (some (tJ,0))),(.ptr (some (l1,0)))])] (.int .i64 Jm) mQ)∧S 6 [(.func bQ []),(.ptr p22),(.str a1),(.ptr a3),(.ptr a4),(.func bK [(.ptr (some (rU,0))),(.ptr (some (tJ,0))),(.ptr (some (l1,0)))])] (.int .i64 Jm) mQ∧V 6 [(.func bQ []),(.ptr p22),(.str a1),(.ptr a3),(.ptr a4),(.func bK [(.ptr (some (rU,0))),(.ptr (some (tJ,0))),(.ptr (some (l1,0)))])] (.int .i64 Jm))))∧(∃ v,V 6 [(.func bQ []),(.ptr p22),(.str a1),(.ptr a3),(.ptr a4),(.func bK [(.ptr (some (rU,0))),(.ptr (some (tJ,0))),(.ptr (some (l1,0)))])] v)∧∀ mb:AV,V 6 [(.func bQ []),(.ptr p22),(.str a1),(.ptr a3),(.ptr a4),(.func bK [(.ptr (some (rU,0))),(.ptr (some (tJ,0))),(.ptr (some (l1,0)))])] mb→∃ A4:Int,mb=.int .i64 A4∧(∀ nA:AS,X lZ nA→aM nA→(S 6 [(.func bQ []),(.ptr p22),(.str a1),(.ptr a3),(.ptr a4),(.func bK [(.ptr (some (rU,0))),(.ptr (some (tJ,0))),(.ptr (some (l1,0)))])] (.int .i64 A4) nA∧True)→C 6 [(.func bQ []),(.ptr p22),(.str a1),(.ptr a3),(.ptr a4),(.func bK [(.ptr (some (rU,0))),(.ptr (some (tJ,0))),(.ptr (some (l1,0)))])] (.int .i64 A4) nA→ai WZ fun Ms YC=>bu (cN nA Ms (YC+16) [(.int .i64 A4)]) fun ku=>dJ (av ku rU 0) fun v35=>R (.aQ [v35,(.int .i64 0)]) ku)))))) ∧
 (aW .i64 (av s5 l1 0) fun Zi=>af (decide ((Zi:Int)≥1)) (aW .i64 (av s5 l1 0) fun n37=>aa Tryz.prog dW [(.ptr a0),(.str a1),(.bool (decide ((n37:Int)≤16)))] s5 fun HX yM=>∃ TQ:Int,HX=.int .i64 TQ∧(J6 [(.int .i64 TQ)] yM)) (aa Tryz.prog dW [(.ptr a0),(.str a1),(.bool false)] s5 fun Zj K7=>∃ n43:Int,Zj=.int .i64 n43∧(J6 [(.int .i64 n43)] K7))))) ∧
 (aa Tryz.prog dV [(.ptr a0)] s2 fun Pd xW=>∃ b46:Bool,Pd=.bool b46∧(af b46 (aa Tryz.prog fE [(.ptr a3)] xW fun Yz U8=>∃ p49:Option (Nat×Nat),Yz=.ptr p49∧(uD (iK T 100 iA (.ptr p49) (.ptr none)) fun b50=>af b50 (J3 [(.bool true)] U8) (aa Tryz.prog iu [(.ptr a4)] U8 fun Aj wv=>∃ p53:Option (Nat×Nat),Aj=.ptr p53∧(uD (iK T 100 lP (.ptr p53) (.ptr none)) fun b54=>J3 [(.bool b54)] wv)))) (J3 [(.bool false)] xW)))
def Ed:QA:=(.seq .leaf (.seq (.join [(26,.bool)] [(15,26)] .leaf (.cond (.seq .leaf .leaf) .leaf)) (.seq (.join [(12,.int .i64)] [(12,12),(27,35)] .leaf (.seq .leaf (.cond (.seq .leaf .leaf) .leaf))) (.seq .leaf (.seq .leaf (.seq (.vW [0,1,2,3,4,5,6] [7,8,9] [[],[],[],[],[],[],[]] [6] [6]) (.seq .leaf .leaf)))))))
theorem Ee (a0:Option (Nat×Nat)) (a1:List UInt8) (a2:Int) (a3:Option (Nat×Nat)) (a4:Option (Nat×Nat)) (s:AS) (R:AV→AS→Prop) (h:Ec a0 a1 a2 a3 a4 s R):aa Tryz.prog fA [(.ptr a0),(.str a1),(.int .i64 a2),(.ptr a3),(.ptr a4)] s R :=
 aa.q (n:=55) (rs:=[.tmp 10,.tmp 11]) (A:=Ed) hT bU Tryz.func19 (by kernel_rfl) rfl rfl rfl (by kernel_rfl) (by kernel_rfl) h
def AM (a0:List AV) (a1:List AV) (c0:Option (Nat×Nat)) (c1:Option (Nat×Nat)) (c2:Option (Nat×Nat)) (s:AS) (R:AV→AS→Prop):Prop :=
 cF a0 (aj (.cells a0 0 false) s fun l1 s2=>cF a1 (aj (.cells a1 0 false) s2 fun l3 s4=>tW s4 fun X C c S V=>ai c1 fun l6 o7=>qi (av s4 l6 o7) fun p8=>(∀ s5:AS,X s4 s5→aM s5→ai c1 fun l9 Dq=>qi (av s5 l9 Dq) fun p11=>(((.ptr p11):AV)=(.ptr p8)))∧((∀ dg:AS,X s4 dg→aM dg→(True)→c dg→ai c0 fun tJ JA=>dJ (av dg tJ JA) fun yV=>((X dg dg∧C 1 [(.ptr c0)] yV dg)∧S 1 [(.ptr c0)] yV dg∧V 1 [(.ptr c0)] yV))∧(∃ v,V 1 [(.ptr c0)] v)∧∀ oh:AV,V 1 [(.ptr c0)] oh→aR (aB s4 l1 0 21) fun xY=>(∀ lZ:AS,X s4 lZ→aM lZ→aR (aB lZ l1 0 21) fun GU=>(((.agg GU):AV)=(.agg xY)))∧((∀ fN:AS,X s4 fN→aM fN→(True)→aR (cZ T bO 1 [(0,(.agg xY))]) fun wC=>aj (.cells wC 0 false) fN fun BG rO=>(Ext fN rO∧S 3 [(.agg xY)] (.slc (some (BG,0)) 1 1 true) rO∧V 3 [(.agg xY)] (.slc (some (BG,0)) 1 1 true)))∧(∃ v,V 3 [(.agg xY)] v)∧∀ wU:AV,V 3 [(.agg xY)] wU→(∀ dM:AS,X s4 dM→aM dM→(S 1 [(.ptr c0)] oh dM∧(S 3 [(.agg xY)] wU dM∧True))→C 1 [(.ptr c0)] oh dM→iG (aJ T bO bO oh wU dM) fun K_ mQ=>((X dM mQ∧C 4 [oh,wU] K_ mQ)∧S 4 [oh,wU] K_ mQ∧V 4 [oh,wU] K_))∧(∃ v,V 4 [oh,wU] v)∧∀ Ai:AV,V 4 [oh,wU] Ai→ai c1 fun Si Xa=>qi (av s4 Si Xa) fun p32=>(∀ z4:AS,X s4 z4→aM z4→ai c1 fun l33 Vg=>qi (av z4 l33 Vg) fun p35=>(((.ptr p35):AV)=(.ptr p32)))∧(ai p32 fun OV JD=>(∀ oI:AS,X s4 oI→aM oI→ai p32 fun VF VG=>(((.ptr (some (VF,VG))):AV)=(.ptr (some (OV,JD)))))∧(dJ (av s4 OV (JD+17)) fun y4=>(∀ Fj:AS,X s4 Fj→aM Fj→dJ (av Fj OV (JD+17)) fun So=>((So:AV)=y4))∧(aR (aB s4 l3 0 16) fun VH=>(∀ FC:AS,X s4 FC→aM FC→aR (aB FC l3 0 16) fun g46=>(((.agg g46):AV)=(.agg VH)))∧((∀ wD:AS,X s4 wD→aM wD→(True)→aR (cZ T bp 1 [(0,(.agg VH))]) fun JE=>aj (.cells JE 0 false) wD fun WO pG=>(Ext wD pG∧S 10 [(.agg VH)] (.slc (some (WO,0)) 1 1 true) pG∧V 10 [(.agg VH)] (.slc (some (WO,0)) 1 1 true)))∧(∃ v,V 10 [(.agg VH)] v)∧∀ Aj:AV,V 10 [(.agg VH)] Aj→(∀ wv:AS,X s4 wv→aM wv→(S 1 [(.ptr c0)] oh wv∧(S 3 [(.agg xY)] wU wv∧(S 4 [oh,wU] Ai wv∧(S 10 [(.agg VH)] Aj wv∧True))))→C 4 [oh,wU] Ai wv→iG (aJ T bp bp y4 Aj wv) fun v53 tH=>((X wv tH∧C 11 [y4,Aj] v53 tH)∧S 11 [y4,Aj] v53 tH∧V 11 [y4,Aj] v53))∧(∃ v,V 11 [y4,Aj] v)∧∀ Jn:AV,V 11 [y4,Aj] Jn→(∀ zC:AS,X s4 zC→aM zC→(S 1 [(.ptr c0)] oh zC∧(S 3 [(.agg xY)] wU zC∧(S 4 [oh,wU] Ai zC∧(S 10 [(.agg VH)] Aj zC∧(S 11 [y4,Aj] Jn zC∧True)))))→C 11 [y4,Aj] Jn zC→ai c0 fun l57 o58=>fD T bO zC l57 o58 Ai fun vl=>((X zC vl∧C 12 [(.ptr c0),Ai] (.aQ []) vl)∧S 12 [(.ptr c0),Ai] (.aQ []) vl∧V 12 [(.ptr c0),Ai] (.aQ [])))∧(∃ v,V 12 [(.ptr c0),Ai] v)∧∀ v60:AV,V 12 [(.ptr c0),Ai] v60→v60=.aQ []∧(∀ MK:AS,X s4 MK→aM MK→(S 1 [(.ptr c0)] oh MK∧(S 3 [(.agg xY)] wU MK∧(S 4 [oh,wU] Ai MK∧(S 10 [(.agg VH)] Aj MK∧(S 11 [y4,Aj] Jn MK∧(S 12 [(.ptr c0),Ai] (.aQ []) MK∧True))))))→C 12 [(.ptr c0),Ai] (.aQ []) MK→ai p8 fun l62 o63=>fD T bp MK l62 (o63+17) Jn fun JZ=>ai c0 fun l65 o66=>dJ (av JZ l65 o66) fun v67=>aW .i64 (aP T bO v67 JZ) fun Jj=>ai c2 fun l69 o70=>aW .i64 (av JZ l69 o70) fun n71=>R (.bool (decide ((Jj:Int)<n71))) JZ)))))))))
def AN:QA:=(.seq .leaf (.seq (.vW [0,1,2,3,4,5,6,7,8,9,10,11,12] [13,14,15] [[],[],[],[],[1,3],[],[],[],[],[],[],[1,3,4,10],[1,3,4,10,11],[],[],[]] [1,3,4,10,11,12] [1,4,11,12]) (.seq .leaf .leaf)))
theorem AP (a0:List AV) (a1:List AV) (c0:Option (Nat×Nat)) (c1:Option (Nat×Nat)) (c2:Option (Nat×Nat)) (s:AS) (R:AV→AS→Prop) (h:AM a0 a1 c0 c1 c2 s R):aa Tryz.prog bK [(.agg a0),(.agg a1),(.ptr c0),(.ptr c1),(.ptr c2)] s R :=
 aa.q (n:=26) (rs:=[.tmp 7]) (A:=AN) hT bU Tryz.func80 (by kernel_rfl) rfl rfl rfl (by kernel_rfl) (by kernel_rfl) h
def Gq (a0:Option (Nat×Nat)) (a1:List UInt8) (a2:Int) (s:AS) (R:AV→AS→Prop):Prop :=
 aa Tryz.prog dW [(.ptr a0),(.str a1),(.bool (decide ((a2:Int)≥0)))] s fun v1 s2=>∃ n3:Int,v1=.int .i64 n3∧(af ((n3:Int) != 0)
 (R (.aQ [(.slc none 0 0 true),(.int .i64 n3)]) s2)
 (ai a0 fun l4 o5=>zO (av s2 l4 (o5+1)) fun r6=>qi (dI T aF (.map r6) (.str a1) false s2) fun p7=>ai p7 fun l8 o9=>dJ (av s2 l8 (o9+17)) fun v10=>aW .i64 (aP T bp v10 s2) fun iN=>af (decide ((a2:Int)>iN))
 (R (.aQ [(.slc none 0 0 true),(.int .i64 6)]) s2)
 (bw fun J12 =>
 (∀ bS:AS,J12 [] bS →
 ai a0 fun lR we=>dJ (av bS lR we) fun oh=>ai p7 fun j_ wz=>aR (aB bS j_ wz 16) fun GU=>aa Tryz.prog fF [oh,(.str a1),(.agg GU)] bS fun v20 gn=>∃ qm:AV,∃ uj:Int,v20=.aQ [qm,(.int .i64 uj)]∧(R (.aQ [qm,(.int .i64 uj)]) gn)) ∧
 (af (decide ((a2:Int)>0))
 (ai p7 fun RM Yx=>aR (aB s2 RM Yx 16) fun Fx=>ai p7 fun GR o28=>dJ (av s2 GR (o28+17)) fun mb=>bH (ag T bp mb (.int .i64 (IntKind.wrap .i64 (a2 - 1)))) fun Si Xa=>aR (aB s2 Si Xa 16) fun MP=>aa Tryz.prog sQ [(.agg Fx),(.agg MP)] s2 fun qk ku=>∃ g35:List AV,qk=.agg g35∧(ai p7 fun l36 YG=>fj (some 16) g35 (bu (cN ku l36 YG g35) fun xT=>ai p7 fun VF VG=>dJ (av xT VF (VG+17)) fun Zj=>dJ (aY T bp Zj (some (.int .i64 a2)) none none) fun y4=>aa Tryz.prog eo [y4] xT fun So FC=>ai p7 fun l45 o46=>fD T bp FC l45 (o46+17) So fun wD=>J12 [] wD)))
 (J12 [] s2)))))
def Gr:QA:=(.seq .leaf (.seq (.seq .leaf (.seq .leaf (.cond (.seq .leaf .leaf) .leaf))) (.seq .leaf (.seq (.seq .leaf (.cond (.seq .leaf .leaf) .leaf)) (.join [] [(31,58)] (.seq .leaf (.cond (.seq .calm .leaf) .leaf)) (.seq .calm .leaf))))))
theorem Gt (a0:Option (Nat×Nat)) (a1:List UInt8) (a2:Int) (s:AS) (R:AV→AS→Prop) (h:Gq a0 a1 a2 s R):aa Tryz.prog kW [(.ptr a0),(.str a1),(.int .i64 a2)] s R :=
 aa.q (n:=71) (rs:=[.tmp 6,.tmp 7]) (A:=Gr) hT bU Tryz.func20 (by kernel_rfl) rfl rfl rfl (by kernel_rfl) (by kernel_rfl) h
def AQ (a0:Option (Nat×Nat)) (a1:List UInt8) (s:AS) (R:AV→AS→Prop):Prop :=
 aa Tryz.prog dW [(.ptr a0),(.str a1),(.bool true)] s fun v1 s2=>∃ n3:Int,v1=.int .i64 n3∧(af ((n3:Int) != 0)
 (R (.aQ [(.slc none 0 0 true),(.int .i64 n3)]) s2)
 (ai a0 fun l4 o5=>zO (av s2 l4 (o5+1)) fun r6=>qi (dI T aF (.map r6) (.str a1) false s2) fun p7=>ai a0 fun l8 o9=>zO (av s2 l8 (o9+1)) fun r10=>bu (qp T aF (.map r10) (.str a1) s2) fun fI=>ai a0 fun rP wj=>dJ (av fI rP wj) fun tK=>ai p7 fun Dz FD=>aR (aB fI Dz FD 16) fun PL=>aa Tryz.prog fF [tK,(.str a1),(.agg PL)] fI fun tI iD=>∃ v20:AV,∃ T1:Int,tI=.aQ [v20,(.int .i64 T1)]∧(R (.aQ [v20,(.int .i64 T1)]) iD)))
def AR:QA:=(.seq .leaf (.seq (.seq .leaf (.seq .leaf (.cond (.seq .leaf .leaf) .leaf))) (.seq .leaf (.seq .leaf (.seq .calm .leaf)))))
theorem AT (a0:Option (Nat×Nat)) (a1:List UInt8) (s:AS) (R:AV→AS→Prop) (h:AQ a0 a1 s R):aa Tryz.prog gU [(.ptr a0),(.str a1)] s R :=
 aa.q (n:=37) (rs:=[.tmp 4,.tmp 5]) (A:=AR) hT bU Tryz.func21 (by kernel_rfl) rfl rfl rfl (by kernel_rfl) (by kernel_rfl) h
def Ef (a0:Option (Nat×Nat)) (a1:List UInt8) (a2:Option (Nat×Nat)) (a3:Option (Nat×Nat)) (s:AS) (R:AV→AS→Prop):Prop :=
 bw fun J1 =>
 (∀ b2:Bool,∀ s3:AS,J1 [(.bool b2)] s3 →
 af b2
 (R (.aQ [(.int .i64 0),(.int .i64 1)]) s3)
 (aa Tryz.prog dW [(.ptr a0),(.str a1),(.bool true)] s3 fun v4 s5=>∃ n6:Int,v4=.int .i64 n6∧(af ((n6:Int) != 0)
 (R (.aQ [(.int .i64 0),(.int .i64 n6)]) s5)
 (aj (.cells [(.int .i64 0)] 0 false) s5 fun l7 s8=>bu (cN s8 l7 0 [(.int .i64 0)]) fun s9=>ai a0 fun nB A0=>zO (av s9 nB (A0+1)) fun r12=>qi (dI T aF (.map r12) (.str a1) false s9) fun p13=>aa Tryz.prog bQ [(.ptr p13),(.str a1),(.ptr a2),(.ptr a3),(.func lA [(.ptr (some (l7,0)))])] s9 fun tK f_=>∃ vg:Int,tK=.int .i64 vg∧(aW .i64 (av f_ l7 0) fun yL=>R (.aQ [(.int .i64 yL),(.int .i64 0)]) f_))))) ∧
 (aa Tryz.prog dV [(.ptr a0)] s fun tI iD=>∃ b20:Bool,tI=.bool b20∧(af b20 (aa Tryz.prog fE [(.ptr a2)] iD fun Mq fO=>∃ p23:Option (Nat×Nat),Mq=.ptr p23∧(uD (iK T 100 iA (.ptr p23) (.ptr none)) fun VI=>af VI (J1 [(.bool true)] fO) (aa Tryz.prog iu [(.ptr a3)] fO fun WT pX=>∃ p27:Option (Nat×Nat),WT=.ptr p27∧(uD (iK T 100 lP (.ptr p27) (.ptr none)) fun b28=>J1 [(.bool b28)] pX)))) (J1 [(.bool false)] iD)))
def Eg:QA:=(.seq .leaf (.seq (.join [(23,.bool)] [(12,23)] .leaf (.cond (.seq .leaf .leaf) .leaf)) (.seq (.seq .leaf (.seq .leaf (.cond (.seq .leaf .leaf) .leaf))) (.seq .leaf (.seq .leaf (.seq .leaf .leaf))))))
theorem Eh (a0:Option (Nat×Nat)) (a1:List UInt8) (a2:Option (Nat×Nat)) (a3:Option (Nat×Nat)) (s:AS) (R:AV→AS→Prop) (h:Ef a0 a1 a2 a3 s R):aa Tryz.prog jR [(.ptr a0),(.str a1),(.ptr a2),(.ptr a3)] s R :=
 aa.q (n:=42) (rs:=[.tmp 8,.tmp 9]) (A:=Eg) hT bU Tryz.func28 (by kernel_rfl) rfl rfl rfl (by kernel_rfl) (by kernel_rfl) h
def AU (a0:List AV) (a1:List AV) (c0:Option (Nat×Nat)) (s:AS) (R:AV→AS→Prop):Prop :=
 cF a0 (aj (.cells a0 0 false) s fun l1 s2=>cF a1 (aj (.cells a1 0 false) s2 fun l3 s4=>ai c0 fun l5 o6=>aW .i64 (av s4 l5 o6) fun n7=>ai c0 fun l8 o9=>bu (cN s4 l8 o9 [(.int .i64 (IntKind.wrap .i64 (n7+1)))]) fun jD=>R (.bool true) jD))
def AW:QA:=(.seq .leaf (.seq .leaf (.seq .leaf .leaf)))
theorem AX (a0:List AV) (a1:List AV) (c0:Option (Nat×Nat)) (s:AS) (R:AV→AS→Prop) (h:AU a0 a1 c0 s R):aa Tryz.prog lA [(.agg a0),(.agg a1),(.ptr c0)] s R :=
 aa.q (n:=8) (rs:=[.tmp 5]) (A:=AW) hT bU Tryz.func98 (by kernel_rfl) rfl rfl rfl (by kernel_rfl) (by kernel_rfl) h
end Go.Proofs.YtohgmogbabkkeaaGreat
end

section
namespace Go.Proofs.YtohgmogbabkkeaaGreat
open Go.Am Go.au Go.aC Go.bW
structure Dv where
 cur:List Int
 place:Nat
 hand:List (List Int)
structure Wl where
 l:Nat
 hv:AV
 d:Dv
 H:List IV
 len:d.cur.length=16
def mZ (cur:List Int) (place:Int) (hv:AV):List AV:=cur.map (.int .u64)++[.int .i64 place,hv]
def fo (m:Wl):List Nat:=m.l::ay m.hv
def IZ (F:List Nat) (s:AS) (m:Wl):Prop:=Am.Own s m.l (mZ m.d.cur m.d.place m.hv)∧bt rR 16 s m.hv m.H∧m.H.map IV.v=m.d.hand∧∀ y∈fo m,y∈F
theorem m_ {cur:List Int} (h:cur.length=16) (pl:Int) (hv:AV):(mZ cur pl hv).length=18:=by simp [mZ,h]
theorem CH {cur:List Int} (h:cur.length=16) (pl:Int) (hv:AV):((mZ cur pl hv).drop 0).take 16=cur.map (.int .u64):=by
 rw [mZ,List.drop_zero,List.take_append_of_le_length (by simp [h]),List.take_of_length_le (by simp [h])]
theorem GZ {cur:List Int} (h:cur.length=16) (pl:Int) (hv:AV):(mZ cur pl hv)[16]? = some (.int .i64 pl)∧(mZ cur pl hv)[17]? = some hv:=by
 constructor <;>
 ·rw [mZ,List.getElem?_append_right (by simp [h])]
  simp [h]
theorem I_ {cur:List Int} (h:cur.length=16) (pl pl':Int) (hv pM:AV):(mZ cur pl hv).set 16 (.int .i64 pl')=mZ cur pl' hv∧(mZ cur pl hv).set 17 pM=mZ cur pl pM:=by
 simp [mZ,List.set_append,h]
abbrev sK (t:List UInt8):AV:=.str t
def dP (m:Wl):AV:=.ptr (some (m.l,0))
theorem vR:Yh (K:=List UInt8) T aF cq fQ sK (.ptr none) :=
 ⟨kK,fun a b=>by rw [Yd oZ];simp only [Option.some.injEq];by_cases h:a=b <;> simp [h],fun a=>by kernel_rfl,fun a=>by simp [zq],Df⟩
structure l_ (F:List Nat) (s:AS) (p:Nat) (sec:List Int) (f:List UInt8→Option Dv) (n:Nat):Prop where
 mem:∃ (sv:AV) (hm:Nat) (es:List (List UInt8×Wl×Nat)) (k:Nat),Am.Own s p [sv,.map (some hm)]∧p∈F∧hm∈F∧(bt qH 1 s sv sec∧∀ y∈ay sv,y∈F)∧eJ sK dP s hm es k false∧es.length=n ∧
  (∀ a m,dU es a=some m→IZ F s m∧f a=some m.d)∧(∀ a,dU es a=none→f a=none) ∧
  ∀ a b x y,dU es a=some x→dU es b=some y→a≠b→∀ z∈fo x,z ∉ fo y
section
variable {F F':List Nat} {s s':AS} {p n:Nat} {sec:List Int} {f:List UInt8→Option Dv}
theorem IZ.mut {m:Wl} {L:List Nat} (h:IZ F s m) (e:bD L s s') (hL:∀ y∈L,y ∉ fo m):IZ F s' m :=
 ⟨h.1.mut e fun hm=>hL _ hm (by simp [fo]),h.2.1.mut e fun y hy hm=>hL y hm (by simp [fo,hy]),h.2.2⟩
theorem l_.mut {L:List Nat} (h:l_ F s p sec f n) (m:bD L s s') (hL:∀ y∈L,y ∉ F):l_ F s' p sec f n:=by
 obtain ⟨sv,hm,es,k,h1,h2,h3,⟨a1,a2⟩,c1,c2,c3,c4,c5⟩:=h
 exact ⟨sv,hm,es,k,h1.mut m (fun hx=>hL p hx h2),h2,h3,⟨a1.mut m (fun y hy hx=>hL y hx (a2 y hy)),a2⟩,c1.mut m (fun hx=>hL hm hx h3),c2,fun a x hx=>⟨(c3 a x hx).1.mut m fun y hy hd=>hL y hy ((c3 a x hx).1.2.2.2 y hd),(c3 a x hx).2⟩,c4,c5⟩
theorem l_.ext (h:l_ F s p sec f n) (e:Ext s s'):l_ F s' p sec f n:=h.mut (L:=[]) e.mut (by simp)
theorem Ei (h:l_ F s p sec f n):aa Tryz.prog dV [.ptr (some (p,0))] s fun r s'=>r=.bool true∧s'=s:=by
 obtain ⟨sv,hm,es,k,h1,_⟩:=h
 exact CD _ _ _ ⟨_,iI Jv _,af.yes rfl ⟨_,by rw [h1.at.av];rfl,_,Lu kK _,rfl,rfl⟩⟩
theorem Th (sv:AV) (h:sv.one=true) (hm:Nat):aU T su [(0,sv),(1,.map (some hm))]=some (.agg [sv,.map (some hm)]):=by
 have e1:∀ v:AV,v.one=true→bJ v=some [v]:=fun v hv=>by cases v <;> first | rfl | cases hv
 rw [qO (pl:=[(0,1),(1,1)]) (by kernel_rfl) Mj rfl]
 simp only [jc,e1 _ h,e1 (.map (some hm)) rfl,List.getElem?_cons_zero,List.getElem?_cons_succ,List.length_cons,List.length_nil]
 rfl
theorem abI {s:AS} {v:AV} {sec:List Int} (hv:gx s v sec) (hl:sec.length≤2 ^ 30):aa Tryz.prog q9 [v] s fun r s'=>∃ p F,r=.ptr (some (p,0))∧l_ F s' p sec (fun _=>none) 0∧(∀ y∈F,s.h y=none)∧(∀ y∈F,s'.h y≠none)∧Ext s s':=by
 refine Tg _ _ _ ?_
 refine aa.use (D9 hv hl) ?_
 rintro v1 s2 g w2
 have h1:=g.iW.2
 have hone:∀ l3:Nat,([v1,AV.map (some l3)]).all AV.one=true:=fun l3=>by simp [h1]
 refine aj.intro w2 rfl fun l3 s4 F4=>⟨_,Th v1 h1 l3,hone l3,aj.intro F4.wf rfl fun l6 s7 F7=>⟨l6,l6::l3::ay v1,rfl,⟨v1,l3,[],0,F7.own,by simp,by simp,⟨(g.wq.ext F4.ext).ext F7.ext,fun y hy=>by simp [hy]⟩,eJ.new (F7.ext.1 _ _ F4.at),rfl,fun a m hm=>by simp [uc] at hm,fun a _=>rfl,fun a b x y hx=>by simp [uc] at hx⟩,?_,?_,(g.eG.ext.trans F4.ext).trans F7.ext⟩⟩
 ·intro y hy
  simp only [List.mem_cons] at hy
  rcases hy with rfl | rfl | hy
  ·exact (g.eG.ext.trans F4.ext).none F7.no
  ·exact g.eG.ext.none F4.no
  ·exact g.new y hy
 ·intro y hy
  simp only [List.mem_cons] at hy
  rcases hy with rfl | rfl | hy
  ·rw [F7.at];simp
  ·rw [F7.ext.1 _ _ F4.at];simp
  ·exact bt.lJ ((g.wq.ext F4.ext).ext F7.ext) y hy
theorem aac (h:l_ F s p sec f n):∃ (sv:AV) (hm:Nat) (es:List (List UInt8×Wl×Nat)) (k:Nat),Am.Own s p [sv,.map (some hm)]∧eJ sK dP s hm es k false∧es.length=n∧(∀ a m,dU es a=some m→IZ F s m∧f a=some m.d)∧(∀ a,dU es a=none→f a=none)∧∀ a,dI T aF (.map (some hm)) (.str a) false s=some (.ptr ((dU es a).map fun m=>(m.l,0))):=by
 obtain ⟨sv,hm,es,k,h1,h2,h3,⟨a1,a2⟩,c1,c2,c3,c4,c5⟩:=h
 refine ⟨sv,hm,es,k,h1,c1,c2,c3,c4,fun a=>?_⟩
 have:=c1.find vR a false
 refine this.trans ?_
 cases dU es a <;> rfl
theorem yx (h:l_ F s p sec f n) (name:List UInt8) (ok:Bool):aa Tryz.prog dW [.ptr (some (p,0)),.str name,.bool ok] s fun r s'=>r=.int .i64 (if (!aD name||!ok)=true then 2 else if (f name).isNone=true then 7 else 0)∧s'=s:=by
 refine CG _ _ _ _ _ ?_
 refine aa.use (Ei h) ?_
 rintro v s2 ⟨rfl,rfl⟩ w2
 obtain ⟨sv,hm,es,k,h1,_,_,c3,c4,mA⟩:=aac h
 refine ⟨_,rfl,af.no rfl ⟨fun vs s'=>vs=[.bool (!aD name||!ok)]∧s'=s2,?_,?_⟩⟩
 ·rintro b s6 ⟨hb,rfl⟩
  simp only [List.cons.injEq,AV.bool.injEq,and_true] at hb
  subst hb
  refine af.mk (fun hb=>⟨by simp only [hb,if_true],rfl⟩) (fun hb=>⟨_,by rw [h1.at.av];rfl,_,mA name,_,iI v_ _,?_⟩)
  have hfn:(f name).isNone=((dU es name).map fun m=>(m.l,0)).isNone:=by
   cases hq:dU es name with
   | none=>rw [c4 _ hq];rfl
   | some m=>rw [(c3 _ _ hq).2];rfl
  rw [← hfn]
  refine af.mk (fun Em=>⟨?_,rfl⟩) (fun Em=>⟨?_,rfl⟩)
  ·rw [hb,Em];rfl
  ·rw [hb,Em];rfl
 ·refine aa.use (vO _ _) ?_
  rintro i_ bS ⟨rfl,rfl⟩ QZ
  refine ⟨_,rfl,af.mk (fun hb=>⟨by simp [hb],rfl⟩) (fun hb=>⟨by simp [hb],rfl⟩)⟩
end
/-! ### what is owed -/
noncomputable def aad (x:aI) (k:Key):Bool:=@decide (∃ d,x.live d=some k) (Classical.propDecidable _)
theorem Qu {x:aI} {k:Key}:aad x k=true↔∃ d,x.live d=some k:=by
 unfold aad;exact @decide_eq_true_iff _ (Classical.propDecidable _)
def aae (x:aI) (d:aK):Bool:=!(x.live d).isSome&&x.has d
noncomputable def kS (name:List UInt8) (cur:List Int) (x:aI) (e:Ev):Bool :=
 !under cur e.id&&!(iT e.to name).isEmpty&&(aad x ⟨e.dL,name⟩||(iT e.to name).any fun d=>!aae x d)
theorem aaf {F:List Nat} {s:AS} {p c:Nat} {x:aI} (hc:At s c [.ptr (some (p,0))]) (h:gJ F s p x) (d:aK):aa Tryz.prog sU [.agg (aN d),.ptr (some (c,0))] s fun r s'=>r=.bool (!aae x d)∧Ext s s':=by
 refine aa.pre fun hw=>KB _ _ _ _ ⟨rfl,aj.intro hw rfl fun l1 s2 F2=>⟨_,by rw [(hc.ext F2.ext).av];rfl,_,F2.own.at.aB (by simp [aN]),?_⟩⟩
 refine aa.use (aa7 (h.ext F2.ext) d) ?_
 rintro v s8 ⟨rfl,e8⟩ w8
 exact ⟨_,rfl,rfl,F2.ext.trans e8⟩
set_option maxRecDepth 20000 in
theorem abJ {F:List Nat} {s:AS} {p l:Nat} {x:aI} {m:nE} {cur:List Int} {cs:List AV} (hm:Cy s m) (hn:m.ev.to.length≤2 ^ 29) (h:gJ F s p x) (Uy:x.nl<65536) (KC:cur.length=16) (hd:At s l cs) (hcs:(cs.drop 0).take 16=cur.map (.int .u64)) (yB:16≤cs.length) (name:List UInt8) :
  aa Tryz.prog xI [.str name,.ptr (some (l,0)),.agg (ig m),.ptr (some (p,0))] s fun r s'=>r=.bool (kS name cur x m.ev)∧Ext s s':=by
 have ev:=bq m
 refine aa.pre fun hw=>Qt _ _ _ _ _ _ ⟨dz m,aj.intro hw rfl fun l1 s2 F2=>aj.intro F2.wf rfl fun l3 s4 F4=>?_⟩
 have e4:=F2.ext.trans F4.ext
 refine ⟨_,(F2.own.ext F4.ext).at.aB (by omega),?_⟩
 rw [gC]
 refine aa.use (agc (hm.ext e4) hn name) ?_
 rintro v6 s7 g7 w7
 have e7:=e4.trans g7.eG.ext
 have c7:=((F2.own.ext F4.ext).ext g7.eG.ext).at
 have Rf:(iT m.ev.to name).length≤2 ^ 29:=by
  simp only [iT,List.length_map]
  exact Nat.le_trans (List.length_filter_le _ _) hn
 refine ⟨_,(hd.ext e7).aB (by omega),_,c7.aB (by rw [ev];omega),?_⟩
 rw [hcs,Ta]
 refine aa.use (ZY KC _ _) ?_
 rintro i_ bS ⟨rfl,Q1⟩ QZ
 have E13:=e7.trans Q1
 have wg:=(g7.sl bn).ext Q1
 refine ⟨_,rfl,af.mk (fun hu=>⟨by simp [kS,hu],E13⟩) (fun hu=>⟨_,wg.cG bG _,af.mk (fun hz=>⟨?_,E13⟩) (fun hz=>⟨_,by rw [((F4.own.ext g7.eG.ext).ext Q1).at.av];rfl,m.ev.dL,by rw [(c7.ext Q1).av];rfl,_,DZ _ _,?_⟩)⟩)⟩
 ·have hz0:(((iT m.ev.to name).length:Nat):Int)=0:=beq_iff_eq.1 hz
  have:iT m.ev.to name=[]:=List.length_eq_zero_iff.1 (by omega)
  simp [kS,this]
 have hne:(iT m.ev.to name).isEmpty=false:=by
  cases hq:iT m.ev.to name with
  | nil=>rw [hq] at hz;simp at hz
  | cons a b=>rfl
 refine aa.use (adS (h.ext E13) Uy _) ?_
 rintro wT fN ⟨⟨b,rfl,hb⟩,Na⟩ Vt
 have hb':b=aad x ⟨m.ev.dL,name⟩:=by
  rw [Bool.eq_iff_iff,hb,Qu]
 refine ⟨_,rfl,af.mk (fun h1=>⟨?_,E13.trans Na⟩) (fun h1=>?_)⟩
 ·simp [kS,hu,hne,← hb',h1]
 ·refine aa.use (D6 (P:=fun d=>!aae x d) (wg.ext Na) (by omega) fun d hd s' e w=>aaf (((F4.own.ext g7.eG.ext).ext Q1).ext (Na.trans e)).at (h.ext ((E13.trans Na).trans e)) d) ?_
  rintro qm rO ⟨rfl,Q0⟩ YN
  refine ⟨_,rfl,?_,(E13.trans Na).trans Q0⟩
  simp [kS,hu,hne,← hb',h1]
end Go.Proofs.YtohgmogbabkkeaaGreat
end

section
namespace Go.Proofs.YtohgmogbabkkeaaGreat
open Go.Am Go.au Go.aC Go.bW
set_option maxRecDepth 20000 in
theorem aag {s:AS} {lo lp lm l:Nat} {out hv:AV} {Lo:List nE} {H:List IV} {cur:List Int} {pl most:Int} (KC:cur.length=16) (oo:Am.Own s lo [out]) (op:Am.Own s lp [.ptr (some (l,0))]) (om:Am.Own s lm [.int .i64 most]) (od:Am.Own s l (mZ cur pl hv))
  (gO:bt ig 21 s out Lo) (gH:bt rR 16 s hv H) (hlp:lo≠lp) (Xr:lo≠lm) (hld:lo≠l) (hpd:lp≠l) (hmd:lm≠l) (hn:Lo.length+1≤2 ^ 29) (hn2:H.length+1≤2 ^ 29) (m:nE) (v:IV) :
  aa Tryz.prog bK [.agg (ig m),.agg (rR v),.ptr (some (lo,0)),.ptr (some (lp,0)),.ptr (some (lm,0))] s fun r s'=>r=.bool (decide (((Lo.length+1:Nat):Int)<most))∧∃ out' pM,Am.Own s' lo [out']∧Am.Own s' l (mZ cur pl pM)∧bt ig 21 s' out' (Lo++[m])∧bt rR 16 s' pM (H++[v]) ∧
   bD (lo::l::(ay out++ay hv)) s s'∧(∀ y∈ay out'++ay pM,y∈ay out++ay hv∨s.h y=none):=by
 have ev:=bq m
 have vv:=cI v
 refine aa.pre fun hw=>AP _ _ _ _ _ _ _ ⟨dz m,aj.intro hw rfl fun l1 s2 F2=>⟨mY v,aj.intro F2.wf rfl fun l3 s4 F4=>?_⟩⟩
 have e4:=F2.ext.trans F4.ext
 have o1:=F2.own.ext F4.ext
 have o3:=F4.own
 have oo4:=oo.ext e4
 have op4:=op.ext e4
 have om4:=om.ext e4
 have od4:=od.ext e4
 have gO4:=gO.ext e4
 have gH4:=gH.ext e4
 have d1:lo≠l1:=fun e=>by
  have:=F2.no
  rw [← e,oo] at this;cases this
 have d3:lo≠l3:=fun e=>by
  have:=F4.no
  rw [← e,oo.ext F2.ext] at this;cases this
 have hdl:=m_ KC pl hv
 have hdp:=GZ KC pl hv
 let X:AS→AS→Prop:=fun a b=>(∀ y cs,y≠lo→Am.Own a y cs→Am.Own b y cs)∧(∀ v,bt ig 21 a v (Lo++[m])→bt ig 21 b v (Lo++[m]))∧(∀ w,bt rR 16 a w (H++[v])→bt rR 16 b w (H++[v]))∧(a.h lo≠none→b.h lo≠none)∧bD (lo::(ay out++ay hv)) a b
 have rp:∀ s',X s4 s'→av s' lp 0=some (.ptr (some (l,0))):=fun s' x=>by rw [(x.1 _ _ (Ne.symm hlp) op4).at.av];rfl
 have r1:∀ s',X s4 s'→aB s' l1 0 21=some (ig m):=fun s' x=>by rw [(x.1 _ _ (Ne.symm d1) o1).at.aB (by omega),gC]
 have r3:∀ s',X s4 s'→aB s' l3 0 16=some (rR v):=fun s' x=>by rw [(x.1 _ _ (Ne.symm d3) o3).at.aB (by omega),List.drop_zero,List.take_of_length_le (by omega)]
 have rd:∀ s',X s4 s'→av s' l (0+17)=some hv:=fun s' x=>by rw [(x.1 _ _ (Ne.symm hld) od4).at.av];exact hdp.2
 have X0:X s4 s4:=⟨fun _ _ _ h=>h,fun _ h=>h,fun _ h=>h,id,bD.refl _ _⟩
 have lot:∀ {s':AS},X s4 s'→s'.h lo≠none:=fun x=>x.2.2.2.1 (by rw [oo4];simp)
 have new:∀ {s':AS} {y:Nat},X s4 s'→s'.h y=none→y∈ay out++ay hv∨s.h y=none:=fun {s' y} x hn=>by
  by_cases hy:y∈ay out++ay hv
  ·exact .inl hy
  ·right
   refine e4.none ?_
   cases hq:s4.h y with
   | none=>rfl
   | some o =>
    have hne:y≠lo:=fun e=>lot x (e ▸ hn)
    rw [x.2.2.2.2.1 y o (by simp only [List.mem_cons,not_or];exact ⟨hne,hy⟩) hq] at hn;cases hn
 refine ⟨X,fun q ks w s'=>(q=1→w=out∧Am.Own s' lo [out]∧bt ig 21 s' out Lo∧bt rR 16 s' hv H)∧(q=4→Am.Own s' lo [out]∧bt rR 16 s' hv H)∧(q=11→Am.Own s' lo [out])∧(q=12→∃ k x,ks=[k,x]∧Am.Own s' lo [x]),fun s'=>Am.Own s' lo [out]∧bt ig 21 s' out Lo∧bt rR 16 s' hv H,
  fun q _ w s'=>(q=3→∃ a,w=.slc (some (a,0)) 1 1 true∧Am.Own s' a (ig m)∧a≠lo)∧(q=10→∃ a,w=.slc (some (a,0)) 1 1 true∧Am.Own s' a (rR v)∧a≠lo)∧(q=4→bt ig 21 s' w (Lo++[m])∧∀ y∈ay w,y∈ay out++ay hv∨s.h y=none)∧(q=11→bt rR 16 s' w (H++[v])∧∀ y∈ay w,y∈ay out++ay hv∨s.h y=none),
  fun q _ w=>(q=1→w=out)∧(q=4∨q=11→w.one=true)∧(q=12→w=.aQ []),fun a b e=>⟨fun _ _ _ h=>h.ext e,fun _ h=>h.ext e,fun _ h=>h.ext e,fun hn=>(by cases hq:a.h lo with | none=>exact absurd hq hn | some o=>rw [e.1 _ _ hq];simp),e.mut⟩,fun a b c x y=>⟨fun z cs hz h=>y.1 z cs hz (x.1 z cs hz h),fun w h=>y.2.1 w (x.2.1 w h),fun w h=>y.2.2.1 w (x.2.2.1 w h),fun hn=>y.2.2.2.1 (x.2.2.2.1 hn),x.2.2.2.2.trans y.2.2.2.2⟩,?_,?_,fun a b e h=>⟨h.1.ext e,h.2.1.ext e,h.2.2.ext e⟩,⟨oo4,gO4,gH4⟩,?_⟩
 ·rintro q ks w a b e ⟨h1,h2,h3,h4⟩
  exact ⟨fun hq=>⟨(h1 hq).1,(h1 hq).2.1.ext e,(h1 hq).2.2.1.ext e,(h1 hq).2.2.2.ext e⟩,fun hq=>⟨(h2 hq).1.ext e,(h2 hq).2.ext e⟩,fun hq=>(h3 hq).ext e,fun hq=>by obtain ⟨k,x,y,z⟩:=h4 hq;exact ⟨k,x,y,z.ext e⟩⟩
 ·rintro q ks w a b x ⟨h1,h2,h3,h4⟩
  refine ⟨fun hq=>?_,fun hq=>?_,fun hq=>⟨x.2.1 _ (h3 hq).1,(h3 hq).2⟩,fun hq=>⟨x.2.2.1 _ (h4 hq).1,(h4 hq).2⟩⟩
  ·obtain ⟨y,e1,e2,e3⟩:=h1 hq
   exact ⟨y,e1,x.1 _ _ e3 e2,e3⟩
  ·obtain ⟨y,e1,e2,e3⟩:=h2 hq
   exact ⟨y,e1,x.1 _ _ e3 e2,e3⟩
 have cx:∀ {q:Nat} {P:Prop},(q≠q→P):=fun h=>absurd rfl h
 refine ⟨_,rp _ X0,fun s' x _=>⟨_,rp _ x,rfl⟩,fun dg x12 GV _ hc=>⟨out,by rw [hc.1.at.av];rfl,⟨⟨fun _ _ _ h=>h,fun _ h=>h,fun _ h=>h,id,bD.refl _ _⟩,(fun _=>⟨rfl,hc⟩),(fun h=>by cases h),(fun h=>by cases h),(fun h=>by cases h)⟩,⟨(fun h=>by cases h),(fun h=>by cases h),(fun h=>by cases h),(fun h=>by cases h)⟩,(fun _=>rfl),(fun h=>by rcases h with h | h <;> cases h),(fun h=>by cases h)⟩,⟨out,(fun _=>rfl),(fun h=>by rcases h with h | h <;> cases h),(fun h=>by cases h)⟩,fun oh Z9=>?_⟩
 obtain rfl:=Z9.1 rfl
 refine ⟨_,r1 _ X0,fun s' x _=>⟨_,r1 _ x,rfl⟩,fun fN x20 Vt _=>⟨_,kD oC ev (dz m),aj.intro Vt rfl fun BG rO F23=>⟨F23.ext,⟨(fun _=>⟨BG,rfl,F23.own,?_⟩),(fun h=>by cases h),(fun h=>by cases h),(fun h=>by cases h)⟩,(fun h=>by cases h),(fun h=>by rcases h with h | h <;> cases h),(fun h=>by cases h)⟩⟩,⟨.bad,(fun h=>by cases h),(fun h=>by rcases h with h | h <;> cases h),(fun h=>by cases h)⟩,fun wU _=>⟨fun dM x25 H8 hS hc=>?_,⟨.nilFunc,(fun h=>by cases h),(fun _=>rfl),(fun h=>by cases h)⟩,fun Ai aed=>?_⟩⟩
 ·exact fun e=>lot x20 (e ▸ F23.no)
 ·obtain ⟨a,rfl,hA,hne⟩:=hS.2.1.1 rfl
  obtain ⟨_,c1,c2,c3⟩:=hc.1 rfl
  obtain ⟨v',s',e1,g1,m1,_,n1⟩:=bt.append oC bq dz H8 c2 (Eb bq hA.at) (by simp;omega) ef
  have t1:=bt.tag c2
  have lno:lo ∉ ay oh:=fun hy=>by have:=(t1 _ hy).uniq (Own.tag c1);omega
  refine ⟨v',s',e1,⟨⟨fun y cs hy o=>o.mut m1 fun hx=>?_,fun w g=>g.mut m1 (bt.IW bq (by decide) g c2 (by simp)),fun w g=>g.mut m1 fun y hy hx=>?_,fun hn=>?_,m1.mono fun y hy=>by simp [hy]⟩,(fun h=>by cases h),(fun _=>⟨c1.mut m1 lno,c3.mut m1 fun y hy hx=>?_⟩),(fun h=>by cases h),(fun h=>by cases h)⟩,⟨(fun h=>by cases h),(fun h=>by cases h),(fun _=>⟨g1,fun y hy=>?_⟩),(fun h=>by cases h)⟩,(fun h=>by cases h),(fun _=>bt.one g1),(fun h=>by cases h)⟩
  ·have:=(t1 _ hx).uniq (Own.tag o);omega
  ·have:=(t1 _ hx).uniq (bt.tag g y hy);omega
  ·rw [m1.1 lo _ lno c1];simp
  ·have:=(t1 _ hx).uniq (bt.tag c3 y hy);omega
  ·rcases n1 y hy with h | h
   ·exact .inl (List.mem_append_left _ h)
   ·exact new x25 h
 refine ⟨_,rp _ X0,fun s' x _=>⟨_,rp _ x,rfl⟩,fun s' _ _=>rfl,_,rd _ X0,fun s' x _=>⟨_,rd _ x,rfl⟩,_,r3 _ X0,fun s' x _=>⟨_,r3 _ x,rfl⟩,fun wD x47 w47 _=>⟨_,kD gP vv (mY v),aj.intro w47 rfl fun WO pG F50=>⟨F50.ext,⟨(fun h=>by cases h),(fun _=>⟨WO,rfl,F50.own,?_⟩),(fun h=>by cases h),(fun h=>by cases h)⟩,(fun h=>by cases h),(fun h=>by rcases h with h | h <;> cases h),(fun h=>by cases h)⟩⟩,⟨.bad,(fun h=>by cases h),(fun h=>by rcases h with h | h <;> cases h),(fun h=>by cases h)⟩,fun Aj _=>⟨fun wv x52 w52 hS hc=>?_,⟨.nilFunc,(fun h=>by cases h),(fun _=>rfl),(fun h=>by cases h)⟩,fun Jn ajm=>⟨fun zC x56 w56 hS hc=>?_,⟨.aQ [],(fun h=>by cases h),(fun h=>by rcases h with h | h <;> cases h),(fun _=>rfl)⟩,fun v60 ajn=>⟨ajn.2.2 rfl,fun MK x61 w61 hS hc=>?_⟩⟩⟩⟩
 ·exact fun e=>lot x47 (e ▸ F50.no)
 ·obtain ⟨a,rfl,hA,hne⟩:=hS.2.2.2.1.2.1 rfl
  obtain ⟨c1,c3⟩:=hc.2.1 rfl
  obtain ⟨v',s',e1,g1,m1,_,n1⟩:=bt.append gP cI mY w52 c3 (Eb cI hA.at) (by simp;omega) dB
  have t1:=bt.tag c3
  have lno:lo ∉ ay hv:=fun hy=>by have:=(t1 _ hy).uniq (Own.tag c1);omega
  refine ⟨v',s',e1,⟨⟨fun y cs hy o=>o.mut m1 fun hx=>?_,fun w g=>g.mut m1 fun y hy hx=>?_,fun w g=>g.mut m1 (bt.IW cI (by decide) g c3 (by simp)),fun hn=>?_,m1.mono fun y hy=>by simp [hy]⟩,(fun h=>by cases h),(fun h=>by cases h),(fun _=>c1.mut m1 lno),(fun h=>by cases h)⟩,⟨(fun h=>by cases h),(fun h=>by cases h),(fun h=>by cases h),(fun _=>⟨g1,fun y hy=>?_⟩)⟩,(fun h=>by cases h),(fun _=>bt.one g1),(fun h=>by cases h)⟩
  ·have:=(t1 _ hx).uniq (Own.tag o);omega
  ·have:=(t1 _ hx).uniq (bt.tag g y hy);omega
  ·rw [m1.1 lo _ lno c1];simp
  ·rcases n1 y hy with h | h
   ·exact .inl (List.mem_append_right _ h)
   ·exact new x52 h
 ·have c1:=hc.2.2.1 rfl
  refine cL (aed.2.1 (.inl rfl)) yK (bu.own w56 c1 (by simp) fun vl P=>?_)
  have oP:Am.Own vl lo [Ai]:=P.at
  have tl:∀ y∈[lo],∀ g,Tag zC y g→g=0:=fun y hy g t=>by
   obtain rfl:=List.mem_singleton.1 hy
   exact t.uniq (Own.tag c1)
  refine ⟨⟨⟨fun y cs hy o=>o.mut P.mut (by simpa using hy),fun w g=>bt.eW g P.mut fun y hy g t=>by rw [tl y hy g t];decide,fun w g=>bt.eW g P.mut fun y hy g t=>by rw [tl y hy g t];decide,fun _=>by rw [oP];simp,P.mut.mono (by simp)⟩,(fun h=>by cases h),(fun h=>by cases h),(fun h=>by cases h),(fun _=>⟨_,_,rfl,oP⟩)⟩,⟨(fun h=>by cases h),(fun h=>by cases h),(fun h=>by cases h),(fun h=>by cases h)⟩,(fun h=>by cases h),(fun h=>by rcases h with h | h <;> cases h),(fun _=>rfl)⟩
 ·obtain ⟨_,_,⟨_,_,h4,_⟩,_,⟨_,_,_,h11⟩,_⟩:=hS
  obtain ⟨Zk,Jm⟩:=h4 rfl
  obtain ⟨g55,n55⟩:=h11 rfl
  obtain ⟨k,x,hk,o61⟩:=hc.2.2.2 rfl
  simp only [List.cons.injEq,and_true] at hk
  obtain ⟨_,rfl⟩:=hk
  have agi:=x61.1 _ _ (Ne.symm hld) od4
  have ajo:=x61.1 _ _ (Ne.symm Xr) om4
  refine cL (ajm.2.1 (.inr rfl)) rz (bu.own w61 agi (by simp [hdl]) fun JZ P=>?_)
  have oP:Am.Own JZ l (mZ cur pl Jn):=by
   have:=P.at
   rw [fk,Nat.zero_add,(I_ KC pl pl hv Jn).2] at this;exact this
  have tl:∀ y∈[l],∀ g,Tag MK y g→g=0:=fun y hy g t=>by
   obtain rfl:=List.mem_singleton.1 hy
   exact t.uniq (Own.tag agi)
  have agj:=bt.eW Zk P.mut fun y hy g t=>by rw [tl y hy g t];decide
  have ajp:=bt.eW g55 P.mut fun y hy g t=>by rw [tl y hy g t];decide
  have o64:=o61.mut P.mut (by simpa using hld)
  refine ⟨Ai,by rw [o64.at.av];rfl,_,(agj.sl bq).cG ef _,most,by rw [(ajo.mut P.mut (by simpa using hmd)).at.av];rfl,?_,Ai,Jn,o64,oP,agj,ajp,?_,?_⟩
  ·rw [List.length_append];rfl
  ·exact (e4.mut.trans (x61.2.2.2.2.mono fun y hy=>by
    simp only [List.mem_cons,List.mem_append] at hy ⊢
    rcases hy with h | h | h <;> simp [h])).trans (P.mut.mono (by simp))
  ·intro y hy
   rcases List.mem_append.1 hy with hy | hy
   ·exact Jm y hy
   ·exact n55 y hy
end Go.Proofs.YtohgmogbabkkeaaGreat
end

section
namespace Go.Proofs.YtohgmogbabkkeaaGreat
open Go.Am Go.au Go.aC Go.bW
def scan (P:Ev→Bool) (stop:Nat→Bool):List (Ev×List Int)→Nat→List (Ev×List Int)×Nat
 | [],_=>([],0)
 | x::xs,k=>if P x.1 then (if stop (k+1) then ([x],1) else (x::(scan P stop xs (k+1)).1,(scan P stop xs (k+1)).2+1)) else ((scan P stop xs k).1,(scan P stop xs k).2+1)
def vS (c:iH):List (Ev×List Int):=c.log.zip c.NW
theorem ND {c:iH} (h:c.NW.length=c.log.length):(vS c).length=c.log.length:=by simp [vS,h]
theorem abK {c:iH} {i:Nat} {e:Ev} {v:List Int} (h1:c.log[i]? = some e) (h2:c.NW[i]? = some v):(vS c)[i]? = some (e,v):=by
 rw [vS,List.getElem?_zip_eq_some];exact ⟨h1,h2⟩
set_option maxRecDepth 20000 in
theorem Un {Fc Fs:List Nat} {s0:AS} {l pc ps:Nat} {c:iH} {x:aI} {cur:List Int} {pl:Nat} {name:List UInt8} {g:FuncId} {cap:List AV} {stop:Nat→Bool} {J:List (nE×IV)→AS→Prop}
  (KC:cur.length=16) (hb:c.NW.length=c.log.length) (Rf:c.log.length≤2 ^ 28) (hp:∀ e∈c.log,e.vM.length≤2 ^ 29∧e.to.length≤2 ^ 29) (Uy:x.nl<65536) (CW:pl≤c.log.length)
  (Jw:∀ d s,J d s→aM s) (Je:∀ d s s',J d s→Ext s s'→aM s'→J d s') (Jd:∀ d s,J d s→∃ hv,Am.Own s l (mZ cur pl hv)) (Jc:∀ d s,J d s→jK Fc s pc c) (Js:∀ d s,J d s→gJ Fs s ps x)
  (step:∀ d s m v,J d s→kq (NX m) s m→d.length≤2 ^ 28→aa Tryz.prog g ([.agg (ig m),.agg (rR v)]++cap) s fun r s'=>r=.bool (!stop (d.length+1))∧(aM s'→J (d++[(m,v)]) s')) (h0:J [] s0) :
  aa Tryz.prog bQ [.ptr (some (l,0)),.str name,.ptr (some (pc,0)),.ptr (some (ps,0)),.func g cap] s0 fun r s'=>∃ d,r=.int .i64 ((pl+(scan (kS name cur x) stop ((vS c).drop pl) 0).2:Nat):Int)∧d.map (fun z=>(z.1.ev,z.2.v))=(scan (kS name cur x) stop ((vS c).drop pl) 0).1∧J d s':=by
 have hpr:=ND hb
 obtain ⟨hv0,o0⟩:=Jd _ _ h0
 refine AL _ _ _ _ _ _ _ ⟨_,by rw [o0.at.av];exact (GZ KC _ hv0).1,?_⟩
 refine ⟨fun m vs s'=>∃ (i:Nat) (d:List (nE×IV)),vs=[.int .i64 (i:Nat)]∧pl≤i∧i≤c.log.length∧m=c.log.length - i∧d.length≤i∧J d s'∧(scan (kS name cur x) stop ((vS c).drop pl) 0).1=d.map (fun z=>(z.1.ev,z.2.v))++(scan (kS name cur x) stop ((vS c).drop i) d.length).1∧pl+(scan (kS name cur x) stop ((vS c).drop pl) 0).2=i+(scan (kS name cur x) stop ((vS c).drop i) d.length).2,c.log.length - pl,⟨pl,[],rfl,by omega,CW,rfl,by simp,h0,by simp,by simp⟩,?_⟩
 rintro m n s8 ⟨i,d,hi,h5,h6,rfl,hdl,hJ,hsc,hsn⟩
 simp only [List.cons.injEq,AV.int.injEq,true_and,and_true] at hi
 subst hi
 refine aa.use (abE (Jc _ _ hJ)) ?_
 rintro v9 jD ⟨rfl,rfl⟩ YK
 refine ⟨_,rfl,af.dec (fun hlt=>?_) (fun hge=>?_)⟩
 ·refine aa.use (aee (Jc _ _ hJ) hb (i:=i) (by omega) (fun e he=>⟨by have:=(hp e he).1;omega,by have:=(hp e he).2;omega⟩) (by omega)) ?_
  rintro i_ bS ⟨m,v,G,Z5,aef,rfl,gE,nG,tG,Q1⟩ QZ
  have gE':kq (NX m) bS m:=⟨gE.1,gE.2.1,fun y hy=>List.mem_append.2 hy⟩
  refine ⟨_,_,_,rfl,?_⟩
  refine aj.intro QZ rfl fun j_ eC F18=>aj.intro F18.wf rfl fun A1 fN NU=>⟨⟨dz m,by rw [bq]⟩,bu.own NU.wf (F18.own.ext NU.ext) (by rw [bq];exact Nat.le_refl _) fun gn VQ=>?_⟩
  have d79:j_≠A1:=fun e=>by
   have:=NU.no
   rw [← e,F18.own] at this;cases this
  have q17:Am.Own gn j_ (ig m):=by
   have:=VQ.at
   rw [dD (by rw [bq];rfl)] at this;exact this
  have q19:Am.Own gn A1 (eR.map (.int .u64)):=NU.own.mut VQ.mut (by simpa using Ne.symm d79)
  refine ⟨⟨mY v,by rw [cI]⟩,bu.own VQ.wf q19 (by rw [cI];simp [eR]) fun fO P22=>?_⟩
  have T4:Am.Own fO A1 (rR v):=by
   have:=P22.at
   rw [dD (by rw [cI];simp [eR])] at this;exact this
  have r17:=q17.mut P22.mut (by simpa using d79)
  have E22:Ext bS fO:=Ext.wr (Ext.wr (F18.ext.trans NU.ext) F18.no VQ.mut) (F18.ext.none NU.no) P22.mut
  have WL:=Je _ _ _ hJ (Q1.trans E22) P22.wf
  have CQ:=gE'.ext E22
  have hpi:=abK Z5 aef
  have EB:(vS c).drop i=(m.ev,v.v)::(vS c).drop (i+1):=by
   have h:=List.drop_eq_getElem_cons (l:=vS c) (i:=i) (by omega)
   rw [h,(List.getElem?_eq_some_iff.1 hpi).2]
  rw [EB] at hsc hsn
  have Yk:=hp m.ev (List.mem_of_getElem? Z5)
  refine ⟨fun vs s'=>∃ d' b,vs=[.bool b]∧J d' s'∧d'.length≤i+1∧(scan (kS name cur x) stop ((vS c).drop pl) 0).1=d'.map (fun z=>(z.1.ev,z.2.v))++(if b then [] else (scan (kS name cur x) stop ((vS c).drop (i+1)) d'.length).1)∧pl+(scan (kS name cur x) stop ((vS c).drop pl) 0).2=i+1+(if b then 0 else (scan (kS name cur x) stop ((vS c).drop (i+1)) d'.length).2),?_,?_⟩
  ·rintro b dM ⟨d',b',hb',hJ',hl',h1,h2⟩
   simp only [List.cons.injEq,AV.bool.injEq,and_true] at hb'
   subst hb'
   refine af.mk (fun hb=>?_) (fun hb=>?_)
   ·rw [hb] at h1 h2
    simp only [if_true,List.append_nil,Nat.add_zero] at h1 h2
    exact ⟨d',by rw [Cp (by omega),h2],h1.symm,hJ'⟩
   ·rw [hb] at h1 h2
    simp only [Bool.false_eq_true,if_false] at h1 h2
    exact ⟨c.log.length - (i+1),by omega,i+1,d',by rw [Cp (by omega)],by omega,by omega,rfl,hl',hJ',h1,h2⟩
  ·refine ⟨_,r17.at.aB (by rw [bq];omega),?_⟩
   rw [gC]
   obtain ⟨hv,od⟩:=Jd _ _ WL
   refine aa.use (abJ CQ.at Yk.2 (Js _ _ WL) Uy KC od.at (CH KC _ hv) (by rw [m_ KC];omega) name) ?_
   rintro K4 rA ⟨rfl,Xc⟩ w28
   have J28:=Je _ _ _ WL Xc w28
   refine ⟨_,rfl,af.mk (fun ho=>?_) (fun ho=>?_)⟩
   ·refine ⟨_,(r17.ext Xc).at.aB (by rw [bq];omega),_,(T4.ext Xc).at.aB (by rw [cI];omega),?_⟩
    rw [gC,List.drop_zero,List.take_of_length_le (by rw [cI];omega)]
    show aa _ _ _ _ _
    refine aa.use (step d rA m v J28 (CQ.ext Xc) (by omega)) ?_
    rintro Vn qR ⟨rfl,hJ'⟩ w33
    refine ⟨_,rfl,d++[(m,v)],_,rfl,hJ' w33,by simp;omega,?_,?_⟩
    ·rw [hsc,scan,if_pos ho]
     cases hst:stop (d.length+1) <;> simp
    ·rw [hsn,scan,if_pos ho]
     cases hst:stop (d.length+1) <;> simp <;> omega
   ·refine ⟨d,false,rfl,J28,by omega,?_,?_⟩
    ·rw [hsc,scan,if_neg (by rw [ho];simp)];simp
    ·rw [hsn,scan,if_neg (by rw [ho];simp)];simp;omega
 ·have:(vS c).drop i=[]:=List.drop_eq_nil_of_le (by omega)
  rw [this] at hsc hsn
  simp only [scan,List.append_nil,Nat.add_zero] at hsc hsn
  exact ⟨d,by rw [hsn],hsc.symm,hJ⟩
end Go.Proofs.YtohgmogbabkkeaaGreat
end

section
namespace Go.Proofs.YtohgmogbabkkeaaGreat
open Go.Am Go.au Go.aC Go.bW
theorem Tag.Uo {s:AS} {y g:Nat} {es:List (AV×AV×Nat)} {k:Nat} {ro:Bool} (h:s.h y=some (.map es k ro)):¬ Tag s y g:=fun ⟨cs,t⟩=>by rw [h] at t;cases t
theorem Own.agk {s:AS} {a b:Nat} {x y:List AV} (h:Am.Own s a x) (h':Am.Own s b y) (hl:x.length≠y.length):a≠b:=fun e=>by
 subst e
 have:x=y:=At.inj h.at h'.at
 exact hl (by rw [this])
section
variable {F:List Nat} {s:AS} {p n:Nat} {sec:List Int} {f:List UInt8→Option Dv}
theorem l_.tight (h:l_ F s p sec f n):∃ F0,l_ F0 s p sec f n∧(∀ y∈F0,y∈F)∧∀ y∈F0,s.h y≠none:=by
 obtain ⟨sv,hm,es,k,h1,h2,h3,⟨a1,a2⟩,c1,c2,c3,c4,c5⟩:=h
 have hmem:∀ a m,dU es a=some m→∃ e∈es,e.2.1=m:=fun a m hq=>by
  obtain ⟨j,k,hj⟩:=C9 hq
  exact ⟨_,List.mem_of_getElem? hj,rfl⟩
 have KQ:∀ e∈es,dU es e.1=some e.2.1:=fun e he=>HL c1.nd he
 refine ⟨p::hm::(ay sv++es.flatMap fun e=>fo e.2.1),⟨sv,hm,es,k,h1,by simp,by simp,⟨a1,fun y hy=>by simp [hy]⟩,c1,c2,fun a m hq=>⟨⟨(c3 a m hq).1.1,(c3 a m hq).1.2.1,(c3 a m hq).1.2.2.1,fun y hy=>?_⟩,(c3 a m hq).2⟩,c4,c5⟩,?_,?_⟩
 ·obtain ⟨e,he,rfl⟩:=hmem a m hq
  have:y∈es.flatMap fun e=>fo e.2.1:=List.mem_flatMap.2 ⟨e,he,hy⟩
  simp only [List.mem_cons,List.mem_append,this,or_true]
 ·intro y hy
  simp only [List.mem_cons,List.mem_append] at hy
  rcases hy with rfl | rfl | hy | hy
  ·exact h2
  ·exact h3
  ·exact a2 y hy
  ·obtain ⟨e,he,hy⟩:=List.mem_flatMap.1 hy
   exact (c3 _ _ (KQ e he)).1.2.2.2 y hy
 ·intro y hy
  simp only [List.mem_cons,List.mem_append] at hy
  rcases hy with rfl | rfl | hy | hy
  ·rw [h1];simp
  ·rw [c1.obj];simp
  ·exact bt.lJ a1 y hy
  ·obtain ⟨e,he,hy⟩:=List.mem_flatMap.1 hy
   obtain ⟨d1,d2,_⟩:=(c3 _ _ (KQ e he)).1
   rcases List.mem_cons.1 hy with rfl | hy
   ·rw [d1];simp
   ·exact bt.lJ d2 y hy
def kT (f:List UInt8→Option Dv) (a:List UInt8) (d:Option Dv):List UInt8→Option Dv:=fun b=>if b=a then d else f b
theorem CJ (a:List UInt8) (m':Wl):∀ (es:List (List UInt8×Wl×Nat)) (b:List UInt8),dU (es.map fun e=>if e.1=a then (e.1,m',e.2.2) else e) b=if b=a then (dU es a).map (fun _=>m') else dU es b
 | [],b=>by simp [uc]
 | e::es,b=>by
  rw [List.map_cons,dF,CJ a m' es b,dF,dF]
  by_cases h1:e.1=a
  ·by_cases h2:b=a
   ·subst h2;simp [h1]
   ·have:¬ a=b:=fun h=>h2 h.symm
    simp [h1,h2,this]
  ·by_cases h2:b=a
   ·subst h2;simp [h1]
   ·simp [h1,h2]
theorem l_.dev (h:l_ F s p sec f n) (As:∀ y∈F,s.h y≠none) {name:List UInt8} {d:Dv} (hd:f name=some d):∃ (m:Wl) (sv:AV) (hm:Nat),m.d=d∧IZ F s m∧Am.Own s p [sv,.map (some hm)]∧(bt qH 1 s sv sec∧∀ y∈ay sv,y∈F)∧(∀ s',Ext s s'→dI T aF (.map (some hm)) (.str name) false s'=some (.ptr (some (m.l,0))))∧p ∉ fo m∧(∀ y∈ay sv,y ∉ fo m) ∧
  ∀ (s':AS) (m':Wl),m'.l=m.l→bD (fo m) s s'→Am.Own s' m.l (mZ m'.d.cur m'.d.place m'.hv)→bt rR 16 s' m'.hv m'.H→m'.H.map IV.v=m'.d.hand→(∀ y∈ay m'.hv,y∈fo m∨s.h y=none) →
   ∃ F',l_ F' s' p sec (kT f name (some m'.d)) n∧(∀ y∈F',y∈F∨s.h y=none)∧∀ y∈F',s'.h y≠none:=by
 obtain ⟨sv,hm,es,k,h1,h2,h3,⟨a1,a2⟩,c1,c2,c3,c4,c5⟩:=id h
 cases hq:dU es name with
 | none=>rw [c4 _ hq] at hd;cases hd
 | some m =>
  obtain ⟨hD,hdm⟩:=c3 _ _ hq
  rw [hd] at hdm
  have tm:∀ y∈fo m,∀ g,Tag s y g→g=0∨g=16:=fun y hy g t=>by
   rcases List.mem_cons.1 hy with rfl | hy
   ·exact .inl (t.uniq (Own.tag hD.1))
   ·exact .inr (t.uniq (bt.tag hD.2.1 y hy))
  have hpd:p ∉ fo m:=fun hy=>by
   rcases List.mem_cons.1 hy with e | hy
   ·exact Own.agk h1 hD.1 (by rw [m_ m.len];simp) e
   ·have:=(bt.tag hD.2.1 _ hy).uniq (Own.tag h1);omega
  have hsd:∀ y∈ay sv,y ∉ fo m:=fun y hy hy'=>by rcases tm y hy' 1 (bt.tag a1 y hy) with h | h <;> omega
  have hmd:hm ∉ fo m:=fun hy=>by
   rcases List.mem_cons.1 hy with e | hy
   ·exact Tag.Uo c1.obj (e ▸ Own.tag hD.1)
   ·exact Tag.Uo c1.obj (bt.tag hD.2.1 _ hy)
  refine ⟨m,sv,hm,(Option.some.inj hdm).symm,hD,h1,⟨a1,a2⟩,fun s' e=>?_,hpd,hsd,fun s' m' hl hM ho hg hH L_=>?_⟩
  ·have:=(c1.ext e).find vR name false
   rw [hq] at this
   exact this
  have hml:fo m'=m.l::ay m'.hv:=by rw [fo,hl]
  have hC:l_ (ay m'.hv++F) s' p sec (kT f name (some m'.d)) n:=by
   refine ⟨sv,hm,es.map fun e=>if e.1=name then (e.1,m',e.2.2) else e,k,h1.mut hM hpd,by simp [h2],by simp [h3],⟨a1.mut hM hsd,fun y hy=>by simp [a2 y hy]⟩,?_,by rw [List.length_map,c2],fun a x hx=>?_,fun a ha=>?_,fun a b x y hx hy hab=>?_⟩
   ·have c1':=c1.mut hM hmd
    refine ⟨?_,?_,?_,?_⟩
    ·rw [c1'.obj]
     congr 2
     simp only [lW,List.map_map]
     apply List.map_congr_left
     intro e he
     simp only [Function.comp]
     split
     ·rename_i hn
      have:=HL c1.nd he
      rw [hn,hq] at this
      have:=Option.some.inj this
      simp only [dP,← this,hl]
     ·rfl
    ·rw [List.pairwise_map]
     refine c1.st.imp fun {a b} hab=>?_
     split <;> split <;> exact hab
    ·intro e he
     obtain ⟨e0,he0,rfl⟩:=List.mem_map.1 he
     have:=c1.lt e0 he0
     split <;> exact this
    ·rw [List.pairwise_map]
     refine c1.nd.imp fun {a b} hab=>?_
     split <;> split <;> exact hab
   ·rw [CJ] at hx
    by_cases ha:a=name
    ·rw [if_pos ha,hq] at hx
     obtain rfl:=Option.some.inj hx
     refine ⟨⟨by rw [hl];exact ho,hg,hH,fun y hy=>?_⟩,by rw [kT,if_pos ha]⟩
     rw [hml] at hy
     rcases List.mem_cons.1 hy with rfl | hy
     ·exact List.mem_append_right _ (hD.2.2.2 _ (by simp [fo]))
     ·exact List.mem_append_left _ hy
    ·rw [if_neg ha] at hx
     obtain ⟨hE,hfx⟩:=c3 a x hx
     have hE':=hE.mut hM (c5 name a m x hq hx (Ne.symm ha))
     exact ⟨⟨hE'.1,hE'.2.1,hE'.2.2.1,fun y hy=>List.mem_append_right _ (hE'.2.2.2 y hy)⟩,by rw [kT,if_neg ha];exact hfx⟩
   ·rw [CJ] at ha
    by_cases hn:a=name
    ·rw [if_pos hn,hq] at ha;cases ha
    ·rw [if_neg hn] at ha
     rw [kT,if_neg hn];exact c4 a ha
   ·have old:∀ (b:List UInt8) (y:Wl),dU es b=some y→b≠name→∀ z,z∈fo m'→z ∉ fo y:=fun b y hy hb z hz hzy=>by
     rw [hml] at hz
     rcases List.mem_cons.1 hz with rfl | hz
     ·exact c5 name b m y hq hy (Ne.symm hb) _ (by simp [fo]) hzy
     ·rcases L_ z hz with h | h
      ·exact c5 name b m y hq hy (Ne.symm hb) _ h hzy
      ·exact As z ((c3 b y hy).1.2.2.2 z hzy) h
    rw [CJ] at hx hy
    by_cases ha:a=name
    ·rw [if_pos ha,hq] at hx
     obtain rfl:=Option.some.inj hx
     rw [if_neg (by rw [← ha];exact Ne.symm hab)] at hy
     exact old b y hy (by rw [← ha];exact Ne.symm hab)
    ·rw [if_neg ha] at hx
     by_cases hb:b=name
     ·rw [if_pos hb,hq] at hy
      obtain rfl:=Option.some.inj hy
      exact fun z hz hz'=>old a x hx ha z hz' hz
     ·rw [if_neg hb] at hy
      exact c5 a b x y hx hy hab
  obtain ⟨F0,hF0,hs0,ht0⟩:=hC.tight
  refine ⟨F0,hF0,fun y hy=>?_,ht0⟩
  rcases List.mem_append.1 (hs0 y hy) with h | h
  ·rcases L_ y h with h | h
   ·exact .inl (hD.2.2.2 y h)
   ·exact .inr h
  ·exact .inl h
end
end Go.Proofs.YtohgmogbabkkeaaGreat
end
