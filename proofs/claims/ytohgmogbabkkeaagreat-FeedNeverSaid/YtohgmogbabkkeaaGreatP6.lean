/-
  A part of Pd proof: an abstract machine B7 Pd model, and qA of qB of this program B7 it.
-/
import Derived.KernelRfl
import Derived.Test.YtohgmogbabkkeaaGreatP5
set_option linter.unusedVariables false
set_option linter.unusedSimpArgs false
set_option linter.unusedSectionVars false
section
namespace Go.Proofs.YtohgmogbabkkeaaGreat
open Go.Am Go.av Go.aB Go.bE
theorem PR (n:Int):0<=IntKind.wrap .u64 n:=by
 simp only [IntKind.wrap,IntKind.signed,Bool.false_and,Bool.false_eq_true,if_false,IntKind.bits];exact Int.emod_nonneg _ (by decide)
theorem BI {i:Nat} (h:i<=2 ^ 61):IntKind.wrap .i64 ((i:Int)+1)=((i+1:Nat):Int):=by rw [aX (by omega)];omega
theorem Q9 (x y:Int) (l:List Int):DL x (l++[y])=wE .u32 (DL x l) (VT x (IntKind.wrap .i64 (0 - y))):=by simp [DL]
theorem Wh (x k:Int) (s:AS):aa Tryz.prog gD [.int .u32 x,.int .i64 k] s fun r s'=>r=.int .u32 (VT x k)/\s'=s :=
 sO _ _ _ _ ⟨_,rfl,PR _,PR _,_,rfl,rfl,rfl⟩
def MT (n:Int):List AV:=[.int .i64 n]
theorem Ta (n:Int):(MT n).length=1:=rfl
theorem KN {s:AS} {v:AV} {l:List Int} (h:Sl MT 1 s v l) (n:l.length<=2 ^ 40) (x:Int):aa Tryz.prog aD [.int .u32 x,v] s fun r s'=>r=.int .u32 (DL x l)/\s'=s:=by
 refine yo _ _ _ _ ⟨_,h.cJ r8 _,fun m vs s'=>∃ i:Nat,vs=[.int .u32 (DL x (l.take i)),.int .i64 (i:Nat)]/\i<=l.length/\m=l.length - i/\s'=s,l.length,⟨0,rfl,by omega,rfl,rfl⟩,?_⟩;rintro m p w s7 ⟨i,hi,z,rfl,rfl⟩;simp only [List.cons.injEq,AV.int.injEq,true_and,and_true] at hi;obtain ⟨rfl,rfl⟩:=hi;refine af.dec (fun c=>?_) (fun d=>⟨?_,rfl⟩)
 ·obtain ⟨y,b⟩:=cT (l:=l) (i:=i) (by omega);obtain ⟨la,o,e,j⟩:=h.ix (by decide) Ta r8 It b;have k:=(j _ (Ext.refl _)).1 0 (by decide);refine ⟨la,o,e _,y,by simpa [MT] using k,?_⟩;refine aa.use (Wh _ _ _) ?_;rintro v s' ⟨rfl,rfl⟩ _;refine ⟨_,rfl,_,rfl,l.length - (i+1),by omega,i+1,?_,by omega,rfl,rfl⟩;rw [BI (by omega),List.take_add_one,b,Option.toList_some,Q9];rfl
 ·rw [List.take_of_length_le (by omega)]
theorem OQ (a b:Int) (s:AS):aa Tryz.prog gr [.int .u64 a,.int .u64 b] s fun r s'=>r=.aN [.int .u64 (pe a b).1,.int .u64 (pe a b).2]/\s'=s :=
 Bg _ _ _ _ ⟨_,rfl,by decide,_,rfl,by decide,by decide,_,rfl,by decide,by decide,rfl,rfl⟩
theorem PS (a b:Int):0<=(pe a b).1/\0<=(pe a b).2:=⟨PR _,PR _⟩
theorem Wi {x y:Int} (b:0<=x) (c:0<=y) (s:AS):aa Tryz.prog rZ [.int .u64 x,.int .u64 y,.int .u64 0] s fun v s'=>v=.aN [.int .u64 ((x+y+0) % 18446744073709551616),.int .u64 ((x+y+0) / 18446744073709551616)]/\s'=s :=
 JK Tryz.func307 (by kernel_rfl) (by kernel_rfl) (by kernel_rfl) (by kernel_rfl) b c (by decide) (by decide)
theorem IG (a b:Int):aS T fM [(0,.int .u64 a),(1,.int .u64 b)]=some (.agg [.int .u64 a,.int .u64 b]):=by kernel_rfl
theorem Xg {l:Nat} {i:Int} (h:0<=i/\i<2):ag T fM (.ptr (some (l,0))) (.int .i64 i)=some (.ptr (some (l,0+i.toNat*1))):=uI LX jM h
theorem II (a:Int) (s:AS):aa Tryz.prog fH [.int .u64 a] s fun r s'=>r=.agg [.int .u64 (pe a a).1,.int .u64 (pe a a).2]/\Ext s s':=by
 refine aa.pre fun c=>Kk _ _ _ (aj.intro c rfl fun l1 s2 b=>?_);refine aa.use (OQ _ _ _) ?_;rintro v s' ⟨rfl,rfl⟩ d;refine ⟨_,_,rfl,_,IG _ _,⟨rfl,rfl⟩,bu.own d b.own (by simp) fun s8 P=>⟨_,At.aC (cs:=[.int .u64 (pe a a).1,.int .u64 (pe a a).2]) ⟨_,_,P.at⟩ (by simp),rfl,Ext.wr b.ext b.no P.mut⟩⟩
theorem UO (a:Int) (s:AS):aa Tryz.prog y_ [.int .u64 a] s fun r s'=>r=.aN [.agg ((yG a).map (.int .u64)),.bool (Py a)]/\Ext s s':=by
 refine aa.pre fun j=>Ow _ _ _ (aj.intro j rfl fun l1 s2 c=>?_);refine aa.use (II _ _) ?_;rintro v s4 ⟨rfl,e⟩ k;refine ⟨_,rfl,kj k rfl rfl rfl fun w s8 b=>⟨_,_,Xg (i:=1) (by omega),_,by rw [b.own.at.au];rfl,?_⟩⟩;refine aa.use (OQ _ _ _) ?_;rintro v bW ⟨rfl,rfl⟩ l;refine ⟨_,_,rfl,_,_,Xg (i:=0) (by omega),_,by rw [b.own.at.au];rfl,?_⟩;refine aa.use (OQ _ _ _) ?_;rintro v gy ⟨rfl,rfl⟩ m;refine ⟨_,_,rfl,?_⟩;refine aa.use (Wi (PS _ _).2 (PS _ _).1 _) ?_;rintro v n ⟨rfl,rfl⟩ d;have o:=(c.own.ext e).ext b.ext;refine ⟨_,_,rfl,by decide,by decide,_,rfl,by decide,by decide,_,rfl,_,IG _ _,by decide,⟨rfl,rfl⟩,bu.own d o (by simp) fun p P=>⟨_,At.aC (cs:=(yG a).map (.int .u64)) ⟨_,_,P.at⟩ (by simp [yG]),rfl,Ext.wr ((c.ext.trans e).trans b.ext) c.no P.mut⟩⟩
theorem MU (x y:Int) (lost:Bool) (p:Int) (s:AS):aa Tryz.prog rY [.agg [.int .u64 x,.int .u64 y],.bool lost,.int .u64 p] s fun r s'=>r=.bool (qU x y lost p)/\Ext s s':=by
 refine aa.pre fun e=>Mj _ _ _ _ _ ⟨rfl,aj.intro e rfl fun l1 s2 b=>?_⟩;have d:au s2 l1 (0+(0:Int).toNat*1)=some (.int .u64 x):=by rw [b.own.at.au];rfl
 have j:au s2 l1 (0+(1:Int).toNat*1)=some (.int .u64 y):=by rw [b.own.at.au];rfl
 refine ⟨_,_,Xg (i:=0) (by omega),_,d,af.dec (fun c=>⟨?_,b.ext⟩) (fun c=>⟨_,_,Xg (i:=0) (by omega),_,d,af.mk (fun h2=>⟨_,_,Xg (i:=1) (by omega),_,j,af.dec (fun h3=>⟨?_,b.ext⟩) (fun h3=>⟨?_,b.ext⟩)⟩) (fun h2=>⟨?_,b.ext⟩)⟩)⟩
 ·simp [qU,c]
 ·simp [qU,c,h2,h3]
 ·simp [qU,c,h2,h3]
 ·simp [qU,c,h2]
theorem PT {g:AV} {P:Int->Bool} {s:AS} (d:aG s) (j:∀ x s1,Ext s s1->aG s1->ez Tryz.prog g [.int .u64 x] s1 fun v s'=>v=.bool (P x)/\Ext s1 s'/\aG s'):aa Tryz.prog uQ [g] s fun r s'=>r=.int .u32 (Sn P)/\Ext s s':=by
 refine Oz _ _ _ ⟨fun vs s'=>vs=[.int .u64 (AD P 38)]/\Ext s s',?_,fun m vs s'=>∃ i:Nat,vs=[.int .u64 (AD P i),.int .i64 (i:Nat)]/\i<=38/\m=38 - i/\Ext s s'/\aG s',38,⟨0,rfl,by omega,rfl,Ext.refl _,d⟩,?_⟩
 ·rintro n2 s3 ⟨h,e⟩;simp only [List.cons.injEq,AV.int.injEq,true_and,and_true] at h;subst h;exact ⟨rfl,e⟩
 ·rintro m o p c ⟨i,hi,y,rfl,b,k⟩;simp only [List.cons.injEq,AV.int.injEq,true_and,and_true] at hi;obtain ⟨rfl,rfl⟩:=hi;refine af.dec (fun l=>?_) (fun n=>?_)
  ·refine ⟨by rw [aX (by omega)];omega,_,rfl,?_⟩;have:=j (Uo .u64 (AD P i) (shl .u64 1 (IntKind.wrap .i64 (37 - (i:Int))))) c b k;have key:∀ (g:AV) {R R':AV->AS->Prop},ez Tryz.prog g [.int .u64 (Uo .u64 (AD P i) (shl .u64 1 (IntKind.wrap .i64 (37 - (i:Int)))))] c R->(∀ v s',R v s'->R' v s')->ez Tryz.prog g [.int .u64 (Uo .u64 (AD P i) (shl .u64 1 (IntKind.wrap .i64 (37 - (i:Int)))))] c R':=by
    intro g R R' h hr;cases g <;> first | exact h.elim | exact aa.mono h hr
   refine key _ this ?_;rintro v s' ⟨rfl,e,w⟩;refine ⟨_,rfl,af.mk (fun hb=>⟨38 - (i+1),by omega,i+1,?_,by omega,rfl,b.trans e,w⟩) (fun hb=>⟨38 - (i+1),by omega,i+1,?_,by omega,rfl,b.trans e,w⟩)⟩
   ·rw [BI (by omega),AD,FQ,if_neg (by simpa using hb)];rfl
   ·rw [BI (by omega),AD,FQ,if_pos (by simpa using hb)]
  ·obtain rfl:i=38:=by omega
   exact ⟨rfl,b⟩
theorem Q_ {s:AS} {l:Nat} {p:Int} (h:At s l [.int .u64 p]) (x:Int):aa Tryz.prog oq [.int .u64 x,.ptr (some (l,0))] s fun r s'=>r=.bool (qU ((yG x).getD 0 0) ((yG x).getD 1 0) (Py x) p)/\Ext s s':=by
 refine CJ _ _ _ _ ?_;refine aa.use (UO _ _) ?_;rintro v s2 ⟨rfl,e2⟩ w2;refine ⟨_,_,rfl,kj w2 rfl rfl rfl fun c s7 F=>?_⟩;refine ⟨_,F.own.at.aC (by simp [yG]),_,by rw [((h.ext e2).ext F.ext).au];rfl,?_⟩;refine aa.use (MU _ _ _ _ _) ?_;rintro v s3 ⟨rfl,b⟩ d;exact ⟨_,rfl,rfl,(e2.trans F.ext).trans b⟩
theorem MV (p:Int) (s:AS):aa Tryz.prog qX [.int .u64 p] s fun r s'=>r=.int .u32 (N1 p)/\Ext s s':=by
 refine aa.pre fun b=>Gq _ _ _ (aj.intro b rfl fun l1 s2 F=>?_);refine aa.use (PT (P:=fun x=>qU ((yG x).getD 0 0) ((yG x).getD 1 0) (Py x) p) F.wf fun x s1 e w=>?_) ?_
 ·show aa _ _ _ _ _;refine aa.use (Q_ (F.own.at.ext e) x) ?_;rintro v s' ⟨rfl,c⟩ w';exact ⟨rfl,c,w'⟩
 ·rintro v s4 ⟨rfl,d⟩ i;exact ⟨_,rfl,rfl,F.ext.trans d⟩
theorem Ra {s:AS} {l:Nat} {p:Int} (h:At s l [.int .u64 p]) (x:Int):aa Tryz.prog sF [.int .u64 x,.ptr (some (l,0))] s fun r s'=>r=.bool (qU (pe x x).1 (pe x x).2 false p)/\Ext s s':=by
 refine HF _ _ _ _ ⟨fun _ _ _ _=>True,fun _ _ v=>v=.agg [.int .u64 (pe x x).1,.int .u64 (pe x x).2],fun _ _ _ _ _ _ _=>trivial,?_⟩;refine ⟨fun s1 e1 w1 _=>?_,⟨_,rfl⟩,?_⟩
 ·refine (II _ _).mono ?_;rintro v s3 ⟨rfl,b⟩;exact ⟨_,rfl,b,trivial,rfl⟩
 ·rintro v rfl;refine ⟨_,rfl,_,by rw [h.au];rfl,fun d c e _=>?_⟩;refine aa.use (MU _ _ _ _ _) ?_;rintro v s3 ⟨rfl,b⟩ i;exact ⟨_,rfl,rfl,c.trans b⟩
theorem Tb (p:Int) (s:AS):aa Tryz.prog wR [.int .u64 p] s fun r s'=>r=.int .u32 (So p)/\Ext s s':=by
 refine aa.pre fun b=>Mm _ _ _ (aj.intro b rfl fun l1 s2 F=>?_);refine aa.use (PT (P:=fun x=>qU (pe x x).1 (pe x x).2 false p) F.wf fun x s1 e w=>?_) ?_
 ·show aa _ _ _ _ _;refine aa.use (Ra (F.own.at.ext e) x) ?_;rintro v s' ⟨rfl,c⟩ w';exact ⟨rfl,c,w'⟩
 ·rintro v s4 ⟨rfl,d⟩ i;exact ⟨_,rfl,rfl,F.ext.trans d⟩
end Go.Proofs.YtohgmogbabkkeaaGreat
end

section
namespace Go.Proofs.YtohgmogbabkkeaaGreat
open Go.Am Go.av
def xA (n:Int):List AV:=[.int .u64 n]
theorem ud (n:Int):(xA n).length=1:=rfl
theorem MX:Cf T fB jL 1 8:=⟨jN,jM,St,⟨_,_,QF,rfl,rfl⟩,by decide,by decide⟩
section
variable {s:AS} {a:AV} {l:List Int} {g:FuncId} {cap:List AV} {P:Int->Bool}
theorem HS (w:Sl xA 1 s a l) (H:l.length<=2 ^ 40) (hf:∀ i∈l,∀ s',Ext s s'->aG s'->aa Tryz.prog g ([.int .u64 i]++cap) s' fun v s''=>v=.bool (P i)/\Ext s' s'') :
  aa Tryz.prog dG [a,.func g cap] s fun v s'=>Ext s s'/\∃ n:Int,v=.int .i64 n/\((n = -1/\l.any P=false)\/∃ k:Nat,n=k/\k<l.length/\(∃ x,l[k]? = some x/\P x=true)/\∀ j x,j<k->l[j]? = some x->P x=false):=by
 refine aa.pre fun z=>kY _ _ _ _ ⟨_,w.cJ jN _,fun m vs s'=>∃ i:Nat,vs=[.int .i64 (i:Nat)]/\i<=l.length/\m=l.length - i/\Ext s s'/\aG s'/\(∀ j x,j<i->l[j]? = some x->P x=false),l.length,⟨0,rfl,by omega,rfl,Ext.refl _,z,by omega⟩,?_⟩;rintro m n s6 ⟨i,hi,I,rfl,d,A,b⟩;simp only [List.cons.injEq,AV.int.injEq,true_and,and_true] at hi;subst hi;refine af.dec (fun B=>?_) (fun C=>⟨d,-1,rfl,.inl ⟨rfl,?_⟩⟩)
 ·obtain ⟨x,c⟩:=cT (l:=l) (i:=i) (by omega);obtain ⟨la,o,D,F⟩:=w.ix (by decide) ud jN jM c;refine ⟨la,o,D _,x,by simpa [xA] using (F _ d).1 0 (by decide),?_⟩;refine aa.use (hf x (List.mem_of_getElem? c) s6 d A) ?_;rintro v G ⟨rfl,e⟩ p;refine ⟨_,rfl,af.mk (fun hb=>⟨d.trans e,_,rfl,.inr ⟨i,rfl,by omega,⟨x,c,hb⟩,b⟩⟩) (fun hb=>⟨l.length - (i+1),by omega,i+1,by rw [aX (by omega)];rfl,by omega,rfl,d.trans e,p,fun j y hj r=>?_⟩)⟩;rcases Nat.lt_or_ge j i with h | h
  ·exact b j y h r
  ·obtain rfl:j=i:=by omega
   rw [c] at r;obtain rfl:=Option.some.inj r;exact hb
 ·rw [List.any_eq_false];intro x c;obtain ⟨j,hj⟩:=List.mem_iff_getElem?.1 c;have:j<l.length:=by
   rcases Nat.lt_or_ge j l.length with h | h
   ·exact h
   ·rw [List.getElem?_eq_none h] at hj;cases hj
  rw [b j x (by omega) hj];simp
theorem ue (b:Sl xA 1 s a l) (c:l.length<=2 ^ 40) (hf:∀ i∈l,∀ s',Ext s s'->aG s'->aa Tryz.prog g ([.int .u64 i]++cap) s' fun v s''=>v=.bool (P i)/\Ext s' s'') :
  aa Tryz.prog b_ [a,.func g cap] s fun v s'=>v=.bool (l.any P)/\Ext s s':=by
 refine jS _ _ _ _ ?_;refine aa.use (HS b c hf) ?_;rintro v s2 ⟨e,n,rfl,h⟩ _;refine ⟨_,rfl,?_,e⟩;congr 1;rcases h with ⟨rfl,h⟩ | ⟨k,rfl,m,⟨x,d,j⟩,_⟩
 ·rw [h];decide
 ·rw [List.any_eq_true.2 ⟨x,List.mem_of_getElem? d,j⟩,decide_eq_true_eq];omega
end
section
variable {s:AS} {a:AV} {l:List aJ} {g:FuncId} {cap:List AV} {P:aJ->Bool}
theorem HT (w:Sl aI 2 s a l) (H:l.length<=2 ^ 40) (hf:∀ i∈l,∀ s',Ext s s'->aG s'->aa Tryz.prog g ([.agg (aI i)]++cap) s' fun v s''=>v=.bool (P i)/\Ext s' s'') :
  aa Tryz.prog eV [a,.func g cap] s fun v s'=>Ext s s'/\∃ n:Int,v=.int .i64 n/\((n = -1/\l.any P=false)\/∃ k:Nat,n=k/\k<l.length/\(∃ x,l[k]? = some x/\P x=true)/\∀ j x,j<k->l[j]? = some x->P x=false):=by
 refine aa.pre fun z=>pI _ _ _ _ ⟨_,w.cJ bI _,fun m vs s'=>∃ i:Nat,vs=[.int .i64 (i:Nat)]/\i<=l.length/\m=l.length - i/\Ext s s'/\aG s'/\(∀ j x,j<i->l[j]? = some x->P x=false),l.length,⟨0,rfl,by omega,rfl,Ext.refl _,z,by omega⟩,?_⟩;rintro m n s6 ⟨i,hi,I,rfl,d,A,b⟩;simp only [List.cons.injEq,AV.int.injEq,true_and,and_true] at hi;subst hi;refine af.dec (fun B=>?_) (fun C=>⟨d,-1,rfl,.inl ⟨rfl,?_⟩⟩)
 ·obtain ⟨x,c⟩:=cT (l:=l) (i:=i) (by omega);obtain ⟨la,o,D,F⟩:=w.ix (by decide) bn bI kq c;refine ⟨la,o,D _,_,(F _ d).2,?_⟩;refine aa.use (hf x (List.mem_of_getElem? c) s6 d A) ?_;rintro v G ⟨rfl,e⟩ p;refine ⟨_,rfl,af.mk (fun hb=>⟨d.trans e,_,rfl,.inr ⟨i,rfl,by omega,⟨x,c,hb⟩,b⟩⟩) (fun hb=>⟨l.length - (i+1),by omega,i+1,by rw [aX (by omega)];rfl,by omega,rfl,d.trans e,p,fun j y hj r=>?_⟩)⟩;rcases Nat.lt_or_ge j i with h | h
  ·exact b j y h r
  ·obtain rfl:j=i:=by omega
   rw [c] at r;obtain rfl:=Option.some.inj r;exact hb
 ·rw [List.any_eq_false];intro x c;obtain ⟨j,hj⟩:=List.mem_iff_getElem?.1 c;have:j<l.length:=by
   rcases Nat.lt_or_ge j l.length with h | h
   ·exact h
   ·rw [List.getElem?_eq_none h] at hj;cases hj
  rw [b j x (by omega) hj];simp
theorem C3 (b:Sl aI 2 s a l) (c:l.length<=2 ^ 40) (hf:∀ i∈l,∀ s',Ext s s'->aG s'->aa Tryz.prog g ([.agg (aI i)]++cap) s' fun v s''=>v=.bool (P i)/\Ext s' s'') :
  aa Tryz.prog eo [a,.func g cap] s fun v s'=>v=.bool (l.any P)/\Ext s s':=by
 refine mZ _ _ _ _ ?_;refine aa.use (HT b c hf) ?_;rintro v s2 ⟨e,n,rfl,h⟩ _;refine ⟨_,rfl,?_,e⟩;congr 1;rcases h with ⟨rfl,h⟩ | ⟨k,rfl,m,⟨x,d,j⟩,_⟩
 ·rw [h];decide
 ·rw [List.any_eq_true.2 ⟨x,List.mem_of_getElem? d,j⟩,decide_eq_true_eq];omega
end
end Go.Proofs.YtohgmogbabkkeaaGreat
end

section
namespace Go.Proofs.YtohgmogbabkkeaaGreat
open Go.Am Go.av Go.aB Go.bE
theorem OR {s:AS} {l:Nat} {n p:Int} (h:At s l [.int .u64 n]) (b:p≠0):aa Tryz.prog qY [.int .u64 p,.ptr (some (l,0))] s fun r s'=>r=.bool (Int.tmod n p==0)/\Ext s s' :=
 Gm _ _ _ _ ⟨_,by rw [h.au];rfl,b,rfl,Ext.refl _⟩
theorem Rb (s:AS):aa Tryz.prog uP [] s fun v s'=>aV xA 1 [] s s' v xV:=by
 refine aa.pre fun I=>Kh _ _ (aj.intro I rfl fun l1 s2 z=>bu.own z.wf z.own (by simp) fun s3 A=>?_);have J:Am.Own s3 l1 [.int .u64 2]:=A.at;refine ⟨fun m vs s'=>∃ (k:Nat) (v:AV) (ln:Nat),vs=[v,.ptr (some (ln,0))]/\k<=310/\m=310 - k/\aV xA 1 [] s s' v (eP k)/\Am.Own s' ln [.int .u64 ((k:Int)+2)]/\aG s',310,⟨0,_,l1,rfl,by omega,rfl,aV.start (Ext.wr z.ext z.no A.mut).mut,by simpa using J,A.wf⟩,?_⟩;rintro m S U W ⟨k,v,ln,d,K,rfl,g,j,X⟩;simp only [List.cons.injEq,AV.ptr.injEq,and_true] at d;obtain ⟨rfl,rfl⟩:=d;have l:=g.sl ud;have hlen:(eP k).length<=64:=by
  have:=y4 K;rw [Cl] at this;exact this
 refine ⟨_,l.cJ jN _,af.dec (fun L=>?_) (fun M=>?_)⟩
 ·have o:k<310:=by
   rcases Nat.lt_or_ge k 310 with h | h
   ·exact h
   ·have B:=y4 h;rw [Cl] at B;omega
  refine ⟨fun vs s'=>∃ v,vs=[v]/\aV xA 1 [] s s' v (eP (k+1))/\Am.Own s' ln [.int .u64 ((k:Int)+2)]/\aG s',?_,?_⟩
  ·rintro O bW ⟨v,hv,C,D,G⟩;simp only [List.cons.injEq,and_true] at hv;subst hv;refine ⟨_,by rw [D.at.au];rfl,aj.intro G rfl fun r eT F=>bu.own F.wf F.own (by simp) fun jl P=>?_⟩;have x:Am.Own jl r [.int .u64 ((k:Int)+2)]:=P.at;refine ⟨_,by rw [x.at.au];rfl,bu.own P.wf x (by simp) fun gG H=>⟨310 - (k+1),by omega,k+1,_,r,rfl,by omega,rfl,?_,?_,H.wf⟩⟩
   ·exact C.step (Ext.wr (Ext.wr F.ext F.no P.mut) F.no H.mut)
   ·have:=H.at;rw [dD (by simp),gJ (by omega)] at this;rw [Am.Own,this];congr 4
  ·refine aa.use (ue l (by omega) fun i hi s' e w=>OR (j.at.ext e) (by have:=wF k i hi;omega)) ?_;rintro Q uj ⟨rfl,b⟩ y;refine ⟨_,rfl,af.mk (fun hb=>?_) (fun hb=>?_)⟩
   ·have c:(eP k).any (fun p=>Int.tmod ((k:Int)+2) p==0)=false:=by simpa using hb
    refine ⟨_,by rw [(j.ext b).at.au];rfl,?_⟩;refine aV.LC (f:=fun n=>AV.int .u64 n) MX rfl (fun _=>rfl) y (g.step b) (by simp) ((k:Int)+2) (by omega) fun v' s' R w' m'=>⟨v',rfl,?_,?_,w'⟩
    ·rw [eP,c,if_neg (by simp)];exact R
    ·exact (j.ext b).mut m' (fun hm=>bq.ne (by decide) (g.tI.ext b) (j.ext b) _ hm (by simp))
   ·have c:(eP k).any (fun p=>Int.tmod ((k:Int)+2) p==0)=true:=by simpa using hb
    refine ⟨_,rfl,?_,j.ext b,y⟩;rw [eP,if_pos c];exact g.step b
 ·have o:k=310:=by
   rcases Nat.lt_or_ge k 310 with h | h
   ·have B:=y4 (show k<=309 by omega);rw [QB] at B;omega
   ·omega
  subst o;exact g
theorem RA {l o:Nat} {i:Int} (h:0<=i/\i<8):ag T cG (.ptr (some (l,o))) (.int .i64 i)=some (.ptr (some (l,o+i.toNat*1))):=uI Ds FW h
theorem HU {l o:Nat} {i:Int} (h:0<=i/\i<64):ag T dL (.ptr (some (l,o))) (.int .i64 i)=some (.ptr (some (l,o+i.toNat*1))):=uI JU FW h
theorem BJ (k:IntKind) (n:Nat):List.replicate n (AV.int k 0)=(List.replicate n (0:Int)).map (AV.int k):=by simp
set_option maxRecDepth 100000 in
theorem Tc (s:AS):aa Tryz.prog wQ [] s fun v s'=>v=.agg (su.map (.int .u32))/\Ext s s':=by
 refine aa.pre fun hw=>Mp _ _ (aj.intro hw rfl fun l1 s2 A=>aj.intro A.wf rfl fun l3 s4 B=>?_);refine aa.use (Rb _) ?_;rintro v5 s6 W w6;have X:Ext s4 s6:=W.eC.ext;have F:=W.sl ud;have ab:xV.length=64:=Cl;have ad:s.h l3=none:=A.ext.none B.no;refine ⟨_,F.cJ jN _,fun m vs s'=>∃ i:Nat,vs=[.int .i64 (i:Nat)]/\i<=64/\m=64 - i/\Ext s2 s'/\aG s'/\Am.Own s' l3 ((uK i).map (.int .u32))/\Sl xA 1 s' v5 xV,64,⟨0,rfl,by omega,rfl,B.ext.trans X,w6,?_,F⟩,?_⟩
 ·exact (BJ .u32 72) ▸ (B.own.ext X:Am.Own s6 l3 (List.replicate 72 (AV.int .u32 0)))
 rintro m ae dH ⟨i,hi,h6,rfl,n,K,r,e⟩;simp only [List.cons.injEq,AV.int.injEq,true_and,and_true] at hi;subst hi;refine af.dec (fun al=>?_) (fun am=>?_)
 ·obtain ⟨y,Y⟩:=cT (l:=xV) (i:=i) (by omega);obtain ⟨la,o,h8,h9⟩:=e.ix (by decide) ud jN jM Y;have G:xV.getD i 0=y:=by rw [List.getD_eq_getElem?_getD,Y];rfl
  refine ⟨la,o,h8 _,y,by simpa [xA] using (h9 _ (Ext.refl _)).1 0 (by decide),?_⟩;refine aa.use (MV _ _) ?_;rintro oC kT ⟨rfl,b⟩ L;refine ⟨_,rfl,_,_,HU (by omega),bu.int L (r.ext b) (i:=8+i) (by rw [qV];omega) (by simp) fun gG w M H=>?_⟩;have Z:∀ {l:List Int} {v:AV} {s s':AS},Sl xA 1 s v l->∀ {C:List Int},Am.Own s l3 (C.map (.int .u32))->bz [l3] s s'->Sl xA 1 s' v l:=by
   intro l v s s' h C ho m;refine h.mut m ud (by decide) ?_;rintro p hp D hD x hx j c hc hj;obtain rfl:=List.mem_singleton.1 hp;rw [ho.at.inj hD |>.symm] at hj;rw [List.getElem?_map] at hj;simp only [xA,List.getElem?_cons_zero,Option.some.injEq] at hc;subst hc;cases hq:C[j]? with
   | none=>rw [hq] at hj;cases hj
   | some z=>rw [hq] at hj;simp at hj
  have k:=Z (e.ext b) (r.ext b) H;have I:Ext s2 gG:=Ext.wr (n.trans b) B.no H;refine af.dec (fun O=>?_) (fun O=>?_)
  ·refine aa.use (Tb _ _) ?_;rintro an uj ⟨rfl,d⟩ Q;refine ⟨_,rfl,_,_,RA (by omega),bu.int Q (w.ext d) (i:=i) (by simp [qV];omega) (by simp) fun ao R S J=>⟨64 - (i+1),by omega,i+1,by rw [BI (by omega)],by omega,rfl,Ext.wr (I.trans d) B.no J,S,?_,Z (k.ext d) (w.ext d) J⟩⟩;rw [uK,EM,if_pos (by omega),G];exact R
  ·refine ⟨64 - (i+1),by omega,i+1,by rw [BI (by omega)],by omega,rfl,I,M,?_,k⟩;rw [uK,EM,if_neg (by omega),G];exact w
 ·obtain rfl:i=64:=by omega
  have o1:=A.own.ext n;have U:((uK 64).map (AV.int .u32)).length=72:=by simp [qV]
  refine ⟨_,r.at.aC (by omega),?_⟩;rw [List.drop_zero,List.take_of_length_le (by omega)];refine ⟨⟨cq _ _,by rw [U]⟩,bu.own K o1 (by simp [U]) fun ar P=>?_⟩;have hP:=P.at;rw [dD (by simp [U])] at hP;refine ⟨_,At.aC ⟨_,_,hP⟩ (by omega),?_,Ext.wr (A.ext.trans n) A.no P.mut⟩;rw [List.drop_zero,List.take_of_length_le (by omega)];rfl
end Go.Proofs.YtohgmogbabkkeaaGreat
end

section
namespace Go.Proofs.YtohgmogbabkkeaaGreat
open Go.Am Go.av Go.aB Go.bE
theorem OS (a b:Int):dw T gS 2 [(0,.int .i64 a),(1,.int .i64 b)]=some [.int .i64 a,.int .i64 b]:=by
 simp only [dw,r8,It,FR,Option.bind_some,uA];rfl
theorem Td (a b c:Int):dw T gS 3 [(0,.int .i64 a),(1,.int .i64 b),(2,.int .i64 c)]=some [.int .i64 a,.int .i64 b,.int .i64 c]:=by
 simp only [dw,r8,It,FR,Option.bind_some,uA];rfl
theorem Vt {s:AS} {l:Nat} {a b:Int} (h:At s l [.int .i64 a,.int .i64 b]):Sl MT 1 s (.slc (some (l,0)) 2 2 true) [a,b]:=ct.mk h rfl rfl
theorem Vu {s:AS} {l:Nat} {a b c:Int} (h:At s l [.int .i64 a,.int .i64 b,.int .i64 c]):Sl MT 1 s (.slc (some (l,0)) 3 3 true) [a,b,c]:=ct.mk h rfl rfl
theorem MY (a b c d e f g z:Int):aS T cG [(0,.int .u32 a),(1,.int .u32 b),(2,.int .u32 c),(3,.int .u32 d),(4,.int .u32 e),(5,.int .u32 f),(6,.int .u32 g),(7,.int .u32 z)]=some (.agg [.int .u32 a,.int .u32 b,.int .u32 c,.int .u32 d,.int .u32 e,.int .u32 f,.int .u32 g,.int .u32 z]):=by kernel_rfl
theorem Te (v:W8) {i:Nat} (hi:i<8):ju T cG (.agg (v.list.map (.int .u32))) (.int .i64 (i:Nat))=some (.int .u32 (v.list.getD i 0)):=by
 simp only [ju,Ds,FW,Option.bind_some,Cg QH];rcases v with ⟨a,b,c,d,e,f,g,z⟩
 match i,hi with
 | 0,_=>simp [W8.list]
 | 1,_=>simp [W8.list]
 | 2,_=>simp [W8.list]
 | 3,_=>simp [W8.list]
 | 4,_=>simp [W8.list]
 | 5,_=>simp [W8.list]
 | 6,_=>simp [W8.list]
 | 7,_=>simp [W8.list]
def W8.vs (v:W8):List AV:=[.int .u32 v.a,.int .u32 v.b,.int .u32 v.c,.int .u32 v.d,.int .u32 v.e,.int .u32 v.f,.int .u32 v.g,.int .u32 v.z]
theorem W8.inj {v:W8} {a b c d e f g z:Int} (h:[AV.int .u32 a,.int .u32 b,.int .u32 c,.int .u32 d,.int .u32 e,.int .u32 f,.int .u32 g,.int .u32 z]=W8.vs v):v=⟨a,b,c,d,e,f,g,z⟩:=by
 cases v;simp only [W8.vs,List.cons.injEq,AV.int.injEq,true_and,and_true] at h;obtain ⟨rfl,rfl,rfl,rfl,rfl,rfl,rfl,rfl⟩:=h;rfl
set_option maxRecDepth 100000 in
theorem Tf {s:AS} {p:Nat} {st:List Int} {bv:AV} {n:List Int} (ho:Am.Own s p (st.map (.int .u32))) (cw:st.length=72) (hb:fE s bv n) (bb:bv≠.emp) (cx:n.length=64) :
  aa Tryz.prog mO [.ptr (some (p,0)),bv] s fun r s'=>r=.aN []/\bz [p] s s'/\Am.Own s' p ((N4 st n).map (.int .u32)):=by
 refine aa.pre fun hw=>Bd _ _ _ _ (aj.intro hw rfl fun l1 s2 W=>?_);have cy:l1≠p:=fun e=>by
  have:=W.no;rw [e,ho] at this;cases this
 have o1:Am.Own s2 l1 ((T1 n 0).map (.int .u32)):=(BJ .u32 64) ▸ (W.own:Am.Own s2 l1 (List.replicate 64 (AV.int .u32 0)));refine ⟨fun vs s'=>Ext s s'/\aG s'/\Am.Own s' l1 ((LQ n 0).map (.int .u32)),?_,?_⟩
 ·rintro s4 ⟨e4,w4,o4⟩;refine ⟨fun vs s'=>Ext s s'/\aG s'/\Am.Own s' l1 ((LQ n 48).map (.int .u32)),?_,?_⟩
  ·rintro s6 ⟨e6,w6,o6⟩;have Y:=ho.ext e6;have rd:∀ i:Nat,i<8->au s6 p (0+((i:Nat):Int).toNat*1)=some (.int .u32 (st.getD i 0)):=fun i hi=>Y.at.QC (by omega) (by simp);refine ⟨_,_,RA (i:=0) (by omega),_,rd 0 (by omega),_,_,RA (i:=1) (by omega),_,rd 1 (by omega),_,_,RA (i:=2) (by omega),_,rd 2 (by omega),_,_,RA (i:=3) (by omega),_,rd 3 (by omega),_,_,RA (i:=4) (by omega),_,rd 4 (by omega),_,_,RA (i:=5) (by omega),_,rd 5 (by omega),_,_,RA (i:=6) (by omega),_,rd 6 (by omega),_,_,RA (i:=7) (by omega),_,rd 7 (by omega),?_⟩;refine ⟨fun vs s'=>vs=W8.vs (wG st (LQ n 48) 64)/\Ext s s'/\aG s',?_,?_⟩
   ·rintro cz cA cB cC c0 c1 c2 c3 c4 ⟨hv,Z,bc⟩;have hv:=W8.inj hv;refine ⟨_,MY _ _ _ _ _ _ _ _,fun m vs s'=>∃ i:Nat,vs=[.int .i64 (i:Nat)]/\i<=8/\m=8 - i/\bz [p] s s'/\aG s'/\Am.Own s' p ((LR (wG st (LQ n 48) 64).list st i).map (.int .u32)),8,⟨0,rfl,by omega,rfl,Z.mut,bc,ho.ext Z⟩,?_⟩;rintro m c5 bd ⟨i,hi,h6,rfl,ab,be,R⟩;simp only [List.cons.injEq,AV.int.injEq,true_and,and_true] at hi;subst hi;refine af.dec (fun G=>?_) (fun H=>?_)
    ·have hx:=Te (wG st (LQ n 48) 64) (i:=i) (by omega);have hr:au bd p (0+((i:Nat):Int).toNat*1)=some (.int .u32 ((LR (wG st (LQ n 48) 64).list st i).getD i 0)):=R.at.QC (by rw [AE];omega) (by simp);rw [hv] at hx;refine ⟨_,hx,_,_,RA (by omega),_,hr,_,_,RA (by omega),bu.int be R (i:=i) (by rw [AE];omega) (by simp) fun c6 ad bh bi=>⟨8 - (i+1),by omega,i+1,by rw [BI (by omega)],by omega,rfl,ab.trans bi,bh,?_⟩⟩;rw [LR];rw [hv] at ad ⊢;exact ad
    ·obtain rfl:i=8:=by omega
     exact ⟨rfl,ab,R⟩
   ·refine ⟨fun m vs s'=>∃ i:Nat,vs=W8.vs (wG st (LQ n 48) i)++[.int .i64 (i:Nat)]/\i<=64/\m=64 - i/\Ext s6 s'/\aG s',64,⟨0,rfl,by omega,rfl,Ext.refl _,w6⟩,?_⟩;rintro m a b c d e f g z bj ae ⟨i,hi,h6,rfl,I,bk⟩;obtain ⟨hv,hi⟩:=List.append_inj' (s₁:=[AV.int .u32 a,.int .u32 b,.int .u32 c,.int .u32 d,.int .u32 e,.int .u32 f,.int .u32 g,.int .u32 z]) (t₁:=[AV.int .i64 bj]) hi rfl;have hv:=W8.inj hv;simp only [List.cons.injEq,AV.int.injEq,true_and,and_true] at hi;subst hi;refine af.dec (fun G=>?_) (fun H=>?_)
    ·have X:au ae p (0+8+((i:Nat):Int).toNat*1)=some (.int .u32 (st.getD (8+i) 0)):=(Y.ext I).at.QC (by omega) (by simp);have bl:au ae l1 (0+((i:Nat):Int).toNat*1)=some (.int .u32 ((LQ n 48).getD i 0)):=(o6.ext I).at.QC (by rw [EP];omega) (by simp);refine ⟨fun q _ v s=>q=3->Sl MT 1 s v [6,11,25],fun q _ v=>q=4->v=.int .u32 (DL e [6,11,25]),fun q _ v s s' e h C=>(h C).ext e,fun c7 c8 bm _=>⟨_,Td _ _ _,aj.intro bm rfl fun c9 c' F=>⟨F.ext,(fun _=>Vu F.own.at),(fun h=>by cases h)⟩⟩,⟨.bad,fun h=>by cases h⟩,fun da _=>⟨fun db dc dd hS=>?_,⟨_,fun _=>rfl⟩,fun df al=>?_⟩⟩
     ·refine (KN (hS.1 rfl) (by decide) _).mono ?_;rintro v s' ⟨rfl,rfl⟩;exact ⟨_,rfl,Ext.refl _,(fun h=>by cases h),(fun _=>rfl)⟩
     ·obtain rfl:=al rfl;refine ⟨_,rfl,_,rfl,_,rfl,_,rfl,_,rfl,_,_,HU (by omega),_,X,_,_,HU (by omega),_,bl,fun bx am an _=>⟨_,Td _ _ _,aj.intro an rfl fun b0 b1 F=>?_⟩⟩;refine aa.use (KN (Vu F.own.at) (by decide) _) ?_;rintro v b2 ⟨rfl,rfl⟩ ao;refine ⟨_,rfl,_,rfl,_,rfl,_,rfl,_,rfl,_,rfl,64 - (i+1),by omega,i+1,?_,by omega,rfl,I.trans (am.trans F.ext),ao⟩;rw [BI (by omega),wG,hv];rfl
    ·obtain rfl:i=64:=by omega
     refine ⟨?_,e6.trans I,bk⟩;rw [hv];rfl
  ·refine ⟨fun m vs s'=>∃ i:Nat,vs=[.int .i64 ((16+i:Nat):Int)]/\i<=48/\m=48 - i/\Ext s s'/\aG s'/\Am.Own s' l1 ((LQ n i).map (.int .u32)),48,⟨0,rfl,by omega,rfl,e4,w4,o4⟩,?_⟩;rintro m b3 ar ⟨i,hi,h6,rfl,e7,w7,o7⟩;simp only [List.cons.injEq,AV.int.injEq,true_and,and_true] at hi;subst hi;refine af.dec (fun G=>?_) (fun H=>?_)
   ·have ww:∀ k:Nat,k<=16->IntKind.wrap .i64 (((16+i:Nat):Int) - (k:Int))=((16+i - k:Nat):Int):=fun k X=>by rw [aX (by omega)];omega
    have rd:∀ k:Nat,k<64->au ar l1 (0+(k:Int).toNat*1)=some (.int .u32 ((LQ n i).getD k 0)):=fun k X=>o7.at.QC (by rw [EP];omega) (by simp);have aw:=ww 15 (by omega);have w2:=ww 2 (by omega);have a0:=ww 16 (by omega);have a1:=ww 7 (by omega);rw [show ((15:Nat):Int)=15 from rfl] at aw;rw [show ((2:Nat):Int)=2 from rfl] at w2;rw [show ((16:Nat):Int)=16 from rfl] at a0;rw [show ((7:Nat):Int)=7 from rfl] at a1;rw [aw,w2,a0,a1];refine ⟨_,_,HU (by omega),_,rd _ (by omega),_,_,HU (by omega),_,rd _ (by omega),fun q _ v s=>(q=7->Sl MT 1 s v [7,18])/\(q=20->Sl MT 1 s v [17,19]),fun q _ v=>(q=8->v=.int .u32 (DL ((LQ n i).getD (16+i - 15) 0) [7,18]))/\(q=21->v=.int .u32 (DL ((LQ n i).getD (16+i - 2) 0) [17,19])),fun q _ v s s' e h=>⟨fun C=>(h.1 C).ext e,fun C=>(h.2 C).ext e⟩,_,_,HU (by omega),_,rd _ (by omega),fun b4 b5 a2 _=>⟨_,OS _ _,aj.intro a2 rfl fun b6 b7 F=>⟨F.ext,⟨(fun _=>Vt F.own.at),(fun h=>by cases h)⟩,(fun h=>by cases h),(fun h=>by cases h)⟩⟩,⟨.bad,(fun h=>by cases h),(fun h=>by cases h)⟩,fun b8 _=>⟨fun b9 b' ca hS=>?_,⟨_,(fun _=>rfl),(fun h=>by cases h)⟩,fun cb S=>?_⟩⟩
    ·refine (KN (hS.1.1 rfl) (by decide) _).mono ?_;rintro v s' ⟨rfl,rfl⟩;exact ⟨_,rfl,Ext.refl _,⟨(fun h=>by cases h),(fun h=>by cases h)⟩,(fun _=>rfl),(fun h=>by cases h)⟩
    ·obtain rfl:=S.1 rfl;refine ⟨_,rfl,by decide,_,rfl,_,_,HU (by omega),_,rd _ (by omega),fun cc cd a3 _=>⟨_,OS _ _,aj.intro a3 rfl fun ce cf F=>⟨F.ext,⟨(fun h=>by cases h),(fun _=>Vt F.own.at)⟩,(fun h=>by cases h),(fun h=>by cases h)⟩⟩,⟨.bad,(fun h=>by cases h),(fun h=>by cases h)⟩,fun ch _=>⟨fun ci ck cl hS=>?_,⟨_,(fun h=>by cases h),(fun _=>rfl)⟩,fun cm U=>?_⟩⟩
     ·refine (KN (hS.2.2.1.2 rfl) (by decide) _).mono ?_;rintro v s' ⟨rfl,rfl⟩;exact ⟨_,rfl,Ext.refl _,⟨(fun h=>by cases h),(fun h=>by cases h)⟩,(fun h=>by cases h),(fun _=>rfl)⟩
     ·obtain rfl:=U.2 rfl;refine ⟨_,rfl,by decide,_,rfl,fun cn J a4 _=>⟨_,_,HU (by omega),bu.int a4 (o7.ext J) (i:=16+i) (by rw [EP];omega) (by simp;omega) fun cp a5 a6 a7=>⟨48 - (i+1),by omega,i+1,by rw [BI (by omega)];rfl,by omega,rfl,Ext.wr (e7.trans J) W.no a7,a6,?_⟩⟩⟩;rw [LQ,N3];exact a5
   ·obtain rfl:i=48:=by omega
    exact ⟨e7,w7,o7⟩
 ·refine ⟨fun m vs s'=>∃ i:Nat,vs=[.int .i64 (i:Nat)]/\i<=16/\m=16 - i/\Ext s s'/\aG s'/\Am.Own s' l1 ((T1 n i).map (.int .u32)),16,⟨0,rfl,by omega,rfl,W.ext,W.wf,o1⟩,?_⟩;rintro m cr cs ⟨i,hi,h6,rfl,A,K,L⟩;simp only [List.cons.injEq,AV.int.injEq,true_and,and_true] at hi;subst hi;refine af.dec (fun G=>?_) (fun H=>?_)
  ·have w4:IntKind.wrap .i64 (4*(i:Int))=((4*i:Nat):Int):=by rw [aX (by omega)];omega
   have w8:IntKind.wrap .i64 (((4*i:Nat):Int)+4)=((4*i+4:Nat):Int):=by rw [aX (by omega)];omega
   obtain ⟨v',oM,a8⟩:=(hb.ext A).mid bM aO eG bb (i:=4*i) (j:=4*i+4) (by omega) (by omega) .i64 .i64;rw [w4,w8];have bo:((n.drop (4*i)).take (4*i+4 - 4*i)).length=4:=by rw [List.length_take,List.length_drop];omega
   refine ⟨_,oM,_,a8.cJ aO _,fun m vs s'=>∃ k:Nat,vs=[.int .i64 (k:Nat)]/\k<=4/\m=4 - k/\Ext s s'/\aG s'/\Sl oT 1 s' v' ((n.drop (4*i)).take (4*i+4 - 4*i))/\Am.Own s' l1 ((Vp n i (T1 n i) k).map (.int .u32)),4,⟨0,rfl,by omega,rfl,A,K,a8,L⟩,?_⟩;rintro m cu a9 ⟨k,X,dk,rfl,M,O,B,w⟩;simp only [List.cons.injEq,AV.int.injEq,true_and,and_true] at X;subst X;rw [bo];refine af.dec (fun G=>?_) (fun H=>?_)
   ·obtain ⟨y,hy⟩:=cT (l:=(n.drop (4*i)).take (4*i+4 - 4*i)) (i:=k) (by omega);have bs:n.getD (4*i+k) 0=y:=by
     rw [List.getElem?_take,if_pos (by omega),List.getElem?_drop] at hy;rw [List.getD_eq_getElem?_getD,hy];rfl
    obtain ⟨la,o,h8,h9⟩:=B.ix (by decide) bM aO eG hy;have hr:au a9 l1 (0+((i:Nat):Int).toNat*1)=some (.int .u32 ((Vp n i (T1 n i) k).getD i 0)):=w.at.QC (by rw [EN,EO];omega) (by simp);refine ⟨la,o,h8 _,y,by simpa [oT] using (h9 _ (Ext.refl _)).1 0 (by decide),_,_,HU (by omega),_,hr,by decide,_,rfl,_,_,HU (by omega),bu.int O w (i:=i) (by rw [EN,EO];omega) (by simp) fun cv a' ba Q=>⟨4 - (k+1),by omega,k+1,by rw [BI (by omega)],by omega,rfl,Ext.wr M W.no Q,ba,?_,?_⟩⟩
    ·refine B.mut Q bM (by decide) ?_;rintro q C D hD x hx j c hc hj;obtain rfl:=List.mem_singleton.1 C;rw [<- w.at.inj hD,List.getElem?_map] at hj;simp only [oT,List.getElem?_cons_zero,Option.some.injEq] at hc;subst hc;cases C:(Vp n i (T1 n i) k)[j]? with
     | none=>rw [C] at hj;cases hj
     | some z=>rw [C] at hj;simp at hj
    ·rw [Vp,N2,bs];exact a'
   ·obtain rfl:k=4:=by omega
    refine ⟨16 - (i+1),by omega,i+1,by rw [BI (by omega)],by omega,rfl,M,O,w⟩
  ·obtain rfl:i=16:=by omega
   exact ⟨A,K,L⟩
end Go.Proofs.YtohgmogbabkkeaaGreat
end

section
namespace Go.Proofs.YtohgmogbabkkeaaGreat
open Go.Am Go.av Go.aB Go.bE
theorem Tg (k:Nat):(List.replicate k (0:Int)).flatMap oT=rep k [AV.int .u8 0]:=by
 induction k with
 | zero=>rfl
 | succ k b=>simp only [List.replicate_succ,List.flatMap_cons,b,rep];rfl
theorem Rc {s0 s:AS} (e:aG s) {v:AV} {l:List Int} (h:zK s0 s v l) (hv:l≠[]) (k:Nat) (hb:l.length+k<=2 ^ 28) {K:AV->AS->Prop} (r:∀ v' s',zK s0 s' v' (l++List.replicate k 0)->aG s'->K v' s'):iT (aL T aq qZ v (.int .i64 (k:Nat)) s) K:=by
 rcases h with ⟨⟨rfl,_⟩ | ⟨la,rfl,b⟩,i,w⟩
 ·exact absurd rfl hv
 have c:=sU l;have B:bO (AV.int IntKind.u8 0)=some [AV.int .u8 0]:=rfl;have m:aL T aq qZ (.slc (some (la,0)) l.length l.length false) (.int .i64 (k:Nat)) s=if k=0 then some (.slc (some (la,0)) l.length l.length false,s) else
   some (.slc (some (s.nl,0)) (l.length+k) (l.length+k) false,(s.kill la).new (.cells (l.flatMap oT++rep k [.int .u8 0]) 1 false)):=by
  simp only [aL,aO,Pz,if_true,s_,eG,JN,FT,Option.bind_some,B,List.length_cons,List.length_nil,Int.toNat_natCast,Nat.zero_add];rw [if_neg (by omega)];split
  ·rfl
  ·have d:nM 1 l.length s (.slc (some (la,0)) l.length l.length false)=some (l.flatMap oT):=by
    have:l.length≠0:=fun h=>hv (List.length_eq_zero_iff.1 h);simp only [nM,if_neg this];rw [uB b (by rw [c];omega),List.drop_zero,List.take_of_length_le (by rw [c];omega)]
   rw [d];simp only [Option.bind_some,b,Nat.zero_add];rw [if_pos ⟨trivial,by omega,by omega⟩]
 by_cases z:k=0
 ·subst z;rw [if_pos rfl] at m;refine ⟨_,_,m,r _ _ ?_ e⟩;simp only [List.replicate_zero,List.append_nil];exact ⟨.inr ⟨la,rfl,b⟩,i,w⟩
 ·rw [if_neg z] at m;have C:aG (s.kill la):=by
   refine ⟨e.1,fun j=>?_⟩;rw [AS.sq,AS.oL,AS.EB];split
   ·rfl
   ·exact e.2 j
  have n:=C.new (o:=.cells (l.flatMap oT++rep k [.int .u8 0]) 1 false) rfl;refine ⟨_,_,m,r _ _ ⟨.inr ⟨s.nl,by simp,?_⟩,⟨fun y o D p=>n.ext.1 y o ?_,Nat.le_trans i.2 n.ext.2⟩,fun x A=>?_⟩ n.wf⟩
  ·rw [List.flatMap_append,Tg];exact n.at
  ·rw [AS.sq,if_neg]
   ·exact i.1 y o D p
   ·rintro rfl;rw [w y (by simp [ax])] at p;cases p
  ·simp only [ax,List.mem_singleton] at A;subst A;cases F:s0.h s.nl with
   | none=>rfl
   | some o =>
    have:=i.1 _ _ (by simp) F;rw [e.none] at this;cases this
theorem UP (n:Nat) (c:n<=2 ^ 40):Int.tmod (IntKind.wrap .i64 (120 - Int.tmod ((n+1:Nat):Int) 64)) 64=((JM n:Nat):Int):=by
 have b:Int.tmod ((n+1:Nat):Int) 64=(((n+1) % 64:Nat):Int):=by
  rw [Int.tmod_eq_emod_of_nonneg (by omega)];omega
 rw [b,aX (by omega),Int.tmod_eq_emod_of_nonneg (by omega),JM];omega
theorem UQ (f:Nat->Int) {i n:Nat} (h:i<n):((List.range i).map f++List.replicate (n - i) 0).set i (f i)=(List.range (i+1)).map f++List.replicate (n - (i+1)) 0:=by
 have e:n - i=(n - (i+1))+1:=by omega
 rw [e,List.range_succ,List.set_append,if_neg (by simp)];simp [List.replicate_succ]
theorem XP {l:Nat} {i:Int} (h:0<=i/\i<32):ag T sH (.ptr (some (l,0))) (.int .i64 i)=some (.ptr (some (l,0+i.toNat*1))):=uI JQ eG h
theorem Rd {k:IntKind} (e:k≠.u8) {s s':AS} {q:Nat} {C:List Int} {v:AV} {l:List Int} (h:fE s v l) (i:Am.Own s q (C.map (.int k))) (m:bz [q] s s'):fE s' v l:=by
 refine Sl.mut h m bM (by decide) ?_;rintro p n D o x r j c b hj;obtain rfl:=List.mem_singleton.1 n;rw [<- i.at.inj o,List.getElem?_map] at hj;simp only [oT,List.getElem?_cons_zero,Option.some.injEq] at b;subst b;cases d:C[j]? with
 | none=>rw [d] at hj;cases hj
 | some z=>rw [d] at hj;simp at hj;exact e hj.1
set_option maxRecDepth 100000 in
theorem PU {s:AS} {st:List Int} (y:st.length=72) {a:AV} {L:List (AV×List Int)} (ha:Sl WL 1 s a L) (hL:∀ p∈L,fE s p.1 p.2) (hn:L.length<=2 ^ 20) (hb:qz L<=2 ^ 20) :
  aa Tryz.prog cK [.agg (st.map (.int .u32)),a] s fun r s'=>r=.agg ((Dr st (L.flatMap Prod.snd)).map (.int .u8))/\Ext s s':=by
 refine aa.pre fun hw=>Bj _ _ _ _ ⟨cq _ _,aj.intro hw rfl fun l1 s2 x=>aj.intro x.wf rfl fun l3 s4 z=>?_⟩;have U:=x.ext.trans z.ext;have o1:Am.Own s4 l1 (st.map (.int .u32)):=x.own.ext z.ext;have o3:Am.Own s4 l3 ((List.replicate 32 (0:Int)).map (.int .u8)):=(BJ .u8 32) ▸ (z.own:Am.Own s4 l3 (List.replicate 32 (AV.int .u8 0)));have A:l1≠l3:=fun e=>by
  have:=z.no;rw [<- e,x.own] at this;cases this
 have n3:s.h l3=none:=x.ext.none z.no;refine aa.use (Q7 (ha.ext U) (fun p hp=>(hL p hp).ext U) hn (by omega)) ?_;rintro v5 s6 W w6;have X:=xZ L;generalize L.flatMap Prod.snd=b at W X ⊢;refine ⟨_,(W.sl bM).cJ aO _,?_⟩;refine xy w6 W (by simp) 128 (by omega) fun v11 dH B Y a9=>?_;refine ⟨_,(B.sl bM).cJ aO _,by decide,by decide,?_⟩;have a':JM b.length<64:=by unfold JM;omega
 have Z:(b++[(128:Int)]).length=b.length+1:=by simp
 rw [Z,UP _ (by omega)];refine Rc Y B (by simp) (JM b.length) (by simp;omega) fun ba gh ab ad=>?_;have bb:=LS b;have bc:=Sq b;refine ⟨fun vs s'=>∃ v,vs=[v]/\zK s4 s' v (sx b)/\aG s',?_,?_⟩
 ·rintro bd eT ⟨v,hv,c,ae⟩;simp only [List.cons.injEq,and_true] at hv;subst hv;refine ⟨fun vs s'=>Ext s s'/\aG s'/\Am.Own s' l1 ((wH st (sx b) ((sx b).length / 64)).map (.int .u32))/\Am.Own s' l3 ((List.replicate 32 (0:Int)).map (.int .u8)),?_,?_⟩
  ·rintro gy ⟨al,am,C,an⟩;generalize hS:wH st (sx b) ((sx b).length / 64)=S at C;have be:S.length=72:=by rw [<- hS,y5,y]
   refine ⟨fun m vs s'=>∃ i:Nat,vs=[.int .i64 (i:Nat)]/\i<=32/\m=32 - i/\Ext s s'/\aG s'/\Am.Own s' l1 (S.map (.int .u32))/\Am.Own s' l3 (((List.range i).map (Up S)++List.replicate (32 - i) 0).map (.int .u8)),32,⟨0,rfl,by omega,rfl,al,am,C,by simpa using an⟩,?_⟩;rintro m bh dZ ⟨i,hi,h6,rfl,D,F,G,d⟩;simp only [List.cons.injEq,AV.int.injEq,true_and,and_true] at hi;subst hi;refine af.dec (fun ao=>?_) (fun ar=>?_)
   ·have hd:IntKind.wrap .i64 (Int.tdiv (i:Int) 4)=((i / 4:Nat):Int):=by
     rw [Int.tdiv_eq_ediv_of_nonneg (by omega),aX (by omega)];omega
    have ht:Int.tmod (i:Int) 4=((i % 4:Nat):Int):=by rw [Int.tmod_eq_emod_of_nonneg (by omega)];omega
    have hr:au dZ l1 (0+((i / 4:Nat):Int).toNat*1)=some (.int .u32 (S.getD (i / 4) 0)):=G.at.QC (by omega) (by simp;omega);rw [hd];refine ⟨by decide,_,_,RA (by omega),_,hr,by decide,?_,_,_,XP (by omega),bu.int F d (i:=i) (by simp;omega) (by simp) fun nK aw a0 H=>⟨32 - (i+1),by omega,i+1,by rw [BI (by omega)],by omega,rfl,Ext.wr D n3 H,a0,G.mut H (by simpa using A),?_⟩⟩
    ·rw [ht,aX (n:=8*((i % 4:Nat):Int)) (by omega),aX (by omega)];omega
    ·rw [<- UQ (Up S) (by omega)];exact aw
   ·obtain rfl:i=32:=by omega
    simp only [Nat.sub_self,List.replicate_zero,List.append_nil] at d;have hl:(((List.range 32).map (Up S)).map (AV.int .u8)).length=32:=by simp
    refine ⟨_,d.at.aC (by omega),?_⟩;rw [List.drop_zero,List.take_of_length_le (by omega)];refine ⟨⟨cq _ _,by rw [hl]⟩,bu.own F d (by omega) fun bi P=>?_⟩;have hP:=P.at;rw [dD (by omega)] at hP;refine ⟨_,At.aC ⟨_,_,hP⟩ (by omega),?_,Ext.wr D n3 P.mut⟩;rw [List.drop_zero,List.take_of_length_le (by omega),Dr,hS,VV]
  ·refine ⟨fun m vs s'=>∃ (k:Nat) (v:AV),vs=[v]/\64*k<=(sx b).length/\m=(sx b).length / 64 - k/\Ext s s'/\aG s'/\fE s' v ((sx b).drop (64*k))/\Am.Own s' l1 ((wH st (sx b) k).map (.int .u32))/\Am.Own s' l3 ((List.replicate 32 (0:Int)).map (.int .u8)),(sx b).length / 64,⟨0,_,rfl,by omega,rfl,U.trans c.eC.ext,ae,by simpa using c.sl bM,o1.ext c.eC.ext,o3.ext c.eC.ext⟩,?_⟩;rintro m bj bk ⟨k,v,hv,hk,rfl,I,a1,j,l,J⟩;simp only [List.cons.injEq,and_true] at hv;subst hv;have bl:((sx b).drop (64*k)).length=(sx b).length - 64*k:=List.length_drop;refine ⟨_,j.cJ aO _,af.dec (fun K=>?_) (fun hle=>?_)⟩
   ·have a2:(sx b).drop (64*k)≠[]:=fun h=>by rw [h] at K;simp at K
    have a3:=j.Sr a2;obtain ⟨v',oM,M⟩:=j.upto bM aO eG a3 (i:=64) (by omega) .i64;refine ⟨_,oM,?_⟩;have o:(((sx b).drop (64*k)).take 64).length=64:=by rw [List.length_take];omega
    refine aa.use (Tf l (by rw [y5,y]) M (M.Sr fun h=>by rw [h] at o;simp at o) o) ?_;rintro bm bo ⟨rfl,w,a4⟩ a5;have a6:=Rd (by decide) j l w;obtain ⟨v2,a7,O⟩:=a6.rest bM aO eG (i:=64) (by omega) .i64;refine ⟨rfl,_,a7,(sx b).length / 64 - (k+1),by omega,k+1,v2,rfl,by omega,rfl,Ext.wr I x.no w,a5,?_,?_,J.mut w (by simpa using Ne.symm A)⟩
    ·rw [List.drop_drop] at O;rw [show 64*(k+1)=64*k+64 by omega];exact O
    ·rw [wH];exact a4
   ·have:(sx b).length / 64=k:=by omega
    exact ⟨I,a1,by rw [this];exact l,J⟩
 ·refine ⟨fun m vs s'=>∃ (i:Nat) (v:AV),vs=[v,.int .i64 (i:Nat)]/\i<=8/\m=8 - i/\aG s'/\zK s4 s' v (b++[128]++List.replicate (JM b.length) 0++(List.range i).map (VU b.length)),8,⟨0,_,rfl,by omega,rfl,ad,by simpa using ab⟩,?_⟩;rintro m a8 bs bx ⟨i,v,hi,h6,rfl,Q,R⟩;simp only [List.cons.injEq,AV.int.injEq,true_and,and_true] at hi;obtain ⟨rfl,rfl⟩:=hi;refine af.dec (fun ao=>?_) (fun ar=>?_)
  ·refine ⟨by rw [aX (n:=8*(i:Int)) (by omega),aX (by omega)];omega,?_⟩;refine xy Q R (by simp) (VU b.length i) (by simp;omega) fun v' s' g' w' _=>⟨8 - (i+1),by omega,i+1,v',by rw [BI (by omega)],by omega,rfl,w',?_⟩;rw [List.range_succ,List.map_append,<- List.append_assoc];exact g'
  ·obtain rfl:i=8:=by omega
   exact ⟨a8,rfl,R,Q⟩
end Go.Proofs.YtohgmogbabkkeaaGreat
end

section
namespace Go.Proofs.YtohgmogbabkkeaaGreat
open Go.Am Go.av Go.aB Go.bE
theorem Dy:Cf T eO aq 1 24:=⟨oz,qJ,QE,⟨_,_,za,rfl,rfl⟩,by decide,by decide⟩
theorem Xw {l:Nat} {i:Int} (h:0<=i/\i<64):ag T gu (.ptr (some (l,0))) (.int .i64 i)=some (.ptr (some (l,0+i.toNat*1))):=uI r_ eG h
def BK (f:Int->Int) (K:List Int) (i:Nat):List Int:=(K.take i).map f++K.drop i
theorem BL (f:Int->Int) (K:List Int) (i:Nat):(BK f K i).length=K.length:=by simp [BK];omega
theorem PV (f:Int->Int) {K:List Int} {i:Nat} (h:i<K.length):(BK f K i).getD i 0=K.getD i 0:=by
 rw [BK,List.getD_eq_getElem?_getD,List.getD_eq_getElem?_getD,List.getElem?_append_right (by simp;omega)];simp [Nat.min_eq_left (Nat.le_of_lt h)]
theorem MZ (f:Int->Int) {K:List Int} {i:Nat} (h:i<K.length):(BK f K i).set i (f (K.getD i 0))=BK f K (i+1):=by
 have hd:=List.drop_eq_getElem_cons h;have b:K.getD i 0=K[i]:=by simp [List.getD_eq_getElem?_getD,List.getElem?_eq_getElem h]
 have c:((K.take i).map f).length=i:=by simp;omega
 rw [BK,BK,List.set_append,if_neg (by omega),c,Nat.sub_self,hd,List.set_cons_zero,List.take_add_one,List.getElem?_eq_getElem h,Option.toList_some,List.map_append,List.append_assoc,b];rfl
theorem Th (f:Int->Int) (K:List Int):BK f K K.length=K.map f:=by simp [BK]
theorem UR {k:IntKind} (sec:List Int) (h:sec.length<=64):qC ((List.replicate 64 (0:Int)).map (AV.int k)) 0 (sec.map (AV.int k))=(sec++List.replicate (64 - sec.length) 0).map (AV.int k):=by
 apply List.ext_getElem?;intro j;rw [jW _ _ _ _ (by simp;omega)];simp only [List.length_map,Nat.zero_add,Nat.zero_le,true_and,Nat.sub_zero,List.map_append];by_cases hj:j<sec.length
 ·rw [if_pos hj,List.getElem?_append_left (by simpa using hj)]
 ·rw [if_neg hj,List.getElem?_append_right (by simpa using hj)];simp only [List.getElem?_map,List.getElem?_replicate,List.length_map];by_cases h2:j<64
  ·rw [if_pos h2,if_pos (by omega)]
  ·rw [if_neg h2,if_neg (by omega)]
theorem k5 (l:List Int):l.flatMap oT=l.map (AV.int .u8):=by
 induction l with
 | nil=>rfl
 | cons x xs b=>rw [List.flatMap_cons,b];rfl
theorem Ti {s:AS} (c:aG s) {l:Nat} (d:Am.Own s l ((List.replicate 64 (0:Int)).map (.int .u8))) {v:AV} {sec:List Int} (hs:fE s v sec) (i:sec.length<=64) {K:AV->AS->Prop}
  (j:∀ v' s',Am.Own s' l ((sec++List.replicate (64 - sec.length) 0).map (.int .u8))->aG s'->bz [l] s s'->K v' s'):iT (qO T aq (.slc (some (l,0)) 64 64 true) v s) K:=by
 obtain ⟨b,hlen⟩:=ct.src gK hs;have e:qO T aq (.slc (some (l,0)) 64 64 true) v s=if sec.flatMap oT=[] then some (.int .i64 ((min sec.length 64:Nat):Int),s) else (Am.cU s l 0 (sec.flatMap oT)).map fun s'=>(.int .i64 ((min sec.length 64:Nat):Int),s'):=by
  simp only [qO,aO,eG,Option.bind_some,hlen,show DB (AV.slc (some (l,0)) 64 64 true)=some 64 from rfl,Nat.min_eq_left i,b]
 rw [k5] at e;by_cases k:sec=[]
 ·subst k;simp only [List.map_nil,if_true] at e;exact ⟨_,_,e,j _ _ (by simpa using d) c (bz.refl _ _)⟩
 ·rw [if_neg (by simpa using k)] at e;obtain ⟨s',m,h2⟩:=bu.own (K:=fun s'=>Am.Own s' l ((sec++List.replicate (64 - sec.length) 0).map (.int .u8))/\aG s'/\bz [l] s s') (vs:=sec.map (AV.int .u8)) (o:=0) c d (by simp;omega) (fun s' P=>⟨by have:=P.at;rw [UR _ i] at this;exact this,P.wf,P.mut⟩);rw [m] at e;exact ⟨_,_,e,j _ _ h2.1 h2.2.1 h2.2.2⟩
theorem M4 (sec:List Int) (h:sec.length<=64) (m:Int):(wI sec m).length=64:=by simp [wI];omega
theorem PW {a b:AV} (c:a.one=true) (hb:b.one=true):dw T eO 2 [(0,a),(1,b)]=some [a,b]:=by
 have e1:∀ v:AV,v.one=true->bO v=some [v]:=fun v hv=>by cases v <;> first | rfl | cases hv
 simp only [dw,oz,qJ,za,Option.bind_some,e1 _ c,e1 _ hb,jt,e1 (AV.slc none 0 0 true) rfl];rfl
set_option maxRecDepth 100000 in
theorem US {s:AS} {sv:AV} {sec:List Int} (hs:fE s sv sec) (hl:sec.length<=64) {a:AV} {L:List (AV×List Int)} (ha:Sl WL 1 s a L) (hL:∀ p∈L,fE s p.1 p.2) (hn:L.length<=2 ^ 10) (hb:qz L<=2 ^ 16) :
  aa Tryz.prog y7 [sv,a] s fun r s'=>r=.agg ((AF sec (L.flatMap Prod.snd)).map (.int .u8))/\Ext s s':=by
 refine aa.pre fun hw=>OC _ _ _ _ (aj.intro hw rfl fun l1 s2 F2=>?_);refine aa.use (Tc _) ?_;rintro v3 s4 ⟨rfl,e4⟩ w4;have A:su.length=72:=qV 64;refine ⟨_,rfl,kj w4 (by simp [A]) (by simp) (cq _ _) fun W s8 X=>?_⟩;have e8:=(F2.ext.trans e4).trans X.ext;have o1:=(F2.own.ext e4).ext X.ext;refine ⟨fun vs s'=>vs=[sv]/\s'=s8,?_,⟨_,(hs.ext e8).cJ aO _,af.no (by rw [decide_eq_false_iff_not];omega) ⟨rfl,rfl⟩⟩⟩;rintro v10 cb ⟨hv,rfl⟩;simp only [List.cons.injEq,and_true] at hv;subst hv;refine aj.intro X.wf rfl fun qL bW d=>aj.intro d.wf rfl fun ku gh j=>⟨_,nU r_ eG (by decide),?_⟩;have Z:=(e8.trans d.ext).trans j.ext;have a4:Am.Own gh qL ((List.replicate 64 (0:Int)).map (.int .u8)):=((BJ .u8 64) ▸ (d.own:Am.Own bW qL (List.replicate 64 (AV.int .u8 0)))).ext j.ext;have a5:Am.Own gh ku ((List.replicate 64 (0:Int)).map (.int .u8)):=(BJ .u8 64) ▸ (j.own:Am.Own gh ku (List.replicate 64 (AV.int .u8 0)));have ab:s.h qL=none:=e8.none d.no;have ad:s.h ku=none:=(e8.trans d.ext).none j.no;have d1:qL≠ku:=fun e=>by
  have:=j.no;rw [<- e,d.own] at this;cases this
 have d6:W≠qL:=fun e=>by
  have:=d.no;rw [<- e,X.own] at this;cases this
 have d7:W≠ku:=fun e=>by
  have:=j.no;rw [<- e,X.own.ext d.ext] at this;cases this
 have d8:l1≠qL:=fun e=>by
  have:=d.no;rw [<- e,o1] at this;cases this
 have d9:l1≠ku:=fun e=>by
  have:=j.no;rw [<- e,o1.ext d.ext] at this;cases this
 refine Ti j.wf a4 (hs.ext Z) hl fun cc eT I a6 C=>?_;generalize hK:sec++List.replicate (64 - sec.length) 0=K at I;have J:K.length=64:=by rw [<- hK];simp;omega
 have a7:(K.map (AV.int .u8)).length=64:=by simp [J]
 refine ⟨_,I.at.aC (by omega),?_⟩;rw [List.drop_zero,List.take_of_length_le (by omega)];refine ⟨⟨cq _ _,by rw [a7]⟩,bu.own a6 (a5.mut C (by simpa using Ne.symm d1)) (by simp [J]) fun gy y=>?_⟩;have a8:Am.Own gy ku (K.map (.int .u8)):=by
  have:=y.at;rw [dD (by simp [J])] at this;exact this
 have a9:Ext s gy:=Ext.wr (Ext.wr Z ab C) ad y.mut;have a':Am.Own gy W (su.map (.int .u32)):=(((X.own.ext d.ext).ext j.ext).mut C (by simpa using d6)).mut y.mut (by simpa using d7);have ba:=(((o1.ext d.ext).ext j.ext).mut C (by simpa using d8)).mut y.mut (by simpa using d9);refine ⟨fun vs s'=>Ext s s'/\aG s'/\Am.Own s' qL ((wI sec 54).map (.int .u8))/\Am.Own s' ku ((wI sec 92).map (.int .u8))/\Am.Own s' W (su.map (.int .u32))/\Am.Own s' l1 (List.replicate 32 (.int .u8 0)),?_,?_⟩
 ·rintro fT ⟨M,cd,z,B,p6,p1⟩;have k:=M4 sec hl 54;have n:=M4 sec hl 92;have ae:∀ s',Ext fT s'->aC s' W 0 72=some (su.map (.int .u32)):=fun s' e=>by
   rw [(p6.ext e).at.aC (by simp [A]),List.drop_zero,List.take_of_length_le (by simp [A])]
  have al:∀ s',Ext fT s'->fE s' (.slc (some (qL,0)) 64 64 true) (wI sec 54):=fun s' e=>ct.mk (z.ext e).at (by rw [k5,k];simp [k]) (by rw [k5,List.drop_zero,List.take_of_length_le (by simp [k])]) |> (k ▸ ·);have am:∀ s',Ext fT s'->fE s' (.slc (some (ku,0)) 64 64 true) (wI sec 92):=fun s' e=>ct.mk (B.ext e).at (by rw [k5,n];simp [n]) (by rw [k5,List.drop_zero,List.take_of_length_le (by simp [n])]) |> (n ▸ ·);refine ⟨fun q _ v s'=>(q=2->∃ l,v=.slc (some (l,0)) 1 1 true/\At s' l [.slc (some (qL,0)) 64 64 true])/\(q=4->Sl WL 1 s' v ((.slc (some (qL,0)) 64 64 true,wI sec 54)::L))/\(q=6->∃ l,v=.ptr (some (l,0))/\Am.Own s' l (List.replicate 32 (.int .u8 0))/\fT.h l=none),fun q _ v=>(q=5->v=.agg ((Dr su (wI sec 54++L.flatMap Prod.snd)).map (.int .u8)))/\(q=6->∃ l,v=.ptr (some (l,0))),?_,_,ae _ (Ext.refl _),_,nU r_ eG (by decide),fun dZ ce bb _=>⟨_,LB Dy rfl rfl,aj.intro bb rfl fun bc cf F=>⟨F.ext,⟨(fun _=>⟨bc,rfl,F.own.at⟩),(fun h=>by cases h),(fun h=>by cases h)⟩,(fun h=>by cases h),(fun h=>by cases h)⟩⟩,⟨.bad,(fun h=>by cases h),(fun h=>by cases h)⟩,fun ch _=>⟨fun ci bd be O=>?_,⟨.bad,(fun h=>by cases h),(fun h=>by cases h)⟩,fun ck _=>⟨fun kH an cl O=>?_,⟨_,(fun _=>rfl),(fun h=>by cases h)⟩,fun cm ao=>?_⟩⟩⟩
  ·rintro q ks v s' s'' e ⟨h1,h2,h3⟩;refine ⟨fun Q=>?_,fun Q=>(h2 Q).ext e,fun Q=>?_⟩
   ·obtain ⟨l,a,b⟩:=h1 Q;exact ⟨l,a,b.ext e⟩
   ·obtain ⟨l,a,b,c⟩:=h3 Q;exact ⟨l,a,b.ext e,c⟩
  ·obtain ⟨l,rfl,R⟩:=O.1.1 rfl;refine Uq (f:=WL) Dy KM be (x:=(.slc (some (qL,0)) 64 64 true,wI sec 54)) R (ha.ext (M.trans bd)) (by omega) fun cn cp bh cr bi=>⟨bi,⟨(fun h=>by cases h),(fun _=>bh),(fun h=>by cases h)⟩,(fun h=>by cases h),(fun h=>by cases h)⟩
  ·refine (PU A (O.2.1.2.1 rfl) ?_ (by simp;omega) (by simp [qz,k] at hb ⊢;omega)).mono ?_
   ·intro p Y;rcases List.mem_cons.1 Y with rfl | Y
    ·exact al _ an
    ·exact (hL p Y).ext (M.trans an)
   ·rintro v s' ⟨rfl,e⟩;exact ⟨_,rfl,e,⟨(fun h=>by cases h),(fun h=>by cases h),(fun h=>by cases h)⟩,(fun _=>rfl),(fun h=>by cases h)⟩
  ·obtain rfl:=ao.1 rfl;generalize hH:Dr su (wI sec 54++L.flatMap Prod.snd)=H1;have w:H1.length=32:=by rw [<- hH,nT]
   refine ⟨_,rfl,fun cs bj bk _=>aj.intro bk rfl fun o cu F=>⟨F.ext,⟨(fun h=>by cases h),(fun h=>by cases h),(fun _=>⟨o,rfl,F.own,bj.none F.no⟩)⟩,(fun h=>by cases h),(fun _=>⟨o,rfl⟩)⟩,⟨.ptr (some (0,0)),(fun h=>by cases h),(fun _=>⟨0,rfl⟩)⟩,fun cv ar=>?_⟩;obtain ⟨o,rfl⟩:=ar.2 rfl;refine ⟨_,rfl,fun cw bl bm O=>?_⟩;obtain ⟨l',aw,bo,bs⟩:=O.2.2.2.1.2.2 rfl;simp only [AV.ptr.injEq,Option.some.injEq,Prod.mk.injEq,and_true] at aw;subst aw;refine ⟨⟨cq _ _,by simp [w]⟩,bu.own bm bo (by simp [w]) fun zf a0=>?_⟩;have bx:Am.Own zf o (H1.map (.int .u8)):=by
    have:=a0.at;rw [dD (by simp [w])] at this;exact this
   have S:Ext fT zf:=Ext.wr bl bs a0.mut;refine ⟨fun q _ v s'=>q=3->∃ l,v=.slc (some (l,0)) 2 2 true/\At s' l [.slc (some (ku,0)) 64 64 true,.slc (some (o,0)) 32 32 true],fun _ _ _=>True,?_,_,ae _ S,_,nU r_ eG (by decide),_,nU JQ eG (by decide),fun G8 cx b0 _=>⟨_,PW rfl rfl,aj.intro b0 rfl fun b1 cy F=>⟨F.ext,(fun _=>⟨b1,rfl,F.own.at⟩),trivial⟩⟩,⟨.bad,trivial⟩,fun cz _ b2 U cA O=>?_⟩
   ·rintro q ks v s' s'' e h Q;obtain ⟨l,a,b⟩:=h Q;exact ⟨l,a,b.ext e⟩
   ·obtain ⟨l,rfl,R⟩:=O.1 rfl;have hh:fE b2 (.slc (some (o,0)) 32 32 true) H1:=ct.mk (bx.ext U).at (by rw [k5];simp [w]) (by rw [k5,List.drop_zero,List.take_of_length_le (by simp [w])]) |> (w ▸ ·);refine aa.use (PU (L:=[(.slc (some (ku,0)) 64 64 true,wI sec 92),(.slc (some (o,0)) 32 32 true,H1)]) A (ct.mk R rfl rfl) ?_ (by simp) (by simp [qz,n,w])) ?_
    ·intro p Y;simp only [List.mem_cons,List.not_mem_nil,or_false] at Y;rcases Y with rfl | rfl
     ·exact am _ (S.trans U)
     ·exact hh
    ·rintro cB cC ⟨rfl,b3⟩ b4;have a1:=(S.trans U).trans b3;have hc:([(AV.slc (some (ku,0)) 64 64 true,wI sec 92),(AV.slc (some (o,0)) 32 32 true,H1)].flatMap Prod.snd)=wI sec 92++H1:=by simp
     rw [hc];refine ⟨_,rfl,⟨cq _ _,by simp [nT]⟩,bu.own b4 (p1.ext a1) (by simp [nT]) fun c0 P=>?_⟩;have hP:=P.at;rw [dD (by simp [nT])] at hP;refine ⟨_,At.aC ⟨_,_,hP⟩ (by simp [nT]),?_,Ext.wr (M.trans a1) F2.no P.mut⟩;rw [List.drop_zero,List.take_of_length_le (by simp [nT]),AF,hH]
 ·refine ⟨fun m vs s'=>∃ i:Nat,vs=[.int .i64 (i:Nat)]/\i<=64/\m=64 - i/\Ext s s'/\aG s'/\Am.Own s' qL ((BK (fun x=>wE .u8 x 54) K i).map (.int .u8))/\Am.Own s' ku ((BK (fun x=>wE .u8 x 92) K i).map (.int .u8))/\Am.Own s' W (su.map (.int .u32))/\Am.Own s' l1 (List.replicate 32 (.int .u8 0)),64,⟨0,rfl,by omega,rfl,a9,y.wf,by simpa [BK] using I.mut y.mut (by simpa using d1),by simpa [BK] using a8,a',ba⟩,?_⟩;rintro m c1 b5 ⟨i,hi,h6,rfl,a2,a3,z,B,p6,p1⟩;simp only [List.cons.injEq,AV.int.injEq,true_and,and_true] at hi;subst hi;refine af.dec (fun c2=>?_) (fun c3=>?_)
  ·have hr:au b5 qL (0+((i:Nat):Int).toNat*1)=some (.int .u8 (K.getD i 0)):=by rw [<- PV (fun x=>wE .u8 x 54) (by omega)];exact z.at.QC (by rw [BL];omega) (by simp)
   refine ⟨_,_,Xw (by omega),_,hr,_,rfl,_,_,Xw (by omega),bu.int a3 z (i:=i) (by rw [BL];omega) (by simp) fun b6 b7 b8 D=>?_⟩;have H:=B.mut D (by simpa using Ne.symm d1);have b9:au b6 ku (0+((i:Nat):Int).toNat*1)=some (.int .u8 (K.getD i 0)):=by rw [<- PV (fun x=>wE .u8 x 92) (by omega)];exact H.at.QC (by rw [BL];omega) (by simp)
   refine ⟨_,_,Xw (by omega),_,b9,_,rfl,_,_,Xw (by omega),bu.int b8 H (i:=i) (by rw [BL];omega) (by simp) fun c4 b' ca G=>⟨64 - (i+1),by omega,i+1,by rw [BI (by omega)],by omega,rfl,Ext.wr (Ext.wr a2 ab D) ad G,ca,?_,?_,(p6.mut D (by simpa using d6)).mut G (by simpa using d7),(p1.mut D (by simpa using d8)).mut G (by simpa using d9)⟩⟩
   ·rw [<- MZ (fun x=>wE .u8 x 54) (by omega)];exact b7.mut G (by simpa using d1)
   ·rw [<- MZ (fun x=>wE .u8 x 92) (by omega)];exact b'
  ·obtain rfl:i=K.length:=by omega
   rw [Th] at z B;refine ⟨a2,a3,?_,?_,p6,p1⟩
   ·rw [wI,hK];exact z
   ·rw [wI,hK];exact B
theorem xor_self (n:Int):wE .u8 n n=0:=by
 unfold wE;rw [BitVec.xor_self];rfl
theorem OT {H:List Int} (x:H.length=32) (s:AS):aa Tryz.prog wL [.agg (H.map (.int .u8)),.agg (H.map (.int .u8))] s fun r s'=>r=.bool true/\Ext s s':=by
 refine aa.pre fun d=>Ms _ _ _ _ ⟨cq _ _,aj.intro d rfl fun l1 s2 b=>⟨cq _ _,aj.intro b.wf rfl fun l3 s4 c=>?_⟩⟩;have e:=b.ext.trans c.ext;refine ⟨fun vs s'=>vs=[.int .u8 0]/\s'=s4,?_,fun m vs s'=>∃ i:Nat,vs=[.int .u8 0,.int .i64 (i:Nat)]/\i<=32/\m=32 - i/\s'=s4,32,⟨0,rfl,by omega,rfl,rfl⟩,?_⟩
 ·rintro n s7 ⟨h,rfl⟩;simp only [List.cons.injEq,AV.int.injEq,true_and,and_true] at h;subst h;exact ⟨rfl,e⟩
 ·rintro m j k bW ⟨i,hi,y,rfl,rfl⟩;simp only [List.cons.injEq,AV.int.injEq,true_and,and_true] at hi;obtain ⟨rfl,rfl⟩:=hi;refine af.dec (fun l=>?_) (fun o=>⟨rfl,rfl⟩);have p:au bW l1 (0+((i:Nat):Int).toNat*1)=some (.int .u8 (H.getD i 0)):=(b.own.ext c.ext).at.QC (by omega) (by simp);have h3:au bW l3 (0+((i:Nat):Int).toNat*1)=some (.int .u8 (H.getD i 0)):=c.own.at.QC (by omega) (by simp);have w:bD .xor .u8 (H.getD i 0) (H.getD i 0)=some (.int .u8 0):=congrArg (fun n=>some (AV.int .u8 n)) (xor_self _);refine ⟨_,_,XP (by omega),_,p,_,_,XP (by omega),_,h3,_,w,0,rfl,32 - (i+1),by omega,i+1,by rw [BI (by omega)],by omega,rfl,rfl⟩
end Go.Proofs.YtohgmogbabkkeaaGreat
end

section
namespace Go.Proofs.YtohgmogbabkkeaaGreat
open Go.Am Go.av Go.aB
theorem IJ {α:Type} {f:α->List Int} {n:Nat} (h:∀ x,(f x).length=n):∀ l:List α,(l.flatMap f).length=l.length*n
 | []=>by simp
 | a::l=>by rw [List.flatMap_cons,List.length_append,h,IJ h l,List.length_cons,Nat.add_mul];omega
theorem OU {s:AS} (b:aG s) (t:List UInt8) {K:AV->AS->Prop} (d:∀ v s',fE s' v (MQ t)->Ext s s'->aG s'->K v s'):iT (cW T bX aq (.str t) s) K:=by
 have Fr:=b.new (o:=.cells (t.map fun c=>.int .u8 c.toNat) 1 false) rfl;refine ⟨.slc (some (s.nl,0)) t.length t.length false,s.new (.cells (t.map fun c=>.int .u8 c.toNat) 1 false),by simp [cW,mS,aO,AH],d _ _ ?_ Fr.ext Fr.wf⟩;have:=ct.mk (s:=s.new (.cells (t.map fun c=>.int .u8 c.toNat) 1 false)) (la:=s.nl) (o:=0) (n:=t.length) (c:=t.length) (e:=false) (sz:=1) (cs:=(MQ t).flatMap oT) ⟨_,_,Fr.at⟩ (by rw [sU,xx]) (by rw [Q5,List.drop_zero];exact List.take_of_length_le (by simp)) (Nat.le_refl _);show ct _ _ _ _ (MQ t).length;rw [xx];exact this
section
variable {F:List Nat} {s:AS} {p:Nat} {x:aF} {B:Nat}
end
end Go.Proofs.YtohgmogbabkkeaaGreat
end

section
namespace Go.Proofs.YtohgmogbabkkeaaGreat
open Go.Am Go.av Go.aB
theorem zL {n:Int} (h:0<=n) {b:Nat} (hs:b<=64):vg n b=n / 2 ^ b % 256:=by
 unfold vg;rw [IntKind.wrap_u8,Nat.min_eq_left (show b<=IntKind.bits .u64 from hs),Int.fdiv_eq_ediv_of_nonneg _ (Int.le_of_lt (Int.pow_pos (by decide)))]
theorem Re (n:Int) (b:Nat):0<=vg n b/\vg n b<256:=by unfold vg;rw [IntKind.wrap_u8];omega
theorem KO (n:Int) {k i:Nat} (h:i<k):(xY n k)[i]? = some (vg n (8*(k - 1 - i))):=by
 simp [xY,h]
theorem Wj (n:Int) (k:Nat):∀ b∈xY n k,0<=b/\b<256:=by
 intro b hb;obtain ⟨i,_,rfl⟩:=List.mem_map.1 hb;exact Re _ _
end Go.Proofs.YtohgmogbabkkeaaGreat
end

section
set_option maxRecDepth 100000
set_option maxHeartbeats 4000000
namespace Go.Proofs.YtohgmogbabkkeaaGreat
open Go.Am
def M5 (a0:AV) (s:AS) (R:AV->AS->Prop):Prop :=
 aa Tryz.prog aT [a0] s fun c s2=>nQ (aS T gF [(0,c),(1,.bool true),(2,.bool true)]) fun b=>cH b (aj (.cells b 0 false) s2 fun d e=>R (.ptr (some (d,0))) e)
def M6:QA:=(.seq .leaf (.seq .leaf .leaf))
theorem M7 (a0:AV) (s:AS) (R:AV->AS->Prop) (h:M5 a0 s R):aa Tryz.prog rW [a0] s R :=
 aa.q (n:=7) (rs:=[.tmp 2]) (A:=M6) hT bY Tryz.func88 (by kernel_rfl) rfl rfl rfl (by kernel_rfl) (by kernel_rfl) h
def xB (a0:Option (Nat×Nat)) (s:AS) (R:AV->AS->Prop):Prop :=
 aj (.cells [.int .u64 0,.int .u64 0,.int .u64 0,.int .u64 0,.int .u64 0,.int .u64 0,.int .u64 0,.int .u64 0,.int .u64 0,.int .u64 0,.int .u64 0,.int .u64 0,.int .u64 0,.int .u64 0,.int .u64 0,.int .u64 0] 0 false) s fun l1 s2=>aa Tryz.prog iD [.ptr a0,.int .i64 128] s2 fun w s4=>∃ p:AV,∃ x:Bool,w=.aN [p,.bool x]/\(aa Tryz.prog rW [p] s4 fun y s8=>∃ r:Option (Nat×Nat),y=.ptr r/\(aj (.cells [.ptr none] 0 false) s8 fun oQ j=>bu (cU j oQ 0 [.ptr r]) fun dH=>bA fun c k=>c k [.int .i64 0] dH /\
 ∀ d:Nat,∀ b:Int,∀ kT:AS,c d [.int .i64 b] kT ->
 af (decide ((b:Int)<16))
 (aa Tryz.prog iE [(.ptr (some (oQ,0)))] kT fun l jl=>∃ e:Int,l=.int .u64 e/\(bJ (ag T aZ (.ptr (some (l1,0))) (.int .i64 b)) fun m n=>bu (cU jl m n [.int .u64 e]) fun uj=>∃ m',m'<d/\c m' [(.int .i64 (IntKind.wrap .i64 (b+1)))] uj))
 (aR (aC kT l1 0 16) fun i=>fC (some 16) i (bu (cU kT l1 0 i) fun dZ=>aR (aC dZ l1 0 16) fun o=>R (.agg o) dZ))))
def xC:QA:=(.seq .leaf (.seq .leaf (.seq .leaf (.seq .leaf (.seq (.seq .leaf (.wrap (.loop [(16,.int .i64)] [(7,7),(16,23)] (.seq .leaf (.seq (.cond .leaf .leaf) (.seq (.wrap (.seq .leaf .leaf)) .leaf)))))) (.seq .leaf .leaf))))))
theorem xD (a0:Option (Nat×Nat)) (s:AS) (R:AV->AS->Prop) (h:xB a0 s R):aa Tryz.prog jD [.ptr a0] s R :=
 aa.q (n:=25) (rs:=[.cell 2 49]) (A:=xC) hT bY Tryz.func89 (by kernel_rfl) rfl rfl rfl (by kernel_rfl) (by kernel_rfl) h
def xE (a0:Option (Nat×Nat)) (a1:Int) (s:AS) (R:AV->AS->Prop):Prop :=
 bG fun c =>
 (∀ n2:Int,∀ s3:AS,c [.int .i64 n2] s3 ->
 aa Tryz.prog iD [.ptr a0,.int .i64 n2] s3 fun i j=>∃ e:AV,∃ k:Bool,i=.aN [e,.bool k]/\(aa Tryz.prog y9 [e] j fun l m=>∃ b:Int,∃ d:Int,l=.aN [.int .u64 b,.int .i64 d]/\(R (.int .u64 b) m))) /\
 (af (decide ((a1:Int)<1)) (c [(.int .i64 (-1))] s) (af (decide ((a1:Int)>8))
 (c [(.int .i64 (-1))] s)
 (c [.int .i64 a1] s)))
def xF:QA:=(.seq .leaf (.join [(1,.int .i64)] [(1,1),(9,14)] (.seq .leaf (.cond .leaf .leaf)) (.seq .leaf (.seq .leaf (.seq .leaf .leaf)))))
theorem xG (a0:Option (Nat×Nat)) (a1:Int) (s:AS) (R:AV->AS->Prop) (h:xE a0 a1 s R):aa Tryz.prog jH [.ptr a0,.int .i64 a1] s R :=
 aa.q (n:=27) (rs:=[.tmp 4]) (A:=xF) hT bY Tryz.func165 (by kernel_rfl) rfl rfl rfl (by kernel_rfl) (by kernel_rfl) h
def xH (a0:Option (Nat×Nat)) (s:AS) (R:AV->AS->Prop):Prop :=
 uC (je T 100 vA (.ptr a0) (.ptr none)) fun b=>af b (R (.bool true) s) (ai a0 fun c d=>NM (au s c (d+1)) fun e=>R (.bool (!e)) s)
def xI:QA:=(.seq .leaf (.seq .leaf .leaf))
theorem xJ (a0:Option (Nat×Nat)) (s:AS) (R:AV->AS->Prop) (h:xH a0 s R):aa Tryz.prog jJ [.ptr a0] s R :=
 aa.q (n:=12) (rs:=[.tmp 2]) (A:=xI) hT bY Tryz.func217 (by kernel_rfl) rfl rfl rfl (by kernel_rfl) (by kernel_rfl) h
def zM (a0:Option (Nat×Nat)) (a1:Int) (s:AS) (R:AV->AS->Prop):Prop :=
 aa Tryz.prog jJ [.ptr a0] s fun B s2=>∃ y:Bool,B=.bool y/\(af y
 (R (.aN [.slc none 0 0 true,.bool false]) s2)
 (bG fun b =>
 (∀ z:Bool,∀ s6:AS,b [.bool z] s6 ->
 af z
 (nQ (aS T gF [(2,.bool true)]) fun A=>ai a0 fun C D=>fC (some 3) A (bu (cU s6 C D A) fun c=>R (.aN [.slc none 0 0 true,.bool false]) c))
 (ai a0 fun d e=>dI (au s6 d e) fun i=>dI (bg T aq i none (some (.int .i64 a1)) (some (.int .i64 a1))) fun j=>ai a0 fun k l=>dI (au s6 k l) fun m=>dI (bg T aq m (some (.int .i64 a1)) none none) fun n=>ai a0 fun Ac o=>fQ T aq s6 Ac o n fun gG=>R (.aN [j,.bool true]) gG)) /\
 (af (decide ((a1:Int)<0)) (b [.bool true] s2) (ai a0 fun p r=>dI (au s2 p r) fun w=>aU .i64 (aQ T aq w s2) fun x=>b [(.bool (decide ((a1:Int)>x)))] s2))))
def zN:QA:=(.seq .leaf (.seq (.wrap (.seq .leaf (.cond (.seq .leaf .leaf) (.join [(10,.bool)] [(10,21)] .leaf (.cond (.seq .leaf (.seq .leaf .leaf)) .leaf))))) (.seq .leaf (.seq .leaf (.seq .leaf .leaf)))))
theorem zO (a0:Option (Nat×Nat)) (a1:Int) (s:AS) (R:AV->AS->Prop) (h:zM a0 a1 s R):aa Tryz.prog iD [.ptr a0,.int .i64 a1] s R :=
 aa.q (n:=42) (rs:=[.tmp 4,.tmp 5]) (A:=zN) hT bY Tryz.func163 (by kernel_rfl) rfl rfl rfl (by kernel_rfl) (by kernel_rfl) h
def vi (c0:Option (Nat×Nat)) (s:AS) (R:AV->AS->Prop):Prop :=
 ai c0 fun l1 o2=>pL (au s l1 o2) fun c=>aa Tryz.prog jH [.ptr c,.int .i64 8] s fun d e=>∃ b:Int,d=.int .u64 b/\(R (.int .u64 b) e)
def vj:QA:=(.seq .leaf (.seq .leaf .leaf))
theorem vk (c0:Option (Nat×Nat)) (s:AS) (R:AV->AS->Prop) (h:vi c0 s R):aa Tryz.prog iE [.ptr c0] s R :=
 aa.q (n:=4) (rs:=[.tmp 1]) (A:=vj) hT bY Tryz.func164 (by kernel_rfl) rfl rfl rfl (by kernel_rfl) (by kernel_rfl) h
def OV (a0:AV) (s:AS) (R:AV->AS->Prop):Prop :=
 bG fun e =>
 (∀ o:Bool,∀ s3:AS,e [.bool o] s3 ->
 af o
 (R (.aN [.int .u64 0,.int .i64 2]) s3)
 (bG fun p =>
 (∀ r:Int,∀ s6:AS,p [.int .u64 r] s6 ->
 R (.aN [.int .u64 r,.int .i64 0]) s6) /\
 (aU .i64 (aQ T aq a0 s3) fun w=>bA fun i x=>i x [.int .u64 0,.int .i64 0] s3 /\
 ∀ d:Nat,∀ c:Int,∀ b:Int,∀ bW:AS,i d [.int .u64 c,.int .i64 b] bW ->
 af (decide ((b:Int)<w))
 (bJ (ag T aq a0 (.int .i64 b)) fun ku j=>aU .u8 (au bW ku j) fun k=>NN 8 (aU .u64 (bD .or .u64 (IntKind.wrap .u64 (c*2 ^ min (Int.toNat 8) (IntKind.bits .u64))) (IntKind.wrap .u64 k)) fun l=>∃ m',m'<d/\i m' [.int .u64 l,(.int .i64 (IntKind.wrap .i64 (b+1)))] bW))
 (p [.int .u64 c] bW)))) /\
 (aU .i64 (aQ T aq a0 s) fun m=>af (decide ((m:Int)<1)) (e [.bool true] s) (aU .i64 (aQ T aq a0 s) fun n=>e [(.bool (decide ((n:Int)>8)))] s))
def OX:QA:=(.seq .leaf (.seq (.join [(14,.bool)] [(7,14)] .leaf (.cond (.seq .leaf .leaf) .leaf)) (.seq .leaf (.join [(4,.int .u64)] [(4,4),(6,6),(15,26)] (.seq .leaf (.wrap (.loop [(4,.int .u64),(17,.int .i64)] [(4,4),(6,6),(17,26)] (.seq .leaf (.seq (.cond .leaf .leaf) (.seq (.wrap (.seq .leaf .leaf)) .leaf)))))) (.seq .leaf .leaf)))))
theorem OY (a0:AV) (s:AS) (R:AV->AS->Prop) (h:OV a0 s R):aa Tryz.prog y9 [a0] s R :=
 aa.q (n:=28) (rs:=[.tmp 2,.tmp 3]) (A:=OX) hT bY Tryz.func218 (by kernel_rfl) rfl rfl rfl (by kernel_rfl) (by kernel_rfl) h
end Go.Proofs.YtohgmogbabkkeaaGreat
end

section
namespace Go.Proofs.YtohgmogbabkkeaaGreat
open Go.Am Go.av Go.aB
/-! ### numbers of bytes -/
def K0 (l:List Int):Prop:=∀ x∈l,0<=x/\x<256
theorem K0.take {l:List Int} (h:K0 l) (n:Nat):K0 (l.take n):=fun x b=>h x (List.mem_of_mem_take b)
theorem K0.drop {l:List Int} (h:K0 l) (n:Nat):K0 (l.drop n):=fun x b=>h x (List.mem_of_mem_drop b)
theorem K0.nil:K0 []:=by simp [K0]
def C4 (l:List Int):Int:=l.foldl (fun n x=>n*256+x) 0
theorem C5 (l:List Int) (x:Int):C4 (l++[x])=C4 l*256+x:=by simp [C4]
theorem UT:∀ (l:List Int) (n:Nat),K0 l->l.length<=n->0<=C4 l/\C4 l<256 ^ n:=by
 intro l
 induction b:l.length generalizing l with
 | zero =>
  intro n _ _;obtain rfl:=List.length_eq_zero_iff.1 b;exact ⟨by simp [C4],by simp only [C4,List.foldl_nil];exact Int.pow_pos (by decide)⟩
 | succ k c =>
  intro n h j;obtain ⟨m,x,rfl⟩:∃ m x,l=m++[x]:=⟨l.dropLast,l.getLast (by intro e;subst e;simp at b),(List.dropLast_concat_getLast _).symm⟩;have d:m.length=k:=by simpa using b
  obtain ⟨n',rfl⟩:∃ n',n=n'+1:=⟨n - 1,by omega⟩;have:=c m d n' (fun y i=>h y (by simp [i])) (by omega);have o:=h x (by simp);rw [C5,Int.pow_succ];exact ⟨by omega,by omega⟩
theorem UU {a x:Int} (b:0<=a/\a<256 ^ 7) (c:0<=x/\x<256):bD .or .u64 (IntKind.wrap .u64 (a*2 ^ min (Int.toNat 8) (IntKind.bits .u64))) (IntKind.wrap .u64 x)=some (.int .u64 (a*256+x)):=by
 have e1:(2:Int) ^ min (Int.toNat 8) (IntKind.bits .u64)=256:=by decide
 have d:(256:Int) ^ 7=72057594037927936:=by decide
 rw [d] at b;rw [e1,gJ (by omega),gJ (by omega)];obtain ⟨A,rfl⟩:=Int.eq_ofNat_of_zero_le b.1;obtain ⟨X,rfl⟩:=Int.eq_ofNat_of_zero_le c.1;have e:(BitVec.ofInt (IntKind.bits .u64) ((A:Int)*256)).toNat=2 ^ 8*A:=by
  rw [BitVec.toNat_ofInt];have:((2 ^ (IntKind.bits .u64):Nat):Int)=18446744073709551616:=by decide
  rw [this];omega
 have h2:(BitVec.ofInt (IntKind.bits .u64) (X:Int)).toNat=X:=by
  rw [BitVec.toNat_ofInt];have:((2 ^ (IntKind.bits .u64):Nat):Int)=18446744073709551616:=by decide
  rw [this];omega
 simp only [bD,BitVec.toNat_or,e,h2];rw [<- Nat.two_pow_add_eq_or_of_lt (show X<2 ^ 8 by omega),gJ (by omega)];congr 2;omega
def Rf (l:List Int):Int:=if 1<=l.length/\l.length<=8 then C4 l else 0
theorem Wk {s:AS} {v:AV} {l:List Int} (h:fE s v l) (hb:K0 l):aa Tryz.prog y9 [v] s fun r s'=>s'=s/\∃ c,r=.aN [.int .u64 (Rf l),.int .i64 c]:=by
 refine OY _ _ _ ⟨fun vs s'=>s'=s/\vs=[.bool (decide (¬ (1<=l.length/\l.length<=8)))],?_,_,h.cJ aO _,af.dec (fun w=>⟨rfl,?_⟩) (fun w=>⟨_,h.cJ aO _,rfl,?_⟩)⟩;rotate_left
 ·rw [decide_eq_true (by omega)]
 ·congr 2;apply decide_eq_decide.2;omega
 rintro b s3 ⟨rfl,j⟩;obtain rfl:b=decide (¬ (1<=l.length/\l.length<=8)):=AV.bool.inj (List.cons.inj j).1;refine af.dec (fun d=>⟨rfl,2,?_⟩) (fun d=>?_)
 ·rw [show Rf l=0 from if_neg d]
 have d:1<=l.length/\l.length<=8:=Classical.not_not.1 d;refine ⟨fun vs s'=>s'=s3/\vs=[.int .u64 (C4 l)],?_,_,h.cJ aO _,fun m vs s'=>∃ i:Nat,vs=[.int .u64 (C4 (l.take i)),.int .i64 (i:Nat)]/\i<=l.length/\m=l.length - i/\s'=s3,l.length,⟨0,rfl,by omega,rfl,rfl⟩,?_⟩
 ·rintro n s6 ⟨rfl,k⟩;obtain rfl:n=C4 l:=by simpa using k
  exact ⟨rfl,0,by rw [show Rf l=C4 l from if_pos d]⟩
 rintro m y z bW ⟨i,e,hi,rfl,rfl⟩;simp only [List.cons.injEq,AV.int.injEq,true_and,and_true] at e;obtain ⟨rfl,rfl⟩:=e;refine af.dec (fun A=>?_) (fun B=>?_)
 ·obtain ⟨x,p⟩:=cT (l:=l) (i:=i) (by omega);obtain ⟨la,o,C,D⟩:=h.ix (by decide) bM aO eG p;have step:=List.take_add_one (l:=l) (i:=i);rw [p,Option.toList_some] at step;have k:=UT (l.take i) 7 (hb.take i) (by rw [List.length_take];omega);refine ⟨la,o,C _,x,(D _ (Ext.refl _)).1 0 (by decide),by omega,_,UU k (hb x (List.mem_of_getElem? p)),l.length - (i+1),by omega,i+1,?_,by omega,rfl,rfl⟩;rw [step,C5,aX (by omega)];rfl
 ·rw [List.take_of_length_le (by omega)];exact ⟨rfl,rfl⟩
/-! ### readers,plainly: what is left;none: it has failed -/
abbrev RO:=Option (List Int)
def RO.fit (o:RO) (n:Int):Bool:=match o with
 | some B=>decide (0<=n/\n<=B.length)
 | none=>false
def RO.take (o:RO) (n:Int):List Int:=if o.fit n then (o.getD []).take n.toNat else []
def RO.left (o:RO) (n:Int):RO:=if o.fit n then o.map fun B=>B.drop n.toNat else none
def RO.M9 (o:RO) (k:Int):Int:=Rf (o.take k)
def yC (B:RO):Nat->List Int
 | 0=>[]
 | n+1=>RO.M9 B 8::yC (B.left 8) n
def RO.UW (o:RO):List Int:=yC (some (o.take 128)) 16
def RO.In (o:RO):Prop:=∀ B,o=some B->K0 B
theorem RO.In.getD {o:RO} (h:o.In):K0 (o.getD []):=by
 cases o with
 | none=>exact K0.nil
 | some B=>exact h B rfl
theorem RO.In.take {o:RO} (h:o.In) (n:Int):K0 (o.take n):=by
 unfold RO.take;split
 ·exact h.getD.take _
 ·exact K0.nil
theorem RO.In.left {o:RO} (h:o.In) (n:Int):(o.left n).In:=by
 intro B b;unfold RO.left at b;split at b
 ·cases o with
  | none=>cases b
  | some A=>obtain rfl:=Option.some.inj b;exact (h A rfl).drop _
 ·cases b
/-! ### a reader in memory -/
structure jq (s:AS) (p:Nat) (o:RO):Prop where
 X7:o.In
 mem:∃ v,Am.Own s p [v,.bool o.isSome,.bool true]/\fE s v (o.getD [])
def Rg (s:AS) (q:Nat):Prop:=∀ (C:List AV),At s q C->∀ (k:Nat) (x:Int),C[k]? ≠ some (AV.int .u8 x)
theorem Rg.own {s:AS} {q:Nat} {C:List AV} (h:At s q C) (c:∀ v∈C,∀ x,v≠AV.int .u8 x):Rg s q:=by
 intro e d k x b;rw [d.inj h] at b;exact c _ (List.mem_of_getElem? b) x rfl
theorem ct.Yg {s:AS} {v:AV} {n sz:Nat} {cs:List AV} (h:ct s v sz cs n) (x:Int):v≠AV.int .u8 x:=by
 rcases h with ⟨rfl,_⟩ | ⟨a,c,e,rfl,_⟩ <;> exact fun h=>by cases h
theorem fE.Wl {s s':AS} {v:AV} {l:List Int} {L:List Nat} (h:fE s v l) (m:bz L s s') (b:∀ q∈L,Rg s q):fE s' v l :=
 Sl.mut h m bM (by decide) fun q d C e x _ k c i j=>b q d C e k x (by rw [j,<- i];rfl)
section
variable {s s':AS} {p:Nat} {o:RO}
theorem jq.X8 (h:jq s p o):Rg s p:=by
 obtain ⟨_,v,c,h2⟩:=h;refine Rg.own c.at fun w b x=>?_;simp only [List.mem_cons,List.not_mem_nil,or_false] at b;rcases b with rfl | rfl | rfl
 ·exact ct.Yg h2 x
 ·exact fun h=>by cases h
 ·exact fun h=>by cases h
theorem jq.there (h:jq s p o):s.h p≠none:=by
 obtain ⟨_,v,b,_⟩:=h;rw [b];simp
theorem jq.mut {L:List Nat} (h:jq s p o) (m:bz L s s') (b:p ∉ L) (c:∀ q∈L,Rg s q):jq s' p o:=by
 obtain ⟨d,v,e,h2⟩:=h;exact ⟨d,v,e.mut m b,h2.Wl m c⟩
theorem jq.ext (h:jq s p o) (e:Ext s s'):jq s' p o:=h.mut (L:=[]) e.mut (by simp) (by simp)
theorem Rh (h:jq s p o):aa Tryz.prog jJ [.ptr (some (p,0))] s fun r s'=>r=.bool (!o.isSome)/\s'=s:=by
 obtain ⟨_,v,b,_⟩:=h;exact xJ _ _ _ ⟨_,iU DN _,af.no rfl ⟨o.isSome,by rw [b.at.au];rfl,rfl,rfl⟩⟩
theorem Wm:places T gF=some [(0,1),(1,1),(2,1)]:=by kernel_rfl
theorem Tj:aS T gF [(2,.bool true)]=some (.agg [.slc none 0 0 true,.bool false,.bool true]):=by kernel_rfl
theorem Ri {w:AV} (b:w.one=true):aS T gF [(0,w),(1,.bool true),(2,.bool true)]=some (.agg [w,.bool true,.bool true]):=by
 rw [qI Wm FV rfl];have d:=nS (pl:=fun i=>[(0,1),(1,1),(2,1)][i]?) (pre:=[]) (mid:=[.slc none 0 0 true]) (post:=[.bool false,.bool false]) (c:=[w]) (i:=0) (sz:=1) (v:=w) (rest:=[(1,.bool true),(2,.bool true)]) rfl (Ma b) rfl rfl;have e1:=nS (pl:=fun i=>[(0,1),(1,1),(2,1)][i]?) (pre:=[w]) (mid:=[.bool false]) (post:=[.bool false]) (c:=[.bool true]) (i:=1) (sz:=1) (v:=.bool true) (rest:=[(2,.bool true)]) rfl rfl rfl rfl;have e2:=nS (pl:=fun i=>[(0,1),(1,1),(2,1)][i]?) (pre:=[w,.bool true]) (mid:=[.bool false]) (post:=[]) (c:=[.bool true]) (i:=2) (sz:=1) (v:=.bool true) (rest:=[]) rfl rfl rfl rfl;exact congrArg (Option.map AV.agg) (d.trans (e1.trans e2))
theorem PX (h:jq s p o) (n:Int):aa Tryz.prog iD [.ptr (some (p,0)),.int .i64 n] s fun r s'=>bz [p] s s'/\jq s' p (o.left n)/\∃ v,r=.aN [v,.bool (o.fit n)]/\fE s' v (o.take n):=by
 refine aa.pre fun D=>zO _ _ _ _ ?_;refine aa.use (Rh h) ?_;rintro F s2 ⟨rfl,rfl⟩ w2;obtain ⟨d,v,c,h2⟩:=id h;cases o with
 | none=>exact ⟨_,rfl,af.yes rfl ⟨bz.refl _ _,h,_,rfl,Sl.nil⟩⟩
 | some B =>
  simp only [Option.isSome_some,Option.getD_some] at c h2;refine ⟨_,rfl,af.no rfl ⟨fun vs s'=>s'=s2/\vs=[.bool (!RO.fit (some B) n)],?_,?_⟩⟩;rotate_left
  ·refine af.dec (fun m=>⟨rfl,?_⟩) (fun m=>⟨v,by rw [c.at.au];rfl,_,h2.cJ aO _,rfl,?_⟩)
   ·rw [show RO.fit (some B) n=false from decide_eq_false (by omega)];rfl
   ·congr 2;unfold RO.fit;rw [<- decide_not,decide_eq_decide];omega
  rintro b s6 ⟨rfl,hb⟩;obtain rfl:b=!RO.fit (some B) n:=AV.bool.inj (List.cons.inj hb).1;refine af.mk (fun hf=>?_) (fun hf=>?_)
  ·have hf:RO.fit (some B) n=false:=by simpa using hf
   refine ⟨_,Tj,⟨rfl,rfl⟩,bu.own w2 c (by simp) fun A P=>⟨P.mut,⟨d.left n,.slc none 0 0 true,?_,?_⟩,_,by rw [hf],?_⟩⟩
   ·simp only [RO.left,hf,Bool.false_eq_true,if_false];exact P.at
   ·simp only [RO.left,hf,Bool.false_eq_true,if_false];exact Sl.nil
   ·simp only [RO.take,hf,Bool.false_eq_true,if_false];exact Sl.nil
  ·have hf:RO.fit (some B) n=true:=by simpa using hf
   have m:0<=n/\n<=B.length:=by simpa [RO.fit] using hf
   obtain ⟨k,rfl⟩:=Int.eq_ofNat_of_zero_le m.1;obtain ⟨e,w,x⟩:=Sl.head bM aO eG h2 (i:=k) (by omega) .i64;obtain ⟨j,y,l⟩:=Sl.rest bM aO eG h2 (i:=k) (by omega) .i64;refine ⟨v,by rw [c.at.au];rfl,e,w,v,by rw [c.at.au];rfl,j,y,?_⟩;refine cS (ct.one l) qJ (bu.own w2 c (by simp) fun gG P=>?_);have z:∀ q∈[p],Rg s6 q:=by
    intro q C;obtain rfl:=List.mem_singleton.1 C;exact h.X8
   refine ⟨P.mut,⟨d.left _,j,?_,?_⟩,e,by rw [hf],?_⟩
   ·simp only [RO.left,hf,if_true];exact P.at
   ·simp only [RO.left,hf,if_true,Option.map_some,Option.getD_some,Int.toNat_natCast];exact fE.Wl l P.mut z
   ·simp only [RO.take,hf,if_true,Option.getD_some,Int.toNat_natCast];exact fE.Wl x P.mut z
theorem Rj (h:jq s p o) {k:Int} (j:1<=k/\k<=8):aa Tryz.prog jH [.ptr (some (p,0)),.int .i64 k] s fun r s'=>r=.int .u64 (o.M9 k)/\bz [p] s s'/\jq s' p (o.left k):=by
 refine xG _ _ _ _ ⟨fun vs s'=>s'=s/\vs=[.int .i64 k],?_,af.dec (fun h=>absurd h (by omega)) (fun _=>af.dec (fun h=>absurd h (by omega)) (fun _=>⟨rfl,rfl⟩))⟩;rintro n s3 ⟨rfl,b⟩;obtain rfl:n=k:=by simpa using b
 refine aa.use (PX h n) ?_;rintro l m ⟨d,e,w,rfl,i⟩ x;refine ⟨_,_,rfl,?_⟩;refine aa.use (Wk i (h.X7.take n)) ?_;rintro y z ⟨rfl,c,rfl⟩ A;exact ⟨_,_,rfl,rfl,d,e⟩
end
theorem C6 {s:AS} {v:AV} {l:List Int} (b:fE s v l) (i:l.length<=2 ^ 30):aa Tryz.prog aT [v] s fun r s'=>zK s s' r l:=by
 refine aa.pre fun j=>qx _ _ _ ?_;have main:aR (dw T aq 0 []) fun k=>aj (.cells k 0 false) s fun l3 s4=>iT (aL T aq aq (.slc (some (l3,0)) 0 0 true) v s4) fun m s6=>zK s s6 m l:=by
  refine ⟨_,Ay gK,aj.intro j rfl fun l3 s4 F=>?_⟩;refine aV.k_ gK bM KL F.wf (aV.start (M:=[]) F.ext.mut) (by simp) (b.ext F.ext) (by simpa using i) aO fun v' s' g _ _=>?_;simpa using g
 rcases b with ⟨rfl,_,d⟩ | ⟨a,c,e,rfl,hlen,h3⟩
 ·refine ⟨_,rV aO _ _ _ _,af.no rfl main⟩
 ·refine ⟨_,rU aO _ _ _ _ _ _ _ _,af.mk (fun h=>?_) (fun _=>main)⟩;have:a=none:=by simpa using h
  subst this;have:l=[]:=by
   rcases h3 with h3 | ⟨la,o,C,h,_⟩
   ·exact List.length_eq_zero_iff.1 h3
   ·cases h
  subst this;exact aV.nil
theorem PY {s:AS} {v:AV} {l:List Int} (d:fE s v l) (hb:K0 l) (e:l.length<=2 ^ 30):aa Tryz.prog rW [v] s fun r s'=>∃ p,r=.ptr (some (p,0))/\s.h p=none/\jq s' p (some l)/\Ext s s':=by
 refine M7 _ _ _ ?_;refine aa.use (C6 d e) ?_;rintro i s2 g w2;have c:=g.jh.2;refine ⟨_,Ri c,?_,aj.intro w2 rfl fun j m b=>⟨j,rfl,g.eC.ext.none b.no,⟨?_,i,b.own,(g.sl bM).ext b.ext⟩,g.eC.ext.trans b.ext⟩⟩
 ·simp [c]
 ·intro B k;obtain rfl:=Option.some.inj k;exact hb
section
variable {s:AS} {p:Nat} {o:RO}
theorem Wn {n:Nat}:(o.take n).length<=n:=by
 unfold RO.take;split
 ·rw [List.length_take];omega
 ·simp
end
end Go.Proofs.YtohgmogbabkkeaaGreat
end

section
namespace Go.Proofs.YtohgmogbabkkeaaGreat
open Go.Am Go.av Go.aB
def BM:RO->Nat->RO
 | B,0=>B
 | B,n+1=>BM (B.left 8) n
theorem GM:∀ (n:Nat) (B:RO),BM B (n+1)=(BM B n).left 8
 | 0,B=>rfl
 | n+1,B=>by rw [BM,GM n,BM]
theorem IK:∀ (n:Nat) (B:RO),yC B (n+1)=yC B n++[(BM B n).M9 8]
 | 0,B=>rfl
 | n+1,B=>by rw [yC,IK n,yC,BM];rfl
theorem BN:∀ (n:Nat) (B:RO),(yC B n).length=n
 | 0,_=>rfl
 | n+1,B=>by rw [yC,List.length_cons,BN n]
theorem UX (l:List Int) (m:Nat) (x:Int):qC ((l++List.replicate (m+1) 0).map (AV.int .u64)) l.length [.int .u64 x]=((l++[x])++List.replicate m 0).map (AV.int .u64):=by
 rw [fF];simp [List.replicate_succ,List.set_append]
section
variable {s:AS} {p:Nat} {o:RO}
theorem OZ {c q:Nat} (b:At s c [.ptr (some (q,0))]) (h:jq s q o):aa Tryz.prog iE [.ptr (some (c,0))] s fun r s'=>r=.int .u64 (o.M9 8)/\bz [q] s s'/\jq s' q (o.left 8):=by
 refine vk _ _ _ ⟨_,by rw [b.au];rfl,?_⟩;refine aa.use (Rj h (k:=8) (by omega)) ?_;rintro v s' ⟨rfl,d,h2⟩ _;exact ⟨_,rfl,rfl,d,h2⟩
theorem O0 (h:jq s p o):aa Tryz.prog jD [.ptr (some (p,0))] s fun r s'=>r=.agg (o.UW.map (.int .u64))/\bz [p] s s'/\jq s' p (o.left 128):=by
 refine aa.pre fun j=>xD _ _ _ (aj.intro j rfl fun l1 s2 z=>?_);refine aa.use (PX (h.ext z.ext) 128) ?_;rintro v3 s4 ⟨m4,r4,v5,rfl,b5⟩ w4;have J:l1≠p:=by rintro rfl;exact h.there z.no
 refine ⟨_,_,rfl,?_⟩;have hlen:(o.take 128).length<=128:=Wn (n:=128);refine aa.use (PY b5 (h.X7.take 128) (by omega)) ?_;rintro v7 s8 ⟨q,rfl,K,rq,L⟩ w8;refine ⟨_,rfl,aj.intro w8 rfl fun oQ ad b=>bu.own b.wf b.own (by simp) fun dH d=>?_⟩;have M:p≠q:=by rintro rfl;exact r4.there K
 have O:Am.Own s4 l1 (fo.map (.int .u64)):=z.own.mut m4 (by simpa using J);have Q:l1≠q:=by rintro rfl;rw [O] at K;cases K
 have A:=O.ext L;have B:oQ≠l1:=by
  rintro rfl;have:=b.no;rw [A] at this;cases this
 have F:oQ≠q:=by rintro rfl;exact rq.there b.no
 have G:oQ≠p:=by rintro rfl;exact (r4.ext L).there b.no
 have R:Rg ad oQ:=Rg.own b.own.at (by intro w j x;obtain rfl:=List.mem_singleton.1 j;exact fun h=>by cases h);have ae:Am.Own dH l1 (fo.map (.int .u64)):=(A.ext b.ext).mut d.mut (by simpa using Ne.symm B);have S:jq dH q (some (o.take 128)):=(rq.ext b.ext).mut d.mut (by simpa using Ne.symm F) (by intro x c;obtain rfl:=List.mem_singleton.1 c;exact R);have U:jq dH p (o.left 128):=((r4.ext L).ext b.ext).mut d.mut (by simpa using Ne.symm G) (by intro x c;obtain rfl:=List.mem_singleton.1 c;exact R);have al:Am.Own dH oQ [.ptr (some (q,0))]:=d.at;have am:s.h q=none:=by
  cases hs:s.h q with
  | none=>rfl
  | some ob =>
   have:=m4.1 q ob (by simpa using Ne.symm M) (z.ext.1 _ _ hs);rw [this] at K;cases K
 have W:s.h oQ=none:=by
  cases hs:s.h oQ with
  | none=>rfl
  | some ob =>
   have:=L.1 _ _ (m4.1 oQ ob (by simpa using G) (z.ext.1 _ _ hs));rw [b.no] at this;cases this
 have an:bz [p] s dH:=(((z.ext.mut.trans m4).trans L.mut).trans b.ext.mut).new d.mut (by intro x c;obtain rfl:=List.mem_singleton.1 c;exact .inr W);refine ⟨fun m vs s'=>∃ i:Nat,vs=[.int .i64 (i:Nat)]/\i<=16/\m=16 - i/\aG s'/\bz [p] s s'/\Am.Own s' l1 ((yC (some (o.take 128)) i++List.replicate (16 - i) 0).map (.int .u64))/\Am.Own s' oQ [.ptr (some (q,0))]/\jq s' q (BM (some (o.take 128)) i)/\jq s' p (o.left 128),16,⟨0,rfl,by omega,rfl,d.wf,an,ae,al,S,U⟩,?_⟩;rintro m n kT ⟨i,X,hi,rfl,ao,Y,e,Z,H,I⟩;simp only [List.cons.injEq,AV.int.injEq,true_and,and_true] at X;subst X;refine af.dec (fun a1=>?_) (fun a2=>?_)
 ·refine aa.use (OZ Z.at H) ?_;rintro a3 jl ⟨rfl,k,ab⟩ ar;have y:=e.mut k (by simpa using Q);have c:=Ry (l:=l1) (o:=0) (i:=(i:Nat)) (by omega);simp only [Int.toNat_natCast,Nat.mul_one,Nat.zero_add] at c;have aw:16 - i=(16 - (i+1))+1:=by omega
  rw [aw] at y;refine ⟨_,rfl,_,_,c,bu.own ar y (by simp [BN]) fun uj P=>⟨16 - (i+1),by omega,i+1,by rw [aX (by omega)];rfl,by omega,rfl,P.wf,?_,?_,?_,?_,?_⟩⟩
  ·exact (Y.new k (by intro x c;obtain rfl:=List.mem_singleton.1 c;exact .inr am)).new P.mut (by intro x c;obtain rfl:=List.mem_singleton.1 c;exact .inr z.no)
  ·have:=P.at;rw [IK];have hv:=UX (yC (some (o.take 128)) i) (16 - (i+1)) ((BM (some (o.take 128)) i).M9 8);rw [BN] at hv;rw [hv] at this;exact this
  ·exact (Z.mut k (by simpa using F)).mut P.mut (by simpa using B)
  ·rw [GM];refine ab.mut P.mut (by simpa using Ne.symm Q) ?_;intro x c;obtain rfl:=List.mem_singleton.1 c;exact Rg.own y.at (by intro w j x;obtain ⟨n,_,rfl⟩:=List.mem_map.1 j;exact fun h=>by cases h)
  ·refine (I.mut k (by simpa using M) (by intro x c;obtain rfl:=List.mem_singleton.1 c;exact H.X8)).mut P.mut (by simpa using Ne.symm J) ?_;intro x c;obtain rfl:=List.mem_singleton.1 c;exact Rg.own y.at (by intro w j x;obtain ⟨n,_,rfl⟩:=List.mem_map.1 j;exact fun h=>by cases h)
 ·obtain rfl:i=16:=by omega
  simp only [Nat.sub_self,List.replicate_zero,List.append_nil] at e;have hl:((yC (some (o.take 128)) 16).map (AV.int .u64)).length=16:=by simp [BN]
  have h1:=cq .u64 (yC (some (o.take 128)) 16);have a0:Rg kT l1:=Rg.own e.at (by intro w j x;obtain ⟨n,_,rfl⟩:=List.mem_map.1 j;exact fun h=>by cases h);have hR:(yC (some (o.take 128)) 16).map (AV.int .u64)=o.UW.map (.int .u64):=rfl;generalize (yC (some (o.take 128)) 16).map (AV.int .u64)=C at e hl h1 hR;have ht:∀ D:List AV,D.length=16->(D.drop 0).take 16=D:=fun D hD=>by rw [List.drop_zero,List.take_of_length_le (by omega)]
  refine ⟨C,by rw [e.at.aC (by omega),ht C hl],⟨h1,by rw [hl]⟩,bu.own ao e (by omega) fun dZ P=>?_⟩;have hP:=P.at;rw [Uk rfl] at hP;refine ⟨C,by rw [At.aC ⟨_,_,hP⟩ (by omega),ht C hl],by rw [hR],?_,?_⟩
  ·exact Y.new P.mut (by intro x c;obtain rfl:=List.mem_singleton.1 c;exact .inr z.no)
  ·refine I.mut P.mut (by simpa using Ne.symm J) ?_;intro x c;obtain rfl:=List.mem_singleton.1 c;exact a0
end
/-! ### what is read of what was written -/
theorem Tk (n:Int) (b:0<=n) (k:Nat) (d:k<=7):xY n (k+1)=xY (n / 256) k++[n % 256]:=by
 apply List.ext_getElem?;intro i;by_cases c:i<k
 ·rw [KO _ (by omega),List.getElem?_append_left (by rw [j_];exact c),KO _ c,zL b (by omega),zL (by omega) (by omega)];rw [Int.ediv_ediv_of_nonneg (by decide),show (256:Int)*2 ^ (8*(k - 1 - i))=2 ^ (8*(k+1 - 1 - i)) by
   rw [show 8*(k+1 - 1 - i)=8+8*(k - 1 - i) by omega,Int.pow_add];rfl]
 ·by_cases h2:i=k
  ·subst h2;rw [KO _ (by omega),List.getElem?_append_right (by rw [j_];omega),j_,Nat.sub_self,zL b (by omega)];simp
  ·rw [List.getElem?_eq_none (by rw [j_];omega),List.getElem?_eq_none (by simp [j_];omega)]
theorem M_:∀ (k:Nat) (n:Int),k<=8->0<=n->n<256 ^ k->C4 (xY n k)=n
 | 0,n,_,c,b=>by
  have:n=0:=by simp at b;omega
  subst this;rfl
 | k+1,n,d,c,b=>by
  rw [Int.pow_succ] at b;rw [Tk n c k (by omega),C5,M_ k (n / 256) (by omega) (by omega) (by omega)];omega
theorem Tm {k:Nat} (b:1<=k/\k<=8) {n:Int} (c:0<=n) (d:n<256 ^ k):Rf (xY n k)=n:=by
 unfold Rf;rw [j_,if_pos b,M_ k n b.2 c d]
theorem Wr:(256:Int) ^ 8=18446744073709551616:=by decide
theorem Na {A B:List Int} {n:Int} (h:n=A.length):RO.take (some (A++B)) n=A/\RO.left (some (A++B)) n=some B:=by
 subst h;have hf:RO.fit (some (A++B)) A.length=true:=by simp [RO.fit];omega
 constructor
 ·simp [RO.take,hf]
 ·simp [RO.left,hf]
theorem UY {k:Nat} (c:1<=k/\k<=8) {n:Int} (d:0<=n) (e:n<256 ^ k) (B:List Int):RO.M9 (some (xY n k++B)) k=n/\RO.left (some (xY n k++B)) k=some B:=by
 obtain ⟨a,b⟩:=Na (A:=xY n k) (B:=B) (n:=k) (by rw [j_]);exact ⟨by rw [RO.M9,a,Tm c d e],b⟩
theorem Nb:∀ (v:List Int),(∀ x∈v,0<=x/\x<=18446744073709551615)->∀ B,yC (some ((v.flatMap fun n=>xY n 8)++B)) v.length=v
 | [],_,_=>rfl
 | x::v,h,B=>by
  have e:=h x (by simp);obtain ⟨a,b⟩:=UY (k:=8) (by omega) (n:=x) (by omega) (by rw [Wr];omega) ((v.flatMap fun n=>xY n 8)++B);rw [List.flatMap_cons,List.append_assoc,List.length_cons,yC];have a':RO.M9 (some (xY x 8++((v.flatMap fun n=>xY n 8)++B))) 8=x:=a;have c:RO.left (some (xY x 8++((v.flatMap fun n=>xY n 8)++B))) 8=some ((v.flatMap fun n=>xY n 8)++B):=b;rw [a',c,Nb v (fun y d=>h y (by simp [d])) B]
theorem UZ {v:List Int} (h:Xu v) (B:List Int):RO.UW (some ((v.flatMap fun n=>xY n 8)++B))=v/\RO.left (some ((v.flatMap fun n=>xY n 8)++B)) 128=some B:=by
 have c:(v.flatMap fun n=>xY n 8).length=128:=by rw [IJ (f:=fun n=>xY n 8) (n:=8) (fun n=>j_ n 8),h.len]
 obtain ⟨a,b⟩:=Na (A:=v.flatMap fun n=>xY n 8) (B:=B) (n:=128) (by rw [c];rfl);refine ⟨?_,b⟩;have:=Nb v h.Xs [];rw [List.append_nil,h.len] at this;rw [RO.UW,a,this]
theorem IL {s:AS} {v:AV} {l:List Int} (h:fE s v l):(cW T aq bX v s).map (·.1)=some (.str (WK l)):=by
 by_cases b:l=[]
 ·subst b;rcases h with ⟨rfl,h2,h3⟩ | ⟨a,c,e,rfl,⟨d,h2⟩,h3⟩
  ·simp [cW,aO,mS,AH,WK]
  ·rcases a with _ | ⟨la,o⟩ <;> simp [cW,aO,mS,AH,WK]
 ·exact S9 h b
end Go.Proofs.YtohgmogbabkkeaaGreat
end

section
set_option maxRecDepth 100000
set_option maxHeartbeats 4000000
namespace Go.Proofs.YtohgmogbabkkeaaGreat
open Go.Am
def HV (a0:List AV) (a1:List AV) (s:AS) (R:AV->AS->Prop):Prop :=
 cH a0 (aj (.cells a0 0 false) s fun l1 s2=>cH a1 (aj (.cells a1 0 false) s2 fun l3 s4=>aj (.cells [.int .u64 0,.int .u64 0,.int .u64 0,.int .u64 0,.int .u64 0,.int .u64 0,.int .u64 0,.int .u64 0,.int .u64 0,.int .u64 0,.int .u64 0,.int .u64 0,.int .u64 0,.int .u64 0,.int .u64 0,.int .u64 0] 0 false) s4 fun p s6=>aR (aC s6 l3 0 16) fun r=>bA fun e w=>e w [.int .i64 0] s6 /\
 ∀ c:Nat,∀ b:Int,∀ dH:AS,e c [.int .i64 b] dH ->
 af (decide ((b:Int)<16))
 (aU .u64 (ju T aZ (.agg r) (.int .i64 b)) fun i=>bJ (ag T aZ (.ptr (some (l1,0))) (.int .i64 b)) fun ku j=>aU .u64 (au dH ku j) fun k=>aU .u64 (K8 true [.int .u64 k,.int .u64 i]) fun l=>bJ (ag T aZ (.ptr (some (l1,0))) (.int .i64 b)) fun m n=>bu (cU dH m n [.int .u64 l]) fun gy=>∃ m',m'<c/\e m' [(.int .i64 (IntKind.wrap .i64 (b+1)))] gy)
 (aR (aC dH l1 0 16) fun d=>fC (some 16) d (bu (cU dH p 0 d) fun fT=>aR (aC fT p 0 16) fun o=>R (.agg o) fT))))
def HW:QA:=(.seq .leaf (.seq (.seq .leaf (.wrap (.loop [(8,.int .i64)] [(5,6),(8,19)] (.seq .leaf (.seq (.cond .leaf .leaf) (.seq (.wrap (.seq .leaf .leaf)) .leaf)))))) (.seq .leaf .leaf)))
theorem HX (a0:List AV) (a1:List AV) (s:AS) (R:AV->AS->Prop) (h:HV a0 a1 s R):aa Tryz.prog sy [.agg a0,.agg a1] s R :=
 aa.q (n:=21) (rs:=[.cell 4 49]) (A:=HW) hT bY Tryz.func81 (by kernel_rfl) rfl rfl rfl (by kernel_rfl) (by kernel_rfl) h
def zQ (a0:List UInt8) (s:AS) (R:AV->AS->Prop):Prop :=
 aU .i64 (aQ T bX (.str a0) s) fun b=>af (decide ((b:Int)>=1)) (aU .i64 (aQ T bX (.str a0) s) fun n2=>R (.bool (decide ((n2:Int)<=32))) s) (R (.bool false) s)
def zR:QA:=(.seq .leaf (.seq .leaf .leaf))
theorem zS (a0:List UInt8) (s:AS) (R:AV->AS->Prop) (h:zQ a0 s R):aa Tryz.prog iC [.str a0] s R :=
 aa.q (n:=11) (rs:=[.tmp 2]) (A:=zR) hT bY Tryz.func87 (by kernel_rfl) rfl rfl rfl (by kernel_rfl) (by kernel_rfl) h
def KP (a0:List AV) (s:AS) (R:AV->AS->Prop):Prop :=
 cH a0 (aj (.cells a0 0 false) s fun l1 s2=>aR (aC s2 l1 0 16) fun k=>bA fun e l=>e l [.bool true,.int .i64 0] s2 /\
 ∀ i:Nat,∀ j:Bool,∀ c:Int,∀ d:AS,e i [.bool j,.int .i64 c] d ->
 af (decide ((c:Int)<16))
 (aU .u64 (ju T aZ (.agg k) (.int .i64 c)) fun b=>af (!(decide ((b:Int)<=4611686018427387904)))
 (R (.bool (decide ((b:Int)<=4611686018427387904))) d)
 (∃ m',m'<i/\e m' [(.bool (decide ((b:Int)<=4611686018427387904))),(.int .i64 (IntKind.wrap .i64 (c+1)))] d))
 (R (.bool j) d))
def KQ:QA:=(.seq .leaf (.wrap (.seq .leaf (.seq .leaf (.seq (.seq .leaf (.wrap (.loop [(3,.bool),(7,.int .i64)] [(3,3),(5,5),(7,14)] (.seq .leaf (.seq (.cond .leaf .leaf) (.seq (.wrap (.seq .leaf (.seq .leaf (.seq .leaf (.cond .leaf .leaf))))) .leaf)))))) (.seq .leaf .leaf))))))
theorem KR (a0:List AV) (s:AS) (R:AV->AS->Prop) (h:KP a0 s R):aa Tryz.prog dJ [.agg a0] s R :=
 aa.q (n:=16) (rs:=[.tmp 2]) (A:=KQ) hT bY Tryz.func90 (by kernel_rfl) rfl rfl rfl (by kernel_rfl) (by kernel_rfl) h
def HY (a0:AV) (a1:List UInt8) (a2:AV) (s:AS) (R:AV->AS->Prop):Prop :=
 aj (.cells (List.replicate 32 (.int .u8 0)) 0 false) s fun l1 s2=>iT (cW T bX aq (.str a1) s2) fun j s4=>aa Tryz.prog wN [j] s4 fun k s6=>∃ i:AV,∃ l:Int,k=.aN [i,.int .i64 l]/\(aR (dw T eO 2 [(0,i),(1,a2)]) fun m=>aj (.cells m 0 false) s6 fun oQ c=>aa Tryz.prog y7 [a0,(.slc (some (oQ,0)) 2 2 true)] c fun d bW=>∃ b:List AV,d=.agg b/\(fC (some 32) b (bu (cU bW l1 0 b) fun gh=>aR (aC gh l1 0 32) fun e=>R (.agg e) gh)))
def HZ:QA:=(.seq .leaf (.seq .leaf (.seq .leaf .leaf)))
theorem H6 (a0:AV) (a1:List UInt8) (a2:AV) (s:AS) (R:AV->AS->Prop) (h:HY a0 a1 a2 s R):aa Tryz.prog eR [a0,.str a1,a2] s R :=
 aa.q (n:=20) (rs:=[.cell 6 93]) (A:=HZ) hT bY Tryz.func92 (by kernel_rfl) rfl rfl rfl (by kernel_rfl) (by kernel_rfl) h
def GN (a0:AV) (a1:List UInt8) (a2:List AV) (s:AS) (R:AV->AS->Prop):Prop :=
 cH a2 (aj (.cells a2 0 false) s fun l1 s2=>bG fun i =>
 (∀ p:Bool,∀ e:AS,i [.bool p] e ->
 af p
 (R (.aN [.slc none 0 0 true,.int .i64 2]) e)
 (aR (aC e l1 0 16) fun w=>aa Tryz.prog sA [.agg w] e fun r s8=>aa Tryz.prog eR [a0,.str a1,r] s8 fun x j=>∃ b:List AV,x=.agg b/\(aj (.cells (List.replicate 32 (.int .u8 0)) 0 false) j fun qL bW=>fC (some 32) b (bu (cU bW qL 0 b) fun k=>dI (bg T sH (.ptr (some (qL,0))) none none none) fun l=>iT (aL T aq aq r l k) fun oC kT=>R (.aN [oC,.int .i64 0]) kT)))) /\
 (aa Tryz.prog iC [.str a1] s2 fun m jl=>∃ c:Bool,m=.bool c/\(af (!c) (i [.bool true] jl) (aR (aC jl l1 0 16) fun n=>aa Tryz.prog dJ [.agg n] jl fun o uj=>∃ d:Bool,o=.bool d/\(i [(.bool (!d))] uj)))))
def GO:QA:=(.seq .leaf (.seq (.join [(17,.bool)] [(10,17)] .leaf (.cond (.seq .leaf .leaf) .leaf)) (.seq .leaf (.seq .leaf (.seq .leaf .leaf)))))
theorem GP (a0:AV) (a1:List UInt8) (a2:List AV) (s:AS) (R:AV->AS->Prop) (h:GN a0 a1 a2 s R):aa Tryz.prog fR [a0,.str a1,.agg a2] s R :=
 aa.q (n:=27) (rs:=[.tmp 6,.tmp 7]) (A:=GO) hT bY Tryz.func83 (by kernel_rfl) rfl rfl rfl (by kernel_rfl) (by kernel_rfl) h
def Nc (a0:AV) (a1:List UInt8) (a2:AV) (s:AS) (R:AV->AS->Prop):Prop :=
 aj (.cells [.int .u64 0,.int .u64 0,.int .u64 0,.int .u64 0,.int .u64 0,.int .u64 0,.int .u64 0,.int .u64 0,.int .u64 0,.int .u64 0,.int .u64 0,.int .u64 0,.int .u64 0,.int .u64 0,.int .u64 0,.int .u64 0] 0 false) s fun l1 s2=>aa Tryz.prog iC [.str a1] s2 fun v3 s4=>∃ b5:Bool,v3=.bool b5/\(af (!b5)
 (nQ (aS T aZ []) fun g6=>fC (some 16) g6 (bu (cU s4 l1 0 g6) fun s7=>aR (aC s7 l1 0 16) fun g8=>R (.aN [.agg g8,.int .i64 2]) s7))
 (aU .i64 (aQ T aq a2 s4) fun n9=>af ((n9:Int)==0)
 (nQ (aS T aZ []) fun A=>fC (some 16) A (bu (cU s4 l1 0 A) fun B=>aR (aC B l1 0 16) fun X=>R (.aN [.agg X,.int .i64 0]) B))
 (aU .i64 (aQ T aq a2 s4) fun Y=>af ((Y:Int) != 160)
 (nQ (aS T aZ []) fun C=>fC (some 16) C (bu (cU s4 l1 0 C) fun gh=>aR (aC gh l1 0 16) fun Z=>R (.aN [.agg Z,.int .i64 9]) gh))
 (dI (bg T aq a2 none (some (.int .i64 128)) (some (.int .i64 128))) fun c=>dI (bg T aq a2 (some (.int .i64 128)) none none) fun e=>aa Tryz.prog rW [c] s4 fun ab gy=>∃ D:Option (Nat×Nat),ab=.ptr D/\(aa Tryz.prog jD [.ptr D] gy fun ad uj=>∃ o:List AV,ad=.agg o/\(aj (.cells [.int .u64 0,.int .u64 0,.int .u64 0,.int .u64 0,.int .u64 0,.int .u64 0,.int .u64 0,.int .u64 0,.int .u64 0,.int .u64 0,.int .u64 0,.int .u64 0,.int .u64 0,.int .u64 0,.int .u64 0,.int .u64 0] 0 false) uj fun p ae=>fC (some 16) o (bu (cU ae p 0 o) fun d=>bG fun r =>
 (∀ F:Bool,∀ l:AS,r [.bool F] l ->
 af F
 (nQ (aS T aZ []) fun G=>fC (some 16) G (bu (cU l l1 0 G) fun H=>aR (aC H l1 0 16) fun al=>R (.aN [.agg al,.int .i64 9]) H))
 (aR (aC l p 0 16) fun I=>fC (some 16) I (bu (cU l l1 0 I) fun J=>aR (aC J l1 0 16) fun am=>R (.aN [.agg am,.int .i64 0]) J))) /\
 (gL fun S V=>aR (aC d p 0 16) fun b=>(∀ m:AS,Ext d m->aG m->(True)->aa Tryz.prog dJ [.agg b] m fun an K=>∃ w:Bool,an=.bool w/\((Ext m K/\S 1 [(.func dJ []),.agg b] (.bool w) K/\V 1 [(.func dJ []),.agg b] (.bool w))))/\(∃ v,V 1 [(.func dJ []),.agg b] v)/\∀ L:AV,V 1 [(.func dJ []),.agg b] L->∃ i:Bool,L=.bool i/\(af (!i) (∀ n:AS,Ext d n->aG n->(S 1 [(.func dJ []),.agg b] (.bool i) n/\True)->r [.bool true] n) ((∀ tN:AS,Ext d tN->aG tN->(S 1 [(.func dJ []),.agg b] (.bool i) tN/\True)->aa Tryz.prog eR [a0,.str a1,c] tN fun ao M=>∃ x:List AV,ao=.agg x/\((Ext tN M/\S 7 [(.func eR []),a0,.str a1,c] (.agg x) M/\V 7 [(.func eR []),a0,.str a1,c] (.agg x))))/\(∃ v,V 7 [(.func eR []),a0,.str a1,c] v)/\∀ O:AV,V 7 [(.func eR []),a0,.str a1,c] O->∃ y:List AV,O=.agg y/\((∀ j:AS,Ext d j->aG j->(S 1 [(.func dJ []),.agg b] (.bool i) j/\True)->pL (Qc T sH e) fun Q=>(Ext j j/\S 9 [e] (.ptr Q) j/\V 9 [e] (.ptr Q)))/\(∃ v,V 9 [e] v)/\∀ U:AV,V 9 [e] U->∃ z:Option (Nat×Nat),U=.ptr z/\(ai z fun ar aw=>aR (aC d ar aw 32) fun a3=>∀ k:AS,Ext d k->aG k->(S 1 [(.func dJ []),.agg b] (.bool i) k/\(S 7 [(.func eR []),a0,.str a1,c] (.agg y) k/\(S 9 [e] (.ptr z) k/\True)))->aa Tryz.prog wL [.agg y,.agg a3] k fun a4 a5=>∃ W:Bool,a4=.bool W/\(r [(.bool (!W))] a5)))))))))))))
def Nd:QA:=(.seq .leaf (.seq (.wrap (.seq .leaf (.cond (.seq .leaf .leaf) (.seq .leaf (.cond (.seq .leaf .leaf) (.seq .leaf (.cond (.seq .leaf .leaf) .leaf))))))) (.seq (.draw 5) (.seq .leaf (.seq (.join [(46,.bool)] [(33,46)] (.g_ 11 [[],[],[],[],[],[],[],[1],[],[1],[]] [1,7,9]) (.cond (.seq .leaf .leaf) .leaf)) (.seq .leaf .leaf))))))
theorem Dz (a0:AV) (a1:List UInt8) (a2:AV) (s:AS) (R:AV->AS->Prop) (h:Nc a0 a1 a2 s R):aa Tryz.prog ey [a0,.str a1,a2] s R :=
 aa.q (n:=49) (rs:=[.cell 6 49,.tmp 7]) (A:=Nd) hT bY Tryz.func24 (by kernel_rfl) rfl rfl rfl (by kernel_rfl) (by kernel_rfl) h
def nB (a0:AV) (s:AS) (R:AV->AS->Prop):Prop :=
 uC (Rw T br true a0 (.slc none 0 0 true)) fun b=>af b
 (R (.slc none 0 0 true) s)
 (aR (dw T br 0 []) fun c=>aj (.cells c 0 false) s fun l3 s4=>iT (aL T br br (.slc (some (l3,0)) 0 0 true) a0 s4) fun d s6=>R d s6)
def nC:QA:=(.seq .leaf (.seq (.seq .leaf (.cond (.seq .leaf .leaf) .leaf)) (.seq .leaf .leaf)))
theorem nD (a0:AV) (s:AS) (R:AV->AS->Prop) (h:nB a0 s R):aa Tryz.prog eD [a0] s R :=
 aa.q (n:=8) (rs:=[.tmp 2]) (A:=nC) hT bY Tryz.func82 (by kernel_rfl) rfl rfl rfl (by kernel_rfl) (by kernel_rfl) h
end Go.Proofs.YtohgmogbabkkeaaGreat
end

section
namespace Go.Proofs.YtohgmogbabkkeaaGreat
open Go.Am Go.av Go.aB Go.bE
def uf (v:List Int):Bool:=v.all fun n=>decide (n<=4611686018427387904)
def zT (v:List Int):List Int:=v.flatMap fun n=>xY n 8
def zU (sec:List Int) (dev:List UInt8) (v:List Int):List Int:=zT v++AF sec (uc dev++zT v)
theorem GQ {v:List Int} (h:v.length=16):(zT v).length=128:=by
 have:∀ l:List Int,(zT l).length=8*l.length:=by
  intro l
  induction l with
  | nil=>rfl
  | cons x xs b=>simp only [zT,List.flatMap_cons,List.length_append,j_] at b ⊢;rw [b];simp;omega
 rw [this,h]
theorem Tn (sec:List Int) (dev:List UInt8) {v:List Int} (h:v.length=16):(zU sec dev v).length=160:=by
 rw [zU,List.length_append,GQ h,jY]
def nj (a b:List Int):List Int:=(List.range 16).map fun i=>if b.getD i 0>a.getD i 0 then b.getD i 0 else a.getD i 0
theorem dB (a b:List Int):(nj a b).length=16:=by simp [nj]
theorem To {v:List Int} (h:v.length=16) {i:Nat} (hi:i<16):ju T aZ (.agg (v.map (.int .u64))) (.int .i64 (i:Nat))=some (.int .u64 (v.getD i 0)):=by
 simp only [ju,wT,jM,Option.bind_some,Cg Co];rw [if_pos (by omega),List.getElem?_map,List.getElem?_eq_getElem (by simp;omega),List.getD_eq_getElem?_getD,List.getElem?_eq_getElem (by omega)];simp
theorem T2 {v:List Int} (h:v.length=16) {s:AS} {l:Nat} (b:At s l (v.map (.int .u64))):aC s l 0 16=some (v.map (.int .u64)):=by
 rw [b.aC (by simp [h]),List.drop_zero,List.take_of_length_le (by simp [h])]
theorem Ws (a b:List Int) {i:Nat} (h:i<16) (e:a.length=16):(((nj a b).take i)++a.drop i).set i (if b.getD i 0>a.getD i 0 then b.getD i 0 else a.getD i 0)=((nj a b).take (i+1))++a.drop (i+1):=by
 have hd:=List.drop_eq_getElem_cons (l:=a) (i:=i) (by omega);have c:((nj a b).take i).length=i:=by simp [dB];omega
 have d:(nj a b)[i]? = some (if b.getD i 0>a.getD i 0 then b.getD i 0 else a.getD i 0):=by
  rw [nj,List.getElem?_map,List.getElem?_range h];rfl
 rw [List.set_append,if_neg (by omega),c,Nat.sub_self,hd,List.set_cons_zero,List.take_add_one,d,Option.toList_some,List.append_assoc];rfl
theorem Tp {a b:List Int} (A:a.length=16) (hb:b.length=16) (s:AS):aa Tryz.prog sy [.agg (a.map (.int .u64)),.agg (b.map (.int .u64))] s fun r s'=>r=.agg ((nj a b).map (.int .u64))/\Ext s s':=by
 refine aa.pre fun B=>HX _ _ _ _ ⟨cq _ _,aj.intro B rfl fun l1 s2 d=>⟨cq _ _,aj.intro d.wf rfl fun l3 s4 j=>aj.intro j.wf rfl fun x s6 c=>?_⟩⟩;have C:=(d.ext.trans j.ext).trans c.ext;have D:=d.no;have d5:x≠l1:=fun e=>by
  have:=c.no;rw [e,d.own.ext j.ext] at this;cases this
 refine ⟨_,T2 hb (j.own.ext c.ext).at,fun m vs s'=>∃ i:Nat,vs=[.int .i64 (i:Nat)]/\i<=16/\m=16 - i/\Ext s s'/\aG s'/\Am.Own s' l1 (((nj a b).take i++a.drop i).map (.int .u64))/\Am.Own s' x (fo.map (.int .u64)),16,⟨0,rfl,by omega,rfl,C,c.wf,by simpa using (d.own.ext j.ext).ext c.ext,c.own⟩,?_⟩;rintro m n dH ⟨i,hi,J,rfl,k,l,p1,y⟩;simp only [List.cons.injEq,AV.int.injEq,true_and,and_true] at hi;subst hi;refine af.dec (fun F=>?_) (fun G=>?_)
 ·have H:((nj a b).take i++a.drop i).getD i 0=a.getD i 0:=by
   rw [List.getD_eq_getElem?_getD,List.getD_eq_getElem?_getD,List.getElem?_append_right (by simp [dB];omega)];simp [dB,Nat.min_eq_left (show i<=16 by omega)]
  have hr:au dH l1 (0+((i:Nat):Int).toNat*1)=some (.int .u64 (a.getD i 0)):=by rw [<- H];exact p1.at.QC (by simp [dB];omega) (by simp)
  refine ⟨_,To hb (by omega),_,_,Ry (by omega),_,hr,_,Pg _ _,_,_,Ry (by omega),bu.int l p1 (i:=i) (by simp [dB];omega) (by simp) fun gy I p o=>⟨16 - (i+1),by omega,i+1,by rw [BI (by omega)],by omega,rfl,Ext.wr k D o,p,?_,y.mut o (by simpa using d5)⟩⟩;rw [<- Ws a b (by omega) A];exact I
 ·obtain rfl:i=16:=by omega
  have w:(nj a b).take 16++a.drop 16=nj a b:=by rw [List.take_of_length_le (by simp [dB]),List.drop_eq_nil_of_le (by omega),List.append_nil]
  rw [w] at p1;refine ⟨_,T2 (dB a b) p1.at,⟨cq _ _,by simp [dB]⟩,bu.own l y (by simp [dB,fo]) fun fT P=>?_⟩;have z:=P.at;rw [dD (by simp [dB,fo])] at z;exact ⟨_,T2 (dB a b) ⟨_,_,z⟩,rfl,Ext.wr k ((d.ext.trans j.ext).none c.no) P.mut⟩
theorem vl (t:List UInt8) (s:AS):aa Tryz.prog iC [.str t] s fun v s'=>v=.bool (aK t)/\s'=s:=by
 refine zS _ _ _ ⟨_,kZ t s,af.dec (fun h=>⟨_,kZ t s,?_,rfl⟩) (fun h=>⟨?_,rfl⟩)⟩
 ·congr 1;rw [aK,decide_eq_decide];omega
 ·congr 1;symm;rw [aK,decide_eq_false_iff_not];omega
theorem PZ {v:List Int} (h:v.length=16) (s:AS):aa Tryz.prog dJ [.agg (v.map (.int .u64))] s fun r s'=>r=.bool (uf v)/\Ext s s':=by
 refine aa.pre fun j=>KR _ _ _ ⟨cq _ _,aj.intro j rfl fun l1 s2 e=>⟨_,T2 h e.own.at,fun m vs s'=>∃ i:Nat,vs=[.bool true,.int .i64 (i:Nat)]/\i<=16/\m=16 - i/\s'=s2/\(v.take i).all (fun n=>decide (n<=4611686018427387904))=true,16,⟨0,rfl,by omega,rfl,rfl,rfl⟩,?_⟩⟩;rintro m b n o ⟨i,hi,p,rfl,rfl,d⟩;simp only [List.cons.injEq,AV.int.injEq,AV.bool.injEq,true_and,and_true] at hi;obtain ⟨rfl,rfl⟩:=hi;refine af.dec (fun k=>⟨_,To h (by omega),af.mk (fun hb=>⟨?_,e.ext⟩) (fun hb=>⟨16 - (i+1),by omega,i+1,?_,by omega,rfl,rfl,?_⟩)⟩) (fun l=>⟨?_,e.ext⟩)
 ·have c:decide (v.getD i 0<=4611686018427387904)=false:=by simpa using hb
  rw [c];congr 1;symm;rw [uf,List.all_eq_false];refine ⟨v.getD i 0,?_,by simpa using c⟩;rw [List.getD_eq_getElem?_getD,List.getElem?_eq_getElem (by omega)];exact List.getElem_mem _
 ·have c:decide (v.getD i 0<=4611686018427387904)=true:=by simpa using hb
  rw [c,BI (by omega)]
 ·have c:decide (v.getD i 0<=4611686018427387904)=true:=by simpa using hb
  rw [List.take_add_one,List.all_append,d];rw [List.getD_eq_getElem?_getD] at c;rw [List.getElem?_eq_getElem (by omega)] at c ⊢;simpa using c
 ·rw [List.take_of_length_le (by omega)] at d;rw [uf,d]
theorem P0 {s:AS} {sv e:AV} {sec vb:List Int} (hs:fE s sv sec) (y:sec.length<=64) (hv:fE s e vb) (z:vb.length<=1000) (dev:List UInt8) (hd:dev.length<=1000) :
  aa Tryz.prog eR [sv,.str dev,e] s fun r s'=>r=.agg ((AF sec (uc dev++vb)).map (.int .u8))/\Ext s s':=by
 refine aa.pre fun A=>H6 _ _ _ _ _ (aj.intro A rfl fun l1 s2 i=>?_);refine OU i.wf dev fun J s4 B m K=>?_;refine aa.use (UM B (by rw [xx];omega)) ?_;rintro v s6 ⟨n,rfl,j⟩ C;have o:=(i.ext.trans m).trans j.eC.ext;have k:=hv.ext o;have D:=j.sl bM;refine ⟨_,_,rfl,_,PW j.jh.2 k.one,aj.intro C rfl fun oQ F b=>?_⟩;have c:=o.trans b.ext;refine aa.use (US (L:=[(n,uc dev),(e,vb)]) (hs.ext c) y (ct.mk b.own.at rfl rfl) ?_ (by simp) ?_) ?_
 ·intro p w;simp only [List.mem_cons,List.not_mem_nil,or_false] at w;rcases w with rfl | rfl
  ·have:=D.ext b.ext;rw [xx] at this;exact this
  ·exact hv.ext c
 ·simp [qz,Q6];omega
 ·rintro G bW ⟨rfl,d⟩ l;have H:([(n,uc dev),(e,vb)].flatMap Prod.snd)=uc dev++vb:=by simp
  rw [H];have I:=(((i.own.ext m).ext j.eC.ext).ext b.ext).ext d;refine ⟨_,rfl,⟨cq _ _,by simp [jY]⟩,bu.own l I (by simp [jY]) fun gh P=>?_⟩;have x:=P.at;rw [dD (by simp [jY])] at x;refine ⟨_,At.aC ⟨_,_,x⟩ (by simp [jY]),?_,Ext.wr (c.trans d) i.no P.mut⟩;rw [List.drop_zero,List.take_of_length_le (by simp [jY])]
theorem Nf {s:AS} {sv:AV} {sec:List Int} (hs:fE s sv sec) (A:sec.length<=64) (dev:List UInt8) {v:List Int} (hv:v.length=16) (z:aK dev=true) (hm:uf v=true) :
  aa Tryz.prog fR [sv,.str dev,.agg (v.map (.int .u64))] s fun r s'=>∃ w,r=.aN [w,.int .i64 0]/\zK s s' w (zU sec dev v):=by
 refine aa.pre fun B=>GP _ _ _ _ _ ⟨cq _ _,aj.intro B rfl fun l1 s2 e=>⟨fun vs s'=>vs=[.bool false]/\Ext s2 s'/\aG s',?_,?_⟩⟩
 ·rintro b C ⟨hb,j,L⟩;obtain rfl:b=false:=by simpa using hb
  refine af.no rfl ⟨_,T2 hv (e.own.ext j).at,?_⟩;refine aa.use (Q8 v hv _) ?_;rintro D s8 (k:zK C s8 D (zT v)) M;have F:=(e.ext.trans j).trans k.eC.ext;have hd:dev.length<=32:=by
   simp only [aK,decide_eq_true_eq] at z;omega
  have i:=GQ hv;refine aa.use (P0 (hs.ext F) A (k.sl bM) (by rw [i];omega) dev (by omega)) ?_;rintro O G ⟨rfl,l⟩ m;refine ⟨_,rfl,kj m (by simp [jY]) (by simp) (cq _ _) fun qL n d=>⟨_,nU JQ eG (by decide),?_⟩⟩;have c:=jY sec (uc dev++zT v);have H:fE n (.slc (some (qL,0)) 32 32 true) (AF sec (uc dev++zT v)):=ct.mk d.own.at (by rw [k5];simp [c]) (by rw [k5,List.drop_zero,List.take_of_length_le (by simp [c])]) |> (c ▸ ·);refine xz d.wf (k.step (l.trans d.ext)) (by simp) H (by rw [i,c];omega) fun v' s' o w' _=>⟨v',rfl,?_⟩;exact ⟨o.tI,(e.ext.trans j).mut.trans o.eC,fun la p=>(e.ext.trans j).none (o.new la p)⟩
 ·refine aa.use (vl dev _) ?_;rintro I jl ⟨rfl,rfl⟩ J;refine ⟨_,rfl,af.no (by simp [z]) ⟨_,T2 hv e.own.at,?_⟩⟩;refine aa.use (PZ hv _) ?_;rintro K uj ⟨rfl,x⟩ y;exact ⟨_,rfl,by simp [hm],x,y⟩
theorem GR:aS T aZ []=some (.agg (fo.map (.int .u64))):=by kernel_rfl
theorem Sl.XQ {s:AS} {v:AV} {l:List Int} (h:fE s v l) (d:l.length=32):∃ la o,Qc T sH v=some (.ptr (some (la,o)))/\∀ s',Ext s s'->aC s' la o 32=some (l.map (.int .u8)):=by
 rcases h with ⟨_,m,_⟩ | ⟨a,c,e,rfl,⟨i,n⟩,h3⟩
 ·omega
 ·rcases h3 with h3 | ⟨la,o,C,rfl,j,b⟩
  ·omega
  ·refine ⟨la,o,by simp [Qc,JQ,d],fun s' k=>?_⟩;have hlen:=congrArg List.length b;rw [List.length_take,List.length_drop,sU,d] at hlen;rw [(j.ext k).aC (by omega),<- k5,<- b,d]
theorem O1 {s s4:AS} {l1:Nat} {v:List Int} (hv:v.length=16) (d:Ext s s4) (e:aG s4) (i:s.h l1=none) (j:Am.Own s4 l1 (fo.map (.int .u64))) {c c':Int} (k:c=c') :
  fC (some 16) (v.map (AV.int .u64)) (bu (Am.cU s4 l1 0 (v.map (.int .u64))) fun s7=>aR (aC s7 l1 0 16) fun l=>(fun r s'=>r=AV.aN [.agg (v.map (.int .u64)),.int .i64 c']/\Ext s s') (.aN [.agg l,.int .i64 c]) s7):=by
 refine ⟨⟨cq _ _,by simp [hv]⟩,bu.own e j (by simp [hv,fo]) fun s7 P=>?_⟩;have b:=P.at;rw [dD (by simp [hv,fo])] at b;exact ⟨_,T2 hv ⟨_,_,b⟩,by rw [k],Ext.wr d i P.mut⟩
theorem U0 (v:List Int):K0 (zT v):=by
 intro x b;obtain ⟨n,_,b⟩:=List.mem_flatMap.1 b;exact Wj n 8 x b
theorem Tq {s:AS} {sv bv:AV} {b:List Int} (hb:fE s bv b) (dev:List UInt8) (d:aK dev=false\/b=[]) :
  aa Tryz.prog ey [sv,.str dev,bv] s fun r s'=>r=.aN [.agg (fo.map (.int .u64)),.int .i64 (if aK dev then 0 else 2)]/\Ext s s':=by
 refine aa.pre fun j=>Dz _ _ _ _ _ (aj.intro j rfl fun l1 s2 c=>?_);refine aa.use (vl dev _) ?_;rintro k s4 ⟨rfl,rfl⟩ e;refine ⟨_,rfl,af.mk (fun h=>⟨_,GR,O1 rfl c.ext e c.no c.own (by rw [if_neg (by simpa using h)])⟩) (fun h=>?_)⟩
 ·have i:aK dev=true:=by simpa using h
  rcases d with d | rfl
  ·rw [i] at d;cases d
  ·refine ⟨_,(hb.ext c.ext).cJ aO _,af.yes (by simp) ⟨_,GR,O1 rfl c.ext e c.no c.own (by rw [if_pos i])⟩⟩
theorem Wt {s:AS} {sv bv:AV} {sec:List Int} (hs:fE s sv sec) (hl:sec.length<=64) (dev:List UInt8) (Z:aK dev=true) {v:List Int} (hv:Xu v) (hm:uf v=true) (hb:fE s bv (zU sec dev v)) :
  aa Tryz.prog ey [sv,.str dev,bv] s fun r s'=>r=.aN [.agg (v.map (.int .u64)),.int .i64 0]/\Ext s s':=by
 have c:=hv.len;have hd:dev.length<=32:=by
  simp only [aK,decide_eq_true_eq] at Z;omega
 have z:=Tn sec dev c;have ad:=GQ c;have A:=jY sec (uc dev++zT v);refine aa.pre fun hw=>Dz _ _ _ _ _ (aj.intro hw rfl fun l1 s2 B=>?_);refine aa.use (vl dev _) ?_;rintro v3 s4 ⟨rfl,rfl⟩ w4;have k:=hb.ext B.ext;refine ⟨_,rfl,af.no (by simp [Z]) ⟨_,k.cJ aO _,af.no (by simp [z]) ⟨_,k.cJ aO _,af.no (by simp [z]) ?_⟩⟩⟩;obtain ⟨ae,J,d⟩:=k.head bM aO eG (i:=128) (by omega) .i64;obtain ⟨al,K,l⟩:=k.rest bM aO eG (i:=128) (by omega) .i64;have t1:(zU sec dev v).take 128=zT v:=by rw [zU,List.take_append_of_le_length (by omega),List.take_of_length_le (by omega)]
 have t2:(zU sec dev v).drop 128=AF sec (uc dev++zT v):=by rw [zU,List.drop_append_of_le_length (by omega),List.drop_eq_nil_of_le (by omega),List.nil_append]
 rw [t1] at d;rw [t2] at l;refine ⟨_,J,_,K,?_⟩;refine aa.use (PY d (U0 v) (by omega)) ?_;rintro am gy ⟨p,rfl,hp,rp,L⟩ an;refine ⟨_,rfl,?_⟩;refine aa.use (O0 rp) ?_;rintro ao uj ⟨rfl,M,ab⟩ O;have m:=UZ hv [];rw [List.append_nil] at m;rw [show (v.flatMap fun n=>xY n 8)=zT v from rfl] at m;rw [m.1];have Q:Ext s4 uj:=Ext.wr L hp M;refine ⟨_,rfl,kj O (by simp [c]) rfl (cq _ _) fun ar C x=>?_⟩;have j:=Q.trans x.ext;have R:=B.own.ext j;refine ⟨fun vs s'=>vs=[.bool false]/\Ext C s'/\aG s',?_,fun q _ v s'=>q=9->∃ la o,v=.ptr (some (la,o)),fun q _ w=>(q=1->w=.bool true)/\(q=7->w=.agg ((AF sec (uc dev++zT v)).map (.int .u8)))/\(q=9->∃ la o,w=.ptr (some (la,o))/\aC C la o 32=some ((AF sec (uc dev++zT v)).map (.int .u8))),fun q _ w s s' e h=>h,?_⟩
 ·rintro b aw ⟨hb,y,S⟩;obtain rfl:b=false:=by simpa using hb
  refine af.no rfl ⟨_,T2 c (x.own.ext y).at,O1 c ((B.ext.trans j).trans y) S B.no (R.ext y) rfl⟩
 ·refine ⟨_,T2 c x.own.at,fun a0 a1 a2 _=>?_,⟨_,(fun _=>rfl),(fun h=>by cases h),(fun h=>by cases h)⟩,fun a3 D=>?_⟩
  ·refine (PZ c _).mono ?_;rintro w s' ⟨rfl,e⟩;exact ⟨_,rfl,e,(fun h=>by cases h),(fun _=>by rw [hm]),(fun h=>by cases h),(fun h=>by cases h)⟩
  ·obtain rfl:=D.1 rfl;obtain ⟨la,o,U,F⟩:=Sl.XQ (l.ext j) A;refine ⟨_,rfl,af.no rfl ⟨fun tN G a4 _=>?_,⟨_,(fun h=>by cases h),(fun _=>rfl),(fun h=>by cases h)⟩,fun a5 H=>?_⟩⟩
   ·refine (P0 (hs.ext ((B.ext.trans j).trans G)) hl (d.ext (j.trans G)) (by omega) dev (by omega)).mono ?_;rintro w s' ⟨rfl,e⟩;exact ⟨_,rfl,e,(fun h=>by cases h),(fun h=>by cases h),(fun _=>rfl),(fun h=>by cases h)⟩
   ·obtain rfl:=H.2.1 rfl;refine ⟨_,rfl,fun a6 a7 a8 _=>⟨_,U,Ext.refl _,(fun _=>⟨la,o,rfl⟩),(fun h=>by cases h),(fun h=>by cases h),(fun _=>⟨la,o,rfl,F _ (Ext.refl _)⟩)⟩,⟨_,(fun h=>by cases h),(fun h=>by cases h),(fun _=>⟨la,o,rfl,F _ (Ext.refl _)⟩)⟩,fun a9 I=>?_⟩;obtain ⟨a',o',rfl,hr'⟩:=I.2.2 rfl;refine ⟨_,rfl,_,hr',fun ba W bb _=>?_⟩;refine aa.use (OT A _) ?_;rintro w bc ⟨rfl,X⟩ Y;exact ⟨_,rfl,rfl,W.trans X,Y⟩
end Go.Proofs.YtohgmogbabkkeaaGreat
end

section
namespace Go.Proofs.YtohgmogbabkkeaaGreat
open Go.Am Go.av Go.aB Go.bE
structure Ev where
 id:aJ
 cQ:List UInt8
 vn:List Int
 ke:List Int
 to:List B4
structure lT where
 ev:Ev
 pv:AV
 tv:AV
 len:ev.ke.length=16
 p1:pv.one=true
 t1:tv.one=true
def ie (m:lT):List AV:=[.int .i64 m.ev.id.r,.int .u64 m.ev.id.c,.str m.ev.cQ,m.pv]++(m.ev.ke.map (.int .u64)++[m.tv])
theorem bf (m:lT):(ie m).length=21:=by simp [ie,m.len]
theorem dW (m:lT):(ie m).all AV.one=true:=by
 have b:=m.p1;have h2:=m.t1;have h3:=cq .u64 m.ev.ke;rw [ie,List.all_append,List.all_append,h3];simp [b,h2]
theorem BO (m:lT) {i:Nat} (h:i<16):(ie m)[4+i]? = some (.int .u64 (m.ev.ke.getD i 0)):=by
 have b:=m.len;rw [ie,List.getElem?_append_right (by simp),List.getElem?_append_left (by simp;omega),List.getElem?_map,List.getElem?_eq_getElem (by simp;omega),List.getD_eq_getElem?_getD];simp [List.getElem?_eq_getElem (show i<m.ev.ke.length by omega)]
theorem qa (m:lT):(ie m)[20]? = some m.tv:=by
 have b:=m.len;rw [ie,List.getElem?_append_right (by simp),List.getElem?_append_right (by simp;omega)];simp [b]
theorem O2 (m:lT):((ie m).drop 0).take 2=aI m.ev.id:=rfl
theorem P1 (m:lT):((ie m).drop 4).take 16=m.ev.ke.map (.int .u64):=by
 have b:=m.len;rw [ie,List.drop_append_of_le_length (by simp)];simp [List.take_append_of_le_length,b]
theorem gT (m:lT):((ie m).drop 0).take 21=ie m:=by rw [List.drop_zero,List.take_of_length_le (by rw [bf];exact Nat.le_refl _)]
def zV (s:AS) (m:lT):Prop:=fE s m.pv m.ev.vn/\Sl rM 3 s m.tv m.ev.to
theorem zV.ext {s s':AS} {m:lT} (h:zV s m) (e:Ext s s'):zV s' m:=⟨h.1.ext e,h.2.ext e⟩
theorem C7 (d:aJ) (s:AS):aa Tryz.prog jK [.agg (aI d)] s fun v s'=>v=.bool d.may/\Ext s s':=by
 refine aa.pre fun b=>Gu _ _ _ ⟨rfl,aj.intro b rfl fun l s1 F=>?_⟩;simp only [F.own.at.au,aI,List.getElem?_cons_zero,List.getElem?_cons_succ,go_sem,gB,F.ext,and_true,aJ.may]
 grind
theorem vo (t:List UInt8) (s:AS):aa Tryz.prog fZ [.str t] s fun v s'=>v=.bool (aK t)/\s'=s:=by
 refine D1 _ _ _ ⟨_,kZ t s,af.dec (fun h=>⟨_,kZ t s,?_,rfl⟩) (fun h=>⟨?_,rfl⟩)⟩
 ·congr 1;rw [aK,decide_eq_decide];omega
 ·congr 1;symm;rw [aK,decide_eq_false_iff_not];omega
theorem Ts (a b:aJ) (s:AS):aa Tryz.prog uO [.agg (aI a),.agg (aI b)] s fun v s'=>v=.bool (a.lt b)/\Ext s s':=by
 refine aa.pre fun k=>Kn _ _ _ _ ⟨rfl,aj.intro k rfl fun l s1 F=>⟨rfl,aj.intro F.wf rfl fun m s2 c=>?_⟩⟩;have e:=F.ext.trans c.ext;refine ⟨fun _ _ _ _=>True,fun _ _ v=>v=.int .i64 (tF a.r b.r),fun _ _ _ _ _ _ _=>trivial,?_⟩;simp only [(F.own.ext c.ext).at.au,c.own.at.au,aI,List.getElem?_cons_zero,List.getElem?_cons_succ,go_sem];refine ⟨fun s7 _ _ _=>?_,⟨_,rfl⟩,?_⟩
 ·refine (kI _ _ _).mono ?_;rintro v s' ⟨rfl,rfl⟩;exact ⟨_,rfl,Ext.refl _,trivial,rfl⟩
 ·rintro v rfl;refine ⟨_,rfl,fun gh d _ _=>?_⟩;refine aa.use (iJ _ _ _) ?_;rintro v s' ⟨rfl,rfl⟩ i;refine ⟨_,rfl,_,OS _ _,aj.intro i rfl fun l3 s3 j=>?_⟩;refine (pU _ _ j.own.at).mono ?_;rintro v s' ⟨rfl,rfl⟩;refine ⟨_,rfl,?_,e.trans (d.trans j.ext)⟩;congr 1;rw [Bool.eq_iff_iff,decide_eq_true_eq,<- aJ.fX,aJ.cmp]
theorem Wu {s:AS} {l o:Nat} {C:List AV} {v:List Int} (hv:v.length=16) (h:At s l C) (b:(C.drop o).take 16=v.map (.int .u64)):Sl xA 1 s (.slc (some (l,o)) 16 16 true) v:=by
 have hf:v.flatMap xA=v.map (.int .u64):=by
  clear hv b
  induction v with
  | nil=>rfl
  | cons x xs d=>rw [List.flatMap_cons,d];rfl
 exact (ct.mk (n:=16) (c:=16) h (by rw [hf];simp [hv]) (by rw [hf];exact b)) |> (hv ▸ ·)
theorem Rk {v:List Int} (hv:v.length=16) (s:AS):aa Tryz.prog mM [.agg (v.map (.int .u64))] s fun r s'=>r=.bool (uf v)/\Ext s s':=by
 refine aa.pre fun c=>Bm _ _ _ ⟨cq _ _,aj.intro c rfl fun l1 s2 b=>⟨_,nU wT jM (by decide),?_⟩⟩;have hs:=Wu hv b.own.at (by rw [List.drop_zero,List.take_of_length_le (by simp [hv])]);refine aa.use (ue (P:=fun n=>decide (n>4611686018427387904)) hs (by omega) fun i _ s' e w=>yu _ _ _ ⟨rfl,Ext.refl _⟩) ?_;rintro w j ⟨rfl,d⟩ k;refine ⟨_,rfl,?_,b.ext.trans d⟩;congr 1;rw [uf,Bool.eq_iff_iff];simp only [Bool.not_eq_true',List.any_eq_false,decide_eq_true_eq,List.all_eq_true,Int.not_lt,gt_iff_lt]
def vp (l:List B4) (j:Nat):Bool:=match l[j]? with
 | none=>true
 | some t=>t.dot.may&&aK t.dev&&(decide (j=0)||match l[j - 1]? with
  | none=>true
  | some u=>u.dot.lt t.dot)
def xK (l:List B4):Bool:=(List.range l.length).all (vp l)
def xL (e:Ev):Bool:=decide (e.ke.getD (e.id.r.toNat - 1) 0=IntKind.wrap .u64 (e.id.c - 1))
def sV (e:Ev):Bool:=e.id.may&&uf e.ke&&xL e&&aK e.cQ&&decide (e.vn.length<=512)&&decide (e.to.length<=1024)&&xK e.to
theorem C8 {d:aJ} (h:d.may=true):IntKind.wrap .i64 (d.r - 1)=((d.r.toNat - 1:Nat):Int)/\d.r.toNat - 1<16:=by
 have:=aJ.gQ.1 h;rw [aX (by omega)];omega
set_option maxRecDepth 20000 in
theorem U1 {s:AS} {m:lT} (h:zV s m):aa Tryz.prog wO [.agg (ie m)] s fun r s'=>r=.bool (sV m.ev)/\Ext s s':=by
 refine aa.pre fun hw=>Mv _ _ _ ⟨dW m,aj.intro hw rfl fun l1 s2 M=>?_⟩;have c2:=M.own.at;have ev:=bf m;refine ⟨_,c2.aC (by omega),?_⟩;rw [O2];refine aa.use (C7 _ _) ?_;rintro v4 s5 ⟨rfl,O⟩ w5;have c5:=c2.ext O;refine ⟨_,rfl,af.mk (fun hb=>⟨?_,M.ext.trans O⟩) (fun hb=>⟨_,c5.aC (by omega),?_⟩)⟩
 ·simp only [Bool.not_eq_true'] at hb;simp [sV,hb]
 have C:m.ev.id.may=true:=by simpa using hb
 rw [P1];refine aa.use (Rk m.len _) ?_;rintro v8 s9 ⟨rfl,e9⟩ w9;have p:=c5.ext e9;have w:=(M.ext.trans O).trans e9;refine ⟨_,rfl,af.mk (fun hb=>⟨?_,w⟩) (fun hb=>⟨m.ev.id.r,by rw [p.au];rfl,?_⟩)⟩
 ·simp only [Bool.not_eq_true'] at hb;simp [sV,hb]
 have hv:uf m.ev.ke=true:=by simpa using hb
 obtain ⟨hr,D⟩:=C8 C;dsimp only;rw [hr];have hx:ag T aZ (.ptr (some (l1,4))) (.int .i64 ((m.ev.id.r.toNat - 1:Nat):Int))=some (.ptr (some (l1,4+(m.ev.id.r.toNat - 1)))):=by
  rw [Ry (by omega)];simp
 refine ⟨_,_,hx,_,by rw [p.au,BO m D],m.ev.id.c,by rw [p.au];rfl,af.mk (fun hb=>⟨?_,w⟩) (fun hb=>?_)⟩
 ·have:xL m.ev=false:=decide_eq_false (bne_iff_ne.1 hb);simp [sV,this]
 have hp:xL m.ev=true:=decide_eq_true (by rw [bne_eq_false_iff_eq] at hb;exact hb);refine ⟨m.ev.cQ,by rw [p.au];rfl,?_⟩;refine aa.use (vo _ _) ?_;rintro ab eT ⟨rfl,rfl⟩ Q;have e:=h.ext w;refine ⟨_,rfl,af.mk (fun hb=>⟨?_,w⟩) (fun hb=>⟨m.pv,by rw [p.au];rfl,_,e.1.cJ aO _,af.dec (fun F=>⟨?_,w⟩) (fun F=>⟨m.tv,by rw [p.au,qa],_,e.2.cJ eX _,af.dec (fun z=>⟨?_,w⟩) (fun z=>⟨m.tv,by rw [p.au,qa],_,e.2.cJ eX _,?_⟩)⟩)⟩)⟩
 ·have:aK m.ev.cQ=false:=by simpa using hb
  simp [sV,this]
 ·simp [sV,show ¬ m.ev.vn.length<=512 by omega]
 ·simp [sV,show ¬ m.ev.to.length<=1024 by omega]
 have hn:aK m.ev.cQ=true:=by simpa using hb
 have G:sV m.ev=xK m.ev.to:=by
  simp [sV,C,hv,hp,hn,show m.ev.vn.length<=512 by omega,show m.ev.to.length<=1024 by omega]
 rw [G];refine ⟨fun m' vs s'=>∃ i:Nat,vs=[.bool true,.int .i64 (i:Nat)]/\i<=m.ev.to.length/\m'=m.ev.to.length - i/\Ext eT s'/\aG s'/\(List.range i).all (vp m.ev.to)=true,m.ev.to.length,⟨0,rfl,by omega,rfl,Ext.refl _,Q,rfl⟩,?_⟩;rintro m' b n nK ⟨i,hi,h6,rfl,A,R,x⟩;simp only [List.cons.injEq,AV.int.injEq,AV.bool.injEq,true_and,and_true] at hi;obtain ⟨rfl,rfl⟩:=hi;refine af.dec (fun ad=>?_) (fun ae=>?_)
 ·obtain ⟨y,H⟩:=cT (l:=m.ev.to) (i:=i) (by omega);obtain ⟨la,o,h8,h9⟩:=e.2.ix (by decide) dV eX ze H;refine ⟨la,o,h8 _,_,(h9 _ A).2,kj R (dV y) rfl (t_ y) fun al oB B=>?_⟩;have k:=A.trans B.ext;refine ⟨fun vs s'=>vs=[.bool (vp m.ev.to i)]/\Ext oB s'/\aG s',?_,?_⟩
  ·rintro b am ⟨hb,I,S⟩;simp only [List.cons.injEq,AV.bool.injEq,and_true] at hb;subst hb;refine af.mk (fun hb=>⟨?_,w.trans (k.trans I)⟩) (fun hb=>?_)
   ·have j:vp m.ev.to i=false:=by simpa using hb
    rw [j];congr 1;symm;rw [xK,List.all_eq_false];exact ⟨i,by simp;omega,by simp [j]⟩
   ·have j:vp m.ev.to i=true:=by simpa using hb
    refine ⟨m.ev.to.length - (i+1),by omega,i+1,by rw [j,BI (by omega)],by omega,rfl,k.trans I,S,?_⟩;rw [List.range_succ,List.all_append,x];simp [j]
  ·refine ⟨_,B.own.at.aC (by rw [dV];omega),?_⟩;rw [show ((rM y).drop 0).take 2=aI y.dot from rfl];refine aa.use (C7 _ _) ?_;rintro an ao ⟨rfl,d⟩ U;have J:=(B.own.ext d).at;refine ⟨_,rfl,af.mk (fun K=>⟨y.dev,by rw [J.au];rfl,?_⟩) (fun K=>⟨by simp [vp,H,K],d,U⟩)⟩;refine aa.use (vo _ _) ?_;rintro ar aw ⟨rfl,rfl⟩ L;refine ⟨_,rfl,af.mk (fun h2=>af.mk (fun h3=>⟨?_,d,L⟩) (fun h3=>?_)) (fun h2=>⟨by simp [vp,H,K,h2],d,L⟩)⟩
   ·obtain rfl:i=0:=by simp at h3;omega
    simp [vp,H,K,h2]
   ·have W:i≠0:=by simp at h3;omega
    obtain ⟨u,hu⟩:=cT (l:=m.ev.to) (i:=i - 1) (by omega);obtain ⟨lu,ou,k8,k9⟩:=e.2.ix (by decide) dV eX ze hu;have X:IntKind.wrap .i64 ((i:Int) - 1)=((i - 1:Nat):Int):=by rw [aX (by omega)];omega
    rw [X];refine ⟨m.tv,by rw [((p.ext (k.trans d))).au,qa],lu,ou,k8 _,aI u.dot,?_,_,J.aC (by rw [dV];omega),?_⟩
    ·exact oS (k9 _ (k.trans d)).2 (by omega)
    ·rw [show ((rM y).drop 0).take 2=aI y.dot from rfl];refine aa.use (Ts _ _ _) ?_;rintro a0 a1 ⟨rfl,Y⟩ Z;exact ⟨_,rfl,by simp [vp,H,K,h2,W,hu],d.trans Y,Z⟩
 ·obtain rfl:i=m.ev.to.length:=by omega
  exact ⟨by rw [xK,x],w.trans A⟩
def under (v:List Int) (d:aJ):Bool:=d.may&&decide (v.getD (d.r.toNat - 1) 0>=d.c)
theorem Tt {v:List Int} (hv:v.length=16) (d:aJ) (s:AS):aa Tryz.prog sB [.agg (v.map (.int .u64)),.agg (aI d)] s fun r s'=>r=.bool (under v d)/\Ext s s':=by
 refine aa.pre fun n=>HI _ _ _ _ ⟨cq _ _,aj.intro n rfl fun l1 s2 e=>⟨rfl,aj.intro e.wf rfl fun l3 s4 b=>⟨_,b.own.at.aC (by simp [aI]),?_⟩⟩⟩;refine aa.use (C7 _ _) ?_;rintro p s7 ⟨rfl,j⟩ w;have k:=(e.ext.trans b.ext).trans j;have l:=(b.own.ext j).at;have o:=((e.own.ext b.ext).ext j).at;refine ⟨_,rfl,af.mk (fun hb=>⟨d.r,by rw [l.au];rfl,?_⟩) (fun hb=>⟨by simp [under,hb],k⟩)⟩;obtain ⟨hr,m⟩:=C8 hb;dsimp only;rw [hr];exact ⟨_,_,Ry (by omega),_,o.QC (i:=d.r.toNat - 1) (by omega) (by simp),d.c,by rw [l.au];rfl,by simp [under,hb],k⟩
def fU (l:List B4) (dev:List UInt8):List aJ:=(l.filter fun t=>t.dev==dev).map B4.dot
theorem Xh {s:AS} {m:lT} (h:zV s m) (D:m.ev.to.length<=2 ^ 29) (dev:List UInt8):aa Tryz.prog y8 [.agg (ie m),.str dev] s fun r s'=>aV aI 2 [] s s' r (fU m.ev.to dev):=by
 refine aa.pre fun k=>OG _ _ _ _ ⟨dW m,aj.intro k rfl fun l1 s2 d=>?_⟩;have h2:=h.ext d.ext;refine ⟨m.tv,by rw [d.own.at.au,qa],_,h2.2.cJ eX _,fun m' vs s'=>∃ (i:Nat) (v:AV),vs=[v,.int .i64 (i:Nat)]/\i<=m.ev.to.length/\m'=m.ev.to.length - i/\aG s'/\aV aI 2 [] s s' v (fU (m.ev.to.take i) dev),m.ev.to.length,⟨0,_,rfl,by omega,rfl,d.wf,aV.start d.ext.mut⟩,?_⟩;rintro m' n F p ⟨i,v,hi,G,rfl,e,c⟩;simp only [List.cons.injEq,AV.int.injEq,true_and,and_true] at hi;obtain ⟨rfl,rfl⟩:=hi;refine af.dec (fun w=>?_) (fun x=>?_)
 ·obtain ⟨y,j⟩:=cT (l:=m.ev.to) (i:=i) (by omega);obtain ⟨la,o,z,A⟩:=h.2.ix (by decide) dV eX ze j;have ht:m.ev.to.take (i+1)=m.ev.to.take i++[y]:=by rw [List.take_add_one,j];rfl
  have hlen:(fU (m.ev.to.take i) dev).length<=i:=by
   simp only [fU,List.length_map];exact Nat.le_trans (List.length_filter_le _ _) (by rw [List.length_take];omega)
  refine ⟨la,o,z _,_,(A _ c.eC.ext).2,kj e (dV y) rfl (t_ y) fun ku B b=>⟨y.dev,by rw [b.own.at.au];rfl,af.mk (fun hb=>?_) (fun hb=>?_)⟩⟩
  ·refine ⟨_,b.own.at.aC (by rw [dV];omega),?_⟩;rw [show ((rM y).drop 0).take 2=aI y.dot from rfl];refine aV.ji iR bn mW b.wf (c.step b.ext) (by simp) y.dot (by omega) fun v' s' C w' _=>⟨m.ev.to.length - (i+1),by omega,i+1,v',by rw [BI (by omega)],by omega,rfl,w',?_⟩;rw [ht,fU,List.filter_append,List.map_append];simp only [List.filter_cons,hb,if_true,List.filter_nil,List.map_cons,List.map_nil];exact C
  ·refine ⟨m.ev.to.length - (i+1),by omega,i+1,n,by rw [BI (by omega)],by omega,rfl,b.wf,?_⟩;rw [ht,fU,List.filter_append];simp only [List.filter_cons,hb,List.filter_nil,Bool.false_eq_true,if_false,List.append_nil];exact c.step b.ext
 ·rw [List.take_of_length_le (by omega)] at c;exact c
end Go.Proofs.YtohgmogbabkkeaaGreat
end

section
namespace Go.Proofs.YtohgmogbabkkeaaGreat
open Go.Am Go.av Go.aB Go.bE
/-! ### marks of objects -/
def Tag (s:AS) (y g:Nat):Prop:=∃ cs,s.h y=some (.cells cs g false)
theorem Tag.uniq {s:AS} {y a b:Nat} (h:Tag s y a) (c:Tag s y b):a=b:=by
 obtain ⟨cs,h⟩:=h;obtain ⟨cs',c⟩:=c;rw [h] at c;simp only [Option.some.injEq,AO.cells.injEq] at c;exact c.2.1
theorem bq.tag {α:Type} {f:α->List AV} {sz:Nat} {s:AS} {v:AV} {l:List α} (h:bq f sz s v l):∀ y∈ax v,Tag s y sz:=by
 intro y b;rcases h with ⟨_,a,rfl⟩ | ⟨la,rfl,h⟩
 ·simp [ax] at b
 ·obtain rfl:y=la:=by simpa [ax] using b
  exact ⟨_,h⟩
theorem Own.tag {s:AS} {l:Nat} {cs:List AV} (h:Am.Own s l cs):Tag s l 0:=⟨cs,h⟩
theorem Tag.there {s:AS} {y g:Nat} (h:Tag s y g):s.h y≠none:=by
 obtain ⟨cs,h⟩:=h;rw [h];simp
theorem bq.fq {α:Type} {f:α->List AV} {sz:Nat} {s s':AS} {v:AV} {l:List α} {L:List Nat} (h:bq f sz s v l) (m:bz L s s') (b:∀ y∈L,∀ g,Tag s y g->g≠sz):bq f sz s' v l :=
 h.mut m fun y c hm=>b y hm sz (bq.tag h y c) rfl
theorem bq.jT {α:Type} {f:α->List AV} {sz:Nat} {s:AS} {v:AV} {l:List α} (h:bq f sz s v l):∀ y∈ax v,s.h y≠none:=fun y b=>(bq.tag h y b).there
/-! ### events in memory of one's own -/
def kh (F:List Nat) (s:AS) (m:lT):Prop:=bq oT 1 s m.pv m.ev.vn/\bq rM 3 s m.tv m.ev.to/\∀ y,y∈ax m.pv\/y∈ax m.tv->y∈F
theorem kh.at {F:List Nat} {s:AS} {m:lT} (h:kh F s m):zV s m:=⟨h.1.sl bM,h.2.1.sl dV⟩
theorem kh.mut {F:List Nat} {s s':AS} {m:lT} {L:List Nat} (h:kh F s m) (e:bz L s s') (c:∀ y∈L,y ∉ F):kh F s' m :=
 ⟨h.1.mut e fun y b hm=>c y hm (h.2.2 y (.inl b)),h.2.1.mut e fun y b hm=>c y hm (h.2.2 y (.inr b)),h.2.2⟩
theorem kh.ext {F:List Nat} {s s':AS} {m:lT} (h:kh F s m) (e:Ext s s'):kh F s' m:=h.mut (L:=[]) e.mut (by simp)
theorem kh.sub {F F':List Nat} {s:AS} {m:lT} (h:kh F s m) (b:∀ y∈F,y∈F'):kh F' s m:=⟨h.1,h.2.1,fun y c=>b y (h.2.2 y c)⟩
theorem kh.fq {F:List Nat} {s s':AS} {m:lT} {L:List Nat} (h:kh F s m) (e:bz L s s') (c:∀ y∈L,∀ g,Tag s y g->g≠1/\g≠3):kh F s' m :=
 ⟨bq.fq h.1 e fun y b g t=>(c y b g t).1,bq.fq h.2.1 e fun y b g t=>(c y b g t).2,h.2.2⟩
def lT.set (m:lT) (v w:AV) (b:v.one=true) (h2:w.one=true):lT:=⟨m.ev,v,w,m.len,b,h2⟩
theorem U2 (m:lT) (v w:AV) (b:v.one=true) (h2:w.one=true):((ie m).set 3 v).set 20 w=ie (m.set v w b h2):=by
 have c:=m.len;simp only [ie,lT.set];rw [List.set_append,if_pos (by simp),List.set_append,if_neg (by simp)];simp [List.set_append,c]
theorem oJ:Cf T bC iG 21 208:=⟨dA,uR,Ur,⟨_,_,LU,rfl,rfl⟩,by decide,by decide⟩
theorem ig:Cf T br aZ 16 128:=⟨dQ,tJ,Su,⟨_,_,QG,rfl,rfl⟩,by decide,by decide⟩
theorem Rl {s:AS} {v:AV} {l:List B4} (b:Sl rM 3 s v l) (i:l.length<=2 ^ 30):aa Tryz.prog bF [v] s fun r s'=>aV rM 3 [] s s' r l:=by
 refine aa.pre fun j=>qu _ _ _ ?_;have main:aR (dw T bL 0 []) fun k=>aj (.cells k 0 false) s fun l3 s4=>iT (aL T bL bL (.slc (some (l3,0)) 0 0 true) v s4) fun m s6=>aV rM 3 [] s s6 m l:=by
  refine ⟨_,Ay ua,aj.intro j rfl fun l3 s4 F=>?_⟩;refine aV.k_ ua dV t_ F.wf (aV.start (M:=[]) F.ext.mut) (by simp) (b.ext F.ext) (by simpa using i) eX fun v' s' g _ _=>?_;simpa using g
 rcases b with ⟨rfl,_,d⟩ | ⟨a,c,e,rfl,hlen,h3⟩
 ·refine ⟨_,rV eX _ _ _ _,af.no rfl main⟩
 ·refine ⟨_,rU eX _ _ _ _ _ _ _ _,af.mk (fun h=>?_) (fun _=>main)⟩;have:a=none:=by simpa using h
  subst this;have:l=[]:=by
   rcases h3 with h3 | ⟨la,o,C,h,_⟩
   ·exact List.length_eq_zero_iff.1 h3
   ·cases h
  subst this;exact aV.nil
set_option maxRecDepth 20000 in
theorem GS {s:AS} {m:lT} (h:zV s m) (R:m.ev.vn.length<=2 ^ 30) (h2:m.ev.to.length<=2 ^ 30):aa Tryz.prog en [.agg (ie m)] s fun r s'=>∃ (m':lT) (F:List Nat),m'.ev=m.ev/\r=.agg (ie m')/\kh F s' m'/\(∀ y∈F,s.h y=none)/\(∀ y∈F,s'.h y≠none)/\Ext s s':=by
 refine aa.pre fun S=>Ke _ _ _ ⟨dW m,aj.intro S rfl fun l1 s2 w=>aj.intro w.wf rfl fun l3 s4 A=>?_⟩;have D:=w.ext.trans A.ext;have ev:=bf m;have G:=w.own.ext A.ext;have h4:=h.ext D;have d13:l1≠l3:=fun e=>by
  have:=A.no;rw [<- e,w.own] at this;cases this
 refine ⟨fun q _ v s'=>(q=2->aV oT 1 [] s4 s' v m.ev.vn)/\(q=5->aV rM 3 [] s4 s' v m.ev.to),fun q _ v=>v.one=true,fun q _ v s s' e g=>⟨fun I=>(g.1 I).step e,fun I=>(g.2 I).step e⟩,m.pv,by rw [G.at.au];rfl,fun s6 M Y _=>?_,⟨_,m.p1⟩,fun B l=>⟨m.tv,by rw [G.at.au,qa],fun U C W _=>?_,⟨_,m.t1⟩,fun n c gh x J O=>?_⟩⟩
 ·refine (C6 (h4.1.ext M) R).mono ?_;intro v s' g;exact ⟨g.eC.ext,⟨(fun _=>aV.back g M),(fun h=>by cases h)⟩,g.jh.2⟩
 ·refine (Rl (h4.2.ext C) h2).mono ?_;intro v s' g;exact ⟨g.eC.ext,⟨(fun h=>by cases h),(fun _=>aV.back g C)⟩,g.jh.2⟩
 have o:=O.1.1 rfl;have b:=O.2.1.2 rfl;have p:∀ {v:AV} {f:Nat},(∀ la∈ax v,s4.h la=none)->∀ y∈ax v,y ∉ [l1]:=fun h y d hm=>by
  obtain rfl:=List.mem_singleton.1 hm;have:=h y d;rw [G] at this;cases this
 have H:∀ {v:AV} {f:Nat},(∀ la∈ax v,s4.h la=none)->∀ y∈ax v,y ∉ [l3]:=fun h y d hm=>by
  obtain rfl:=List.mem_singleton.1 hm;have:=h y d;rw [A.own] at this;cases this
 refine cS l qJ (bu.own J (G.ext x) (by simp [ev]) fun kT i=>?_);have K:Am.Own kT l1 ((ie m).set 3 B):=i.at;refine cS c Sv (bu.own i.wf K (by simp [ev]) fun eT j=>?_);have L:Am.Own eT l1 (ie (m.set B n l c)):=by
  have:=j.at;rw [fF,U2 m B n l c] at this;exact this
 have z:=bf (m.set B n l c);have X:=((A.own.ext x).mut i.mut (by simpa using Ne.symm d13)).mut j.mut (by simpa using Ne.symm d13);refine ⟨_,L.at.aC (by omega),?_⟩;rw [gT];refine ⟨⟨dW _,by rw [z]⟩,bu.own j.wf X (by rw [z];simp) fun gy k=>?_⟩;have Q:=k.at;rw [dD (by rw [z];simp)] at Q;refine ⟨_,At.aC ⟨_,_,Q⟩ (by omega),m.set B n l c,ax B++ax n,rfl,by rw [gT],⟨?_,?_,fun y d=>List.mem_append.2 d⟩,?_,?_,Ext.wr (Ext.wr (Ext.wr (D.trans x) w.no i.mut) w.no j.mut) (w.ext.none A.no) k.mut⟩
 ·exact ((o.tI.mut i.mut (p (f:=0) o.new)).mut j.mut (p (f:=0) o.new)).mut k.mut (H (f:=0) o.new)
 ·exact ((b.tI.mut i.mut (p (f:=0) b.new)).mut j.mut (p (f:=0) b.new)).mut k.mut (H (f:=0) b.new)
 ·intro y d;rcases List.mem_append.1 d with d | d
  ·exact D.none (o.new y d)
  ·exact D.none (b.new y d)
 ·intro y d;rcases List.mem_append.1 d with d | d
  ·exact bq.jT (((o.tI.mut i.mut (p (f:=0) o.new)).mut j.mut (p (f:=0) o.new)).mut k.mut (H (f:=0) o.new)) y d
  ·exact bq.jT (((b.tI.mut i.mut (p (f:=0) b.new)).mut j.mut (p (f:=0) b.new)).mut k.mut (H (f:=0) b.new)) y d
/-! ### the caster -/
structure gY where
 v:List Int
 log:List Ev
 KS:List (List Int)
 held:aJ->Option Ev
 nh:Nat
def gY.zero:gY:=⟨fo,[],[],fun _=>none,0⟩
structure G9 where
 v:List Int
 len:v.length=16
def rN (m:G9):List AV:=m.v.map (.int .u64)
theorem cN (m:G9):(rN m).length=16:=by simp [rN,m.len]
theorem oU (m:G9):(rN m).all AV.one=true:=cq _ _
def gx (v:List Int) (lg bh hd:AV):List AV:=[.int .i64 3,.int .i64 1]++(v.map (.int .u64)++[lg,bh,hd])
def X9 (m:lT):AV:=.agg (ie m)
structure k7 (F:List Nat) (s:AS) (p:Nat) (c:gY):Prop where
 len:c.v.length=16
 mem:∃ (lg bh:AV) (hm:Nat) (L:List lT) (B:List G9) (es:List (aJ×lT×Nat)) (k:Nat),
  Am.Own s p (gx c.v lg bh (.map (some hm)))/\p∈F/\hm∈F /\
  (bq ie 21 s lg L/\(∀ y∈ax lg,y∈F)/\L.map lT.ev=c.log/\∀ m∈L,kh F s m) /\
  (bq rN 16 s bh B/\(∀ y∈ax bh,y∈F)/\B.map G9.v=c.KS) /\
  dM dK X9 s hm es k false/\(∀ d,(dh es d).map lT.ev=c.held d)/\es.length=c.nh/\∀ e∈es,kh F s e.2.1
section
variable {F F':List Nat} {s s':AS} {p:Nat} {c:gY}
theorem k7.mut {L:List Nat} (h:k7 F s p c) (m:bz L s s') (d:∀ y∈L,y ∉ F):k7 F s' p c:=by
 obtain ⟨l,lg,bh,hm,n,B,es,k,o,h2,h3,⟨a1,a2,a3,a4⟩,⟨r,j,w⟩,z,c2,A,C⟩:=h;exact ⟨l,lg,bh,hm,n,B,es,k,o.mut m (fun b=>d p b h2),h2,h3,⟨a1.mut m (fun y i b=>d y b (a2 y i)),a2,a3,fun x b=>(a4 x b).mut m d⟩,⟨r.mut m (fun y i b=>d y b (j y i)),j,w⟩,z.mut m (fun b=>d hm b h3),c2,A,fun e D=>(C e D).mut m d⟩
theorem k7.ext (h:k7 F s p c) (e:Ext s s'):k7 F s' p c:=h.mut (L:=[]) e.mut (by simp)
end
theorem pK {v:List Int} (h:v.length=16) (lg bh hd:AV):(gx v lg bh hd).length=21:=by simp [gx,h]
theorem KU {v:List Int} (h:v.length=16) (lg bh hd:AV) {i:Nat} (hi:i<16):(gx v lg bh hd)[2+i]? = some (.int .u64 (v.getD i 0)):=by
 rw [gx,List.getElem?_append_right (by simp),List.getElem?_append_left (by simp;omega),List.getElem?_map,List.getElem?_eq_getElem (by simp;omega),List.getD_eq_getElem?_getD];simp [List.getElem?_eq_getElem (show i<v.length by omega)]
theorem zW {v:List Int} (h:v.length=16) (lg bh hd:AV):(gx v lg bh hd)[18]? = some lg/\(gx v lg bh hd)[19]? = some bh/\(gx v lg bh hd)[20]? = some hd:=by
 refine ⟨?_,?_,?_⟩ <;>
 ·rw [gx,List.getElem?_append_right (by simp),List.getElem?_append_right (by simp;omega)];simp [h]
theorem BP {v:List Int} (h:v.length=16) (lg bh hd:AV):((gx v lg bh hd).drop 2).take 16=v.map (.int .u64):=by
 rw [gx,List.drop_append_of_le_length (by simp)];simp [List.take_append_of_le_length,h]
theorem IM {v:List Int} (h:v.length=16) (lg bh hd:AV) {i:Nat} (hi:i<16) (x:Int):(gx v lg bh hd).set (2+i) (.int .u64 x)=gx (v.set i x) lg bh hd:=by
 rw [gx,gx,List.set_append,if_neg (by simp),List.set_append,if_pos (by simp;omega),List.map_set];simp
theorem Rm {v:List Int} (h:v.length=16) (lg bh hd b c:AV):((gx v lg bh hd).set 18 b).set 19 c=gx v b c hd:=by
 simp [gx,List.set_append,h]
theorem IN {t k e:TypeId} (hu:T.cR t=some (.map k e)) (r:Option Nat):je T 100 t (.map r) (.map none)=some r.isNone:=by
 cases r <;> simp [je,hu]
section
variable {F:List Nat} {s:AS} {p:Nat} {c:gY}
theorem x4 (h:k7 F s p c):aa Tryz.prog er [.ptr (some (p,0))] s fun r s'=>r=.bool true/\s'=s:=by
 obtain ⟨b,lg,bh,hm,e,B,es,k,d,_⟩:=h;exact yf _ _ _ ⟨_,iU vB _,af.yes rfl ⟨_,by rw [d.at.au,(zW b lg bh _).2.2],_,IN yJ _,rfl,rfl⟩⟩
theorem U3 (h:k7 F s p c):aa Tryz.prog mE [.ptr (some (p,0))] s fun r s'=>r=.int .i64 (c.log.length:Nat)/\s'=s:=by
 refine A5 _ _ _ ?_;refine aa.use (x4 h) ?_;rintro v s2 ⟨rfl,rfl⟩ _;obtain ⟨b,lg,bh,hm,e,B,es,k,d,_,_,⟨a1,_,a3,_⟩,_⟩:=h;refine ⟨_,rfl,af.no rfl ⟨lg,by rw [d.at.au,(zW b lg bh _).1],_,(a1.sl bf).cJ dA _,?_,rfl⟩⟩;rw [<- a3,List.length_map]
def iK (e:Ev):Bool:=sV e&&decide (e.id.r<=3)&&(e.ke.drop 3).all fun n=>decide (n=0)
set_option maxRecDepth 20000 in
theorem Wv (h:k7 F s p c) {m:lT} (hm:zV s m):aa Tryz.prog mI [.ptr (some (p,0)),.agg (ie m)] s fun r s'=>r=.bool (iK m.ev)/\Ext s s':=by
 have ev:=bf m;refine aa.pre fun S=>A9 _ _ _ _ ⟨dW m,aj.intro S rfl fun l1 s2 G=>⟨_,G.own.at.aC (by omega),?_⟩⟩;rw [gT];refine aa.use (U1 (hm.ext G.ext)) ?_;rintro v4 M ⟨rfl,O⟩ w5;have z:=G.ext.trans O;obtain ⟨hl,lg,bh,vt,L',B,es,k,Q,_⟩:=h.ext z;have A:=(G.own.ext O).at;refine ⟨_,rfl,af.mk (fun hb=>⟨?_,z⟩) (fun hb=>⟨m.ev.id.r,by rw [A.au];rfl,3,by rw [Q.at.au];rfl,af.dec (fun H=>⟨?_,z⟩) (fun H=>⟨m.ev.id.r,by rw [A.au];rfl,?_⟩)⟩)⟩
 ·simp only [Bool.not_eq_true'] at hb;simp [iK,hb]
 ·simp [iK,show ¬ m.ev.id.r<=3 by omega]
 have C:sV m.ev=true:=by simpa using hb
 have b:=C;simp only [sV,Bool.and_eq_true] at b;have I:m.ev.id.may=true:=b.1.1.1.1.1.1;have j:xL m.ev=true:=b.1.1.1.1.2;obtain ⟨hr,D⟩:=C8 I;dsimp only;rw [hr];have U:ag T aZ (.ptr (some (l1,4))) (.int .i64 ((m.ev.id.r.toNat - 1:Nat):Int))=some (.ptr (some (l1,4+(m.ev.id.r.toNat - 1)))):=by
  rw [Ry (by omega)];simp
 have d:(m.ev.ke.drop 3).all (fun n=>decide (n=0))=iK m.ev:=by simp [iK,C,show m.ev.id.r<=3 by omega]
 refine ⟨_,_,U,_,by rw [A.au,BO m D],m.ev.id.c,by rw [A.au];rfl,af.no (bne_eq_false_iff_eq.2 (of_decide_eq_true j)) ⟨3,by rw [Q.at.au];rfl,?_⟩⟩;have W:=m.len;have e:(m.ev.ke.drop 3).length=13:=by rw [List.length_drop];omega
 have J:bg T aZ (.ptr (some (l1,4))) (some (.int .i64 3)) none none=some (.slc (some (l1,7)) 13 13 true):=by
  simp only [bg,wT,jM,Option.bind_some];rfl
 have R:Sl xA 1 M (.slc (some (l1,7)) 13 13 true) (m.ev.ke.drop 3):=by
  have hf:∀ v:List Int,v.flatMap xA=v.map (.int .u64):=fun v=>by
   induction v with
   | nil=>rfl
   | cons x xs X=>rw [List.flatMap_cons,X];rfl
  refine (ct.mk (n:=13) (c:=13) A (by rw [hf,List.length_map,e]) ?_) |> (e ▸ ·);have:=P1 m;rw [hf,List.map_drop,<- this,List.drop_take,List.drop_drop]
 refine ⟨_,J,_,R.cJ jN _,fun m' vs s'=>∃ i:Nat,vs=[.int .i64 (i:Nat)]/\i<=(m.ev.ke.drop 3).length/\m'=(m.ev.ke.drop 3).length - i/\s'=M/\((m.ev.ke.drop 3).take i).all (fun n=>decide (n=0))=true,(m.ev.ke.drop 3).length,⟨0,rfl,by omega,rfl,rfl,rfl⟩,?_⟩;rintro m' n dZ ⟨i,hi,h6,rfl,rfl,w⟩;simp only [List.cons.injEq,AV.int.injEq,true_and,and_true] at hi;subst hi;refine af.dec (fun Y=>?_) (fun Z=>⟨?_,z⟩)
 ·obtain ⟨y,K⟩:=cT (l:=m.ev.ke.drop 3) (i:=i) (by omega);obtain ⟨la,o,h8,h9⟩:=R.ix (by decide) ud jN jM K;refine ⟨la,o,h8 _,y,by simpa [xA] using (h9 _ (Ext.refl _)).1 0 (by decide),af.mk (fun L=>⟨?_,z⟩) (fun L=>⟨(m.ev.ke.drop 3).length - (i+1),by omega,i+1,by rw [BI (by omega)],by omega,rfl,rfl,?_⟩)⟩
  ·rw [<- d];congr 1;symm;rw [List.all_eq_false];exact ⟨y,List.mem_of_getElem? K,by simpa using L⟩
  ·rw [List.take_add_one,K,List.all_append,w];simpa using L
 ·rw [List.take_of_length_le (by omega)] at w;rw [<- d,w]
end
end Go.Proofs.YtohgmogbabkkeaaGreat
end

section
namespace Go.Proofs.YtohgmogbabkkeaaGreat
open Go.Am Go.av Go.aB Go.bE
def xM (p:Nat) (s s':AS):Prop:=∀ l cs g,s.h l=some (.cells cs g false)->g≠21->g≠16->(g=0->l≠p)->s'.h l=some (.cells cs g false)
theorem xM.trans {p:Nat} {a b c:AS} (h:xM p a b) (i:xM p b c):xM p a c:=fun l cs g e d h2 h3=>i l cs g (h l cs g e d h2 h3) d h2 h3
theorem Ext.fq {p:Nat} {a b:AS} (h:Ext a b):xM p a b:=fun l cs g e _ _ _=>h.1 l _ e
theorem bq.P4 {α:Type} {f:α->List AV} {sz p:Nat} {s s':AS} {v:AV} {l:List α} (h:bq f sz s v l) (k:xM p s s') (b:sz≠21) (h2:sz≠16) (h3:sz≠0):bq f sz s' v l:=by
 rcases h with ⟨h,a,rfl⟩ | ⟨la,rfl,h⟩
 ·exact .inl ⟨h,a,rfl⟩
 ·exact .inr ⟨la,rfl,k _ _ _ h b h2 (fun e=>absurd e h3)⟩
def KV (m:lT):List Nat:=ax m.pv++ax m.tv
theorem kh.KV {F:List Nat} {s:AS} {m:lT} (h:kh F s m):∀ y∈KV m,s.h y≠none:=fun y b=>by
 rcases List.mem_append.1 b with b | b
 ·exact bq.jT h.1 y b
 ·exact bq.jT h.2.1 y b
theorem k7.KW {F:List Nat} {s:AS} {p:Nat} {c:gY} (h:k7 F s p c):∃ F0,k7 F0 s p c/\(∀ y∈F0,y∈F)/\(∀ y∈F0,s.h y≠none)/\∀ y∈F0,y≠p->¬ Tag s y 0:=by
 obtain ⟨w,lg,bh,hm,L,B,es,k,r,h2,h3,⟨a1,a2,a3,a4⟩,⟨l,x,z⟩,n,c2,A,i⟩:=h;refine ⟨p::hm::(ax lg++(ax bh++(L.flatMap KV++es.flatMap fun e=>KV e.2.1))),⟨w,lg,bh,hm,L,B,es,k,r,by simp,by simp,⟨a1,fun y b=>by simp [b],a3,fun m hm=>⟨(a4 m hm).1,(a4 m hm).2.1,fun y b=>?_⟩⟩,⟨l,fun y b=>by simp [b],z⟩,n,c2,A,fun e d=>⟨(i e d).1,(i e d).2.1,fun y b=>?_⟩⟩,?_,?_,?_⟩
 ·have:y∈L.flatMap KV:=List.mem_flatMap.2 ⟨m,hm,List.mem_append.2 b⟩;simp [this]
 ·have:y∈es.flatMap fun e=>KV e.2.1:=List.mem_flatMap.2 ⟨e,d,List.mem_append.2 b⟩;simp only [List.mem_cons,List.mem_append,this,or_true]
 ·intro y b;simp only [List.mem_cons,List.mem_append] at b;rcases b with rfl | rfl | b | b | b | b
  ·exact h2
  ·exact h3
  ·exact a2 y b
  ·exact x y b
  ·obtain ⟨m,hm,b⟩:=List.mem_flatMap.1 b;exact (a4 m hm).2.2 y (List.mem_append.1 b)
  ·obtain ⟨e,d,b⟩:=List.mem_flatMap.1 b;exact (i e d).2.2 y (List.mem_append.1 b)
 ·intro y b;simp only [List.mem_cons,List.mem_append] at b;rcases b with rfl | rfl | b | b | b | b
  ·rw [r];simp
  ·rw [n.obj];simp
  ·exact bq.jT a1 y b
  ·exact bq.jT l y b
  ·obtain ⟨m,hm,b⟩:=List.mem_flatMap.1 b;exact (a4 m hm).KV y b
  ·obtain ⟨e,d,b⟩:=List.mem_flatMap.1 b;exact (i e d).KV y b
 ·intro y b o ht;have j:∀ {F:List Nat} {m:lT},kh F s m->y∈KV m->False:=fun h b=>by
   rcases List.mem_append.1 b with b | b
   ·have:=ht.uniq (bq.tag h.1 y b);omega
   ·have:=ht.uniq (bq.tag h.2.1 y b);omega
  simp only [List.mem_cons,List.mem_append] at b;rcases b with rfl | rfl | b | b | b | b
  ·exact o rfl
  ·obtain ⟨cs,ht⟩:=ht;rw [n.obj] at ht;cases ht
  ·have:=ht.uniq (bq.tag a1 y b);omega
  ·have:=ht.uniq (bq.tag l y b);omega
  ·obtain ⟨m,hm,b⟩:=List.mem_flatMap.1 b;exact j (a4 m hm) b
  ·obtain ⟨e,d,b⟩:=List.mem_flatMap.1 b;exact j (i e d) b
theorem k7.tight {F:List Nat} {s:AS} {p:Nat} {c:gY} (h:k7 F s p c):∃ F0,k7 F0 s p c/\(∀ y∈F0,y∈F)/\∀ y∈F0,s.h y≠none:=by
 obtain ⟨F0,b,h2,h3,_⟩:=h.KW;exact ⟨F0,b,h2,h3⟩
theorem Rn (hm:Nat):aS T sL [(0,.int .i64 3),(1,.int .i64 1),(5,.map (some hm))]=some (.agg (gx fo (.slc none 0 0 true) (.slc none 0 0 true) (.map (some hm)))):=by kernel_rfl
theorem U4 (s:AS):aa Tryz.prog y6 [.int .i64 3,.int .i64 1] s fun r s'=>∃ p F,r=.aN [.ptr (some (p,0)),.int .i64 0]/\k7 F s' p gY.zero/\(∀ y∈F,s.h y=none)/\(∀ y∈F,s'.h y≠none)/\Ext s s':=by
 refine aa.pre fun l=>Ot _ _ _ _ ⟨fun vs s'=>vs=[.bool false]/\s'=s,?_,af.no rfl (af.no rfl (af.no rfl ⟨rfl,rfl⟩))⟩;rintro b s3 ⟨hb,rfl⟩;obtain rfl:b=false:=by simpa using hb
 refine af.no rfl (aj.intro l rfl fun j m c=>⟨_,Rn j,rfl,aj.intro c.wf rfl fun k s8 e=>⟨k,[k,j],rfl,⟨rfl,_,_,j,[],[],[],0,e.own,by simp,by simp,⟨bq.nil,by simp [ax],rfl,by simp⟩,⟨bq.nil,by simp [ax],rfl⟩,dM.new (e.ext.1 _ _ c.at),fun d=>rfl,rfl,by simp⟩,?_,?_,c.ext.trans e.ext⟩⟩)
 ·intro y i;simp only [List.mem_cons,List.not_mem_nil,or_false] at i;rcases i with rfl | rfl
  ·exact c.ext.none e.no
  ·exact c.no
 ·intro y i;simp only [List.mem_cons,List.not_mem_nil,or_false] at i;rcases i with rfl | rfl
  ·rw [e.at];simp
  ·rw [e.ext.1 _ _ c.at];simp
theorem bq.GU {α:Type} {f:α->List AV} {sz:Nat} (hf:∀ x,(f x).length=sz) (e:0<sz) {s:AS} {v v':AV} {l l':List α} (h:bq f sz s v l) (c:bq f sz s v' l') (i:l.length≠l'.length):∀ y∈ax v,y ∉ ax v':=by
 intro y d b;rcases h with ⟨_,a,rfl⟩ | ⟨la,rfl,h⟩
 ·simp [ax] at d
 rcases c with ⟨_,a,rfl⟩ | ⟨lb,rfl,c⟩
 ·simp [ax] at b
 simp only [ax,List.mem_singleton] at d b;subst d;subst b;rw [h] at c;simp only [Option.some.injEq,AO.cells.injEq] at c;have:=congrArg List.length c.1;rw [ek hf,ek hf] at this;exact i (Nat.eq_of_mul_eq_mul_right e this)
theorem bq.one {α:Type} {f:α->List AV} {sz:Nat} {s:AS} {v:AV} {l:List α} (h:bq f sz s v l):v.one=true:=by
 rcases h with ⟨_,a,rfl⟩ | ⟨la,rfl,_⟩ <;> rfl
def gY.apply (c:gY) (e:Ev):gY:={ c with
 v:=c.v.set (e.id.r.toNat - 1) (IntKind.wrap .u64 (c.v.getD (e.id.r.toNat - 1) 0+1))
 log:=c.log++[e]
 KS:=c.KS++[c.v.set (e.id.r.toNat - 1) (IntKind.wrap .u64 (c.v.getD (e.id.r.toNat - 1) 0+1))] }
theorem C9 {α:Type} {f:α->List AV} {sz:Nat} (hf:∀ x,(f x).length=sz) {s:AS} {l:Nat} {x:α} (h:At s l (f x)):Sl f sz s (.slc (some (l,0)) 1 1 true) [x] :=
 ct.mk h (by simp [hf]) (by simp [List.take_of_length_le,hf])
set_option maxRecDepth 20000 in
theorem Tu {F G:List Nat} {s:AS} {p:Nat} {c:gY} {m:lT} (h:k7 F s p c) (hm:kh G s m) (a':m.ev.id.may=true) (hn:c.log.length+1<=2 ^ 29) (cc:c.KS.length+1<=2 ^ 29) :
  aa Tryz.prog kD [.ptr (some (p,0)),.agg (ie m)] s fun r s'=>r=.aN []/\∃ F',k7 F' s' p (c.apply m.ev)/\bz F s s'/\(∀ y∈F',y∈F\/y∈G\/s.h y=none)/\(∀ y∈F',s'.h y≠none)/\xM p s s':=by
 have ev:=bf m;refine aa.pre fun hw=>yj _ _ _ _ ⟨dW m,aj.intro hw rfl fun l1 s2 U=>⟨m.ev.id.r,by rw [U.own.at.au];rfl,?_⟩⟩;obtain ⟨D,lg,bh,vt,L,B,es,k,W,h2,h3,⟨a1,a2,a3,a4⟩,⟨b1,b2,b3⟩,c1,c2,c3,c4⟩:=id h;obtain ⟨hr,z⟩:=C8 a';have cd:L.length=c.log.length:=by rw [<- a3,List.length_map]
 have ce:B.length=c.KS.length:=by rw [<- b3,List.length_map]
 dsimp only;rw [hr];generalize hi:m.ev.id.r.toNat - 1=i at z ⊢;have o2:=W.ext U.ext;have n:ag T aZ (.ptr (some (p,0+2))) (.int .i64 ((i:Nat):Int))=some (.ptr (some (p,2+i))):=by
  rw [Ry (by omega)];simp
 have ba:=pK D lg bh (.map (some vt));refine ⟨_,_,n,_,by rw [o2.at.au,KU D lg bh _ z],_,_,n,bu.own U.wf o2 (by rw [ba];simp;omega) fun bW K=>?_⟩;generalize oM:c.v.set i (IntKind.wrap .u64 (c.v.getD i 0+1))=v';have A:v'.length=16:=by rw [<- oM,List.length_set,D]
 have j:Am.Own bW p (gx v' lg bh (.map (some vt))):=by
  have:=K.at;rw [fF,IM D lg bh _ z,oM] at this;exact this
 have C:=pK A lg bh (.map (some vt));have H:bz [p] s bW:=U.ext.mut.trans K.mut;have d1:l1≠p:=fun e=>by
  have:=U.no;rw [e,W] at this;cases this
 have Z:Am.Own bW l1 (ie m):=U.own.mut K.mut (by simpa using d1);have t0:∀ y∈[p],∀ g,Tag s y g->g=0:=fun y d g t=>by
  obtain rfl:=List.mem_singleton.1 d;exact t.uniq (Own.tag W)
 have ab:bq ie 21 bW lg L:=bq.fq a1 H fun y d g t=>by rw [t0 y d g t];decide
 have ad:bq rN 16 bW bh B:=bq.fq b1 H fun y d g t=>by rw [t0 y d g t];decide
 have ta:=bq.tag ab;have tb:=bq.tag ad;have tL:∀ y∈ax lg++ax bh,∃ g,Tag bW y g/\(g=21\/g=16):=fun y d=>by
  rcases List.mem_append.1 d with d | d
  ·exact ⟨21,ta y d,.inl rfl⟩
  ·exact ⟨16,tb y d,.inr rfl⟩
 have hs:=zW A lg bh (.map (some vt))
 let Y:G9:=⟨v',A⟩
 refine ⟨fun a b=>(∀ l cs,Am.Own a l cs->Am.Own b l cs)/\(∀ v,bq ie 21 a v (L++[m])->bq ie 21 b v (L++[m]))/\bz (ax lg++ax bh) a b,fun q _ v s'=>(q=8->bq rN 16 s' bh B)/\(q=18->bq rN 16 s' v (B++[Y])),fun s'=>bq ie 21 s' lg L/\bq rN 16 s' bh B,
  fun q _ v s'=>(q=7->∃ l,v=.slc (some (l,0)) 1 1 true/\Am.Own s' l (ie m))/\(q=8->bq ie 21 s' v (L++[m])/\∀ y∈ax v,y∈ax lg++ax bh\/bW.h y=none)/\(q=17->∃ l,v=.slc (some (l,0)) 1 1 true/\Am.Own s' l (rN Y))/\(q=18->∀ y∈ax v,y∈ax lg++ax bh\/bW.h y=none),
  fun q _ v=>(q=8\/q=18->v.one=true),fun a b e=>⟨fun l cs o=>o.ext e,fun v g=>g.ext e,e.mut⟩,fun a b c x y=>⟨fun l cs o=>y.1 l cs (x.1 l cs o),fun v g=>y.2.1 v (x.2.1 v g),x.2.2.trans y.2.2⟩,fun q _ v a b e g=>⟨fun w=>(g.1 w).ext e,fun w=>(g.2 w).ext e⟩,?_,fun a b e g=>⟨g.1.ext e,g.2.ext e⟩,⟨ab,ad⟩,?_⟩
 ·rintro q ks v a b ⟨x1,x2,_⟩ ⟨M,g2,g3,g4⟩;refine ⟨fun w=>?_,fun w=>⟨x2 v (g2 w).1,(g2 w).2⟩,fun w=>?_,g4⟩
  ·obtain ⟨l,e,O⟩:=M w;exact ⟨l,e,x1 _ _ O⟩
  ·obtain ⟨l,e,O⟩:=g3 w;exact ⟨l,e,x1 _ _ O⟩
 have ae:∀ s',Am.Own s' p (gx v' lg bh (.map (some vt)))->au s' p (0+18)=some lg:=fun s' o=>by rw [o.at.au];exact hs.1
 have al:∀ s',Am.Own s' p (gx v' lg bh (.map (some vt)))->au s' p (0+19)=some bh:=fun s' o=>by rw [o.at.au];exact hs.2.1
 have rl:∀ s',Am.Own s' l1 (ie m)->aC s' l1 0 21=some (ie m):=fun s' o=>by rw [o.at.aC (by omega),gT]
 have rv:∀ s',Am.Own s' p (gx v' lg bh (.map (some vt)))->aC s' p (0+2) 16=some (rN Y):=fun s' o=>by rw [o.at.aC (by rw [C];omega),BP A];rfl
 have new:∀ {s':AS} {y:Nat},bz (ax lg++ax bh) bW s'->s'.h y=none->y∈ax lg++ax bh\/bW.h y=none:=fun {s' y} mm hn=>by
  by_cases d:y∈ax lg++ax bh
  ·exact .inl d
  ·right;cases w:bW.h y with
   | none=>rfl
   | some o=>rw [mm.1 y o d w] at hn;cases hn
 refine ⟨fun s' _ _=>rfl,_,ae _ j,fun s' x _=>⟨_,ae _ (x.1 _ _ j),rfl⟩,_,rl _ Z,fun s' x _=>⟨_,rl _ (x.1 _ _ Z),rfl⟩,fun dZ cf bb _=>⟨_,kL oJ (bf m) (dW m),aj.intro bb rfl fun bc ch am=>⟨am.ext,⟨(fun _=>⟨bc,rfl,am.own⟩),(fun h=>by cases h),(fun h=>by cases h),(fun h=>by cases h)⟩,(fun h=>by rcases h with h | h <;> cases h)⟩⟩,⟨.bad,(fun h=>by rcases h with h | h <;> cases h)⟩,fun ci _=>⟨fun ck bd be hS hc=>?_,⟨.nilFunc,fun _=>rfl⟩,fun I an=>⟨fun s' _ _=>rfl,_,al _ j,fun s' x _=>⟨_,al _ (x.1 _ _ j),rfl⟩,fun s' _ _=>rfl,_,rv _ j,fun s' x _=>⟨_,rv _ (x.1 _ _ j),rfl⟩,fun cl cm bi _=>⟨_,kL ig (cN Y) (oU Y),aj.intro bi rfl fun bj G8 ao=>⟨ao.ext,⟨(fun h=>by cases h),(fun h=>by cases h),(fun _=>⟨bj,rfl,ao.own⟩),(fun h=>by cases h)⟩,(fun h=>by rcases h with h | h <;> cases h)⟩⟩,⟨.bad,(fun h=>by rcases h with h | h <;> cases h)⟩,fun cn _=>⟨fun cp bk bl hS hc=>?_,⟨.nilFunc,fun _=>rfl⟩,fun Q ar=>⟨fun s' _ _=>rfl,fun aw a0 bm hS hC=>?_⟩⟩⟩⟩⟩
 ·obtain ⟨l,rfl,O⟩:=hS.1.1 rfl;obtain ⟨ga,gb⟩:=hc;obtain ⟨v',s',e1,M,J,_,n1⟩:=bq.append oJ bf dW be ga (C9 bf O.at) (by simp;omega) dA;have t1:=bq.tag ga;refine ⟨v',s',e1,⟨⟨fun l cs o=>o.mut J fun d=>?_,fun v g=>g.mut J (bq.GU bf (by decide) g ga (by simp)),J.mono fun y d=>List.mem_append_left _ d⟩,(fun _=>gb.mut J fun y d n=>?_),(fun h=>by cases h)⟩,⟨(fun h=>by cases h),(fun _=>⟨M,fun y d=>?_⟩),(fun h=>by cases h),(fun h=>by cases h)⟩,fun _=>bq.one M⟩
  ·have:=(t1 _ d).uniq (Own.tag o);omega
  ·have:=(t1 _ n).uniq (bq.tag gb y d);omega
  ·rcases n1 y d with h | h
   ·exact .inl (List.mem_append_left _ h)
   ·exact new bd.2.2 h
 ·obtain ⟨l,rfl,O⟩:=hS.2.2.1.2.2.1 rfl;have gb:=hc.1 rfl;obtain ⟨v',s',e1,M,J,_,n1⟩:=bq.append ig cN oU bl gb (C9 cN O.at) (by simp;omega) dQ;have t1:=bq.tag gb;refine ⟨v',s',e1,⟨⟨fun l cs o=>o.mut J fun d=>?_,fun v g=>g.mut J fun y d n=>?_,J.mono fun y d=>List.mem_append_right _ d⟩,(fun h=>by cases h),(fun _=>M)⟩,⟨(fun h=>by cases h),(fun h=>by cases h),(fun h=>by cases h),(fun _ y d=>?_)⟩,fun _=>bq.one M⟩
  ·have:=(t1 _ d).uniq (Own.tag o);omega
  ·have:=(t1 _ n).uniq (bq.tag g y d);omega
  ·rcases n1 y d with h | h
   ·exact .inl (List.mem_append_right _ h)
   ·exact new bk.2.2 h
 ·obtain ⟨_,⟨_,h8,_⟩,_,⟨_,_,_,bo⟩,_⟩:=hS;obtain ⟨bs,bx⟩:=h8 rfl;have b0:=bo rfl;have b4:=hC.2 rfl;have a5:=a0.1 _ _ j;refine cS (an (.inl rfl)) xW (bu.own bm a5 (by simp [C]) fun b5 R=>?_);have b6:Am.Own b5 p ((gx v' lg bh (.map (some vt))).set 18 I):=R.at;refine cS (ar (.inr rfl)) q9 (bu.own R.wf b6 (by simp [C]) fun PF a6=>⟨rfl,?_⟩);have b7:Am.Own PF p (gx v' I Q (.map (some vt))):=by
   have:=a6.at;rw [fF,Rm A] at this;exact this
  have S:bz [p] aw PF:=R.mut.trans a6.mut;have t64:∀ y∈[p],∀ g,Tag aw y g->g=0:=fun y d g t=>by
   obtain rfl:=List.mem_singleton.1 d;exact t.uniq (Own.tag a5)
  have MA:bz (p::(ax lg++ax bh)) s PF:=((H.mono (by simp)).trans (a0.2.2.mono (fun y d=>List.mem_cons_of_mem _ d))).trans (S.mono (by simp));have tA:∀ y∈p::(ax lg++ax bh),∀ g,Tag s y g->g=0\/g=21\/g=16:=fun y d g t=>by
   rcases List.mem_cons.1 d with rfl | d
   ·exact .inl (t.uniq (Own.tag W))
   ·rcases List.mem_append.1 d with d | d
    ·exact .inr (.inl (t.uniq (bq.tag a1 y d)))
    ·exact .inr (.inr (t.uniq (bq.tag b1 y d)))
  have kE:∀ {X:List Nat} {x:lT},kh X s x->kh X PF x:=fun n=>n.fq MA fun y d g t=>by rcases tA y d g t with h | h | h <;> omega
  have a7:∀ y,y∈ax lg++ax bh\/bW.h y=none->y∈F\/s.h y=none:=fun y d=>by
   rcases d with d | d
   ·rcases List.mem_append.1 d with d | d
    ·exact .inl (a2 y d)
    ·exact .inl (b2 y d)
   ·right;cases w:s.h y with
    | none=>rfl
    | some o =>
     by_cases a8:y=p
     ·subst a8;rw [j] at d;cases d
     ·rw [H.1 y o (by simpa using a8) w] at d;cases d
  have b8:k7 (ax I++(ax Q++(F++G))) PF p (c.apply m.ev):=by
   refine ⟨by simp [gY.apply,D],I,Q,vt,L++[m],B++[Y],es,k,?_,by simp [h2],by simp [h3],⟨bq.fq bs S fun y d g t=>by rw [t64 y d g t];decide,fun y d=>by simp [d],by simp [gY.apply,a3],fun x n=>?_⟩,⟨bq.fq b4 S fun y d g t=>by rw [t64 y d g t];decide,fun y d=>by simp [d],?_⟩,c1.mut MA ?_,c2,c3,fun e he=>(kE (c4 e he)).sub fun y d=>by simp [d]⟩
   ·simp only [gY.apply,hi,oM];exact b7
   ·rcases List.mem_append.1 n with n | n
    ·exact (kE (a4 x n)).sub fun y d=>by simp [d]
    ·obtain rfl:=List.mem_singleton.1 n;exact (kE hm).sub fun y d=>by simp [d]
   ·simp only [gY.apply,hi,oM,List.map_append,b3];rfl
   ·intro d;have:∀ g,¬ Tag s vt g:=fun g ⟨cs,t⟩=>by rw [c1.obj] at t;cases t
    rcases List.mem_cons.1 d with rfl | d
    ·exact this _ (Own.tag W)
    ·rcases List.mem_append.1 d with d | d
     ·exact this _ (bq.tag a1 _ d)
     ·exact this _ (bq.tag b1 _ d)
  obtain ⟨F0,b9,a9,b'⟩:=b8.tight;refine ⟨F0,b9,MA.mono fun y d=>?_,fun y d=>?_,b',fun l cs g D ca cb g0=>MA.1 l _ (fun hm=>?_) D⟩
  rotate_right
  ·rcases List.mem_cons.1 hm with rfl | hm
   ·exact g0 (Tag.uniq ⟨cs,D⟩ (Own.tag W)) rfl
   ·rcases List.mem_append.1 hm with hm | hm
    ·exact ca (Tag.uniq ⟨cs,D⟩ (bq.tag a1 _ hm))
    ·exact cb (Tag.uniq ⟨cs,D⟩ (bq.tag b1 _ hm))
  ·rcases List.mem_cons.1 d with rfl | d
   ·exact h2
   ·rcases List.mem_append.1 d with d | d
    ·exact a2 y d
    ·exact b2 y d
  ·have:=a9 y d;simp only [List.mem_append] at this;rcases this with h | h | h | h
   ·rcases a7 y (bx y h) with h | h
    ·exact .inl h
    ·exact .inr (.inr h)
   ·rcases a7 y (b0 y h) with h | h
    ·exact .inl h
    ·exact .inr (.inr h)
   ·exact .inl h
   ·exact .inr (.inl h)
end Go.Proofs.YtohgmogbabkkeaaGreat
end

section
namespace Go.Proofs.YtohgmogbabkkeaaGreat
open Go.Am Go.av Go.aB Go.bE
theorem Tv {v:List Int} (h:v.length=16):∃ a b c d e f g i j k l m n o p q:Int,v=[a,b,c,d,e,f,g,i,j,k,l,m,n,o,p,q]:=by
 match v,h with
 | [a,b,c,d,e,f,g,i,j,k,l,m,n,o,p,q],_=>exact ⟨a,b,c,d,e,f,g,i,j,k,l,m,n,o,p,q,rfl⟩
theorem Ng {id:aJ} {cQ:List UInt8} {pv tv:AV} {ke:List Int} (x:ke.length=16) (y:pv.one=true) (h2:tv.one=true):aS T iG [(0,.agg (aI id)),(1,.str cQ),(2,pv),(3,.agg (ke.map (.int .u64))),(4,tv)]=some (.agg ([.int .i64 id.r,.int .u64 id.c,.str cQ,pv]++(ke.map (.int .u64)++[tv]))):=by
 obtain ⟨a,b,c,d,e,f,g,i,j,k,l,m,n,o,p,q,rfl⟩:=Tv x;have e1:∀ v:AV,v.one=true->bO v=some [v]:=fun v hv=>by cases v <;> first | rfl | cases hv
 rw [qI (pl:=[(0,2),(2,1),(3,1),(4,16),(20,1)]) (by kernel_rfl) LU rfl];have z:bO (.agg (aI id))=some [.int .i64 id.r,.int .u64 id.c]:=rfl;have A:bO (.str cQ)=some [.str cQ]:=rfl;have w:bO (.agg ([a,b,c,d,e,f,g,i,j,k,l,m,n,o,p,q].map (AV.int .u64)))=some ([a,b,c,d,e,f,g,i,j,k,l,m,n,o,p,q].map (AV.int .u64)):=rfl;simp only [List.map_cons,List.map_nil] at w ⊢;simp only [jt,AV.cells,e1 _ y,e1 _ h2,z,A,w,List.getElem?_cons_zero,List.getElem?_cons_succ,List.length_cons,List.length_nil,List.length_map,Nat.zero_add,Nat.reduceAdd,Nat.reduceLeDiff,and_self,if_true,qC,List.set_cons_zero,List.set_cons_succ,List.map_cons,List.map_nil,Option.map_some,List.cons_append,List.nil_append]
def K3:List AV:=[.int .i64 0,.int .u64 0,.str [],.slc none 0 0 true,.int .u64 0,.int .u64 0,.int .u64 0,.int .u64 0,.int .u64 0,.int .u64 0,.int .u64 0,.int .u64 0,.int .u64 0,.int .u64 0,.int .u64 0,.int .u64 0,.int .u64 0,.int .u64 0,.int .u64 0,.int .u64 0,.slc none 0 0 true]
theorem IP:aS T iG []=some (.agg K3):=by kernel_rfl
theorem GV {s4 s7:AS} {l1:Nat} {g C:List AV} (c:g.length=21) (d:C.length=21) (P:Vm s4 s7 l1 (.cells (qC C 0 g) 0 false)):Am.Own s7 l1 g/\aC s7 l1 0 21=some g:=by
 have b:=P.at;rw [dD (by omega)] at b;exact ⟨b,by rw [At.aC ⟨_,_,b⟩ (by omega),List.drop_zero,List.take_of_length_le (by omega)]⟩
def O3 (c:gY) (cQ:List UInt8) (vn:List Int) (to:List B4):Ev:=⟨⟨1,IntKind.wrap .u64 (c.v.getD 0 0+1)⟩,cQ,vn,c.v,to⟩
set_option maxRecDepth 20000 in
theorem O4 {F:List Nat} {s:AS} {p:Nat} {c:gY} (h:k7 F s p c) (a3:∀ y∈F,s.h y≠none) {cQ:List UInt8} {pv tv:AV} {vn:List Int} {to:List B4} (gp:bq oT 1 s pv vn) (gt:bq rM 3 s tv to) (a4:0<=c.v.getD 0 0/\c.v.getD 0 0<4611686018427387904) (hn:c.log.length+1<=2 ^ 29) (a5:c.KS.length+1<=2 ^ 29) :
  aa Tryz.prog bN [.ptr (some (p,0)),.str cQ,pv,tv] s fun r s' =>
   (iK (O3 c cQ vn to)=false/\(∃ g,r=.aN [.agg g,.int .i64 2]/\g.all AV.one=true/\g.length=21)/\Ext s s') \/
   (iK (O3 c cQ vn to)=true/\(∃ g,r=.aN [.agg g,.int .i64 0]/\g.all AV.one=true/\g.length=21)/\∃ F',k7 F' s' p (c.apply (O3 c cQ vn to))/\bz F s s'/\(∀ y∈F',y∈F\/s.h y=none)/\(∀ y∈F',s'.h y≠none)/\xM p s s'):=by
 have hp:=gp.sl bM;have ht:=gt.sl dV;have h1:=hp.one;have h2:=ht.one;refine aa.pre fun hw=>vS _ _ _ _ _ _ (aj.intro hw rfl fun l1 s2 A=>?_);have o2:Am.Own s2 l1 K3:=A.own;refine aa.use (x4 (h.ext A.ext)) ?_;rintro v3 s4 ⟨rfl,rfl⟩ w4;obtain ⟨X,lg,bh,vt,L,B,es,k,I,_⟩:=id (h.ext A.ext);have a6:=pK X lg bh (.map (some vt))
 let m:lT:=⟨O3 c cQ vn to,pv,tv,X,h1,h2⟩
 have ev:=bf m;have hx:ag T aZ (.ptr (some (p,0+2))) (.int .i64 (IntKind.wrap .i64 (1 - 1)))=some (.ptr (some (p,2+0))):=by
  rw [aX (by omega),Ry (by omega)];rfl
 refine ⟨_,rfl,af.no rfl ⟨fun q _ v s'=>q=24->∃ l,v=.ptr (some (l,0))/\Am.Own s' l K3/\s4.h l=none,fun q _ v=>q=24->∃ l,v=.ptr (some (l,0)),fun q _ v a b e g hq=>by obtain ⟨l,x,y,z⟩:=g hq;exact ⟨l,x,y.ext e,z⟩,1,by rw [I.at.au];rfl,1,by rw [I.at.au];rfl,_,_,hx,_,by rw [I.at.au,KU X lg bh _ (by omega)],_,zD _ _,_,I.at.aC (by rw [a6];omega),?_⟩⟩;rw [BP X];refine ⟨_,Ng X h1 h2,fun dZ a7 a8 _=>aj.intro a8 rfl fun Y bo R=>⟨R.ext,(fun _=>⟨Y,rfl,R.own,a7.none R.no⟩),(fun _=>⟨Y,rfl⟩)⟩,⟨.ptr (some (0,0)),fun _=>⟨0,rfl⟩⟩,fun bs Z=>?_⟩;obtain ⟨l,rfl⟩:=Z rfl;refine ⟨_,rfl,fun bx ab a9 hS=>?_⟩;obtain ⟨l',ad,a',J⟩:=hS.1 rfl;simp only [AV.ptr.injEq,Option.some.injEq,Prod.mk.injEq,and_true] at ad;subst ad;refine ⟨⟨dW m,congrArg some ev.symm⟩,bu.own a9 a' (vs:=ie m) (by rw [ev];exact Nat.le_refl _) fun kH S=>?_⟩;have U:Am.Own kH l (ie m):=by
  have:=S.at;rw [dD (by rw [show K3.length=21 from rfl];exact ev)] at this;exact this
 have C:Ext s kH:=Ext.wr (A.ext.trans ab) (A.ext.none J) S.mut;have d1:l1≠l:=fun e=>by rw [<- e,o2] at J;cases J
 have K:Am.Own kH l1 K3:=(o2.ext ab).mut S.mut (by simpa using d1);have ae:IntKind.wrap .u64 (c.v.getD 0 0+1)=c.v.getD 0 0+1:=gJ (by omega);refine ⟨IntKind.wrap .u64 (c.v.getD 0 0+1),by rw [U.at.au];rfl,fun vs s'=>s'=kH,?_,af.no (by rw [decide_eq_false_iff_not,ae];omega) rfl⟩;rintro ba rfl;refine ⟨_,U.at.aC (by omega),?_⟩;rw [gT];have hE:zV ba m:=⟨hp.ext C,ht.ext C⟩;have hC:=h.ext C;refine aa.use (Wv hC hE) ?_;rintro b0 b1 ⟨rfl,d⟩ bb;refine ⟨_,rfl,af.mk (fun hb=>⟨_,IP,?_⟩) (fun hb=>af.no (by rw [decide_eq_false_iff_not,ae];omega) ?_)⟩
 ·have bc:iK (O3 c cQ vn to)=false:=by simpa using hb
  refine ⟨⟨rfl,rfl⟩,bu.own bb (K.ext d) (Nat.le_refl _) fun s7 P=>⟨K3,(GV rfl rfl P).2,.inl ⟨bc,⟨_,rfl,rfl,rfl⟩,Ext.wr (C.trans d) A.no P.mut⟩⟩⟩
 have al:iK (O3 c cQ vn to)=true:=by simpa using hb
 have n:=al;simp only [iK,sV,Bool.and_eq_true,decide_eq_true_eq] at n;have bd:m.ev.id.may=true:=n.1.1.1.1.1.1.1.1;have b2:m.ev.vn.length<=512:=n.1.1.1.1.2;have b3:m.ev.to.length<=1024:=n.1.1.1.2;have am:=C.trans d;have an:=U.ext d;refine ⟨_,an.at.aC (by omega),?_⟩;rw [gT];refine aa.use (GS (hE.ext d) (by omega) (by omega)) ?_;rintro b4 b5 ⟨m',G,ao,rfl,gE,nG,tG,M⟩ b6;have j:=am.trans M;refine ⟨_,rfl,?_⟩;refine aa.use (Tu (h.ext j) gE (by rw [ao];exact bd) hn a5) ?_;rintro b7 O ⟨rfl,F',ar,Q,D,aw,W⟩ b8;rw [ao] at ar;have nF:∀ y,s.h y=none->y ∉ F:=fun y hn i=>a3 y i hn;have a0:s.h l=none:=A.ext.none J;have be:Am.Own O l (ie m):=(an.ext M).mut Q (nF _ a0);have bi:Am.Own O l1 K3:=((K.ext d).ext M).mut Q (nF _ A.no);have a1:zV O m:=⟨(bq.P4 (gp.ext j) W (by decide) (by decide) (by decide)).sl bM,(bq.P4 (gt.ext j) W (by decide) (by decide) (by decide)).sl dV⟩;refine ⟨rfl,_,be.at.aC (by omega),?_⟩;rw [gT];refine aa.use (GS a1 (by omega) (by omega)) ?_;rintro b9 b' ⟨m2,G2,ca,rfl,cb,cc,cd,w⟩ bj;refine ⟨_,rfl,⟨dW m2,by rw [bf]⟩,bu.own bj (bi.ext w) (by rw [bf];exact Nat.le_refl _) fun s7 P=>?_⟩;obtain ⟨_,bk⟩:=GV (bf m2) rfl P;have a2:l1 ∉ F':=fun i=>by
  rcases D l1 i with h | h | h
  ·exact nF _ A.no h
  ·have:=nG l1 h;rw [K.ext d] at this;cases this
  ·rw [(K.ext d).ext M] at h;cases h
 refine ⟨_,bk,.inr ⟨al,⟨_,rfl,dW m2,bf m2⟩,F',(ar.ext w).mut P.mut (fun y i=>by obtain rfl:=List.mem_singleton.1 i;exact a2),?_,?_,?_,fun y cs g i bl bm h0=>?_⟩⟩
 ·refine ⟨fun y o i ho=>?_,Nat.le_trans j.2 (Nat.le_trans Q.2 (Nat.le_trans w.2 (by rw [P.nl];exact Nat.le_refl _)))⟩;have H:y≠l1:=fun e=>by rw [e,A.no] at ho;cases ho
  rw [P.eq y H];exact w.1 _ _ (Q.1 y o i (j.1 _ _ ho))
 ·intro y i;rcases D y i with h | h | h
  ·exact .inl h
  ·exact .inr (am.none (nG y h))
  ·exact .inr (j.none h)
 ·intro y i;have H:y≠l1:=fun e=>a2 (e ▸ i);rw [P.eq y H];cases hq:O.h y with
  | none=>exact absurd hq (aw y i)
  | some ob=>rw [w.1 y ob hq];simp
 ·have H:y≠l1:=fun e=>by rw [e,A.no] at i;cases i
  rw [P.eq y H];exact w.1 _ _ (W y cs g (j.1 _ _ i) bl bm h0)
end Go.Proofs.YtohgmogbabkkeaaGreat
end

section
namespace Go.Proofs.YtohgmogbabkkeaaGreat
open Go.Am Go.av Go.aB Go.bE
theorem Ww {F:List Nat} {s:AS} {p:Nat} {c:gY} (h:k7 F s p c) (hb:c.KS.length=c.log.length) {i:Nat} (hi:i<c.log.length) (hp:∀ e∈c.log,e.vn.length<=2 ^ 30/\e.to.length<=2 ^ 30) (ba:i<=2 ^ 40) :
  aa Tryz.prog nY [.ptr (some (p,0)),.int .i64 (i:Nat)] s fun r s'=>∃ (m:lT) (v:G9) (G:List Nat),c.log[i]? = some m.ev/\c.KS[i]? = some v.v/\r=.aN [.agg (ie m),.agg (rN v),.bool true]/\kh G s' m/\(∀ y∈G,s.h y=none)/\(∀ y∈G,s'.h y≠none)/\Ext s s':=by
 refine aa.pre fun hw=>CF _ _ _ _ (aj.intro hw rfl fun l1 s2 C=>aj.intro C.wf rfl fun l3 s4 J=>?_);have e4:=C.ext.trans J.ext;have o1:Am.Own s4 l1 K3:=C.own.ext J.ext;have o3:Am.Own s4 l3 (fo.map (.int .u64)):=J.own;have d13:l1≠l3:=fun e=>by
  have:=J.no;rw [<- e,C.own] at this;cases this
 obtain ⟨hl,lg,bh,vt,L,B,es,k,h1,h2,h3,⟨a1,a2,a3,a4⟩,⟨b1,b2,b3⟩,c1,c2,c3,c4⟩:=id (h.ext e4);have hs:=zW hl lg bh (.map (some vt));have bb:L.length=c.log.length:=by rw [<- a3,List.length_map]
 have bc:B.length=c.KS.length:=by rw [<- b3,List.length_map]
 have al:l1≠p:=fun e=>by
  obtain ⟨_,_,_,_,_,_,_,_,am,_⟩:=h;have:=C.no;rw [e,am] at this;cases this
 refine ⟨fun vs s'=>vs=[.bool false]/\s'=s4,?_,?_⟩
 ·rintro b s7 ⟨an,rfl⟩;obtain rfl:b=false:=by simpa using an
  obtain ⟨m,hm⟩:=cT (l:=L) (i:=i) (by omega);obtain ⟨v,hv⟩:=cT (l:=B) (i:=i) (by omega);have j:c.log[i]? = some m.ev:=by rw [<- a3,List.getElem?_map,hm];rfl
  have K:c.KS[i]? = some v.v:=by rw [<- b3,List.getElem?_map,hv];rfl
  have ta:=bq.tag a1;have tb:=bq.tag b1;have key:∀ s',bz [l1] s7 s'->Am.Own s' p (gx c.v lg bh (.map (some vt)))/\bq ie 21 s' lg L/\bq rN 16 s' bh B/\zV s' m:=fun s' x=>by
   have t0:∀ y∈[l1],∀ g,Tag s7 y g->g=0:=fun y d g t=>by
    obtain rfl:=List.mem_singleton.1 d;exact t.uniq (Own.tag o1)
   refine ⟨h1.mut x (by simpa using Ne.symm al),bq.fq a1 x fun y d g t=>by rw [t0 y d g t];decide,bq.fq b1 x fun y d g t=>by rw [t0 y d g t];decide,kh.at ((a4 m (List.mem_of_getElem? hm)).fq x fun y d g t=>by rw [t0 y d g t];decide)⟩
  have M0:bz [l1] s7 s7:=bz.refl _ _;obtain ⟨la,oa,k8,k9⟩:=(a1.sl bf).ix (by decide) bf dA uR hm;obtain ⟨lb,ob,m8,m9⟩:=(b1.sl cN).ix (by decide) cN dQ tJ hv;have M:∀ s',bz [l1] s7 s'->aC s' la oa 21=some (ie m):=fun s' x=>by
   obtain ⟨ao,ar,D,H⟩:=((key s' x).2.1.sl bf).ix (by decide) bf dA uR hm;have:=(k8 .i64).symm.trans (D .i64);simp only [Option.some.injEq,AV.ptr.injEq,Prod.mk.injEq] at this;rw [this.1,this.2];exact (H _ (Ext.refl _)).2
  have O:∀ s',bz [l1] s7 s'->aC s' lb ob 16=some (rN v):=fun s' x=>by
   obtain ⟨ao,ar,D,H⟩:=((key s' x).2.2.1.sl cN).ix (by decide) cN dQ tJ hv;have:=(m8 .i64).symm.trans (D .i64);simp only [Option.some.injEq,AV.ptr.injEq,Prod.mk.injEq] at this;rw [this.1,this.2];exact (H _ (Ext.refl _)).2
  have Q:∀ s',bz [l1] s7 s'->au s' p (0+18)=some lg:=fun s' x=>by rw [(key s' x).1.at.au];exact hs.1
  have R:∀ s',bz [l1] s7 s'->au s' p (0+19)=some bh:=fun s' x=>by rw [(key s' x).1.at.au];exact hs.2.1
  have S:=hp m.ev (List.mem_of_getElem? j);refine af.no rfl ⟨fun a b=>bz [l1] a b/\(a.h l1≠none->b.h l1≠none),fun q ks _ s'=>q=15->∃ g cs,ks=[.ptr (some (l1,0)),.agg g]/\Am.Own s' l1 cs/\cs=g,fun s'=>∃ cs,Am.Own s' l1 cs/\cs.length=21/\l1≠l3,fun q _ v s'=>q=7->∃ m' G,v=.agg (ie m')/\kh G s' m'/\(∀ y∈G,s7.h y=none)/\m'.ev=m.ev,fun q _ v=>(q=7->∃ m',v=.agg (ie m'))/\(q=15->v=.aN []),fun a b e=>⟨e.mut,fun hn=>by cases A:a.h l1 with | none=>exact absurd A hn | some o=>rw [e.1 _ _ A];simp⟩,fun a b c x y=>⟨x.1.trans y.1,fun hn=>y.2 (x.2 hn)⟩,fun q ks v a b e g A=>by obtain ⟨g',cs,x,y,z⟩:=g A;exact ⟨g',cs,x,y.ext e,z⟩,fun q _ v a b x g A=>?_,fun a b e g=>by obtain ⟨cs,x,y⟩:=g;exact ⟨cs,x.ext e,y⟩,⟨_,o1,rfl,d13⟩,?_⟩
  ·obtain ⟨m',G,e1,e2,e3,e5⟩:=g A;refine ⟨m',G,e1,e2.mut x.1 fun y d hG=>?_,e3,e5⟩;obtain rfl:=List.mem_singleton.1 d;have:=e3 y hG;rw [o1] at this;cases this
  refine ⟨fun s' _ _=>rfl,_,Q _ M0,fun s' x _=>⟨_,Q _ x.1,rfl⟩,la,oa,k8 _,_,M _ M0,fun s' x _=>⟨_,M _ x.1,rfl⟩,fun aw I bd _=>?_,⟨.agg (ie m),(fun _=>⟨m,rfl⟩),(fun h=>by cases h)⟩,fun be U=>?_⟩
  ·refine (GS (key aw I.1).2.2.2 S.1 S.2).mono ?_;rintro w s' ⟨m',G,a0,rfl,gE,nG,tG,e⟩;refine ⟨_,rfl,e,(fun _=>⟨m',G,rfl,gE,fun y d=>?_,a0⟩),(fun _=>⟨m',rfl⟩),(fun h=>by cases h)⟩;have:=nG y d;cases A:s7.h y with
   | none=>rfl
   | some o =>
    by_cases W:y=l1
    ·subst W;exact absurd this (I.2 (by rw [o1];simp))
    ·rw [I.1.1 y o (by simpa using W) A] at this;cases this
  obtain ⟨m',rfl⟩:=U.1 rfl;refine ⟨_,rfl,fun s' _ _=>rfl,_,R _ M0,fun s' x _=>⟨_,R _ x.1,rfl⟩,lb,ob,m8 _,_,O _ M0,fun s' x _=>⟨_,O _ x.1,rfl⟩,fun tN bi a5 _ hc=>?_,⟨.aN [],(fun h=>by cases h),(fun _=>rfl)⟩,fun bj X=>?_⟩
  ·obtain ⟨cs,oc,a6,_⟩:=hc;refine ⟨⟨dW m',by rw [bf]⟩,bu.own a5 oc (by rw [bf];omega) fun bk P=>?_⟩;obtain ⟨ho,_⟩:=GV (bf m') a6 P;exact ⟨⟨⟨P.mut,fun _=>by rw [ho];simp⟩,(fun _=>⟨_,_,rfl,ho,rfl⟩)⟩,(fun h=>by cases h),(fun h=>by cases h),(fun _=>rfl)⟩
  ·refine ⟨X.2 rfl,fun zf Y a7 hS hC=>?_⟩;obtain ⟨m2,G,e1,gE,nG,a8⟩:=hS.1 rfl;obtain ⟨g',cs,hk,oc,rfl⟩:=hC rfl;simp only [List.cons.injEq,AV.agg.injEq,true_and,and_true] at hk e1;subst hk;have a9:=o3.mut Y.1 (by simpa using Ne.symm d13);have n3:l3 ∉ G:=fun d=>by
    have:=nG _ d;rw [o3] at this;cases this
   refine ⟨⟨oU v,by rw [cN]⟩,bu.own a7 a9 (by rw [cN];simp [fo]) fun a' P=>?_⟩;have hP:=P.at;rw [dD (by rw [cN];simp [fo])] at hP;have Z:=oc.mut P.mut (by simpa using d13);have ab:=gE.mut P.mut (fun y d hG=>by obtain rfl:=List.mem_singleton.1 d;exact n3 hG);have ad:kh (KV m2) a' m2:=⟨ab.1,ab.2.1,fun y d=>List.mem_append.2 d⟩;have ae:=Z.at.aC (o:=0) (n:=21) (by rw [bf];omega);rw [gT] at ae;refine ⟨_,ae,_,by rw [At.aC ⟨_,_,hP⟩ (by rw [cN];omega),List.drop_zero,List.take_of_length_le (by rw [cN];omega)],m2,v,KV m2,by rw [a8];exact j,K,by rw [e1],ad,fun y d=>e4.none (nG y (gE.2.2 y (List.mem_append.1 d))),ad.KV,?_⟩
   ·exact Ext.wr (Ext.Xv e4 (fun y d=>by obtain rfl:=List.mem_singleton.1 d;exact C.no) Y.1) (C.ext.none J.no) P.mut
 ·refine aa.use (x4 (h.ext e4)) ?_;rintro x_ bl ⟨rfl,rfl⟩ bm;refine ⟨_,rfl,af.no rfl (af.no (by rw [decide_eq_false_iff_not];omega) ⟨lg,by rw [h1.at.au];exact hs.1,_,(a1.sl bf).cJ dA _,?_,rfl⟩)⟩;rw [show decide ((i:Int)>=(L.length:Int))=false by rw [decide_eq_false_iff_not];omega]
theorem Ro {s:AS} {m c:Nat} {ro:Bool} {es:List (aJ×lT×Nat)} (hm:dM dK X9 s m es c ro):aa Tryz.prog fL [.map (some m)] s fun v s'=>∃ m',v=.map (some m')/\Ext s s':=by
 refine (wD hT Tryz.func158 (tm:=sJ) (ti:=sG) (tb:=vX) (cl:=uM) (by kernel_rfl) (by kernel_rfl) (by kernel_rfl) (by kernel_rfl) yJ Tryz.func210 KH KI KG KF hm.obj).mono ?_;rintro v s' ⟨m',rfl,F⟩;exact ⟨m',rfl,F.ext⟩
theorem Tw {s:AS} {v:AV} {l:List lT} (h:Sl ie 21 s v l):aa Tryz.prog bp [v] s fun r s'=>r.one=true/\s'=s:=by
 obtain ⟨v',b,h2⟩:=h.head bf dA uR (i:=l.length) (Nat.le_refl _) .i64;exact pX _ _ _ ⟨_,h.cJ dA _,_,h.cJ dA _,_,b,h2.one,rfl⟩
theorem Tx {s:AS} {v:AV} {l:List G9} (h:Sl rN 16 s v l):aa Tryz.prog bt [v] s fun r s'=>r.one=true/\s'=s:=by
 obtain ⟨v',b,h2⟩:=h.head cN dQ tJ (i:=l.length) (Nat.le_refl _) .i64;exact oF _ _ _ ⟨_,h.cJ dQ _,_,h.cJ dQ _,_,b,h2.one,rfl⟩
set_option maxRecDepth 20000 in
theorem Ty {F:List Nat} {s:AS} {p:Nat} {c:gY} (h:k7 F s p c):aa Tryz.prog iA [.ptr (some (p,0))] s fun r s'=>(∃ q,r=.ptr (some q))/\Ext s s':=by
 refine zy _ _ _ ?_;refine aa.use (x4 h) ?_;rintro v s2 ⟨rfl,rfl⟩ w2;obtain ⟨O,lg,bh,vt,L,B,es,k,l,h2,h3,⟨a1,a2,a3,a4⟩,⟨x,b2,b3⟩,R,_⟩:=id h;have b:=pK O lg bh (.map (some vt));have hs:=zW O lg bh (.map (some vt));have m:(gx c.v lg bh (.map (some vt))).all AV.one=true:=by
  have S:=bq.one a1;have U:=bq.one x;rw [gx,List.all_append,List.all_append,cq];simp [S,U]
 refine ⟨_,rfl,af.no rfl ⟨_,by rw [l.at.aC (by omega),List.drop_zero,List.take_of_length_le (by omega)],kj w2 b rfl m fun Q s9 d=>?_⟩⟩;have y:=l.ext d.ext;refine ⟨fun _ _ _ _=>True,fun _ _ v=>v.one=true,fun _ _ _ _ _ _ h=>h,lg,by rw [y.at.au];exact hs.1,fun bW z W _=>?_,⟨_,bq.one a1⟩,fun oC n=>⟨bh,by rw [y.at.au];exact hs.2.1,fun gy A X _=>?_,⟨_,bq.one x⟩,fun C o=>⟨_,by rw [y.at.au];exact hs.2.2,fun Y e Z _=>?_⟩⟩⟩
 ·refine (Tw ((a1.ext (d.ext.trans z)).sl bf)).mono ?_;rintro v s' ⟨l,rfl⟩;exact ⟨Ext.refl _,trivial,l⟩
 ·refine (Tx ((x.ext (d.ext.trans A)).sl cN)).mono ?_;rintro v s' ⟨l,rfl⟩;exact ⟨Ext.refl _,trivial,l⟩
 ·refine aa.use (Ro (R.ext (d.ext.trans e))) ?_;rintro ab ad ⟨m',rfl,w⟩ D;have G:=(d.own.ext e).ext w;refine ⟨_,rfl,cS n xW (bu.own D G (by simp [b]) fun H i=>?_)⟩;have I:Am.Own H Q ((gx c.v lg bh (.map (some vt))).set 18 oC):=i.at;refine cS o q9 (bu.own i.wf I (by simp [b]) fun J j=>?_);have K:Am.Own J Q (((gx c.v lg bh (.map (some vt))).set 18 oC).set 19 C):=j.at;refine bu.own j.wf K (by simp [b]) fun kH M=>⟨⟨_,rfl⟩,Ext.wr (Ext.wr (Ext.wr ((d.ext.trans e).trans w) d.no i.mut) d.no j.mut) d.no M.mut⟩
end Go.Proofs.YtohgmogbabkkeaaGreat
end

section
namespace Go.Proofs.YtohgmogbabkkeaaGreat
open Go.Am Go.av Go.aB Go.bE
theorem P6 (d:aJ) (s:AS):aa Tryz.prog rX [.agg (aI d)] s fun v s'=>v=.bool d.may/\Ext s s':=by
 refine aa.pre fun b=>Mg _ _ _ ⟨rfl,aj.intro b rfl fun l s1 F=>?_⟩;simp only [F.own.at.au,aI,List.getElem?_cons_zero,List.getElem?_cons_succ,go_sem,gB,F.ext,and_true,aJ.may]
 grind
theorem Nh (t:List UInt8) (s:AS):aa Tryz.prog ql [.str t] s fun v s'=>v=.bool (aK t)/\s'=s:=by
 refine JZ _ _ _ ⟨_,kZ t s,af.dec (fun h=>⟨_,kZ t s,?_,rfl⟩) (fun h=>⟨?_,rfl⟩)⟩
 ·congr 1;rw [aK,decide_eq_decide];omega
 ·congr 1;symm;rw [aK,decide_eq_false_iff_not];omega
theorem Tz (a b:aJ) (s:AS):aa Tryz.prog uL [.agg (aI a),.agg (aI b)] s fun v s'=>v=.bool (a.lt b)/\Ext s s':=by
 refine aa.pre fun d=>Ka _ _ _ _ ⟨rfl,aj.intro d rfl fun l s1 F=>⟨rfl,aj.intro F.wf rfl fun i s2 c=>?_⟩⟩;have e:=F.ext.trans c.ext;simp only [(F.own.ext c.ext).at.au,c.own.at.au,aI,List.getElem?_cons_zero,List.getElem?_cons_succ,go_sem,gB,e,and_true,aJ.lt]
 grind
def pJ (l:List Int) (i:Nat):Bool:=decide (l.getD i 0<=4611686018427387904)&&(decide (i<3)||decide (l.getD i 0=0))
theorem Wx {l:List Int} (h:l.length=16):(List.range 16).all (pJ l)=(uf l&&(l.drop 3).all fun n=>decide (n=0)):=by
 obtain ⟨a,b,c,d,e,f,g,i,j,k,l,m,n,o,p,q,rfl⟩:=Tv h;rw [Bool.eq_iff_iff];simp [List.range,List.range.loop,pJ,uf]
 grind
structure IQ (hd:AV) (F:List Nat) (s:AS) (p:Nat) (v:List Int) (n:Nat):Prop where
 len:v.length=16
 mem:∃ (lg bh:AV) (L:List lT) (B:List G9),Am.Own s p (gx v lg bh hd)/\p∈F /\
  (bq ie 21 s lg L/\(∀ y∈ax lg,y∈F)/\L.length=n)/\(bq rN 16 s bh B/\(∀ y∈ax bh,y∈F)/\B.length=n)
section
variable {hd:AV} {F F':List Nat} {s s':AS} {p n:Nat} {v:List Int}
theorem IQ.mut {L:List Nat} (h:IQ hd F s p v n) (m:bz L s s') (c:∀ y∈L,y ∉ F):IQ hd F s' p v n:=by
 obtain ⟨i,lg,bh,j,B,k,h2,⟨a1,a2,a3⟩,⟨l,e,o⟩⟩:=h;exact ⟨i,lg,bh,j,B,k.mut m (fun b=>c p b h2),h2,⟨a1.mut m (fun y d b=>c y b (a2 y d)),a2,a3⟩,⟨l.mut m (fun y d b=>c y b (e y d)),e,o⟩⟩
theorem IQ.ext (h:IQ hd F s p v n) (e:Ext s s'):IQ hd F s' p v n:=h.mut (L:=[]) e.mut (by simp)
set_option maxRecDepth 20000 in
theorem U5 (h:IQ hd F s p v n) {m:lT} (hm:zV s m):aa Tryz.prog lI [.ptr (some (p,0)),.agg (ie m)] s fun r s'=>r=.bool (iK m.ev)/\Ext s s':=by
 refine aa.pre fun hw=>zv _ _ _ _ ⟨dW m,aj.intro hw rfl fun l1 s2 F2=>?_⟩;have c2:=F2.own.at;have ev:=bf m;refine ⟨_,c2.aC (by omega),?_⟩;rw [O2];refine aa.use (P6 _ _) ?_;rintro v4 s5 ⟨rfl,e5⟩ w5;have A:=c2.ext e5;have d:=F2.ext.trans e5;obtain ⟨hl,lg,bh,L',B,K,_⟩:=h.ext d;refine ⟨_,rfl,af.mk (fun hb=>⟨?_,d⟩) (fun hb=>⟨m.ev.id.r,by rw [A.au];rfl,3,by rw [K.at.au];rfl,af.dec (fun ab=>⟨?_,d⟩) (fun ab=>⟨m.ev.cQ,by rw [A.au];rfl,?_⟩)⟩)⟩
 ·simp only [Bool.not_eq_true'] at hb;simp [iK,sV,hb]
 ·simp [iK,show ¬ m.ev.id.r<=3 by omega]
 have L:m.ev.id.may=true:=by simpa using hb
 have ad:m.ev.id.r<=3:=by omega
 refine aa.use (Nh _ _) ?_;rintro a7 bW ⟨rfl,rfl⟩ ae;have j:=hm.ext d;refine ⟨_,rfl,af.mk (fun hb=>⟨?_,d⟩) (fun hb=>⟨m.pv,by rw [A.au];rfl,_,j.1.cJ aO _,af.dec (fun M=>⟨?_,d⟩) (fun M=>⟨m.tv,by rw [A.au,qa],_,j.2.cJ eX _,af.dec (fun C=>⟨?_,d⟩) (fun C=>⟨m.ev.id.r,by rw [A.au];rfl,?_⟩)⟩)⟩)⟩
 ·have:aK m.ev.cQ=false:=by simpa using hb
  simp [iK,sV,this]
 ·simp [iK,sV,show ¬ m.ev.vn.length<=512 by omega]
 ·simp [iK,sV,show ¬ m.ev.to.length<=1024 by omega]
 have hn:aK m.ev.cQ=true:=by simpa using hb
 obtain ⟨hr,O⟩:=C8 L;dsimp only;rw [hr];have Z:ag T aZ (.ptr (some (l1,4))) (.int .i64 ((m.ev.id.r.toNat - 1:Nat):Int))=some (.ptr (some (l1,4+(m.ev.id.r.toNat - 1)))):=by
  rw [Ry (by omega)];simp
 refine ⟨_,_,Z,_,by rw [A.au,BO m O],m.ev.id.c,by rw [A.au];rfl,af.mk (fun hb=>⟨?_,d⟩) (fun hb=>?_)⟩
 ·have:xL m.ev=false:=decide_eq_false (bne_iff_ne.1 hb);simp [iK,sV,this]
 have hp:xL m.ev=true:=decide_eq_true (by rw [bne_eq_false_iff_eq] at hb;exact hb);have Q:iK m.ev=((List.range 16).all (pJ m.ev.ke)&&xK m.ev.to):=by
  rw [Wx m.len];simp only [iK,sV,L,hp,hn,ad,show m.ev.vn.length<=512 by omega,show m.ev.to.length<=1024 by omega,decide_true,Bool.true_and,Bool.and_true];cases uf m.ev.ke <;> cases xK m.ev.to <;> simp
 rw [Q];refine ⟨fun vs s'=>vs=[]/\Ext bW s'/\aG s'/\(List.range 16).all (pJ m.ev.ke)=true,?_,?_⟩
 ·rintro dZ ⟨_,al,am,R⟩;rw [R,Bool.true_and];refine ⟨fun m' vs s'=>∃ i:Nat,vs=[.int .i64 (i:Nat)]/\i<=m.ev.to.length/\m'=m.ev.to.length - i/\Ext bW s'/\aG s'/\(List.range i).all (vp m.ev.to)=true,m.ev.to.length,⟨0,rfl,by omega,rfl,al,am,rfl⟩,?_⟩;rintro m' a8 a9 ⟨i,hi,h6,rfl,x,a',z⟩;simp only [List.cons.injEq,AV.int.injEq,true_and,and_true] at hi;subst hi;have S:=A.ext x;refine ⟨m.tv,by rw [S.au,qa],_,(j.2.ext x).cJ eX _,af.dec (fun an=>?_) (fun ao=>?_)⟩
  ·obtain ⟨y,U⟩:=cT (l:=m.ev.to) (i:=i) (by omega);obtain ⟨la,o,h8,h9⟩:=j.2.ix (by decide) dV eX ze U;refine ⟨m.tv,by rw [S.au,qa],la,o,h8 _,aI y.dot,oS (h9 _ x).2 (by omega),?_⟩;have next:∀ {s':AS},Ext bW s'->aG s'->vp m.ev.to i=true->∃ m',m'<m.ev.to.length - i/\∃ k:Nat,[AV.int .i64 (IntKind.wrap .i64 ((i:Int)+1))]=[.int .i64 (k:Nat)]/\k<=m.ev.to.length/\m'=m.ev.to.length - k/\Ext bW s'/\aG s'/\(List.range k).all (vp m.ev.to)=true:=fun e w ht=>by
    refine ⟨m.ev.to.length - (i+1),by omega,i+1,by rw [BI (by omega)],by omega,rfl,e,w,?_⟩;rw [List.range_succ,List.all_append,z];simp [ht]
   have bad:vp m.ev.to i=false->xK m.ev.to=false:=fun D=>by
    rw [xK,List.all_eq_false];exact ⟨i,by simp;omega,by simp [D]⟩
   refine aa.use (P6 _ _) ?_;rintro ba ar ⟨rfl,aw⟩ bb;have b:=x.trans aw;have G:=A.ext b;have W:au ar la (o+2)=some (.str y.dev):=by rw [(h9 _ b).1 2 (by omega)];rfl
   refine ⟨_,rfl,af.mk (fun K=>⟨by rw [bad (by simpa [vp,U] using fun h=>by simp [h] at K)],d.trans b⟩) (fun K=>⟨m.tv,by rw [G.au,qa],la,o,h8 _,y.dev,W,?_⟩)⟩;have H:y.dot.may=true:=by simpa using K
   refine aa.use (Nh _ _) ?_;rintro bc bd ⟨rfl,rfl⟩ a0;refine ⟨_,rfl,af.mk (fun h2=>⟨by rw [bad (by simp only [Bool.not_eq_true'] at h2;simp [vp,U,H,h2])],d.trans b⟩) (fun h2=>af.dec (fun a5=>?_) (fun hz=>?_))⟩
   ·have I:aK y.dev=true:=by simpa using h2
    have a1:i≠0:=by omega
    obtain ⟨u,hu⟩:=cT (l:=m.ev.to) (i:=i - 1) (by omega);obtain ⟨lu,ou,k8,k9⟩:=j.2.ix (by decide) dV eX ze hu;have a2:IntKind.wrap .i64 ((i:Int) - 1)=((i - 1:Nat):Int):=by rw [aX (by omega)];omega
    rw [a2];refine ⟨m.tv,by rw [G.au,qa],lu,ou,k8 _,aI u.dot,oS (k9 _ b).2 (by omega),m.tv,by rw [G.au,qa],la,o,h8 _,aI y.dot,oS (h9 _ b).2 (by omega),?_⟩;refine aa.use (Tz _ _ _) ?_;rintro be bi ⟨rfl,X⟩ a3;have ht:vp m.ev.to i=u.dot.lt y.dot:=by simp [vp,U,H,I,a1,hu]
    refine ⟨_,rfl,af.mk (fun h3=>⟨by rw [bad (by rw [ht];simpa using h3)],d.trans (b.trans X)⟩) (fun h3=>next (b.trans X) a3 (by rw [ht];simpa using h3))⟩
   ·have I:aK y.dev=true:=by simpa using h2
    obtain rfl:i=0:=by omega
    exact next b a0 (by simp [vp,U,H,I])
  ·obtain rfl:i=m.ev.to.length:=by omega
   exact ⟨by rw [xK,z],d.trans x⟩
 ·refine ⟨fun m' vs s'=>∃ i:Nat,vs=[.int .i64 (i:Nat)]/\i<=16/\m'=16 - i/\s'=bW/\(List.range i).all (pJ m.ev.ke)=true,16,⟨0,rfl,by omega,rfl,rfl,rfl⟩,?_⟩;rintro m' bj J ⟨i,hi,h6,rfl,rfl,z⟩;simp only [List.cons.injEq,AV.int.injEq,true_and,and_true] at hi;subst hi;refine af.dec (fun an=>?_) (fun ao=>?_)
  ·have Z:ag T aZ (.ptr (some (l1,4))) (.int .i64 (i:Nat))=some (.ptr (some (l1,4+i))):=by
    rw [Ry (by omega)];simp
   have Y:au J l1 (4+i)=some (.int .u64 (m.ev.ke.getD i 0)):=by rw [A.au,BO m (by omega)]
   have next:pJ m.ev.ke i=true->∃ m',m'<16 - i/\∃ k:Nat,[AV.int .i64 (IntKind.wrap .i64 ((i:Int)+1))]=[.int .i64 (k:Nat)]/\k<=16/\m'=16 - k/\J=J/\(List.range k).all (pJ m.ev.ke)=true:=fun ht=>by
    refine ⟨16 - (i+1),by omega,i+1,by rw [BI (by omega)],by omega,rfl,rfl,?_⟩;rw [List.range_succ,List.all_append,z];simp [ht]
   have bad:pJ m.ev.ke i=false->(List.range 16).all (pJ m.ev.ke)=false:=fun D=>by
    rw [List.all_eq_false];exact ⟨i,by simp;omega,by simp [D]⟩
   refine ⟨_,_,Z,_,Y,af.dec (fun a6=>⟨by rw [bad (by rw [pJ,decide_eq_false (by omega)];rfl)];simp,d⟩) (fun bk=>⟨3,by rw [K.at.au];rfl,af.dec (fun h3=>⟨_,_,Z,_,Y,af.mk (fun a4=>⟨?_,d⟩) (fun he=>next ?_)⟩) (fun h3=>next ?_)⟩)⟩
   ·rw [bad (by rw [pJ,decide_eq_false (show ¬ i<3 by omega),decide_eq_false (bne_iff_ne.1 a4)];simp)];simp
   ·rw [bne_eq_false_iff_eq] at he;rw [pJ,he];simp
   ·rw [pJ,decide_eq_true (show i<3 by omega),decide_eq_true (show m.ev.ke.getD i 0<=4611686018427387904 by omega)];rfl
  ·obtain rfl:i=16:=by omega
   exact ⟨rfl,Ext.refl _,ae,z⟩
end
end Go.Proofs.YtohgmogbabkkeaaGreat
end

section
namespace Go.Proofs.YtohgmogbabkkeaaGreat
open Go.Am Go.av Go.aB Go.bE
theorem TA {v:List Int} (h:v.length=16) (lg bh hd b:AV):(gx v lg bh hd).set 18 b=gx v b bh hd:=by
 simp [gx,List.set_append,h]
theorem TB {v:List Int} (h:v.length=16) (lg bh hd b:AV):(gx v lg bh hd).set 19 b=gx v lg b hd:=by
 simp [gx,List.set_append,h]
section
variable {hd:AV} {F:List Nat} {s:AS} {p n:Nat} {v:List Int}
theorem vq {L:List Nat} {s s':AS} {y:Nat} (d:bz L s s') (b:s'.h y=none):y∈L\/s.h y=none:=by
 by_cases c:y∈L
 ·exact .inl c
 ·right;cases e:s.h y with
  | none=>rfl
  | some o=>rw [d.1 y o c e] at b;cases b
set_option maxRecDepth 20000 in
theorem Rp {m:lT} (h:IQ hd F s p v n) (a7:m.ev.id.may=true) (hn:n+1<=2 ^ 29) :
  aa Tryz.prog jE [.ptr (some (p,0)),.agg (ie m)] s fun r s'=>r=.aN []/\∃ F',IQ hd F' s' p (v.set (m.ev.id.r.toNat - 1) (IntKind.wrap .u64 (v.getD (m.ev.id.r.toNat - 1) 0+1))) (n+1)/\bz F s s'/\(∀ y∈F',y∈F\/s.h y=none)/\(∀ y∈F',s'.h y≠none)/\xM p s s':=by
 have ev:=bf m;refine aa.pre fun hw=>xp _ _ _ _ ⟨dW m,aj.intro hw rfl fun l1 s2 Z=>⟨m.ev.id.r,by rw [Z.own.at.au];rfl,?_⟩⟩;obtain ⟨H,lg,bh,L,B,h1,h2,⟨a1,a2,a3⟩,⟨b1,b2,b3⟩⟩:=id h;obtain ⟨hr,w⟩:=C8 a7;dsimp only;rw [hr];generalize hi:m.ev.id.r.toNat - 1=i at w ⊢;have o2:=h1.ext Z.ext;have hx:ag T dz (.ptr (some (p,0+2))) (.int .i64 ((i:Nat):Int))=some (.ptr (some (p,2+i))):=by
  rw [Oh (by omega)];simp
 have a8:=pK H lg bh hd;refine ⟨_,_,hx,_,by rw [o2.at.au,KU H lg bh _ w],_,_,hx,bu.own Z.wf o2 (by rw [a8];simp;omega) fun bW Q=>?_⟩;generalize oM:v.set i (IntKind.wrap .u64 (v.getD i 0+1))=v';have k:v'.length=16:=by rw [<- oM,List.length_set,H]
 have R:Am.Own bW p (gx v' lg bh hd):=by
  have:=Q.at;rw [fF,IM H lg bh _ w,oM] at this;exact this
 have ab:=pK k lg bh hd;have z:bz [p] s bW:=Z.ext.mut.trans Q.mut;have d1:l1≠p:=fun e=>by
  have:=Z.no;rw [e,h1] at this;cases this
 have ad:Am.Own bW l1 (ie m):=Z.own.mut Q.mut (by simpa using d1);have t0:∀ y∈[p],∀ g,Tag s y g->g=0:=fun y d g t=>by
  obtain rfl:=List.mem_singleton.1 d;exact t.uniq (Own.tag h1)
 have ae:bq ie 21 bW lg L:=bq.fq a1 z fun y d g t=>by rw [t0 y d g t];decide
 have a9:bq rN 16 bW bh B:=bq.fq b1 z fun y d g t=>by rw [t0 y d g t];decide
 have hs:=zW k lg bh hd
 let M:G9:=⟨v',k⟩
 have al:∀ s',Am.Own s' p (gx v' lg bh hd)->au s' p (0+18)=some lg:=fun s' o=>by rw [o.at.au];exact hs.1
 have rl:∀ s',Am.Own s' l1 (ie m)->aC s' l1 0 21=some (ie m):=fun s' o=>by rw [o.at.aC (by omega),gT]
 refine ⟨fun a b=>(∀ l cs,Am.Own a l cs->Am.Own b l cs)/\bz (ax lg) a b,fun q _ v s'=>bq ie 21 s' v (L++[m]),fun s'=>bq ie 21 s' lg L,
  fun q _ v s'=>(q=6->∃ l,v=.slc (some (l,0)) 1 1 true/\Am.Own s' l (ie m))/\(q=7->∀ y∈ax v,y∈ax lg\/bW.h y=none),
  fun q _ v=>(q=7->v.one=true),fun a b e=>⟨fun l cs o=>o.ext e,e.mut⟩,fun a b c x y=>⟨fun l cs o=>y.1 l cs (x.1 l cs o),x.2.trans y.2⟩,fun q _ v a b e g=>g.ext e,?_,fun a b e g=>g.ext e,ae,?_⟩
 ·rintro q ks v a b ⟨x1,_⟩ ⟨I,g2⟩;refine ⟨fun hq=>?_,g2⟩;obtain ⟨l,e,S⟩:=I hq;exact ⟨l,e,x1 _ _ S⟩
 refine ⟨fun s' _ _=>rfl,_,al _ R,fun s' x _=>⟨_,al _ (x.1 _ _ R),rfl⟩,_,rl _ ad,fun s' x _=>⟨_,rl _ (x.1 _ _ ad),rfl⟩,fun dZ b' a' _=>⟨_,kL oJ (bf m) (dW m),aj.intro a' rfl fun U ba A=>⟨A.ext,⟨(fun _=>⟨U,rfl,A.own⟩),(fun h=>by cases h)⟩,(fun h=>by cases h)⟩⟩,⟨.bad,(fun h=>by cases h)⟩,fun ca _=>⟨fun cb bb bc W hc=>?_,⟨.nilFunc,fun _=>rfl⟩,fun j am kH J bd W hC=>?_⟩⟩
 ·obtain ⟨l,rfl,S⟩:=W.1.1 rfl;obtain ⟨v',s',e1,I,m1,_,n1⟩:=bq.append oJ bf dW bc hc (C9 bf S.at) (by simp;omega) dA;have t1:=bq.tag hc;refine ⟨v',s',e1,⟨⟨fun l cs o=>o.mut m1 fun d=>?_,m1⟩,I⟩,⟨(fun h=>by cases h),(fun _ y d=>?_)⟩,fun _=>bq.one I⟩
  ·have:=(t1 _ d).uniq (Own.tag o);omega
  ·rcases n1 y d with h | h
   ·exact .inl h
   ·exact vq bb.2 h
 have be:=W.2.1.2 rfl;have bi:bq ie 21 kH j (L++[m]):=hC;have an:=J.1 _ _ R;have bj:bq rN 16 kH bh B:=bq.fq a9 J.2 fun y d g t=>by
  have:=t.uniq (bq.tag ae y d);omega
 refine cS (am rfl) xW (bu.own bd an (by simp [ab]) fun oB C=>?_);have D:Am.Own oB p (gx v' j bh hd):=by
  have:=C.at;rw [fF,Nat.zero_add,TA k] at this;exact this
 have t34:∀ y∈[p],∀ g,Tag kH y g->g=0:=fun y d g t=>by
  obtain rfl:=List.mem_singleton.1 d;exact t.uniq (Own.tag an)
 have bk:bq ie 21 oB j (L++[m]):=bq.fq bi C.mut fun y d g t=>by rw [t34 y d g t];decide
 have ao:bq rN 16 oB bh B:=bq.fq bj C.mut fun y d g t=>by rw [t34 y d g t];decide
 have bl:=zW k j bh hd;have O:=pK k j bh hd;have ar:∀ s',Am.Own s' p (gx v' j bh hd)->au s' p (0+19)=some bh:=fun s' o=>by rw [o.at.au];exact bl.2.1
 have rv:∀ s',Am.Own s' p (gx v' j bh hd)->aC s' p (0+2) 16=some (rN M):=fun s' o=>by rw [o.at.aC (by rw [O];omega),BP k];rfl
 refine ⟨fun a b=>(∀ l cs,Am.Own a l cs->Am.Own b l cs)/\bz (ax bh) a b,fun q _ v s'=>bq rN 16 s' v (B++[M]),fun s'=>bq rN 16 s' bh B,
  fun q _ v s'=>(q=9->∃ l,v=.slc (some (l,0)) 1 1 true/\Am.Own s' l (rN M))/\(q=10->∀ y∈ax v,y∈ax bh\/oB.h y=none),
  fun q _ v=>(q=10->v.one=true),fun a b e=>⟨fun l cs o=>o.ext e,e.mut⟩,fun a b c x y=>⟨fun l cs o=>y.1 l cs (x.1 l cs o),x.2.trans y.2⟩,fun q _ v a b e g=>g.ext e,?_,fun a b e g=>g.ext e,ao,?_⟩
 ·rintro q ks v a b ⟨x1,_⟩ ⟨I,g2⟩;refine ⟨fun hq=>?_,g2⟩;obtain ⟨l,e,S⟩:=I hq;exact ⟨l,e,x1 _ _ S⟩
 refine ⟨fun s' _ _=>rfl,_,ar _ D,fun s' x _=>⟨_,ar _ (x.1 _ _ D),rfl⟩,fun s' _ _=>rfl,_,rv _ D,fun s' x _=>⟨_,rv _ (x.1 _ _ D),rfl⟩,fun cc cd bm _=>⟨_,kL ig (cN M) (oU M),aj.intro bm rfl fun U ba A=>⟨A.ext,⟨(fun _=>⟨U,rfl,A.own⟩),(fun h=>by cases h)⟩,(fun h=>by cases h)⟩⟩,⟨.bad,(fun h=>by cases h)⟩,fun ce _=>⟨fun cf bo bs W hc=>?_,⟨.nilFunc,fun _=>rfl⟩,fun G aw X Y bx W hC=>?_⟩⟩
 ·obtain ⟨l,rfl,S⟩:=W.1.1 rfl;obtain ⟨v',s',e1,I,m1,_,n1⟩:=bq.append ig cN oU bs hc (C9 cN S.at) (by simp;omega) dQ;have t1:=bq.tag hc;refine ⟨v',s',e1,⟨⟨fun l cs o=>o.mut m1 fun d=>?_,m1⟩,I⟩,⟨(fun h=>by cases h),(fun _ y d=>?_)⟩,fun _=>bq.one I⟩
  ·have:=(t1 _ d).uniq (Own.tag o);omega
  ·rcases n1 y d with h | h
   ·exact .inl h
   ·exact vq bo.2 h
 have b0:=W.2.1.2 rfl;have b4:bq rN 16 X G (B++[M]):=hC;have a0:=Y.1 _ _ D;have b5:bq ie 21 X j (L++[m]):=bq.fq bk Y.2 fun y d g t=>by
  have:=t.uniq (bq.tag ao y d);omega
 refine cS (aw rfl) q9 (bu.own bx a0 (by simp [O]) fun Dt K=>⟨rfl,?_⟩);have a4:Am.Own Dt p (gx v' j G hd):=by
  have:=K.at;rw [fF,Nat.zero_add,TB k] at this;exact this
 have t63:∀ y∈[p],∀ g,Tag X y g->g=0:=fun y d g t=>by
  obtain rfl:=List.mem_singleton.1 d;exact t.uniq (Own.tag a0)
 have a5:bq ie 21 Dt j (L++[m]):=bq.fq b5 K.mut fun y d g t=>by rw [t63 y d g t];decide
 have a6:bq rN 16 Dt G (B++[M]):=bq.fq b4 K.mut fun y d g t=>by rw [t63 y d g t];decide
 have MA:bz (p::(ax lg++ax bh)) s Dt:=(((z.mono (by simp)).trans (J.2.mono (fun y d=>List.mem_cons_of_mem _ (List.mem_append_left _ d)))).trans (C.mut.mono (by simp))).trans ((Y.2.mono (fun y d=>List.mem_cons_of_mem _ (List.mem_append_right _ d))).trans (K.mut.mono (by simp)));have b6:∀ y∈p::(ax lg++ax bh),y∈F:=fun y d=>by
  rcases List.mem_cons.1 d with rfl | d
  ·exact h2
  ·rcases List.mem_append.1 d with d | d
   ·exact a2 y d
   ·exact b2 y d
 refine ⟨p::(ax j++ax G),⟨k,j,G,L++[m],B++[M],a4,by simp,⟨a5,fun y d=>by simp [d],by simp [a3]⟩,⟨a6,fun y d=>by simp [d],by simp [b3]⟩⟩,MA.mono b6,fun y d=>?_,fun y d=>?_,fun l cs g H b7 b8 g0=>MA.1 l _ (fun hm=>?_) H⟩
 ·rcases List.mem_cons.1 d with rfl | d
  ·exact .inl h2
  ·rcases List.mem_append.1 d with d | d
   ·rcases be y d with h | h
    ·exact .inl (a2 y h)
    ·rcases vq z h with h | h
     ·obtain rfl:=List.mem_singleton.1 h;exact .inl h2
     ·exact .inr h
   ·rcases b0 y d with h | h
    ·exact .inl (b2 y h)
    ·have b9:bz (p::ax lg) s oB:=((z.mono (by simp)).trans (J.2.mono (fun y d=>List.mem_cons_of_mem _ d))).trans (C.mut.mono (by simp));rcases vq b9 h with h | h
     ·rcases List.mem_cons.1 h with rfl | h
      ·exact .inl h2
      ·exact .inl (a2 y h)
     ·exact .inr h
 ·rcases List.mem_cons.1 d with rfl | d
  ·rw [a4];simp
  ·rcases List.mem_append.1 d with d | d
   ·exact bq.jT a5 y d
   ·exact bq.jT a6 y d
 ·rcases List.mem_cons.1 hm with rfl | hm
  ·exact g0 (Tag.uniq ⟨cs,H⟩ (Own.tag h1)) rfl
  ·rcases List.mem_append.1 hm with hm | hm
   ·exact b7 (Tag.uniq ⟨cs,H⟩ (bq.tag a1 _ hm))
   ·exact b8 (Tag.uniq ⟨cs,H⟩ (bq.tag b1 _ hm))
end
end Go.Proofs.YtohgmogbabkkeaaGreat
end

section
namespace Go.Proofs.YtohgmogbabkkeaaGreat
open Go.Am Go.av Go.aB Go.bE
def gN (v:List Int) (cQ:List UInt8) (vn:List Int) (to:List B4):Ev:=⟨⟨1,IntKind.wrap .u64 (v.getD 0 0+1)⟩,cQ,vn,v,to⟩
section
variable {hd:AV} {F:List Nat} {s:AS} {p n:Nat} {v:List Int}
set_option maxRecDepth 20000 in
theorem Ni (h:IQ hd F s p v n) (a1:∀ y∈F,s.h y≠none) {cQ:List UInt8} {pv tv:AV} {vn:List Int} {to:List B4} (gp:Sl oT 1 s pv vn) (gt:Sl rM 3 s tv to) (hp:vn.length<=2 ^ 29) (ht:to.length<=2 ^ 29) (hn:n+1<=2 ^ 29) :
  aa Tryz.prog bH [.ptr (some (p,0)),.str cQ,pv,tv] s fun r s' =>
   (iK (gN v cQ vn to)=false/\(∃ g,r=.aN [.agg g,.bool false]/\g.all AV.one=true/\g.length=21)/\Ext s s') \/
   (iK (gN v cQ vn to)=true/\(∃ g,r=.aN [.agg g,.bool true]/\g.all AV.one=true/\g.length=21)/\∃ F',IQ hd F' s' p (v.set 0 (IntKind.wrap .u64 (v.getD 0 0+1))) (n+1)/\bz F s s'/\(∀ y∈F',y∈F\/s.h y=none)/\(∀ y∈F',s'.h y≠none)/\xM p s s'):=by
 refine aa.pre fun hw=>u9 _ _ _ _ _ _ (aj.intro hw rfl fun l1 s2 i=>?_);have o2:Am.Own s2 l1 K3:=i.own;obtain ⟨K,lg,bh,L,B,C,_⟩:=id (h.ext i.ext);have a2:=pK K lg bh hd;have hx:ag T dz (.ptr (some (p,0+2))) (.int .i64 (IntKind.wrap .i64 (1 - 1)))=some (.ptr (some (p,2+0))):=by
  rw [aX (by omega),Oh (by omega)];rfl
 refine ⟨fun q _ v s'=>(q=18->aV oT 1 [] s2 s' v vn)/\(q=24->aV rM 3 [] s2 s' v to)/\(q=26->∃ l,v=.ptr (some (l,0))/\Am.Own s' l K3/\s2.h l=none),fun q _ v=>(q=18\/q=24->v.one=true)/\(q=26->∃ l,v=.ptr (some (l,0))),fun q _ v a b e g=>⟨fun O=>(g.1 O).step e,fun O=>(g.2.1 O).step e,fun O=>by obtain ⟨l,x,y,z⟩:=g.2.2 O;exact ⟨l,x,y.ext e,z⟩⟩,1,by rw [C.at.au];rfl,1,by rw [C.at.au];rfl,_,_,hx,_,by rw [C.at.au,KU K lg bh _ (by omega)],_,zD _ _,fun gh Q a3 _=>?_,⟨.slc none 0 0 true,(fun _=>rfl),(fun h=>by cases h)⟩,fun R S=>⟨_,C.at.aC (by rw [a2];omega),fun fT U a4 _=>?_,⟨.slc none 0 0 true,(fun _=>rfl),(fun h=>by cases h)⟩,fun W X=>?_⟩⟩
 ·refine aV.k_ gK bM KL a3 (aV.start (M:=[]) Q.mut) (by simp) (gp.ext (i.ext.trans Q)) (by simp;omega) aO fun v' s' g w' m=>?_;exact ⟨(show bz [] gh s' from m).ext,⟨(fun _=>by simpa using g),(fun h=>by cases h),(fun h=>by cases h)⟩,(fun _=>g.jh.2),(fun h=>by cases h)⟩
 ·refine aV.k_ ua dV t_ a4 (aV.start (M:=[]) U.mut) (by simp) (gt.ext (i.ext.trans U)) (by simp;omega) eX fun v' s' g w' m=>?_;exact ⟨(show bz [] fT s' from m).ext,⟨(fun h=>by cases h),(fun _=>by simpa using g),(fun h=>by cases h)⟩,(fun _=>g.jh.2),(fun h=>by cases h)⟩
 rw [BP K];have k1:=S.1 (.inl rfl);have k2:=X.1 (.inr rfl)
 let m:lT:=⟨gN v cQ vn to,R,W,K,k1,k2⟩
 have ev:=bf m;refine ⟨_,Ng K k1 k2,fun bx a5 a6 _=>aj.intro a6 rfl fun Y b0 I=>⟨I.ext,⟨(fun h=>by cases h),(fun h=>by cases h),(fun _=>⟨Y,rfl,I.own,a5.none I.no⟩)⟩,(fun h=>by rcases h with h | h <;> cases h),(fun _=>⟨Y,rfl⟩)⟩,⟨.ptr (some (0,0)),(fun h=>by rcases h with h | h <;> cases h),(fun _=>⟨0,rfl⟩)⟩,fun v30 Z=>?_⟩;obtain ⟨l,rfl⟩:=Z.2 rfl;refine ⟨_,rfl,fun a7 ab a8 hS=>?_⟩;have a9:=hS.1.1 rfl;have a':=hS.2.1.2.1 rfl;obtain ⟨l',ad,ae,D⟩:=hS.2.2.1.2.2 rfl;simp only [AV.ptr.injEq,Option.some.injEq,Prod.mk.injEq,and_true] at ad;subst ad;refine ⟨⟨dW m,congrArg some ev.symm⟩,bu.own a8 ae (vs:=ie m) (by rw [ev];exact Nat.le_refl _) fun oR j=>?_⟩;have al:Am.Own oR l (ie m):=by
  have:=j.at;rw [dD (by rw [show K3.length=21 from rfl];exact ev)] at this;exact this
 have am:Ext s oR:=Ext.wr (i.ext.trans ab) (i.ext.none D) j.mut;have d1:l1≠l:=fun e=>by rw [<- e,o2] at D;cases D
 have J:Am.Own oR l1 K3:=(o2.ext ab).mut j.mut (by simpa using d1);have t32:∀ y∈[l],∀ g,Tag a7 y g->g=0:=fun y c g t=>by
  obtain rfl:=List.mem_singleton.1 c;exact t.uniq (Own.tag ae)
 have ba:bq oT 1 oR R vn:=bq.fq a9.tI j.mut fun y c g t=>by rw [t32 y c g t];decide
 have d36:bq rM 3 oR W to:=bq.fq a'.tI j.mut fun y c g t=>by rw [t32 y c g t];decide
 have hE:zV oR m:=⟨ba.sl bM,d36.sl dV⟩;refine ⟨_,al.at.aC (by omega),?_⟩;rw [gT];refine aa.use (U5 (h.ext am) hE) ?_;rintro x_ b1 ⟨rfl,k⟩ bb;have d:=am.trans k;refine ⟨_,rfl,af.mk (fun hb=>⟨_,IP,?_⟩) (fun hb=>?_)⟩
 ·have bc:iK (gN v cQ vn to)=false:=by simpa using hb
  exact ⟨⟨rfl,rfl⟩,bu.own bb (J.ext k) (Nat.le_refl _) fun s7 P=>⟨K3,(GV rfl rfl P).2,.inl ⟨bc,⟨_,rfl,rfl,rfl⟩,Ext.wr d i.no P.mut⟩⟩⟩
 have an:iK (gN v cQ vn to)=true:=by simpa using hb
 have H:=an;simp only [iK,sV,Bool.and_eq_true,decide_eq_true_eq] at H;have bd:m.ev.id.may=true:=H.1.1.1.1.1.1.1.1;have ao:=al.ext k;refine ⟨_,ao.at.aC (by omega),?_⟩;rw [gT];refine aa.use (Rp (h.ext d) bd hn) ?_;rintro b2 ar ⟨rfl,F',be,G,w,aw,bi⟩ bj;have nF:∀ y,s.h y=none->y ∉ F:=fun y hn c=>a1 y c hn;have bk:Am.Own ar l (ie m):=ao.mut G (nF _ (i.ext.none D));have bl:Am.Own ar l1 K3:=(J.ext k).mut G (nF _ i.no);refine ⟨rfl,_,bk.at.aC (by omega),?_⟩;rw [gT];refine ⟨⟨dW m,by rw [ev]⟩,bu.own bj bl (by rw [ev];exact Nat.le_refl _) fun s7 P=>?_⟩;obtain ⟨_,bm⟩:=GV ev rfl P;have a0:l1 ∉ F':=fun c=>by
  rcases w l1 c with h | h
  ·exact nF _ i.no h
  ·rw [J.ext k] at h;cases h
 refine ⟨_,bm,.inr ⟨an,⟨_,rfl,dW m,bf m⟩,F',be.mut P.mut (fun y c=>by obtain rfl:=List.mem_singleton.1 c;exact a0),?_,?_,?_,fun y cs g c bo bs h0=>?_⟩⟩
 ·refine ⟨fun y o c ho=>?_,Nat.le_trans d.2 (Nat.le_trans G.2 (by rw [P.nl];exact Nat.le_refl _))⟩;have A:y≠l1:=fun e=>by rw [e,i.no] at ho;cases ho
  rw [P.eq y A];exact G.1 y o c (d.1 _ _ ho)
 ·intro y c;rcases w y c with h | h
  ·exact .inl h
  ·exact .inr (d.none h)
 ·intro y c;have A:y≠l1:=fun e=>a0 (e ▸ c);rw [P.eq y A];exact aw y c
 ·have A:y≠l1:=fun e=>by rw [e,i.no] at c;cases c
  rw [P.eq y A];exact bi y cs g (d.1 _ _ c) bo bs h0
end
section
variable {F:List Nat} {s:AS} {q:Nat} {x:aF}
theorem U6 (h:nA F s q x) (X:x.ex.length<=2 ^ 40):aa Tryz.prog nV [.ptr (some (q,0)),.int .i64 1] s fun r s'=>s'=s/\∃ m:Int,r=.int .u64 m/\0<=m/\x.has ⟨1,m+1⟩=false/\(m=0\/x.has ⟨1,m⟩=true):=by
 obtain ⟨⟨z,hr,hm⟩,_,w,iw,I,a,⟨Y,Z,J⟩,_⟩:=h;have hv:=z.len;have K:ag T dz (.ptr (some (q,0))) (.int .i64 (IntKind.wrap .i64 (1 - 1)))=some (.ptr (some (q,0))):=by
  rw [aX (by omega),Oh (by omega)];rfl
 have d:au s q (0+16)=some w:=by
  rw [a.at.au,List.getElem?_append_right (by simp [hv])];simp [hv]
 have L:au s q 0=some (.int .u64 (x.v.getD 0 0)):=by
  rw [a.at.au,List.getElem?_append_left (by simp;omega),List.getElem?_map,List.getElem?_eq_getElem (by omega),List.getD_eq_getElem?_getD,List.getElem?_eq_getElem (show 0<x.v.length by omega)];rfl
 have hs:=J.sl bn;refine CC _ _ _ _ ⟨_,_,K,_,L,fun m' vs s'=>∃ (i:Nat) (m:Int),vs=[.int .u64 m,.int .i64 (i:Nat)]/\i<=x.ex.length/\m'=x.ex.length - i/\s'=s/\x.v.getD 0 0<=m/\(∀ e∈x.ex.take i,e.r=1->e.c<=m)/\(m=x.v.getD 0 0\/∃ e∈x.ex,e.r=1/\e.c=m),x.ex.length,⟨0,_,rfl,by omega,rfl,rfl,Int.le_refl _,by simp,.inl rfl⟩,?_⟩;rintro m' C M n ⟨i,m,hi,h6,rfl,rfl,O,h2,h3⟩;simp only [List.cons.injEq,AV.int.injEq,true_and,and_true] at hi;obtain ⟨rfl,rfl⟩:=hi;refine ⟨w,d,_,hs.cJ bI _,af.dec (fun Q=>?_) (fun R=>?_)⟩
 ·obtain ⟨e,p⟩:=cT (l:=x.ex) (i:=i) (by omega);obtain ⟨la,o,D,H⟩:=hs.ix (by decide) bn bI kq p;have G:au n la o=some (.int .i64 e.r):=by have:=(H _ (Ext.refl _)).1 0 (by omega);simpa [aI] using this
  have A:au n la (o+1)=some (.int .u64 e.c):=by rw [(H _ (Ext.refl _)).1 1 (by omega)];rfl
  have ht:x.ex.take (i+1)=x.ex.take i++[e]:=by rw [List.take_add_one,p];rfl
  refine ⟨fun vs s'=>s'=n/\vs=[.bool (decide (e.r=1)&&decide (e.c>C))],?_,w,d,la,o,D _,e.r,G,af.mk (fun hb=>⟨w,d,la,o,D _,e.c,A,rfl,?_⟩) (fun hb=>⟨rfl,?_⟩)⟩
  ·rintro b eT ⟨rfl,hb⟩;simp only [List.cons.injEq,AV.bool.injEq,and_true] at hb;subst hb;refine af.mk (fun hb=>⟨w,d,la,o,D _,e.c,A,x.ex.length - (i+1),by omega,i+1,e.c,by rw [BI (by omega)],by omega,rfl,rfl,?_,?_,.inr ⟨e,List.mem_of_getElem? p,?_⟩⟩) (fun hb=>⟨x.ex.length - (i+1),by omega,i+1,C,by rw [BI (by omega)],by omega,rfl,rfl,O,?_,h3⟩)
   ·simp at hb;omega
   ·simp at hb;rw [ht];intro y j k;rcases List.mem_append.1 j with j | j
    ·have:=h2 y j k;omega
    ·obtain rfl:=List.mem_singleton.1 j;omega
   ·simp at hb;exact ⟨hb.1,rfl⟩
   ·simp at hb;rw [ht];intro y j k;rcases List.mem_append.1 j with j | j
    ·exact h2 y j k
    ·obtain rfl:=List.mem_singleton.1 j;exact hb k
  ·simp at hb;simp [hb]
  ·simp at hb;simp [hb]
 ·obtain rfl:i=x.ex.length:=by omega
  rw [List.take_of_length_le (Nat.le_refl _)] at h2;have S:=z.get 0;refine ⟨rfl,C,rfl,by omega,?_,?_⟩
  ·cases U:x.has ⟨1,C+1⟩ with
   | false=>rfl
   | true =>
    rcases (tV.1 U).2 with h | h
    ·have:=h2 _ h rfl;simp only at this;omega
    ·simp only [show ((1:Int) - 1).toNat=0 from rfl] at h;omega
  ·rcases h3 with rfl | ⟨e,p,B,rfl⟩
   ·by_cases W:x.v.getD 0 0=0
    ·exact .inl W
    ·exact .inr (tV.2 ⟨aJ.gQ.2 (by simp only;omega),.inr (Int.le_refl _)⟩)
   ·have e2:(⟨1,e.c⟩:aJ)=e:=by cases e;simp only at B;subst B;rfl
    rw [e2];exact .inr (tV.2 ⟨hm e p,.inl p⟩)
end
end Go.Proofs.YtohgmogbabkkeaaGreat
end

section
set_option maxRecDepth 100000
set_option maxHeartbeats 4000000
namespace Go.Proofs.YtohgmogbabkkeaaGreat
open Go.Am
def O5 (a0:AV) (s:AS) (R:AV->AS->Prop):Prop :=
 aa Tryz.prog aT [a0] s fun c s2=>aj (.map [] 0 false) s2 fun l3 s4=>nQ (aS T r7 [(0,c),(1,(.map (some l3)))]) fun b=>cH b (aj (.cells b 0 false) s4 fun d s7=>R (.ptr (some (d,0))) s7)
def O6:QA:=(.seq .leaf (.seq .leaf .leaf))
theorem O7 (a0:AV) (s:AS) (R:AV->AS->Prop) (h:O5 a0 s R):aa Tryz.prog qW [a0] s R :=
 aa.q (n:=8) (rs:=[.tmp 2]) (A:=O6) hT bY Tryz.func15 (by kernel_rfl) rfl rfl rfl (by kernel_rfl) (by kernel_rfl) h
def BQ (a0:Option (Nat×Nat)) (s:AS) (R:AV->AS->Prop):Prop :=
 uC (je T 100 yH (.ptr a0) (.ptr none)) fun b=>af (!b) (ai a0 fun c d=>yD (au s c (d+1)) fun e=>uC (je T 100 aM (.map e) (.map none)) fun i=>R (.bool (!i)) s) (R (.bool false) s)
def BR:QA:=(.seq .leaf (.seq .leaf .leaf))
theorem BS (a0:Option (Nat×Nat)) (s:AS) (R:AV->AS->Prop) (h:BQ a0 s R):aa Tryz.prog fl [.ptr a0] s R :=
 aa.q (n:=12) (rs:=[.tmp 2]) (A:=BR) hT bY Tryz.func75 (by kernel_rfl) rfl rfl rfl (by kernel_rfl) (by kernel_rfl) h
def BT (a0:Option (Nat×Nat)) (a1:List UInt8) (a2:Bool) (s:AS) (R:AV->AS->Prop):Prop :=
 aa Tryz.prog fl [.ptr a0] s fun l s2=>∃ j:Bool,l=.bool j/\(af (!j)
 (R (.int .i64 1) s2)
 (bG fun c =>
 (∀ k:Bool,∀ s6:AS,c [.bool k] s6 ->
 af k
 (R (.int .i64 2) s6)
 (ai a0 fun m n=>yD (au s6 m (n+1)) fun o=>pL (bR T aM (.map o) (.str a1) false s6) fun d=>uC (je T 100 f_ (.ptr d) (.ptr none)) fun e=>af e
 (R (.int .i64 7) s6)
 (R (.int .i64 0) s6))) /\
 (aa Tryz.prog fZ [.str a1] s2 fun i bW=>∃ b:Bool,i=.bool b/\(af (!b) (c [.bool true] bW) (c [(.bool (!a2))] bW)))))
def BU:QA:=(.seq .leaf (.seq (.wrap (.seq .leaf (.cond (.seq .leaf .leaf) (.join [(11,.bool)] [(11,18)] .leaf (.cond (.seq .leaf .leaf) (.seq .leaf (.cond (.seq .leaf .leaf) .leaf))))))) (.seq .leaf .leaf)))
theorem BV (a0:Option (Nat×Nat)) (a1:List UInt8) (a2:Bool) (s:AS) (R:AV->AS->Prop) (h:BT a0 a1 a2 s R):aa Tryz.prog fm [.ptr a0,.str a1,.bool a2] s R :=
 aa.q (n:=27) (rs:=[.tmp 6]) (A:=BU) hT bY Tryz.func78 (by kernel_rfl) rfl rfl rfl (by kernel_rfl) (by kernel_rfl) h
def zX (a0:Option (Nat×Nat)) (a1:List UInt8) (a2:AV) (s:AS) (R:AV->AS->Prop):Prop :=
 aa Tryz.prog fl [.ptr a0] s fun J s2=>∃ H:Bool,J=.bool H/\(af (!H)
 (R (.int .i64 1) s2)
 (aa Tryz.prog fZ [.str a1] s2 fun K i=>∃ I:Bool,K=.bool I/\(af (!I)
 (R (.int .i64 2) i)
 (ai a0 fun L M=>yD (au i L (M+1)) fun O=>pL (bR T aM (.map O) (.str a1) false i) fun m=>uC (je T 100 f_ (.ptr m) (.ptr none)) fun n=>af (!n)
 (R (.int .i64 7) i)
 (ai a0 fun qL o=>dI (au i qL o) fun p=>aa Tryz.prog ey [p,.str a1,a2] i fun r w=>∃ c:List AV,∃ d:Int,r=.aN [.agg c,.int .i64 d]/\(aj (.cells [.int .u64 0,.int .u64 0,.int .u64 0,.int .u64 0,.int .u64 0,.int .u64 0,.int .u64 0,.int .u64 0,.int .u64 0,.int .u64 0,.int .u64 0,.int .u64 0,.int .u64 0,.int .u64 0,.int .u64 0,.int .u64 0] 0 false) w fun Ac gy=>fC (some 16) c (bu (cU gy Ac 0 c) fun gG=>af ((d:Int) != 0)
 (R (.int .i64 d) gG)
 (ai a0 fun x y=>yD (au gG x (y+1)) fun z=>aU .i64 (aQ T aM (.map z) gG) fun A=>af (decide ((A:Int)>=64))
 (R (.int .i64 5) gG)
 (gL fun S V=>ai a0 fun B C=>yD (au gG B (C+1)) fun D=>aR (aC gG Ac 0 16) fun F=>nQ (aS T oO [(0,.agg F)]) fun b=>(∀ nK:AS,Ext gG nK->aG nK->(True)->cH b (aj (.cells b 0 false) nK fun j k=>(Ext nK k/\S 7 [.agg b] (.ptr (some (j,0))) k/\V 7 [.agg b] (.ptr (some (j,0))))))/\(∃ v,V 7 [.agg b] v)/\∀ l:AV,V 7 [.agg b] l->∃ e:Option (Nat×Nat),l=.ptr e/\(∀ oR:AS,Ext gG oR->aG oR->(S 7 [.agg b] (.ptr e) oR/\True)->bu (bK T aM (.map D) (.str a1) (.ptr e) oR) fun G=>R (.int .i64 0) G))))))))))
def zY:QA:=(.seq .leaf (.seq (.wrap (.seq .leaf (.cond (.seq .leaf .leaf) (.seq .leaf (.cond (.seq .leaf .leaf) (.seq .leaf (.cond (.seq .leaf .leaf) .leaf))))))) (.seq .leaf (.seq (.wrap (.seq .leaf (.cond (.seq .leaf .leaf) (.seq .leaf (.cond (.seq .leaf .leaf) .leaf))))) (.seq (.g_ 8 [[],[],[],[],[],[],[],[]] [7]) (.seq .leaf .leaf))))))
theorem zZ (a0:Option (Nat×Nat)) (a1:List UInt8) (a2:AV) (s:AS) (R:AV->AS->Prop) (h:zX a0 a1 a2 s R):aa Tryz.prog dN [.ptr a0,.str a1,a2] s R :=
 aa.q (n:=54) (rs:=[.tmp 6]) (A:=zY) hT bY Tryz.func18 (by kernel_rfl) rfl rfl rfl (by kernel_rfl) (by kernel_rfl) h
def Nj (a0:List UInt8) (a1:Option (Nat×Nat)) (a2:List AV) (a3:Option (Nat×Nat)) (s:AS) (R:AV->AS->Prop):Prop :=
 cH a2 (aj (.cells a2 0 false) s fun l1 s2=>aj (.cells [.ptr a3] 0 false) s2 fun l3 s4=>aR (aC s4 l1 0 21) fun w=>aa Tryz.prog y8 [.agg w,.str a0] s4 fun r s7=>ai a1 fun x y=>aR (aC s7 x y 16) fun e=>aR (aC s7 l1 0 2) fun i=>aa Tryz.prog sB [.agg e,.agg i] s7 fun j bW=>∃ b:Bool,j=.bool b/\(af b (R (.bool false) bW) (aU .i64 (aQ T az r bW) fun k=>af ((k:Int)==0)
 (R (.bool false) bW)
 (pL (au bW l3 0) fun l=>rG (au bW l1 2) fun m=>nQ (aS T ko [(0,.str m),(1,.str a0)]) fun n=>aa Tryz.prog iM [.ptr l,.agg n] bW fun o gy=>∃ c:Bool,o=.bool c/\(af c (R (.bool true) gy) (aa Tryz.prog eo [r,(.func sC [(.ptr (some (l3,0)))])] gy fun p uj=>∃ d:Bool,p=.bool d/\(R (.bool d) uj)))))))
def Nk:QA:=(.seq .leaf (.seq .leaf (.seq (.seq (.draw 6) (.cond (.seq .leaf .leaf) .leaf)) (.seq .leaf .leaf))))
theorem Nl (a0:List UInt8) (a1:Option (Nat×Nat)) (a2:List AV) (a3:Option (Nat×Nat)) (s:AS) (R:AV->AS->Prop) (h:Nj a0 a1 a2 a3 s R):aa Tryz.prog wM [.str a0,.ptr a1,.agg a2,.ptr a3] s R :=
 aa.q (n:=36) (rs:=[.tmp 8]) (A:=Nk) hT bY Tryz.func160 (by kernel_rfl) rfl rfl rfl (by kernel_rfl) (by kernel_rfl) h
def H7 (a0:List AV) (c0:Option (Nat×Nat)) (s:AS) (R:AV->AS->Prop):Prop :=
 cH a0 (aj (.cells a0 0 false) s fun l1 s2=>ai c0 fun l3 c=>pL (au s2 l3 c) fun d=>aR (aC s2 l1 0 2) fun e=>aa Tryz.prog n_ [.ptr d,.agg e] s2 fun i s8=>∃ b:Bool,i=.bool b/\(R (.bool (!b)) s8))
def H8:QA:=(.seq .leaf (.seq .leaf .leaf))
theorem H9 (a0:List AV) (c0:Option (Nat×Nat)) (s:AS) (R:AV->AS->Prop) (h:H7 a0 c0 s R):aa Tryz.prog sC [.agg a0,.ptr c0] s R :=
 aa.q (n:=8) (rs:=[.tmp 3]) (A:=H8) hT bY Tryz.func214 (by kernel_rfl) rfl rfl rfl (by kernel_rfl) (by kernel_rfl) h
def z0 (a0:Option (Nat×Nat)) (a1:List UInt8) (a2:Option (Nat×Nat)) (a3:Option (Nat×Nat)) (a4:AV) (s:AS) (R:AV->AS->Prop):Prop :=
 ai a0 fun l1 o2=>aU .i64 (au s l1 (o2+16)) fun F=>bA fun p G=>p G [.int .i64 F] s /\
 ∀ D:Nat,∀ j:Int,∀ s8:AS,p D [.int .i64 j] s8 ->
 aa Tryz.prog mE [.ptr a2] s8 fun H k=>∃ l:Int,H=.int .i64 l/\(af (decide ((j:Int)<l))
 (aa Tryz.prog nY [.ptr a2,.int .i64 j] k fun r bW=>∃ c:List AV,∃ d:List AV,∃ w:Bool,r=.aN [.agg c,.agg d,.bool w]/\(aj (.cells [.int .i64 0,.int .u64 0,.str [],.slc none 0 0 true,.int .u64 0,.int .u64 0,.int .u64 0,.int .u64 0,.int .u64 0,.int .u64 0,.int .u64 0,.int .u64 0,.int .u64 0,.int .u64 0,.int .u64 0,.int .u64 0,.int .u64 0,.int .u64 0,.int .u64 0,.int .u64 0,.slc none 0 0 true] 0 false) bW fun e eT=>aj (.cells [.int .u64 0,.int .u64 0,.int .u64 0,.int .u64 0,.int .u64 0,.int .u64 0,.int .u64 0,.int .u64 0,.int .u64 0,.int .u64 0,.int .u64 0,.int .u64 0,.int .u64 0,.int .u64 0,.int .u64 0,.int .u64 0] 0 false) eT fun Ac gy=>fC (some 21) c (bu (cU gy e 0 c) fun gG=>fC (some 16) d (bu (cU gG Ac 0 d) fun fT=>bG fun i =>
 (∀ m:Bool,∀ dZ:AS,i [.bool m] dZ ->
 af m
 (R (.int .i64 (IntKind.wrap .i64 (j+1))) dZ)
 (∃ m',m'<D/\p m' [(.int .i64 (IntKind.wrap .i64 (j+1)))] dZ)) /\
 (aR (aC fT e 0 21) fun x=>aa Tryz.prog wM [.str a1,.ptr a0,.agg x,.ptr a3] fT fun y b=>∃ n:Bool,y=.bool n/\(af n (aR (aC b e 0 21) fun z=>aR (aC b Ac 0 16) fun A=>ez Tryz.prog a4 [.agg z,.agg A] b fun B C=>∃ o:Bool,B=.bool o/\(i [(.bool (!o))] C)) (i [.bool false] b)))))))
 (R (.int .i64 j) k))
def z2:QA:=(.seq .leaf (.seq .leaf (.seq (.wrap (.loop [(11,.int .i64)] [(10,14),(19,45)] (.seq (.seq .leaf (.cond .leaf .leaf)) (.seq (.wrap (.seq .leaf (.join [(43,.bool)] [(32,43)] .leaf (.cond (.seq .leaf .leaf) .leaf)))) .leaf)))) (.seq .leaf .leaf))))
theorem z5 (a0:Option (Nat×Nat)) (a1:List UInt8) (a2:Option (Nat×Nat)) (a3:Option (Nat×Nat)) (a4:AV) (s:AS) (R:AV->AS->Prop) (h:z0 a0 a1 a2 a3 a4 s R):aa Tryz.prog cD [.ptr a0,.str a1,.ptr a2,.ptr a3,a4] s R :=
 aa.q (n:=47) (rs:=[.tmp 10]) (A:=z2) hT bY Tryz.func79 (by kernel_rfl) rfl rfl rfl (by kernel_rfl) (by kernel_rfl) h
def C_ (a0:Option (Nat×Nat)) (a1:List UInt8) (a2:Int) (a3:Option (Nat×Nat)) (a4:Option (Nat×Nat)) (s:AS) (R:AV->AS->Prop):Prop :=
 aj (.cells [.int .i64 a2] 0 false) s fun l1 s2=>bG fun A =>
 (∀ b4:Bool,∀ k:AS,A [.bool b4] k ->
 af b4
 (R (.aN [.slc none 0 0 true,.int .i64 1]) k)
 (bG fun B =>
 (∀ D:Int,∀ s8:AS,B [.int .i64 D] s8 ->
 af ((D:Int) != 0)
 (R (.aN [.slc none 0 0 true,.int .i64 D]) s8)
 (ai a0 fun l9 F=>yD (au s8 l9 (F+1)) fun G=>pL (bR T aM (.map G) (.str a1) false s8) fun H=>aj (.cells [.ptr none] 0 false) s8 fun b I=>bu (cU I b 0 [.ptr H]) fun gh=>aj (.cells [.slc none 0 0 true] 0 false) gh fun pT kT=>rS kT fun X C c S V=>pL (au kT b 0) fun l=>(∀ eT:AS,X kT eT->aG eT->pL (au eT b 0) fun J=>(((.ptr J):AV)=(.ptr l)))/\(pL (au kT b 0) fun d=>(∀ gG:AS,X kT gG->aG gG->pL (au gG b 0) fun K=>(((.ptr K):AV)=(.ptr d)))/\((∀ m:AS,X kT m->aG m->(((.func bP [(.ptr (some (pT,0))),(.ptr (some (b,0))),(.ptr (some (l1,0)))]):AV)=(.func bP [(.ptr (some (pT,0))),(.ptr (some (b,0))),(.ptr (some (l1,0)))])))/\((∀ dZ:AS,X kT dZ->aG dZ->(True)->c dZ->aa Tryz.prog cD [.ptr d,.str a1,.ptr a3,.ptr a4,(.func bP [(.ptr (some (pT,0))),(.ptr (some (b,0))),(.ptr (some (l1,0)))])] dZ fun L j=>∃ e:Int,L=.int .i64 e/\(((X dZ j/\C 6 [(.func cD []),.ptr d,.str a1,.ptr a3,.ptr a4,(.func bP [(.ptr (some (pT,0))),(.ptr (some (b,0))),(.ptr (some (l1,0)))])] (.int .i64 e) j)/\S 6 [(.func cD []),.ptr d,.str a1,.ptr a3,.ptr a4,(.func bP [(.ptr (some (pT,0))),(.ptr (some (b,0))),(.ptr (some (l1,0)))])] (.int .i64 e) j/\V 6 [(.func cD []),.ptr d,.str a1,.ptr a3,.ptr a4,(.func bP [(.ptr (some (pT,0))),(.ptr (some (b,0))),(.ptr (some (l1,0)))])] (.int .i64 e))))/\(∃ v,V 6 [(.func cD []),.ptr d,.str a1,.ptr a3,.ptr a4,(.func bP [(.ptr (some (pT,0))),(.ptr (some (b,0))),(.ptr (some (l1,0)))])] v)/\∀ n:AV,V 6 [(.func cD []),.ptr d,.str a1,.ptr a3,.ptr a4,(.func bP [(.ptr (some (pT,0))),(.ptr (some (b,0))),(.ptr (some (l1,0)))])] n->∃ i:Int,n=.int .i64 i/\(∀ nK:AS,X kT nK->aG nK->(S 6 [(.func cD []),.ptr d,.str a1,.ptr a3,.ptr a4,(.func bP [(.ptr (some (pT,0))),(.ptr (some (b,0))),(.ptr (some (l1,0)))])] (.int .i64 i) nK/\True)->C 6 [(.func cD []),.ptr d,.str a1,.ptr a3,.ptr a4,(.func bP [(.ptr (some (pT,0))),(.ptr (some (b,0))),(.ptr (some (l1,0)))])] (.int .i64 i) nK->ai l fun M O=>bu (cU nK M (O+16) [.int .i64 i]) fun kH=>dI (au kH pT 0) fun Q=>R (.aN [Q,.int .i64 0]) kH)))))) /\
 (aU .i64 (au k l1 0) fun U=>af (decide ((U:Int)>=1)) (aU .i64 (au k l1 0) fun W=>aa Tryz.prog fm [.ptr a0,.str a1,(.bool (decide ((W:Int)<=16)))] k fun Y Z=>∃ o:Int,Y=.int .i64 o/\(B [.int .i64 o] Z)) (aa Tryz.prog fm [.ptr a0,.str a1,.bool false] k fun ab ad=>∃ p:Int,ab=.int .i64 p/\(B [.int .i64 p] ad))))) /\
 (aa Tryz.prog fl [.ptr a0] s2 fun ae r=>∃ w:Bool,ae=.bool w/\(af w (aa Tryz.prog iA [.ptr a3] r fun al x=>∃ y:Option (Nat×Nat),al=.ptr y/\(uC (je T 100 lD (.ptr y) (.ptr none)) fun am=>af am (A [.bool true] x) (aa Tryz.prog lq [.ptr a4] x fun an ao=>∃ z:Option (Nat×Nat),an=.ptr z/\(uC (je T 100 pA (.ptr z) (.ptr none)) fun ar=>A [.bool ar] ao)))) (A [.bool false] r)))
def Da:QA:=(.seq .leaf (.seq (.join [(26,.bool)] [(15,26)] .leaf (.cond (.seq .leaf .leaf) .leaf)) (.seq (.join [(12,.int .i64)] [(12,12),(27,35)] .leaf (.seq .leaf (.cond (.seq .leaf .leaf) .leaf))) (.seq .leaf (.seq .leaf (.seq (.tE [0,1,2,3,4,5,6] [7,8,9] [[],[],[],[],[],[],[]] [6] [6]) (.seq .leaf .leaf)))))))
theorem Db (a0:Option (Nat×Nat)) (a1:List UInt8) (a2:Int) (a3:Option (Nat×Nat)) (a4:Option (Nat×Nat)) (s:AS) (R:AV->AS->Prop) (h:C_ a0 a1 a2 a3 a4 s R):aa Tryz.prog eL [.ptr a0,.str a1,.int .i64 a2,.ptr a3,.ptr a4] s R :=
 aa.q (n:=55) (rs:=[.tmp 10,.tmp 11]) (A:=Da) hT bY Tryz.func19 (by kernel_rfl) rfl rfl rfl (by kernel_rfl) (by kernel_rfl) h
def z6 (a0:List AV) (a1:List AV) (c0:Option (Nat×Nat)) (Q:Option (Nat×Nat)) (c2:Option (Nat×Nat)) (s:AS) (R:AV->AS->Prop):Prop :=
 cH a0 (aj (.cells a0 0 false) s fun l1 s2=>cH a1 (aj (.cells a1 0 false) s2 fun l3 s4=>rS s4 fun X C c S V=>ai Q fun l6 o7=>pL (au s4 l6 o7) fun p8=>(∀ U:AS,X s4 U->aG U->ai Q fun l9 W=>pL (au U l9 W) fun Y=>(((.ptr Y):AV)=(.ptr p8)))/\((∀ dH:AS,X s4 dH->aG dH->(True)->c dH->ai c0 fun Z ab=>dI (au dH Z ab) fun w=>((X dH dH/\C 1 [.ptr c0] w dH)/\S 1 [.ptr c0] w dH/\V 1 [.ptr c0] w))/\(∃ v,V 1 [.ptr c0] v)/\∀ oC:AV,V 1 [.ptr c0] oC->aR (aC s4 l1 0 21) fun i=>(∀ kT:AS,X s4 kT->aG kT->aR (aC kT l1 0 21) fun ad=>(((.agg ad):AV)=(.agg i)))/\((∀ gy:AS,X s4 gy->aG gy->(True)->aR (dw T bC 1 [(0,.agg i)]) fun ae=>aj (.cells ae 0 false) gy fun K uj=>(Ext gy uj/\S 3 [.agg i] (.slc (some (K,0)) 1 1 true) uj/\V 3 [.agg i] (.slc (some (K,0)) 1 1 true)))/\(∃ v,V 3 [.agg i] v)/\∀ b:AV,V 3 [.agg i] b->(∀ dZ:AS,X s4 dZ->aG dZ->(S 1 [.ptr c0] oC dZ/\(S 3 [.agg i] b dZ/\True))->C 1 [.ptr c0] oC dZ->iT (aL T bC bC oC b dZ) fun x y=>((X dZ y/\C 4 [oC,b] x y)/\S 4 [oC,b] x y/\V 4 [oC,b] x))/\(∃ v,V 4 [oC,b] v)/\∀ d:AV,V 4 [oC,b] d->ai Q fun al am=>pL (au s4 al am) fun z=>(∀ A:AS,X s4 A->aG A->ai Q fun an ao=>pL (au A an ao) fun ar=>(((.ptr ar):AV)=(.ptr z)))/\(ai z fun B D=>(∀ oR:AS,X s4 oR->aG oR->ai z fun aw a2=>(((.ptr (some (aw,a2))):AV)=(.ptr (some (B,D)))))/\(dI (au s4 B (D+17)) fun j=>(∀ F:AS,X s4 F->aG F->dI (au F B (D+17)) fun a3=>((a3:AV)=j))/\(aR (aC s4 l3 0 16) fun m=>(∀ G:AS,X s4 G->aG G->aR (aC G l3 0 16) fun a4=>(((.agg a4):AV)=(.agg m)))/\((∀ p:AS,X s4 p->aG p->(True)->aR (dw T br 1 [(0,.agg m)]) fun a5=>aj (.cells a5 0 false) p fun L M=>(Ext p M/\S 10 [.agg m] (.slc (some (L,0)) 1 1 true) M/\V 10 [.agg m] (.slc (some (L,0)) 1 1 true)))/\(∃ v,V 10 [.agg m] v)/\∀ e:AV,V 10 [.agg m] e->(∀ n:AS,X s4 n->aG n->(S 1 [.ptr c0] oC n/\(S 3 [.agg i] b n/\(S 4 [oC,b] d n/\(S 10 [.agg m] e n/\True))))->C 4 [oC,b] d n->iT (aL T br br j e n) fun H I=>((X n I/\C 11 [j,e] H I)/\S 11 [j,e] H I/\V 11 [j,e] H))/\(∃ v,V 11 [j,e] v)/\∀ o:AV,V 11 [j,e] o->(∀ k:AS,X s4 k->aG k->(S 1 [.ptr c0] oC k/\(S 3 [.agg i] b k/\(S 4 [oC,b] d k/\(S 10 [.agg m] e k/\(S 11 [j,e] o k/\True)))))->C 11 [j,e] o k->ai c0 fun a6 a7=>fQ T bC k a6 a7 d fun J=>((X k J/\C 12 [.ptr c0,d] (.aN []) J)/\S 12 [.ptr c0,d] (.aN []) J/\V 12 [.ptr c0,d] (.aN [])))/\(∃ v,V 12 [.ptr c0,d] v)/\∀ O:AV,V 12 [.ptr c0,d] O->O=.aN []/\(∀ l:AS,X s4 l->aG l->(S 1 [.ptr c0] oC l/\(S 3 [.agg i] b l/\(S 4 [oC,b] d l/\(S 10 [.agg m] e l/\(S 11 [j,e] o l/\(S 12 [.ptr c0,d] (.aN []) l/\True))))))->C 12 [.ptr c0,d] (.aN []) l->ai p8 fun a8 a9=>fQ T br l a8 (a9+17) o fun r=>ai c0 fun a' ba=>dI (au r a' ba) fun bb=>aU .i64 (aQ T bC bb r) fun bc=>ai c2 fun bd be=>aU .i64 (au r bd be) fun bh=>R (.bool (decide ((bc:Int)<bh))) r)))))))))
def z7:QA:=(.seq .leaf (.seq (.tE [0,1,2,3,4,5,6,7,8,9,10,11,12] [13,14,15] [[],[],[],[],[1,3],[],[],[],[],[],[],[1,3,4,10],[1,3,4,10,11],[],[],[]] [1,3,4,10,11,12] [1,4,11,12]) (.seq .leaf .leaf)))
theorem z8 (a0:List AV) (a1:List AV) (c0:Option (Nat×Nat)) (b:Option (Nat×Nat)) (c2:Option (Nat×Nat)) (s:AS) (R:AV->AS->Prop) (h:z6 a0 a1 c0 b c2 s R):aa Tryz.prog bP [.agg a0,.agg a1,.ptr c0,.ptr b,.ptr c2] s R :=
 aa.q (n:=26) (rs:=[.tmp 7]) (A:=z7) hT bY Tryz.func80 (by kernel_rfl) rfl rfl rfl (by kernel_rfl) (by kernel_rfl) h
def Ey (a0:Option (Nat×Nat)) (a1:List UInt8) (a2:Int) (s:AS) (R:AV->AS->Prop):Prop :=
 aa Tryz.prog fm [.ptr a0,.str a1,(.bool (decide ((a2:Int)>=0)))] s fun W s2=>∃ k:Int,W=.int .i64 k/\(af ((k:Int) != 0)
 (R (.aN [.slc none 0 0 true,.int .i64 k]) s2)
 (ai a0 fun X Y=>yD (au s2 X (Y+1)) fun Z=>pL (bR T aM (.map Z) (.str a1) false s2) fun b=>ai b fun l8 o9=>dI (au s2 l8 (o9+17)) fun v10=>aU .i64 (aQ T br v10 s2) fun l=>af (decide ((a2:Int)>l))
 (R (.aN [.slc none 0 0 true,.int .i64 6]) s2)
 (bG fun c =>
 (∀ bW:AS,c [] bW ->
 ai a0 fun ku m=>dI (au bW ku m) fun oC=>ai b fun n o=>aR (aC bW n o 16) fun p=>aa Tryz.prog fR [oC,.str a1,.agg p] bW fun v20 gG=>∃ e:AV,∃ i:Int,v20=.aN [e,.int .i64 i]/\(R (.aN [e,.int .i64 i]) gG)) /\
 (af (decide ((a2:Int)>0))
 (ai b fun r w=>aR (aC s2 r w 16) fun x=>ai b fun y z=>dI (au s2 y (z+17)) fun A=>bJ (ag T br A (.int .i64 (IntKind.wrap .i64 (a2 - 1)))) fun B C=>aR (aC s2 B C 16) fun D=>aa Tryz.prog sy [.agg x,.agg D] s2 fun F kH=>∃ d:List AV,F=.agg d/\(ai b fun G H=>fC (some 16) d (bu (cU kH G H d) fun j=>ai b fun I J=>dI (au j I (J+17)) fun K=>dI (bg T br K (some (.int .i64 a2)) none none) fun L=>aa Tryz.prog eD [L] j fun M O=>ai b fun Q S=>fQ T br O Q (S+17) M fun U=>c [] U)))
 (c [] s2)))))
def Ez:QA:=(.seq .leaf (.seq (.seq .leaf (.seq .leaf (.cond (.seq .leaf .leaf) .leaf))) (.seq .leaf (.seq (.seq .leaf (.cond (.seq .leaf .leaf) .leaf)) (.join [] [(31,58)] (.seq .leaf (.cond (.seq .calm .leaf) .leaf)) (.seq .calm .leaf))))))
theorem EA (a0:Option (Nat×Nat)) (a1:List UInt8) (a2:Int) (s:AS) (R:AV->AS->Prop) (h:Ey a0 a1 a2 s R):aa Tryz.prog fY [.ptr a0,.str a1,.int .i64 a2] s R :=
 aa.q (n:=71) (rs:=[.tmp 6,.tmp 7]) (A:=Ez) hT bY Tryz.func20 (by kernel_rfl) rfl rfl rfl (by kernel_rfl) (by kernel_rfl) h
def z9 (a0:Option (Nat×Nat)) (a1:List UInt8) (s:AS) (R:AV->AS->Prop):Prop :=
 aa Tryz.prog fm [.ptr a0,.str a1,.bool true] s fun o s2=>∃ d:Int,o=.int .i64 d/\(af ((d:Int) != 0)
 (R (.aN [.slc none 0 0 true,.int .i64 d]) s2)
 (ai a0 fun p r=>yD (au s2 p (r+1)) fun w=>pL (bR T aM (.map w) (.str a1) false s2) fun x=>ai a0 fun y z=>yD (au s2 y (z+1)) fun e=>bu (qi T aM (.map e) (.str a1) s2) fun b=>ai a0 fun qL i=>dI (au b qL i) fun j=>ai x fun k l=>aR (aC b k l 16) fun m=>aa Tryz.prog fR [j,.str a1,.agg m] b fun n jl=>∃ v20:AV,∃ c:Int,n=.aN [v20,.int .i64 c]/\(R (.aN [v20,.int .i64 c]) jl)))
def z_:QA:=(.seq .leaf (.seq (.seq .leaf (.seq .leaf (.cond (.seq .leaf .leaf) .leaf))) (.seq .leaf (.seq .leaf (.seq .calm .leaf)))))
theorem Aa (a0:Option (Nat×Nat)) (a1:List UInt8) (s:AS) (R:AV->AS->Prop) (h:z9 a0 a1 s R):aa Tryz.prog eM [.ptr a0,.str a1] s R :=
 aa.q (n:=37) (rs:=[.tmp 4,.tmp 5]) (A:=z_) hT bY Tryz.func21 (by kernel_rfl) rfl rfl rfl (by kernel_rfl) (by kernel_rfl) h
end Go.Proofs.YtohgmogbabkkeaaGreat
end

section
namespace Go.Proofs.YtohgmogbabkkeaaGreat
open Go.Am Go.av Go.aB Go.bE
structure Dv where
 cur:List Int
 place:Nat
 hand:List (List Int)
structure Rq where
 l:Nat
 hv:AV
 d:Dv
 H:List G9
 len:d.cur.length=16
def nk (cur:List Int) (place:Int) (hv:AV):List AV:=cur.map (.int .u64)++[.int .i64 place,hv]
def fJ (m:Rq):List Nat:=m.l::ax m.hv
def GW (F:List Nat) (s:AS) (m:Rq):Prop:=Am.Own s m.l (nk m.d.cur m.d.place m.hv)/\bq rN 16 s m.hv m.H/\m.H.map G9.v=m.d.hand/\∀ y∈fJ m,y∈F
theorem nq {cur:List Int} (h:cur.length=16) (pl:Int) (hv:AV):(nk cur pl hv).length=18:=by simp [nk,h]
theorem BW {cur:List Int} (h:cur.length=16) (pl:Int) (hv:AV):((nk cur pl hv).drop 0).take 16=cur.map (.int .u64):=by
 rw [nk,List.drop_zero,List.take_append_of_le_length (by simp [h]),List.take_of_length_le (by simp [h])]
theorem EU {cur:List Int} (h:cur.length=16) (pl:Int) (hv:AV):(nk cur pl hv)[16]? = some (.int .i64 pl)/\(nk cur pl hv)[17]? = some hv:=by
 constructor <;>
 ·rw [nk,List.getElem?_append_right (by simp [h])];simp [h]
theorem GX {cur:List Int} (h:cur.length=16) (pl b:Int) (hv oM:AV):(nk cur pl hv).set 16 (.int .i64 b)=nk cur b hv/\(nk cur pl hv).set 17 oM=nk cur pl oM:=by
 simp [nk,List.set_append,h]
abbrev sK (t:List UInt8):AV:=.str t
def dP (m:Rq):AV:=.ptr (some (m.l,0))
theorem vr:LG (K:=List UInt8) T aM bX f_ sK (.ptr none) :=
 ⟨kS,fun a b=>by rw [JE mS];simp only [Option.some.injEq];by_cases h:a=b <;> simp [h],fun a=>by kernel_rfl,fun a=>by simp [tj],Cp⟩
structure mj (F:List Nat) (s:AS) (p:Nat) (sec:List Int) (f:List UInt8->Option Dv) (n:Nat):Prop where
 mem:∃ (sv:AV) (hm:Nat) (es:List (List UInt8×Rq×Nat)) (k:Nat),Am.Own s p [sv,.map (some hm)]/\p∈F/\hm∈F/\(bq oT 1 s sv sec/\∀ y∈ax sv,y∈F)/\dM sK dP s hm es k false/\es.length=n /\
  (∀ a m,dh es a=some m->GW F s m/\f a=some m.d)/\(∀ a,dh es a=none->f a=none) /\
  ∀ a b x y,dh es a=some x->dh es b=some y->a≠b->∀ z∈fJ x,z ∉ fJ y
section
variable {F F':List Nat} {s s':AS} {p n:Nat} {sec:List Int} {f:List UInt8->Option Dv}
theorem GW.mut {m:Rq} {L:List Nat} (h:GW F s m) (e:bz L s s') (b:∀ y∈L,y ∉ fJ m):GW F s' m :=
 ⟨h.1.mut e fun hm=>b _ hm (by simp [fJ]),h.2.1.mut e fun y c hm=>b y hm (by simp [fJ,c]),h.2.2⟩
theorem mj.mut {L:List Nat} (h:mj F s p sec f n) (m:bz L s s') (c:∀ y∈L,y ∉ F):mj F s' p sec f n:=by
 obtain ⟨sv,hm,es,k,i,h2,h3,⟨a1,a2⟩,j,c2,d,l,o⟩:=h;exact ⟨sv,hm,es,k,i.mut m (fun b=>c p b h2),h2,h3,⟨a1.mut m (fun y e b=>c y b (a2 y e)),a2⟩,j.mut m (fun b=>c hm b h3),c2,fun a x b=>⟨(d a x b).1.mut m fun y e hd=>c y e ((d a x b).1.2.2.2 y hd),(d a x b).2⟩,l,o⟩
theorem mj.ext (h:mj F s p sec f n) (e:Ext s s'):mj F s' p sec f n:=h.mut (L:=[]) e.mut (by simp)
theorem Dc (h:mj F s p sec f n):aa Tryz.prog fl [.ptr (some (p,0))] s fun r s'=>r=.bool true/\s'=s:=by
 obtain ⟨sv,hm,es,k,b,_⟩:=h;exact BS _ _ _ ⟨_,iU Hi _,af.yes rfl ⟨_,by rw [b.at.au];rfl,_,IN kS _,rfl,rfl⟩⟩
theorem O8 (sv:AV) (h:sv.one=true) (hm:Nat):aS T r7 [(0,sv),(1,.map (some hm))]=some (.agg [sv,.map (some hm)]):=by
 have e1:∀ v:AV,v.one=true->bO v=some [v]:=fun v hv=>by cases v <;> first | rfl | cases hv
 rw [qI (pl:=[(0,1),(1,1)]) (by kernel_rfl) JR rfl];simp only [jt,e1 _ h,e1 (.map (some hm)) rfl,List.getElem?_cons_zero,List.getElem?_cons_succ,List.length_cons,List.length_nil];rfl
theorem U7 {s:AS} {v:AV} {sec:List Int} (hv:fE s v sec) (n:sec.length<=2 ^ 30):aa Tryz.prog qW [v] s fun r s'=>∃ p F,r=.ptr (some (p,0))/\mj F s' p sec (fun _=>none) 0/\(∀ y∈F,s.h y=none)/\(∀ y∈F,s'.h y≠none)/\Ext s s':=by
 refine O7 _ _ _ ?_;refine aa.use (C6 hv n) ?_;rintro j s2 g w2;have k:=g.jh.2;have i:∀ l3:Nat,([j,AV.map (some l3)]).all AV.one=true:=fun l3=>by simp [k]
 refine aj.intro w2 rfl fun l3 s4 d=>⟨_,O8 j k l3,i l3,aj.intro d.wf rfl fun l s7 e=>⟨l,l::l3::ax j,rfl,⟨j,l3,[],0,e.own,by simp,by simp,⟨(g.tI.ext d.ext).ext e.ext,fun y c=>by simp [c]⟩,dM.new (e.ext.1 _ _ d.at),rfl,fun a m hm=>by simp [kM] at hm,fun a _=>rfl,fun a b x y o=>by simp [kM] at o⟩,?_,?_,(g.eC.ext.trans d.ext).trans e.ext⟩⟩
 ·intro y c;simp only [List.mem_cons] at c;rcases c with rfl | rfl | c
  ·exact (g.eC.ext.trans d.ext).none e.no
  ·exact g.eC.ext.none d.no
  ·exact g.new y c
 ·intro y c;simp only [List.mem_cons] at c;rcases c with rfl | rfl | c
  ·rw [e.at];simp
  ·rw [e.ext.1 _ _ d.at];simp
  ·exact bq.jT ((g.tI.ext d.ext).ext e.ext) y c
theorem TC (h:mj F s p sec f n):∃ (sv:AV) (hm:Nat) (es:List (List UInt8×Rq×Nat)) (k:Nat),Am.Own s p [sv,.map (some hm)]/\dM sK dP s hm es k false/\es.length=n/\(∀ a m,dh es a=some m->GW F s m/\f a=some m.d)/\(∀ a,dh es a=none->f a=none)/\∀ a,bR T aM (.map (some hm)) (.str a) false s=some (.ptr ((dh es a).map fun m=>(m.l,0))):=by
 obtain ⟨sv,hm,es,k,c,h2,h3,⟨a1,a2⟩,b,c2,e,i,j⟩:=h;refine ⟨sv,hm,es,k,c,b,c2,e,i,fun a=>?_⟩;have:=b.find vr a false;refine this.trans ?_;cases dh es a <;> rfl
theorem BX (h:mj F s p sec f n) (name:List UInt8) (ok:Bool):aa Tryz.prog fm [.ptr (some (p,0)),.str name,.bool ok] s fun r s'=>r=.int .i64 (if (!aK name||!ok)=true then 2 else if (f name).isNone=true then 7 else 0)/\s'=s:=by
 refine BV _ _ _ _ _ ?_;refine aa.use (Dc h) ?_;rintro v s2 ⟨rfl,rfl⟩ w2;obtain ⟨sv,hm,es,k,j,_,_,o,w,c⟩:=TC h;refine ⟨_,rfl,af.no rfl ⟨fun vs s'=>vs=[.bool (!aK name||!ok)]/\s'=s2,?_,?_⟩⟩
 ·rintro b s6 ⟨hb,rfl⟩;simp only [List.cons.injEq,AV.bool.injEq,and_true] at hb;subst hb;refine af.mk (fun hb=>⟨by simp only [hb,if_true],rfl⟩) (fun hb=>⟨_,by rw [j.at.au];rfl,_,c name,_,iU vC _,?_⟩);have e:(f name).isNone=((dh es name).map fun m=>(m.l,0)).isNone:=by
   cases i:dh es name with
   | none=>rw [w _ i];rfl
   | some m=>rw [(o _ _ i).2];rfl
  rw [<- e];refine af.mk (fun d=>⟨?_,rfl⟩) (fun d=>⟨?_,rfl⟩)
  ·rw [hb,d];rfl
  ·rw [hb,d];rfl
 ·refine aa.use (vo _ _) ?_;rintro x bW ⟨rfl,rfl⟩ y;refine ⟨_,rfl,af.mk (fun hb=>⟨by simp [hb],rfl⟩) (fun hb=>⟨by simp [hb],rfl⟩)⟩
end
/-! ### what is owed -/
noncomputable def Nm (x:aF) (k:Key):Bool:=@decide (∃ d,x.live d=some k) (Classical.propDecidable _)
theorem GY {x:aF} {k:Key}:Nm x k=true↔∃ d,x.live d=some k:=by
 unfold Nm;exact @decide_eq_true_iff _ (Classical.propDecidable _)
def IS (x:aF) (d:aJ):Bool:=!(x.live d).isSome&&x.has d
noncomputable def jU (name:List UInt8) (cur:List Int) (x:aF) (e:Ev):Bool :=
 !under cur e.id&&!(fU e.to name).isEmpty&&(Nm x ⟨e.cQ,name⟩||(fU e.to name).any fun d=>!IS x d)
theorem TD {F:List Nat} {s:AS} {p c:Nat} {x:aF} (e:At s c [.ptr (some (p,0))]) (h:gM F s p x) (d:aJ):aa Tryz.prog sC [.agg (aI d),.ptr (some (c,0))] s fun r s'=>r=.bool (!IS x d)/\Ext s s':=by
 refine aa.pre fun i=>H9 _ _ _ _ ⟨rfl,aj.intro i rfl fun l1 s2 b=>⟨_,by rw [(e.ext b.ext).au];rfl,_,b.own.at.aC (by simp [aI]),?_⟩⟩;refine aa.use (UB (h.ext b.ext) d) ?_;rintro v s8 ⟨rfl,j⟩ k;exact ⟨_,rfl,rfl,b.ext.trans j⟩
set_option maxRecDepth 20000 in
theorem U8 {F:List Nat} {s:AS} {p l:Nat} {x:aF} {m:lT} {cur:List Int} {cs:List AV} (hm:zV s m) (J:m.ev.to.length<=2 ^ 29) (h:gM F s p x) (D:x.nl<65536) (k:cur.length=16) (hd:At s l cs) (G:(cs.drop 0).take 16=cur.map (.int .u64)) (O:16<=cs.length) (name:List UInt8) :
  aa Tryz.prog wM [.str name,.ptr (some (l,0)),.agg (ie m),.ptr (some (p,0))] s fun r s'=>r=.bool (jU name cur x m.ev)/\Ext s s':=by
 have ev:=bf m;refine aa.pre fun Q=>Nl _ _ _ _ _ _ ⟨dW m,aj.intro Q rfl fun l1 s2 B=>aj.intro B.wf rfl fun l3 s4 n=>?_⟩;have K:=B.ext.trans n.ext;refine ⟨_,(B.own.ext n.ext).at.aC (by omega),?_⟩;rw [gT];refine aa.use (Xh (hm.ext K) J name) ?_;rintro v6 s7 o w7;have L:=K.trans o.eC.ext;have M:=((B.own.ext n.ext).ext o.eC.ext).at;have R:(fU m.ev.to name).length<=2 ^ 29:=by
  simp only [fU,List.length_map];exact Nat.le_trans (List.length_filter_le _ _) J
 refine ⟨_,(hd.ext L).aC (by omega),_,M.aC (by rw [ev];omega),?_⟩;rw [G,O2];refine aa.use (Tt k _ _) ?_;rintro S bW ⟨rfl,i⟩ U;have c:=L.trans i;have y:=(o.sl bn).ext i;refine ⟨_,rfl,af.mk (fun hu=>⟨by simp [jU,hu],c⟩) (fun hu=>⟨_,y.cJ bI _,af.mk (fun C=>⟨?_,c⟩) (fun C=>⟨_,by rw [((n.own.ext o.eC.ext).ext i).at.au];rfl,m.ev.cQ,by rw [(M.ext i).au];rfl,_,qN _ _,?_⟩)⟩)⟩
 ·have W:(((fU m.ev.to name).length:Nat):Int)=0:=beq_iff_eq.1 C;have:fU m.ev.to name=[]:=List.length_eq_zero_iff.1 (by omega);simp [jU,this]
 have z:(fU m.ev.to name).isEmpty=false:=by
  cases X:fU m.ev.to name with
  | nil=>rw [X] at C;simp at C
  | cons a b=>rfl
 refine aa.use (S1 (h.ext c) D _) ?_;rintro Y gy ⟨⟨b,rfl,hb⟩,j⟩ Z;have A:b=Nm x ⟨m.ev.cQ,name⟩:=by
  rw [Bool.eq_iff_iff,hb,GY]
 refine ⟨_,rfl,af.mk (fun H=>⟨?_,c.trans j⟩) (fun H=>?_)⟩
 ·simp [jU,hu,z,<- A,H]
 ·refine aa.use (C3 (P:=fun d=>!IS x d) (y.ext j) (by omega) fun d hd s' e w=>TD (((n.own.ext o.eC.ext).ext i).ext (j.trans e)).at (h.ext ((c.trans j).trans e)) d) ?_;rintro ab uj ⟨rfl,I⟩ ad;refine ⟨_,rfl,?_,(c.trans j).trans I⟩;simp [jU,hu,z,<- A,H]
end Go.Proofs.YtohgmogbabkkeaaGreat
end

section
namespace Go.Proofs.YtohgmogbabkkeaaGreat
open Go.Am Go.av Go.aB Go.bE
set_option maxRecDepth 20000 in
theorem TE {s:AS} {lo Z lm l:Nat} {out hv:AV} {Lo:List lT} {H:List G9} {cur:List Int} {pl most:Int} (n:cur.length=16) (oo:Am.Own s lo [out]) (op:Am.Own s Z [.ptr (some (l,0))]) (om:Am.Own s lm [.int .i64 most]) (od:Am.Own s l (nk cur pl hv))
  (gO:bq ie 21 s out Lo) (gH:bq rN 16 s hv H) (a0:lo≠Z) (a1:lo≠lm) (J:lo≠l) (b6:Z≠l) (a2:lm≠l) (A:Lo.length+1<=2 ^ 29) (b7:H.length+1<=2 ^ 29) (m:lT) (v:G9) :
  aa Tryz.prog bP [.agg (ie m),.agg (rN v),.ptr (some (lo,0)),.ptr (some (Z,0)),.ptr (some (lm,0))] s fun r s'=>r=.bool (decide (((Lo.length+1:Nat):Int)<most))/\∃ p oM,Am.Own s' lo [p]/\Am.Own s' l (nk cur pl oM)/\bq ie 21 s' p (Lo++[m])/\bq rN 16 s' oM (H++[v]) /\
   bz (lo::l::(ax out++ax hv)) s s'/\(∀ y∈ax p++ax oM,y∈ax out++ax hv\/s.h y=none):=by
 have ev:=bf m;have vv:=cN v;refine aa.pre fun hw=>z8 _ _ _ _ _ _ _ ⟨dW m,aj.intro hw rfl fun l1 s2 F2=>⟨oU v,aj.intro F2.wf rfl fun l3 s4 F4=>?_⟩⟩;have F:=F2.ext.trans F4.ext;have o1:=F2.own.ext F4.ext;have o3:=F4.own;have ab:=oo.ext F;have a3:=op.ext F;have a4:=om.ext F;have ad:=od.ext F;have a5:=gO.ext F;have a6:=gH.ext F;have d1:lo≠l1:=fun e=>by
  have:=F2.no;rw [<- e,oo] at this;cases this
 have d3:lo≠l3:=fun e=>by
  have:=F4.no;rw [<- e,oo.ext F2.ext] at this;cases this
 have a7:=nq n pl hv;have a8:=EU n pl hv
 let X:AS->AS->Prop:=fun a b=>(∀ y cs,y≠lo->Am.Own a y cs->Am.Own b y cs)/\(∀ v,bq ie 21 a v (Lo++[m])->bq ie 21 b v (Lo++[m]))/\(∀ w,bq rN 16 a w (H++[v])->bq rN 16 b w (H++[v]))/\(a.h lo≠none->b.h lo≠none)/\bz (lo::(ax out++ax hv)) a b
 have rp:∀ s',X s4 s'->au s' Z 0=some (.ptr (some (l,0))):=fun s' x=>by rw [(x.1 _ _ (Ne.symm a0) a3).at.au];rfl
 have r1:∀ s',X s4 s'->aC s' l1 0 21=some (ie m):=fun s' x=>by rw [(x.1 _ _ (Ne.symm d1) o1).at.aC (by omega),gT]
 have r3:∀ s',X s4 s'->aC s' l3 0 16=some (rN v):=fun s' x=>by rw [(x.1 _ _ (Ne.symm d3) o3).at.aC (by omega),List.drop_zero,List.take_of_length_le (by omega)]
 have rd:∀ s',X s4 s'->au s' l (0+17)=some hv:=fun s' x=>by rw [(x.1 _ _ (Ne.symm J) ad).at.au];exact a8.2
 have X0:X s4 s4:=⟨fun _ _ _ h=>h,fun _ h=>h,fun _ h=>h,id,bz.refl _ _⟩;have K:∀ {s':AS},X s4 s'->s'.h lo≠none:=fun x=>x.2.2.2.1 (by rw [ab];simp);have new:∀ {s':AS} {y:Nat},X s4 s'->s'.h y=none->y∈ax out++ax hv\/s.h y=none:=fun {s' y} x A=>by
  by_cases d:y∈ax out++ax hv
  ·exact .inl d
  ·right;refine F.none ?_;cases i:s4.h y with
   | none=>rfl
   | some o =>
    have L:y≠lo:=fun e=>K x (e ▸ A);rw [x.2.2.2.2.1 y o (by simp only [List.mem_cons,not_or];exact ⟨L,d⟩) i] at A;cases A
 refine ⟨X,fun q ks w s'=>(q=1->w=out/\Am.Own s' lo [out]/\bq ie 21 s' out Lo/\bq rN 16 s' hv H)/\(q=4->Am.Own s' lo [out]/\bq rN 16 s' hv H)/\(q=11->Am.Own s' lo [out])/\(q=12->∃ k x,ks=[k,x]/\Am.Own s' lo [x]),fun s'=>Am.Own s' lo [out]/\bq ie 21 s' out Lo/\bq rN 16 s' hv H,
  fun q _ w s'=>(q=3->∃ a,w=.slc (some (a,0)) 1 1 true/\Am.Own s' a (ie m)/\a≠lo)/\(q=10->∃ a,w=.slc (some (a,0)) 1 1 true/\Am.Own s' a (rN v)/\a≠lo)/\(q=4->bq ie 21 s' w (Lo++[m])/\∀ y∈ax w,y∈ax out++ax hv\/s.h y=none)/\(q=11->bq rN 16 s' w (H++[v])/\∀ y∈ax w,y∈ax out++ax hv\/s.h y=none),
  fun q _ w=>(q=1->w=out)/\(q=4\/q=11->w.one=true)/\(q=12->w=.aN []),fun a b e=>⟨fun _ _ _ h=>h.ext e,fun _ h=>h.ext e,fun _ h=>h.ext e,fun A=>(by cases i:a.h lo with | none=>exact absurd i A | some o=>rw [e.1 _ _ i];simp),e.mut⟩,fun a b c x y=>⟨fun z cs hz h=>y.1 z cs hz (x.1 z cs hz h),fun w h=>y.2.1 w (x.2.1 w h),fun w h=>y.2.2.1 w (x.2.2.1 w h),fun A=>y.2.2.2.1 (x.2.2.2.1 A),x.2.2.2.2.trans y.2.2.2.2⟩,?_,?_,fun a b e h=>⟨h.1.ext e,h.2.1.ext e,h.2.2.ext e⟩,⟨ab,a5,a6⟩,?_⟩
 ·rintro q ks w a b e ⟨U,h2,h3,h4⟩;exact ⟨fun i=>⟨(U i).1,(U i).2.1.ext e,(U i).2.2.1.ext e,(U i).2.2.2.ext e⟩,fun i=>⟨(h2 i).1.ext e,(h2 i).2.ext e⟩,fun i=>(h3 i).ext e,fun i=>by obtain ⟨k,x,y,z⟩:=h4 i;exact ⟨k,x,y,z.ext e⟩⟩
 ·rintro q ks w a b x ⟨U,h2,h3,h4⟩;refine ⟨fun i=>?_,fun i=>?_,fun i=>⟨x.2.1 _ (h3 i).1,(h3 i).2⟩,fun i=>⟨x.2.2.1 _ (h4 i).1,(h4 i).2⟩⟩
  ·obtain ⟨y,e1,e2,e3⟩:=U i;exact ⟨y,e1,x.1 _ _ e3 e2,e3⟩
  ·obtain ⟨y,e1,e2,e3⟩:=h2 i;exact ⟨y,e1,x.1 _ _ e3 e2,e3⟩
 have cx:∀ {q:Nat} {P:Prop},(q≠q->P):=fun h=>absurd rfl h;refine ⟨_,rp _ X0,fun s' x _=>⟨_,rp _ x,rfl⟩,fun dH b8 b9 _ B=>⟨out,by rw [B.1.at.au];rfl,⟨⟨fun _ _ _ h=>h,fun _ h=>h,fun _ h=>h,id,bz.refl _ _⟩,(fun _=>⟨rfl,B⟩),(fun h=>by cases h),(fun h=>by cases h),(fun h=>by cases h)⟩,⟨(fun h=>by cases h),(fun h=>by cases h),(fun h=>by cases h),(fun h=>by cases h)⟩,(fun _=>rfl),(fun h=>by rcases h with h | h <;> cases h),(fun h=>by cases h)⟩,⟨out,(fun _=>rfl),(fun h=>by rcases h with h | h <;> cases h),(fun h=>by cases h)⟩,fun oC ae=>?_⟩;obtain rfl:=ae.1 rfl;refine ⟨_,r1 _ X0,fun s' x _=>⟨_,r1 _ x,rfl⟩,fun gy a9 a' _=>⟨_,kL oJ ev (dW m),aj.intro a' rfl fun ba uj M=>⟨M.ext,⟨(fun _=>⟨ba,rfl,M.own,?_⟩),(fun h=>by cases h),(fun h=>by cases h),(fun h=>by cases h)⟩,(fun h=>by cases h),(fun h=>by rcases h with h | h <;> cases h),(fun h=>by cases h)⟩⟩,⟨.bad,(fun h=>by cases h),(fun h=>by rcases h with h | h <;> cases h),(fun h=>by cases h)⟩,fun b' _=>⟨fun dZ bb bc W B=>?_,⟨.nilFunc,(fun h=>by cases h),(fun _=>rfl),(fun h=>by cases h)⟩,fun O al=>?_⟩⟩
 ·exact fun e=>K a9 (e ▸ M.no)
 ·obtain ⟨a,rfl,hA,L⟩:=W.2.1.1 rfl;obtain ⟨_,C,c2,Y⟩:=B.1 rfl;obtain ⟨v',s',e1,g1,j,_,n1⟩:=bq.append oJ bf dW bc c2 (C9 bf hA.at) (by simp;omega) dA;have t1:=bq.tag c2;have WJ:lo ∉ ax oC:=fun d=>by have:=(t1 _ d).uniq (Own.tag C);omega
  refine ⟨v',s',e1,⟨⟨fun y cs d o=>o.mut j fun D=>?_,fun w g=>g.mut j (bq.GU bf (by decide) g c2 (by simp)),fun w g=>g.mut j fun y d D=>?_,fun A=>?_,j.mono fun y d=>by simp [d]⟩,(fun h=>by cases h),(fun _=>⟨C.mut j WJ,Y.mut j fun y d D=>?_⟩),(fun h=>by cases h),(fun h=>by cases h)⟩,⟨(fun h=>by cases h),(fun h=>by cases h),(fun _=>⟨g1,fun y d=>?_⟩),(fun h=>by cases h)⟩,(fun h=>by cases h),(fun _=>bq.one g1),(fun h=>by cases h)⟩
  ·have:=(t1 _ D).uniq (Own.tag o);omega
  ·have:=(t1 _ D).uniq (bq.tag g y d);omega
  ·rw [j.1 lo _ WJ C];simp
  ·have:=(t1 _ D).uniq (bq.tag Y y d);omega
  ·rcases n1 y d with h | h
   ·exact .inl (List.mem_append_left _ h)
   ·exact new bb h
 refine ⟨_,rp _ X0,fun s' x _=>⟨_,rp _ x,rfl⟩,fun s' _ _=>rfl,_,rd _ X0,fun s' x _=>⟨_,rd _ x,rfl⟩,_,r3 _ X0,fun s' x _=>⟨_,r3 _ x,rfl⟩,fun ca bd be _=>⟨_,kL ig vv (oU v),aj.intro be rfl fun bh cb Q=>⟨Q.ext,⟨(fun h=>by cases h),(fun _=>⟨bh,rfl,Q.own,?_⟩),(fun h=>by cases h),(fun h=>by cases h)⟩,(fun h=>by cases h),(fun h=>by rcases h with h | h <;> cases h),(fun h=>by cases h)⟩⟩,⟨.bad,(fun h=>by cases h),(fun h=>by rcases h with h | h <;> cases h),(fun h=>by cases h)⟩,fun cc _=>⟨fun cd bi bj W B=>?_,⟨.nilFunc,(fun h=>by cases h),(fun _=>rfl),(fun h=>by cases h)⟩,fun R am=>⟨fun bk ce bl W B=>?_,⟨.aN [],(fun h=>by cases h),(fun h=>by rcases h with h | h <;> cases h),(fun _=>rfl)⟩,fun cf an=>⟨an.2.2 rfl,fun bm S bo W B=>?_⟩⟩⟩⟩
 ·exact fun e=>K bd (e ▸ Q.no)
 ·obtain ⟨a,rfl,hA,L⟩:=W.2.2.2.1.2.1 rfl;obtain ⟨C,Y⟩:=B.2.1 rfl;obtain ⟨v',s',e1,g1,j,_,n1⟩:=bq.append ig cN oU bj Y (C9 cN hA.at) (by simp;omega) dQ;have t1:=bq.tag Y;have WJ:lo ∉ ax hv:=fun d=>by have:=(t1 _ d).uniq (Own.tag C);omega
  refine ⟨v',s',e1,⟨⟨fun y cs d o=>o.mut j fun D=>?_,fun w g=>g.mut j fun y d D=>?_,fun w g=>g.mut j (bq.GU cN (by decide) g Y (by simp)),fun A=>?_,j.mono fun y d=>by simp [d]⟩,(fun h=>by cases h),(fun h=>by cases h),(fun _=>C.mut j WJ),(fun h=>by cases h)⟩,⟨(fun h=>by cases h),(fun h=>by cases h),(fun h=>by cases h),(fun _=>⟨g1,fun y d=>?_⟩)⟩,(fun h=>by cases h),(fun _=>bq.one g1),(fun h=>by cases h)⟩
  ·have:=(t1 _ D).uniq (Own.tag o);omega
  ·have:=(t1 _ D).uniq (bq.tag g y d);omega
  ·rw [j.1 lo _ WJ C];simp
  ·rcases n1 y d with h | h
   ·exact .inl (List.mem_append_right _ h)
   ·exact new bi h
 ·have C:=B.2.2.1 rfl;refine cS (al.2.1 (.inl rfl)) xW (bu.own bl C (by simp) fun bs P=>?_);have oP:Am.Own bs lo [O]:=P.at;have tl:∀ y∈[lo],∀ g,Tag bk y g->g=0:=fun y d g t=>by
   obtain rfl:=List.mem_singleton.1 d;exact t.uniq (Own.tag C)
  refine ⟨⟨⟨fun y cs d o=>o.mut P.mut (by simpa using d),fun w g=>bq.fq g P.mut fun y d g t=>by rw [tl y d g t];decide,fun w g=>bq.fq g P.mut fun y d g t=>by rw [tl y d g t];decide,fun _=>by rw [oP];simp,P.mut.mono (by simp)⟩,(fun h=>by cases h),(fun h=>by cases h),(fun h=>by cases h),(fun _=>⟨_,_,rfl,oP⟩)⟩,⟨(fun h=>by cases h),(fun h=>by cases h),(fun h=>by cases h),(fun h=>by cases h)⟩,(fun h=>by cases h),(fun h=>by rcases h with h | h <;> cases h),(fun _=>rfl)⟩
 ·obtain ⟨_,_,⟨_,_,h4,_⟩,_,⟨_,_,_,bx⟩,_⟩:=W;obtain ⟨b0,b1⟩:=h4 rfl;obtain ⟨b2,b3⟩:=bx rfl;obtain ⟨k,x,hk,b4⟩:=B.2.2.2 rfl;simp only [List.cons.injEq,and_true] at hk;obtain ⟨_,rfl⟩:=hk;have G:=S.1 _ _ (Ne.symm J) ad;have ao:=S.1 _ _ (Ne.symm a1) a4;refine cS (am.2.1 (.inr rfl)) q9 (bu.own bo G (by simp [a7]) fun b5 P=>?_);have oP:Am.Own b5 l (nk cur pl R):=by
   have:=P.at;rw [fF,Nat.zero_add,(GX n pl pl hv R).2] at this;exact this
  have tl:∀ y∈[l],∀ g,Tag bm y g->g=0:=fun y d g t=>by
   obtain rfl:=List.mem_singleton.1 d;exact t.uniq (Own.tag G)
  have I:=bq.fq b0 P.mut fun y d g t=>by rw [tl y d g t];decide
  have ar:=bq.fq b2 P.mut fun y d g t=>by rw [tl y d g t];decide
  have aw:=b4.mut P.mut (by simpa using J);refine ⟨O,by rw [aw.at.au];rfl,_,(I.sl bf).cJ dA _,most,by rw [(ao.mut P.mut (by simpa using a2)).at.au];rfl,?_,O,R,aw,oP,I,ar,?_,?_⟩
  ·rw [List.length_append];rfl
  ·exact (F.mut.trans (S.2.2.2.2.mono fun y d=>by
    simp only [List.mem_cons,List.mem_append] at d ⊢;rcases d with h | h | h <;> simp [h])).trans (P.mut.mono (by simp))
  ·intro y d;rcases List.mem_append.1 d with d | d
   ·exact b1 y d
   ·exact b3 y d
end Go.Proofs.YtohgmogbabkkeaaGreat
end

section
namespace Go.Proofs.YtohgmogbabkkeaaGreat
open Go.Am Go.av Go.aB Go.bE
def scan (P:Ev->Bool) (stop:Nat->Bool):List (Ev×List Int)->Nat->List (Ev×List Int)×Nat
 | [],_=>([],0)
 | x::xs,k=>if P x.1 then (if stop (k+1) then ([x],1) else (x::(scan P stop xs (k+1)).1,(scan P stop xs (k+1)).2+1)) else ((scan P stop xs k).1,(scan P stop xs k).2+1)
def sX (c:gY):List (Ev×List Int):=c.log.zip c.KS
theorem KX {c:gY} (h:c.KS.length=c.log.length):(sX c).length=c.log.length:=by simp [sX,h]
theorem U9 {c:gY} {i:Nat} {e:Ev} {v:List Int} (b:c.log[i]? = some e) (h2:c.KS[i]? = some v):(sX c)[i]? = some (e,v):=by
 rw [sX,List.getElem?_zip_eq_some];exact ⟨b,h2⟩
set_option maxRecDepth 20000 in
theorem U_ {Fc Fs:List Nat} {s0:AS} {l pc ps:Nat} {c:gY} {x:aF} {cur:List Int} {pl:Nat} {name:List UInt8} {g:FuncId} {cap:List AV} {stop:Nat->Bool} {J:List (lT×G9)->AS->Prop}
  (j:cur.length=16) (hb:c.KS.length=c.log.length) (a7:c.log.length<=2 ^ 28) (Z:∀ e∈c.log,e.vn.length<=2 ^ 29/\e.to.length<=2 ^ 29) (ab:x.nl<65536) (ad:pl<=c.log.length)
  (Jw:∀ d s,J d s->aG s) (Je:∀ d s s',J d s->Ext s s'->aG s'->J d s') (Jd:∀ d s,J d s->∃ hv,Am.Own s l (nk cur pl hv)) (Jc:∀ d s,J d s->k7 Fc s pc c) (Js:∀ d s,J d s->gM Fs s ps x)
  (step:∀ d s m v,J d s->kh (KV m) s m->d.length<=2 ^ 28->aa Tryz.prog g ([.agg (ie m),.agg (rN v)]++cap) s fun r s'=>r=.bool (!stop (d.length+1))/\(aG s'->J (d++[(m,v)]) s')) (h0:J [] s0) :
  aa Tryz.prog cD [.ptr (some (l,0)),.str name,.ptr (some (pc,0)),.ptr (some (ps,0)),.func g cap] s0 fun r s'=>∃ d,r=.int .i64 ((pl+(scan (jU name cur x) stop ((sX c).drop pl) 0).2:Nat):Int)/\d.map (fun z=>(z.1.ev,z.2.v))=(scan (jU name cur x) stop ((sX c).drop pl) 0).1/\J d s':=by
 have a8:=KX hb;obtain ⟨ae,o0⟩:=Jd _ _ h0;refine z5 _ _ _ _ _ _ _ ⟨_,by rw [o0.at.au];exact (EU j _ ae).1,?_⟩;refine ⟨fun m vs s'=>∃ (i:Nat) (d:List (lT×G9)),vs=[.int .i64 (i:Nat)]/\pl<=i/\i<=c.log.length/\m=c.log.length - i/\d.length<=i/\J d s'/\(scan (jU name cur x) stop ((sX c).drop pl) 0).1=d.map (fun z=>(z.1.ev,z.2.v))++(scan (jU name cur x) stop ((sX c).drop i) d.length).1/\pl+(scan (jU name cur x) stop ((sX c).drop pl) 0).2=i+(scan (jU name cur x) stop ((sX c).drop i) d.length).2,c.log.length - pl,⟨pl,[],rfl,by omega,ad,rfl,by simp,h0,by simp,by simp⟩,?_⟩;rintro m n s8 ⟨i,d,hi,h5,h6,rfl,a9,Y,k,o⟩;simp only [List.cons.injEq,AV.int.injEq,true_and,and_true] at hi;subst hi;refine aa.use (U3 (Jc _ _ Y)) ?_;rintro v9 a' ⟨rfl,rfl⟩ ba;refine ⟨_,rfl,af.dec (fun bb=>?_) (fun bc=>?_)⟩
 ·refine aa.use (Ww (Jc _ _ Y) hb (i:=i) (by omega) (fun e he=>⟨by have:=(Z e he).1;omega,by have:=(Z e he).2;omega⟩) (by omega)) ?_;rintro bd bW ⟨m,v,G,F,M,rfl,gE,nG,tG,al⟩ am;have an:kh (KV m) bW m:=⟨gE.1,gE.2.1,fun y hy=>List.mem_append.2 hy⟩;refine ⟨_,_,_,rfl,?_⟩;refine aj.intro am rfl fun O eT p=>aj.intro p.wf rfl fun Ac gy w=>⟨⟨dW m,by rw [bf]⟩,bu.own w.wf (p.own.ext w.ext) (by rw [bf];exact Nat.le_refl _) fun gG A=>?_⟩;have d79:O≠Ac:=fun e=>by
   have:=w.no;rw [<- e,p.own] at this;cases this
  have ao:Am.Own gG O (ie m):=by
   have:=A.at;rw [dD (by rw [bf];rfl)] at this;exact this
  have ar:Am.Own gG Ac (fo.map (.int .u64)):=w.own.mut A.mut (by simpa using Ne.symm d79);refine ⟨⟨oU v,by rw [cN]⟩,bu.own A.wf ar (by rw [cN];simp [fo]) fun fT B=>?_⟩;have aw:Am.Own fT Ac (rN v):=by
   have:=B.at;rw [dD (by rw [cN];simp [fo])] at this;exact this
  have Q:=ao.mut B.mut (by simpa using d79);have R:Ext bW fT:=Ext.wr (Ext.wr (p.ext.trans w.ext) p.no A.mut) (p.ext.none w.no) B.mut;have I:=Je _ _ _ Y (al.trans R) B.wf;have S:=an.ext R;have a0:=U9 F M;have K:(sX c).drop i=(m.ev,v.v)::(sX c).drop (i+1):=by
   have h:=List.drop_eq_getElem_cons (l:=sX c) (i:=i) (by omega);rw [h,(List.getElem?_eq_some_iff.1 a0).2]
  rw [K] at k o;have a1:=Z m.ev (List.mem_of_getElem? F);refine ⟨fun vs s'=>∃ H b,vs=[.bool b]/\J H s'/\H.length<=i+1/\(scan (jU name cur x) stop ((sX c).drop pl) 0).1=H.map (fun z=>(z.1.ev,z.2.v))++(if b then [] else (scan (jU name cur x) stop ((sX c).drop (i+1)) H.length).1)/\pl+(scan (jU name cur x) stop ((sX c).drop pl) 0).2=i+1+(if b then 0 else (scan (jU name cur x) stop ((sX c).drop (i+1)) H.length).2),?_,?_⟩
  ·rintro b dZ ⟨H,b',U,C,a2,L,h2⟩;simp only [List.cons.injEq,AV.bool.injEq,and_true] at U;subst U;refine af.mk (fun hb=>?_) (fun hb=>?_)
   ·rw [hb] at L h2;simp only [if_true,List.append_nil,Nat.add_zero] at L h2;exact ⟨H,by rw [BI (by omega),h2],L.symm,C⟩
   ·rw [hb] at L h2;simp only [Bool.false_eq_true,if_false] at L h2;exact ⟨c.log.length - (i+1),by omega,i+1,H,by rw [BI (by omega)],by omega,by omega,rfl,a2,C,L,h2⟩
  ·refine ⟨_,Q.at.aC (by rw [bf];omega),?_⟩;rw [gT];obtain ⟨hv,od⟩:=Jd _ _ I;refine aa.use (U8 S.at a1.2 (Js _ _ I) ab j od.at (BW j _ hv) (by rw [nq j];omega) name) ?_;rintro be a3 ⟨rfl,D⟩ a4;have W:=Je _ _ _ I D a4;refine ⟨_,rfl,af.mk (fun X=>?_) (fun X=>?_)⟩
   ·refine ⟨_,(Q.ext D).at.aC (by rw [bf];omega),_,(aw.ext D).at.aC (by rw [cN];omega),?_⟩;rw [gT,List.drop_zero,List.take_of_length_le (by rw [cN];omega)];show aa _ _ _ _ _;refine aa.use (step d a3 m v W (S.ext D) (by omega)) ?_;rintro bh bi ⟨rfl,C⟩ a5;refine ⟨_,rfl,d++[(m,v)],_,rfl,C a5,by simp;omega,?_,?_⟩
    ·rw [k,scan,if_pos X];cases a6:stop (d.length+1) <;> simp
    ·rw [o,scan,if_pos X];cases a6:stop (d.length+1) <;> simp <;> omega
   ·refine ⟨d,false,rfl,W,by omega,?_,?_⟩
    ·rw [k,scan,if_neg (by rw [X];simp)];simp
    ·rw [o,scan,if_neg (by rw [X];simp)];simp;omega
 ·have:(sX c).drop i=[]:=List.drop_eq_nil_of_le (by omega);rw [this] at k o;simp only [scan,List.append_nil,Nat.add_zero] at k o;exact ⟨d,by rw [o],k.symm,Y⟩
end Go.Proofs.YtohgmogbabkkeaaGreat
end

section
namespace Go.Proofs.YtohgmogbabkkeaaGreat
open Go.Am Go.av Go.aB Go.bE
theorem Tag.IT {s:AS} {y g:Nat} {es:List (AV×AV×Nat)} {k:Nat} {ro:Bool} (h:s.h y=some (.map es k ro)):¬ Tag s y g:=fun ⟨cs,t⟩=>by rw [h] at t;cases t
theorem Own.Xi {s:AS} {a b:Nat} {x y:List AV} (h:Am.Own s a x) (c:Am.Own s b y) (d:x.length≠y.length):a≠b:=fun e=>by
 subst e;have:x=y:=At.inj h.at c.at;exact d (by rw [this])
section
variable {F:List Nat} {s:AS} {p n:Nat} {sec:List Int} {f:List UInt8->Option Dv}
theorem mj.tight (h:mj F s p sec f n):∃ F0,mj F0 s p sec f n/\(∀ y∈F0,y∈F)/\∀ y∈F0,s.h y≠none:=by
 obtain ⟨sv,hm,es,k,w,h2,h3,⟨a1,a2⟩,r,c2,l,x,z⟩:=h;have o:∀ a m,dh es a=some m->∃ e∈es,e.2.1=m:=fun a m d=>by
  obtain ⟨j,k,hj⟩:=Cj d;exact ⟨_,List.mem_of_getElem? hj,rfl⟩
 have c:∀ e∈es,dh es e.1=some e.2.1:=fun e i=>FL r.nd i;refine ⟨p::hm::(ax sv++es.flatMap fun e=>fJ e.2.1),⟨sv,hm,es,k,w,by simp,by simp,⟨a1,fun y b=>by simp [b]⟩,r,c2,fun a m d=>⟨⟨(l a m d).1.1,(l a m d).1.2.1,(l a m d).1.2.2.1,fun y b=>?_⟩,(l a m d).2⟩,x,z⟩,?_,?_⟩
 ·obtain ⟨e,i,rfl⟩:=o a m d;have:y∈es.flatMap fun e=>fJ e.2.1:=List.mem_flatMap.2 ⟨e,i,b⟩;simp only [List.mem_cons,List.mem_append,this,or_true]
 ·intro y b;simp only [List.mem_cons,List.mem_append] at b;rcases b with rfl | rfl | b | b
  ·exact h2
  ·exact h3
  ·exact a2 y b
  ·obtain ⟨e,i,b⟩:=List.mem_flatMap.1 b;exact (l _ _ (c e i)).1.2.2.2 y b
 ·intro y b;simp only [List.mem_cons,List.mem_append] at b;rcases b with rfl | rfl | b | b
  ·rw [w];simp
  ·rw [r.obj];simp
  ·exact bq.jT a1 y b
  ·obtain ⟨e,i,b⟩:=List.mem_flatMap.1 b;obtain ⟨d1,d2,_⟩:=(l _ _ (c e i)).1;rcases List.mem_cons.1 b with rfl | b
   ·rw [d1];simp
   ·exact bq.jT d2 y b
def e_ (f:List UInt8->Option Dv) (a:List UInt8) (d:Option Dv):List UInt8->Option Dv:=fun b=>if b=a then d else f b
theorem BY (a:List UInt8) (m':Rq):∀ (es:List (List UInt8×Rq×Nat)) (b:List UInt8),dh (es.map fun e=>if e.1=a then (e.1,m',e.2.2) else e) b=if b=a then (dh es a).map (fun _=>m') else dh es b
 | [],b=>by simp [kM]
 | e::es,b=>by
  rw [List.map_cons,dR,BY a m' es b,dR,dR];by_cases c:e.1=a
  ·by_cases h2:b=a
   ·subst h2;simp [c]
   ·have:¬ a=b:=fun h=>h2 h.symm;simp [c,h2,this]
  ·by_cases h2:b=a
   ·subst h2;simp [c]
   ·simp [c,h2]
theorem mj.dev (h:mj F s p sec f n) (S:∀ y∈F,s.h y≠none) {name:List UInt8} {d:Dv} (hd:f name=some d):∃ (m:Rq) (sv:AV) (hm:Nat),m.d=d/\GW F s m/\Am.Own s p [sv,.map (some hm)]/\(bq oT 1 s sv sec/\∀ y∈ax sv,y∈F)/\(∀ s',Ext s s'->bR T aM (.map (some hm)) (.str name) false s'=some (.ptr (some (m.l,0))))/\p ∉ fJ m/\(∀ y∈ax sv,y ∉ fJ m) /\
  ∀ (s':AS) (m':Rq),m'.l=m.l->bz (fJ m) s s'->Am.Own s' m.l (nk m'.d.cur m'.d.place m'.hv)->bq rN 16 s' m'.hv m'.H->m'.H.map G9.v=m'.d.hand->(∀ y∈ax m'.hv,y∈fJ m\/s.h y=none) ->
   ∃ F',mj F' s' p sec (e_ f name (some m'.d)) n/\(∀ y∈F',y∈F\/s.h y=none)/\∀ y∈F',s'.h y≠none:=by
 obtain ⟨sv,hm,es,k,O,h2,h3,⟨a1,a2⟩,B,c2,U,c4,Q⟩:=id h;cases r:dh es name with
 | none=>rw [c4 _ r] at hd;cases hd
 | some m =>
  obtain ⟨w,I⟩:=U _ _ r;rw [hd] at I;have tm:∀ y∈fJ m,∀ g,Tag s y g->g=0\/g=16:=fun y c g t=>by
   rcases List.mem_cons.1 c with rfl | c
   ·exact .inl (t.uniq (Own.tag w.1))
   ·exact .inr (t.uniq (bq.tag w.2.1 y c))
  have J:p ∉ fJ m:=fun c=>by
   rcases List.mem_cons.1 c with e | c
   ·exact Own.Xi O w.1 (by rw [nq m.len];simp) e
   ·have:=(bq.tag w.2.1 _ c).uniq (Own.tag O);omega
  have K:∀ y∈ax sv,y ∉ fJ m:=fun y c W=>by rcases tm y W 1 (bq.tag a1 y c) with h | h <;> omega
  have X:hm ∉ fJ m:=fun c=>by
   rcases List.mem_cons.1 c with e | c
   ·exact Tag.IT B.obj (e ▸ Own.tag w.1)
   ·exact Tag.IT B.obj (bq.tag w.2.1 _ c)
  refine ⟨m,sv,hm,(Option.some.inj I).symm,w,O,⟨a1,a2⟩,fun s' e=>?_,J,K,fun s' m' Y R ho hg hH C=>?_⟩
  ·have:=(B.ext e).find vr name false;rw [r] at this;exact this
  have L:fJ m'=m.l::ax m'.hv:=by rw [fJ,Y]
  have hC:mj (ax m'.hv++F) s' p sec (e_ f name (some m'.d)) n:=by
   refine ⟨sv,hm,es.map fun e=>if e.1=name then (e.1,m',e.2.2) else e,k,O.mut R J,by simp [h2],by simp [h3],⟨a1.mut R K,fun y c=>by simp [a2 y c]⟩,?_,by rw [List.length_map,c2],fun a x o=>?_,fun a i=>?_,fun a b x y o c j=>?_⟩
   ·have Z:=B.mut R X;refine ⟨?_,?_,?_,?_⟩
    ·rw [Z.obj];congr 2;simp only [mb,List.map_map];apply List.map_congr_left;intro e he;simp only [Function.comp];split
     ·rename_i M;have:=FL B.nd he;rw [M,r] at this;have:=Option.some.inj this;simp only [dP,<- this,Y]
     ·rfl
    ·rw [List.pairwise_map];refine B.st.imp fun {a b} j=>?_;split <;> split <;> exact j
    ·intro e he;obtain ⟨e0,ab,rfl⟩:=List.mem_map.1 he;have:=B.lt e0 ab;split <;> exact this
    ·rw [List.pairwise_map];refine B.nd.imp fun {a b} j=>?_;split <;> split <;> exact j
   ·rw [BY] at o;by_cases i:a=name
    ·rw [if_pos i,r] at o;obtain rfl:=Option.some.inj o;refine ⟨⟨by rw [Y];exact ho,hg,hH,fun y c=>?_⟩,by rw [e_,if_pos i]⟩;rw [L] at c;rcases List.mem_cons.1 c with rfl | c
     ·exact List.mem_append_right _ (w.2.2.2 _ (by simp [fJ]))
     ·exact List.mem_append_left _ c
    ·rw [if_neg i] at o;obtain ⟨hE,ad⟩:=U a x o;have A:=hE.mut R (Q name a m x r o (Ne.symm i));exact ⟨⟨A.1,A.2.1,A.2.2.1,fun y c=>List.mem_append_right _ (A.2.2.2 y c)⟩,by rw [e_,if_neg i];exact ad⟩
   ·rw [BY] at i;by_cases M:a=name
    ·rw [if_pos M,r] at i;cases i
    ·rw [if_neg M] at i;rw [e_,if_neg M];exact c4 a i
   ·have old:∀ (b:List UInt8) (y:Rq),dh es b=some y->b≠name->∀ z,z∈fJ m'->z ∉ fJ y:=fun b y c hb z G D=>by
     rw [L] at G;rcases List.mem_cons.1 G with rfl | G
     ·exact Q name b m y r c (Ne.symm hb) _ (by simp [fJ]) D
     ·rcases C z G with h | h
      ·exact Q name b m y r c (Ne.symm hb) _ h D
      ·exact S z ((U b y c).1.2.2.2 z D) h
    rw [BY] at o c;by_cases i:a=name
    ·rw [if_pos i,r] at o;obtain rfl:=Option.some.inj o;rw [if_neg (by rw [<- i];exact Ne.symm j)] at c;exact old b y c (by rw [<- i];exact Ne.symm j)
    ·rw [if_neg i] at o;by_cases hb:b=name
     ·rw [if_pos hb,r] at c;obtain rfl:=Option.some.inj c;exact fun z G ae=>old a x o i z ae G
     ·rw [if_neg hb] at c;exact Q a b x y o c j
  obtain ⟨F0,al,am,an⟩:=hC.tight;refine ⟨F0,al,fun y c=>?_,an⟩;rcases List.mem_append.1 (am y c) with h | h
  ·rcases C y h with h | h
   ·exact .inl (w.2.2.2 y h)
   ·exact .inr h
  ·exact .inl h
end
end Go.Proofs.YtohgmogbabkkeaaGreat
end
