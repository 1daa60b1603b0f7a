/-
  A part of QX proof: an abstract machine CF QX model, and qO of qP of this program CF it.
-/
import Derived.Test.YtohgmogbabkkeaaGreatRows
import Derived.KernelRfl
import Derived.Test.YtohgmogbabkkeaaGreatP4
set_option linter.unusedVariables false
set_option linter.unusedSimpArgs false
set_option linter.unusedSectionVars false
namespace Go.Proofs.YtohgmogbabkkeaaGreat.SG
section
open Go.Am Go.aq.SG
variable {E:SE} [SQ E]
section
class rQ (E:SE) (cf:FuncId):Prop where
 ok:∀ (a b:El E.O) (s:AS),aa Tryz.prog cf [.agg (E.cC a),.agg (E.cC b)] s fun v s'=>v=.int .i64 (a.cmp b)/\Ext s s'
variable {cf:FuncId} [rQ E cf]
structure kD (s:AS) (a:AV) (lo:Nat) (l:List (El E.O)) (rest:List AV):Prop where
 val:∃ c e,a=.slc (some (lo,0)) l.length c e
 obj:∃ g,s.h lo=some (.cells (l.flatMap E.cC++rest) g false)
section
variable {s:AS} {a:AV} {lo:Nat} {l:List (El E.O)} {rest:List AV}
theorem rR (l:List (El E.O)):(l.flatMap E.cC).length=l.length*E.w:=dY E.len l
theorem Yd {i n w:Nat} (h:i<n):i*w+w<=n*w:=by have:=Nat.mul_le_mul_right w h;rw [Nat.succ_mul] at this;exact this
theorem kD.mut {L:List Nat} {s':AS} (h:kD s a lo l rest) (m:bB L s s') (b:lo ∉ L):kD s' a lo l rest:=by
 obtain ⟨c,g,h2⟩:=h;exact ⟨c,g,m.1 _ _ b h2⟩
theorem kD.ext {s':AS} (h:kD s a lo l rest) (e:Ext s s'):kD s' a lo l rest:=h.mut (L:=[]) e.mut (by simp)
theorem kD.ix (h:kD s a lo l rest) {i:Nat} (hi:i<l.length):ag T E.ys a (.int .i64 (i:Nat))=some (.ptr (some (lo,i*E.w))):=by
 obtain ⟨⟨c,e,rfl⟩,_⟩:=h;have:(0:Int)<=(i:Int)/\(i:Int)<(l.length:Int):=by omega
 simp only [ag,E.us,E.zs,Option.bind_some];rw [if_pos this];simp
theorem kD.rd (h:kD s a lo l rest) {i:Nat} (hi:i<l.length):aD s lo (i*E.w) E.w=some (E.cC (el l i)):=by
 have c:=Yd (w:=E.w) hi;obtain ⟨_,g,h2⟩:=h;have b:At s lo (l.flatMap E.cC++rest):=⟨_,_,h2⟩;rw [b.aD (by rw [List.length_append,rR];omega)];rw [List.drop_append_of_le_length (by rw [rR];omega),List.take_append_of_le_length (by rw [List.length_drop,rR];omega),CP E.len (zE hi)]
theorem TA (l:List (El E.O)) (k:Nat) (x:El E.O) (rest:List AV) (c:k<l.length):qQ (l.flatMap E.cC++rest) (k*E.w) (E.cC x)=(l.set k x).flatMap E.cC++rest:=by
 have b:l.flatMap E.cC=(l.take k).flatMap E.cC++(E.cC (l[k])++(l.drop (k+1)).flatMap E.cC):=by
  conv=>lhs;rw [<- List.take_append_drop k l,List.flatMap_append,List.drop_eq_getElem_cons c,List.flatMap_cons]
 have d:((l.take k).flatMap E.cC).length=k*E.w:=by rw [dY E.len,List.length_take,Nat.min_eq_left (by omega)]
 have:=Ku ((l.take k).flatMap E.cC) (E.cC l[k]) (E.cC x) ((l.drop (k+1)).flatMap E.cC++rest) (by rw [E.len,E.len]);rw [d] at this;rw [b,List.append_assoc,List.append_assoc,<- List.append_assoc,this,List.set_eq_take_append_cons_drop,if_pos c,List.flatMap_append,List.flatMap_cons,List.append_assoc,List.append_assoc,List.append_assoc]
theorem kD.wr (h:kD s a lo l rest) (b:aJ s) {i:Nat} (hi:i<l.length) (x:El E.O) {K:AS->Prop} (c:∀ s',kD s' a lo (l.set i x) rest->aJ s'->bB [lo] s s'->K s'):fy (some E.w) (E.cC x) (bC (cS s lo (i*E.w) (E.cC x)) K):=by
 have d:=Yd (w:=E.w) hi;obtain ⟨e,g,h2⟩:=h;refine ⟨⟨E.one _,by rw [E.len]⟩,bC.cS b h2 (by rw [List.length_append,rR,E.len];omega) fun s' P=>c s' ⟨?_,g,?_⟩ P.wf P.mut⟩
 ·rw [List.length_set];exact e
 ·rw [P.at,TA l i x rest hi]
theorem kD.swap (h:kD s a lo l rest) (z:aJ s) {i j:Nat} (hi:i<l.length) (hj:j<l.length) {K:AS->Prop} (A:∀ s',kD s' a lo (CC l i j) rest->aJ s'->bB [lo] s s'->K s') :
  bE (ag T E.ys a (.int .i64 (j:Nat))) fun d e=>aS (aD s d e E.w) fun b=>bE (ag T E.ys a (.int .i64 (i:Nat))) fun k m=>aS (aD s k m E.w) fun c=>bE (ag T E.ys a (.int .i64 (i:Nat))) fun n o=>fy (some E.w) b (bC (cS s n o b) fun p=>bE (ag T E.ys a (.int .i64 (j:Nat))) fun r x=>fy (some E.w) c (bC (cS p r x c) fun mG=>K mG)) :=
 ⟨_,_,h.ix hj,_,h.rd hj,_,_,h.ix hi,_,h.rd hi,_,_,h.ix hi,h.wr z hi _ fun s1 y w1 B =>
  ⟨_,_,y.ix (by simpa using hj),y.wr w1 (by simpa using hj) _ fun s2 h2 w2 m2=>A s2 h2 w2 (B.trans m2)⟩⟩
theorem kD.cmp (h:kD s a lo l rest) {i j:Nat} (hi:i<l.length) (hj:j<l.length) {K:Int->AS->Prop} (p:∀ s',kD s' a lo l rest->aJ s'->bB [lo] s s'->K ((el l i).cmp (el l j)) s') :
  bE (ag T E.ys a (.int .i64 (i:Nat))) fun c d=>aS (aD s c d E.w) fun k=>bE (ag T E.ys a (.int .i64 (j:Nat))) fun lN m=>aS (aD s lN m E.w) fun n=>eK Tryz.prog (.func cf []) [.agg k,.agg n] s fun o eH=>∃ b:Int,o=.int .i64 b/\K b eH:=by
 refine ⟨_,_,h.ix hi,_,h.rd hi,_,_,h.ix hj,_,h.rd hj,?_⟩;refine aa.use (rQ.ok (E:=E) _ _ _) ?_;rintro v s' ⟨rfl,e⟩ r;exact ⟨_,rfl,p s' (h.ext e) r e.mut⟩
end
theorem Pd {s:AS} {a:AV} {lo:Nat} {l:List (El E.O)} {rest:List AV} {x y:Nat} (h:kD s a lo l rest) (Q:x<=y) (hy:y<=l.length) (hn:l.length<=2 ^ 40) :
  aa Tryz.prog E.fM [a,.int .i64 (x:Nat),.int .i64 (y:Nat),.func cf []] s fun r s'=>r=.aQ []/\∃ l',kD s' a lo l' rest/\Sw x y l l'/\D5 l' x y/\bB [lo] s s':=by
 refine aa.pre fun R=>SQ.iX _ _ _ _ _ _ ⟨fun m vs s'=>∃ (i:Nat) (l':List (El E.O)),vs=[.int .i64 (i:Nat)]/\x+1<=i/\(i<=y\/i=x+1)/\m=y - i/\kD s' a lo l' rest/\aJ s'/\Sw x y l l'/\D5 l' x i/\bB [lo] s s',y - (x+1),⟨x+1,l,by rw [a_ (by omega)];rfl,by omega,.inr rfl,rfl,h,R,.refl _,fun p q w h2 h3=>by omega,bB.refl _ _⟩,?_⟩;rintro m n s5 ⟨i,l1,hi,S,U,rfl,a5,W,d,z,L⟩;simp only [List.cons.injEq,AV.int.injEq,true_and,and_true] at hi;subst hi;have X:=d.len;refine af.dec (fun Y=>?_) (fun Z=>⟨rfl,l1,a5,d,fun p q w h2 h3=>z p q w h2 (by omega),L⟩);have fin:∀ s' l',kD s' a lo l' rest->aJ s'->Sw x y l l'->D5 l' x (i+1)->bB [lo] s s'->∃ m',m'<y - i/\∃ (k:Nat) (l':List (El E.O)),[AV.int .i64 (IntKind.wrap .i64 ((i:Int)+1))]=[.int .i64 (k:Nat)]/\x+1<=k/\(k<=y\/k=x+1)/\m'=y - k/\kD s' a lo l' rest/\aJ s'/\Sw x y l l'/\D5 l' x k/\bB [lo] s s' :=
  fun s' l' w h2 h3 h4 h5=>⟨y - (i+1),by omega,i+1,l',by rw [a_ (by omega)];rfl,by omega,.inl (by omega),rfl,w,h2,h3,h4,h5⟩
 refine ⟨fun m vs s'=>∃ (j:Nat) (l':List (El E.O)),vs=[.int .i64 (j:Nat)]/\x<=j/\j<=i/\m=j - x/\kD s' a lo l' rest/\aJ s'/\Sw x y l l'/\(∀ p q,x<=p->p<q->q<=i->q≠j->(el l' p).le (el l' q))/\bB [lo] s s',i - x,⟨i,l1,rfl,by omega,by omega,rfl,a5,W,d,fun p q w h2 h3 h4=>z p q w h2 (by omega),L⟩,?_⟩;rintro m n ab ⟨j,M,hj,A,e,rfl,B,H,b,c,o⟩;simp only [List.cons.injEq,AV.int.injEq,true_and,and_true] at hj;subst hj;have ad:=b.len;refine af.dec (fun ae=>?_) (fun hle=>fin _ M B H b (Kr A e (.inl (by omega)) c) o);rw [a_ (by omega),show (j:Int) - 1=((j - 1:Nat):Int) by omega];refine B.cmp (by omega) (by omega) fun eH C D F=>af.dec (fun G=>?_) (fun G=>fin _ M C D b (Kr A e (.inr (El.xj (by rw [<- El.gu];exact G))) c) (o.trans F));rw [El.gu] at G;refine C.swap D (by omega) (by omega) fun mG I J K=>⟨j - 1 - x,by omega,j - 1,_,rfl,by omega,by omega,rfl,I,J,.step b ⟨by omega,by omega⟩ ⟨by omega,by omega⟩ (by omega),Me (by omega) (by omega) e G c,(o.trans F).trans K⟩
end
section
variable {cf:FuncId} [rQ E cf]
theorem Pe {x y:Nat} (h:x+y<=4611686018427387904):IntKind.wrap .i64 ((x:Int)+(y:Int))=((x+y:Nat):Int):=by rw [a_ (by omega)];omega
theorem kP {x:Nat} (h:x+1<=4611686018427387904):IntKind.wrap .i64 ((x:Int)+1)=((x+1:Nat):Int):=by rw [a_ (by omega)];omega
theorem EI {x y:Nat} (h:y<=x) (b:x<=4611686018427387904):IntKind.wrap .i64 ((x:Int) - (y:Int))=((x - y:Nat):Int):=by rw [a_ (by omega)];omega
theorem lG {x:Nat} (h:1<=x) (b:x<=4611686018427387904):IntKind.wrap .i64 ((x:Int) - 1)=((x - 1:Nat):Int):=by rw [a_ (by omega)];omega
theorem Ye {x:Nat} (h:2*x<=4611686018427387904):IntKind.wrap .i64 (2*(x:Int))=((2*x:Nat):Int):=by rw [a_ (by omega)];omega
theorem TB (x k:Nat):Int.tdiv (x:Int) (k:Int)=((x / k:Nat):Int):=rfl
theorem wid {x:Nat} (h:x<=4611686018427387904):IntKind.wrap .i64 (x:Int)=(x:Int):=a_ (by omega)
theorem D9 {s:AS} {a:AV} {lo:Nat} {l:List (El E.O)} {rest:List AV} {k n f:Nat} (h:kD s a lo l rest) (hl:f+n<=l.length) (hn:l.length<=2 ^ 40) (hk:k<=2 ^ 40) (M:Ej l f n (k+1)) :
  aa Tryz.prog E.jN [a,.int .i64 (k:Nat),.int .i64 (n:Nat),.int .i64 (f:Nat),.func cf []] s fun r s'=>r=.aQ []/\∃ l',kD s' a lo l' rest/\Sw f (f+n) l l'/\Ej l' f n k/\bB [lo] s s':=by
 refine aa.pre fun Q=>SQ.sL _ _ _ _ _ _ _ ⟨fun m vs s'=>∃ (root:Nat) (l':List (El E.O)),vs=[.int .i64 (root:Nat)]/\root<=n+k/\m=n+k - root/\kD s' a lo l' rest/\aJ s'/\Sw f (f+n) l l'/\OC l' f n k root/\bB [lo] s s',n+k - k,⟨k,l,rfl,by omega,rfl,h,Q,.refl _,M.YG,bB.refl _ _⟩,?_⟩;rintro m n4 s5 ⟨root,l1,hi,R,rfl,a5,S,e,o,z⟩;simp only [List.cons.injEq,AV.int.injEq,true_and,and_true] at hi;subst hi;have U:=e.len;rw [Ye (by omega),kP (by omega)];refine af.dec (fun A=>⟨rfl,l1,a5,e,o.done fun c h0 d hp=>by omega,z⟩) (fun W=>?_);refine ⟨fun vs s'=>∃ child:Nat,vs=[.int .i64 (child:Nat)]/\(child=2*root+1\/child=2*root+2)/\child<n/\kD s' a lo l1 rest/\aJ s'/\bB [lo] s s'/\(∀ c,0<c->c<n->(c - 1) / 2=root->(el l1 (f+c)).le (el l1 (f+child))),?_,?_⟩
 ·rintro n7 s8 ⟨child,d,B,C,X,w8,L,i⟩;simp only [List.cons.injEq,AV.int.injEq,true_and,and_true] at d;subst d;rw [Pe (by omega),Pe (by omega)];refine X.cmp (by omega) (by omega) fun Y p D w=>?_;refine af.mk (fun d=>?_) (fun d=>?_)
  ·have hle:=El.xj (show ¬ (el l1 (f+root)).lt (el l1 (f+child))=true by rw [<- El.gu];simpa using d);exact ⟨rfl,l1,p,e,o.done fun c h0 d hp=>El.le_trans (i c h0 d hp) hle,L.trans w⟩
  ·have j:(el l1 (f+root)).lt (el l1 (f+child))=true:=by rw [<- El.gu];simpa using d
   refine p.swap D (by omega) (by omega) fun Z F G H=>⟨n+k - child,by omega,child,_,rfl,by omega,rfl,F,G,.step e ⟨by omega,by omega⟩ ⟨by omega,by omega⟩ (by omega),o.step (by omega) B C j i,(L.trans w).trans H⟩
 ·refine ⟨fun vs s'=>∃ t,vs=[.bool t]/\kD s' a lo l1 rest/\aJ s'/\bB [lo] s s'/\(t=true->2*root+2<n/\(el l1 (f+(2*root+1))).lt (el l1 (f+(2*root+2)))=true)/\(t=false->2*root+2<n->(el l1 (f+(2*root+2))).le (el l1 (f+(2*root+1)))),?_,?_⟩
  ·rintro b ab ⟨t,ht,x,y,m32,h1,h2⟩;simp only [List.cons.injEq,AV.bool.injEq,and_true] at ht;subst ht;refine af.mk (fun hb=>?_) (fun hb=>?_)
   ·obtain ⟨h3,h4⟩:=h1 hb;rw [kP (by omega)];refine ⟨2*root+2,rfl,.inr rfl,h3,x,y,m32,fun c h0 d hp=>?_⟩;rcases (show c=2*root+1\/c=2*root+2 by omega) with rfl | rfl
    ·exact El.A7 h4
    ·exact El.le_refl _
   ·refine ⟨2*root+1,rfl,.inl rfl,by omega,x,y,m32,fun c h0 d hp=>?_⟩;rcases (show c=2*root+1\/c=2*root+2 by omega) with rfl | rfl
    ·exact El.le_refl _
    ·exact h2 hb d
  ·rw [kP (by omega)];refine af.dec (fun j=>?_) (fun A=>⟨false,rfl,a5,S,z,by simp,fun _ h=>by omega⟩);rw [Pe (by omega),kP (by omega)];refine a5.cmp (by omega) (by omega) fun ad I J K=>⟨_,rfl,I,J,z.trans K,fun h=>⟨by omega,?_⟩,fun h _=>?_⟩
   ·have:=of_decide_eq_true h;rw [El.gu] at this;exact this
   ·have:=of_decide_eq_false h;rw [El.gu] at this;exact El.xj this
theorem M7 {s:AS} {a:AV} {lo:Nat} {l:List (El E.O)} {rest:List AV} {x y:Nat} (h:kD s a lo l rest) (ad:x<y) (hy:y<=l.length) (hn:l.length<=2 ^ 40) :
  aa Tryz.prog E.nv [a,.int .i64 (x:Nat),.int .i64 (y:Nat),.func cf []] s fun r s'=>r=.aQ []/\∃ l',kD s' a lo l' rest/\Sw x y l l'/\D5 l' x y/\bB [lo] s s':=by
 refine aa.pre fun hw=>SQ.sJ _ _ _ _ _ _ ⟨fun vs s'=>∃ l',kD s' a lo l' rest/\aJ s'/\Sw x y l l'/\Ej l' x (y - x) 0/\bB [lo] s s',?_,by decide,?_⟩
 ·rintro s2 ⟨l1,a2,w2,z,I,m2⟩;have ae:=z.len;rw [EI (by omega) (by omega),lG (by omega) (by omega)];refine ⟨fun m vs s'=>∃ (i:Nat) (l':List (El E.O)),vs=[.int .i64 ((i:Int) - 1)]/\i<=y - x/\m=2*i/\kD s' a lo l' rest/\aJ s'/\Sw x y l l'/\Ej l' x i 0/\OD l' x y i/\bB [lo] s s',2*(y - x),⟨y - x,l1,by congr 2;omega,by omega,rfl,a2,w2,z,I,fun p q _ _ _ _=>by omega,m2⟩,?_⟩;rintro m n6 s7 ⟨i,H,hi,J,rfl,a7,w7,w,K,A,m7⟩;simp only [List.cons.injEq,AV.int.injEq,true_and,and_true] at hi;subst hi;have L:=w.len;refine af.dec (fun M=>?_) (fun Q=>?_)
  ·obtain ⟨j,rfl⟩:∃ j,i=j+1:=⟨i - 1,by omega⟩;rw [show (((j+1:Nat):Int) - 1)=(j:Int) by omega,Pe (by omega)];obtain ⟨t1,t2⟩:=A.swap (n:=j) (by omega) (by omega) K;refine a7.swap w7 (by omega) (by omega) fun uR R al S=>?_;have B:Sw x y l (CC H x (x+j)):=.step w ⟨by omega,by omega⟩ ⟨by omega,by omega⟩ (by omega);refine aa.use (D9 (k:=0) (n:=j) (f:=x) R (by rw [FE];omega) (by rw [FE];omega) (by omega) t2) ?_;rintro r en ⟨rfl,l3,U,d,C,W⟩ X;refine ⟨rfl,2*j,by omega,j,l3,by rw [sN (by omega)],by omega,rfl,U,X,B.trans (d.Wd (Nat.le_refl _) (by omega) (by rw [FE];omega)),C,t1.sw d,(m7.trans S).trans W⟩
  ·obtain rfl:i=0:=by omega
   exact ⟨rfl,H,a7,w,fun p q h1 h2 h3=>A p q h1 h2 h3 (by omega),m7⟩
 ·rw [EI (by omega) (by omega),lG (by omega) (by omega),show (2:Int)=((2:Nat):Int) by rfl,TB,wid (by omega)];refine ⟨fun m vs s'=>∃ (i:Nat) (l':List (El E.O)),vs=[.int .i64 ((i:Int) - 1)]/\i<=y - x/\m=2*i/\kD s' a lo l' rest/\aJ s'/\Sw x y l l'/\Ej l' x (y - x) i/\bB [lo] s s',2*((y - x - 1) / 2+1),⟨(y - x - 1) / 2+1,l,by congr 2;omega,by omega,rfl,h,hw,.refl _,fun c _ _ _=>by omega,bB.refl _ _⟩,?_⟩;rintro m am an ⟨i,H,hi,J,rfl,D,Y,b,e,F⟩;simp only [List.cons.injEq,AV.int.injEq,true_and,and_true] at hi;subst hi;have L:=b.len;refine af.dec (fun M=>?_) (fun Q=>?_)
  ·obtain ⟨j,rfl⟩:∃ j,i=j+1:=⟨i - 1,by omega⟩;rw [show (((j+1:Nat):Int) - 1)=(j:Int) by omega];refine aa.use (D9 (k:=j) (n:=y - x) (f:=x) D (by omega) (by omega) (by omega) e) ?_;rintro r ao ⟨rfl,l3,Z,o,G,m32⟩ ab;refine ⟨rfl,2*j,by omega,j,l3,by rw [sN (by omega)],by omega,rfl,Z,ab,b.trans (by rw [show x+(y - x)=y by omega] at o;exact o),G,F.trans m32⟩
  ·obtain rfl:i=0:=by omega
   exact ⟨H,D,Y,b,e,F⟩
end
section
variable {cf:FuncId} [rQ E cf]
theorem Pf {s:AS} {a:AV} {lo:Nat} {l:List (El E.O)} {rest:List AV} {x y:Nat} (h:kD s a lo l rest) (p:x<y) (D:y<=l.length) (F:l.length<=2 ^ 40) :
  aa Tryz.prog E.jA [a,.int .i64 (x:Nat),.int .i64 (y:Nat),.func cf []] s fun r s'=>r=.aQ []/\∃ l',kD s' a lo l' rest/\Sw x y l l'/\bB [lo] s s':=by
 refine aa.pre fun w=>SQ.nX _ _ _ _ _ _ ⟨fun m vs s'=>∃ (i j:Nat) (l':List (El E.O)),vs=[.int .i64 (i:Nat),.int .i64 (j:Nat)]/\x<=i/\j<y/\i<=j+1/\m=j+1 - i/\kD s' a lo l' rest/\aJ s'/\Sw x y l l'/\bB [lo] s s',y - 1+1 - x,⟨x,y - 1,l,by rw [lG (by omega) (by omega)],by omega,by omega,by omega,rfl,h,w,.refl _,bB.refl _ _⟩,?_⟩;rintro m G H s6 ⟨i,j,l1,c,I,hj,hle,rfl,n,z,b,o⟩;simp only [List.cons.injEq,AV.int.injEq,true_and,and_true] at c;obtain ⟨rfl,rfl⟩:=c;have A:=b.len;refine af.dec (fun B=>?_) (fun C=>⟨rfl,l1,n,b,o⟩);refine n.swap z (by omega) (by omega) fun eH d e k=>?_;rw [kP (by omega),lG (by omega) (by omega)];exact ⟨j - 1+1 - (i+1),by omega,i+1,j - 1,_,rfl,by omega,by omega,by omega,rfl,d,e,.step b ⟨by omega,by omega⟩ ⟨by omega,by omega⟩ (by omega),o.trans k⟩
structure Jr (L G:El E.O->El E.O->Prop) (s:AS) (a:AV) (lo:Nat) (rest:List AV) (l:List (El E.O)) (x y:Nat) (s':AS) (l':List (El E.O)) (i j:Nat):Prop where
 arr:kD s' a lo l' rest
 wf:aJ s'
 sw:Sw x y l l'
 rY:Ks L G l' x y i j
 eo:bB [lo] s s'
theorem Jr.to {L G:El E.O->El E.O->Prop} {s:AS} {a:AV} {lo:Nat} {rest:List AV} {l:List (El E.O)} {x y:Nat} {s' s'':AS} {l':List (El E.O)} {i j i' j':Nat} (h:Jr L G s a lo rest l x y s' l' i j) (b:kD s'' a lo l' rest) (c:aJ s'') (m:bB [lo] s' s'') (hp:Ks L G l' x y i' j'):Jr L G s a lo rest l x y s'' l' i' j' :=
 ⟨b,c,h.sw,hp,h.eo.trans m⟩
theorem K4 {s:AS} {a:AV} {lo:Nat} {l:List (El E.O)} {rest:List AV} {x y p:Nat} (h:kD s a lo l rest) (hp:x<=p/\p<y) (hy:y<=l.length) (hn:l.length<=2 ^ 40) :
  aa Tryz.prog E.lY [a,.int .i64 (x:Nat),.int .i64 (y:Nat),.int .i64 (p:Nat),.func cf []] s fun r s'=>∃ (m:Nat) (b:Bool) (l':List (El E.O)),r=.aQ [.int .i64 (m:Nat),.bool b]/\kD s' a lo l' rest/\Sw x y l l'/\GD l' x y m/\bB [lo] s s':=by
 refine aa.pre fun hw=>SQ.rM _ _ _ _ _ _ _ ?_;refine h.swap hw (by omega) (by omega) fun dJ a8 a9 a'=>?_;have al:Sw x y l (CC l x p):=.step (.refl _) ⟨by omega,by omega⟩ hp hy;have fin:∀ s' l' i j,Jr Lt Ge s a lo rest l x y s' l' i j->j<i->∀ s'' ,kD s'' a lo (CC l' j x) rest->bB [lo] s' s''->∀ b:Bool,∃ (m:Nat) (b':Bool) (l':List (El E.O)),AV.aQ [.int .i64 (j:Nat),.bool b]=.aQ [.int .i64 (m:Nat),.bool b']/\kD s'' a lo l' rest/\Sw x y l l'/\GD l' x y m/\bB [lo] s s'':=by
  intro s' l' i j st am s'' a2 m2 b;have:=st.rY.ij;have:=st.rY.xi;have:=st.rY.jy;have b8:=st.sw.len;exact ⟨j,b,_,rfl,a2,.step st.sw ⟨by omega,by omega⟩ ⟨by omega,by omega⟩ (by omega),st.rY.fin (by omega) am,st.eo.trans m2⟩
 have L:∀ {u v:El E.O},¬ u.cmp v<0->Ge u v:=fun h=>El.xj (by rw [<- El.gu];exact h);have M:∀ {u v:El E.O},u.cmp v<0->Lt u v:=fun h=>El.gu.1 h;refine ⟨fun vs s'=>∃ (i:Nat) (l':List (El E.O)),vs=[.int .i64 (i:Nat)]/\Jr Lt Ge s a lo rest l x y s' l' i (y - 1)/\(i<=y - 1->Ge (el l' i) (el l' x)),?_,?_⟩
 ·rintro b9 fH ⟨i,l1,hi,F,an⟩;simp only [List.cons.injEq,AV.int.injEq,true_and,and_true] at hi;subst hi;have ca:=F.sw.len;have cb:=F.rY.xi;have cc:=F.rY.ij;refine ⟨fun vs s'=>∃ j:Nat,vs=[.int .i64 (j:Nat)]/\Jr Lt Ge s a lo rest l x y s' l1 i j/\(i<=j->Lt (el l1 j) (el l1 x)),?_,?_⟩
  ·rintro cd eH ⟨j,hj,d,ao⟩;simp only [List.cons.injEq,AV.int.injEq,true_and,and_true] at hj;subst hj;have ce:=d.rY.jy;have am:=d.rY.ij;refine af.dec (fun G=>?_) (fun hle=>?_)
   ·refine d.arr.swap d.wf (by omega) (by omega) fun ch ba ci bb=>fin _ _ _ _ d (by omega) _ ba bb true
   ·have bc:i≠j:=by
     rintro rfl;have h1:=an (by omega);have h2:=ao (by omega);rw [Lt] at h2;rw [Ge,El.le] at h1;rw [h1] at h2;cases h2
    refine d.arr.swap d.wf (by omega) (by omega) fun bd be bh bi=>?_;have ar:Jr Lt Ge s a lo rest l x y bd (CC l1 i j) (i+1) (j - 1):=⟨be,bh,.step d.sw ⟨by omega,by omega⟩ ⟨by omega,by omega⟩ (by omega),d.rY.swap (by omega) (by omega) (ao (by omega)) (an (by omega)),d.eo.trans bi⟩;refine ⟨fun vs s'=>∃ (i j:Nat) (l':List (El E.O)),vs=[.int .i64 (j:Nat)]/\j<i/\Jr Lt Ge s a lo rest l x y s' l' i j,?_,?_⟩
    ·rintro ck cl ⟨i',j',l',aw,a0,w⟩;simp only [List.cons.injEq,AV.int.injEq,true_and,and_true] at aw;subst aw;have:=w.rY.jy;have:=w.rY.xi;have:=w.sw.len;refine w.arr.swap w.wf (by omega) (by omega) fun cm bj cn bk=>fin _ _ _ _ w a0 _ bj bk false
    ·rw [kP (by omega),lG (by omega) (by omega)];refine ⟨fun m vs s'=>∃ (i j:Nat) (l':List (El E.O)),vs=[.int .i64 (i:Nat),.int .i64 (j:Nat)]/\m=j+1 - i/\Jr Lt Ge s a lo rest l x y s' l' i j,_,⟨i+1,j - 1,_,rfl,rfl,ar⟩,?_⟩;rintro m cp cr cs ⟨i2,j2,Q,H,rfl,z⟩;simp only [List.cons.injEq,AV.int.injEq,true_and,and_true] at H;obtain ⟨rfl,rfl⟩:=H;have cu:=z.sw.len;have cv:=z.rY.xi;have bs:=z.rY.jy;have H:=z.rY.ij;refine ⟨fun vs s'=>∃ (i:Nat),vs=[.int .i64 (i:Nat)]/\i2<=i/\Jr Lt Ge s a lo rest l x y s' Q i j2/\(i<=j2->Ge (el Q i) (el Q x)),?_,?_⟩
     ·rintro cw Bi ⟨i3,A,I,J,a1⟩;simp only [List.cons.injEq,AV.int.injEq,true_and,and_true] at A;subst A;have a3:=J.rY.xi;have bx:=J.rY.ij;refine ⟨fun vs s'=>∃ j:Nat,vs=[.int .i64 (j:Nat)]/\j<=j2/\Jr Lt Ge s a lo rest l x y s' Q i3 j/\(i3<=j->Lt (el Q j) (el Q x)),?_,?_⟩
      ·rintro cx cy ⟨j3,B,K,n,a4⟩;simp only [List.cons.injEq,AV.int.injEq,true_and,and_true] at B;subst B;have R:=n.rY.jy;have b0:=n.rY.ij;refine af.dec (fun G=>⟨i3,j3,Q,rfl,by omega,n⟩) (fun hle=>?_);have bc:i3≠j3:=by
        rintro rfl;have h1:=a1 (by omega);have h2:=a4 (by omega);rw [Lt] at h2;rw [Ge,El.le] at h1;rw [h1] at h2;cases h2
       refine n.arr.swap n.wf (by omega) (by omega) fun cz bl bm bo=>?_;rw [kP (by omega),lG (by omega) (by omega)];exact ⟨j3 - 1+1 - (i3+1),by omega,i3+1,j3 - 1,_,rfl,rfl,bl,bm,.step n.sw ⟨by omega,by omega⟩ ⟨by omega,by omega⟩ (by omega),n.rY.swap (by omega) (by omega) (a4 (by omega)) (a1 (by omega)),n.eo.trans bo⟩
      ·refine ⟨fun m vs s'=>∃ j:Nat,vs=[.int .i64 (j:Nat)]/\j<=j2/\m=2*j/\Jr Lt Ge s a lo rest l x y s' Q i3 j,2*j2,⟨j2,rfl,by omega,rfl,J⟩,?_⟩;rintro m cA cB ⟨j3,B,K,rfl,o⟩;simp only [List.cons.injEq,AV.int.injEq,true_and,and_true] at B;subst B;have R:=o.rY.jy;refine af.dec (fun hle=>?_) (fun G=>⟨j3,rfl,K,o,fun h=>by omega⟩);refine o.arr.cmp (by omega) (by omega) fun cC a5 a6 a7=>af.mk (fun C=>?_) (fun C=>?_)
       ·have D:=L (by simpa using C);rw [lG (by omega) (by omega)];exact ⟨2*(j3 - 1),by omega,j3 - 1,rfl,by omega,rfl,o.to a5 a6 a7 (o.rY.right (by omega) D)⟩
       ·have D:=M (by simpa using C);exact ⟨j3,rfl,K,o.to a5 a6 a7 o.rY,fun _=>D⟩
     ·refine ⟨fun m vs s'=>∃ i:Nat,vs=[.int .i64 (i:Nat)]/\i2<=i/\m=y - i/\Jr Lt Ge s a lo rest l x y s' Q i j2,y - i2,⟨i2,rfl,by omega,rfl,z⟩,?_⟩;rintro m c0 b1 ⟨i3,A,I,rfl,e⟩;simp only [List.cons.injEq,AV.int.injEq,true_and,and_true] at A;subst A;have a3:=e.rY.xi;refine af.dec (fun hle=>?_) (fun G=>⟨i3,rfl,I,e,fun h=>by omega⟩);refine e.arr.cmp (by omega) (by omega) fun b2 S U W=>af.dec (fun C=>?_) (fun C=>?_)
      ·rw [kP (by omega)];exact ⟨y - (i3+1),by omega,i3+1,rfl,by omega,rfl,e.to S U W (e.rY.left (by omega) (M C))⟩
      ·exact ⟨i3,rfl,I,e.to S U W e.rY,fun _=>L C⟩
  ·rw [lG (by omega) (by omega)];refine ⟨fun m vs s'=>∃ j:Nat,vs=[.int .i64 (j:Nat)]/\m=2*j/\Jr Lt Ge s a lo rest l x y s' l1 i j,2*(y - 1),⟨y - 1,rfl,rfl,F⟩,?_⟩;rintro m b3 tI ⟨j3,B,rfl,k⟩;simp only [List.cons.injEq,AV.int.injEq,true_and,and_true] at B;subst B;have R:=k.rY.jy;refine af.dec (fun hle=>?_) (fun G=>⟨j3,rfl,k,fun h=>by omega⟩);refine k.arr.cmp (by omega) (by omega) fun b4 X Y Z=>af.mk (fun C=>?_) (fun C=>?_)
   ·have D:=L (by simpa using C);rw [lG (by omega) (by omega)];exact ⟨2*(j3 - 1),by omega,j3 - 1,rfl,rfl,k.to X Y Z (k.rY.right (by omega) D)⟩
   ·have D:=M (by simpa using C);exact ⟨j3,rfl,k.to X Y Z k.rY,fun _=>D⟩
 ·rw [kP (by omega),lG (by omega) (by omega)];refine ⟨fun m vs s'=>∃ i:Nat,vs=[.int .i64 (i:Nat)]/\m=y - i/\Jr Lt Ge s a lo rest l x y s' (CC l x p) i (y - 1),y - (x+1),⟨x+1,rfl,rfl,a8,a9,al,Ks.start (by omega),a'⟩,?_⟩;rintro m b5 b6 ⟨i3,A,rfl,c⟩;simp only [List.cons.injEq,AV.int.injEq,true_and,and_true] at A;subst A;have a3:=c.rY.xi;have c1:=c.sw.len;refine af.dec (fun hle=>?_) (fun G=>⟨i3,_,rfl,c,fun h=>by omega⟩);refine c.arr.cmp (by omega) (by omega) fun b7 ab ad ae=>af.dec (fun C=>?_) (fun C=>?_)
  ·rw [kP (by omega)];exact ⟨y - (i3+1),by omega,i3+1,rfl,rfl,c.to ab ad ae (c.rY.left (by omega) (M C))⟩
  ·exact ⟨i3,_,rfl,c.to ab ad ae c.rY,fun _=>L C⟩
end
section
variable {cf:FuncId} [rQ E cf]
theorem RC {s:AS} {a:AV} {lo:Nat} {l:List (El E.O)} {rest:List AV} {x y p:Nat} (h:kD s a lo l rest) (hp:x<=p/\p<y) (hy:y<=l.length) (hn:l.length<=2 ^ 40) :
  aa Tryz.prog E.iG [a,.int .i64 (x:Nat),.int .i64 (y:Nat),.int .i64 (p:Nat),.func cf []] s fun r s'=>∃ (i j:Nat) (l':List (El E.O)),r=.int .i64 (i:Nat)/\kD s' a lo l' rest/\Sw x y l l'/\Ks UM UN l' x y i j/\j<i/\el l' x=el l p/\bB [lo] s s':=by
 refine aa.pre fun hw=>SQ.mC _ _ _ _ _ _ _ ?_;refine h.swap hw (by omega) (by omega) fun dJ ad ae al=>?_;have I:Sw x y l (CC l x p):=.step (.refl _) ⟨by omega,by omega⟩ hp hy;have J:el (CC l x p) x=el l p:=by
  rw [mS (by omega) (by omega)];split
  ·rename_i e;rw [e]
  ·rw [if_pos rfl]
 have K:∀ {u v:El E.O},¬ u.cmp v<0->UM v u:=fun h=>El.xj (by rw [<- El.gu];exact h);have L:∀ {u v:El E.O},u.cmp v<0->UN v u:=fun h=>El.gu.1 h;rw [kP (by omega),lG (by omega) (by omega)];refine ⟨fun m vs s'=>∃ (i j:Nat) (l':List (El E.O)),vs=[.int .i64 (i:Nat),.int .i64 (j:Nat)]/\m=j+1 - i/\Jr UM UN s a lo rest l x y s' l' i j/\el l' x=el l p,_,⟨x+1,y - 1,_,rfl,rfl,⟨ad,ae,I,Ks.start (by omega),al⟩,J⟩,?_⟩;rintro m a2 a3 eH ⟨i2,F,C,n,rfl,k,D⟩;simp only [List.cons.injEq,AV.int.injEq,true_and,and_true] at n;obtain ⟨rfl,rfl⟩:=n;have a4:=k.sw.len;have a5:=k.rY.xi;have aw:=k.rY.jy;have n:=k.rY.ij;refine ⟨fun vs s'=>∃ (i:Nat),vs=[.int .i64 (i:Nat)]/\i2<=i/\Jr UM UN s a lo rest l x y s' C i F/\(i<=F->UN (el C i) (el C x)),?_,?_⟩
 ·rintro a6 gl ⟨i3,o,w,z,M⟩;simp only [List.cons.injEq,AV.int.injEq,true_and,and_true] at o;subst o;have am:=z.rY.xi;have a0:=z.rY.ij;refine ⟨fun vs s'=>∃ j:Nat,vs=[.int .i64 (j:Nat)]/\j<=F/\Jr UM UN s a lo rest l x y s' C i3 j/\(i3<=j->UM (el C j) (el C x)),?_,?_⟩
  ·rintro a7 a8 ⟨j3,A,B,b,Q⟩;simp only [List.cons.injEq,AV.int.injEq,true_and,and_true] at A;subst A;have R:=b.rY.jy;have a1:=b.rY.ij;refine af.dec (fun S=>⟨i3,j3,C,rfl,b.arr,b.sw,b.rY,by omega,D,b.eo⟩) (fun hle=>?_);have a9:i3≠j3:=by
    rintro rfl;have h1:=M (by omega);have h2:=Q (by omega);rw [UN] at h1;rw [UM,El.le] at h2;rw [h2] at h1;cases h1
   refine b.arr.swap b.wf (by omega) (by omega) fun oY an ao ar=>?_;rw [kP (by omega),lG (by omega) (by omega)];exact ⟨j3 - 1+1 - (i3+1),by omega,i3+1,j3 - 1,_,rfl,rfl,⟨an,ao,.step b.sw ⟨by omega,by omega⟩ ⟨by omega,by omega⟩ (by omega),b.rY.swap (by omega) (by omega) (Q (by omega)) (M (by omega)),b.eo.trans ar⟩,by rw [mS (by omega) (by omega),if_neg (by omega),if_neg (by omega)];exact D⟩
  ·refine ⟨fun m vs s'=>∃ j:Nat,vs=[.int .i64 (j:Nat)]/\j<=F/\m=2*j/\Jr UM UN s a lo rest l x y s' C i3 j,2*F,⟨F,rfl,by omega,rfl,z⟩,?_⟩;rintro m a' ba ⟨j3,A,B,rfl,c⟩;simp only [List.cons.injEq,AV.int.injEq,true_and,and_true] at A;subst A;have R:=c.rY.jy;refine af.dec (fun hle=>?_) (fun S=>⟨j3,rfl,B,c,fun h=>by omega⟩);refine c.arr.cmp (by omega) (by omega) fun rI U W X=>af.dec (fun G=>?_) (fun G=>?_)
   ·rw [lG (by omega) (by omega)];exact ⟨2*(j3 - 1),by omega,j3 - 1,rfl,by omega,rfl,c.to U W X (c.rY.right (by omega) (L G))⟩
   ·exact ⟨j3,rfl,B,c.to U W X c.rY,fun _=>K G⟩
 ·refine ⟨fun m vs s'=>∃ i:Nat,vs=[.int .i64 (i:Nat)]/\i2<=i/\m=y - i/\Jr UM UN s a lo rest l x y s' C i F,y - i2,⟨i2,rfl,by omega,rfl,k⟩,?_⟩;rintro m bb bc ⟨i3,o,w,rfl,d⟩;simp only [List.cons.injEq,AV.int.injEq,true_and,and_true] at o;subst o;have am:=d.rY.xi;refine af.dec (fun hle=>?_) (fun S=>⟨i3,rfl,w,d,fun h=>by omega⟩);refine d.arr.cmp (by omega) (by omega) fun bd Y Z ab=>af.mk (fun G=>?_) (fun G=>?_)
  ·have H:=K (by simpa using G);rw [kP (by omega)];exact ⟨y - (i3+1),by omega,i3+1,rfl,by omega,rfl,d.to Y Z ab (d.rY.left (by omega) H)⟩
  ·have H:=L (by simpa using G);exact ⟨i3,rfl,w,d.to Y Z ab d.rY,fun _=>H⟩
structure FO (s:AS) (a:AV) (lo:Nat) (rest:List AV) (l:List (El E.O)) (x y:Nat) (s':AS) (l':List (El E.O)):Prop where
 arr:kD s' a lo l' rest
 wf:aJ s'
 sw:Sw x y l l'
 eo:bB [lo] s s'
theorem FO.to {s:AS} {a:AV} {lo:Nat} {rest:List AV} {l:List (El E.O)} {x y:Nat} {s' s'':AS} {l':List (El E.O)} (h:FO s a lo rest l x y s' l') (b:kD s'' a lo l' rest) (c:aJ s'') (m:bB [lo] s' s''):FO s a lo rest l x y s'' l':=⟨b,c,h.sw,h.eo.trans m⟩
theorem FO.swap {s:AS} {a:AV} {lo:Nat} {rest:List AV} {l:List (El E.O)} {x y:Nat} {s' s'':AS} {l':List (El E.O)} {i j:Nat} (h:FO s a lo rest l x y s' l') (b:y<=l.length) (hi:x<=i/\i<y) (hj:x<=j/\j<y) (c:kD s'' a lo (CC l' i j) rest) (d:aJ s'') (m:bB [lo] s' s''):FO s a lo rest l x y s'' (CC l' i j) :=
 ⟨c,d,.step h.sw hi hj (by rw [h.sw.len];exact b),h.eo.trans m⟩
theorem TC {l:List (El E.O)} {x i:Nat} (h:D5 l x i) (c:x<i) (hle:(el l (i - 1)).le (el l i)):D5 l x (i+1):=by
 intro p q b h2 h3;by_cases e:q=i
 ·subst e;by_cases e2:p=q - 1
  ·rw [e2];exact hle
  ·exact El.le_trans (h p (q - 1) b (by omega) (by omega)) hle
 ·exact h p q b h2 (by omega)
theorem TD {l l':List (El E.O)} {x y:Nat} (h:Sw x y l l') (b:0<x->∀ q,x<=q->q<y->(el l (x - 1)).le (el l q)):0<x->∀ q,x<=q->q<y->(el l' (x - 1)).le (el l' q):=by
 intro h0 q c h2;obtain ⟨j,hj,e⟩:=h.mem (k:=q) ⟨c,h2⟩;rw [h.out (.inl (by omega)),e];exact b h0 j hj.1 hj.2
theorem Pg {s:AS} {a:AV} {lo:Nat} {l:List (El E.O)} {rest:List AV} {x y:Nat} (h:kD s a lo l rest) (bd:x<y) (hy:y<=l.length) (hn:l.length<=2 ^ 40) (R:0<x->∀ q,x<=q->q<y->(el l (x - 1)).le (el l q)) :
  aa Tryz.prog E.fk [a,.int .i64 (x:Nat),.int .i64 (y:Nat),.func cf []] s fun r s'=>∃ (b:Bool) (l':List (El E.O)),r=.bool b/\FO s a lo rest l x y s' l'/\(b=true->D5 l' x y):=by
 have w0:aJ s->FO s a lo rest l x y s l:=fun hw=>⟨h,hw,.refl _,bB.refl _ _⟩;refine aa.pre fun hw=>SQ.iJ _ _ _ _ _ _ ?_;rw [iI,kP (by omega)];refine ⟨fun m vs s'=>∃ (i k:Nat) (l':List (El E.O)),vs=[.int .i64 (i:Nat),.int .i64 (k:Nat)]/\k<=5/\m=5 - k/\x+1<=i/\i<=y/\FO s a lo rest l x y s' l'/\D5 l' x i,5,⟨x+1,0,l,rfl,by omega,rfl,by omega,by omega,w0 hw,fun p q _ _ _=>by omega⟩,?_⟩;rintro m n4 n5 s6 ⟨i0,k,l1,S,hk,rfl,an,ao,U,ar⟩;simp only [List.cons.injEq,AV.int.injEq,true_and,and_true] at S;obtain ⟨rfl,rfl⟩:=S;refine af.dec (fun bc=>?_) (fun _=>⟨false,l1,rfl,U,by simp⟩);refine ⟨fun vs s'=>∃ (i:Nat) (l':List (El E.O)),vs=[.int .i64 (i:Nat)]/\x+1<=i/\i<=y/\FO s a lo rest l x y s' l'/\D5 l' x i/\(i<y->(el l' i).lt (el l' (i - 1))=true),?_,?_⟩
 ·rintro n8 s9 ⟨i,l2,hi,F,G,n,W,g9⟩;simp only [List.cons.injEq,AV.int.injEq,true_and,and_true] at hi;subst hi;have be:=n.sw.len;refine af.mk (fun he=>?_) (fun aw=>?_)
  ·have:i=y:=by simp at he;omega
   subst this;exact ⟨true,l2,rfl,n,fun _=>W⟩
  have a0:i<y:=by simp at aw;omega
  rw [EI (by omega) (by omega)];refine af.dec (fun _=>⟨false,l2,rfl,n,by simp⟩) (fun _=>?_);rw [lG (by omega) (by omega)];refine n.arr.swap n.wf (by omega) (by omega) fun gl a1 a2 a3=>?_;have z:=n.swap hy ⟨by omega,by omega⟩ ⟨by omega,by omega⟩ a1 a2 a3;have X:∀ p q,x<=p->p<q->q<=i - 1->q≠i - 1->(el (CC l2 i (i - 1)) p).le (el (CC l2 i (i - 1)) q):=by
   intro p q A h2 h3 h4;rw [mS (by omega) (by omega),mS (by omega) (by omega),if_neg (by omega),if_neg (by omega),if_neg (by omega),if_neg (by omega)];exact W p q A h2 (by omega)
  have next:∀ s' l',FO s a lo rest l x y s' l'->D5 l' x i->∃ m',m'<5 - k/\∃ (i' k':Nat) (l':List (El E.O)),[AV.int .i64 (i:Nat),.int .i64 (IntKind.wrap .i64 ((k:Int)+1))]=[.int .i64 (i':Nat),.int .i64 (k':Nat)]/\k'<=5/\m'=5 - k'/\x+1<=i'/\i'<=y/\FO s a lo rest l x y s' l'/\D5 l' x i' :=
   fun s' l' A h2=>⟨5 - (k+1),by omega,i,k+1,l',by rw [kP (by omega)],by omega,rfl,by omega,by omega,A,h2⟩
  refine ⟨fun vs s'=>∃ l',FO s a lo rest l x y s' l'/\D5 l' x i,?_,?_⟩
  ·rintro uR ⟨l3,B,C⟩;rw [EI (by omega) (by omega)];refine af.dec (fun _=>?_) (fun _=>next _ _ B C);rw [kP (by omega)];refine ⟨fun m vs s'=>∃ (j:Nat) (l':List (El E.O)),vs=[.int .i64 (j:Nat)]/\i+1<=j/\m=y - j/\FO s a lo rest l x y s' l'/\D5 l' x i,y - (i+1),⟨i+1,l3,rfl,by omega,rfl,B,C⟩,?_⟩;rintro m bh bi ⟨j,H,hj,bj,rfl,d,o⟩;simp only [List.cons.injEq,AV.int.injEq,true_and,and_true] at hj;subst hj;have a4:=d.sw.len;refine af.dec (fun bk=>?_) (fun _=>next _ _ d o);rw [lG (by omega) (by omega)];refine d.arr.cmp (by omega) (by omega) fun oY I J Y=>af.mk (fun _=>next _ _ (d.to I J Y) o) (fun _=>?_);refine I.swap J (by omega) (by omega) fun rI a5 a6 a7=>?_;rw [kP (by omega)];refine ⟨y - (j+1),by omega,j+1,_,rfl,by omega,rfl,(d.to I J Y).swap hy ⟨by omega,by omega⟩ ⟨by omega,by omega⟩ a5 a6 a7,fun p q A h2 h3=>?_⟩;rw [mS (by omega) (by omega),mS (by omega) (by omega),if_neg (by omega),if_neg (by omega),if_neg (by omega),if_neg (by omega)];exact o p q A h2 h3
  ·rw [EI (by omega) (by omega)];refine af.dec (fun h2=>?_) (fun h2=>⟨_,z,fun p q A h2 h3=>by omega⟩);refine ⟨fun m vs s'=>∃ (j:Nat) (l':List (El E.O)),vs=[.int .i64 (j:Nat)]/\x<=j/\j<=i - 1/\m=2*j/\FO s a lo rest l x y s' l'/\(∀ p q,x<=p->p<q->q<=i - 1->q≠j->(el l' p).le (el l' q)),2*(i - 1),⟨i - 1,_,rfl,by omega,by omega,rfl,z,X⟩,?_⟩;rintro m bl bm ⟨j,H,hj,a8,Z,rfl,c,D⟩;simp only [List.cons.injEq,AV.int.injEq,true_and,and_true] at hj;subst hj;have a4:=c.sw.len;have fin:∀ s',FO s a lo rest l x y s' H->(j=x\/(el H (j - 1)).le (el H j))->∃ l',FO s a lo rest l x y s' l'/\D5 l' x i:=by
    intro s' A h2;have:=Kr a8 Z h2 D;rw [show i - 1+1=i by omega] at this;exact ⟨H,A,this⟩
   refine af.dec (fun a9=>?_) (fun a9=>fin _ c (.inl (by omega)));rw [lG (by omega) (by omega)];refine c.arr.cmp (by omega) (by omega) fun bo K L ab=>af.mk (fun M=>fin _ (c.to K L ab) (.inr (El.xj (by rw [<- El.gu];simpa using M)))) (fun M=>?_);have Q:(el H j).lt (el H (j - 1))=true:=by rw [<- El.gu];simpa using M
   have ad:x<j:=by
    rcases Nat.lt_or_ge x j with h' | h'
    ·exact h'
    ·exfalso;obtain rfl:x=j:=by omega
     have:=TD c.sw R (by omega) x (by omega) (by omega);rw [El.le] at this;rw [this] at Q;cases Q
   refine K.swap L (by omega) (by omega) fun bs a' ba bb=>?_;exact ⟨2*(j - 1),by omega,j - 1,_,rfl,by omega,by omega,rfl,(c.to K L ab).swap hy ⟨by omega,by omega⟩ ⟨by omega,by omega⟩ a' ba bb,Me (by omega) ad Z Q D⟩
 ·refine ⟨fun m vs s'=>∃ (i:Nat),vs=[.int .i64 (i:Nat)]/\x+1<=i/\i<=y/\m=y - i/\FO s a lo rest l x y s' l1/\D5 l1 x i,y - i0,⟨i0,rfl,an,ao,rfl,U,ar⟩,?_⟩;rintro m bx b0 ⟨i,hi,F,G,rfl,e,w⟩;simp only [List.cons.injEq,AV.int.injEq,true_and,and_true] at hi;subst hi;have b1:=e.sw.len;refine af.dec (fun a0=>?_) (fun b2=>⟨i,l1,rfl,F,G,e,w,fun h=>by omega⟩);rw [lG (by omega) (by omega)];refine e.arr.cmp (by omega) (by omega) fun b3 ae al am=>af.mk (fun M=>?_) (fun M=>?_)
  ·rw [kP (by omega)];exact ⟨y - (i+1),by omega,i+1,rfl,by omega,by omega,rfl,e.to ae al am,TC w (by omega) (El.xj (by rw [<- El.gu];simpa using M))⟩
  ·exact ⟨i,l1,rfl,F,G,e.to ae al am,w,fun _=>by rw [<- El.gu];simpa using M⟩
end
section
variable {cf:FuncId} [rQ E cf]
noncomputable def Qm (x:Nat):Bool:=match ju T cL (.str [0,1,2,2,3,3,3,3,4,4,4,4,4,4,4,4,5,5,5,5,5,5,5,5,5,5,5,5,5,5,5,5,6,6,6,6,6,6,6,6,6,6,6,6,6,6,6,6,6,6,6,6,6,6,6,6,6,6,6,6,6,6,6,6,7,7,7,7,7,7,7,7,7,7,7,7,7,7,7,7,7,7,7,7,7,7,7,7,7,7,7,7,7,7,7,7,7,7,7,7,7,7,7,7,7,7,7,7,7,7,7,7,7,7,7,7,7,7,7,7,7,7,7,7,7,7,7,7,8,8,8,8,8,8,8,8,8,8,8,8,8,8,8,8,8,8,8,8,8,8,8,8,8,8,8,8,8,8,8,8,8,8,8,8,8,8,8,8,8,8,8,8,8,8,8,8,8,8,8,8,8,8,8,8,8,8,8,8,8,8,8,8,8,8,8,8,8,8,8,8,8,8,8,8,8,8,8,8,8,8,8,8,8,8,8,8,8,8,8,8,8,8,8,8,8,8,8,8,8,8,8,8,8,8,8,8,8,8,8,8,8,8,8,8,8,8,8,8,8,8,8,8,8,8,8,8]) (.int .u8 (IntKind.wrap .u8 (x:Nat))) with
 | some (.int .u8 k)=>decide (0<=k/\k<=8/\(x=0\/(x<2 ^ k.toNat/\2 ^ k.toNat<=2*x)))
 | _=>false
theorem TE:(List.range 256).all Qm=true:=by kernel_rfl
theorem TF {x:Nat} (h:x<256):∃ k:Nat,ju T cL (.str [0,1,2,2,3,3,3,3,4,4,4,4,4,4,4,4,5,5,5,5,5,5,5,5,5,5,5,5,5,5,5,5,6,6,6,6,6,6,6,6,6,6,6,6,6,6,6,6,6,6,6,6,6,6,6,6,6,6,6,6,6,6,6,6,7,7,7,7,7,7,7,7,7,7,7,7,7,7,7,7,7,7,7,7,7,7,7,7,7,7,7,7,7,7,7,7,7,7,7,7,7,7,7,7,7,7,7,7,7,7,7,7,7,7,7,7,7,7,7,7,7,7,7,7,7,7,7,7,8,8,8,8,8,8,8,8,8,8,8,8,8,8,8,8,8,8,8,8,8,8,8,8,8,8,8,8,8,8,8,8,8,8,8,8,8,8,8,8,8,8,8,8,8,8,8,8,8,8,8,8,8,8,8,8,8,8,8,8,8,8,8,8,8,8,8,8,8,8,8,8,8,8,8,8,8,8,8,8,8,8,8,8,8,8,8,8,8,8,8,8,8,8,8,8,8,8,8,8,8,8,8,8,8,8,8,8,8,8,8,8,8,8,8,8,8,8,8,8,8,8,8,8,8,8,8,8]) (.int .u8 (IntKind.wrap .u8 (x:Nat)))=some (.int .u8 (k:Nat))/\k<=8/\(x=0\/(x<2 ^ k/\2 ^ k<=2*x)):=by
 have:=List.all_eq_true.1 TE x (List.mem_range.2 h);unfold Qm at this;split at this
 ·rename_i k b;obtain ⟨c,h2,h3⟩:=of_decide_eq_true this;refine ⟨k.toNat,?_,by omega,h3⟩;rw [b,Int.toNat_of_nonneg c]
 ·cases this
theorem Ph {x:Nat} (m:x<65536) (s:AS):aa Tryz.prog lM [.int .u64 (x:Nat)] s fun r s'=>∃ k:Nat,r=.int .i64 (k:Nat)/\k<=16/\(0<x->x<2 ^ k/\2 ^ k<=2*x)/\s'=s:=by
 refine EB _ _ _ ?_
 suffices h:aa Tryz.prog m_ [.int .u64 (x:Nat)] s fun r s'=>∃ k:Nat,r=.int .i64 (k:Nat)/\k<=16/\(0<x->x<2 ^ k/\2 ^ k<=2*x)/\s'=s from
  h.mono (by rintro r s' ⟨k,rfl,c,h2,rfl⟩;exact ⟨_,rfl,k,rfl,c,h2,rfl⟩)
 refine BJ _ _ _ ⟨fun vs s'=>vs=[.int .u64 (x:Nat),.int .i64 0]/\s'=s,?_,af.dec (fun h=>by omega) (fun _=>⟨rfl,rfl⟩)⟩;rintro n2 o s4 ⟨hv,rfl⟩;simp only [List.cons.injEq,AV.int.injEq,true_and,and_true] at hv;obtain ⟨rfl,rfl⟩:=hv;refine ⟨fun vs s'=>vs=[.int .u64 (x:Nat),.int .i64 0]/\s'=s4,?_,af.dec (fun h=>by omega) (fun _=>⟨rfl,rfl⟩)⟩;rintro p z s8 ⟨hv,rfl⟩;simp only [List.cons.injEq,AV.int.injEq,true_and,and_true] at hv;obtain ⟨rfl,rfl⟩:=hv;refine ⟨fun vs s'=>∃ y b:Nat,vs=[.int .u64 (y:Nat),.int .i64 (b:Nat)]/\y<256/\((b=0/\y=x)\/(b=8/\y=x / 256/\0<y))/\s'=s8,?_,af.dec (fun h=>⟨by decide,x / 256,8,?_,by omega,.inr ⟨rfl,rfl,by omega⟩,rfl⟩) (fun h=>⟨x,0,rfl,by omega,.inl ⟨rfl,rfl⟩,rfl⟩)⟩
 ·rintro d e dJ ⟨y,b,hv,i,hb,rfl⟩;simp only [List.cons.injEq,AV.int.injEq,true_and,and_true] at hv;obtain ⟨rfl,rfl⟩:=hv;obtain ⟨k,j,c,h2⟩:=TF i;refine ⟨_,j,b+k,?_,by omega,fun h0=>?_,rfl⟩
  ·rw [a_ (n:=(k:Int)) (by omega),a_ (by omega)];rfl
  ·rcases hb with ⟨rfl,rfl⟩ | ⟨rfl,l,h3⟩
   ·rw [Nat.zero_add];omega
   ·rw [Nat.pow_add];rcases h2 with h2 | ⟨h2,h4⟩
    ·omega
    ·generalize 2 ^ k=w at h2 h4 ⊢;omega
 ·have:Int.fdiv (x:Int) (2 ^ min (Int.toNat 8) (IntKind.bits .u64))=((x / 256:Nat):Int):=by
   show Int.fdiv (x:Int) ((256:Nat):Int)=_;rw [Int.fdiv_eq_ediv_of_nonneg _ (by omega)];rfl
  rw [this];rfl
theorem Vi {x:Nat} (c:x<65536) (h0:0<x) (s:AS):aa Tryz.prog iE [.int .i64 (x:Nat)] s fun r s'=>∃ k:Nat,r=.int .u64 ((2 ^ k:Nat):Int)/\k<=16/\x<2 ^ k/\2 ^ k<=2*x/\s'=s:=by
 refine uy _ _ _ ?_;rw [mA,gi (by omega)];refine (Ph c s).mono ?_;rintro r s' ⟨k,rfl,b,h2,rfl⟩;obtain ⟨h3,h4⟩:=h2 h0;refine ⟨_,rfl,by omega,k,?_,b,h3,h4,rfl⟩;have e:min (Int.toNat (k:Int)) (IntKind.bits .u64)=k:=by
  rw [Int.toNat_natCast];exact Nat.min_eq_left (Nat.le_trans b (by decide))
 rw [e,Int.one_mul,gi]
 ·rw [Int.natCast_pow];rfl
 ·have:(2:Int) ^ k=((2 ^ k:Nat):Int):=by rw [Int.natCast_pow];rfl
  rw [this];omega
theorem TG (n m:Int):∃ w:Int,bG .xor .u64 n m=some (.int .u64 w):=⟨_,rfl⟩
theorem aV.xor {n m:Int} {K:Int->Prop} (h:∀ w:Int,K w):aV .u64 (bG .xor .u64 n m) K:=⟨_,(TG n m).choose_spec,h _⟩
theorem TH {s:AS} {q:Nat} {b:AV} {w:Int} {K:AS->Prop} (c:aJ s) (d:Am.Own s q [b]) (h:∀ s',Am.Own s' q [.int .u64 w]->aJ s'->bB [q] s s'->K s'):ah (some (q,0)) fun l o=>bC (cS s l o [.int .u64 w]) K :=
 bC.own c d (by simp) fun s' P=>h s' P.at P.wf P.mut
theorem Xb {s:AS} {q:Nat} {n:Int} {K:Int->Prop} (b:Am.Own s q [.int .u64 n]) (h:K n):ah (some (q,0)) fun l o=>aV .u64 (ak s l o) K:=⟨n,by rw [b.at.ak];rfl,h⟩
set_option maxRecDepth 100000 in
theorem TI {s:AS} {q:Nat} {n:Int} (h:Am.Own s q [.int .u64 n]):aa Tryz.prog iV [.ptr (some (q,0))] s fun r s'=>∃ m m':Int,r=.int .u64 m/\Am.Own s' q [.int .u64 m']/\bB [q] s s':=by
 refine aa.pre fun o=>vF _ _ _ ?_;refine Xb h ?_;refine Xb h ?_;refine ⟨by decide,?_⟩;refine aV.xor fun w=>?_
 try dsimp only
 refine TH (w:=w) o h fun p b e i=>?_;refine Xb b ?_;refine Xb b ?_;refine ⟨by decide,?_⟩;refine aV.xor fun w=>?_
 try dsimp only
 refine TH (w:=w) e b fun gw c j k=>?_;refine Xb c ?_;refine Xb c ?_;refine ⟨by decide,?_⟩;refine aV.xor fun w=>?_
 try dsimp only
 refine TH (w:=w) j c fun x d y l=>?_;exact Xb d ⟨_,_,rfl,d,(i.trans k).trans l⟩
theorem RD {n:Int} {k:Nat} (b:k<=16):∃ w:Nat,bG .and .u64 n (IntKind.wrap .u64 (((2 ^ k:Nat):Int) - 1))=some (.int .u64 (w:Nat))/\w<2 ^ k:=by
 have c:0<2 ^ k:=Nat.pow_pos (by omega);have h2:2 ^ k<=65536:=Nat.le_trans (Nat.pow_le_pow_right (by omega) b) (by decide);refine ⟨(BitVec.ofInt 64 n &&& BitVec.ofInt 64 (((2 ^ k - 1:Nat):Int))).toNat,?_,?_⟩
 ·rw [gi (by omega)];rw [show (((2 ^ k:Nat):Int) - 1)=((2 ^ k - 1:Nat):Int) by omega];have key:∀ z:BitVec 64,IntKind.wrap .u64 (z.toNat:Int)=(z.toNat:Int):=fun z=>gi ⟨by omega,by have:=z.isLt;omega⟩;exact congrArg (fun u=>some (AV.int .u64 u)) (key (BitVec.ofInt 64 n &&& BitVec.ofInt 64 (((2 ^ k - 1:Nat):Int))))
 ·rw [BitVec.toNat_and];have h3:=@Nat.and_le_right (BitVec.ofInt 64 n).toNat (BitVec.ofInt 64 (((2 ^ k - 1:Nat):Int))).toNat;have h4:(BitVec.ofInt 64 (((2 ^ k - 1:Nat):Int))).toNat=2 ^ k - 1:=by
   rw [BitVec.ofInt_natCast,BitVec.toNat_ofNat];exact Nat.mod_eq_of_lt (by omega)
  omega
theorem TJ {s:AS} {a:AV} {lo:Nat} {l:List (El E.O)} {rest:List AV} {x y:Nat} (h:kD s a lo l rest) (U:x<y) (W:y<=l.length) (hn:l.length<65536) :
  aa Tryz.prog E.iW [a,.int .i64 (x:Nat),.int .i64 (y:Nat),.func cf []] s fun r s'=>r=.aQ []/\∃ l',FO s a lo rest l x y s' l':=by
 refine aa.pre fun R=>SQ.nA _ _ _ _ _ _ ?_;have C:s.h lo≠none:=by obtain ⟨_,g,h2⟩:=h;rw [h2];simp
 rw [ny,EI (by omega) (by omega)];refine af.dec (fun h8=>?_) (fun _=>⟨rfl,l,h,R,.refl _,bB.refl _ _⟩);refine aj.intro R rfl fun q s2 F=>bC.own F.wf F.own (by simp) fun s3 P=>?_;have X:Am.Own s3 q [_]:=P.at;have D:q≠lo:=by rintro rfl;exact C F.no
 have a3:kD s3 a lo l rest:=(h.ext F.ext).mut P.mut (by simp;exact fun e=>D e.symm);have Y:bB [lo] s s3:=⟨fun z o S j=>by
  have:=F.ext.1 z o j;exact P.mut.1 z o (by simp;rintro rfl;rw [F.no] at j;cases j) this,Nat.le_trans F.ext.2 P.mut.2⟩
 refine aa.use (Vi (x:=y - x) (by omega) (by omega) s3) ?_;rintro r s5 ⟨k,rfl,Z,ab,ad,rfl⟩ G;refine ⟨_,rfl,by decide,?_⟩;rw [show (4:Int)=((4:Nat):Int) by rfl,TB,wid (by omega),show (((y - x) / 4:Nat):Int)*2=(((y - x) / 4*2:Nat):Int) by omega,wid (by omega),Pe (by omega),lG (by omega) (by omega),kP (by omega)];generalize hd:x+(y - x) / 4*2=d;refine ⟨fun m vs s'=>∃ (i:Nat) (l':List (El E.O)) (v:Int),vs=[.int .i64 (i:Nat)]/\d - 1<=i/\m=d+2 - i/\Am.Own s' q [.int .u64 v]/\FO s a lo rest l x y s' l',d+2 - (d - 1),⟨d - 1,l,_,rfl,by omega,rfl,X,a3,G,.refl _,Y⟩,?_⟩;rintro m ae al ⟨i,l1,v,hi,am,rfl,H,b⟩;simp only [List.cons.injEq,AV.int.injEq,true_and,and_true] at hi;subst hi;have an:=b.sw.len;refine ⟨by decide,af.dec (fun hle=>?_) (fun _=>⟨rfl,l1,b⟩)⟩;refine aa.use (TI H) ?_;rintro r bQ ⟨w1,w2,rfl,I,p⟩ A;have J:kD bQ a lo l1 rest:=b.arr.mut p (by simp;exact fun e=>D e.symm);have K:bB [lo] s bQ:=⟨fun z o S j=>p.1 z o (by simp;rintro rfl;rw [F.no] at j;cases j) (b.eo.1 z o S j),Nat.le_trans b.eo.2 p.2⟩;have c:FO s a lo rest l x y bQ l1:=⟨J,A,b.sw,K⟩;obtain ⟨w,L,ao⟩:=RD (n:=w1) Z;refine ⟨_,rfl,_,L,?_⟩;show bt _;rw [wid (by omega)];refine ⟨fun vs s'=>s'=bQ/\∃ t:Nat,vs=[.int .i64 (t:Nat)]/\t<y - x,?_,af.dec (fun ar=>⟨rfl,w - (y - x),by rw [EI (by omega) (by omega)],by omega⟩) (fun aw=>⟨rfl,w,rfl,by omega⟩)⟩;rintro a0 iF ⟨rfl,t,ht,a1⟩;simp only [List.cons.injEq,AV.int.injEq,true_and,and_true] at ht;subst ht;rw [Pe (by omega)];refine c.arr.swap c.wf (by omega) (by omega) fun mG M Q B=>?_;rw [kP (by omega)];exact ⟨d+2 - (i+1),by omega,i+1,_,_,rfl,by omega,rfl,I.mut B (by simpa using D),c.swap W ⟨by omega,by omega⟩ ⟨by omega,by omega⟩ M Q B⟩
end
section
variable {cf:FuncId} [rQ E cf]
theorem Qn {L b:List Nat} {s s':AS} (h:bB L s s') (hs:∀ x∈L,x∈b):bB b s s':=⟨fun x o c d=>h.1 x o (fun hm=>c (hs x hm)) d,h.2⟩
structure Ct (s:AS) (a:AV) (lo:Nat) (l:List (El E.O)) (rest:List AV) (q:Nat) (s':AS):Prop where
 ne:q≠lo
 own:∃ c:Int,Am.Own s' q [.int .i64 c]
 arr:kD s' a lo l rest
 wf:aJ s'
 eo:bB [q,lo] s s'
section
variable {s s0:AS} {a:AV} {lo:Nat} {l:List (El E.O)} {rest:List AV} {q:Nat}
theorem Dg (h:Ct s0 a lo l rest q s) {x y:Nat} (m:x<l.length) (n:y<l.length) :
  aa Tryz.prog E.ji [a,.int .i64 (x:Nat),.int .i64 (y:Nat),.ptr (some (q,0)),.func cf []] s fun r s'=>∃ u v:Nat,r=.aQ [.int .i64 (u:Nat),.int .i64 (v:Nat)]/\(u=x\/u=y)/\(v=x\/v=y)/\Ct s0 a lo l rest q s':=by
 refine SQ.wq _ _ _ _ _ _ _ ?_;refine h.arr.cmp n m fun s8 d i j=>?_;obtain ⟨c,o⟩:=h.own;have b:Am.Own s8 q _:=o.mut j (by simpa using h.ne);have k:bB [q,lo] s0 s8:=h.eo.trans (Qn j (by simp));refine af.dec (fun _=>?_) (fun _=>⟨x,y,rfl,.inl rfl,.inr rfl,h.ne,⟨c,b⟩,d,i,k⟩);refine ⟨c,by rw [b.at.ak];rfl,bC.own i b (by simp) fun fH P=>⟨y,x,rfl,.inr rfl,.inl rfl,h.ne,⟨_,P.at⟩,d.mut P.mut (by simp;exact fun e=>h.ne e.symm),P.wf,k.trans (Qn P.mut (by simp))⟩⟩
theorem Jt (h:Ct s0 a lo l rest q s) {x y z:Nat} (c:x<l.length) (d:y<l.length) (e:z<l.length) :
  aa Tryz.prog E.lO [a,.int .i64 (x:Nat),.int .i64 (y:Nat),.int .i64 (z:Nat),.ptr (some (q,0)),.func cf []] s fun r s'=>∃ u:Nat,r=.int .i64 (u:Nat)/\(u=x\/u=y\/u=z)/\Ct s0 a lo l rest q s':=by
 refine SQ.wo _ _ _ _ _ _ _ _ ?_;refine (Dg h c d).mono ?_;rintro r s2 ⟨B,C,rfl,i,j,h2⟩;refine ⟨_,_,rfl,(Dg h2 (by omega) e).mono ?_⟩;rintro r s6 ⟨D,F,rfl,k,m,n⟩;refine ⟨_,_,rfl,(Dg n (by omega) (by omega)).mono ?_⟩;rintro r o ⟨G,p,rfl,w,A,b⟩;exact ⟨_,_,rfl,p,rfl,by omega,b⟩
theorem Dh (h:Ct s0 a lo l rest q s) {x:Nat} (h0:1<=x) (c:x+1<l.length) (d:l.length<65536) :
  aa Tryz.prog E.ec [a,.int .i64 (x:Nat),.ptr (some (q,0)),.func cf []] s fun r s'=>∃ u:Nat,r=.int .i64 (u:Nat)/\(x<=u+1/\u<=x+1)/\Ct s0 a lo l rest q s':=by
 refine SQ.mD _ _ _ _ _ _ ?_;rw [mB,lG (by omega) (by omega),kP (by omega)];refine (Jt h (by omega) (by omega) (by omega)).mono ?_;rintro r s' ⟨u,rfl,hu,b⟩;exact ⟨_,rfl,u,rfl,by omega,b⟩
theorem RE {x y:Nat} (h:kD s a lo l rest) (J:x<y) (U:y<=l.length) (e:l.length<65536) :
  aa Tryz.prog E.ku [a,.int .i64 (x:Nat),.int .i64 (y:Nat),.func cf []] s fun r s'=>∃ (p:Nat) (t:Int),r=.aQ [.int .i64 (p:Nat),.int .i64 t]/\(x<=p/\p<y)/\kD s' a lo l rest/\bB [lo] s s':=by
 have m:s.h lo≠none:=by obtain ⟨_,g,h2⟩:=h;rw [h2];simp
 refine aa.pre fun K=>SQ.pT _ _ _ _ _ _ (aj.intro K rfl fun q s2 F=>⟨by decide,by decide,by decide,?_⟩);have L:q≠lo:=by rintro rfl;exact m F.no
 have c2:Ct s2 a lo l rest q s2:=⟨L,⟨_,F.own⟩,h.ext F.ext,F.wf,bB.refl _ _⟩;have back:∀ s',Ct s2 a lo l rest q s'->bB [lo] s s':=fun s' c=>⟨fun z o M n=>c.eo.1 z o (by
  simp only [List.mem_cons,List.not_mem_nil,or_false,not_or];exact ⟨(by rintro rfl;rw [F.no] at n;cases n),by simpa using M⟩) (F.ext.1 z o n),Nat.le_trans F.ext.2 c.eo.2⟩
 have w:∀ k:Nat,k<=3->IntKind.wrap .i64 ((x:Int)+IntKind.wrap .i64 (IntKind.wrap .i64 (Int.tdiv (IntKind.wrap .i64 ((y:Int) - (x:Int))) 4)*((k:Nat):Int)))=((x+(y - x) / 4*k:Nat):Int):=by
  intro k A;have hm:(y - x) / 4*k<=(y - x) / 4*3:=Nat.mul_le_mul_left _ A;rw [EI (by omega) (by omega),show (4:Int)=((4:Nat):Int) by rfl,TB,wid (by omega),<- Int.natCast_mul,wid (by omega),Pe (by omega)]
 have w1:=w 1 (by omega);have w2:=w 2 (by omega);have I:=w 3 (by omega);simp only [Int.natCast_one,show ((2:Nat):Int)=2 by rfl,show ((3:Nat):Int)=3 by rfl] at w1 w2 I;rw [w1,w2,I,EI (by omega) (by omega)];refine ⟨fun vs s'=>∃ p:Nat,vs=[.int .i64 (p:Nat)]/\(x<=p/\p<y)/\Ct s2 a lo l rest q s',?_,af.dec (fun W=>?_) (fun _=>⟨_,rfl,by omega,c2⟩)⟩
 ·rintro X Y ⟨p,hp,b,d⟩;simp only [List.cons.injEq,AV.int.injEq,true_and,and_true] at hp;subst hp;obtain ⟨c,o⟩:=d.own;refine ⟨c,by rw [o.at.ak];rfl,?_⟩;refine af.mk (fun _=>⟨p,_,rfl,b,d.arr,back _ d⟩) (fun _=>af.mk (fun _=>⟨p,_,rfl,b,d.arr,back _ d⟩) (fun _=>⟨p,_,rfl,b,d.arr,back _ d⟩))
 ·refine ⟨fun vs s'=>∃ i j k:Nat,vs=[.int .i64 (i:Nat),.int .i64 (j:Nat),.int .i64 (k:Nat)]/\(x<=i/\i<y)/\(x<=j/\j<y)/\(x<=k/\k<y)/\Ct s2 a lo l rest q s',?_,af.dec (fun O=>?_) (fun _=>⟨_,_,_,rfl,by omega,by omega,by omega,c2⟩)⟩
  ·rintro Z n9 Q R ⟨i,j,k,hv,hi,hj,A,B⟩;simp only [List.cons.injEq,AV.int.injEq,true_and,and_true] at hv;obtain ⟨rfl,rfl,rfl⟩:=hv;refine (Jt B (by omega) (by omega) (by omega)).mono ?_;rintro r bQ ⟨u,rfl,hu,C⟩;exact ⟨_,rfl,u,rfl,by omega,C⟩
  ·refine (Dh c2 (by omega) (by omega) e).mono ?_;rintro r S ⟨i,rfl,hi,D⟩;refine ⟨_,rfl,(Dh D (by omega) (by omega) e).mono ?_⟩;rintro r iF ⟨j,rfl,hj,G⟩;refine ⟨_,rfl,(Dh G (by omega) (by omega) e).mono ?_⟩;rintro r fV ⟨k,rfl,A,H⟩;exact ⟨_,rfl,i,j,k,rfl,by omega,by omega,by omega,H⟩
end
end
section
variable {cf:FuncId} [rQ E cf]
structure Gd (s:AS) (a:AV) (lo:Nat) (rest:List AV) (l:List (El E.O)) (x y:Nat) (s':AS) (l':List (El E.O)) (c d:Nat):Prop where
 st:FO s a lo rest l x y s' l'
 ar:jx l' x y c d
 xc:x<=c
 cd:c<=d
 dy:d<=y
section
variable {s:AS} {a:AV} {lo:Nat} {rest:List AV} {l:List (El E.O)} {x y:Nat}
theorem Gd.sub {s' s'':AS} {l' l'':List (El E.O)} {c d c' b:Nat} (h:Gd s a lo rest l x y s' l' c d) (e:y<=l.length) (i:kD s'' a lo l'' rest) (j:aJ s'') (hs:Sw c' b l' l'') (m:bB [lo] s' s'') (k:c<=c') (hd:b<=d):FO s a lo rest l x y s'' l'' :=
 ⟨i,j,h.st.sw.trans (hs.Wd (Nat.le_trans h.xc k) (Nat.le_trans hd h.dy) (by rw [h.st.sw.len];exact e)),h.st.eo.trans m⟩
theorem Gd.perm {s' s'':AS} {l' l'':List (El E.O)} {c d:Nat} (h:Gd s a lo rest l x y s' l' c d) (b:y<=l.length) (e:kD s'' a lo l'' rest) (i:aJ s'') (hs:Sw c d l' l'') (m:bB [lo] s' s''):Gd s a lo rest l x y s'' l'' c d :=
 ⟨h.sub b e i hs m (Nat.le_refl _) (Nat.le_refl _),h.ar.sw h.xc h.dy hs,h.xc,h.cd,h.dy⟩
theorem Gd.to {s' s'':AS} {l':List (El E.O)} {c d:Nat} (h:Gd s a lo rest l x y s' l' c d) (b:kD s'' a lo l' rest) (e:aJ s'') (m:bB [lo] s' s''):Gd s a lo rest l x y s'' l' c d :=
 ⟨h.st.to b e m,h.ar,h.xc,h.cd,h.dy⟩
theorem Gd.low {s':AS} {l':List (El E.O)} {c d:Nat} (h:Gd s a lo rest l x y s' l' c d) (b:0<x->∀ q,x<=q->q<y->(el l (x - 1)).le (el l q)):0<c->∀ q,c<=q->q<d->(el l' (c - 1)).le (el l' q):=by
 intro h0 q i h2;have:=h.xc;have:=h.dy;by_cases e:c=x
 ·subst e;exact TD h.st.sw b h0 q i (by omega)
 ·exact h.ar (c - 1) q (by omega) (by omega) (by omega) (.inl (by omega))
end
theorem Xc {a:AV} {lo:Nat} {rest:List AV}:∀ (n:Nat) {s:AS} {l:List (El E.O)} {x y:Nat} (U:Int),y - x=n->kD s a lo l rest->x<=y->y<=l.length->l.length<65536->(0<x->∀ q,x<=q->q<y->(el l (x - 1)).le (el l q)) ->
  aa Tryz.prog E.fT [a,.int .i64 (x:Nat),.int .i64 (y:Nat),.int .i64 U,.func cf []] s fun r s'=>r=.aQ []/\∃ l',FO s a lo rest l x y s' l'/\D5 l' x y:=by
 intro n
 induction n using Nat.strongRecOn with
 | _ n IH =>
 intro s l x y U hn h b9 L hl B;refine aa.pre fun hw=>SQ.oQ _ _ _ _ _ _ _ ⟨fun m vs s'=>∃ (c d:Nat) (li:Int) (b1 b2:Bool) (l':List (El E.O)),vs=[.int .i64 (c:Nat),.int .i64 (d:Nat),.int .i64 li,.bool b1,.bool b2]/\m=d - c/\Gd s a lo rest l x y s' l' c d,y - x,⟨x,y,U,true,true,l,rfl,rfl,⟨h,hw,.refl _,bB.refl _ _⟩,jx.start _ _ _,by omega,by omega,by omega⟩,?_⟩;rintro m n4 n5 n6 b7 b8 s9 ⟨c,d,li,b1,b2,l1,hv,rfl,C⟩;simp only [List.cons.injEq,AV.int.injEq,AV.bool.injEq,true_and,and_true] at hv;obtain ⟨rfl,rfl,rfl,rfl,rfl⟩:=hv;have W:=C.xc;have a5:=C.cd;have X:=C.dy;have b':=C.st.sw.len;rw [EI (by omega) (by omega)];refine af.dec (fun a6=>?_) (fun a6=>af.mk (fun _=>?_) (fun _=>?_))
 ·refine aa.use (Pd C.st.arr a5 (by omega) (by omega)) ?_;rintro r a7 ⟨rfl,Y,Z,D,F,ab⟩ ad;have G:=C.perm L Z ad D ab;exact ⟨rfl,rfl,Y,G.st,G.ar.X8 F⟩
 ·refine aa.use (M7 C.st.arr (by omega) (by omega) (by omega)) ?_;rintro r a7 ⟨rfl,Y,Z,D,F,ab⟩ ad;have G:=C.perm L Z ad D ab;exact ⟨rfl,rfl,Y,G.st,G.ar.X8 F⟩
 have w:c<d:=by omega
 refine ⟨fun vs s'=>∃ (li:Int) (l':List (El E.O)),vs=[.int .i64 li]/\Gd s a lo rest l x y s' l' c d,?_,af.mk (fun _=>?_) (fun _=>⟨_,l1,rfl,C⟩)⟩
 ·rintro ca cb ⟨cc,Y,hv,ae⟩;simp only [List.cons.injEq,AV.int.injEq,true_and,and_true] at hv;subst hv;have ce:=ae.st.sw.len;refine aa.use (RE ae.st.arr w (by omega) (by omega)) ?_;rintro r eH ⟨p,t,rfl,hp,a8,a9⟩ a';have al:=ae.to a8 a' a9;refine ⟨_,_,rfl,fun vs s'=>∃ (p:Nat) (t:Int) (l':List (El E.O)),vs=[.int .i64 (p:Nat),.int .i64 t]/\(c<=p/\p<d)/\Gd s a lo rest l x y s' l' c d,?_,af.mk (fun _=>?_) (fun _=>⟨p,t,Y,rfl,hp,al⟩)⟩
  ·rintro ch ci ba ⟨p,t,l3,hv,hp,H⟩;simp only [List.cons.injEq,AV.int.injEq,true_and,and_true] at hv;obtain ⟨rfl,rfl⟩:=hv;refine ⟨fun vs s'=>∃ l',Gd s a lo rest l x y s' l' c d,?_,?_⟩
   ·rintro ck ⟨l4,M⟩;have cl:=M.st.sw.len;refine ⟨fun vs s'=>∃ b,vs=[.bool b]/\Gd s a lo rest l x y s' l4 c d/\(b=true->0<c/\(el l4 p).le (el l4 (c - 1))),?_,?_⟩
    ·rintro cm cn ⟨b,hv,Q,hb⟩;simp only [List.cons.injEq,AV.bool.injEq,and_true] at hv;subst hv;refine af.mk (fun bc=>?_) (fun _=>?_)
     ·obtain ⟨a1,hle⟩:=hb bc;refine aa.use (RC Q.st.arr hp (by omega) (by omega)) ?_;rintro r mG ⟨i,j,l5,rfl,bd,R,z,be,a2,bh⟩ bi;have am:=Q.perm L bd bi R bh;have cp:=z.xi;have cr:=z.jy;have cs:=z.ij;refine ⟨_,rfl,d - i,by omega,i,d,_,_,_,l5,rfl,rfl,am.st,am.ar.equal W X z be (fun k h1 h2=>?_),by omega,by omega,by omega⟩;rw [a2];refine El.le_trans hle ?_;have:=am.low B a1 k h1 h2;rw [R.out (.inl (by omega))] at this;exact this
     ·refine aa.use (K4 Q.st.arr hp (by omega) (by omega)) ?_;rintro r lC ⟨S,bb,l5,rfl,an,a3,o,bj⟩ bk;have A:=Q.perm L an bk a3 bj;have bl:=o.xm;have cu:=o.my;have cv:=A.st.sw.len;have ao:=A.low B;refine ⟨_,_,rfl,by decide,?_⟩;rw [kP (by omega)];refine af.mk (fun _=>?_) (fun _=>?_)
      ·refine aa.use (IH (S - c) (by omega) (s:=lC) (l:=l5) (x:=c) (y:=S) _ rfl an bl (by omega) (by omega) (fun h0 q h1 h2=>ao h0 q h1 (by omega))) ?_;rintro r bm ⟨rfl,l6,e,I⟩ aw;refine ⟨rfl,d - (S+1),by omega,S+1,d,_,_,_,l6,rfl,rfl,A.sub L e.arr aw e.sw e.eo (Nat.le_refl _) (by omega),A.ar.right W X o e.sw I,by omega,by omega,by omega⟩
      ·refine aa.use (IH (d - (S+1)) (by omega) (s:=lC) (l:=l5) (x:=S+1) (y:=d) _ rfl an (by omega) (by omega) (by omega) (fun h0 q h1 h2=>by
        rw [Nat.add_sub_cancel];exact o.ge q (by omega) h2)) ?_
       rintro r bm ⟨rfl,l6,e,I⟩ aw;refine ⟨rfl,S - c,by omega,c,S,_,_,_,l6,rfl,rfl,A.sub L e.arr aw e.sw e.eo (by omega) (Nat.le_refl _),A.ar.left W X o e.sw I,by omega,by omega,by omega⟩
    ·refine af.dec (fun a1=>?_) (fun _=>⟨false,rfl,M,by simp⟩);rw [lG (by omega) (by omega)];refine M.st.arr.cmp (by omega) (by omega) fun cw bo bs bx=>⟨_,rfl,M.to bo bs bx,fun hb=>⟨by omega,?_⟩⟩;exact El.xj (by rw [<- El.gu];simpa using hb)
   ·refine ⟨fun vs s'=>∃ b,vs=[.bool b]/\s'=ba,?_,af.mk (fun _=>af.mk (fun _=>⟨_,rfl,rfl⟩) (fun _=>⟨_,rfl,rfl⟩)) (fun _=>⟨_,rfl,rfl⟩)⟩;rintro cx cy ⟨b,hv,rfl⟩;simp only [List.cons.injEq,AV.bool.injEq,and_true] at hv;subst hv;have cz:=H.st.sw.len;refine af.mk (fun _=>?_) (fun _=>⟨l3,H⟩);refine aa.use (Pg H.st.arr w (by omega) (by omega) (H.low B)) ?_;rintro r cA ⟨b,l4,rfl,J,hs⟩ b0;have a0:=H.perm L J.arr b0 J.sw J.eo;exact ⟨_,rfl,af.mk (fun hb=>⟨rfl,l4,a0.st,a0.ar.X8 (hs hb)⟩) (fun _=>⟨l4,a0⟩)⟩
  ·refine aa.use (Pf al.st.arr w (by omega) (by omega)) ?_;rintro r cB ⟨rfl,l3,b3,a4,b4⟩ b5;rw [lG (by omega) (by omega),EI (by omega) (by omega),EI (by omega) (by omega)];exact ⟨rfl,d - 1 - (p - c),1,l3,rfl,by omega,al.perm L b3 b5 a4 b4⟩
 ·refine aa.use (TJ C.st.arr w (by omega) (by omega)) ?_;rintro r cC ⟨rfl,Y,K⟩ b6;exact ⟨rfl,_,Y,rfl,C.perm L K.arr b6 K.sw K.eo⟩
theorem Vj {s:AS} {a:AV} {lo:Nat} {rest:List AV} {l:List (El E.O)} (h:kD s a lo l rest) (b:l.length<65536) :
  aa Tryz.prog E.vG [a,.func cf []] s fun r s'=>r=.aQ []/\∃ l',kD s' a lo l' rest/\l'.Perm l/\D5 l' 0 l'.length/\bB [lo] s s':=by
 refine SQ.z0 _ _ _ _ ?_;have hlen:aL T E.ys a s=some (.int .i64 (l.length:Nat)):=by
  obtain ⟨⟨c,e,rfl⟩,_⟩:=h;simp [aL,E.us]
 refine ⟨_,hlen,?_⟩;dsimp only;rw [gi (by omega)];refine aa.use (Ph b s) ?_;rintro r s3 ⟨k,rfl,_,_,rfl⟩ i;refine ⟨_,rfl,?_⟩;refine (Xc (l.length - 0) (x:=0) (y:=l.length) k rfl h (by omega) (by omega) b (by omega)).mono ?_;rintro r s6 ⟨rfl,l',st,d⟩;exact ⟨rfl,rfl,l',st.arr,st.sw.perm,by rw [st.sw.len];exact d,st.eo⟩
end
section
theorem Pj {cf:FuncId} {a:Option (Nat×Nat)} (s:AS):aa Tryz.prog E.fM [.slc a 0 0 true,.int .i64 0,.int .i64 0,.func cf []] s fun r s'=>r=.aQ []/\s'=s:=by
 refine SQ.iX _ _ _ _ _ _ ⟨fun m vs s'=>vs=[.int .i64 1]/\s'=s,0,⟨rfl,rfl⟩,?_⟩;rintro m n b ⟨hi,rfl⟩;simp only [List.cons.injEq,AV.int.injEq,true_and,and_true] at hi;subst hi;exact af.no (by decide) ⟨rfl,rfl⟩
theorem Pk {cf:FuncId} {a:Option (Nat×Nat)} (s:AS) (b:Int):aa Tryz.prog E.fT [.slc a 0 0 true,.int .i64 0,.int .i64 0,.int .i64 b,.func cf []] s fun r s'=>r=.aQ []/\s'=s:=by
 refine SQ.oQ _ _ _ _ _ _ _ ⟨fun m vs s'=>vs=[.int .i64 0,.int .i64 0,.int .i64 b,.bool true,.bool true]/\s'=s,0,⟨rfl,rfl⟩,?_⟩;rintro m c d e i j s9 ⟨hi,rfl⟩;simp only [List.cons.injEq,AV.int.injEq,AV.bool.injEq,true_and,and_true] at hi;obtain ⟨rfl,rfl,rfl,rfl,rfl⟩:=hi;refine af.yes (by decide) ?_;refine aa.use (Pj s9) ?_;rintro r s' ⟨rfl,rfl⟩ _;exact ⟨rfl,rfl,rfl⟩
theorem M9 {cf:FuncId} {a:Option (Nat×Nat)} (s:AS):aa Tryz.prog E.vG [.slc a 0 0 true,.func cf []] s fun r s'=>r=.aQ []/\s'=s:=by
 refine SQ.z0 _ _ _ _ ?_;have hlen:aL T E.ys (.slc a 0 0 true) s=some (.int .i64 0):=by simp [aL,E.us]
 refine ⟨_,hlen,?_⟩;dsimp only;rw [show IntKind.wrap .u64 (0:Int)=((0:Nat):Int) from gi (by omega)];refine aa.use (Ph (by omega) s) ?_;rintro r s3 ⟨k,rfl,_,_,rfl⟩ b;refine ⟨_,rfl,?_⟩;refine aa.use (Pk _ _) ?_;rintro r s6 ⟨rfl,rfl⟩ _;exact ⟨rfl,rfl,rfl⟩
def Pm (s0 s:AS) (v:AV) (l:List (El E.O)):Prop:=Ext s0 s/\((l=[]/\∃ a,v=.slc a 0 0 true)\/∃ la,v=.slc (some (la,0)) l.length l.length false/\kD s v la l []/\s0.h la=none)
variable {cf:FuncId} [rQ E cf]
theorem z4 {s0 s:AS} {v:AV} {l:List (El E.O)} {sz:Nat} (g:aW E.cC sz [] s0 s v l) (k:l.length<65536) :
  aa Tryz.prog E.vG [v,.func cf []] s fun r s'=>r=.aQ []/\∃ l',l'.Perm l/\D5 l' 0 l'.length/\Pm s0 s' v l':=by
 have b:Ext s0 s:=g.eo.ext;rcases g.uQ with ⟨rfl,a,rfl⟩ | ⟨la,rfl,m⟩
 ·refine (M9 s).mono ?_;rintro r s' ⟨rfl,rfl⟩;exact ⟨rfl,[],.refl _,fun i j p h2 h3=>by simp at h3,b,.inl ⟨rfl,a,rfl⟩⟩
 ·have n:kD s (.slc (some (la,0)) l.length l.length false) la l []:=⟨⟨_,_,rfl⟩,sz,by simpa using m⟩;have e:s0.h la=none:=g.new la (by simp [ax]);refine (Vj n k).mono ?_;rintro r s' ⟨rfl,l',c,hp,hs,m'⟩;refine ⟨rfl,l',hp,hs,⟨fun x o d=>m'.1 x o (by simp only [List.mem_singleton];rintro rfl;rw [e] at d;cases d) (b.1 x o d),Nat.le_trans b.2 m'.2⟩,.inr ⟨la,by rw [hp.length_eq],c,e⟩⟩
end
end
end Go.Proofs.YtohgmogbabkkeaaGreat.SG
namespace Go.Proofs.YtohgmogbabkkeaaGreat
section
set_option maxRecDepth 100000
set_option maxHeartbeats 4000000
open Go.Am Go.aq
def oe:Go.aq.SG.OE:=⟨aO,⟨0,0⟩,aO.lt,aO.cmp,fun a b=>aO.gu,fun a b c h d=>aO.le_trans (a:=a) (b:=b) (c:=c) h d,fun a=>aO.le_refl a,fun a b h=>aO.A7 h⟩
def se:SG.SE:=⟨oe,aP,2,br,fun x=>rfl,aC,gM,bJ,kN,fD,qd,lV,pG,nj,mF,jf,k_,oI,pH,lq,qB,qC,lW⟩
instance:SG.SQ se where
 z0:=fun a0 a1 s R h =>
  aa.q (n:=14) (rs:=[]) (A:=SG.Pc) hT bX Tryz.func192 (by kernel_rfl) rfl rfl rfl (by kernel_rfl) (by kernel_rfl) h
 oQ:=fun a0 a1 a2 a3 a4 s R h =>
  aa.q (n:=148) (rs:=[]) (A:=SG.Dd) hT bX Tryz.func247 (by kernel_rfl) rfl rfl rfl (by kernel_rfl) (by kernel_rfl) h
 iX:=fun a0 a1 a2 a3 s R h =>
  aa.q (n:=53) (rs:=[]) (A:=SG.vI) hT bX Tryz.func272 (by kernel_rfl) rfl rfl rfl (by kernel_rfl) (by kernel_rfl) h
 sJ:=fun a0 a1 a2 a3 s R h =>
  aa.q (n:=60) (rs:=[]) (A:=SG.BL) hT bX Tryz.func273 (by kernel_rfl) rfl rfl rfl (by kernel_rfl) (by kernel_rfl) h
 pT:=fun a0 a1 a2 a3 s R h =>
  aa.q (n:=63) (rs:=[.tmp 8,.tmp 9]) (A:=SG.xX) hT bX Tryz.func275 (by kernel_rfl) rfl rfl rfl (by kernel_rfl) (by kernel_rfl) h
 nX:=fun a0 a1 a2 a3 s R h =>
  aa.q (n:=34) (rs:=[]) (A:=SG.wF) hT bX Tryz.func276 (by kernel_rfl) rfl rfl rfl (by kernel_rfl) (by kernel_rfl) h
 iJ:=fun a0 a1 a2 a3 s R h =>
  aa.q (n:=141) (rs:=[.tmp 8]) (A:=SG.pS) hT bX Tryz.func277 (by kernel_rfl) rfl rfl rfl (by kernel_rfl) (by kernel_rfl) h
 mC:=fun a0 a1 a2 a3 a4 s R h =>
  aa.q (n:=90) (rs:=[.tmp 10]) (A:=SG.uA) hT bX Tryz.func278 (by kernel_rfl) rfl rfl rfl (by kernel_rfl) (by kernel_rfl) h
 rM:=fun a0 a1 a2 a3 a4 s R h =>
  aa.q (n:=178) (rs:=[.tmp 10,.tmp 11]) (A:=SG.zZ) hT bX Tryz.func279 (by kernel_rfl) rfl rfl rfl (by kernel_rfl) (by kernel_rfl) h
 sL:=fun a0 a1 a2 a3 a4 s R h =>
  aa.q (n:=82) (rs:=[]) (A:=SG.BN) hT bX Tryz.func303 (by kernel_rfl) rfl rfl rfl (by kernel_rfl) (by kernel_rfl) h
 mD:=fun a0 a1 a2 a3 s R h =>
  aa.q (n:=18) (rs:=[.tmp 8]) (A:=SG.uB) hT bX Tryz.func304 (by kernel_rfl) rfl rfl rfl (by kernel_rfl) (by kernel_rfl) h
 wo:=fun a0 a1 a2 a3 a4 a5 s R h =>
  aa.q (n:=41) (rs:=[.tmp 12]) (A:=SG.ED) hT bX Tryz.func305 (by kernel_rfl) rfl rfl rfl (by kernel_rfl) (by kernel_rfl) h
 wq:=fun a0 a1 a2 a3 a4 s R h =>
  aa.q (n:=32) (rs:=[.tmp 10,.tmp 11]) (A:=SG.EF) hT bX Tryz.func313 (by kernel_rfl) rfl rfl rfl (by kernel_rfl) (by kernel_rfl) h
 nA:=fun a0 a1 a2 a3 s R h =>
  aa.q (n:=67) (rs:=[]) (A:=SG.vJ) hT bX Tryz.func274 (by kernel_rfl) rfl rfl rfl (by kernel_rfl) (by kernel_rfl) h
class rQ (cf:FuncId):Prop where
 ok:∀ (a b:aO) (s:AS),aa Tryz.prog cf [.agg (aP a),.agg (aP b)] s fun v s'=>v=.int .i64 (a.cmp b)/\Ext s s'
instance:rQ cV:=⟨vK⟩
structure kD (s:AS) (a:AV) (lo:Nat) (l:List aO) (rest:List AV):Prop where
 val:∃ c e,a=.slc (some (lo,0)) l.length c e
 obj:∃ g,s.h lo=some (.cells (l.flatMap aP++rest) g false)
section
variable {s:AS} {a:AV} {lo:Nat} {l:List aO} {rest:List AV}
theorem rR (l:List aO):(l.flatMap aP).length=l.length*2:=by
 induction l with
 | nil=>rfl
 | cons x l b=>simp only [List.flatMap_cons,List.length_append,b,br,List.length_cons];omega
end
instance Yw {cf:FuncId} [h:rQ cf]:SG.rQ se cf:=⟨h.ok⟩
theorem kD.of {s:AS} {a:AV} {lo:Nat} {l:List aO} {rest:List AV} (h:SG.kD (E:=se) s a lo l rest):kD s a lo l rest:=⟨h.val,h.obj⟩
def Pm (s0 s:AS) (v:AV) (l:List aO):Prop:=Ext s0 s/\((l=[]/\∃ a,v=.slc a 0 0 true)\/∃ la,v=.slc (some (la,0)) l.length l.length false/\kD s v la l []/\s0.h la=none)
theorem z4 {cf:FuncId} [rQ cf] {s0 s:AS} {v:AV} {l:List aO} {sz:Nat} (g:aW aP sz [] s0 s v l) (c:l.length<65536) :
  aa Tryz.prog fD [v,.func cf []] s fun r s'=>r=.aQ []/\∃ l',l'.Perm l/\D5 l' 0 l'.length/\Pm s0 s' v l':=by
 refine (SG.z4 (E:=se) (cf:=cf) g c).mono ?_;rintro r s' ⟨d,l',h2,h3,h4,b⟩;refine ⟨d,l',h2,h3,h4,?_⟩;rcases b with b | ⟨la,e,i,j⟩
 ·exact .inl b
 ·exact .inr ⟨la,e,kD.of i,j⟩
theorem Pm.YJ {s0 s:AS} {v:AV} {l:List aO} (h:Pm s0 s v l):Sl aP 2 s v l:=by
 rcases h.2 with ⟨rfl,a,rfl⟩ | ⟨la,rfl,⟨_,g,b⟩,_⟩
 ·exact Sl.nil
 ·refine bR.mk ⟨_,_,b⟩ (rR l) ?_ (Nat.le_refl _);rw [List.drop_zero];show (l.flatMap aP++[]).take _=_;rw [List.append_nil];exact List.take_of_length_le (Nat.le_of_eq (rR l))
end
section
open Go.Am Go.aq
theorem Qo:∀ (b a c:List AV),b.length<=c.length->qQ (a++c) a.length b=a++b++c.drop b.length
 | [],a,c,h=>by simp [qQ]
 | v::b,a,[],h=>by simp at h
 | v::b,a,y::c,h=>by
  have d:=Qo b (a++[v]) c (by simpa using h);have e:(a++y::c).set a.length v=a++[v]++c:=by
   rw [List.set_append_right _ _ (Nat.le_refl _)];simp
  show qQ ((a++y::c).set a.length v) (a.length+1) b=_;rw [e];simp only [List.length_append,List.length_cons,List.length_nil,Nat.zero_add] at d;rw [d];simp
end
section
open Go.Am Go.aq
end
section
open Go.Am Go.aq
theorem Vk:triples (T.cW gM)=some [(false,um,0),(false,kh,1)]:=by kernel_rfl
theorem Xd:T.UT gM=true:=by kernel_rfl
theorem z5 (a b:aO):iZ T 100 gM (.agg (aP a)) (.agg (aP b))=some (decide (a=b)):=by
 rw [Qh Vk Xd];simp only [GF,cond_false,CR WV,CR C1,aP,List.getElem?_cons_zero,List.getElem?_cons_succ,Option.bind_some,Tf Ql,Tf Tu];cases a;cases b;simp only [aO.mk.injEq];rename_i r c d c';by_cases e:r=d <;> by_cases h2:c=c' <;> simp [e,h2]
theorem M_ {l o:Nat} {i:Int} (h:0<=i/\i<16):ag T aX (.ptr (some (l,o))) (.int .i64 i)=some (.ptr (some (l,o+i.toNat*1))):=vk xJ ki h
theorem K5 {l o:Nat} {i:Int} (h:0<=i/\i<16):ag T cD (.ptr (some (l,o))) (.int .i64 i)=some (.ptr (some (l,o+i.toNat*1))):=vk KC ki h
theorem Na {s:AS} {v:AV} {l:List aO} (b:IB s v l) (i:l.length<=2 ^ 30):aa Tryz.prog aM [v] s fun r s'=>aW aP 2 [] s s' r l:=by
 refine aa.pre fun j=>sg _ _ _ ?_;have main:aS (de T aC 0 []) fun k=>aj (.cells k 0 false) s fun l3 s4=>ig (aG T aC aC (.slc (some (l3,0)) 0 0 true) v s4) fun m s6=>aW aP 2 [] s s6 m l:=by
  refine ⟨_,xl jk,aj.intro j rfl fun l3 s4 F=>?_⟩;refine aW.iq jk br nB F.wf (aW.start (M:=[]) F.ext.mut) (by simp) (b.ext F.ext) (by simpa using i) bJ fun v' s' g _ _=>?_;simpa using g
 rcases b with ⟨rfl,_,d⟩ | ⟨a,c,e,rfl,hlen,h3⟩
 ·refine ⟨_,pA bJ _ _ _ _,af.no rfl main⟩
 ·refine ⟨_,pz bJ _ _ _ _ _ _ _ _,af.mk (fun h=>?_) (fun _=>main)⟩;have:a=none:=by simpa using h
  subst this;have:l=[]:=by
   rcases h3 with h3 | ⟨la,o,C,h,_⟩
   ·exact List.length_eq_zero_iff.1 h3
   ·cases h
  subst this;exact aW.nil
def dx:List Int:=List.replicate 16 0
theorem BS {v:List Int} (h:v.length=16) (w:AV):(v.map (AV.int .u64)++[w,.bool true]).length=18:=by simp [h]
theorem Pn {v:List Int} (h:v.length=16) (w:AV) {i:Nat} (hi:i<16):(v.map (AV.int .u64)++[w,.bool true])[i]? = some (.int .u64 (v.getD i 0)):=by
 rw [List.getElem?_append_left (by simp [h];omega),List.getElem?_map,List.getElem?_eq_getElem (by omega),List.getD_eq_getElem?_getD,List.getElem?_eq_getElem (by omega)];rfl
theorem Di {v:List Int} (h:v.length=16) (w:AV):(v.map (AV.int .u64)++[w,.bool true])[16]? = some w:=by
 rw [List.getElem?_append_right (by simp [h])];simp [h]
theorem TL {v:List Int} (h:v.length=16) (w:AV):((v.map (AV.int .u64)++[w,.bool true]).drop 0).take 16=v.map (AV.int .u64):=by
 rw [List.drop_zero,List.take_append_of_le_length (by simp [h]),List.take_of_length_le (by simp [h])]
theorem cH (k:IntKind) (v:List Int):(v.map (AV.int k)).all AV.one=true:=by simp [List.all_eq_true]
def fG (v:List Int) (ex:List aO) (d:aO):Bool:=d.may&&(decide (d∈ex)||decide (d.c<=v.getD (d.r - 1).toNat 0))
theorem z6 {s:AS} {p:Nat} {v:List Int} {ex:List aO} (h:xY s p v ex) (hr:ew ex) (y:ex.length<=2 ^ 30) (d:aO):aa Tryz.prog kZ [.ptr (some (p,0)),.agg (aP d)] s fun r s'=>r=.bool (fG v ex d)/\Ext s s':=by
 refine aa.pre fun k=>Iw _ _ _ _ ⟨rfl,aj.intro k rfl fun l s1 F=>?_⟩;refine (vL (h.ext F.ext)).mono ?_;rintro r s2 ⟨rfl,rfl⟩;refine ⟨_,rfl,af.no rfl ⟨_,F.own.at.aD (by simp [aP]),?_⟩⟩;refine (rP d _).mono ?_;rintro r s3 ⟨rfl,i⟩;have e:=F.ext.trans i;refine ⟨_,rfl,af.mk (fun hm=>?_) (fun hm=>?_)⟩
 ·simp only [Bool.not_eq_true'] at hm;exact ⟨by simp [fG,hm],e⟩
 ·simp only [Bool.not_eq_false'] at hm;obtain ⟨j,w,h2,h3,h4⟩:=h;refine ⟨fun _ _ _ _=>True,fun _ _ v=>v=.aQ [.int .i64 (pos ex d:Nat),.bool (decide (d∈ex))],fun _ _ _ _ _ _ _=>trivial,w,?_,_,(F.own.ext i).at.aD (by simp [aP]),fun s4 m _ _=>?_,⟨_,rfl⟩,?_⟩
  ·rw [(h2.ext e).at.ak];exact Di j w
  ·refine (Hq (h4.ext (e.trans m)) (by omega) hr d).mono ?_;rintro r z ⟨rfl,n⟩;exact ⟨_,_,rfl,n,trivial,rfl⟩
  ·rintro r rfl;refine ⟨_,_,rfl,fun fV b _ _=>af.mk (fun hd=>?_) (fun hd=>?_)⟩
   ·refine ⟨?_,e.trans b⟩;simp [fG,hm,hd]
   ·have o:=aO.gC.1 hm;have c:=(F.own.ext (i.trans b)).at;have x:=(h2.ext (e.trans b)).at;refine ⟨_,by rw [c.ak];rfl,_,by rw [c.ak];rfl,?_⟩;dsimp only;rw [sN (by omega)];refine ⟨_,_,M_ (by omega),_,by rw [x.ak,Nat.zero_add,Nat.mul_one];exact Pn j w (by omega),?_,e.trans b⟩;simp [fG,hm,hd]
end
end Go.Proofs.YtohgmogbabkkeaaGreat

section
namespace Go.aq
end Go.aq
namespace Go.Proofs.YtohgmogbabkkeaaGreat
open Go.Am Go.aq
end Go.Proofs.YtohgmogbabkkeaaGreat
end

namespace Go.Proofs.YtohgmogbabkkeaaGreat
section
open Go.Am Go.aq
end
section
open Go.Am Go.aq
theorem cF {α:Type} {l:List α} {i:Nat} (h:i<l.length):∃ x,l[i]? = some x:=⟨_,List.getElem?_eq_getElem h⟩
theorem PZ (a b:Int):LM true [.int .u64 a,.int .u64 b]=some (.int .u64 (if b>a then b else a)):=rfl
end
section
open Go.Am Go.aq
theorem qK {s:AS} {w:AV} {l:List aO} (h:IB s w l):∀ k n,w≠.int k n:=by
 rintro k n rfl;rcases h with ⟨h,_⟩ | ⟨_,_,_,h,_⟩ <;> cases h
theorem Qp (v:List Int) (x:List AV) (i:Nat) (c:Int) (hi:i<v.length):(v.map (AV.int .u64)++x).set i (.int .u64 c)=(v.set i c).map (AV.int .u64)++x:=by
 rw [List.set_append_left _ _ (by simpa using hi),List.map_set]
theorem Dk {s s':AS} {p:Nat} {v:List Int} {x:List AV} {w:AV} {l:List aO} (h:IB s w l) (hp:At s p (v.map (AV.int .u64)++x)) (j:∀ y∈x,∀ n,y≠.int .i64 n) (e:bB [p] s s'):IB s' w l:=by
 refine Sl.mut h e br (by decide) fun q k C m d hd i c b o=>?_;obtain rfl:q=p:=by simpa using k
 obtain rfl:=m.inj hp;simp only [aP,List.getElem?_cons_zero,Option.some.injEq] at b;subst b;have:=List.mem_of_getElem? o;rcases List.mem_append.1 this with h | h
 ·obtain ⟨y,_,r⟩:=List.mem_map.1 h;cases r
 ·exact j _ h _ rfl
structure vM (s0 s:AS) (p:Nat) (v:List Int) (ex:List aO):Prop where
 len:v.length=16
 mem:∃ w,Am.Own s p (v.map (.int .u64)++[w,.bool true])/\w.one=true/\bg aP 2 s w ex/\∀ la∈ax w,s0.h la=none
theorem vM.mut {s0 s s':AS} {L:List Nat} {p:Nat} {v:List Int} {ex:List aO} (h:vM s0 s p v ex) (m:bB L s s') (hp:p ∉ L) (e:∀ x∈L,s0.h x≠none\/s.h x=none):vM s0 s' p v ex:=by
 obtain ⟨i,w,h2,h3,h4,c⟩:=h;refine ⟨i,w,h2.mut m hp,h3,h4.mut m fun x b hm=>?_,c⟩;rcases e x hm with h | h
 ·exact h (c x b)
 ·rcases h4 with ⟨_,a,rfl⟩ | ⟨la,rfl,d⟩
  ·simp [ax] at b
  ·obtain rfl:x=la:=by simpa [ax] using b
   rw [h] at d;cases d
theorem vM.ext {s0 s s':AS} {p:Nat} {v:List Int} {ex:List aO} (h:vM s0 s p v ex) (e:Ext s s'):vM s0 s' p v ex:=h.mut (L:=[]) e.mut (by simp) (by simp)
theorem vM.back {s0 s1 s:AS} {p:Nat} {v:List Int} {ex:List aO} (h:vM s1 s p v ex) (e:Ext s0 s1):vM s0 s p v ex:=by
 obtain ⟨b,w,h2,h3,h4,c⟩:=h;exact ⟨b,w,h2,h3,h4,fun x d=>e.none (c x d)⟩
theorem EJ {s:AS} {p:Nat} {v:List Int} {ex:List aO} (h:xY s p v ex) (hv:GB v) (hm:∀ d∈ex,d.may=true) (hn:ex.length<2 ^ 30) :
  aa Tryz.prog ni [.ptr (some (p,0))] s fun r s'=>r=.aQ []/\vM s s' p (compact v ex).1 (compact v ex).2/\bB [p] s s':=by
 refine aa.pre fun hw=>BQ _ _ _ ?_;obtain ⟨h1,w,h2,h3,h4⟩:=h;have B:∀ x∈[p],s.h x≠none:=by
  intro x J;obtain rfl:x=p:=by simpa using J
  rw [h2];simp
 have K:∀ {r:AV} {s':AS} {l:List aO},aW aP 2 [p] s s' r l->p ∉ ax r:=fun g hm=>B p (by simp) (g.new p hm);have Q:∀ y∈[w,AV.bool true],∀ n,y≠.int .i64 n:=by
  intro y L n;rcases List.mem_cons.1 L with rfl | L
  ·exact qK h4 _ _
  ·obtain rfl:y=.bool true:=by simpa using L
   intro h;cases h
 let e:Nat->List Int×List aO:=fun i=>(ex.take i).foldl gD (v,[])
 have D:∀ i,GB (e i).1:=fun i=>FD _ _ hv fun d hd=>hm d (List.mem_of_mem_take hd);have H:∀ i,(e i).2.length<=i:=fun i=>by have:=A5 (ex.take i) (v,[]);simp only [List.length_nil,Nat.zero_add] at this;have h2:=List.length_take_le i ex;exact Nat.le_trans this h2
 refine ⟨fun vs s'=>∃ left,vs=[left]/\aJ s'/\aW aP 2 [p] s s' left (compact v ex).2/\Am.Own s' p ((compact v ex).1.map (.int .u64)++[w,.bool true]),?_,?_⟩
 ·rintro r s3 ⟨left,X,R,g,M⟩;simp only [List.cons.injEq,and_true] at X;subst X;have C:GB (compact v ex).1:=by have:=D ex.length;simp only [e,List.take_length] at this;exact this
  refine cP g.jJ.2 Bh (bC.own R M (by rw [BS C.len];simp) fun s6 P=>⟨rfl,⟨C.len,r,?_,g.jJ.2,(g.wr B P.mut).uQ,(g.wr B P.mut).new⟩,g.eo.trans P.mut⟩)
  ·have:qQ ((compact v ex).1.map (AV.int .u64)++[w,.bool true]) (0+16) [r]=(compact v ex).1.map (AV.int .u64)++[r,.bool true]:=by
    rw [fA,List.set_append_right _ _ (by simp [C.len])];simp [C.len]
   rw [this] at P;exact P.at
 ·have Y:=h2.at;refine ⟨w,by rw [Y.ak];exact Di h1 w,_,h4.b_ bJ _,fun m vs s'=>∃ (i:Nat) (left:AV),vs=[left,.int .i64 (i:Nat)]/\i<=ex.length/\m=ex.length - i/\aJ s'/\aW aP 2 [p] s s' left (e i).2/\Am.Own s' p ((e i).1.map (.int .u64)++[w,.bool true]),ex.length,⟨0,_,rfl,by omega,rfl,hw,aW.nil,h2⟩,?_⟩;rintro m left n ab ⟨i,S,hi,h6,rfl,G,g,M⟩;simp only [List.cons.injEq,AV.int.injEq,true_and,and_true] at hi;obtain ⟨rfl,rfl⟩:=hi;refine af.dec (fun ad=>?_) (fun ae=>?_)
  ·obtain ⟨x,J⟩:=cF (l:=ex) (i:=i) (by omega);have hd:=Dk h4 Y Q g.eo;have z:=D i;obtain ⟨la,o,h8,h9⟩:=hd.ix (by decide) br bJ kN J;have bX:=aO.gC.1 (hm x (List.mem_of_getElem? J));have ht:e (i+1)=gD (e i) x:=by simp only [e];rw [List.take_add_one,J,Option.toList_some,List.foldl_append];rfl
   refine ⟨la,o,h8 _,_,(h9 _ (Ext.refl _)).2,jK G rfl rfl rfl fun al fV F=>?_⟩;have k:=M.ext F.ext;have Z:=g.step F.ext;have A:(x.r - 1).toNat<16:=by omega
   have am:=z.get (x.r - 1).toNat;refine ⟨_,by rw [F.own.at.ak];rfl,?_⟩;dsimp only;rw [sN (by omega)];refine ⟨_,_,M_ (by omega),_,by rw [F.own.at.ak];rfl,_,by rw [k.at.ak,Nat.zero_add,Nat.mul_one];exact Pn z.len w A,?_⟩;have cont:∀ (r:AV) (s':AS),aJ s'->aW aP 2 [p] s s' r (e (i+1)).2->Am.Own s' p ((e (i+1)).1.map (.int .u64)++[w,.bool true]) ->
     ∃ m',m'<ex.length - i/\∃ (j:Nat) (left:AV),[r,AV.int .i64 (IntKind.wrap .i64 ((i:Int)+1))]=[left,.int .i64 (j:Nat)]/\j<=ex.length/\m'=ex.length - j/\aJ s'/\aW aP 2 [p] s s' left (e j).2/\Am.Own s' p ((e j).1.map (.int .u64)++[w,.bool true]) :=
    fun r s' a b c=>⟨ex.length - (i+1),by omega,i+1,r,by rw [a_ (by omega)];rfl,by omega,rfl,a,b,c⟩
   refine af.dec (fun hle=>?_) (fun O=>?_)
   ·have hs:e (i+1)=e i:=by rw [ht];unfold gD;rw [if_pos hle]
    exact cont _ _ F.wf (by rw [hs];exact Z) (by rw [hs];exact k)
   ·refine ⟨_,by rw [F.own.at.ak];rfl,_,by rw [k.at.ak,Nat.zero_add,Nat.mul_one];exact Pn z.len w A,?_⟩;dsimp only;rw [gi (by omega)];refine af.mk (fun U=>?_) (fun U=>?_)
    ·have I:x.c=(e i).1.getD (x.r - 1).toNat 0+1:=by simpa using U
     have hs:e (i+1)=((e i).1.set (x.r - 1).toNat x.c,(e i).2):=by rw [ht];unfold gD;rw [if_neg O,if_pos I]
     refine ⟨_,by rw [F.own.at.ak];rfl,bC.own F.wf k (by rw [BS z.len];simp;omega) fun an P=>?_⟩;refine cont _ _ P.wf (by rw [hs];exact g.wr B (F.ext.mut.trans P.mut)) ?_;rw [hs];have:=P.at;rw [fA,Nat.zero_add,Nat.mul_one,Qp _ _ _ _ (by rw [z.len];exact A)] at this;exact this
    ·have I:¬ x.c=(e i).1.getD (x.r - 1).toNat 0+1:=by simpa using U
     have hs:e (i+1)=((e i).1,(e i).2++[x]):=by rw [ht];unfold gD;rw [if_neg O,if_neg I]
     have hM:∀ y∈[p],fV.h y≠none:=by
      intro y L;obtain rfl:y=p:=by simpa using L
      rw [k];simp
     refine ⟨_,F.own.at.aD (by simp [aP]),aW.iu jk br nB F.wf Z hM x (by have:=H i;omega) fun r s' g' W mm=>?_⟩;exact cont _ _ W (by rw [hs];exact g') (by rw [hs];exact k.mut mm (K g))
  ·obtain rfl:i=ex.length:=by omega
   have hs:e ex.length=compact v ex:=by simp only [e,List.take_length];rfl
   rw [hs] at g M;exact ⟨left,rfl,G,g,M⟩
end
section
open Go.Am Go.aq
theorem xZ {y i:Nat} {k:IntKind} (h:i<=y):ie y (.int k (i:Nat))=some i:=by
 unfold ie;simp [h]
theorem Po {a o n c i:Nat} (b:i<=n) (h2:n<=c) (h3:i<c):bf T aC (.slc (some (a,o)) n c true) (some (.int .i64 (i:Nat))) none none=some (.slc (some (a,o+i*2)) (n - i) (c - i) true):=by
 have e1:¬ ((i:Int)<0\/(n:Int)<i):=by omega
 have e2:¬ c=i:=by omega
 simp [bf,bJ,kN,cX,tX,qq,xZ,e2,b,h2]
theorem Qq {a o n c i:Nat} (b:i<=n) (h2:n<=c) (h3:i<c):bf T aC (.slc (some (a,o)) n c false) (some (.int .i64 (i:Nat))) none none=some (.slc (some (a,o+i*2)) (n - i) (c - i) false):=by
 have e2:¬ c=i:=by omega
 simp [bf,bJ,kN,cX,tX,qq,xZ,e2,b,h2]
theorem TM {a o n c i:Nat} (b:i<=c):bf T aC (.slc (some (a,o)) n c true) none (some (.int .i64 (i:Nat))) none=some (.slc (some (a,o)) i c true):=by
 simp [bf,bJ,kN,cX,tX,qq,xZ,b]
theorem BT {a b o o2 n n2 c c2 g:Nat} {e e2:Bool} {cs new:List AV} {s:AS} (hd:s.h a=some (.cells cs g false)) (hs:aD s b o2 (min n2 n*2)=some new) (d:new≠[]) (i:o+new.length<=cs.length) :
  q8 T aC (.slc (some (a,o)) n c e) (.slc (some (b,o2)) n2 c2 e2) s=some (.int .i64 ((min n2 n:Nat):Int),s.put a (.cells (qQ cs o new) g false)):=by
 have j:nZ 2 (min n2 n) s (.slc (some (b,o2)) n2 c2 e2)=some new:=by
  by_cases h0:min n2 n=0
  ·exfalso;rw [h0] at hs;unfold aD at hs;split at hs
   ·split at hs
    ·simp at hs;exact d (by first | exact hs | exact hs.symm)
    ·cases hs
   ·cases hs
  ·simp only [nZ,if_neg h0];exact hs
 simp only [q8,bJ,kN,Ef,Option.bind_some,j,if_neg d,cS,hd,if_pos i,Option.map_some]
theorem YK {a n c k g:Nat} {ro:Bool} {cs:List AV} {s:AS} (h:s.h a=some (.cells cs g ro)) (hle:n*2<=cs.length) (d:n+k<=2 ^ 30) (b:c<n+k) :
  aG T aC um (.slc (some (a,0)) n c true) (.int .i64 (k:Nat)) s=some (.slc (some (s.nl,0)) (n+k) (n+k) false,s.new (.cells (cs.take (n*2)++rep k [.int .i64 0,.int .u64 0]) 2 false)):=by
 have i:¬ ((2:Nat)≠2\/(k:Int)<0\/2 ^ 40<n+k\/2*((n+k+256)*16)>2 ^ 48\/n+k<=c):=by omega
 have h2:nZ 2 n s (.slc (some (a,0)) n c true)=some (cs.take (n*2)):=by
  by_cases e:n=0
  ·subst e;simp [nZ]
  ·simp only [nZ,if_neg e];rw [u_ h (by omega),List.drop_zero]
 simp only [aG,bJ,Ql,if_true,tY,kN,Wj,OO,bN,AV.cells,Option.bind_some,Int.toNat_natCast,h2,Option.map_some,List.length_cons,List.length_nil,List.all_cons,List.all_nil,U3,Bool.and_self,Nat.zero_add,Nat.reduceAdd];rw [if_neg i]
theorem Xe:Extern.find Tryz.f300=some (Extern.SlicesOverlaps.overlaps #[aC,aC] #[wO]):=by kernel_rfl
theorem Xf:Extern.findNext Tryz.f300=none:=by kernel_rfl
theorem Xg : (Tryz.f300.name == "runtime.NumGoroutine") = false := by kernel_rfl
theorem Xh:Tryz.f300.body.isNone=true:=by kernel_rfl
theorem Pp {a b:Nat} (h:a+b<=2 ^ 40):IntKind.i64.wrap ((a:Int)+(b:Int))=((a+b:Nat):Int):=by
 rw [IntWalk.i64_in _ (by omega)];rfl
theorem Xi {a b:Nat} (h:a<=2 ^ 40) (hb:b<=a):IntKind.i64.wrap ((a:Int) - (b:Int))=((a - b:Nat):Int):=by
 rw [IntWalk.i64_in _ (by omega)];omega
def RF (cs V:List AV) (i len:Nat):List AV:=cs.take (i*2)++V++(cs.drop (i*2)).take ((len - i)*2)
set_option maxRecDepth 20000 in
theorem Pq {s:AS} {l lb cap len i m mc ob gb:Nat} {cs bs:List AV} {eb:Bool} (hl:s.h l=some (.cells cs 2 false)) (bl:cap*2=cs.length) (hlen:len<=cap) (hi:i<len) (hm:0<m) (a5:l≠lb)
  (hb:s.h lb=some (.cells bs gb false)) (a6:gb≠1) (U:ob+m*2<=bs.length) (bm:len+m<=2 ^ 30) (bo:1<=s.st) :
  aa Tryz.prog eD [.slc (some (l,0)) len cap false,.int .i64 (i:Nat),.slc (some (lb,ob)) m mc eb] s
   fun v s'=>v=.slc (some (s.nl+2*s.st,0)) (len+m) (len+m) false/\s'=s.Em l 2 (.cells (RF cs ((bs.drop ob).take (m*2)) i len) 2 false):=by
 refine aa.WN (sz:=2) hl (by decide) (by omega) ?_;intro x js a7 bx D;have hN:s.h s.nl=none:=by have:=D 0;simpa using this
 have W:s.h (s.nl+s.st)=none:=by have:=D 1;simpa using this
 have F:lb≠s.nl:=fun e=>by rw [e,hN] at hb;cases hb
 have X:lb≠s.nl+s.st:=fun e=>by rw [e,W] at hb;cases hb
 have b0:l≠s.nl:=fun e=>by rw [e,hN] at hl;cases hl
 generalize hS:(s.kill l).new (.cells (cs++js) 2 false)=S;have A:S.h s.nl=some (.cells (cs++js) 2 false):=by rw [<- hS,AS.o_ _ rfl];simp [AS.oV]
 have K:S.h lb=some (.cells bs gb false):=by rw [<- hS,AS.o_ _ rfl,AS.sR];simp [AS.oV,F,Ne.symm a5,hb]
 have an:∀ k ob,k≠l->s.h k=some ob->S.h k=some ob:=by
  intro k p hk hp;rw [<- hS,AS.o_ _ rfl,AS.sR,AS.oV];rw [if_neg (fun e=>by rw [e,hN] at hp;cases hp),if_neg hk];exact hp
 have d:S.nl=s.nl+s.st:=by rw [<- hS];rfl
 have ao:S.st=s.st:=by rw [<- hS];rfl
 have L:(cs++js).length=(cap+x)*2:=by rw [List.length_append,a7];omega
 generalize hC:cs++js=C at A L;generalize hV:(bs.drop ob).take (m*2)=V;have w:V.length=m*2:=by rw [<- hV,List.length_take,List.length_drop];omega
 have Q:V≠[]:=by intro e;rw [e] at w;simp at w;omega
 have f1:=Po (a:=s.nl) (o:=0) (n:=len) (c:=cap+x) (i:=i) (by omega) (by omega) (by omega);simp only [Nat.zero_add] at f1;have f2:((m:Int)==0)=false:=by simp;omega
 have f3:((i:Int)==(len:Int))=false:=by simp;omega
 have f4:IntKind.i64.wrap ((len:Int)+(m:Int))=((len+m:Nat):Int):=Pp (by omega);have lB:∀ (a:Option (Nat×Nat)) (n c:Nat) (e:Bool) (s':AS),aL T aC (.slc a n c e) s'=some (.int .i64 (n:Nat)):=by intros;simp [aL,bJ]
 have cB:wR T aC (.slc (some (s.nl,0)) len (cap+x) true)=some (.int .i64 ((cap+x:Nat):Int)):=by simp [wR,bJ]
 refine kz _ _ _ _ _ ⟨_,f1,_,lB _ _ _ _ _,af.no f2 ⟨_,lB _ _ _ _ _,af.no f3 ⟨_,cB,?_⟩⟩⟩;dsimp only;rw [f4];have ar:aD S s.nl (i*2) ((len - i)*2)=some ((C.drop (i*2)).take ((len - i)*2)):=u_ A (by omega);generalize G:(C.drop (i*2)).take ((len - i)*2)=Tl at ar;have r:Tl.length=(len - i)*2:=by rw [<- G,List.length_take,List.length_drop];omega
 have H:Tl≠[]:=by intro e;rw [e] at r;simp at r;omega
 have b1:aD S lb ob (m*2)=some V:=by rw [u_ K U,hV]
 have Y:∀ k,k<len*2->C[k]? = cs[k]? := by
  intro k hk;rw [<- hC,List.getElem?_append_left (by omega)]
 have I:Tl=(cs.drop (i*2)).take ((len - i)*2):=by
  rw [<- G];apply List.ext_getElem?;intro k;rw [List.getElem?_take,List.getElem?_take,List.getElem?_drop,List.getElem?_drop];split
  ·exact Y _ (by omega)
  ·rfl
 refine af.dec (fun M=>?_) (fun M=>?_)
 ·have ab:cap+x<len+m:=by omega
  have a8:=TM (a:=s.nl) (o:=0) (n:=len) (c:=cap+x) (i:=i) (by omega);have a9:IntKind.i64.wrap (((len+m:Nat):Int) - (i:Int))=((len+m - i:Nat):Int):=Xi (by omega) (by omega);have O:=YK (k:=len+m - i) (n:=i) (c:=cap+x) A (by omega) (by omega) (by omega);rw [show i+(len+m - i)=len+m by omega] at O;generalize hZ:C.take (i*2)++rep (len+m - i) [AV.int .i64 0,AV.int .u64 0]=Z at O;have b2:Z.length=(len+m)*2:=by rw [<- hZ,List.length_append,List.length_take,uZ];simp;omega
  generalize J:S.new (.cells Z 2 false)=S3 at O;have a':S3.h S.nl=some (.cells Z 2 false):=by rw [<- J,AS.o_ _ rfl,if_pos rfl]
  have R:s.nl≠S.nl:=by rw [d];omega
  have ba:S3.h s.nl=some (.cells C 2 false):=by rw [<- J,AS.o_ _ rfl,if_neg R];exact A
  have bb:S3.h lb=some (.cells bs gb false):=by rw [<- J,AS.o_ _ rfl,if_neg (by rw [d];exact X)];exact K
  have aw:=Qq (a:=S.nl) (o:=0) (n:=len+m) (c:=len+m) (i:=i) (by omega) (by omega) (by omega);have a0:=BT (a:=S.nl) (b:=lb) (o:=i*2) (o2:=ob) (n:=len+m - i) (n2:=m) (c:=len+m - i) (c2:=mc) (e:=false) (e2:=eb) (new:=V) a' (by rw [show min m (len+m - i)=m by omega,u_ bb U,hV]) Q (by omega);generalize j:S3.put S.nl (.cells (qQ Z (i*2) V) 2 false)=S4 at a0;have ad:S4.h S.nl=some (.cells (qQ Z (i*2) V) 2 false):=by rw [<- j,AS.oZ _ _ rfl,if_pos rfl]
  have bc:S4.h s.nl=some (.cells C 2 false):=by rw [<- j,AS.oZ _ _ rfl,if_neg R];exact ba
  have bd:IntKind.i64.wrap ((i:Int)+(m:Int))=((i+m:Nat):Int):=Pp (by omega);have a1:=Qq (a:=S.nl) (o:=0) (n:=len+m) (c:=len+m) (i:=i+m) (by omega) (by omega) (by omega);have a2:=BT (a:=S.nl) (b:=s.nl) (o:=(i+m)*2) (o2:=i*2) (n:=len+m - (i+m)) (n2:=len - i) (c:=len+m - (i+m)) (c2:=cap+x - i) (e:=false) (e2:=true) (new:=Tl) ad (by rw [show min (len - i) (len+m - (i+m))=len - i by omega,u_ bc (by omega),G]) H (by rw [iN];omega);simp only [Nat.zero_add] at aw a1;generalize y:S4.put S.nl (.cells (qQ (qQ Z (i*2) V) ((i+m)*2) Tl) 2 false)=S5 at a2;refine ⟨_,a8,?_⟩;dsimp only;rw [a9];refine ⟨_,_,O,_,aw,_,_,a0,?_⟩;dsimp only;rw [bd];refine ⟨_,a1,_,f1,_,_,a2,?_⟩;have ae:S5.h S.nl=some (.cells (qQ (qQ Z (i*2) V) ((i+m)*2) Tl) 2 false):=by rw [<- y,AS.oZ _ _ rfl,if_pos rfl]
  have z:∀ k ob,k≠l->s.h k=some ob->S5.h k=some ob:=by
   intro k p hk hp;have B:k≠S.nl:=fun e=>by rw [e,d,W] at hp;cases hp
   rw [<- y,AS.oZ _ _ rfl,if_neg B,<- j,AS.oZ _ _ rfl,if_neg B,<- J,AS.o_ _ rfl,if_neg B];exact an k p hk hp
  refine ⟨⟨2,Nat.le_refl 2,?_⟩,z,.inr ⟨S.nl,rfl,by rw [d];exact W,?_,?_⟩⟩
  ·rw [<- y,AS.CG,<- j,AS.CG,<- J,AS.uT,d,ao];omega
  ·rw [ae];congr 2;unfold RF;rw [<- I];apply List.ext_getElem?;intro k;rw [kF _ _ _ _ (by rw [iN];omega),kF _ _ _ _ (by omega),r,w];rw [List.getElem?_append,List.getElem?_append,List.length_append,List.length_take,w];by_cases k1:k<i*2
   ·rw [if_neg (by omega),if_neg (by omega),if_pos (by omega),if_pos (by omega),<- hZ,List.getElem?_append_left (by rw [List.length_take];omega),List.getElem?_take,List.getElem?_take,if_pos k1,if_pos k1];exact Y k (by omega)
   ·by_cases k2:k<(i+m)*2
    ·rw [if_neg (by omega),if_pos (by omega),if_pos (by omega),if_neg (by omega)];congr 1;omega
    ·by_cases k3:k<(len+m)*2
     ·rw [if_pos (by omega),if_neg (by omega)];congr 1;omega
     ·rw [if_neg (by omega),if_neg (by omega),if_neg (by omega),List.getElem?_eq_none (by omega),List.getElem?_eq_none (by omega)]
  ·unfold RF;rw [<- I,List.length_append,List.length_append,List.length_take,w,r];omega
 ·have ab:¬ cap+x<len+m:=by omega
  have be:=TM (a:=s.nl) (o:=0) (n:=len) (c:=cap+x) (i:=len+m) (by omega);have bh:IntKind.i64.wrap ((i:Int)+(m:Int))=((i+m:Nat):Int):=Pp (by omega);have al:=Po (a:=s.nl) (o:=0) (n:=len+m) (c:=cap+x) (i:=i+m) (by omega) (by omega) (by omega);have am:=Po (a:=s.nl) (o:=0) (n:=len+m) (c:=cap+x) (i:=i) (by omega) (by omega) (by omega);simp only [Nat.zero_add] at al am;have bi:aD S s.nl (i*2) (min (len+m - i) (len+m - (i+m))*2)=some Tl:=by rw [show min (len+m - i) (len+m - (i+m))=len - i by omega];exact ar
  have a3:=BT (a:=s.nl) (b:=s.nl) (o:=(i+m)*2) (o2:=i*2) (n:=len+m - (i+m)) (n2:=len+m - i) (c:=cap+x - (i+m)) (c2:=cap+x - i) (e:=true) (e2:=true) (new:=Tl) A bi H (by omega);generalize j:S.put s.nl (.cells (qQ C ((i+m)*2) Tl) 2 false)=S4 at a3;have ad:S4.h s.nl=some (.cells (qQ C ((i+m)*2) Tl) 2 false):=by rw [<- j,AS.oZ _ _ rfl,if_pos rfl]
  have bj:S4.h lb=some (.cells bs gb false):=by rw [<- j,AS.oZ _ _ rfl,if_neg F];exact K
  have a4:=BT (a:=s.nl) (b:=lb) (o:=i*2) (o2:=ob) (n:=len+m - i) (n2:=m) (c:=cap+x - i) (c2:=mc) (e:=true) (e2:=eb) (new:=V) ad (by rw [show min m (len+m - i)=m by omega,u_ bj U,hV]) Q (by rw [iN];omega);generalize y:S4.put s.nl (.cells (qQ (qQ C ((i+m)*2) Tl) (i*2) V) 2 false)=S5 at a4;have bk:=Ek (g:=nk) (tR:=wO) (na:=m) (ca:=mc) (ea:=eb) (oa:=ob) (ob:=(i+m)*2) (nb:=len+m - (i+m)) (cb:=cap+x - (i+m)) (eb:=true) hT Tryz.func300 Xg Xh Xf Xe bJ kN K a6 A (by intro e;rw [e] at L;simp at L;omega) F;refine ⟨_,be,?_⟩;dsimp only;rw [bh];refine ⟨_,al,bk.mono ?_⟩;rintro v s' ⟨rfl,rfl⟩;refine ⟨_,rfl,af.yes rfl ⟨_,al,_,am,_,_,a3,_,am,_,_,a4,?_⟩⟩;have ae:S5.h s.nl=some (.cells (qQ (qQ C ((i+m)*2) Tl) (i*2) V) 2 false):=by rw [<- y,AS.oZ _ _ rfl,if_pos rfl]
  have z:∀ k ob,k≠l->s.h k=some ob->S5.h k=some ob:=by
   intro k p hk hp;have B:k≠s.nl:=fun e=>by rw [e,hN] at hp;cases hp
   rw [<- y,AS.oZ _ _ rfl,if_neg B,<- j,AS.oZ _ _ rfl,if_neg B];exact an k p hk hp
  refine ⟨⟨1,by omega,?_⟩,z,.inl ⟨rfl,by omega,_,ae,?_,?_⟩⟩
  ·rw [<- y,AS.CG,<- j,AS.CG,d];omega
  ·rw [iN,iN,L];omega
  ·unfold RF;rw [<- I];apply List.ext_getElem?;intro k;rw [List.getElem?_take,List.drop_zero,kF _ _ _ _ (by rw [iN];omega),kF _ _ _ _ (by omega),r,w];rw [List.getElem?_append,List.getElem?_append,List.length_append,List.length_take,w];by_cases k1:k<i*2
   ·rw [if_pos (by omega),if_neg (by omega),if_neg (by omega),if_pos (by omega),if_pos (by omega),List.getElem?_take,if_pos k1];exact Y k (by omega)
   ·by_cases k2:k<(i+m)*2
    ·rw [if_pos (by omega),if_pos (by omega),if_pos (by omega),if_neg (by omega)];congr 1;omega
    ·by_cases k3:k<(len+m)*2
     ·rw [if_pos (by omega),if_neg (by omega),if_pos (by omega),if_neg (by omega)];congr 1;omega
     ·rw [if_neg (by omega),if_neg (by omega),List.getElem?_eq_none (by omega)]
end
section
open Go.Am Go.aq
theorem RG {s:AS} {v:AV} {l:List aO} {d:aO} {i lb:Nat} (g:bg aP 2 s v l) (hb:s.h lb=some (.cells (aP d) 0 false)) (hi:i<=l.length) (A:l.length+1<=2 ^ 30) :
  aa Tryz.prog eD [v,.int .i64 (i:Nat),.slc (some (lb,0)) 1 1 true] s fun r s'=>bg aP 2 s' r (l.take i++d::l.drop i)/\bB (ax v) s s'/\(∀ la∈ax r,la∈ax v\/s.h la=none):=by
 refine aa.pre fun n=>?_;have j:=g.sl br;have k:IB s (.slc (some (lb,0)) 1 1 true) [d]:=bR.mk ⟨_,_,hb⟩ rfl rfl;by_cases B:i=l.length
 ·subst B;have b:v≠.emp:=by rcases g with ⟨_,a,rfl⟩ | ⟨la,rfl,_⟩ <;> (intro h;cases h)
  obtain ⟨w,D,_⟩:=j.from br bJ kN b (Nat.le_refl _) .i64
  obtain ⟨v',s',h2,h3,h4,H,F⟩:=bg.append jk br nB n g k (by simpa using A) bJ;refine kz _ _ _ _ _ ⟨_,D,_,k.b_ bJ _,af.no rfl ⟨_,j.b_ bJ _,af.yes (by simp) ⟨_,_,h2,?_,h4,F⟩⟩⟩;rw [List.take_of_length_le (Nat.le_refl _),List.drop_of_length_le (Nat.le_refl _)];exact h3
 ·rcases g with ⟨rfl,_⟩ | ⟨la,rfl,c⟩
  ·simp at hi;subst hi;exact absurd rfl B
  ·have b:la≠lb:=by
    rintro rfl;rw [hb] at c;simp at c
   refine (Pq (i:=i) c (by rw [dY br]) (Nat.le_refl _) (by omega) (by omega) b hb (by decide) (by simp [aP]) A n.1).mono ?_;rintro r s' ⟨rfl,rfl⟩;have m:s.h (s.nl+2*s.st)=none:=n.2 2;have p:RF (l.flatMap aP) (((aP d).drop 0).take (1*2)) i l.length=(l.take i++d::l.drop i).flatMap aP:=by
    unfold RF;rw [uh br,qU br,show ((l.drop i).flatMap aP).take ((l.length - i)*2)=(l.drop i).flatMap aP from List.take_of_length_le (by rw [dY br,List.length_drop];exact Nat.le_refl _)];simp [aP]
   refine ⟨.inr ⟨s.nl+2*s.st,?_,?_⟩,⟨fun x o G z=>?_,?_⟩,fun y C=>?_⟩
   ·have:(l.take i++d::l.drop i).length=l.length+1:=by simp;omega
    rw [this]
   ·rw [AS.CT _ _ _ rfl,if_pos rfl,p]
   ·rw [AS.CT _ _ _ rfl,if_neg (fun e=>by rw [e,m] at z;cases z),if_neg (by simpa [ax] using G)];exact z
   ·show s.nl<=s.nl+2*s.st+s.st;omega
   ·simp only [ax,List.mem_singleton] at C;subst C;exact .inr m
def lZ (v:List Int) (ex:List aO) (d:aO):Bool×Int×List Int×List aO :=
 if d.may=false then (false,2,v,ex)
 else if fG v ex d then (false,0,v,ex)
 else if 4096<(compact v (ins ex d)).2.length then (false,5,v,ex)
 else (true,0,compact v (ins ex d))
theorem Nb {s:AS} {p:Nat} {v:List Int} {ex:List aO} (h:xY s p v ex) (hv:GB v) (hr:ew ex) (hm:∀ d∈ex,d.may=true) (hn:ex.length+1<2 ^ 30) (d:aO) :
  aa Tryz.prog tu [.ptr (some (p,0)),.agg (aP d)] s fun r s'=>r=.aQ [.bool (lZ v ex d).1,.int .i64 (lZ v ex d).2.1]/\xY s' p (lZ v ex d).2.2.1 (lZ v ex d).2.2.2/\bB [p] s s'/\((lZ v ex d).1=false->Ext s s')/\((lZ v ex d).1=true->vM s s' p (lZ v ex d).2.2.1 (lZ v ex d).2.2.2):=by
 refine aa.pre fun hw=>Is _ _ _ _ ⟨rfl,aj.intro hw rfl fun l1 s2 F1=>?_⟩;refine aa.use (vL (h.ext F1.ext)) ?_;rintro r s4 ⟨rfl,rfl⟩ bj;refine ⟨_,rfl,af.no rfl ⟨_,F1.own.at.aD (by simp [aP]),?_⟩⟩;refine aa.use (rP d _) ?_;rintro r s8 ⟨rfl,e8⟩ bk;have E8:=F1.ext.trans e8;refine ⟨_,rfl,af.mk (fun hd=>?_) (fun hd=>?_)⟩
 ·simp only [Bool.not_eq_true'] at hd;have:lZ v ex d=(false,2,v,ex):=by simp [lZ,hd]
  rw [this];exact ⟨rfl,h.ext E8,E8.mut,(fun _=>E8),fun h=>absurd h (by simp)⟩
 simp only [Bool.not_eq_false'] at hd;refine ⟨_,(F1.own.ext e8).at.aD (by simp [aP]),?_⟩;refine aa.use (z6 (h.ext E8) hr (by omega) d) ?_;rintro r dJ ⟨rfl,W⟩ an;have j:=E8.trans W;refine ⟨_,rfl,af.mk (fun hh=>?_) (fun hh=>?_)⟩
 ·have:lZ v ex d=(false,0,v,ex):=by simp [lZ,hd,hh]
  rw [this];exact ⟨rfl,h.ext j,j.mut,(fun _=>j),fun h=>absurd h (by simp)⟩
 have bh:d ∉ ex:=by
  intro a4;simp [fG,hd,a4] at hh
 obtain ⟨O,w,h2,h3,h4⟩:=h;have hlen:=BS O w;refine ⟨_,(h2.ext j).at.aD (by rw [hlen];omega),?_⟩;have hg:((v.map (AV.int .u64)++[w,.bool true]).drop 0).take 18=v.map (AV.int .u64)++[w,.bool true]:=by
  rw [List.drop_zero,List.take_of_length_le (by rw [hlen];exact Nat.le_refl _)]
 rw [hg];refine jK an hlen rfl (by simp [h3]) fun G iF B=>?_;have X:=j.trans B.ext;refine ⟨fun _ _ _ _=>True,fun _ _ r=>r=.aQ [.int .i64 (pos ex d:Nat),.bool (decide (d∈ex))],fun _ _ _ _ _ _ _=>trivial,w,by rw [(h2.ext X).at.ak];exact Di O w,_,(F1.own.ext (e8.trans (W.trans B.ext))).at.aD (by simp [aP]),fun bl a5 _ _=>?_,⟨_,rfl⟩,?_⟩
 ·refine (Hq (h4.ext (X.trans a5)) (by omega) hr d).mono ?_;rintro r s' ⟨rfl,e⟩;exact ⟨_,_,rfl,e,trivial,rfl⟩
 rintro r rfl;refine ⟨_,_,rfl,fun Q Y _ _=>?_⟩;have H:=X.trans Y;have Z:=B.own.ext Y;refine ⟨fun i _ r s'=>(i=4->aW aP 2 [] Q s' r ex)/\(i=7->∃ lb,r=.slc (some (lb,0)) 1 1 true/\s'.h lb=some (.cells (aP d) 0 false)),fun i _ r=>i=7->∃ lb,r=.slc (some (lb,0)) 1 1 true,?_,w,by rw [(h2.ext H).at.ak];exact Di O w,fun kC ab _ _=>?_,⟨.undef,(fun h=>by cases h)⟩,fun wm _=>⟨_,(F1.own.ext (e8.trans (W.trans (B.ext.trans Y)))).at.aD (by simp [aP]),?_⟩⟩
 ·rintro i k r s s' e ⟨ha,hb⟩;refine ⟨fun hi=>(ha hi).step e,fun hi=>?_⟩;obtain ⟨lb,O,h2⟩:=hb hi;exact ⟨lb,O,e.1 _ _ h2⟩
 ·refine (Na (h4.ext (H.trans ab)) (by omega)).mono fun r s' g=>⟨g.eo.ext,⟨(fun _=>⟨g.uQ,ab.mut.trans g.eo,fun la ad=>ab.none (g.new la ad)⟩),(fun h=>by cases h)⟩,(fun h=>by cases h)⟩
 refine ⟨fun bm bo a6 _=>⟨_,kY jk (c:=aP d) rfl rfl,?_⟩,⟨.slc (some (0,0)) 1 1 true,fun _=>⟨0,rfl⟩⟩,fun a7 bi ao I _ hS=>?_⟩
 ·exact aj.intro a6 rfl fun l bs F=>⟨F.ext,⟨(fun h=>by cases h),fun _=>⟨l,rfl,F.at⟩⟩,fun _=>⟨l,rfl⟩⟩
 obtain ⟨ar,lb,rfl,a8⟩:aW aP 2 [] Q ao wm ex/\∃ lb,a7=.slc (some (lb,0)) 1 1 true/\ao.h lb=some (.cells (aP d) 0 false):=⟨hS.1.1 rfl,hS.2.1.2 rfl⟩;refine aa.use (RG ar.uQ a8 (Kq ex d) (by omega)) ?_;rintro r bx ⟨ae,K,a9⟩ aw;have m:∀ x,(∃ o,Q.h x=some o)->x ∉ ax wm:=by
  rintro x ⟨o,J⟩ A;rw [ar.new x A] at J;cases J
 have al:∀ x,(∃ o,Q.h x=some o)->x ∉ ax r:=by
  rintro x ⟨o,J⟩ A;rcases a9 x A with h | h
  ·exact m x ⟨o,J⟩ h
  ·rw [I.1 _ _ J] at h;cases h
 have a0:=(Z.ext I).mut K (m G ⟨_,Z⟩);have R:r.one=true:=by rcases ae with ⟨_,a,rfl⟩ | ⟨la,rfl,_⟩ <;> rfl
 refine cP R Bh (bC.own aw a0 (by rw [hlen];simp) fun a' P=>?_);have a1:(ex.take (pos ex d)++d::ex.drop (pos ex d))=ins ex d:=rfl;rw [a1] at ae;have hP:=P.at;rw [fA,List.set_append_right _ _ (by simp [O])] at hP;simp only [List.length_map,O,Nat.sub_self,List.set_cons_zero] at hP;have ba:xY a' G v (ins ex d):=⟨O,r,hP,R,(ae.mut (L:=[G]) P.mut (fun x A=>by simp only [List.mem_singleton];rintro rfl;exact al _ ⟨_,Z⟩ A)).sl br⟩;have bb:∀ x∈ins ex d,x.may=true:=by
  intro x A;rcases vj.1 A with rfl | A
  ·exact hd
  ·exact hm x A
 refine aa.use (EJ ba hv bb (by rw [yH];omega)) ?_;rintro r2 FN ⟨rfl,bc,am⟩ a2;have hp:Am.Own FN p (v.map (.int .u64)++[w,.bool true]):=by
  have S:=h2.ext H;have D:p ∉ [G]:=by
   simp only [List.mem_singleton];rintro rfl;have:=B.no;rw [h2.ext j] at this;cases this
  exact ((((S.ext I).mut K (m p ⟨_,S⟩)).mut P.mut D).mut am D)
 have z:bB [p] s FN:=by
  refine ⟨fun x o A J=>?_,?_⟩
  ·have M:=H.1 _ _ J;have D:x ∉ [G]:=by
    simp only [List.mem_singleton];rintro rfl;have:=B.no;rw [j.1 _ _ J] at this;cases this
   exact am.1 _ _ D (P.mut.1 _ _ D (K.1 _ _ (m x ⟨_,M⟩) (I.1 _ _ M)))
  ·exact Nat.le_trans H.2 (Nat.le_trans I.2 (Nat.le_trans K.2 (Nat.le_trans P.mut.2 am.2)))
 obtain ⟨k1,w',k2,k3,kg,kn⟩:=bc;have k4:=kg.sl br;have a3:∀ la∈ax w',s.h la=none:=by
  intro la ad;cases hq:s.h la with
  | none=>rfl
  | some o =>
   exfalso;have M:=H.1 _ _ hq;have D:la ∉ [G]:=by
    simp only [List.mem_singleton];rintro rfl;have:=B.no;rw [j.1 _ _ hq] at this;cases this
   have:=P.mut.1 _ _ D (K.1 _ _ (m la ⟨_,M⟩) (I.1 _ _ M));rw [kn la ad] at this;cases this
 refine ⟨rfl,w',by rw [k2.at.ak];exact Di k1 w',_,k4.b_ bJ _,af.dec (fun b0=>?_) (fun hle=>?_)⟩
 ·have:lZ v ex d=(false,5,v,ex):=by
   simp only [lZ,hd,hh,Bool.true_eq_false,Bool.false_eq_true,if_false];rw [if_pos (by omega)]
  rw [this];refine ⟨rfl,⟨O,w,hp,h3,?_⟩,z,(fun _=>⟨fun x o J=>?_,z.2⟩),fun h=>absurd h (by simp)⟩;rotate_left
  ·by_cases A:x=p
   ·subst A;rw [show s.h x=_ from h2] at J;rw [<- J];exact hp
   ·exact z.1 x o (by simpa using A) J
  refine Sl.mut h4 z br (by decide) fun q hq C hC x A i c hc he=>?_;obtain rfl:q=p:=by simpa using hq
  obtain rfl:=hC.inj h2.at;simp only [aP,List.getElem?_cons_zero,Option.some.injEq] at hc;subst hc;rcases List.mem_append.1 (List.mem_of_getElem? he) with h | h
  ·obtain ⟨y,_,hy⟩:=List.mem_map.1 h;cases hy
  ·rcases List.mem_cons.1 h with rfl | h
   ·exact qK h4 _ _ rfl
   ·simp at h
 ·have:lZ v ex d=(true,0,compact v (ins ex d)):=by
   simp only [lZ,hd,hh,Bool.true_eq_false,Bool.false_eq_true,if_false];rw [if_neg (by omega)]
  rw [this];have b:=BS k1 w';have bd:(((compact v (ins ex d)).1.map (AV.int .u64)++[w',.bool true]).drop 0).take 18=(compact v (ins ex d)).1.map (AV.int .u64)++[w',.bool true]:=by
   rw [List.drop_zero,List.take_of_length_le (by rw [b];exact Nat.le_refl _)]
  refine ⟨_,k2.at.aD (by rw [b];omega),?_⟩;rw [bd];refine ⟨⟨by simp [k3],by rw [b]⟩,bC.own a2 hp (by rw [hlen,b];omega) fun be P2=>?_⟩;have U:Am.Own be p ((compact v (ins ex d)).1.map (AV.int .u64)++[w',.bool true]):=by
   have:=P2.at;rw [dZ (by rw [hlen,b])] at this;exact this
  refine ⟨rfl,⟨k1,w',U,k3,?_⟩,z.trans P2.mut,(fun h=>absurd h (by simp)),fun _=>⟨k1,w',U,k3,kg.mut P2.mut fun x A hm=>?_,a3⟩⟩;rotate_left
  ·obtain rfl:=List.mem_singleton.1 hm;have:=a3 x A;rw [h2] at this;cases this
  ·refine Dk k4 hp.at (x:=[w,.bool true]) ?_ P2.mut;intro y hy n;rcases List.mem_cons.1 hy with rfl | hy
   ·exact qK h4 _ _
   ·obtain rfl:y=.bool true:=by simpa using hy
    intro h;cases h
end
section
open Go.Am Go.aq
def z7 (v:List Int) (ex:List aO) (d:aO):List Int×List aO:=if fG v ex d then (v,ex) else compact v (ins ex d)
end
section
open Go.Am Go.aq
theorem own:ownKnob Tryz.prog.godebug=none:=by kernel_rfl
set_option maxRecDepth 100000
theorem laid:laidOutB Tryz.prog=true:=by kernel_rfl
end
section
open Go.Am Go.aq Go.ChangeShapes Go.WideShapes Go.ChangeAt Go.RowKit
structure Nc (v:List Int) (ex:List aO):Prop where
 v:GB v
 r:ew ex
 m:∀ d∈ex,d.may=true
theorem Nc.add {v:List Int} {ex:List aO} (h:Nc v ex) {d:aO} (hd:d.may=true):Nc (z7 v ex d).1 (z7 v ex d).2:=by
 unfold z7;split
 ·exact h
 ·rename_i j;have b:d ∉ ex:=fun i=>j (by simp [fG,hd,i]);have c:∀ x∈ins ex d,x.may=true:=by
   intro x e;rcases vj.1 e with rfl | e
   ·exact hd
   ·exact h.m x e
  have hs:=su v (ins ex d);exact ⟨OB h.v c,(h.r.ins b).sub hs,fun x e=>c x (hs.subset e)⟩
theorem TN {v:List Int} {ex:List aO} {d:aO}:(z7 v ex d).2.length<=ex.length+1:=by
 unfold z7;split
 ·simp
 ·have:=(su v (ins ex d)).length_le;rw [yH] at this;exact this
theorem TO {v:List Int} {ex:List aO} {d:aO} (hd:d.may=true) (c:ex.length<4096):lZ v ex d=(!fG v ex d,0,z7 v ex d):=by
 have b:=(su v (ins ex d)).length_le;rw [yH] at b;unfold lZ z7;rw [hd];simp only [Bool.true_eq_false,if_false];cases fG v ex d with
 | true=>simp
 | false=>simp only [Bool.false_eq_true,if_false,Bool.not_false];rw [if_neg (by omega)]
theorem Nc.zero:Nc dx []:=⟨⟨rfl,by decide⟩,List.Pairwise.nil,by simp⟩
theorem Ext.wr {s s1 s2:AS} {p:Nat} (e:Ext s s1) (hp:s.h p=none) (m:bB [p] s1 s2):Ext s s2 :=
 ⟨fun x o b=>m.1 x o (by simp only [List.mem_singleton];rintro rfl;rw [hp] at b;cases b) (e.1 x o b),Nat.le_trans e.2 m.2⟩
end
section
open Go.Am Go.aq Go.ChangeShapes Go.WideShapes Go.ChangeAt Go.RowKit
structure Yx (v:List Int):Prop where
 len:v.length=16
 Yu:∀ x∈v,0<=x/\x<=18446744073709551615
theorem Xj:places T oK=some [(0,16),(16,1),(17,1)]:=by kernel_rfl
theorem Pr {l:List AV} (h:l.all AV.one=true):bN (.agg l)=some l:=by rw [Ot,if_pos h]
theorem Nd {v:AV} (h:v.one=true):bN v=some [v]:=by cases v <;> first | rfl | cases h
theorem RH {v:List Int} (h:v.length=16) {w:AV} (b:w.one=true):aY T oK [(0,.agg (v.map (.int .u64))),(1,w),(2,.bool true)]=some (.agg (v.map (.int .u64)++[w,.bool true])):=by
 rw [qV Xj OP rfl];have d:=ov (pl:=fun i=>[(0,16),(16,1),(17,1)][i]?) (pre:=[]) (mid:=dx.map (.int .u64)) (post:=[.slc none 0 0 true,.bool false]) (c:=v.map (.int .u64)) (i:=0) (sz:=16) (v:=.agg (v.map (.int .u64))) (rest:=[(1,w),(2,.bool true)]) rfl (Pr (cH _ _)) (by simp [h]) rfl;have e1:=ov (pl:=fun i=>[(0,16),(16,1),(17,1)][i]?) (pre:=v.map (.int .u64)) (mid:=[.slc none 0 0 true]) (post:=[.bool false]) (c:=[w]) (i:=1) (sz:=1) (v:=w) (rest:=[(2,.bool true)]) (by simp [h]) (Nd b) rfl rfl;have e2:=ov (pl:=fun i=>[(0,16),(16,1),(17,1)][i]?) (pre:=v.map (.int .u64)++[w]) (mid:=[.bool false]) (post:=[]) (c:=[.bool true]) (i:=2) (sz:=1) (v:=.bool true) (rest:=[]) (by simp [h]) rfl rfl rfl;refine (congrArg (Option.map AV.agg) d).trans ?_;simp only [List.nil_append];rw [show v.map (AV.int .u64)++[.slc none 0 0 true,.bool false]=v.map (AV.int .u64)++[.slc none 0 0 true]++[.bool false] by simp,e1];rw [show v.map (AV.int .u64)++[w]++[.bool false]=v.map (AV.int .u64)++[w]++[.bool false]++[] by simp,e2];simp [jQ]
theorem Vl {v:List Int} (h:v.length=16) {i:Nat} (hi:i<16):ju T aX (.agg (v.map (.int .u64))) (.int .i64 (i:Nat))=some (.int .u64 (v.getD i 0)):=by
 have:(0:Int)<=(i:Int)/\(i:Int)<((16:Nat):Int):=by omega
 simp only [ju,xJ,ki,Option.bind_some,if_pos this,CR C1,Int.toNat_natCast,Nat.mul_one,List.getElem?_map];rw [List.getElem?_eq_getElem (by omega),List.getD_eq_getElem?_getD,List.getElem?_eq_getElem (by omega)];rfl
end
section
open Go.Am Go.aq Go.ChangeShapes Go.WideShapes Go.ChangeAt Go.RowKit
theorem Vm {s s9:AS} {v:AV} {l:List aO} (e:Ext s s9) (h:IB s9 v l) (c:l.length<=2 ^ 30):aa Tryz.prog aM [v] s9 fun r s'=>Ext s9 s'/\(bg aP 2 s' r l/\(∀ la∈ax r,s.h la=none)/\r≠.emp/\r.one=true):=by
 refine (Na h c).mono ?_;intro r s' g;exact ⟨g.eo.ext,g.uQ,fun la b=>e.none (g.new la b),g.jJ⟩
end
section
open Go.Am Go.aq Go.ChangeShapes Go.WideShapes Go.ChangeAt Go.RowKit
theorem Nf:∀ (l:List aO) (st:List Int×List aO),GB st.1->ew l->(∀ d∈l,d.may=true) ->
  (∀ y∈st.2,y.may=true/\st.1.getD (y.r - 1).toNat 0+1<y.c/\∀ d∈l,y.lt d=true) ->
  ∀ y∈(l.foldl gD st).2,(l.foldl gD st).1.getD (y.r - 1).toNat 0+1<y.c
 | [],st,hv,hr,hm,h=>fun y b=>(h y b).2.1
 | d::l,st,hv,hr,hm,h=>by
  have hd:=aO.gC.1 (hm d (by simp));obtain ⟨k,m⟩:=List.pairwise_cons.1 hr;refine Nf l (gD st d) (GC hv (hm d (by simp))) m (fun x i=>hm x (by simp [i])) ?_;intro y b;unfold gD at b ⊢;split at b
  ·rename_i n;rw [if_pos n];exact ⟨(h y b).1,(h y b).2.1,fun x i=>(h y b).2.2 x (by simp [i])⟩
  ·rename_i n;rw [if_neg n];split at b
   ·rename_i j;rw [if_pos j];obtain ⟨p,h2,h3⟩:=h y b;refine ⟨p,?_,fun x i=>h3 x (by simp [i])⟩;have w:=aO.gC.1 p;have z:=aO.lt_iff.1 (h3 d (by simp));have o:(d.r - 1).toNat≠(y.r - 1).toNat:=by
     intro e;have:y.r=d.r:=by omega
     rw [this] at h2;omega
    simp only [List.getD_eq_getElem?_getD] at h2 ⊢;rw [List.getElem?_set_ne o];exact h2
   ·rename_i j;rw [if_neg j];simp only [List.mem_append,List.mem_singleton] at b;rcases b with b | rfl
    ·exact ⟨(h y b).1,(h y b).2.1,fun x i=>(h y b).2.2 x (by simp [i])⟩
    ·refine ⟨hm y (by simp),?_,k⟩;show st.1.getD (y.r - 1).toNat 0+1<y.c;omega
def TP (v:List Int) (ex:List aO):Prop:=∀ y∈ex,v.getD (y.r - 1).toNat 0+1<y.c
theorem TP.add {v:List Int} {ex:List aO} (h:Nc v ex) (g:TP v ex) {d:aO} (hd:d.may=true):TP (z7 v ex d).1 (z7 v ex d).2:=by
 unfold z7;split
 ·exact g
 ·rename_i j;have b:d ∉ ex:=fun c=>j (by simp [fG,hd,c]);have e:∀ x∈ins ex d,x.may=true:=by
   intro x i;rcases vj.1 i with rfl | i
   ·exact hd
   ·exact h.m x i
  exact Nf (ins ex d) (v,[]) h.v (h.r.ins b) e (by simp)
end
section
open Go.Am Go.aq
theorem uD {v:List Int} {ex:List aO} {d:aO}:fG v ex d=true↔d.may=true/\(d∈ex\/d.c<=v.getD (d.r - 1).toNat 0):=by
 simp [fG]
theorem Hr (x:aO) (k:x.may=true):∀ (l:List aO) (st:List Int×List aO),GB st.1->(∀ d∈l,d.may=true) ->
  ((x∈(l.foldl gD st).2\/x.c<=(l.foldl gD st).1.getD (x.r - 1).toNat 0)↔(x∈l\/x∈st.2\/x.c<=st.1.getD (x.r - 1).toNat 0))
 | [],st,_,_=>by simp
 | d::l,st,hv,hm=>by
  have hd:=hm d (by simp);have n:=Hr x k l (gD st d) (GC hv hd) (fun y o=>hm y (by simp [o]));rw [List.foldl_cons,n];have p:=aO.gC.1 hd;have w:=aO.gC.1 k;have hlen:=hv.len;simp only [List.mem_cons];unfold gD;split
  ·rename_i m;constructor
   ·rintro (h | h | h)
    ·exact .inl (.inr h)
    ·exact .inr (.inl h)
    ·exact .inr (.inr h)
   ·rintro ((h | h) | h | h)
    ·subst h;exact .inr (.inr m)
    ·exact .inl h
    ·exact .inr (.inl h)
    ·exact .inr (.inr h)
  ·rename_i m;split
   ·rename_i b;have z:(st.1.set (d.r - 1).toNat d.c).getD (x.r - 1).toNat 0=if x.r=d.r then d.c else st.1.getD (x.r - 1).toNat 0:=by
     simp only [List.getD_eq_getElem?_getD,List.getElem?_set];by_cases e:x.r=d.r
     ·rw [if_pos (by rw [e]),if_pos e,if_pos (by omega)];rfl
     ·rw [if_neg (by omega),if_neg e]
    show (x∈l\/x∈st.2\/x.c<=(st.1.set (d.r - 1).toNat d.c).getD (x.r - 1).toNat 0)↔_;rw [z];by_cases e:x.r=d.r
    ·rw [if_pos e];have i:x=d↔x.c=d.c:=⟨fun h=>by rw [h],fun h=>by cases x;cases d;simp_all⟩;rw [i];rw [<- e] at b;constructor
     ·rintro (h | h | h)
      ·exact .inl (.inr h)
      ·exact .inr (.inl h)
      ·by_cases h2:x.c=d.c
       ·exact .inl (.inl h2)
       ·exact .inr (.inr (by omega))
     ·rintro ((h | h) | h | h)
      ·exact .inr (.inr (by omega))
      ·exact .inl h
      ·exact .inr (.inl h)
      ·exact .inr (.inr (by omega))
    ·rw [if_neg e];have j:x≠d:=fun h=>e (by rw [h]);simp [j]
   ·show (x∈l\/x∈st.2++[d]\/x.c<=st.1.getD (x.r - 1).toNat 0)↔_;simp only [List.mem_append,List.mem_singleton];constructor
    ·rintro (h | (h | h) | h)
     ·exact .inl (.inr h)
     ·exact .inr (.inl h)
     ·exact .inl (.inl h)
     ·exact .inr (.inr h)
    ·rintro ((h | h) | h | h)
     ·exact .inr (.inl (.inr h))
     ·exact .inl h
     ·exact .inr (.inl (.inl h))
     ·exact .inr (.inr h)
theorem Ng {v:List Int} {l:List aO} (hv:GB v) (hm:∀ d∈l,d.may=true) (x:aO):fG (compact v l).1 (compact v l).2 x=true↔x.may=true/\(x∈l\/x.c<=v.getD (x.r - 1).toNat 0):=by
 rw [uD];constructor
 ·rintro ⟨b,h2⟩;have:=(Hr x b l (v,[]) hv hm).1 h2;exact ⟨b,by simpa using this⟩
 ·rintro ⟨b,h2⟩;exact ⟨b,(Hr x b l (v,[]) hv hm).2 (by simpa using h2)⟩
theorem Nh {v:List Int} {ex:List aO} (h:Nc v ex) {d:aO} (hd:d.may=true) (x:aO):fG (z7 v ex d).1 (z7 v ex d).2 x=true↔fG v ex x=true\/x=d:=by
 unfold z7;split
 ·rename_i i;constructor
  ·exact .inl
  ·rintro (h | rfl)
   ·exact h
   ·exact i
 ·have c:∀ x∈ins ex d,x.may=true:=by
   intro x e;rcases vj.1 e with rfl | e
   ·exact hd
   ·exact h.m x e
  rw [Ng h.v c,uD,vj];constructor
  ·rintro ⟨b,(rfl | h2) | h2⟩
   ·exact .inr rfl
   ·exact .inl ⟨b,.inl h2⟩
   ·exact .inl ⟨b,.inr h2⟩
  ·rintro (⟨b,h2 | h2⟩ | rfl)
   ·exact ⟨b,.inl (.inr h2)⟩
   ·exact ⟨b,.inr h2⟩
   ·exact ⟨hd,.inl (.inl rfl)⟩
end
section
set_option maxRecDepth 100000
set_option maxHeartbeats 4000000
open Go.Am
end
section
open Go.Am Go.aq
end
section
open Go.Am Go.aq
/-! ### many at once -/
/-! ### contracts -/
theorem Hs {s:AS} {p:Nat} {v:List Int} {ex:List aO} (h:xY s p v ex) (o:ex.length<=2 ^ 30):aa Tryz.prog dN [.ptr (some (p,0))] s fun r s'=>∃ q,r=.ptr (some (q,0))/\s.h q=none/\vM s s' q v ex/\Ext s s':=by
 refine Hp _ _ _ ?_;refine aa.use (vL h) ?_;rintro r s2 ⟨rfl,rfl⟩ _;obtain ⟨c,w,h2,h3,h4⟩:=h;refine ⟨_,rfl,af.no rfl ⟨fun k _ r s'=>k=8->bg aP 2 s' r ex/\(∀ la∈ax r,s2.h la=none)/\r≠.emp/\r.one=true,fun k _ r=>k=8->r.one=true,fun _ _ _ _ _ e h n=>⟨(h n).1.ext e,(h n).2⟩,_,h2.at.aD (by rw [BS c];omega),w,by rw [h2.at.ak];exact Di c w,fun x d y _=>?_,⟨.bool true,fun _=>rfl⟩,?_⟩⟩
 ·refine (Vm (s:=s2) d (h4.ext d) o).mono ?_;rintro r s' ⟨e,h⟩;exact ⟨e,fun _=>h,fun _=>h.2.2.2⟩
 rintro r hr z i l ⟨m,_⟩;obtain ⟨g,j,A,b⟩:=m rfl;rw [TL c];refine ⟨_,RH c b,by simp [cj,b],aj.intro l rfl fun q eH F=>⟨q,rfl,i.none F.no,⟨c,r,F.own,b,g.ext F.ext,j⟩,i.trans F.ext⟩⟩
/-! ### the reference -/
end
section
set_option maxRecDepth 100000
set_option maxHeartbeats 4000000
open Go.Am
def EK (a0:Option (Nat×Nat)) (a1:List AV) (s:AS) (R:AV->AS->Prop):Prop :=
 cj a1 (aj (.cells a1 0 false) s fun l1 s2=>aS (aD s2 l1 0 2) fun J=>aa Tryz.prog sx [.agg J] s2 fun K G=>∃ H:Bool,K=.bool H/\(af (!H)
 (R (.bool false) G)
 (bt fun I =>
 (∀ s8:AS,I [] s8 ->
 aV .u64 (ak s8 l1 1) fun L=>aV .i64 (ak s8 l1 0) fun e=>ah a0 fun i j=>bE (ag T cD (.ptr (some (i,j))) (.int .i64 (IntKind.wrap .i64 (e - 1)))) fun k l=>aV .u64 (ak s8 k l) fun m=>R (.bool (decide ((L:Int)<=m))) s8) /\
 (bu fun c n=>c n [.int .i64 0] G /\
 ∀ d:Nat,∀ b:Int,∀ gw:AS,c d [.int .i64 b] gw ->
 ah a0 fun o p=>dn (ak gw o (p+16)) fun r=>aV .i64 (aL T aC r gw) fun w=>af (decide ((b:Int)<w))
 (ah a0 fun x y=>dn (ak gw x (y+16)) fun z=>bE (ag T aC z (.int .i64 b)) fun A B=>aS (aD gw A B 2) fun C=>aS (aD gw l1 0 2) fun D=>sr (iZ T 100 gM (.agg C) (.agg D)) fun F=>af F
 (R (.bool true) gw)
 (∃ m',m'<d/\c m' [(.int .i64 (IntKind.wrap .i64 (b+1)))] gw))
 (I [] gw)))))
def EL:QA:=(.seq .leaf (.seq (.seq .leaf (.cond (.seq .leaf .leaf) .leaf)) (.join [] [(4,5),(9,26)] (.seq .leaf (.wrap (.loop [(5,.int .i64)] [(4,5),(9,26)] (.seq (.seq .leaf (.cond .leaf .leaf)) (.seq (.wrap (.seq (.draw 8) (.cond (.seq .leaf .leaf) .leaf))) .leaf))))) (.seq (.draw 10) .leaf))))
theorem EM (a0:Option (Nat×Nat)) (a1:List AV) (s:AS) (R:AV->AS->Prop) (h:EK a0 a1 s R):aa Tryz.prog qa [.ptr a0,.agg a1] s R :=
 aa.q (n:=38) (rs:=[.tmp 4]) (A:=EL) hT bX Tryz.func97 (by kernel_rfl) rfl rfl rfl (by kernel_rfl) (by kernel_rfl) h
def EN (a0:Option (Nat×Nat)) (a1:List AV) (s:AS) (R:AV->AS->Prop):Prop :=
 cj a1 (aj (.cells a1 0 false) s fun l1 s2=>aS (aD s2 l1 0 2) fun g3=>aa Tryz.prog qa [.ptr a0,.agg g3] s2 fun v4 s5=>∃ b6:Bool,v4=.bool b6/\(af b6
 (R (.bool false) s5)
 (bt fun m =>
 (∀ v8:AV,∀ n9:Int,∀ e:AS,m [v8,.int .i64 n9] e ->
 aS (aD e l1 0 2) fun n=>aS (de T aC 1 [(0,.agg n)]) fun o=>aj (.cells o 0 false) e fun p r=>ig (aG T aC aC v8 (.slc (some (p,0)) 1 1 true) r) fun w j=>ah a0 fun x y=>dn (ak j x (y+16)) fun z=>dn (bf T aC z (some (.int .i64 n9)) none none) fun v20=>ig (aG T aC aC w v20 j) fun A fV=>ah a0 fun B C=>e_ T aC fV B (C+16) A fun en=>aa Tryz.prog kS [.ptr a0] en fun D F=>D=.aQ []/\(R (.bool true) F)) /\
 (bu fun i G=>i G [.slc none 0 0 true,.int .i64 0] s5 /\
 ∀ k:Nat,∀ d:AV,∀ c:Int,∀ b:AS,i k [d,.int .i64 c] b ->
 ah a0 fun H I=>dn (ak b H (I+16)) fun J=>aV .i64 (aL T aC J b) fun K=>af (decide ((c:Int)<K)) (ah a0 fun L M=>dn (ak b L (M+16)) fun wm=>bE (ag T aC wm (.int .i64 c)) fun O Q=>aS (aD b O Q 2) fun S=>aS (aD b l1 0 2) fun U=>aa Tryz.prog qA [.agg S,.agg U] b fun W uw=>∃ l:Bool,W=.bool l/\(af l
 (ah a0 fun X Y=>dn (ak uw X (Y+16)) fun Z=>bE (ag T aC Z (.int .i64 c)) fun ab ad=>aS (aD uw ab ad 2) fun ae=>aS (de T aC 1 [(0,.agg ae)]) fun al=>aj (.cells al 0 false) uw fun am an=>ig (aG T aC aC d (.slc (some (am,0)) 1 1 true) an) fun ao ar=>∃ m',m'<k/\i m' [ao,(.int .i64 (IntKind.wrap .i64 (c+1)))] ar)
 (m [d,.int .i64 c] uw))) (m [d,.int .i64 c] b)))))
def EO:QA:=(.seq .leaf (.seq (.seq .leaf (.cond (.seq .leaf .leaf) .leaf)) (.seq .leaf (.seq .leaf (.join [(5,.any),(6,.int .i64)] [(5,6),(10,39)] (.wrap (.loop [(5,.any),(6,.int .i64)] [(5,6),(10,39)] (.seq (.seq (.draw 16) (.cond .leaf .leaf)) (.seq (.wrap .leaf) .leaf)))) (.seq .leaf (.seq .leaf (.seq .leaf (.seq .leaf .leaf)))))))))
theorem EP (a0:Option (Nat×Nat)) (a1:List AV) (s:AS) (R:AV->AS->Prop) (h:EN a0 a1 s R):aa Tryz.prog qc [.ptr a0,.agg a1] s R :=
 aa.q (n:=57) (rs:=[.tmp 4]) (A:=EO) hT bX Tryz.func208 (by kernel_rfl) rfl rfl rfl (by kernel_rfl) (by kernel_rfl) h
def y8 (a0:Option (Nat×Nat)) (s:AS) (R:AV->AS->Prop):Prop :=
 bt fun J1 =>
 (∀ v2:AV,∀ s3:AS,J1 [v2] s3 ->
 ah a0 fun l4 o5=>e_ T aC s3 l4 (o5+16) v2 fun s6=>R (.aQ []) s6) /\
 (bu fun d m8=>d m8 [.slc none 0 0 true,.int .i64 0] s /\
 ∀ i:Nat,∀ v10:AV,∀ c:Int,∀ dJ:AS,d i [v10,.int .i64 c] dJ ->
 ah a0 fun j k=>dn (ak dJ j (k+16)) fun l=>aV .i64 (aL T aC l dJ) fun m=>af (decide ((c:Int)<m))
 (ah a0 fun n o=>dn (ak dJ n (o+16)) fun p=>bE (ag T aC p (.int .i64 c)) fun r w=>aS (aD dJ r w 2) fun e=>aj (.cells [.int .i64 0,.int .u64 0] 0 false) dJ fun b x=>fy (some 2) e (bC (cS x b 0 e) fun en=>aV .u64 (ak en b 1) fun y=>aV .i64 (ak en b 0) fun z=>ah a0 fun A B=>bE (ag T cD (.ptr (some (A,B))) (.int .i64 (IntKind.wrap .i64 (z - 1)))) fun C D=>aV .u64 (ak en C D) fun F=>af ((y:Int)==(IntKind.wrap .u64 (F+1)))
 (aV .i64 (ak en b 0) fun G=>aV .u64 (ak en b 1) fun H=>ah a0 fun I J=>bE (ag T cD (.ptr (some (I,J))) (.int .i64 (IntKind.wrap .i64 (G - 1)))) fun K L=>bC (cS en K L [.int .u64 H]) fun M=>∃ m',m'<i/\d m' [v10,(.int .i64 (IntKind.wrap .i64 (c+1)))] M)
 (aV .u64 (ak en b 1) fun O=>aV .i64 (ak en b 0) fun Q=>ah a0 fun S U=>bE (ag T cD (.ptr (some (S,U))) (.int .i64 (IntKind.wrap .i64 (Q - 1)))) fun W X=>aV .u64 (ak en W X) fun Y=>af (decide ((O:Int)>Y))
 (aS (aD en b 0 2) fun Z=>aS (de T aC 1 [(0,.agg Z)]) fun ab=>aj (.cells ab 0 false) en fun ad ae=>ig (aG T aC aC v10 (.slc (some (ad,0)) 1 1 true) ae) fun al am=>∃ m',m'<i/\d m' [al,(.int .i64 (IntKind.wrap .i64 (c+1)))] am)
 (∃ m',m'<i/\d m' [v10,(.int .i64 (IntKind.wrap .i64 (c+1)))] en))))
 (J1 [v10] dJ))
def y9:QA:=(.seq .leaf (.join [(2,.any)] [(2,56)] (.seq .leaf (.wrap (.loop [(2,.any),(3,.int .i64)] [(2,56)] (.seq (.seq .leaf (.cond .leaf .leaf)) (.seq (.wrap (.seq .leaf (.seq (.draw 11) (.cond (.draw 8) (.seq (.draw 10) (.cond .leaf .leaf)))))) .leaf))))) .leaf))
theorem y_ (a0:Option (Nat×Nat)) (s:AS) (R:AV->AS->Prop) (h:y8 a0 s R):aa Tryz.prog kS [.ptr a0] s R :=
 aa.q (n:=61) (rs:=[]) (A:=y9) hT bX Tryz.func255 (by kernel_rfl) rfl rfl rfl (by kernel_rfl) (by kernel_rfl) h
def K6 (a0:List AV) (a1:List AV) (s:AS) (R:AV->AS->Prop):Prop :=
 cj a0 (aj (.cells a0 0 false) s fun l1 s2=>cj a1 (aj (.cells a1 0 false) s2 fun l3 s4=>aV .i64 (ak s4 l1 0) fun c=>aV .i64 (ak s4 l3 0) fun d=>af (decide ((c:Int)<d)) (R (.bool true) s4) (aV .i64 (ak s4 l1 0) fun e=>aV .i64 (ak s4 l3 0) fun i=>af ((e:Int)==i) (aV .u64 (ak s4 l1 1) fun j=>aV .u64 (ak s4 l3 1) fun b=>R (.bool (decide ((j:Int)<b))) s4) (R (.bool false) s4))))
def K7:QA:=(.seq .leaf (.seq .leaf .leaf))
theorem K8 (a0:List AV) (a1:List AV) (s:AS) (R:AV->AS->Prop) (h:K6 a0 a1 s R):aa Tryz.prog qA [.agg a0,.agg a1] s R :=
 aa.q (n:=24) (rs:=[.tmp 4]) (A:=K7) hT bX Tryz.func209 (by kernel_rfl) rfl rfl rfl (by kernel_rfl) (by kernel_rfl) h
end
section
open Go.Am Go.aq
structure K9 (s:AS) (p:Nat) (t:List AV) (v:List Int) (ex:List aO):Prop where
 len:v.length=16
 nt:∀ y∈t,∀ n,y≠.int .i64 n
 mem:∃ w,Am.Own s p (v.map (.int .u64)++w::t)/\w.one=true/\w≠.emp/\IB s w ex
structure TQ (s0 s:AS) (p:Nat) (t:List AV) (v:List Int) (ex:List aO):Prop where
 len:v.length=16
 nt:∀ y∈t,∀ n,y≠.int .i64 n
 mem:∃ w,Am.Own s p (v.map (.int .u64)++w::t)/\w.one=true/\w≠.emp/\bg aP 2 s w ex/\∀ la∈ax w,s0.h la=none
section
variable {s s':AS} {p:Nat} {t:List AV} {v:List Int} {ex:List aO}
theorem K9.ext (h:K9 s p t v ex) (e:Ext s s'):K9 s' p t v ex:=by
 obtain ⟨b,c,w,h2,h3,d,h4⟩:=h;exact ⟨b,c,w,h2.ext e,h3,d,h4.ext e⟩
theorem TQ.back {s0 s1:AS} (h:TQ s1 s p t v ex) (e:∀ x,s0.h x≠none->s1.h x≠none):TQ s0 s p t v ex:=by
 obtain ⟨c,d,w,h2,h3,i,h4,j⟩:=h;refine ⟨c,d,w,h2,h3,i,h4,fun la b=>?_⟩;cases k:s0.h la with
 | none=>rfl
 | some o=>exact absurd (j la b) (e la (by rw [k];simp))
end
theorem Qr {v:List Int} (h:v.length=16) (w:AV) (t:List AV) {i:Nat} (hi:i<16):(v.map (AV.int .u64)++w::t)[i]? = some (.int .u64 (v.getD i 0)):=by
 rw [List.getElem?_append_left (by simp [h];omega),List.getElem?_map,List.getElem?_eq_getElem (by omega),List.getD_eq_getElem?_getD,List.getElem?_eq_getElem (by omega)];rfl
theorem K_ {v:List Int} (h:v.length=16) (w:AV) (t:List AV):(v.map (AV.int .u64)++w::t)[16]? = some w:=by
 rw [List.getElem?_append_right (by simp [h])];simp [h]
theorem vO {v:List Int} (h:v.length=16) (w:AV) (t:List AV):(v.map (AV.int .u64)++w::t).length=17+t.length:=by simp [h];omega
theorem zm (a b:aO) (s:AS):aa Tryz.prog qA [.agg (aP a),.agg (aP b)] s fun v s'=>v=.bool (a.lt b)/\Ext s s':=by
 refine aa.pre fun d=>K8 _ _ _ _ ⟨rfl,aj.intro d rfl fun l s1 F=>⟨rfl,aj.intro F.wf rfl fun i s2 c=>?_⟩⟩;have e:=F.ext.trans c.ext;simp only [(F.own.ext c.ext).at.ak,c.own.at.ak,aP,List.getElem?_cons_zero,List.getElem?_cons_succ,go_sem,gU,e,and_true,aO.lt]
 grind
theorem RI {s:AS} {p:Nat} {t:List AV} {v:List Int} {ex:List aO} (h:K9 s p t v ex) (W:ex.length<=2 ^ 30) (d:aO):aa Tryz.prog qa [.ptr (some (p,0)),.agg (aP d)] s fun r s'=>r=.bool (fG v ex d)/\Ext s s':=by
 refine aa.pre fun L=>EM _ _ _ _ ⟨rfl,aj.intro L rfl fun l s1 F=>?_⟩;refine ⟨_,F.own.at.aD (by simp [aP]),?_⟩;refine (BR d _).mono ?_;rintro r s3 ⟨rfl,A⟩;have e:=F.ext.trans A;refine ⟨_,rfl,af.mk (fun hm=>?_) (fun hm=>?_)⟩
 ·simp only [Bool.not_eq_true'] at hm;exact ⟨by simp [fG,hm],e⟩
 ·simp only [Bool.not_eq_false'] at hm;obtain ⟨J,M,w,h2,h3,X,h4⟩:=h;refine ⟨fun vs s'=>Ext s3 s'/\d ∉ ex,?_,fun m vs s'=>∃ i:Nat,vs=[.int .i64 (i:Nat)]/\i<=ex.length/\m=ex.length - i/\Ext s3 s'/\∀ (k:Nat),k<i->ex[k]? ≠ some d,ex.length,⟨0,rfl,by omega,rfl,Ext.refl _,by omega⟩,?_⟩
  ·rintro s8 ⟨B,hd⟩;have O:=aO.gC.1 hm;have y:=(F.own.ext (A.trans B)).at;have C:=(h2.ext (e.trans B)).at;refine ⟨_,by rw [y.ak];rfl,_,by rw [y.ak];rfl,?_⟩;dsimp only;rw [sN (by omega)];refine ⟨_,_,K5 (by omega),_,by rw [C.ak,Nat.zero_add,Nat.mul_one];exact Qr J w t (by omega),?_,e.trans B⟩;simp [fG,hm,hd]
  ·rintro m n gw ⟨i,hi,Y,rfl,b,K⟩;simp only [List.cons.injEq,AV.int.injEq,true_and,and_true] at hi;subst hi;have C:=(h2.ext (e.trans b)).at;have c:ak gw p (0+16)=some w:=by rw [C.ak];exact K_ J w t
   refine ⟨w,c,_,h4.b_ bJ _,af.dec (fun Q=>?_) (fun R=>?_)⟩
   ·obtain ⟨x,D⟩:=cF (l:=ex) (i:=i) (by omega);obtain ⟨G,o,S,U⟩:=(h4.ext (e.trans b)).ix (by decide) br bJ kN D;refine ⟨w,c,G,o,S _,_,(U _ (Ext.refl _)).2,_,(F.own.ext (A.trans b)).at.aD (by simp [aP]),_,z5 x d,af.dec (fun H=>?_) (fun H=>?_)⟩
    ·refine ⟨?_,e.trans b⟩;subst H;simp [fG,hm,List.mem_of_getElem? D]
    ·refine ⟨ex.length - (i+1),by omega,i+1,by rw [a_ (by omega)];rfl,by omega,rfl,b,fun k z j=>?_⟩;rcases Nat.lt_or_ge k i with h | h
     ·exact K k h j
     ·obtain rfl:k=i:=by omega
      rw [D] at j;exact H (Option.some.inj j)
   ·refine ⟨b,fun hd=>?_⟩;obtain ⟨k,z⟩:=List.mem_iff_getElem?.1 hd;have:k<ex.length:=by
     rcases Nat.lt_or_ge k ex.length with I | I
     ·exact I
     ·rw [List.getElem?_eq_none I] at z;cases z
    exact K k (by omega) z
theorem IC {s:AS} {p:Nat} {t:List AV} {v:List Int} {ex:List aO} (h:K9 s p t v ex) (hv:GB v) (hm:∀ d∈ex,d.may=true) (hn:ex.length<2 ^ 30) :
  aa Tryz.prog kS [.ptr (some (p,0))] s fun r s'=>r=.aQ []/\TQ s s' p t (compact v ex).1 (compact v ex).2/\bB [p] s s':=by
 refine aa.pre fun hw=>y_ _ _ _ ?_;obtain ⟨h1,L,w,h2,h3,h5,h4⟩:=h;have H:∀ x∈[p],s.h x≠none:=by
  intro x M;obtain rfl:x=p:=by simpa using M
  rw [h2];simp
 have O:∀ {r:AV} {s':AS} {l:List aO},aW aP 2 [p] s s' r l->p ∉ ax r:=fun g hm=>H p (by simp) (g.new p hm);have S:∀ y∈w::t,∀ n,y≠.int .i64 n:=by
  intro y Q n;rcases List.mem_cons.1 Q with rfl | Q
  ·exact qK h4 _ _
  ·exact L y Q n
 let e:Nat->List Int×List aO:=fun i=>(ex.take i).foldl gD (v,[])
 have C:∀ i,GB (e i).1:=fun i=>FD _ _ hv fun d hd=>hm d (List.mem_of_mem_take hd);have I:∀ i,(e i).2.length<=i:=fun i=>by have:=A5 (ex.take i) (v,[]);simp only [List.length_nil,Nat.zero_add] at this;have h2:=List.length_take_le i ex;exact Nat.le_trans this h2
 refine ⟨fun vs s'=>∃ left,vs=[left]/\aJ s'/\aW aP 2 [p] s s' left (compact v ex).2/\Am.Own s' p ((compact v ex).1.map (.int .u64)++w::t),?_,?_⟩
 ·rintro r s3 ⟨left,hl,U,g,K⟩;simp only [List.cons.injEq,and_true] at hl;subst hl;have B:GB (compact v ex).1:=by have:=C ex.length;simp only [e,List.take_length] at this;exact this
  refine cP g.jJ.2 Bh (bC.own U K (by rw [vO B.len];simp) fun s6 P=>⟨rfl,⟨B.len,L,r,?_,g.jJ.2,g.jJ.1,(g.wr H P.mut).uQ,g.new⟩,g.eo.trans P.mut⟩)
  ·have:qQ ((compact v ex).1.map (AV.int .u64)++w::t) (0+16) [r]=(compact v ex).1.map (AV.int .u64)++r::t:=by
    rw [fA,List.set_append_right _ _ (by simp [B.len])];simp [B.len]
   rw [this] at P;exact P.at
 ·have hc:=h2.at;refine ⟨fun m vs s'=>∃ (i:Nat) (left:AV),vs=[left,.int .i64 (i:Nat)]/\i<=ex.length/\m=ex.length - i/\aJ s'/\aW aP 2 [p] s s' left (e i).2/\Am.Own s' p ((e i).1.map (.int .u64)++w::t),ex.length,⟨0,_,rfl,by omega,rfl,hw,aW.nil,h2⟩,?_⟩;rintro m left n W ⟨i,X,hi,h6,rfl,D,g,K⟩;simp only [List.cons.injEq,AV.int.injEq,true_and,and_true] at hi;obtain ⟨rfl,rfl⟩:=hi;have z:=C i;have A:ak W p (0+16)=some w:=by rw [K.at.ak];exact K_ z.len w t
  refine ⟨w,A,_,h4.b_ bJ _,af.dec (fun ab=>?_) (fun ad=>?_)⟩
  ·obtain ⟨x,M⟩:=cF (l:=ex) (i:=i) (by omega);have hd:=Dk h4 hc S g.eo;obtain ⟨la,o,h8,h9⟩:=hd.ix (by decide) br bJ kN M;have bX:=aO.gC.1 (hm x (List.mem_of_getElem? M));have ht:e (i+1)=gD (e i) x:=by simp only [e];rw [List.take_add_one,M,Option.toList_some,List.foldl_append];rfl
   refine ⟨w,A,la,o,h8 _,_,(h9 _ (Ext.refl _)).2,jK D rfl rfl rfl fun R fV F=>?_⟩;have k:=K.ext F.ext;have gg:=g.step F.ext;have G:(x.r - 1).toNat<16:=by omega
   have ae:=z.get (x.r - 1).toNat;have f0:ak fV R 0=some (.int .i64 x.r):=by rw [F.own.at.ak];rfl
   have f1:ak fV R 1=some (.int .u64 x.c):=by rw [F.own.at.ak];rfl
   have fv:ak fV p (0+(x.r - 1).toNat*1)=some (.int .u64 ((e i).1.getD (x.r - 1).toNat 0)):=by rw [k.at.ak,Nat.zero_add,Nat.mul_one];exact Qr z.len w t G
   refine ⟨_,f1,_,f0,?_⟩;dsimp only;rw [sN (by omega)];refine ⟨_,_,K5 (by omega),_,fv,?_⟩;dsimp only;rw [gi (by omega)];have cont:∀ (r:AV) (s':AS),aJ s'->aW aP 2 [p] s s' r (e (i+1)).2->Am.Own s' p ((e (i+1)).1.map (.int .u64)++w::t) ->
     ∃ m',m'<ex.length - i/\∃ (j:Nat) (left:AV),[r,AV.int .i64 (IntKind.wrap .i64 ((i:Int)+1))]=[left,.int .i64 (j:Nat)]/\j<=ex.length/\m'=ex.length - j/\aJ s'/\aW aP 2 [p] s s' left (e j).2/\Am.Own s' p ((e j).1.map (.int .u64)++w::t) :=
    fun r s' a b c=>⟨ex.length - (i+1),by omega,i+1,r,by rw [a_ (by omega)];rfl,by omega,rfl,a,b,c⟩
   refine af.mk (fun Y=>?_) (fun Y=>?_)
   ·have J:x.c=(e i).1.getD (x.r - 1).toNat 0+1:=by simpa using Y
    have hs:e (i+1)=((e i).1.set (x.r - 1).toNat x.c,(e i).2):=by rw [ht];unfold gD;rw [if_neg (by omega),if_pos J]
    refine ⟨_,f0,_,f1,?_⟩;dsimp only;rw [sN (by omega)];refine ⟨_,_,K5 (by omega),bC.own F.wf k (by rw [vO z.len];simp;omega) fun al P=>?_⟩;refine cont _ _ P.wf (by rw [hs];exact g.wr H (F.ext.mut.trans P.mut)) ?_;rw [hs];have:=P.at;rw [fA,Nat.zero_add,Nat.mul_one,Qp _ _ _ _ (by rw [z.len];exact G)] at this;exact this
   ·have J:¬ x.c=(e i).1.getD (x.r - 1).toNat 0+1:=by simpa using Y
    refine ⟨_,f1,_,f0,?_⟩;dsimp only;rw [sN (by omega)];refine ⟨_,_,K5 (by omega),_,fv,af.dec (fun am=>?_) (fun hle=>?_)⟩
    ·have hs:e (i+1)=((e i).1,(e i).2++[x]):=by rw [ht];unfold gD;rw [if_neg (by omega),if_neg J]
     have hM:∀ y∈[p],fV.h y≠none:=by
      intro y Q;obtain rfl:y=p:=by simpa using Q
      rw [k];simp
     refine ⟨_,F.own.at.aD (by simp [aP]),aW.iu jk br nB F.wf gg hM x (by have:=I i;omega) fun r s' g' Z mm=>?_⟩;exact cont _ _ Z (by rw [hs];exact g') (by rw [hs];exact k.mut mm (O g))
    ·have hs:e (i+1)=e i:=by rw [ht];unfold gD;rw [if_pos (by omega)]
     exact cont _ _ F.wf (by rw [hs];exact gg) (by rw [hs];exact k)
  ·obtain rfl:i=ex.length:=by omega
   have hs:e ex.length=compact v ex:=by simp only [e,List.take_length];rfl
   rw [hs] at g K;exact ⟨left,rfl,D,g,K⟩
theorem RJ {s:AS} {q:Nat} {t:List AV} {v:List Int} {ex:List aO} (h:K9 s q t v ex) (hv:GB v) (hr:ew ex) (hm:∀ d∈ex,d.may=true) (W:ex.length+1<2 ^ 30) {d:aO} (hd:d.may=true) :
  aa Tryz.prog qc [.ptr (some (q,0)),.agg (aP d)] s fun r s'=>r=.bool (!fG v ex d)/\bB [q] s s'/\(fG v ex d=true->Ext s s')/\(fG v ex d=false->TQ s s' q t (compact v (ins ex d)).1 (compact v (ins ex d)).2):=by
 refine aa.pre fun hw=>EP _ _ _ _ ⟨rfl,aj.intro hw rfl fun l1 s2 H=>⟨_,H.own.at.aD (by simp [aP]),?_⟩⟩;refine aa.use (RI (h.ext H.ext) (by omega) d) ?_;rintro r X ⟨rfl,Y⟩ Z;have F:=H.ext.trans Y;refine ⟨_,rfl,af.mk (fun G=>?_) (fun G=>?_)⟩
 ·exact ⟨by simp [G],F.mut,(fun _=>F),fun h=>absurd G (by simp [h])⟩
 have a2:d ∉ ex:=by
  intro ab;simp [fG,hd,ab] at G
 obtain ⟨I,ad,w,h2,h3,h5,h4⟩:=h;have c:∀ s',Ext s s'->ak s' q (0+16)=some w:=fun s' e=>by rw [(h2.ext e).at.ak];exact K_ I w t
 refine ⟨fun vs s'=>∃ left,vs=[left,.int .i64 (pos ex d:Nat)]/\aJ s'/\aW aP 2 [] X s' left (ex.take (pos ex d)),?_,fun m vs s'=>∃ (i:Nat) (left:AV),vs=[left,.int .i64 (i:Nat)]/\i<=ex.length/\m=ex.length - i/\aJ s'/\aW aP 2 [] X s' left (ex.take i)/\∀ (k:Nat) x,k<i->ex[k]? = some x->x.lt d=true,ex.length,⟨0,_,rfl,by omega,rfl,Z,by simpa using aW.nil,fun k x hk=>by omega⟩,?_⟩
 ·rintro v8 n9 a3 ⟨left,hl,J,g⟩;simp only [List.cons.injEq,AV.int.injEq,true_and,and_true] at hl;obtain ⟨rfl,rfl⟩:=hl;have ae:=Kq ex d;refine ⟨_,(H.own.ext (Y.trans g.eo.ext)).at.aD (by simp [aP]),aW.iu jk br nB J g (by simp) d (by rw [List.length_take];omega) fun a4 a5 K L _=>?_⟩;have M:=F.trans K.eo.ext;obtain ⟨v20,k1,k2⟩:=(h4.ext M).from br bJ kN h5 ae .i64
  refine ⟨w,c _ M,v20,k1,aW.iq jk br nB L K (by simp) k2 (by simp;omega) bJ fun O fV b Q _=>?_⟩;have C:=F.trans b.eo.ext;have R:ex.take (pos ex d)++[d]++ex.drop (pos ex d)=ins ex d:=by simp [ins]
  rw [R] at b;refine cP b.jJ.2 Bh (bC.own Q (h2.ext C) (by rw [vO I];simp) fun en P=>?_);have hP:=P.at;rw [fA,List.set_append_right _ _ (by simp [I])] at hP;simp only [List.length_map,I,Nat.zero_add,Nat.sub_self,List.set_cons_zero] at hP;have al:∀ x∈[q],X.h x≠none:=by
   intro x j;obtain rfl:x=q:=by simpa using j
   rw [h2.ext F];simp
  have am:∀ x∈ax O,x ∉ [q]:=fun x j hm=>al x hm (b.new x j);have an:K9 en q t v (ins ex d):=⟨I,ad,O,hP,b.jJ.2,b.jJ.1,(b.uQ.mut P.mut am).sl br⟩;have ao:∀ x∈ins ex d,x.may=true:=by
   intro x j;rcases vj.1 j with rfl | j
   ·exact hd
   ·exact hm x j
  refine (IC an hv ao (by rw [yH];omega)).mono ?_;rintro r a6 ⟨rfl,ar,aw⟩;refine ⟨rfl,by simp [G],C.mut.trans (P.mut.trans aw),(fun h=>absurd h (by simp [G])),fun _=>ar.back fun x j=>?_⟩;by_cases S:x=q
  ·subst S;rw [P.at];simp
  ·rw [P.eq x S];intro W;cases hq:s.h x with
   | none=>exact j hq
   | some o=>rw [C.1 _ _ hq] at W;cases W
 ·rintro m left n a7 ⟨i,a0,hi,h6,rfl,U,g,D⟩;simp only [List.cons.injEq,AV.int.injEq,true_and,and_true] at hi;obtain ⟨rfl,rfl⟩:=hi;have p:=F.trans g.eo.ext;refine ⟨w,c _ p,_,h4.b_ bJ _,af.dec (fun hl=>?_) (fun a8=>?_)⟩
  ·obtain ⟨x,j⟩:=cF (l:=ex) (i:=i) (by omega);obtain ⟨la,o,h8,h9⟩:=(h4.ext p).ix (by decide) br bJ kN j;refine ⟨w,c _ p,la,o,h8 _,_,(h9 _ (Ext.refl _)).2,_,(H.own.ext (Y.trans g.eo.ext)).at.aD (by simp [aP]),?_⟩;refine aa.use (zm x d _) ?_;rintro r uw ⟨rfl,z⟩ B;refine ⟨_,rfl,af.mk (fun hb=>?_) (fun hb=>?_)⟩
   ·have ht:ex.take (i+1)=ex.take i++[x]:=by rw [List.take_add_one,j];rfl
    refine ⟨w,c _ (p.trans z),la,o,h8 _,_,(h9 _ z).2,aW.iu jk br nB B (g.step z) (by simp) x (by rw [List.length_take];omega) fun v' s' g' a1 _=>?_⟩;refine ⟨ex.length - (i+1),by omega,i+1,v',by rw [a_ (by omega)];rfl,by omega,rfl,a1,by rw [ht];exact g',fun k y hk A=>?_⟩;rcases Nat.lt_or_ge k i with h | h
    ·exact D k y h A
    ·obtain rfl:k=i:=by omega
     rw [j] at A;obtain rfl:=Option.some.inj A;exact hb
   ·have hp:pos ex d=i:=pos_eq h6 D fun y A=>by rw [j] at A;obtain rfl:=Option.some.inj A;exact hb
    exact ⟨left,by rw [hp],B,by rw [hp];exact g.step z⟩
  ·have hp:pos ex d=i:=pos_eq h6 D fun y A=>by rw [List.getElem?_eq_none (by omega)] at A;cases A
   exact ⟨left,by rw [hp],U,by rw [hp];exact g⟩
end
section
set_option maxRecDepth 100000
set_option maxHeartbeats 4000000
open Go.Am
def Ni  (s:AS) (R:AV->AS->Prop):Prop :=
 aa Tryz.prog CZ [] s fun e s2=>∃ c:Option (Nat×Nat),e=.ptr c/\(aj (.map [] 0 false) s2 fun i j=>aj (.map [] 0 false) j fun k s7=>oq (aY T pK [(0,.ptr c),(1,(.map (some i))),(2,(.map (some k)))]) fun d=>cj d (aj (.cells d 0 false) s7 fun l b=>R (.ptr (some (l,0))) b))
def Nj:QA:=(.seq .leaf (.seq .leaf .leaf))
theorem Nk  (s:AS) (R:AV->AS->Prop) (h:Ni  s R):aa Tryz.prog xA [] s R :=
 aa.q (n:=6) (rs:=[.tmp 0]) (A:=Nj) hT bX Tryz.func61 (by kernel_rfl) rfl rfl rfl (by kernel_rfl) (by kernel_rfl) h
def ER (a0:Option (Nat×Nat)) (a1:List AV) (a2:List AV) (s:AS) (R:AV->AS->Prop):Prop :=
 cj a1 (aj (.cells a1 0 false) s fun l1 s2=>cj a2 (aj (.cells a2 0 false) s2 fun l3 s4=>aa Tryz.prog cq [.ptr a0] s4 fun W s6=>∃ Q:Bool,W=.bool Q/\(af (!Q)
 (R (.aQ [.slc none 0 0 true,.int .i64 1]) s6)
 (bt fun x =>
 (∀ U:Bool,∀ e:AS,x [.bool U] e ->
 af U
 (R (.aQ [.slc none 0 0 true,.int .i64 2]) e)
 (aa Tryz.prog fS [.ptr a0,(.func mX [(.ptr (some (l1,0)))])] e fun v11 dJ=>gn fun S V=>aS (aD dJ l3 0 2) fun y=>aS (aD dJ l1 0 2) fun z=>oq (aY T rF [(0,.agg y),(1,.agg z)]) fun b=>(∀ c:AS,Ext dJ c->aJ c->(True)->aS (de T aI 1 [(0,.agg b)]) fun A=>aj (.cells A 0 false) c fun l iF=>(Ext c iF/\S 3 [.agg b] (.slc (some (l,0)) 1 1 true) iF/\V 3 [.agg b] (.slc (some (l,0)) 1 1 true)))/\(∃ v,V 3 [.agg b] v)/\∀ v20:AV,V 3 [.agg b] v20->(∀ gl:AS,Ext dJ gl->aJ gl->(True)->aa Tryz.prog fK [v11] gl fun m uR=>(Ext gl uR/\S 5 [(.func fK []),v11] m uR/\V 5 [(.func fK []),v11] m))/\(∃ v,V 5 [(.func fK []),v11] v)/\∀ i:AV,V 5 [(.func fK []),v11] i->∀ en:AS,Ext dJ en->aJ en->(S 3 [.agg b] v20 en/\(S 5 [(.func fK []),v11] i en/\True))->ig (aG T aI aI v20 i en) fun n B=>aa Tryz.prog lK [.ptr a0,n] B fun C o=>∃ D:Bool,∃ j:Int,C=.aQ [.bool D,.int .i64 j]/\(af ((j:Int) != 0)
 (R (.aQ [.slc none 0 0 true,.int .i64 j]) o)
 (R (.aQ [n,.int .i64 0]) o)))) /\
 (aS (aD s6 l1 0 2) fun F=>aa Tryz.prog jX [.agg F] s6 fun G k=>∃ p:Bool,G=.bool p/\(af (!p) (x [.bool true] k) (aS (aD k l3 0 2) fun H=>aa Tryz.prog oC [.agg H] k fun I d=>∃ r:Bool,I=.bool r/\(af (!r) (x [.bool true] d) (ah a0 fun J K=>nM (ak d J K) fun L=>aS (aD d l3 0 2) fun M=>aa Tryz.prog kZ [.ptr L,.agg M] d fun O uw=>∃ w:Bool,O=.bool w/\(x [.bool w] uw))))))))))
def ES:QA:=(.seq .leaf (.seq (.wrap (.seq .leaf (.cond (.seq .leaf .leaf) (.join [(16,.bool)] [(16,32)] .calm (.cond (.seq .leaf .leaf) .leaf))))) (.seq .leaf (.seq (.iB 6 [[],[],[],[],[],[]] [3,5]) (.seq (.seq .leaf (.seq .leaf (.cond (.seq .leaf .leaf) .leaf))) (.seq .leaf .leaf))))))
theorem ET (a0:Option (Nat×Nat)) (a1:List AV) (a2:List AV) (s:AS) (R:AV->AS->Prop) (h:ER a0 a1 a2 s R):aa Tryz.prog dz [.ptr a0,.agg a1,.agg a2] s R :=
 aa.q (n:=53) (rs:=[.tmp 6,.tmp 7]) (A:=ES) hT bX Tryz.func68 (by kernel_rfl) rfl rfl rfl (by kernel_rfl) (by kernel_rfl) h
def EU (a0:Option (Nat×Nat)) (a1:AV) (s:AS) (R:AV->AS->Prop):Prop :=
 aa Tryz.prog cq [.ptr a0] s fun v1 s2=>∃ Z:Bool,v1=.bool Z/\(af (!Z)
 (R (.aQ [.bool false,.int .i64 1]) s2)
 (aa Tryz.prog dV [a1,(.func mY [])] s2 fun v4 s5=>∃ b6:Bool,v4=.bool b6/\(af b6
 (R (.aQ [.bool false,.int .i64 2]) s5)
 (aa Tryz.prog oF [.ptr a0] s5 fun v7 s8=>∃ l:Option (Nat×Nat),v7=.ptr l/\(bt fun m =>
 (∀ n:Bool,∀ dJ:AS,m [.bool n] dJ ->
 bt fun e =>
 (∀ o:Bool,∀ fH:AS,e [.bool o] fH ->
 af o
 (R (.aQ [.bool false,.int .i64 5]) fH)
 (ah l fun qZ y=>aS (aD fH qZ y 3) fun p=>ah a0 fun AJ z=>fy (some 3) p (bC (cS fH AJ z p) fun gl=>R (.aQ [.bool n,.int .i64 0]) gl))) /\
 (ah l fun A B=>wN (ak dJ A (B+1)) fun C=>aV .i64 (aL T cE (.map C) dJ) fun D=>af (decide ((D:Int)>1024)) (e [.bool true] dJ) (ah l fun F G=>wN (ak dJ F (G+1)) fun H=>aV .i64 (aL T cE (.map H) dJ) fun I=>ah l fun J K=>wN (ak dJ J (K+2)) fun L=>aV .i64 (aL T bP (.map L) dJ) fun M=>e [(.bool (decide ((IntKind.wrap .i64 (I+M):Int)>4096)))] dJ))) /\
 (aV .i64 (aL T aI a1 s8) fun O=>bu fun c Q=>c Q [.bool false,.int .i64 0] s8 /\
 ∀ i:Nat,∀ j:Bool,∀ b:Int,∀ d:AS,c i [.bool j,.int .i64 b] d ->
 af (decide ((b:Int)<O))
 (bE (ag T aI a1 (.int .i64 b)) fun S U=>aS (aD d S U 5) fun r=>aj (.cells [.int .i64 0,.int .u64 0,.str [],.str [],.bool false] 0 false) d fun w W=>fy (some 5) r (bC (cS W w 0 r) fun uw=>aS (aD uw w 0 5) fun X=>aa Tryz.prog qb [.ptr l,.agg X] uw fun Y rI=>∃ x:Bool,∃ k:Int,Y=.aQ [.bool x,.int .i64 k]/\(af ((k:Int) != 0)
 (R (.aQ [.bool false,.int .i64 k]) rI)
 (af j (∃ m',m'<i/\c m' [.bool true,(.int .i64 (IntKind.wrap .i64 (b+1)))] rI) (∃ m',m'<i/\c m' [.bool x,(.int .i64 (IntKind.wrap .i64 (b+1)))] rI)))))
 (m [.bool j] d)))))))
def EV:QA:=(.seq .leaf (.seq (.seq .leaf (.cond (.seq .leaf .leaf) .leaf)) (.seq (.seq .leaf (.cond (.seq .leaf .leaf) .leaf)) (.seq .leaf (.seq .leaf (.join [(7,.bool)] [(4,5),(7,7),(9,11),(19,38)] (.seq .leaf (.wrap (.loop [(7,.bool),(21,.int .i64)] [(4,5),(7,7),(9,11),(21,38)] (.seq .leaf (.seq (.cond .leaf .leaf) (.seq (.wrap (.seq .leaf (.seq .leaf (.seq (.seq .leaf (.cond (.seq .leaf .leaf) .leaf)) .leaf)))) .leaf)))))) (.seq (.join [(58,.bool)] [(39,58)] (.draw 16) (.cond (.seq .leaf .leaf) .leaf)) (.seq .leaf (.seq .leaf .leaf)))))))))
theorem EW (a0:Option (Nat×Nat)) (a1:AV) (s:AS) (R:AV->AS->Prop) (h:EU a0 a1 s R):aa Tryz.prog lK [.ptr a0,a1] s R :=
 aa.q (n:=65) (rs:=[.tmp 4,.tmp 5]) (A:=EV) hT bX Tryz.func109 (by kernel_rfl) rfl rfl rfl (by kernel_rfl) (by kernel_rfl) h
def z8 (a0:Option (Nat×Nat)) (a1:List AV) (s:AS) (R:AV->AS->Prop):Prop :=
 cj a1 (aj (.cells a1 0 false) s fun l1 s2=>aa Tryz.prog cq [.ptr a0] s2 fun l s4=>∃ j:Bool,l=.bool j/\(af (!j)
 (R (.aQ [.slc none 0 0 true,.int .i64 1]) s4)
 (aS (aD s4 l1 0 2) fun m=>aa Tryz.prog jX [.agg m] s4 fun n s8=>∃ k:Bool,n=.bool k/\(af (!k)
 (R (.aQ [.slc none 0 0 true,.int .i64 2]) s8)
 (aa Tryz.prog fS [.ptr a0,(.func jY [(.ptr (some (l1,0)))])] s8 fun v10 d=>aa Tryz.prog fK [v10] d fun b bQ=>aa Tryz.prog lK [.ptr a0,b] bQ fun e fH=>∃ i:Bool,∃ c:Int,e=.aQ [.bool i,.int .i64 c]/\(R (.aQ [b,.int .i64 c]) fH))))))
def z9:QA:=(.seq .leaf (.seq (.wrap (.seq .leaf (.cond (.seq .leaf .leaf) (.seq .leaf (.cond (.seq .leaf .leaf) .leaf))))) (.seq .leaf (.seq .leaf (.seq .leaf .leaf)))))
theorem z_ (a0:Option (Nat×Nat)) (a1:List AV) (s:AS) (R:AV->AS->Prop) (h:z8 a0 a1 s R):aa Tryz.prog lT [.ptr a0,.agg a1] s R :=
 aa.q (n:=29) (rs:=[.tmp 4,.tmp 5]) (A:=z9) hT bX Tryz.func85 (by kernel_rfl) rfl rfl rfl (by kernel_rfl) (by kernel_rfl) h
def EX (a0:Option (Nat×Nat)) (a1:List AV) (s:AS) (R:AV->AS->Prop):Prop :=
 cj a1 (aj (.cells a1 0 false) s fun l1 s2=>aa Tryz.prog cq [.ptr a0] s2 fun c s4=>∃ b:Bool,c=.bool b/\(af b (aa Tryz.prog fS [.ptr a0,(.func mW [(.ptr (some (l1,0)))])] s4 fun d s7=>aV .i64 (aL T aC d s7) fun e=>R (.bool (decide ((e:Int)>0))) s7) (R (.bool false) s4)))
def EY:QA:=(.seq .leaf (.seq .leaf .leaf))
theorem EZ (a0:Option (Nat×Nat)) (a1:List AV) (s:AS) (R:AV->AS->Prop) (h:EX a0 a1 s R):aa Tryz.prog p0 [.ptr a0,.agg a1] s R :=
 aa.q (n:=14) (rs:=[.tmp 4]) (A:=EY) hT bX Tryz.func25 (by kernel_rfl) rfl rfl rfl (by kernel_rfl) (by kernel_rfl) h
def E0 (a0:Option (Nat×Nat)) (s:AS) (R:AV->AS->Prop):Prop :=
 aa Tryz.prog cq [.ptr a0] s fun d s2=>∃ b:Bool,d=.bool b/\(af (!b)
 (R (.ptr none) s2)
 (ah a0 fun e i=>nM (ak s2 e i) fun j=>aa Tryz.prog dN [.ptr j] s2 fun k s8=>∃ c:Option (Nat×Nat),k=.ptr c/\(R (.ptr c) s8)))
def E1:QA:=(.seq .leaf (.seq (.seq .leaf (.cond (.seq .leaf .leaf) .leaf)) (.seq .leaf .leaf)))
theorem E3 (a0:Option (Nat×Nat)) (s:AS) (R:AV->AS->Prop) (h:E0 a0 s R):aa Tryz.prog jc [.ptr a0] s R :=
 aa.q (n:=11) (rs:=[.tmp 2]) (A:=E1) hT bX Tryz.func36 (by kernel_rfl) rfl rfl rfl (by kernel_rfl) (by kernel_rfl) h
def BU (a0:Option (Nat×Nat)) (s:AS) (R:AV->AS->Prop):Prop :=
 sr (iZ T 100 zl (.ptr a0) (.ptr none)) fun b=>af (!b) (ah a0 fun c d=>nM (ak s c d) fun e=>sr (iZ T 100 mz (.ptr e) (.ptr none)) fun i=>R (.bool (!i)) s) (R (.bool false) s)
def BV:QA:=(.seq .leaf (.seq .leaf .leaf))
theorem BW (a0:Option (Nat×Nat)) (s:AS) (R:AV->AS->Prop) (h:BU a0 s R):aa Tryz.prog cq [.ptr a0] s R :=
 aa.q (n:=12) (rs:=[.tmp 2]) (A:=BV) hT bX Tryz.func93 (by kernel_rfl) rfl rfl rfl (by kernel_rfl) (by kernel_rfl) h
def tN (a0:AV) (a1:AV) (s:AS) (R:AV->AS->Prop):Prop :=
 aa Tryz.prog jz [a0] s fun b s2=>aa Tryz.prog fD [b,a1] s2 fun c s4=>c=.aQ []/\(R b s4)
def tO:QA:=(.seq .leaf (.seq .leaf (.seq .leaf (.seq .leaf .leaf))))
theorem tP (a0:AV) (a1:AV) (s:AS) (R:AV->AS->Prop) (h:tN a0 a1 s R):aa Tryz.prog eY [a0,a1] s R :=
 aa.q (n:=12) (rs:=[.tmp 4]) (A:=tO) hT bX Tryz.func124 (by kernel_rfl) rfl rfl rfl (by kernel_rfl) (by kernel_rfl) h
def Dl (a0:Option (Nat×Nat)) (a1:List AV) (s:AS) (R:AV->AS->Prop):Prop :=
 cj a1 (aj (.cells a1 0 false) s fun l1 s2=>aj (.cells [.str [],.str []] 0 false) s2 fun l3 s4=>aa Tryz.prog cq [.ptr a0] s4 fun r s6=>∃ o:Bool,r=.bool o/\(af (!o)
 (oq (aY T lz []) fun p=>fy (some 2) p (bC (cS s6 l3 0 p) fun s9=>aS (aD s9 l3 0 2) fun i=>R (.aQ [.agg i,.bool false]) s9))
 (ah a0 fun j k=>wN (ak s6 j (k+1)) fun l=>aS (aD s6 l1 0 2) fun m=>∃ b:List AV,∃ c:Bool,dA T cE (.map l) (.agg m) true s6=some (.aQ [.agg b,.bool c])/\(aj (.cells [.str [],.str []] 0 false) s6 fun d eH=>fy (some 2) b (bC (cS eH d 0 b) fun iF=>aS (aD iF d 0 2) fun e=>fy (some 2) e (bC (cS iF l3 0 e) fun gl=>aS (aD gl l3 0 2) fun n=>R (.aQ [.agg n,.bool c]) gl))))))
def Dm:QA:=(.seq .leaf (.seq (.seq .leaf (.cond (.seq .leaf .leaf) .leaf)) (.seq .calm (.seq .leaf .leaf))))
theorem Dn (a0:Option (Nat×Nat)) (a1:List AV) (s:AS) (R:AV->AS->Prop) (h:Dl a0 a1 s R):aa Tryz.prog oH [.ptr a0,.agg a1] s R :=
 aa.q (n:=23) (rs:=[.cell 4 69,.tmp 5]) (A:=Dm) hT bX Tryz.func257 (by kernel_rfl) rfl rfl rfl (by kernel_rfl) (by kernel_rfl) h
def Dp (a0:Option (Nat×Nat)) (a1:List AV) (s:AS) (R:AV->AS->Prop):Prop :=
 cj a1 (aj (.cells a1 0 false) s fun l1 s2=>aS (aD s2 l1 0 2) fun n=>aa Tryz.prog oH [.ptr a0,.agg n] s2 fun o p=>∃ d:List AV,∃ m:Bool,o=.aQ [.agg d,.bool m]/\(aj (.cells [.str [],.str []] 0 false) p fun r s9=>fy (some 2) d (bC (cS s9 r 0 d) fun e=>aa Tryz.prog cq [.ptr a0] e fun v11 dJ=>∃ b:Bool,v11=.bool b/\(af b (af (!m) (ah a0 fun lN i=>nM (ak dJ lN i) fun j=>aS (aD dJ l1 0 2) fun k=>aa Tryz.prog kZ [.ptr j,.agg k] dJ fun l iF=>∃ c:Bool,l=.bool c/\(R (.bool c) iF)) (R (.bool false) dJ)) (R (.bool false) dJ)))))
def Dq:QA:=(.seq .leaf (.seq .leaf (.seq .calm .leaf)))
theorem Dr (a0:Option (Nat×Nat)) (a1:List AV) (s:AS) (R:AV->AS->Prop) (h:Dp a0 a1 s R):aa Tryz.prog oG [.ptr a0,.agg a1] s R :=
 aa.q (n:=27) (rs:=[.tmp 4]) (A:=Dq) hT bX Tryz.func215 (by kernel_rfl) rfl rfl rfl (by kernel_rfl) (by kernel_rfl) h
def Ht (a0:List AV) (s:AS) (R:AV->AS->Prop):Prop :=
 cj a0 (aj (.cells a0 0 false) s fun l1 s2=>CM (ak s2 l1 0) fun e=>aa Tryz.prog qz [.str e] s2 fun i c=>∃ d:Bool,i=.bool d/\(af d (CM (ak c l1 1) fun j=>aa Tryz.prog qz [.str j] c fun k s9=>∃ b:Bool,k=.bool b/\(R (.bool b) s9)) (R (.bool false) c)))
def Hu:QA:=(.seq .leaf (.seq .leaf .leaf))
theorem Hv (a0:List AV) (s:AS) (R:AV->AS->Prop) (h:Ht a0 s R):aa Tryz.prog jX [.agg a0] s R :=
 aa.q (n:=11) (rs:=[.tmp 2]) (A:=Hu) hT bX Tryz.func150 (by kernel_rfl) rfl rfl rfl (by kernel_rfl) (by kernel_rfl) h
def Ds (a0:Option (Nat×Nat)) (a1:AV) (s:AS) (R:AV->AS->Prop):Prop :=
 ah a0 fun l1 o2=>wN (ak s l1 (o2+1)) fun K=>aa Tryz.prog eU [.map K] s fun L M=>aa Tryz.prog eY [L,(.func jt [])] M fun J s7=>aV .i64 (aL T aC J s7) fun O=>bu fun m n=>m n [.slc none 0 0 true,.int .i64 0] s7 /\
 ∀ i:Nat,∀ c:AV,∀ b:Int,∀ d:AS,m i [c,.int .i64 b] d ->
 af (decide ((b:Int)<O))
 (bE (ag T aC J (.int .i64 b)) fun o p=>aS (aD d o p 2) fun k=>aj (.cells [.int .i64 0,.int .u64 0] 0 false) d fun e iF=>fy (some 2) k (bC (cS iF e 0 k) fun gw=>aS (aD gw e 0 2) fun r=>ah a0 fun w x=>wN (ak gw w (x+1)) fun y=>aS (aD gw e 0 2) fun z=>oq (dA T cE (.map y) (.agg z) false gw) fun A=>eK Tryz.prog a1 [.agg r,.agg A] gw fun B j=>∃ l:Bool,B=.bool l/\(af l
 (aS (aD j e 0 2) fun C=>aS (de T aC 1 [(0,.agg C)]) fun D=>aj (.cells D 0 false) j fun F G=>ig (aG T aC aC c (.slc (some (F,0)) 1 1 true) G) fun H I=>∃ m',m'<i/\m m' [H,(.int .i64 (IntKind.wrap .i64 (b+1)))] I)
 (∃ m',m'<i/\m m' [c,(.int .i64 (IntKind.wrap .i64 (b+1)))] j))))
 (R c d)
def Dt:QA:=(.seq .leaf (.seq .leaf (.seq (.seq .leaf (.wrap (.loop [(5,.any),(15,.int .i64)] [(5,5),(7,7),(15,32)] (.seq .leaf (.seq (.cond .leaf .leaf) (.seq (.wrap (.seq .leaf (.seq (.draw 8) (.cond .leaf .leaf)))) .leaf)))))) (.seq .leaf .leaf))))
theorem Du (a0:Option (Nat×Nat)) (a1:AV) (s:AS) (R:AV->AS->Prop) (h:Ds a0 a1 s R):aa Tryz.prog fS [.ptr a0,a1] s R :=
 aa.q (n:=34) (rs:=[.tmp 4]) (A:=Dt) hT bX Tryz.func94 (by kernel_rfl) rfl rfl rfl (by kernel_rfl) (by kernel_rfl) h
def BX (a0:List AV) (a1:List AV) (c0:Option (Nat×Nat)) (s:AS) (R:AV->AS->Prop):Prop :=
 cj a0 (aj (.cells a0 0 false) s fun l1 s2=>cj a1 (aj (.cells a1 0 false) s2 fun l3 s4=>aS (aD s4 l3 0 2) fun b=>ah c0 fun c d=>aS (aD s4 c d 2) fun e=>sr (iZ T 100 lz (.agg b) (.agg e)) fun i=>R (.bool i) s4))
def BY:QA:=(.seq .leaf (.seq .leaf .leaf))
theorem BZ (a0:List AV) (a1:List AV) (c0:Option (Nat×Nat)) (s:AS) (R:AV->AS->Prop) (h:BX a0 a1 c0 s R):aa Tryz.prog mX [.agg a0,.agg a1,.ptr c0] s R :=
 aa.q (n:=9) (rs:=[.tmp 5]) (A:=BY) hT bX Tryz.func151 (by kernel_rfl) rfl rfl rfl (by kernel_rfl) (by kernel_rfl) h
def La (a0:AV) (s:AS) (R:AV->AS->Prop):Prop :=
 aV .i64 (aL T aC a0 s) fun p=>bu fun e r=>e r [.slc none 0 0 true,.int .i64 0] s /\
 ∀ o:Nat,∀ i:AV,∀ d:Int,∀ s7:AS,e o [i,.int .i64 d] s7 ->
 af (decide ((d:Int)<p))
 (bE (ag T aC a0 (.int .i64 d)) fun w x=>aS (aD s7 w x 2) fun b=>aj (.cells [.int .i64 0,.int .u64 0] 0 false) s7 fun c dJ=>fy (some 2) b (bC (cS dJ c 0 b) fun bQ=>aS (aD bQ c 0 2) fun j=>oq (aY T rF [(0,.agg j),(2,.bool true)]) fun k=>aS (de T aI 1 [(0,.agg k)]) fun l=>aj (.cells l 0 false) bQ fun m eH=>ig (aG T aI aI i (.slc (some (m,0)) 1 1 true) eH) fun n gw=>∃ m',m'<o/\e m' [n,(.int .i64 (IntKind.wrap .i64 (d+1)))] gw))
 (R i s7)
def Lb:QA:=(.seq .leaf (.seq .leaf (.seq (.seq .leaf (.wrap (.loop [(3,.any),(8,.int .i64)] [(3,3),(5,5),(8,17)] (.seq .leaf (.seq (.cond .leaf .leaf) (.seq (.wrap (.seq .leaf .leaf)) .leaf)))))) (.seq .leaf .leaf))))
theorem Lc (a0:AV) (s:AS) (R:AV->AS->Prop) (h:La a0 s R):aa Tryz.prog fK [a0] s R :=
 aa.q (n:=19) (rs:=[.tmp 2]) (A:=Lb) hT bX Tryz.func114 (by kernel_rfl) rfl rfl rfl (by kernel_rfl) (by kernel_rfl) h
def l_ (a0:AV) (a1:AV) (s:AS) (R:AV->AS->Prop):Prop :=
 aa Tryz.prog eM [a0,a1] s fun c s2=>∃ b:Int,c=.int .i64 b/\(R (.bool (decide ((b:Int)>=0))) s2)
def mb:QA:=(.seq .leaf (.seq .leaf .leaf))
theorem mg (a0:AV) (a1:AV) (s:AS) (R:AV->AS->Prop) (h:l_ a0 a1 s R):aa Tryz.prog dV [a0,a1] s R :=
 aa.q (n:=9) (rs:=[.tmp 4]) (A:=mb) hT bX Tryz.func121 (by kernel_rfl) rfl rfl rfl (by kernel_rfl) (by kernel_rfl) h
def B1 (a0:List AV) (s:AS) (R:AV->AS->Prop):Prop :=
 cj a0 (aj (.cells a0 0 false) s fun l1 s2=>aS (aD s2 l1 0 5) fun c=>aa Tryz.prog xF [.agg c] s2 fun d e=>∃ b:Bool,d=.bool b/\(R (.bool (!b)) e))
def B4:QA:=(.seq .leaf (.seq .leaf .leaf))
theorem B5 (a0:List AV) (s:AS) (R:AV->AS->Prop) (h:B1 a0 s R):aa Tryz.prog mY [.agg a0] s R :=
 aa.q (n:=6) (rs:=[.tmp 2]) (A:=B4) hT bX Tryz.func172 (by kernel_rfl) rfl rfl rfl (by kernel_rfl) (by kernel_rfl) h
def Nl (a0:List AV) (s:AS) (R:AV->AS->Prop):Prop :=
 cj a0 (aj (.cells a0 0 false) s fun l1 s2=>Qb (ak s2 l1 4) fun l=>af l
 (aS (aD s2 l1 0 2) fun m=>aa Tryz.prog oC [.agg m] s2 fun n s6=>∃ k:Bool,n=.bool k/\(af k (aS (aD s6 l1 2 2) fun o=>oq (aY T lz []) fun p=>sr (iZ T 100 lz (.agg o) (.agg p)) fun d=>R (.bool d) s6) (R (.bool false) s6)))
 (aS (aD s2 l1 0 2) fun e=>aa Tryz.prog oC [.agg e] s2 fun i bQ=>∃ b:Bool,i=.bool b/\(af b (aS (aD bQ l1 2 2) fun j=>aa Tryz.prog jX [.agg j] bQ fun nO kU=>∃ c:Bool,nO=.bool c/\(R (.bool c) kU)) (R (.bool false) bQ))))
def Nm:QA:=(.seq .leaf (.seq (.seq .leaf (.cond (.seq .leaf .leaf) .leaf)) (.seq .leaf .leaf)))
theorem Nn (a0:List AV) (s:AS) (R:AV->AS->Prop) (h:Nl a0 s R):aa Tryz.prog xF [.agg a0] s R :=
 aa.q (n:=22) (rs:=[.tmp 2]) (A:=Nm) hT bX Tryz.func173 (by kernel_rfl) rfl rfl rfl (by kernel_rfl) (by kernel_rfl) h
def Dw (a0:Option (Nat×Nat)) (s:AS) (R:AV->AS->Prop):Prop :=
 aa Tryz.prog cq [.ptr a0] s fun D s2=>∃ C:Bool,D=.bool C/\(af (!C)
 (R (.ptr none) s2)
 (gn fun S V=>ah a0 fun F G=>nM (ak s2 F G) fun e=>(∀ s7:AS,Ext s2 s7->aJ s7->(True)->aa Tryz.prog dN [.ptr e] s7 fun H s9=>∃ i:Option (Nat×Nat),H=.ptr i/\((Ext s7 s9/\S 4 [(.func dN []),.ptr e] (.ptr i) s9/\V 4 [(.func dN []),.ptr e] (.ptr i))))/\(∃ v,V 4 [(.func dN []),.ptr e] v)/\∀ v11:AV,V 4 [(.func dN []),.ptr e] v11->∃ d:Option (Nat×Nat),v11=.ptr d/\(ah a0 fun n o=>wN (ak s2 n (o+1)) fun b=>(∀ c:AS,Ext s2 c->aJ c->(S 4 [(.func dN []),.ptr e] (.ptr d) c/\True)->aa Tryz.prog bF [.map b] c fun p eH=>∃ j:Option Nat,p=.map j/\((Ext c eH/\S 9 [(.func bF []),.map b] (.map j) eH/\V 9 [(.func bF []),.map b] (.map j))))/\(∃ v,V 9 [(.func bF []),.map b] v)/\∀ v20:AV,V 9 [(.func bF []),.map b] v20->∃ k:Option Nat,v20=.map k/\(ah a0 fun r w=>wN (ak s2 r (w+2)) fun x=>∀ en:AS,Ext s2 en->aJ en->(S 4 [(.func dN []),.ptr e] (.ptr d) en/\(S 9 [(.func bF []),.map b] (.map k) en/\True))->aa Tryz.prog cT [.map x] en fun y z=>∃ l:Option Nat,y=.map l/\(oq (aY T pK [(0,.ptr d),(1,.map k),(2,.map l)]) fun m=>cj m (aj (.cells m 0 false) z fun A B=>R (.ptr (some (A,0))) B))))))
def Dx:QA:=(.seq .leaf (.seq (.seq .leaf (.cond (.seq .leaf .leaf) .leaf)) (.seq (.iB 14 [[],[],[],[],[],[],[],[],[],[4],[],[],[],[]] [4,9]) .leaf)))
theorem Dy (a0:Option (Nat×Nat)) (s:AS) (R:AV->AS->Prop) (h:Dw a0 s R):aa Tryz.prog oF [.ptr a0] s R :=
 aa.q (n:=23) (rs:=[.tmp 2]) (A:=Dx) hT bX Tryz.func174 (by kernel_rfl) rfl rfl rfl (by kernel_rfl) (by kernel_rfl) h
def E_ (a0:Option (Nat×Nat)) (a1:List AV) (s:AS) (R:AV->AS->Prop):Prop :=
 cj a1 (aj (.cells a1 0 false) s fun l1 s2=>ah a0 fun l3 o4=>wN (ak s2 l3 (o4+1)) fun r5=>aS (aD s2 l1 0 2) fun g6=>∃ m:List AV,∃ Z:Bool,dA T cE (.map r5) (.agg g6) true s2=some (.aQ [.agg m,.bool Z])/\(aj (.cells [.str [],.str []] 0 false) s2 fun l9 n=>fy (some 2) m (bC (cS n l9 0 m) fun c=>bt fun d =>
 (∀ j:Bool,∀ b:AS,d [.bool j] b ->
 af j
 (ah a0 fun o p=>wN (ak b o (p+1)) fun r=>aS (aD b l1 0 2) fun w=>bC (mM T cE (.map r) (.agg w) b) fun iF=>ah a0 fun x y=>wN (ak iF x (y+2)) fun z=>aS (aD iF l1 0 2) fun A=>oq (aY T eG [(0,.bool true)]) fun B=>bC (dG T bP (.map z) (.agg A) (.agg B) iF) fun en=>R (.aQ [.bool true,.int .i64 0]) en)
 (ah a0 fun C D=>nM (ak b C D) fun F=>aS (aD b l1 0 2) fun G=>aa Tryz.prog tu [.ptr F,.agg G] b fun v30 mG=>∃ k:Bool,∃ e:Int,v30=.aQ [.bool k,.int .i64 e]/\(bt fun i =>
 (∀ l:Bool,∀ oY:AS,i [.bool l] oY ->
 af l
 (R (.aQ [.bool false,.int .i64 e]) oY)
 (Qb (ak oY l1 4) fun H=>af H
 (ah a0 fun I J=>wN (ak oY I (J+2)) fun K=>aS (aD oY l1 0 2) fun L=>oq (aY T eG [(0,.bool true)]) fun M=>bC (dG T bP (.map K) (.agg L) (.agg M) oY) fun O=>R (.aQ [.bool true,.int .i64 0]) O)
 (ah a0 fun Q S=>wN (ak oY Q (S+1)) fun U=>aS (aD oY l1 0 2) fun W=>aS (aD oY l1 2 2) fun X=>bC (dG T cE (.map U) (.agg W) (.agg X) oY) fun rI=>R (.aQ [.bool true,.int .i64 0]) rI))) /\
 (af ((e:Int) != 0) (i [.bool true] mG) (i [(.bool (!k))] mG))))) /\
 (af Z (Qb (ak c l1 4) fun Y=>d [.bool Y] c) (d [.bool false] c)))))
def Fa:QA:=(.seq .leaf (.seq .calm (.seq (.join [(24,.bool)] [(20,24)] .leaf (.cond (.seq (.draw 6) (.seq (.draw 7) (.seq .leaf .leaf))) .leaf)) (.seq .calm (.seq (.wrap (.join [(56,.bool)] [(56,62)] .leaf (.cond (.seq .leaf .leaf) (.seq .leaf (.cond (.draw 7) (.draw 8)))))) (.seq .leaf .leaf))))))
theorem Fb (a0:Option (Nat×Nat)) (a1:List AV) (s:AS) (R:AV->AS->Prop) (h:E_ a0 a1 s R):aa Tryz.prog qb [.ptr a0,.agg a1] s R :=
 aa.q (n:=74) (rs:=[.tmp 4,.tmp 5]) (A:=Fa) hT bX Tryz.func175 (by kernel_rfl) rfl rfl rfl (by kernel_rfl) (by kernel_rfl) h
def x9 (a0:List AV) (a1:List AV) (c0:Option (Nat×Nat)) (s:AS) (R:AV->AS->Prop):Prop :=
 cj a0 (aj (.cells a0 0 false) s fun l1 s2=>cj a1 (aj (.cells a1 0 false) s2 fun l3 s4=>aS (aD s4 l3 0 2) fun b=>ah c0 fun c d=>aS (aD s4 c d 2) fun e=>sr (iZ T 100 lz (.agg b) (.agg e)) fun i=>R (.bool i) s4))
def x_:QA:=(.seq .leaf (.seq .leaf .leaf))
theorem ya (a0:List AV) (a1:List AV) (c0:Option (Nat×Nat)) (s:AS) (R:AV->AS->Prop) (h:x9 a0 a1 c0 s R):aa Tryz.prog jY [.agg a0,.agg a1,.ptr c0] s R :=
 aa.q (n:=9) (rs:=[.tmp 5]) (A:=x_) hT bX Tryz.func162 (by kernel_rfl) rfl rfl rfl (by kernel_rfl) (by kernel_rfl) h
def B6 (a0:List AV) (a1:List AV) (c0:Option (Nat×Nat)) (s:AS) (R:AV->AS->Prop):Prop :=
 cj a0 (aj (.cells a0 0 false) s fun l1 s2=>cj a1 (aj (.cells a1 0 false) s2 fun l3 s4=>aS (aD s4 l3 0 2) fun b=>ah c0 fun c d=>aS (aD s4 c d 2) fun e=>sr (iZ T 100 lz (.agg b) (.agg e)) fun i=>R (.bool i) s4))
def B7:QA:=(.seq .leaf (.seq .leaf .leaf))
theorem B8 (a0:List AV) (a1:List AV) (c0:Option (Nat×Nat)) (s:AS) (R:AV->AS->Prop) (h:B6 a0 a1 c0 s R):aa Tryz.prog mW [.agg a0,.agg a1,.ptr c0] s R :=
 aa.q (n:=9) (rs:=[.tmp 5]) (A:=B7) hT bX Tryz.func95 (by kernel_rfl) rfl rfl rfl (by kernel_rfl) (by kernel_rfl) h
def nP (a0:AV) (a1:AV) (s:AS) (R:AV->AS->Prop):Prop :=
 aV .i64 (aL T aI a0 s) fun j=>bu fun e k=>e k [.int .i64 0] s /\
 ∀ i:Nat,∀ b:Int,∀ s6:AS,e i [.int .i64 b] s6 ->
 af (decide ((b:Int)<j))
 (bE (ag T aI a0 (.int .i64 b)) fun l m=>aS (aD s6 l m 5) fun n=>eK Tryz.prog a1 [.agg n] s6 fun v10 c=>∃ d:Bool,v10=.bool d/\(af d
 (R (.int .i64 b) c)
 (∃ m',m'<i/\e m' [(.int .i64 (IntKind.wrap .i64 (b+1)))] c)))
 (R (.int .i64 (-1)) s6)
def nQ:QA:=(.seq .leaf (.seq (.seq .leaf (.wrap (.loop [(8,.int .i64)] [(4,5),(8,18)] (.seq .leaf (.seq (.cond .leaf .leaf) (.seq (.wrap (.seq .leaf (.seq .leaf (.cond (.seq .leaf .leaf) .leaf)))) .leaf)))))) (.seq .leaf .leaf)))
theorem nR (a0:AV) (a1:AV) (s:AS) (R:AV->AS->Prop) (h:nP a0 a1 s R):aa Tryz.prog eM [a0,a1] s R :=
 aa.q (n:=19) (rs:=[.tmp 4]) (A:=nQ) hT bX Tryz.func189 (by kernel_rfl) rfl rfl rfl (by kernel_rfl) (by kernel_rfl) h
def wJ (a0:AV) (s:AS) (R:AV->AS->Prop):Prop :=
 aa Tryz.prog pE [.slc none 0 0 true,a0] s fun b s2=>R b s2
def wK:QA:=(.seq .leaf (.seq .leaf .leaf))
theorem wL (a0:AV) (s:AS) (R:AV->AS->Prop) (h:wJ a0 s R):aa Tryz.prog jz [a0] s R :=
 aa.q (n:=5) (rs:=[.tmp 2]) (A:=wK) hT bX Tryz.func191 (by kernel_rfl) rfl rfl rfl (by kernel_rfl) (by kernel_rfl) h
def Ld (a0:List UInt8) (s:AS) (R:AV->AS->Prop):Prop :=
 aV .i64 (aL T cL (.str a0) s) fun b=>af (decide ((b:Int)>=1)) (aV .i64 (aL T cL (.str a0) s) fun n2=>R (.bool (decide ((n2:Int)<=32))) s) (R (.bool false) s)
def Le:QA:=(.seq .leaf (.seq .leaf .leaf))
theorem Lf (a0:List UInt8) (s:AS) (R:AV->AS->Prop) (h:Ld a0 s R):aa Tryz.prog qz [.str a0] s R :=
 aa.q (n:=11) (rs:=[.tmp 2]) (A:=Le) hT bX Tryz.func207 (by kernel_rfl) rfl rfl rfl (by kernel_rfl) (by kernel_rfl) h
def oR (a0:Option Nat) (s:AS) (R:AV->AS->Prop):Prop :=
 aj (.cells [.map a0] 0 false) s fun l1 s2=>R (.func gJ [(.ptr (some (l1,0)))]) s2
def oS:QA:=(.seq .leaf (.seq .leaf .leaf))
theorem oT (a0:Option Nat) (s:AS) (R:AV->AS->Prop) (h:oR a0 s R):aa Tryz.prog eU [.map a0] s R :=
 aa.q (n:=4) (rs:=[.tmp 2]) (A:=oS) hT bX Tryz.func168 (by kernel_rfl) rfl rfl rfl (by kernel_rfl) (by kernel_rfl) h
def ID (a0:List AV) (a1:List AV) (s:AS) (R:AV->AS->Prop):Prop :=
 cj a0 (aj (.cells a0 0 false) s fun l1 s2=>cj a1 (aj (.cells a1 0 false) s2 fun l3 s4=>gn fun S V=>aV .i64 (ak s4 l1 0) fun d=>aV .i64 (ak s4 l3 0) fun e=>(∀ s7:AS,Ext s4 s7->aJ s7->(True)->aa Tryz.prog aU [.int .i64 d,.int .i64 e] s7 fun w s9=>∃ b:Int,w=.int .i64 b/\((Ext s7 s9/\S 4 [(.func aU []),.int .i64 d,.int .i64 e] (.int .i64 b) s9/\V 4 [(.func aU []),.int .i64 d,.int .i64 e] (.int .i64 b))))/\(∃ v,V 4 [(.func aU []),.int .i64 d,.int .i64 e] v)/\∀ v11:AV,V 4 [(.func aU []),.int .i64 d,.int .i64 e] v11->∃ c:Int,v11=.int .i64 c/\(aV .u64 (ak s4 l1 1) fun k=>aV .u64 (ak s4 l3 1) fun l=>∀ fH:AS,Ext s4 fH->aJ fH->(S 4 [(.func aU []),.int .i64 d,.int .i64 e] (.int .i64 c) fH/\True)->aa Tryz.prog eS [.int .u64 k,.int .u64 l] fH fun m eH=>∃ i:Int,m=.int .i64 i/\(aS (de T iA 2 [(0,.int .i64 c),(1,.int .i64 i)]) fun n=>aj (.cells n 0 false) eH fun o fV=>aa Tryz.prog k5 [(.slc (some (o,0)) 2 2 true)] fV fun p r=>∃ j:Int,p=.int .i64 j/\(R (.int .i64 j) r)))))
def IE:QA:=(.seq .leaf (.seq (.iB 9 [[],[],[],[],[],[],[],[],[]] [4]) .leaf))
theorem IF (a0:List AV) (a1:List AV) (s:AS) (R:AV->AS->Prop) (h:ID a0 a1 s R):aa Tryz.prog jt [.agg a0,.agg a1] s R :=
 aa.q (n:=17) (rs:=[.tmp 4]) (A:=IE) hT bX Tryz.func117 (by kernel_rfl) rfl rfl rfl (by kernel_rfl) (by kernel_rfl) h
def Lg (a0:List UInt8) (s:AS) (R:AV->AS->Prop):Prop :=
 aV .i64 (aL T cL (.str a0) s) fun b=>af (decide ((b:Int)>=1)) (aV .i64 (aL T cL (.str a0) s) fun n2=>R (.bool (decide ((n2:Int)<=32))) s) (R (.bool false) s)
def Lh:QA:=(.seq .leaf (.seq .leaf .leaf))
theorem Li (a0:List UInt8) (s:AS) (R:AV->AS->Prop) (h:Lg a0 s R):aa Tryz.prog mV [.str a0] s R :=
 aa.q (n:=11) (rs:=[.tmp 2]) (A:=Lh) hT bX Tryz.func27 (by kernel_rfl) rfl rfl rfl (by kernel_rfl) (by kernel_rfl) h
end
section
open Go.Am Go.aB
def fm (k:Key):List AV:=[.str k.t,.str k.d]
def bD (i:eP):List AV:=[.int .i64 i.dot.r,.int .u64 i.dot.c,.str i.key.t,.str i.key.d,.bool i.gone]
theorem bp (i:eP):(bD i).length=5:=rfl
theorem kJ (i:eP):(bD i).all AV.one=true:=rfl
end
end Go.Proofs.YtohgmogbabkkeaaGreat
namespace Go.Proofs.YtohgmogbabkkeaaGreat.SI
section
end
end Go.Proofs.YtohgmogbabkkeaaGreat.SI
namespace Go.Proofs.YtohgmogbabkkeaaGreat
section
open Go.Am Go.aq Go.aB
theorem Hw (a b:aO) (s:AS):aa Tryz.prog jt [.agg (aP a),.agg (aP b)] s fun v s'=>v=.int .i64 (a.cmp b)/\Ext s s':=by
 refine aa.pre fun n=>IF _ _ _ _ ⟨rfl,aj.intro n rfl fun l s1 F=>⟨rfl,aj.intro F.wf rfl fun o s2 i=>?_⟩⟩;have e:=F.ext.trans i.ext;refine ⟨fun _ _ _ _=>True,fun _ _ v=>v=.int .i64 (ug a.r b.r),fun _ _ _ _ _ _ _=>trivial,?_⟩;simp only [(F.own.ext i.ext).at.ak,i.own.at.ak,aP,List.getElem?_cons_zero,List.getElem?_cons_succ,go_sem];refine ⟨fun s7 _ _ _=>?_,⟨_,rfl⟩,?_⟩
 ·refine (kT _ _ _).mono ?_;rintro v s' ⟨rfl,rfl⟩;exact ⟨_,rfl,Ext.refl _,trivial,rfl⟩
 ·rintro v rfl;refine ⟨_,rfl,fun fH j _ _=>?_⟩;refine aa.use (iY _ _ _) ?_;rintro v s' ⟨rfl,rfl⟩ k;refine ⟨_,rfl,?_⟩;have d:de T iA 2 [(0,.int .i64 (ug a.r b.r)),(1,.int .i64 (ug a.c b.c))]=some [.int .i64 (ug a.r b.r),.int .i64 (ug a.c b.c)]:=by
   simp only [de,sG,Jq,KA,Option.bind_some,u9];rfl
  rw [d];simp only [go_sem];refine aj.intro k rfl fun l3 s3 m=>?_;refine (ql _ _ m.own.at).mono ?_;rintro v s' ⟨rfl,rfl⟩;refine ⟨_,rfl,?_,e.trans (j.trans m.ext)⟩;simp only [aO.cmp]
instance:rQ jt:=⟨Hw⟩
def aN (t:List UInt8):Bool:=decide (1<=t.length/\t.length<=32)
theorem lH (t:List UInt8) (s:AS):aL T cL (.str t) s=some (.int .i64 (t.length:Nat)):=by simp [aL,pL]
theorem Qs (t:List UInt8) (s:AS):aa Tryz.prog qz [.str t] s fun v s'=>v=.bool (aN t)/\s'=s:=by
 refine Lf _ _ _ ⟨_,lH t s,af.dec (fun h=>⟨_,lH t s,?_,rfl⟩) (fun h=>⟨?_,rfl⟩)⟩
 ·congr 1;rw [aN,decide_eq_decide];omega
 ·congr 1;symm;rw [aN,decide_eq_false_iff_not];omega
def _root_.Go.aB.Key.may (k:Key):Bool:=aN k.t&&aN k.d
def _root_.Go.aB.eP.may (i:eP):Bool:=i.dot.may&&(if i.gone then decide (i.key=⟨[],[]⟩) else i.key.may)
theorem Dz (k:Key) (s:AS):aa Tryz.prog jX [.agg (fm k)] s fun v s'=>v=.bool k.may/\Ext s s':=by
 refine aa.pre fun b=>Hv _ _ _ ⟨rfl,aj.intro b rfl fun l s1 F=>⟨k.t,by rw [F.own.at.ak];rfl,?_⟩⟩;refine aa.use (Qs _ _) ?_;rintro v s2 ⟨rfl,rfl⟩ _;refine ⟨_,rfl,af.mk (fun h=>⟨k.d,by rw [F.own.at.ak];rfl,?_⟩) (fun h=>⟨by rw [Key.may,h];rfl,F.ext⟩)⟩;refine aa.use (Qs _ _) ?_;rintro v s3 ⟨rfl,rfl⟩ _;exact ⟨_,rfl,by rw [Key.may,h];rfl,F.ext⟩
theorem Vn:triples (T.cW lz)=some [(false,cL,0),(false,cL,1)]:=by kernel_rfl
theorem Xk:T.UT lz=true:=by kernel_rfl
theorem Hx (a b:Key):iZ T 100 lz (.agg (fm a)) (.agg (fm b))=some (decide (a=b)):=by
 rw [Qh Vn Xk];simp only [GF,cond_false,CR Rp,fm,List.getElem?_cons_zero,List.getElem?_cons_succ,Option.bind_some,Tg pL];cases a;cases b;simp only [Key.mk.injEq];rename_i r c d c';by_cases e:r=d <;> by_cases h2:c=c' <;> simp [e,h2]
theorem Pt:aY T lz []=some (.agg (fm ⟨[],[]⟩)):=by kernel_rfl
theorem Xl (i:eP) (s:AS):aa Tryz.prog xF [.agg (bD i)] s fun v s'=>v=.bool i.may/\Ext s s':=by
 refine aa.pre fun c=>Nn _ _ _ ⟨rfl,aj.intro c rfl fun l s1 F=>⟨i.gone,by rw [F.own.at.ak];rfl,?_⟩⟩;have gd:∀ s',Ext s1 s'->aD s' l 0 2=some (aP i.dot):=fun s' e=>(F.own.ext e).at.aD (by simp [bD]);have b:∀ s',Ext s1 s'->aD s' l 2 2=some (fm i.key):=fun s' e=>(F.own.ext e).at.aD (by simp [bD]);refine af.mk (fun h=>?_) (fun h=>?_)
 ·refine ⟨_,gd _ (Ext.refl _),?_⟩;refine aa.use (rP _ _) ?_;rintro v s2 ⟨rfl,e2⟩ _;refine ⟨_,rfl,af.mk (fun h2=>⟨_,b _ e2,_,Pt,_,Hx _ _,?_,F.ext.trans e2⟩) (fun h2=>⟨by simp [eP.may,h2],F.ext.trans e2⟩)⟩;simp [eP.may,h,h2]
 ·refine ⟨_,gd _ (Ext.refl _),?_⟩;refine aa.use (rP _ _) ?_;rintro v s2 ⟨rfl,e2⟩ _;refine ⟨_,rfl,af.mk (fun h2=>⟨_,b _ e2,?_⟩) (fun h2=>⟨by simp [eP.may,h2],F.ext.trans e2⟩)⟩;refine aa.use (Dz _ _) ?_;rintro v s3 ⟨rfl,d⟩ _;exact ⟨_,rfl,by simp [eP.may,h,h2],F.ext.trans (e2.trans d)⟩
end
section
open Go.Am Go.aq Go.ChangeShapes Go.WideShapes Go.ChangeAt Go.RowKit
theorem No (x:aO):fG dx [] x=false:=by
 cases b:fG dx [] x with
 | false=>rfl
 | true =>
  obtain ⟨hm,h⟩:=uD.1 b;have:=aO.gC.1 hm;rcases h with h | h
  ·cases h
  ·have e:dx.getD (x.r - 1).toNat 0=0:=by
    simp only [dx,List.getD_eq_getElem?_getD,List.getElem?_replicate];split <;> rfl
   omega
theorem TR {v:List Int} {ex:List aO} (ok:Nc v ex) (Hy:TP v ex) (b:ex.length<4096) (d:aO):Nc (lZ v ex d).2.2.1 (lZ v ex d).2.2.2/\TP (lZ v ex d).2.2.1 (lZ v ex d).2.2.2/\(lZ v ex d).2.2.2.length<=ex.length+1/\∀ x,fG (lZ v ex d).2.2.1 (lZ v ex d).2.2.2 x=true↔fG v ex x=true\/(x=d/\d.may=true):=by
 cases hm:d.may with
 | false =>
  have:lZ v ex d=(false,2,v,ex):=by simp [lZ,hm]
  rw [this];exact ⟨ok,Hy,by simp,fun x=>by simp⟩
 | true =>
  rw [TO hm b];exact ⟨ok.add hm,TP.add ok Hy hm,TN,fun x=>by rw [Nh ok hm];simp⟩
theorem place {n:Int} {k:Nat} (c:0<k) (b:k<=80):∃ j:Nat,j<k/\Int.tmod (IntKind.wrap .i64 (Int.tmod n (k:Int)+(k:Int))) (k:Int)=(j:Int):=by
 have d:=Int.tmod_lt_of_pos n (show (0:Int)<k by omega);have h2 : -(k:Int)<Int.tmod n k:=by
  have:=Int.tmod_lt_of_pos (-n) (show (0:Int)<k by omega);rw [Int.neg_tmod] at this;omega
 rw [a_ (by omega)];have h3:0<=Int.tmod (Int.tmod n k+k) k:=Int.tmod_nonneg _ (by omega);have h4:=Int.tmod_lt_of_pos (Int.tmod n k+k) (show (0:Int)<k by omega);exact ⟨(Int.tmod (Int.tmod n k+k) k).toNat,by omega,by omega⟩
end
section
open Go.Am Go.aq
/-! ### maps of dots -/
abbrev dK (d:aO):AV:=.agg (aP d)
abbrev bV (b:Bool):AV:=.agg [.bool b]
theorem Aa:∀ r c:Int,n_ T 100 gM (.agg [.int .i64 r,.int .u64 c])=true:=by
 intro r c;kernel_rfl
theorem Np:aY T eG [(0,.bool true)]=some (.agg [.bool true]):=by kernel_rfl
/-! ### views -/
structure Vw where
 v:List Int
 ex:List aO
 live:aO->Bool
structure Fe (F:List Nat) (s:AS) (p:Nat) (v:List Int) (ex:List aO):Prop where
 len:v.length=16
 Y8:p∈F
 mem:∃ w,Am.Own s p (v.map (.int .u64)++[w,.bool true])/\w.one=true/\bg aP 2 s w ex/\∀ la∈ax w,la∈F
theorem Fe.at {F:List Nat} {s:AS} {p:Nat} {v:List Int} {ex:List aO} (h:Fe F s p v ex):xY s p v ex:=by
 obtain ⟨b,_,w,h2,h3,h4,c⟩:=h;exact ⟨b,w,h2,h3,h4.sl br⟩
theorem Fe.mut {F:List Nat} {s s':AS} {L:List Nat} {p:Nat} {v:List Int} {ex:List aO} (h:Fe F s p v ex) (m:bB L s s') (c:∀ x∈L,x ∉ F):Fe F s' p v ex:=by
 obtain ⟨e,h0,w,h2,h3,h4,d⟩:=h;exact ⟨e,h0,w,h2.mut m (fun b=>c p b h0),h3,h4.mut m fun x b hm=>c x hm (d x b),d⟩
theorem Fe.sub {F F':List Nat} {s:AS} {p:Nat} {v:List Int} {ex:List aO} (h:Fe F s p v ex) (b:∀ x∈F,x∈F'):Fe F' s p v ex:=by
 obtain ⟨c,h0,w,h2,h3,h4,d⟩:=h;exact ⟨c,b _ h0,w,h2,h3,h4,fun x e=>b x (d x e)⟩
theorem vM.Y1 {s0 s:AS} {p:Nat} {v:List Int} {ex:List aO} (h:vM s0 s p v ex) (hp:s0.h p=none):∃ F,Fe F s p v ex/\(∀ x∈F,s0.h x=none)/\∀ x∈F,s.h x≠none:=by
 obtain ⟨c,w,h2,h3,h4,d⟩:=h;refine ⟨p::ax w,⟨c,by simp,w,h2,h3,h4,fun x b=>by simp [b]⟩,fun x b=>?_,fun x b=>?_⟩
 ·rcases List.mem_cons.1 b with rfl | b
  ·exact hp
  ·exact d x b
 ·rcases List.mem_cons.1 b with rfl | b
  ·rw [h2];simp
  ·rcases h4 with ⟨_,a,rfl⟩ | ⟨la,rfl,e⟩
   ·simp [ax] at b
   ·obtain rfl:x=la:=by simpa [ax] using b
    rw [e];simp
theorem vM.YL {s0 s:AS} {p:Nat} {v:List Int} {ex:List aO} (h:vM s0 s p v ex):∃ F,Fe F s p v ex/\(∀ x∈F,x=p\/s0.h x=none)/\∀ x∈F,s.h x≠none:=by
 obtain ⟨c,w,h2,h3,h4,d⟩:=h;refine ⟨p::ax w,⟨c,by simp,w,h2,h3,h4,fun x b=>by simp [b]⟩,fun x b=>?_,fun x b=>?_⟩
 ·rcases List.mem_cons.1 b with rfl | b
  ·exact .inl rfl
  ·exact .inr (d x b)
 ·rcases List.mem_cons.1 b with rfl | b
  ·rw [h2];simp
  ·rcases h4 with ⟨_,a,rfl⟩ | ⟨la,rfl,e⟩
   ·simp [ax] at b
   ·obtain rfl:x=la:=by simpa [ax] using b
    rw [e];simp
/-! ### matrices -/
section
variable {F:List Nat} {s s':AS} {p m:Nat} {n o:Int} {told:Int->Option Vw} {has:List Int}
def XU (x:Option Vw):Nat:=match x with | some x=>x.ex.length | none=>0
end
end
section
open Go.Am Go.aq Go.aB
/-! ### maps of dots -/
abbrev kV (k:Key):AV:=.agg (fm k)
theorem Nq:Ri (K:=aO) T bP gM eG dK (bV false) :=
 ⟨kO,fun a b=>z5 a b,fun a=>Aa a.r a.c,fun a=>by simp [wQ,AL,aP],xM⟩
theorem vP:Ri (K:=aO) T cE gM lz dK (kV ⟨[],[]⟩) :=
 ⟨xL,fun a b=>z5 a b,fun a=>Aa a.r a.c,fun a=>by simp [wQ,AL,aP],WX⟩
theorem TS:Rk T gM 2:=⟨WW,kN,_,_,OO,rfl,rfl⟩
theorem RK:Y0 T aC:=⟨Ty,Bh⟩
theorem _root_.Go.Am.aW.map {α b:Type} {f:α->List AV} {g:b->List AV} {h:α->b} (c:∀ x,g (h x)=f x) {sz:Nat} {M:List Nat} {s0 s:AS} {v:AV} {l:List α} (G:aW f sz M s0 s v l):aW g sz M s0 s v (l.map h):=by
 refine ⟨?_,G.eo,G.new⟩;have e:(l.map h).flatMap g=l.flatMap f:=by
  rw [List.flatMap_map];congr 1;funext x;exact c x
 rcases G.uQ with ⟨rfl,a,rfl⟩ | ⟨la,rfl,d⟩
 ·exact .inl ⟨rfl,a,rfl⟩
 ·exact .inr ⟨la,by rw [List.length_map],by rw [e];exact d⟩
section
variable {V:Type} {vf:V->AV} {m:Nat} {es:List (aO×V×Nat)} {c:Nat} {ro:Bool} {s:AS}
theorem Lj {d:FuncId} {lb:Nat} (i:gB Tryz.prog d=true) (j:es.length<=2 ^ 30) (hm:eR dK vf s m es c ro)
  (b:∀ s1,Ext s s1->aJ s1->Mr Tryz.prog dK vf m es c ro (fun e=>aP e.1) d [.ptr (some (lb,0))] s1) :
  aa Tryz.prog jz [.func d [.ptr (some (lb,0))]] s fun v s'=>∃ done:List (aO×V×Nat),(∀ e∈es,e∈done)/\(∀ e∈done,e∈es)/\done.Nodup/\aW aP 2 [] s s' v (done.map fun e=>e.1):=by
 refine wL _ _ _ ?_;refine (Eo hT Tryz.func246 (by kernel_rfl) (ts:=aC) (te:=gM) (tq:=Et) (by kernel_rfl) (by kernel_rfl) (by kernel_rfl) RK jk TS (el:=fun e=>aP e.1) (fun e=>rfl) (fun e=>rfl) i j hm b).mono ?_;rintro v s' ⟨done,k,h2,h3,g⟩;exact ⟨done,k,h2,h3,aW.map (h:=fun e:aO×V×Nat=>e.1) (fun x=>rfl) g⟩
theorem Nr {z:FuncId} {lb:Nat} (A:gB Tryz.prog z=true) (M:es.length<65536) (hm:eR dK vf s m es c ro)
  (o:∀ s1,Ext s s1->aJ s1->Mr Tryz.prog dK vf m es c ro (fun e=>aP e.1) z [.ptr (some (lb,0))] s1) :
  aa Tryz.prog eY [.func z [.ptr (some (lb,0))],.func jt []] s fun v s'=>∃ l:List aO,ew l/\(∀ d,d∈l↔∃ e∈es,e.1=d)/\l.length=es.length/\Pm s s' v l:=by
 refine tP _ _ _ _ ?_;refine aa.use (Lj A (by omega) hm o) ?_;rintro v s2 ⟨done,I,h2,h3,g⟩ w2;have B:(done.map fun e=>e.1).Nodup:=by
  refine List.pairwise_map.2 (List.Pairwise.imp_of_mem ?_ h3);intro a b C hb D n;have F:=h2 a C;have G:=h2 b hb;refine D ?_;have hp:=hm.nd;have key:∀ (l:List (aO×V×Nat)),l.Pairwise (fun a b=>a.1≠b.1)->a∈l->b∈l->a=b:=by
   intro l
   induction l with
   | nil=>intro _ h;cases h
   | cons x l O =>
    intro hp h4 k;obtain ⟨p1,Q⟩:=List.pairwise_cons.1 hp;rcases List.mem_cons.1 h4 with J | h4 <;> rcases List.mem_cons.1 k with K | k
    ·rw [J,K]
    ·exact absurd (by rw [<- J];exact n) (p1 b k)
    ·exact absurd (by rw [<- K];exact n.symm) (p1 a h4)
    ·exact O Q h4 k
  exact key es hp F G
 have hlen:(done.map fun e=>e.1).length=es.length:=by
  rw [List.length_map];have p:es.Nodup:=hm.nd.imp fun {a b} h e=>h (by rw [e]);exact ((List.perm_ext_iff_of_nodup h3 p).2 fun a=>⟨h2 a,I a⟩).length_eq
 refine aa.use (z4 g (by omega)) ?_;rintro r s4 ⟨rfl,l,hp,hs,C⟩ Y;refine ⟨rfl,l,?_,fun d=>?_,by rw [hp.length_eq,hlen],C⟩
 ·have R:l.Nodup:=hp.nodup_iff.2 B;refine List.pairwise_iff_getElem.2 fun i j hi hj w=>?_;have hle:(el l i).le (el l j):=hs i j (by omega) w hj;have S:el l i=l[i]:=by have:=zE hi;rw [List.getElem?_eq_getElem hi] at this;exact (Option.some.inj this).symm
  have U:el l j=l[j]:=by have:=zE hj;rw [List.getElem?_eq_getElem hj] at this;exact (Option.some.inj this).symm
  rw [S,U] at hle;cases y:l[i].lt l[j] with
  | true=>rfl
  | false =>
   exfalso;rcases aO.le_iff.1 hle with h | ⟨k,H⟩
   ·have:=(aO.lt_iff (a:=l[i]) (b:=l[j])).2 (.inl h);rw [y] at this;cases this
   ·have L:¬ l[i].c<l[j].c:=fun h=>by
     have:=(aO.lt_iff (a:=l[i]) (b:=l[j])).2 (.inr ⟨k,h⟩);rw [y] at this;cases this
    have:l[i]=l[j]:=by
     cases W:l[i];cases X:l[j];rw [W,X] at k H L;simp only at k H L;rw [k,show _=_ from Int.le_antisymm H (by omega)]
    exact absurd this ((List.pairwise_iff_getElem.1 R) i j hi hj w)
 ·rw [hp.mem_iff,List.mem_map];constructor
  ·rintro ⟨e,n,rfl⟩;exact ⟨e,h2 e n,rfl⟩
  ·rintro ⟨e,n,rfl⟩;exact ⟨e,I e n,rfl⟩
end
end
section
open Go.Am Go.aq Go.aB
section
variable {m:Nat} {c:Nat} {ro:Bool} {s:AS}
theorem TU {es:List (aO×Key×Nat)} {lb:Nat} (hb:At s lb [.map (some m)]) (hm:eR dK kV s m es c ro):∀ s1,Ext s s1->aJ s1->Mr Tryz.prog dK kV m es c ro (fun e=>aP e.1) gJ [.ptr (some (lb,0))] s1 :=
 fun s1 e _=>Tn hT Tryz.func221 (tm:=cE) (tk:=gM) (tf:=C0) (tb:=wO) (by kernel_rfl) (by kernel_rfl) (by kernel_rfl) KG xL TS (kc:=aP) (fun k=>⟨rfl,rfl⟩) (hb.ext e) (hm.ext e)
theorem Ns {es:List (aO×Key×Nat)} (j:es.length<65536) (hm:eR dK kV s m es c ro) {R:AV->AS->Prop} (k:∀ v s' (l:List aO),ew l->(∀ d,d∈l↔∃ e∈es,e.1=d)->l.length=es.length->Pm s s' v l->aJ s'->R v s') :
  aa Tryz.prog eU [.map (some m)] s fun n o=>aa Tryz.prog eY [n,.func jt []] o R:=by
 refine aa.pre fun p=>oT _ _ _ (aj.intro p rfl fun lb s1 F=>?_);have i:=hm.ext F.ext;refine aa.use (Nr (by kernel_rfl) j i (TU F.own.at i)) ?_;rintro v s2 ⟨l,a,b,d,e⟩ w2;refine k v s2 l a b d ⟨F.ext.trans e.1,e.2.imp id fun ⟨la,i,h2,h3⟩=>⟨la,i,h2,F.ext.none h3⟩⟩ w2
/-! ### maps.Clone -/
theorem Lk:Extern.find Tryz.f210=some Extern.MapsClone.clone:=by kernel_rfl
theorem Ll:Extern.findNext Tryz.f210=none:=by kernel_rfl
theorem Lm : (Tryz.f210.name == "runtime.NumGoroutine") = false := by kernel_rfl
theorem Ln:Tryz.f210.body.isNone=true:=by kernel_rfl
theorem eR.copy {K V:Type} [DecidableEq K] {kf:K->AV} {vf:V->AV} {es:List (K×V×Nat)} {s s':AS} {m':Nat} (h:eR kf vf s m es c ro) (F:rm s s' m' (.map (mE kf vf es) c false)):eR kf vf s' m' es c false:=⟨F.at,h.st,h.lt,h.nd⟩
theorem Pu {es:List (aO×Key×Nat)} (hm:eR dK kV s m es c ro):aa Tryz.prog bF [.map (some m)] s fun v s'=>∃ m',v=.map (some m')/\Ext s s'/\s.h m'=none/\eR dK kV s' m' es c false:=by
 refine (xq hT Tryz.func225 (tm:=cE) (ti:=tC) (tb:=wO) (cl:=vq) (by kernel_rfl) (by kernel_rfl) (by kernel_rfl) (by kernel_rfl) xL Tryz.func210 Lm Ln Ll Lk hm.obj).mono ?_;rintro v s' ⟨m',rfl,F⟩;exact ⟨m',rfl,F.ext,F.no,eR.copy hm F⟩
theorem Nt {es:List (aO×Bool×Nat)} (hm:eR dK bV s m es c ro):aa Tryz.prog cT [.map (some m)] s fun v s'=>∃ m',v=.map (some m')/\Ext s s'/\s.h m'=none/\eR dK bV s' m' es c false:=by
 refine (xq hT Tryz.func226 (tm:=bP) (ti:=tC) (tb:=wO) (cl:=vq) (by kernel_rfl) (by kernel_rfl) (by kernel_rfl) (by kernel_rfl) kO Tryz.func210 Lm Ln Ll Lk hm.obj).mono ?_;rintro v s' ⟨m',rfl,F⟩;exact ⟨m',rfl,F.ext,F.no,eR.copy hm F⟩
end
end
section
open Go.Am Go.aq Go.aB
def jE (s:AS) (l:Nat) (f:aO->Option Key) (n:Nat):Prop:=∃ es c,eR dK kV s l es c false/\(∀ d,dF es d=f d)/\es.length=n
theorem jE.mut {s s':AS} {l n:Nat} {f:aO->Option Key} {L:List Nat} (h:jE s l f n) (e:bB L s s') (b:l ∉ L):jE s' l f n:=by
 obtain ⟨es,c,d,h2,h3⟩:=h;exact ⟨es,c,d.mut e b,h2,h3⟩
theorem jE.ext {s s':AS} {l n:Nat} {f:aO->Option Key} (h:jE s l f n) (e:Ext s s'):jE s' l f n:=h.mut (L:=[]) e.mut (by simp)
def nC (s:AS) (l:Nat) (f:aO->Bool) (n:Nat):Prop:=∃ es c,eR dK bV s l es c false/\(∀ d,dF es d=if f d then some true else none)/\es.length=n
theorem nC.mut {s s':AS} {l n:Nat} {f:aO->Bool} {L:List Nat} (h:nC s l f n) (e:bB L s s') (b:l ∉ L):nC s' l f n:=by
 obtain ⟨es,c,d,h2,h3⟩:=h;exact ⟨es,c,d.mut e b,h2,h3⟩
theorem nC.ext {s s':AS} {l n:Nat} {f:aO->Bool} (h:nC s l f n) (e:Ext s s'):nC s' l f n:=h.mut (L:=[]) e.mut (by simp)
structure aF where
 v:List Int
 ex:List aO
 live:aO->Option Key
 rS:aO->Bool
 nl:Nat
 nt:Nat
structure ic (F:List Nat) (s:AS) (p:Nat) (x:aF):Prop where
 ok:Nc x.v x.ex
 Hy:TP x.v x.ex
 len:x.ex.length<=4096
 mem:∃ pc lm tm,Am.Own s p [.ptr (some (pc,0)),.map (some lm),.map (some tm)]/\p∈F/\Fe F s pc x.v x.ex/\lm∈F/\tm∈F/\lm≠tm/\jE s lm x.live x.nl/\nC s tm x.rS x.nt
theorem ic.mut {F:List Nat} {s s':AS} {L:List Nat} {p:Nat} {x:aF} (h:ic F s p x) (m:bB L s s') (k:∀ y∈L,y ∉ F):ic F s' p x:=by
 obtain ⟨l,h2,h3,pc,lm,tm,a,b,c,d,e,f,g,i⟩:=h;exact ⟨l,h2,h3,pc,lm,tm,a.mut m (fun j=>k p j b),b,c.mut m k,d,e,f,g.mut m (fun j=>k lm j d),i.mut m (fun j=>k tm j e)⟩
theorem ic.ext {F:List Nat} {s s':AS} {p:Nat} {x:aF} (h:ic F s p x) (e:Ext s s'):ic F s' p x:=h.mut (L:=[]) e.mut (by simp)
section
variable {F:List Nat} {s:AS} {p:Nat} {x:aF}
theorem nD (h:ic F s p x):aa Tryz.prog cq [.ptr (some (p,0))] s fun r s'=>r=.bool true/\s'=s:=by
 obtain ⟨_,_,_,pc,lm,tm,a,_⟩:=h;exact BW _ _ _ ⟨_,jq H8 _,af.yes rfl ⟨_,by rw [a.at.ak];rfl,_,jq xK _,rfl,rfl⟩⟩
theorem Vo (h:ic F s p x) (d:aO):aa Tryz.prog oH [.ptr (some (p,0)),.agg (aP d)] s fun r s'=>r=.aQ [.agg (fm ((x.live d).getD ⟨[],[]⟩)),.bool (x.live d).isSome]/\Ext s s':=by
 refine aa.pre fun o=>Dn _ _ _ _ ⟨rfl,aj.intro o rfl fun l1 s2 i=>aj.intro i.wf rfl fun l3 s4 j=>?_⟩;have k:=i.ext.trans j.ext;have w:=i.own.ext j.ext;refine aa.use (nD (h.ext k)) ?_;rintro v s6 ⟨rfl,rfl⟩ y;obtain ⟨_,_,_,pc,lm,tm,a,_,_,_,_,_,⟨es,c,hm,z,A⟩,_⟩:=h.ext k;have hf:=hm.find vP d true;rw [z] at hf;refine ⟨_,rfl,af.no rfl ⟨_,by rw [a.at.ak];rfl,_,w.at.aD (by simp [aP]),fm ((x.live d).getD ⟨[],[]⟩),(x.live d).isSome,?_,?_⟩⟩
 ·refine Eq.trans (show _=_ from hf) ?_;cases x.live d <;> rfl
 ·refine jK y rfl rfl rfl fun l iF b=>?_;refine ⟨fm ((x.live d).getD ⟨[],[]⟩),?_,⟨rfl,rfl⟩,bC.own b.wf (j.own.ext b.ext) (by simp [fm]) fun gl e=>?_⟩
  ·have m:At iF l (fm ((x.live d).getD ⟨[],[]⟩)):=⟨_,_,b.at⟩;exact m.aD (by simp [fm])
  ·have n:At gl l3 (fm ((x.live d).getD ⟨[],[]⟩)):=⟨_,_,by rw [e.at,dZ (by simp [fm])]⟩;exact ⟨_,n.aD (by simp [fm]),rfl,Ext.wr (k.trans b.ext) (i.ext.none j.no) e.mut⟩
theorem Vp (h:ic F s p x) (d:aO):aa Tryz.prog oG [.ptr (some (p,0)),.agg (aP d)] s fun r s'=>r=.bool (!(x.live d).isSome&&fG x.v x.ex d)/\Ext s s':=by
 refine aa.pre fun l=>Dr _ _ _ _ ⟨rfl,aj.intro l rfl fun l1 s2 e=>⟨_,e.own.at.aD (by simp [aP]),?_⟩⟩;refine aa.use (Vo (h.ext e.ext) d) ?_;rintro v y ⟨rfl,k⟩ m;refine ⟨_,_,rfl,jK m rfl rfl rfl fun z n c=>?_⟩;have b:=e.ext.trans (k.trans c.ext);refine aa.use (nD (h.ext b)) ?_;rintro v dJ ⟨rfl,rfl⟩ o;refine ⟨_,rfl,af.yes rfl (af.mk (fun i=>?_) (fun i=>⟨?_,b⟩))⟩
 ·obtain ⟨ok,_,hlen,pc,lm,tm,a,_,w,_⟩:=h.ext b;refine ⟨_,by rw [a.at.ak];rfl,_,(e.own.ext (k.trans c.ext)).at.aD (by simp [aP]),?_⟩;refine aa.use (z6 w.at ok.r (by omega) d) ?_;rintro v iF ⟨rfl,j⟩ _;exact ⟨_,rfl,by rw [i];simp,b.trans j⟩
 ·rw [i];simp
theorem Ju (pc:Nat) (lm tm:Nat):aY T pK [(0,.ptr (some (pc,0))),(1,.map (some lm)),(2,.map (some tm))]=some (.agg [.ptr (some (pc,0)),.map (some lm),.map (some tm)]):=by
 rw [qV (pl:=[(0,1),(1,1),(2,1)]) (by kernel_rfl) KH rfl];rfl
theorem Vq (h:ic F s p x):aa Tryz.prog oF [.ptr (some (p,0))] s fun r s'=>∃ p' F',r=.ptr (some (p',0))/\ic F' s' p' x/\(∀ y∈F',s.h y=none)/\(∀ y∈F',s'.h y≠none)/\Ext s s':=by
 refine Dy _ _ _ ?_;refine aa.use (nD h) ?_;rintro v s2 ⟨rfl,rfl⟩ w2;have ad:=h.len;obtain ⟨ok,Hy,len,pc,lm,tm,a,ae,hc,al,am,an,hl,ht⟩:=id h;have g:∀ (i:Nat) s',Ext s2 s'->ak s' p i=[AV.ptr (some (pc,0)),.map (some lm),.map (some tm)][i]? := fun i s' e=>(a.ext e).at.ak i;refine ⟨_,rfl,af.no rfl ⟨fun q _ v s'=>(q=4->∃ pc,v=.ptr (some (pc,0))/\s2.h pc=none/\vM s2 s' pc x.v x.ex)/\(q=9->∃ lm,v=.map (some lm)/\s2.h lm=none/\jE s' lm x.live x.nl),fun q _ v=>(q=4->∃ pc,v=.ptr (some (pc,0)))/\(q=9->∃ lm,v=.map (some lm)),?_,_,g 0 _ (Ext.refl _),fun s7 O w7 _=>?_,⟨.ptr (some (0,0)),(fun _=>⟨0,rfl⟩),(fun h=>by cases h)⟩,fun v11 z=>?_⟩⟩
 ·rintro q ks v s' s'' e ⟨A,h2⟩;refine ⟨fun n=>?_,fun n=>?_⟩
  ·obtain ⟨a,b,c,d⟩:=A n;exact ⟨a,b,c,d.ext e⟩
  ·obtain ⟨a,b,c,d⟩:=h2 n;exact ⟨a,b,c,d.ext e⟩
 ·refine (Hs (hc.at.ext O) (by omega)).mono ?_;rintro v s9 ⟨q,rfl,n,g9,e9⟩;exact ⟨_,rfl,e9,⟨(fun _=>⟨q,rfl,O.none n,g9.back O⟩),(fun h=>by cases h)⟩,(fun _=>⟨q,rfl⟩),(fun h=>by cases h)⟩
 obtain ⟨Q,rfl⟩:=z.1 rfl;refine ⟨_,rfl,_,g 1 _ (Ext.refl _),fun ao B ar _=>?_,⟨.map (some 0),(fun h=>by cases h),(fun _=>⟨0,rfl⟩)⟩,fun v20 C=>?_⟩
 ·obtain ⟨es,c,A,h2,h3⟩:=hl.ext B;refine (Pu A).mono ?_;rintro v eH ⟨m',rfl,R,S,M⟩;exact ⟨_,rfl,R,⟨(fun h=>by cases h),(fun _=>⟨m',rfl,B.none S,es,c,M,h2,h3⟩)⟩,(fun h=>by cases h),(fun _=>⟨m',rfl⟩)⟩
 obtain ⟨o,rfl⟩:=C.2 rfl;refine ⟨_,rfl,_,g 2 _ (Ext.refl _),fun en m aw hS=>?_⟩;obtain ⟨a0,D,G,hG⟩:=hS.1.1 rfl;obtain ⟨a1,H,I,U⟩:=hS.2.1.2 rfl;simp only [AV.ptr.injEq,AV.map.injEq,Option.some.injEq,Prod.mk.injEq,and_true] at D H;subst D;subst H;obtain ⟨es,c,A,h2,h3⟩:=ht.ext m;refine aa.use (Nt A) ?_;rintro v a2 ⟨YM,rfl,J,w,M⟩ W;refine ⟨_,rfl,_,Ju _ _ _,rfl,aj.intro W rfl fun p' a3 j=>?_⟩;obtain ⟨Fc,X,Y,Z⟩:=hG.Y1 G;have k:=J.trans j.ext;have ab:=m.trans k;have K:o≠YM:=by
  rintro rfl;obtain ⟨es',c',h4,_⟩:=U;rw [h4.obj] at w;cases w
 refine ⟨p',p'::o::YM::Fc,rfl,⟨ok,Hy,len,Q,o,YM,j.own,by simp,(X.mut (L:=[]) k.mut (by simp)).sub (fun y l=>by simp [l]),by simp,by simp,K,U.ext k,es,c,M.ext j.ext,h2,h3⟩,?_,?_,ab⟩
 ·intro y l;simp only [List.mem_cons] at l;rcases l with rfl | rfl | rfl | l
  ·exact (m.trans J).none j.no
  ·exact I
  ·exact m.none w
  ·exact Y y l
 ·intro y l;simp only [List.mem_cons] at l;rcases l with rfl | rfl | rfl | l
  ·rw [j.at];simp
  ·obtain ⟨es',c',h4,_⟩:=U.ext k;rw [h4.obj];simp
  ·rw [(M.ext j.ext).obj];simp
  ·cases n:en.h y with
   | none=>exact absurd n (Z y l)
   | some ob=>rw [k.1 y ob n];simp
end
end
section
open Go.Am Go.aq Go.aB
theorem Ext.Vr {s s1 s2:AS} {L:List Nat} (e:Ext s s1) (hp:∀ x∈L,s.h x=none) (m:bB L s1 s2):Ext s s2 :=
 ⟨fun x o b=>m.1 x o (fun hm=>by rw [hp x hm] at b;cases b) (e.1 x o b),Nat.le_trans e.2 m.2⟩
section
variable {s:AS} {l n:Nat}
theorem jE.obj {f:aO->Option Key} (h:jE s l f n):∃ es c,s.h l=some (.map es c false):=by
 obtain ⟨es,c,b,_⟩:=h;exact ⟨_,_,b.obj⟩
theorem nC.obj {f:aO->Bool} (h:nC s l f n):∃ es c,s.h l=some (.map es c false):=by
 obtain ⟨es,c,b,_⟩:=h;exact ⟨_,_,b.obj⟩
theorem jE.del (i:aJ s) {f:aO->Option Key} (h:jE s l f n) {d:aO} {k:Key} (hd:f d=some k) {Q:AS->Prop}
  (j:∀ s',jE s' l (fun x=>if x=d then none else f x) (n - 1)->aJ s'->bB [l] s s'->Q s'):bC (mM T cE (.map (some l)) (.agg (aP d)) s) Q:=by
 obtain ⟨es,c,o,h2,h3⟩:=h;refine eR.del vP i o d (by rw [h2];exact hd) fun s' es' b e p w m=>j s' ⟨es',c,b,fun x=>?_,by omega⟩ w m;rw [e,h2]
theorem jE.pq (j:aJ s) {f:aO->Option Key} (h:jE s l f n) (d:aO) (k:Key) {Q:AS->Prop}
  (o:∀ s',jE s' l (fun x=>if x=d then some k else f x) (if (f d).isSome then n else n+1)->aJ s'->bB [l] s s'->Q s'):bC (dG T cE (.map (some l)) (.agg (aP d)) (.agg (fm k)) s) Q:=by
 obtain ⟨es,c,i,h2,h3⟩:=h;refine eR.pq vP j i d k fun s' es' c' b e w m=>o s' ⟨es',c',b,fun x=>?_,?_⟩ w m
 ·rw [e,h2]
 ·rw [FH i.nd b.nd e,h2,h3]
theorem nC.pq (k:aJ s) {f:aO->Bool} (h:nC s l f n) (d:aO) {Q:AS->Prop}
  (o:∀ s',nC s' l (fun x=>f x||decide (x=d)) (if f d then n else n+1)->aJ s'->bB [l] s s'->Q s'):bC (dG T bP (.map (some l)) (.agg (aP d)) (.agg [.bool true]) s) Q:=by
 obtain ⟨es,c,j,h2,h3⟩:=h;refine eR.pq Nq k j d true fun s' es' c' b i w m=>o s' ⟨es',c',b,fun x=>?_,?_⟩ w m
 ·rw [i,h2];by_cases e:x=d
  ·simp [e]
  ·simp [e]
 ·rw [FH j.nd b.nd i,h2,h3];cases f d <;> simp
end
theorem D_ (v:List Int) (ex:List aO):(compact v ex).2.length<=ex.length:=by
 have:=A5 ex (v,[]);simpa [compact] using this
def aF.mI (x:aF) (i:eP):Bool×aF :=
 if (x.live i.dot).isSome&&i.gone then (true,{ x with live:=fun d=>if d=i.dot then none else x.live d,rS:=fun d=>x.rS d||decide (d=i.dot),nl:=x.nl - 1,nt:=if x.rS i.dot then x.nt else x.nt+1 })
 else if fG x.v x.ex i.dot then (false,x)
 else if i.gone then (true,{ x with v:=(compact x.v (ins x.ex i.dot)).1,ex:=(compact x.v (ins x.ex i.dot)).2,rS:=fun d=>x.rS d||decide (d=i.dot),nt:=if x.rS i.dot then x.nt else x.nt+1 })
 else (true,{ x with v:=(compact x.v (ins x.ex i.dot)).1,ex:=(compact x.v (ins x.ex i.dot)).2,live:=fun d=>if d=i.dot then some i.key else x.live d,nl:=if (x.live i.dot).isSome then x.nl else x.nl+1 })
theorem Vs (x:aF) (i:eP) (ok:Nc x.v x.ex) (hi:i.dot.may=true) (b:x.ex.length<4096):(x.mI i).2.ex.length<=x.ex.length+1/\(x.mI i).2.nl<=x.nl+1/\(x.mI i).2.nl+(x.mI i).2.nt<=x.nl+x.nt+1:=by
 have c:(compact x.v (ins x.ex i.dot)).2.length<=x.ex.length+1:=by
  have:=D_ x.v (ins x.ex i.dot);rw [yH] at this;exact this
 unfold aF.mI;split
 ·refine ⟨by simp,by simp;omega,?_⟩;simp only;split <;> omega
 ·split
  ·refine ⟨by simp,by simp,by simp⟩
  ·split
   ·refine ⟨c,by simp,?_⟩;simp only;split <;> omega
   ·refine ⟨c,?_,?_⟩ <;> simp only <;> split <;> omega
section
variable {F:List Nat} {s:AS} {p:Nat} {x:aF}
theorem Vt {v:List Int} {ex:List aO} {d:aO} (b:fG v ex d=true) (hd:d.may=true):lZ v ex d=(false,0,v,ex):=by simp [lZ,hd,b]
theorem TV {v:List Int} {ex:List aO} {d:aO} (b:fG v ex d=false) (hd:d.may=true) (e:ex.length<4096):lZ v ex d=(true,0,compact v (ins ex d)):=by
 have c:=D_ v (ins ex d);rw [yH] at c;simp only [lZ,hd,b,Bool.true_eq_false,Bool.false_eq_true,if_false];rw [if_neg (by omega)]
theorem Xm (h:ic F s p x) (a8:∀ y∈F,s.h y≠none) (i:eP) (hi:i.dot.may=true) (K:x.ex.length<4096) :
  aa Tryz.prog qb [.ptr (some (p,0)),.agg (bD i)] s fun r s'=>r=.aQ [.bool (x.mI i).1,.int .i64 0]/\∃ F',ic F' s' p (x.mI i).2/\(∀ y∈F',y∈F\/s.h y=none)/\(∀ y∈F',s'.h y≠none)/\bB F s s':=by
 refine aa.pre fun hw=>Fb _ _ _ _ ⟨rfl,aj.intro hw rfl fun l1 s2 F2=>?_⟩;have h2:=h.ext F2.ext;obtain ⟨ok,Hy,hlen,pc,lm,tm,a,a2,Y,A,G,B,Z,ht⟩:=id h2;have hf:dA T cE (.map (some lm)) (.agg (aP i.dot)) true s2=some (.aQ [.agg (fm ((x.live i.dot).getD ⟨[],[]⟩)),.bool (x.live i.dot).isSome]):=by
  obtain ⟨es,c,hm,hg,_⟩:=Z;have hf:=hm.find vP i.dot true;rw [hg] at hf;refine Eq.trans (show _=_ from hf) ?_;cases x.live i.dot <;> rfl
 refine ⟨_,by rw [a.at.ak];rfl,_,F2.own.at.aD (by simp [bD]),fm ((x.live i.dot).getD ⟨[],[]⟩),(x.live i.dot).isSome,hf,?_⟩;refine jK F2.wf rfl rfl rfl fun l9 a9 z=>?_;have H:=F2.ext.trans z.ext;have o1:Am.Own a9 l1 (bD i):=F2.own.ext z.ext;have a':p≠lm:=by rintro rfl;obtain ⟨es,c,h⟩:=Z.obj;rw [a] at h;cases h
 have ba:p≠tm:=by rintro rfl;obtain ⟨es,c,h⟩:=ht.obj;rw [a] at h;cases h
 have bb:l1 ∉ F:=fun hm=>a8 l1 hm F2.no;refine ⟨fun vs s'=>vs=[.bool ((x.live i.dot).isSome&&i.gone)]/\s'=a9,?_,af.mk (fun hs=>⟨i.gone,by rw [o1.at.ak];rfl,by rw [hs];rfl,rfl⟩) (fun hs=>⟨by rw [hs];rfl,rfl⟩)⟩;rintro b O ⟨hb,rfl⟩;simp only [List.cons.injEq,AV.bool.injEq,and_true] at hb;subst hb;have b3:=h2.ext z.ext
 replace a:=a.ext z.ext
 replace Y:=Y.mut (L:=[]) z.ext.mut (by simp)
 replace Z:=Z.ext z.ext
 replace ht:=ht.ext z.ext
 have C:∀ y∈F,O.h y≠none:=fun y j hn=>a8 y j (H.none hn);refine af.mk (fun hb=>?_) (fun hb=>?_)
 ·simp only [Bool.and_eq_true] at hb;obtain ⟨k,hk⟩:=Option.isSome_iff_exists.1 hb.1;have l:x.mI i=(true,{ x with live:=fun d=>if d=i.dot then none else x.live d,rS:=fun d=>x.rS d||decide (d=i.dot),nl:=x.nl - 1,nt:=if x.rS i.dot then x.nt else x.nt+1 }):=by
   unfold aF.mI;rw [if_pos (by simp [hb])]
  refine ⟨_,by rw [a.at.ak];rfl,_,o1.at.aD (by simp [bD]),Z.del z.wf hk fun iF ae b4 D=>?_⟩;have bc:=ht.mut D (by simpa using B.symm);have bd:=a.mut D (by simpa using a');have b5:=o1.mut D (by simp only [List.mem_singleton];rintro rfl;exact bb A);refine ⟨_,by rw [bd.at.ak];rfl,_,b5.at.aD (by simp [bD]),_,Np,bc.pq b4 i.dot fun en al ck I=>?_⟩;have b6:∀ y∈[lm],y∈F:=by simpa using A
  have b7:∀ y∈[tm],y∈F:=by simpa using G
  have M:bB F s en:=H.mut.trans ((D.mono b6).trans (I.mono b7));have b8:pc ∉ [lm]:=by
   simp only [List.mem_singleton];rintro rfl;obtain ⟨_,_,w,n,_⟩:=Y;obtain ⟨es,c,h⟩:=Z.obj;rw [n] at h;cases h
  have b9:pc ∉ [tm]:=by
   simp only [List.mem_singleton];rintro rfl;obtain ⟨_,_,w,n,_⟩:=Y;obtain ⟨es,c,h⟩:=ht.obj;rw [n] at h;cases h
  have be:Fe F en pc x.v x.ex:=by
   obtain ⟨q1,q2,w,q3,q4,q5,q6⟩:=Y;have am:∀ (m:Nat) (es:List (AV×AV×Nat)) (c:Nat),O.h m=some (.map es c false)->∀ y∈ax w,y≠m:=by
    rintro m es c hm y j rfl;rcases q5 with ⟨_,b,rfl⟩ | ⟨la,rfl,ho⟩
    ·simp [ax] at j
    ·obtain rfl:y=la:=by simpa [ax] using j
     rw [ho] at hm;cases hm
   obtain ⟨cl,c1,e1⟩:=Z.obj;obtain ⟨cm,c2,e2⟩:=ht.obj;have b':=q5.mut D fun y j hm=>am _ _ _ e1 y j (by simpa using hm);exact ⟨q1,q2,w,(q3.mut D b8).mut I b9,q4,b'.mut I fun y j hm=>am _ _ _ e2 y j (by simpa using hm),q6⟩
  rw [l];refine ⟨rfl,F,⟨ok,Hy,hlen,pc,lm,tm,bd.mut I (by simpa using ba),a2,be,A,G,B,ae.mut I (by simpa using B),al⟩,fun y j=>.inl j,fun y j=>?_,M⟩;have Q:∀ {m:Nat} {u u':AS},bB [m] u u'->u'.h m≠none->u.h y≠none->u'.h y≠none:=by
   intro m u u' mm hm hn;by_cases e:y=m
   ·rw [e];exact hm
   ·cases hq:u.h y with
    | none=>exact absurd hq hn
    | some o=>rw [mm.1 y o (by simpa using e) hq];simp
  refine Q I ?_ (Q D ?_ (C y j))
  ·obtain ⟨es,c,h⟩:=al.obj;rw [h];simp
  ·obtain ⟨es,c,h⟩:=ae.obj;rw [h];simp
 refine ⟨_,by rw [a.at.ak];rfl,_,o1.at.aD (by simp [bD]),?_⟩;refine aa.use (Nb Y.at ok.v ok.r ok.m (by omega) i.dot) ?_;rintro r mG ⟨rfl,a3,J,a4,R⟩ bh;have a5:¬ ((x.live i.dot).isSome&&i.gone)=true:=by rw [hb];simp
 cases hh:fG x.v x.ex i.dot with
 | true =>
  rw [Vt hh hi] at a3 a4 R ⊢;have a6:=a4 rfl;have l:x.mI i=(false,x):=by
   unfold aF.mI;rw [if_neg a5,if_pos hh]
  rw [l];refine ⟨_,_,rfl,fun vs s'=>vs=[.bool true]/\s'=mG,?_,af.no rfl ⟨rfl,rfl⟩⟩;rintro b oY ⟨hb,rfl⟩;simp only [List.cons.injEq,AV.bool.injEq,and_true] at hb;subst hb;exact af.yes rfl ⟨rfl,F,b3.ext a6,fun y j=>.inl j,fun y j hn=>C y j (a6.none hn),(H.trans a6).mut⟩
 | false =>
  have bi:=TV hh hi K;have bj:=TR ok Hy K i.dot;rw [bi] at a3 a4 R bj ⊢;obtain ⟨bk,an,a7,_⟩:=bj;have ca:(compact x.v (ins x.ex i.dot)).2.length<=x.ex.length+1:=a7;have hG:=R rfl;obtain ⟨Fc,bl,bm,cb⟩:=hG.YL;have S:pc∈F:=Y.Y8;have ao:bB F O mG:=J.mono (by simpa using S);have cc:p≠pc:=by
   rintro rfl;have cd:=ok.v.len;obtain ⟨_,_,w,n,_⟩:=Y;have h1:=congrArg List.length (a.at.inj n.at);simp [cd] at h1
  have bo:lm≠pc:=by
   rintro rfl;obtain ⟨_,_,w,n,_⟩:=Y;obtain ⟨es,c,h⟩:=Z.obj;rw [n] at h;cases h
  have bs:tm≠pc:=by
   rintro rfl;obtain ⟨_,_,w,n,_⟩:=Y;obtain ⟨es,c,h⟩:=ht.obj;rw [n] at h;cases h
  have ab:=a.mut J (by simpa using cc);have ar:=Z.mut J (by simpa using bo);have aw:=ht.mut J (by simpa using bs);have ad:=o1.mut J (by simp only [List.mem_singleton];rintro rfl;exact bb S);have ce:∀ y∈Fc,y∈F\/s.h y=none:=by
   intro y j;rcases bm y j with rfl | h
   ·exact .inl S
   ·exact .inr (H.none h)
  have bx:∀ {m:Nat},m≠pc->O.h m≠none->∀ y∈[m],y ∉ Fc:=by
   intro m hm hn y j hf;obtain rfl:=List.mem_singleton.1 j;rcases bm y hf with h | h
   ·exact hm h
   ·exact hn h
  have fin:∀ {m:Nat} {s':AS},m∈F->bB [m] mG s'->s'.h m≠none->∀ y∈Fc++F,s'.h y≠none:=by
   intro m s' hm mm hn y j;by_cases e:y=m
   ·rw [e];exact hn
   ·have cf:mG.h y≠none:=by
     rcases List.mem_append.1 j with j | j
     ·exact cb y j
     ·by_cases e2:y=pc
      ·rw [e2];obtain ⟨_,w,h,_⟩:=a3;rw [h];simp
      ·cases hq:O.h y with
       | none=>exact absurd hq (C y j)
       | some o=>rw [J.1 y o (by simpa using e2) hq];simp
    cases hq:mG.h y with
    | none=>exact absurd hq cf
    | some o=>rw [mm.1 y o (by simpa using e) hq];simp
  have U:∀ y∈Fc++F,y∈F\/s.h y=none:=by
   intro y j;rcases List.mem_append.1 j with j | j
   ·exact ce y j
   ·exact .inl j
  refine ⟨_,_,rfl,fun vs s'=>vs=[.bool false]/\s'=mG,?_,af.no rfl ⟨rfl,rfl⟩⟩;rintro b oY ⟨b0,rfl⟩;simp only [List.cons.injEq,AV.bool.injEq,and_true] at b0;subst b0;refine af.no rfl ⟨i.gone,by rw [ad.at.ak];rfl,af.mk (fun hg=>?_) (fun hg=>?_)⟩
  ·have l:x.mI i=(true,{ x with v:=(compact x.v (ins x.ex i.dot)).1,ex:=(compact x.v (ins x.ex i.dot)).2,rS:=fun d=>x.rS d||decide (d=i.dot),nt:=if x.rS i.dot then x.nt else x.nt+1 }):=by
    unfold aF.mI;rw [if_neg a5,if_neg (by rw [hh];simp),if_pos hg]
   rw [l];refine ⟨_,by rw [ab.at.ak];rfl,_,ad.at.aD (by simp [bD]),_,Np,aw.pq bh i.dot fun cn a0 cp W=>?_⟩;obtain ⟨es,c,ch⟩:=ht.obj;have b1:=bl.mut W (bx bs (by rw [ch];simp));refine ⟨rfl,Fc++F,⟨bk,an,by simp only;omega,pc,lm,tm,ab.mut W (by simpa using ba),by simp [a2],b1.sub (fun y j=>by simp [j]),by simp [A],by simp [G],B,ar.mut W (by simpa using B),a0⟩,U,fin G W ?_,H.mut.trans (ao.trans (W.mono (by simpa using G)))⟩;obtain ⟨es,c,h⟩:=a0.obj;rw [h];simp
  ·have l:x.mI i=(true,{ x with v:=(compact x.v (ins x.ex i.dot)).1,ex:=(compact x.v (ins x.ex i.dot)).2,live:=fun d=>if d=i.dot then some i.key else x.live d,nl:=if (x.live i.dot).isSome then x.nl else x.nl+1 }):=by
    unfold aF.mI;rw [if_neg a5,if_neg (by rw [hh];simp),if_neg (by rw [hg];simp)]
   rw [l];refine ⟨_,by rw [ab.at.ak];rfl,_,ad.at.aD (by simp [bD]),_,ad.at.aD (by simp [bD]),ar.pq bh i.dot i.key fun rI a1 cr X=>?_⟩;obtain ⟨es,c,ci⟩:=Z.obj;have b2:=bl.mut X (bx bo (by rw [ci];simp));refine ⟨rfl,Fc++F,⟨bk,an,by simp only;omega,pc,lm,tm,ab.mut X (by simpa using a'),by simp [a2],b2.sub (fun y j=>by simp [j]),by simp [A],by simp [G],B,a1,aw.mut X (by simpa using B.symm)⟩,U,fin A X ?_,H.mut.trans (ao.trans (X.mono (by simpa using A)))⟩;obtain ⟨es,c,h⟩:=a1.obj;rw [h];simp
end
end
section
open Go.Am Go.aq Go.aB
theorem gA:CQ T aI rF 5 56:=⟨dw,qe,WZ,⟨_,_,Vg,rfl,rfl⟩,by decide,by decide⟩
section
variable {s:AS} {a:AV} {l:List eP} {g:FuncId} {cap:List AV} {P:eP->Bool}
theorem Lp (w:Sl bD 5 s a l) (H:l.length<=2 ^ 40) (hf:∀ i s',Ext s s'->aJ s'->aa Tryz.prog g ([.agg (bD i)]++cap) s' fun v s''=>v=.bool (P i)/\Ext s' s'') :
  aa Tryz.prog eM [a,.func g cap] s fun v s'=>Ext s s'/\∃ n:Int,v=.int .i64 n/\((n = -1/\l.any P=false)\/∃ k:Nat,n=k/\k<l.length/\(∃ x,l[k]? = some x/\P x=true)/\∀ j x,j<k->l[j]? = some x->P x=false):=by
 refine aa.pre fun z=>nR _ _ _ _ ⟨_,w.b_ dw _,fun m vs s'=>∃ i:Nat,vs=[.int .i64 (i:Nat)]/\i<=l.length/\m=l.length - i/\Ext s s'/\aJ s'/\(∀ j x,j<i->l[j]? = some x->P x=false),l.length,⟨0,rfl,by omega,rfl,Ext.refl _,z,by omega⟩,?_⟩;rintro m n s6 ⟨i,hi,I,rfl,c,A,b⟩;simp only [List.cons.injEq,AV.int.injEq,true_and,and_true] at hi;subst hi;refine af.dec (fun B=>?_) (fun C=>⟨c,-1,rfl,.inl ⟨rfl,?_⟩⟩)
 ·obtain ⟨x,d⟩:=cF (l:=l) (i:=i) (by omega);obtain ⟨la,o,D,F⟩:=w.ix (by decide) bp dw qe d;refine ⟨la,o,D _,_,(F _ c).2,?_⟩;refine aa.use (hf x s6 c A) ?_;rintro v G ⟨rfl,e⟩ p;refine ⟨_,rfl,af.mk (fun hb=>⟨c.trans e,_,rfl,.inr ⟨i,rfl,by omega,⟨x,d,hb⟩,b⟩⟩) (fun hb=>⟨l.length - (i+1),by omega,i+1,by rw [a_ (by omega)];rfl,by omega,rfl,c.trans e,p,fun j y hj r=>?_⟩)⟩;rcases Nat.lt_or_ge j i with h | h
  ·exact b j y h r
  ·obtain rfl:j=i:=by omega
   rw [d] at r;obtain rfl:=Option.some.inj r;exact hb
 ·rw [List.any_eq_false];intro x d;obtain ⟨j,hj⟩:=List.mem_iff_getElem?.1 d;have:j<l.length:=by
   rcases Nat.lt_or_ge j l.length with h | h
   ·exact h
   ·rw [List.getElem?_eq_none h] at hj;cases hj
  rw [b j x (by omega) hj];simp
theorem Ff (b:Sl bD 5 s a l) (c:l.length<=2 ^ 40) (hf:∀ i s',Ext s s'->aJ s'->aa Tryz.prog g ([.agg (bD i)]++cap) s' fun v s''=>v=.bool (P i)/\Ext s' s'') :
  aa Tryz.prog dV [a,.func g cap] s fun v s'=>v=.bool (l.any P)/\Ext s s':=by
 refine mg _ _ _ _ ?_;refine aa.use (Lp b c hf) ?_;rintro v s2 ⟨e,n,rfl,h⟩ _;refine ⟨_,rfl,?_,e⟩;congr 1;rcases h with ⟨rfl,h⟩ | ⟨k,rfl,j,⟨x,d,hp⟩,_⟩
 ·rw [h];decide
 ·rw [List.any_eq_true.2 ⟨x,List.mem_of_getElem? d,hp⟩,decide_eq_true_eq];omega
theorem Vu (i:eP) (s:AS):aa Tryz.prog mY [.agg (bD i)] s fun v s'=>v=.bool (!i.may)/\Ext s s':=by
 refine aa.pre fun b=>B5 _ _ _ ⟨rfl,aj.intro b rfl fun l s1 F=>⟨_,F.own.at.aD (by simp [bD]),?_⟩⟩;refine aa.use (Xl i _) ?_;rintro v s2 ⟨rfl,e⟩ _;exact ⟨_,rfl,rfl,F.ext.trans e⟩
end
def aF.ef (x:aF) (l:List eP):Bool×aF:=l.foldl (fun a i=>(a.1||(a.2.mI i).1,(a.2.mI i).2)) (false,x)
section
variable {F:List Nat} {s:AS} {p:Nat} {x:aF}
theorem jE.b_ {l n:Nat} {f:aO->Option Key} (h:jE s l f n):aL T cE (.map (some l)) s=some (.int .i64 (n:Nat)):=by
 obtain ⟨es,c,b,_,h3⟩:=h;rw [b.b_ vP,h3]
theorem nC.b_ {l n:Nat} {f:aO->Bool} (h:nC s l f n):aL T bP (.map (some l)) s=some (.int .i64 (n:Nat)):=by
 obtain ⟨es,c,b,_,h3⟩:=h;rw [b.b_ Nq,h3]
theorem TW (h:ic F s p x) {a:AV} {l:List eP} (Z:Sl bD 5 s a l) (B:∀ i∈l,i.may=true) (an:x.ex.length+l.length<=4096) (ao:x.nl+l.length<=1024) (ar:x.nl+x.nt+l.length<=4096) :
  aa Tryz.prog lK [.ptr (some (p,0)),a] s fun r s'=>r=.aQ [.bool (x.ef l).1,.int .i64 0]/\∃ F',ic F' s' p (x.ef l).2/\(∀ y∈F',y=p\/s.h y=none)/\(∀ y∈F',s'.h y≠none)/\bB [p] s s':=by
 refine EW _ _ _ _ ?_;refine aa.use (nD h) ?_;rintro v s2 ⟨rfl,rfl⟩ w2;refine ⟨_,rfl,af.no rfl ?_⟩;refine aa.use (Ff (P:=fun i=>!i.may) Z (by omega) fun i s' _ _=>Vu i s') ?_;rintro v s5 ⟨rfl,e5⟩ w5;have:l.any (fun i=>!i.may)=false:=by
  rw [List.any_eq_false];intro i hi;simp [B i hi]
 rw [this];refine ⟨_,rfl,af.no rfl ?_⟩;refine aa.use (Vq (h.ext e5)) ?_;rintro v s8 ⟨po,F0,rfl,hS,ab,ad,e8⟩ w8;have E8:=e5.trans e8;have hp:∃ cs,Am.Own s2 p cs/\cs.length=3:=by
  obtain ⟨_,_,_,pc,lm,tm,a,_⟩:=h;exact ⟨_,a,rfl⟩
 obtain ⟨cs,hp,J⟩:=hp;have G:∀ (i:Nat) y,l[i]? = some y->x.ef (l.take (i+1))=((x.ef (l.take i)).1||((x.ef (l.take i)).2.mI y).1,((x.ef (l.take i)).2.mI y).2):=by
  intro i y c;unfold aF.ef;rw [List.take_add_one,c,Option.toList_some,List.foldl_append];rfl
 refine ⟨_,rfl,fun vs s'=>vs=[.bool (x.ef l).1]/\aJ s'/\Ext s2 s'/\∃ F',ic F' s' po (x.ef l).2/\(∀ y∈F',s2.h y=none)/\(∀ y∈F',s'.h y≠none)/\(x.ef l).2.nl<=1024/\(x.ef l).2.nl+(x.ef l).2.nt<=4096,?_,?_⟩
 ·rintro b dJ ⟨hb,ae,K,F',j,d,w,aw,a0⟩;simp only [List.cons.injEq,AV.bool.injEq,and_true] at hb;subst hb;obtain ⟨ok,Hy,hlen,pc,lm,tm,a',a1,hc,L,M,O,H,Q⟩:=j;refine ⟨fun vs s'=>vs=[.bool false]/\s'=dJ,?_,_,by rw [a'.at.ak];rfl,_,H.b_,af.no (by rw [decide_eq_false_iff_not];omega) ⟨_,by rw [a'.at.ak];rfl,_,H.b_,_,by rw [a'.at.ak];rfl,_,Q.b_,?_,rfl⟩⟩
  ·rintro b fH ⟨hb,rfl⟩;simp only [List.cons.injEq,AV.bool.injEq,and_true] at hb;subst hb;have ho:=hp.ext K;refine af.no rfl ⟨_,a'.at.aD (by simp),⟨by simp,rfl⟩,bC.own ae ho (by simp [J]) fun gl P=>⟨rfl,p::F',⟨ok,Hy,hlen,pc,lm,tm,?_,by simp,?_,by simp [L],by simp [M],O,H.mut P.mut ?_,Q.mut P.mut ?_⟩,fun y c=>?_,fun y c=>?_,K.mut.trans P.mut⟩⟩
   ·have:=P.at;rw [dZ (by simp [J])] at this;exact this
   ·refine (hc.mut P.mut fun y c hm=>?_).sub fun y c=>by simp [c]
    obtain rfl:=List.mem_singleton.1 c;have:=d _ hm;rw [hp] at this;cases this
   ·intro hm;obtain rfl:=List.mem_singleton.1 hm;have:=d _ L;rw [hp] at this;cases this
   ·intro hm;obtain rfl:=List.mem_singleton.1 hm;have:=d _ M;rw [hp] at this;cases this
   ·rcases List.mem_cons.1 c with rfl | c
    ·exact .inl rfl
    ·exact .inr (d y c)
   ·by_cases e:y=p
    ·rw [e,P.at];simp
    ·rw [P.eq y e];rcases List.mem_cons.1 c with rfl | c
     ·exact absurd rfl e
     ·exact w y c
  ·rw [a_ (by omega),show decide (((x.ef l).2.nl:Int)+((x.ef l).2.nt:Int)>4096)=false from by rw [decide_eq_false_iff_not];omega]
 ·refine ⟨_,Z.b_ dw _,fun m vs s'=>∃ i:Nat,vs=[.bool (x.ef (l.take i)).1,.int .i64 (i:Nat)]/\i<=l.length/\m=l.length - i/\aJ s'/\Ext s2 s'/\(∃ F',ic F' s' po (x.ef (l.take i)).2/\(∀ y∈F',s2.h y=none)/\(∀ y∈F',s'.h y≠none))/\(x.ef (l.take i)).2.ex.length<=x.ex.length+i/\(x.ef (l.take i)).2.nl<=x.nl+i/\(x.ef (l.take i)).2.nl+(x.ef (l.take i)).2.nt<=x.nl+x.nt+i,l.length,⟨0,rfl,by omega,rfl,w8,E8,⟨F0,hS,fun y c=>e5.none (ab y c),ad⟩,by simp [aF.ef],by simp [aF.ef],by simp [aF.ef]⟩,?_⟩;rintro m b n a2 ⟨i,hi,h6,rfl,R,A,⟨F',j,d,w⟩,r1,r2,r3⟩;simp only [List.cons.injEq,AV.int.injEq,AV.bool.injEq,true_and,and_true] at hi;obtain ⟨rfl,rfl⟩:=hi;refine af.dec (fun O=>?_) (fun a3=>?_)
  ·obtain ⟨y,c⟩:=cF (l:=l) (i:=i) (by omega);obtain ⟨la,o,h8,h9⟩:=Z.ix (by decide) bp dw qe c;have C:y.dot.may=true:=by
    have:=B y (List.mem_of_getElem? c);simp only [eP.may,Bool.and_eq_true] at this;exact this.1
   refine ⟨la,o,h8 _,_,(h9 _ A).2,jK R rfl rfl rfl fun a4 uw k=>?_⟩;refine ⟨_,k.own.at.aD (by simp [bD]),?_⟩;have S:∀ z∈F',uw.h z≠none:=fun z hz hq=>w z hz (k.ext.none hq);have a5:=Vs (x.ef (l.take i)).2 y j.ok C (by omega);refine aa.use (Xm (j.ext k.ext) S y C (by omega)) ?_;rintro v rI ⟨rfl,Y,al,am,U,m2⟩ W;have I:=G i y c;have X:Ext s2 rI:=Ext.Vr (A.trans k.ext) d m2;refine ⟨_,_,rfl,af.no (by decide) ?_⟩;have D:∀ z∈Y,s2.h z=none:=fun z hz=>by
    rcases am z hz with h | h
    ·exact d z h
    ·exact (A.trans k.ext).none h
   have rest:ic Y rI po (x.ef (l.take (i+1))).2/\(x.ef (l.take (i+1))).2.ex.length<=x.ex.length+(i+1)/\(x.ef (l.take (i+1))).2.nl<=x.nl+(i+1)/\(x.ef (l.take (i+1))).2.nl+(x.ef (l.take (i+1))).2.nt<=x.nl+x.nt+(i+1):=by
    rw [I];exact ⟨al,by simp only;omega,by simp only;omega,by simp only;omega⟩
   refine af.mk (fun hb=>?_) (fun hb=>?_)
   ·exact ⟨l.length - (i+1),by omega,i+1,by rw [a_ (by omega),I,hb];rfl,by omega,rfl,W,X,⟨Y,rest.1,D,U⟩,rest.2⟩
   ·exact ⟨l.length - (i+1),by omega,i+1,by rw [a_ (by omega),I,hb];rfl,by omega,rfl,W,X,⟨Y,rest.1,D,U⟩,rest.2⟩
  ·obtain rfl:i=l.length:=by omega
   rw [List.take_length] at *;exact ⟨rfl,R,A,F',j,d,w,by omega,by omega⟩
end
/-! ### the live dots that something holds of -/
def aF.held (x:aF) (P:aO->Key->Bool) (d:aO):Bool:=match x.live d with
 | some k=>P d k
 | none=>false
section
variable {F:List Nat} {s:AS} {p:Nat} {x:aF} {g:FuncId} {cap:List AV} {P:aO->Key->Bool}
theorem FP (h:ic F s p x) (hn:x.nl<65536) (hf:∀ d k s',Ext s s'->aJ s'->aa Tryz.prog g ([.agg (aP d),.agg (fm k)]++cap) s' fun v s''=>v=.bool (P d k)/\Ext s' s'') :
  aa Tryz.prog fS [.ptr (some (p,0)),.func g cap] s fun v s'=>∃ l,aW aP 2 [] s s' v l/\ew l/\(∀ d,d∈l↔x.held P d=true)/\l.length<=x.nl:=by
 refine aa.pre fun hw=>Du _ _ _ _ ?_;obtain ⟨_,_,_,pc,lm,tm,a,_,_,_,_,_,H,_⟩:=id h;obtain ⟨es,c,hm,I,hl⟩:=id H;refine ⟨_,by rw [a.at.ak];rfl,Ns (by omega) hm fun v6 s7 l S h2 h3 h4 U=>?_⟩;have J:Ext s s7:=h4.1;have hd:=h4.YJ;refine ⟨_,hd.b_ bJ _,fun m vs s'=>∃ (i:Nat) (v:AV),vs=[v,.int .i64 (i:Nat)]/\i<=l.length/\m=l.length - i/\aJ s'/\aW aP 2 [] s7 s' v ((l.take i).filter (x.held P)),l.length,⟨0,_,rfl,by omega,rfl,U,by simpa using aW.nil⟩,?_⟩;rintro m K n W ⟨i,v',hi,h6,rfl,L,b⟩;simp only [List.cons.injEq,AV.int.injEq,true_and,and_true] at hi;obtain ⟨rfl,rfl⟩:=hi;refine af.dec (fun X=>?_) (fun Y=>?_)
 ·obtain ⟨d,M⟩:=cF (l:=l) (i:=i) (by omega);obtain ⟨la,o,Z,h9⟩:=hd.ix (by decide) br bJ kN M;have ht:(l.take (i+1)).filter (x.held P)=(l.take i).filter (x.held P)++if x.held P d=true then [d] else []:=by
   rw [List.take_add_one,M,List.filter_append,Option.toList_some];congr 1;cases A:x.held P d <;> simp [List.filter_cons,A]
  refine ⟨la,o,Z _,_,(h9 _ b.eo.ext).2,jK L rfl rfl rfl fun ab gw r=>?_⟩;have y:=J.trans (b.eo.ext.trans r.ext);have O:=a.ext y;obtain ⟨e,he,Q⟩:=(h2 d).1 (List.mem_of_getElem? M);have B:x.live d=some e.2.1:=by rw [<- I,<- Q];exact xo hm.nd he
  have z:dA T cE (.map (some lm)) (.agg (aP d)) false gw=some (.agg (fm e.2.1)):=by
   have:=(hm.ext y).find vP d false;rw [I,B] at this;exact this
  refine ⟨_,r.own.at.aD (by simp [aP]),_,by rw [O.at.ak];rfl,_,r.own.at.aD (by simp [aP]),_,z,?_⟩;refine aa.use (hf d e.2.1 gw y r.wf) ?_;rintro v ad ⟨rfl,C⟩ D;have w:x.held P d=P d e.2.1:=by simp [aF.held,B]
  have G:=b.step (r.ext.trans C);have ae:=List.length_filter_le (x.held P) (l.take i);have al:=List.length_take_le i l;refine ⟨_,rfl,af.mk (fun hb=>?_) (fun hb=>?_)⟩
  ·refine ⟨_,(r.own.ext C).at.aD (by simp [aP]),aW.iu jk br nB D G (by simp) d (by omega) fun v' s' g' w' _=>?_⟩;exact ⟨l.length - (i+1),by omega,i+1,v',by rw [a_ (by omega)];rfl,by omega,rfl,w',by rw [ht,w,if_pos hb];exact g'⟩
  ·exact ⟨l.length - (i+1),by omega,i+1,K,by rw [a_ (by omega)];rfl,by omega,rfl,D,by rw [ht,w,if_neg (by rw [hb];simp),List.append_nil];exact G⟩
 ·rw [List.take_of_length_le (by omega)] at b;refine ⟨l.filter (x.held P),⟨b.uQ,J.mut.trans b.eo,fun la R=>J.none (b.new la R)⟩,S.filter _,fun d=>?_,?_⟩
  ·rw [List.mem_filter,h2];constructor
   ·exact fun h=>h.2
   ·intro hd;refine ⟨?_,hd⟩;unfold aF.held at hd;cases A:x.live d with
    | none=>rw [A] at hd;cases hd
    | some k =>
     rw [<- I] at A;obtain ⟨j,n,hj⟩:=qW A;exact ⟨_,List.mem_of_getElem? hj,rfl⟩
  ·have:=List.length_filter_le (x.held P) l;omega
end
/-! ### items that are gone -/
def ee (d:aO):eP:=⟨d,⟨[],[]⟩,true⟩
theorem Hz (d:aO):aY T rF [(0,.agg (aP d)),(2,.bool true)]=some (.agg (bD (ee d))):=by kernel_rfl
theorem Qt {s:AS} {a:AV} {l:List aO} (e:IB s a l) (B:l.length<=2 ^ 29) :
  aa Tryz.prog fK [a] s fun v s'=>aW bD 5 [] s s' v (l.map ee):=by
 refine aa.pre fun k=>Lc _ _ _ ⟨_,e.b_ bJ _,fun m vs s'=>∃ (i:Nat) (v:AV),vs=[v,.int .i64 (i:Nat)]/\i<=l.length/\m=l.length - i/\aJ s'/\aW bD 5 [] s s' v ((l.take i).map ee),l.length,⟨0,_,rfl,by omega,rfl,k,by simpa using aW.nil⟩,?_⟩;rintro m C n s7 ⟨i,v',hi,D,rfl,p,c⟩;simp only [List.cons.injEq,AV.int.injEq,true_and,and_true] at hi;obtain ⟨rfl,rfl⟩:=hi;refine af.dec (fun r=>?_) (fun w=>?_)
 ·obtain ⟨d,j⟩:=cF (l:=l) (i:=i) (by omega);obtain ⟨la,o,x,y⟩:=e.ix (by decide) br bJ kN j;have ht:(l.take (i+1)).map ee=(l.take i).map ee++[ee d]:=by
   rw [List.take_add_one,j,List.map_append];rfl
  refine ⟨la,o,x _,_,(y _ c.eo.ext).2,jK p rfl rfl rfl fun z bQ b=>?_⟩;refine ⟨_,b.own.at.aD (by simp [aP]),_,Hz d,aW.iu gA bp kJ b.wf (c.step b.ext) (by simp) (ee d) (by simp;omega) fun v' s' A w' _=>?_⟩;exact ⟨l.length - (i+1),by omega,i+1,v',by rw [a_ (by omega)];rfl,by omega,rfl,w',by rw [ht];exact A⟩
 ·rw [List.take_of_length_le (by omega)] at c;exact c
end
section
open Go.Am Go.aq Go.aB
def aF.zero:aF:=⟨dx,[],fun _=>none,fun _=>false,0,0⟩
theorem RL (s:AS):aa Tryz.prog CZ [] s fun r s'=>∃ p,r=.ptr (some (p,0))/\s.h p=none/\vM s s' p dx []/\Ext s s':=by
 refine aa.pre fun b=>Rx _ _ ?_;have hb:aY T oK [(2,.bool true)]=some (.agg (dx.map (.int .u64)++[.slc none 0 0 true,.bool true])):=by kernel_rfl
 exact ⟨_,hb,rfl,aj.intro b rfl fun p s1 F=>⟨p,rfl,F.no,⟨rfl,_,F.own,rfl,bg.nil,by simp [ax]⟩,F.ext⟩⟩
theorem Xn (s:AS):aa Tryz.prog xA [] s fun r s'=>∃ p F,r=.ptr (some (p,0))/\ic F s' p aF.zero/\(∀ y∈F,s.h y=none)/\(∀ y∈F,s'.h y≠none)/\Ext s s':=by
 refine aa.pre fun D=>Nk _ _ ?_;refine aa.use (RL s) ?_;rintro v s2 ⟨pc,rfl,n,C,e2⟩ w2;refine ⟨_,rfl,aj.intro w2 rfl fun lm G e=>aj.intro e.wf rfl fun tm s7 i=>⟨_,Ju _ _ _,rfl,aj.intro i.wf rfl fun p k b=>?_⟩⟩;obtain ⟨Fc,o,w,x⟩:=C.Y1 n;have j:=e.ext.trans (i.ext.trans b.ext);have z:=i.ext.trans b.ext;have l:k.h lm=some (.map [] 0 false):=z.1 _ _ e.at;have m:k.h tm=some (.map [] 0 false):=b.ext.1 _ _ i.at;have A:lm≠tm:=by
  rintro rfl;have:=i.no;rw [e.at] at this;cases this
 refine ⟨p,p::lm::tm::Fc,rfl,⟨Nc.zero,(fun y c=>by cases c),by simp [aF.zero],pc,lm,tm,b.own,by simp,(o.mut (L:=[]) j.mut (by simp)).sub (fun y c=>by simp [c]),by simp,by simp,A,⟨[],0,eR.new l,fun d=>rfl,rfl⟩,⟨[],0,eR.new m,fun d=>rfl,rfl⟩⟩,?_,?_,e2.trans j⟩
 ·intro y c;simp only [List.mem_cons] at c;rcases c with rfl | rfl | rfl | c
  ·exact e2.none (e.ext.none (i.ext.none b.no))
  ·exact e2.none e.no
  ·exact e2.none (e.ext.none i.no)
  ·exact w y c
 ·intro y c;simp only [List.mem_cons] at c;rcases c with rfl | rfl | rfl | c
  ·rw [b.at];simp
  ·rw [l];simp
  ·rw [m];simp
  ·cases B:s2.h y with
   | none=>exact absurd B (x y c)
   | some ob=>rw [j.1 y ob B];simp
theorem HA {s s':AS} {p:Nat} {cs:List AV} {v:AV} {l:List eP} (hp:s.h p=some (.cells cs 0 false)) (d:∀ c∈cs,∀ n,c≠.int .i64 n) (hs:Sl bD 5 s v l) (m:bB [p] s s'):Sl bD 5 s' v l:=by
 refine Sl.mut hs m bp (by decide) fun q j C b x o i c e k=>?_;obtain rfl:=List.mem_singleton.1 j;obtain ⟨g,ro,b⟩:=b;rw [hp] at b;simp only [Option.some.injEq,AO.cells.injEq] at b;obtain ⟨rfl,_⟩:=b;simp only [bD,List.getElem?_cons_zero,Option.some.injEq] at e;exact d c (List.mem_of_getElem? k) _ e.symm
section
variable {F:List Nat} {s s':AS} {p:Nat} {x:aF} {k:Key}
theorem ic.Qu {v:AV} {l:List eP} (h:ic F s p x) (hs:Sl bD 5 s v l) (m:bB [p] s s'):Sl bD 5 s' v l:=by
 obtain ⟨_,_,_,pc,lm,tm,a,_⟩:=h;refine HA a (fun c b n=>?_) hs m;simp only [List.mem_cons,List.not_mem_nil,or_false] at b;rcases b with rfl | rfl | rfl <;> simp
theorem B9 (d:aO):x.held (fun _ y=>decide (y=k)) d=true↔x.live d=some k:=by
 unfold aF.held;cases x.live d with
 | none=>simp
 | some y=>simp
theorem Vv {b:Nat} (d:aO) (y:Key) (j:At s b (fm k)):aa Tryz.prog mX ([.agg (aP d),.agg (fm y)]++[.ptr (some (b,0))]) s fun v s'=>v=.bool (decide (y=k))/\Ext s s':=by
 refine aa.pre fun l=>BZ _ _ _ _ _ ⟨rfl,aj.intro l rfl fun l1 s2 c=>⟨rfl,aj.intro c.wf rfl fun l3 s4 e=>?_⟩⟩;have i:=c.ext.trans e.ext;exact ⟨_,e.own.at.aD (by simp [fm]),_,(j.ext i).aD (by simp [fm]),_,Hx _ _,rfl,i⟩
theorem Pv {b:Nat} (d:aO) (y:Key) (j:At s b (fm k)):aa Tryz.prog jY ([.agg (aP d),.agg (fm y)]++[.ptr (some (b,0))]) s fun v s'=>v=.bool (decide (y=k))/\Ext s s':=by
 refine aa.pre fun l=>ya _ _ _ _ _ ⟨rfl,aj.intro l rfl fun l1 s2 c=>⟨rfl,aj.intro c.wf rfl fun l3 s4 e=>?_⟩⟩;have i:=c.ext.trans e.ext;exact ⟨_,e.own.at.aD (by simp [fm]),_,(j.ext i).aD (by simp [fm]),_,Hx _ _,rfl,i⟩
theorem Vx {b:Nat} (d:aO) (y:Key) (j:At s b (fm k)):aa Tryz.prog mW ([.agg (aP d),.agg (fm y)]++[.ptr (some (b,0))]) s fun v s'=>v=.bool (decide (y=k))/\Ext s s':=by
 refine aa.pre fun l=>B8 _ _ _ _ _ ⟨rfl,aj.intro l rfl fun l1 s2 c=>⟨rfl,aj.intro c.wf rfl fun l3 s4 e=>?_⟩⟩;have i:=c.ext.trans e.ext;exact ⟨_,e.own.at.aD (by simp [fm]),_,(j.ext i).aD (by simp [fm]),_,Hx _ _,rfl,i⟩
theorem Xo (h:ic F s p x) (i:x.nl<65536) (k:Key):aa Tryz.prog p0 [.ptr (some (p,0)),.agg (fm k)] s fun r s'=>(∃ b,r=.bool b/\(b=true↔∃ d,x.live d=some k))/\Ext s s':=by
 refine aa.pre fun j=>EZ _ _ _ _ ⟨rfl,aj.intro j rfl fun l1 s2 c=>?_⟩;refine aa.use (nD (h.ext c.ext)) ?_;rintro v s4 ⟨rfl,rfl⟩ m;refine ⟨_,rfl,af.yes rfl ?_⟩;refine aa.use (FP (P:=fun _ y=>decide (y=k)) (h.ext c.ext) i fun d y s' e _=>Vx d y (c.own.at.ext e)) ?_;rintro v s7 ⟨l,g,_,hm,_⟩ n;refine ⟨_,(g.sl br).b_ bJ _,⟨_,rfl,?_⟩,c.ext.trans g.eo.ext⟩;rw [decide_eq_true_eq];constructor
 ·intro o;obtain ⟨d,hd⟩:=List.exists_mem_of_length_pos (l:=l) (by omega);exact ⟨d,(B9 d).1 ((hm d).1 hd)⟩
 ·rintro ⟨d,hd⟩;have:=List.length_pos_of_mem ((hm d).2 ((B9 d).2 hd));omega
theorem Xp (h:ic F s p x):aa Tryz.prog jc [.ptr (some (p,0))] s fun r s'=>∃ q,r=.ptr (some (q,0))/\s.h q=none/\vM s s' q x.v x.ex/\Ext s s':=by
 refine E3 _ _ _ ?_;refine aa.use (nD h) ?_;rintro v s2 ⟨rfl,rfl⟩ w2;have b:=h.len;obtain ⟨ok,Hy,hlen,pc,lm,tm,a,c,d,_⟩:=h;refine ⟨_,rfl,af.no rfl ⟨_,by rw [a.at.ak];rfl,?_⟩⟩;refine aa.use (Hs d.at (by omega)) ?_;rintro v s8 ⟨q,rfl,i,g,e⟩ _;exact ⟨_,rfl,q,rfl,i,g,e⟩
structure nE (x:aF) (k:Key) (l:List aO):Prop where
 So:ew l
 mem:∀ d,d∈l↔x.live d=some k
 len:l.length<=x.nl
theorem uE {d:aO} (h:d.may=true):(ee d).may=true:=by simp [eP.may,ee,h]
theorem RM (h:ic F s p x) (k:Key) (j:∀ d,(x.live d).isSome=true->d.may=true) (I:x.ex.length+x.nl<=4096) (J:x.nl+x.nl<=1024) (K:x.nl+x.nt+x.nl<=4096) :
  aa Tryz.prog lT [.ptr (some (p,0)),.agg (fm k)] s fun r s'=>(k.may=false/\r=.aQ [.slc none 0 0 true,.int .i64 2]/\Ext s s') \/
   (k.may=true/\∃ v l,nE x k l/\r=.aQ [v,.int .i64 0]/\Sl bD 5 s' v (l.map ee)/\∃ F',ic F' s' p (x.ef (l.map ee)).2/\(∀ y∈F',y=p\/s.h y=none)/\(∀ y∈F',s'.h y≠none)/\bB [p] s s'):=by
 refine aa.pre fun L=>z_ _ _ _ _ ⟨rfl,aj.intro L rfl fun l1 s2 z=>?_⟩;have h2:=h.ext z.ext;refine aa.use (nD h2) ?_;rintro v s4 ⟨rfl,rfl⟩ Y;refine ⟨_,rfl,af.no rfl ⟨_,z.own.at.aD (by simp [fm]),?_⟩⟩;refine aa.use (Dz k _) ?_;rintro v s8 ⟨rfl,H⟩ Z;have A:=z.ext.trans H;refine ⟨_,rfl,af.mk (fun hb=>.inl ⟨by simpa using hb,rfl,A⟩) (fun hb=>?_)⟩;have M:=z.own.at.ext H;have O:=h.ext A;refine aa.use (FP (P:=fun _ y=>decide (y=k)) O (by omega) fun d y s' e _=>Pv d y (M.ext e)) ?_;rintro v Q ⟨l,g,m,hm,B⟩ R;have kd:nE x k l:=⟨m,fun d=>by rw [hm,B9],B⟩;refine aa.use (Qt (g.sl br) (by omega)) ?_;rintro C bQ n S;have c:=A.trans (g.eo.ext.trans n.eo.ext);have o:=h.ext c;have b:=n.sl bp;refine aa.use (TW o b (fun i hi=>?_) (by simp;omega) (by simp;omega) (by simp;omega)) ?_
 ·obtain ⟨d,hd,rfl⟩:=List.mem_map.1 hi;exact uE (j d (by rw [(kd.mem d).1 hd];rfl))
 rintro v fH ⟨rfl,F',U,D,G,w⟩ W;refine ⟨_,_,rfl,.inr ⟨by simpa using hb,C,l,kd,rfl,o.Qu b w,F',U,fun y X=>?_,G,c.mut.trans w⟩⟩;rcases D y X with h | h
 ·exact .inl h
 ·exact .inr (c.none h)
theorem HB {s:AS} (d:aJ s) {l0:Nat} {i:eP} (h0:At s l0 (bD i)) {v:AV} {l:List eP} (p:Sl bD 5 s v l) (hb:l.length<=2 ^ 29) {K:AV->AS->Prop} (j:∀ v' s',Sl bD 5 s' v' (i::l)->aJ s'->Ext s s'->K v' s'):ig (aG T aI aI (.slc (some (l0,0)) 1 1 true) v s) K:=by
 obtain ⟨b,hlen⟩:=bR.src gA p;have e:=kG gA (base:=some (l0,0)) (len:=1) (cap:=1) (ex:=true) dw hlen b (by rw [dY bp]) (by omega);have k:Sl bD 5 s (.slc (some (l0,0)) 1 1 true) [i]:=bR.mk h0 (by simp [bD]) (by simp [bD]);by_cases m:l=[]
 ·subst m;rw [if_pos (by simp)] at e;simp only [List.flatMap_nil,if_true,List.length_nil,Nat.add_zero] at e;exact ⟨_,_,e,j _ _ k d (Ext.refl _)⟩
 ·have n:0<l.length:=List.length_pos_iff.2 m;rw [if_neg (by omega)] at e;have c:=(bR.src gA k).1;simp only [List.length_cons,List.length_nil,Nat.zero_add] at c;rw [c] at e;simp only [Option.bind_some,if_true] at e;rw [show 1+l.length=(i::l).length by simp;omega] at e;have Fr:=d.new (o:=.cells ([i].flatMap bD++l.flatMap bD) 5 false) rfl;refine ⟨_,_,e,j _ _ ?_ Fr.wf Fr.ext⟩;refine bR.mk ⟨_,_,Fr.at⟩ ?_ ?_ ?_
  ·exact dY bp _
  ·rw [List.drop_zero,List.take_of_length_le]
   ·simp
   ·simp [dY bp,bD];omega
  ·exact Nat.le_refl _
theorem HC (d:aO) (k:Key):aY T rF [(0,.agg (aP d)),(1,.agg (fm k))]=some (.agg (bD ⟨d,k,false⟩)):=by kernel_rfl
theorem Xq (h:ic F s p x) (k:Key) (d:aO) (C:∀ d,(x.live d).isSome=true->d.may=true) (a2:x.ex.length+x.nl<4096) (a3:x.nl+x.nl<1024) (a4:x.nl+x.nt+x.nl<4096) :
  aa Tryz.prog dz [.ptr (some (p,0)),.agg (fm k),.agg (aP d)] s fun r s'=>(¬ (k.may=true/\d.may=true/\fG x.v x.ex d=false)/\r=.aQ [.slc none 0 0 true,.int .i64 2]/\Ext s s') \/
   ((k.may=true/\d.may=true/\fG x.v x.ex d=false)/\∃ v l,nE x k l/\r=.aQ [v,.int .i64 0]/\Sl bD 5 s' v (⟨d,k,false⟩::l.map ee)/\∃ F',ic F' s' p (x.ef (⟨d,k,false⟩::l.map ee)).2/\(∀ y∈F',y=p\/s.h y=none)/\(∀ y∈F',s'.h y≠none)/\bB [p] s s'):=by
 refine aa.pre fun hw=>ET _ _ _ _ _ ⟨rfl,aj.intro hw rfl fun l1 s2 O=>⟨rfl,aj.intro O.wf rfl fun l3 s4 Q=>?_⟩⟩;have E4:=O.ext.trans Q.ext;have h4:=h.ext E4;have R:At s4 l1 (fm k):=(O.own.ext Q.ext).at;have d4:At s4 l3 (aP d):=Q.own.at;refine aa.use (nD h4) ?_;rintro v s6 ⟨rfl,rfl⟩ w6;refine ⟨_,rfl,af.no rfl ⟨fun vs s'=>vs=[.bool !(k.may&&d.may&&!fG x.v x.ex d)]/\Ext s6 s'/\aJ s',?_,?_⟩⟩
 ·rintro b a5 ⟨hb,o,a6⟩;simp only [List.cons.injEq,AV.bool.injEq,and_true] at hb;subst hb;have w:=E4.trans o;refine af.mk (fun hb=>.inl ⟨?_,rfl,w⟩) (fun hb=>?_)
  ·rintro ⟨a,b,c⟩;rw [a,b,c] at hb;cases hb
  have D:k.may=true/\d.may=true/\fG x.v x.ex d=false:=by
   simpa [Bool.and_eq_true,and_assoc] using hb
  have S:=h.ext w;refine aa.use (FP (P:=fun _ y=>decide (y=k)) S (by omega) fun d y s' e _=>Vv d y ((R.ext o).ext e)) ?_;rintro v11 dJ ⟨l,g,G,hm,U⟩ a7;have kd:nE x k l:=⟨G,fun d=>by rw [hm,B9],U⟩;have H:=o.trans g.eo.ext;have I:=g.sl br;refine ⟨fun q _ v s'=>(q=3->∃ l,v=.slc (some (l,0)) 1 1 true/\At s' l (bD ⟨d,k,false⟩))/\(q=5->Sl bD 5 s' v (l.map ee)),fun q _ v=>q=3->∃ l,v=.slc (some (l,0)) 1 1 true,?_,_,(d4.ext H).aD (by simp [aP]),_,(R.ext H).aD (by simp [fm]),_,HC d k,fun a8 a9 W _=>?_,⟨.slc (some (0,0)) 1 1 true,fun _=>⟨0,rfl⟩⟩,fun v20 a1=>⟨fun gl X a' _=>?_,⟨.undef,(fun h=>by cases h)⟩,fun ba _ en Y Z hS=>?_⟩⟩
  ·rintro q ks v s s' e ⟨h1,h2⟩;refine ⟨fun hq=>?_,fun hq=>(h2 hq).ext e⟩;obtain ⟨l,a,b⟩:=h1 hq;exact ⟨l,a,b.ext e⟩
  ·exact ⟨_,kY gA (bp _) (kJ _),aj.intro W rfl fun z iF J=>⟨J.ext,⟨(fun _=>⟨z,rfl,J.own.at⟩),(fun h=>by cases h)⟩,fun _=>⟨z,rfl⟩⟩⟩
  ·refine (Qt (I.ext X) (by omega)).mono ?_;rintro bb uR K;exact ⟨K.eo.ext,⟨(fun h=>by cases h),fun _=>K.sl bp⟩,(fun h=>by cases h)⟩
  ·obtain ⟨z,rfl,hi⟩:=hS.1.1 rfl;have hg:=hS.2.1.2 rfl;refine HB Z hi hg (by simp;omega) fun ab bc n bd ad=>?_;have A:=w.trans (g.eo.ext.trans (Y.trans ad));have L:=h.ext A;refine aa.use (TW L n (fun i hi=>?_) (by simp;omega) (by simp;omega) (by simp;omega)) ?_
   ·rcases List.mem_cons.1 hi with rfl | hi
    ·simp [eP.may,D]
    ·obtain ⟨d,hd,rfl⟩:=List.mem_map.1 hi;exact uE (C d (by rw [(kd.mem d).1 hd];rfl))
   rintro v be ⟨rfl,F',ae,al,am,M⟩ bh;refine ⟨_,_,rfl,af.no (by decide) (.inr ⟨D,ab,l,kd,rfl,L.Qu n M,F',ae,fun y hy=>?_,am,A.mut.trans M⟩)⟩;rcases al y hy with h | h
   ·exact .inl h
   ·exact .inr (A.none h)
 ·refine ⟨_,R.aD (by simp [fm]),?_⟩;refine aa.use (Dz k _) ?_;rintro v bi ⟨rfl,B⟩ an;refine ⟨_,rfl,af.mk (fun hb=>⟨by simp only [Bool.not_eq_true'] at hb;rw [hb];rfl,B,an⟩) (fun hb=>⟨_,(d4.ext B).aD (by simp [aP]),?_⟩)⟩;simp only [Bool.not_eq_false'] at hb;refine aa.use (rP d _) ?_;rintro v bj ⟨rfl,ao⟩ ar;have j:=B.trans ao;refine ⟨_,rfl,af.mk (fun m=>⟨by simp only [Bool.not_eq_true'] at m;rw [hb,m];rfl,j,ar⟩) (fun m=>?_)⟩;simp only [Bool.not_eq_false'] at m;obtain ⟨ok,Hy,hlen,pc,lm,tm,a,_,hc,_⟩:=h4.ext j;refine ⟨_,by rw [a.at.ak];rfl,_,(d4.ext j).aD (by simp [aP]),?_⟩;refine aa.use (z6 hc.at ok.r (by omega) d) ?_;rintro v uw ⟨rfl,aw⟩ a0;exact ⟨_,rfl,by rw [hb,m];simp,j.trans aw,a0⟩
end
end
section
open Go.Am Go.aq Go.aB
section
variable {m:Nat} {es:List (aO×Key×Nat)} {c:Nat} {ro:Bool} {s:AS}
end
section
variable {F:List Nat} {s s':AS} {p:Nat} {x:aF}
end
end
section
open Go.Am Go.aq Go.aB
def aF.has (x:aF) (d:aO):Bool:=fG x.v x.ex d
theorem aF.qL {x:aF} {d:aO} (h:x.has d=true):d.may=true:=by
 simp only [aF.has,fG,Bool.and_eq_true] at h;exact h.1
def aF.keeps (x:aF) (d:aO):Prop:=d∈x.ex\/(x.live d).isSome=true\/x.rS d=true
structure mJ (x:aF) (B:Nat):Prop where
 ok:Nc x.v x.ex
 Hy:TP x.v x.ex
 lv:∀ d k,x.live d=some k->x.has d=true/\k.may=true
 tb:∀ d,x.rS d=true->x.has d=true/\x.live d=none
 sz:∃ U:List aO,U.length<=B/\∀ d,x.keeps d->d∈U
theorem mJ.zero:mJ aF.zero 0:=⟨Nc.zero,(fun y b=>by cases b),(fun d k h=>by cases h),(fun d h=>by cases h),[],by simp,fun d h=>by
  rcases h with h | h | h
  ·cases h
  ·cases h
  ·cases h⟩
theorem mJ.mono {x:aF} {B B':Nat} (h:mJ x B) (hb:B<=B'):mJ x B':=by
 obtain ⟨a,b,c,d,U,e,f⟩:=h;exact ⟨a,b,c,d,U,by omega,f⟩
section
variable {x:aF} {B:Nat} {i:eP}
theorem Qv {v:List Int} {ex:List aO} {d:aO} (h:fG v ex d=false):z7 v ex d=compact v (ins ex d):=by simp [z7,h]
theorem B_ (h:mJ x B) (hi:i.dot.may=true) (d:aO):(x.mI i).2.has d=(x.has d||decide (d=i.dot)):=by
 unfold aF.mI;split
 ·rename_i m;simp only [Bool.and_eq_true] at m;obtain ⟨k,n⟩:=Option.isSome_iff_exists.1 m.1;have:=(h.lv _ _ n).1;by_cases e:d=i.dot
  ·subst e;simp only [aF.has] at this ⊢;simp [this]
  ·simp [aF.has,e]
 ·split
  ·rename_i c;by_cases e:d=i.dot
   ·subst e;simp [aF.has,c]
   ·simp [aF.has,e]
  ·rename_i c;have j:fG x.v x.ex i.dot=false:=by simpa using c
   have key:fG (compact x.v (ins x.ex i.dot)).1 (compact x.v (ins x.ex i.dot)).2 d=(fG x.v x.ex d||decide (d=i.dot)):=by
    have:=Nh h.ok hi d;rw [Qv j] at this;cases l:fG (compact x.v (ins x.ex i.dot)).1 (compact x.v (ins x.ex i.dot)).2 d with
    | true=>rcases this.1 l with h | h <;> simp [h]
    | false =>
     cases b:(fG x.v x.ex d||decide (d=i.dot)) with
     | false=>rfl
     | true =>
      simp only [Bool.or_eq_true,decide_eq_true_eq] at b;rw [this.2 b] at l;cases l
   split
   ·exact key
   ·exact key
theorem rT (h:mJ x B) (d:aO):(x.mI i).2.live d=if d=i.dot then (if i.gone then none else if x.has d then x.live d else some i.key) else x.live d:=by
 unfold aF.mI;split
 ·rename_i c;simp only [Bool.and_eq_true] at c;simp [c.2]
 ·rename_i c;split
  ·rename_i l;by_cases e:d=i.dot
   ·subst e;cases j:i.gone with
    | true =>
     rw [j,Bool.and_true] at c;simp only [if_true];simpa using c
    | false=>simp [aF.has,l]
   ·simp [e]
  ·rename_i l;have b:x.live i.dot=none:=by
    cases m:x.live i.dot with
    | none=>rfl
    | some k=>exact absurd (h.lv _ _ m).1 l
   split
   ·rename_i j;by_cases e:d=i.dot
    ·subst e;simp [j,b]
    ·simp [e]
   ·rename_i j;by_cases e:d=i.dot
    ·subst e;simp [j,aF.has,l]
    ·simp [e]
theorem Ca (h:mJ x B) (d:aO):(x.mI i).2.rS d=(x.rS d||(decide (d=i.dot)&&i.gone&&((x.live d).isSome||!x.has d))):=by
 unfold aF.mI;split
 ·rename_i b;simp only [Bool.and_eq_true] at b;by_cases e:d=i.dot
  ·subst e;simp [b.1,b.2]
  ·simp [e]
 ·rename_i b;split
  ·rename_i j;by_cases e:d=i.dot
   ·subst e;have:((x.live i.dot).isSome||!x.has i.dot)=(x.live i.dot).isSome:=by simp [aF.has,j]
    rw [this];cases c:i.gone with
    | true=>rw [c,Bool.and_true] at b;simp [b]
    | false=>simp
   ·simp [e]
  ·rename_i j;have k:x.has i.dot=false:=by simpa [aF.has] using j
   split
   ·rename_i c;by_cases e:d=i.dot
    ·subst e;simp [c,k]
    ·simp [e]
   ·rename_i c;simp [c]
theorem Vy (h:mJ x B):(x.mI i).1=(((x.live i.dot).isSome&&i.gone)||!x.has i.dot):=by
 unfold aF.mI;split
 ·rename_i b;simp [b]
 ·rename_i b;have c:((x.live i.dot).isSome&&i.gone)=false:=by simpa using b
  rw [c];split
  ·rename_i d;simp [aF.has,d]
  ·rename_i d;split <;> simp [aF.has,d]
theorem vQ (h:mJ x B) (hi:i.may=true):mJ (x.mI i).2 (if x.has i.dot then B else B+1):=by
 have b:i.dot.may=true:=by simp only [eP.may,Bool.and_eq_true] at hi;exact hi.1
 have j:Nc (x.mI i).2.v (x.mI i).2.ex/\TP (x.mI i).2.v (x.mI i).2.ex:=by
  unfold aF.mI;split
  ·exact ⟨h.ok,h.Hy⟩
  ·split
   ·exact ⟨h.ok,h.Hy⟩
   ·rename_i c;have m:fG x.v x.ex i.dot=false:=by simpa using c
    have n:=h.ok.add b;have h2:=TP.add h.ok h.Hy b;rw [Qv m] at n h2;split <;> exact ⟨n,h2⟩
 refine ⟨j.1,j.2,fun d k hd=>?_,fun d hd=>?_,?_⟩
 ·rw [rT h] at hd;rw [B_ h b];by_cases e:d=i.dot
  ·subst e;rw [if_pos rfl] at hd;refine ⟨by simp,?_⟩;split at hd
   ·cases hd
   ·split at hd
    ·exact (h.lv _ _ hd).2
    ·rename_i l _;simp only [Option.some.injEq] at hd;subst hd;simp only [eP.may,Bool.and_eq_true] at hi;have:=hi.2;rw [if_neg l] at this;exact this
  ·rw [if_neg e] at hd;have:=h.lv _ _ hd;exact ⟨by simp [this.1],this.2⟩
 ·rw [Ca h] at hd;rw [B_ h b,rT h];simp only [Bool.or_eq_true,Bool.and_eq_true,decide_eq_true_eq] at hd;rcases hd with hd | ⟨⟨rfl,l⟩,_⟩
  ·have:=h.tb _ hd;refine ⟨by simp [this.1],?_⟩;by_cases e:d=i.dot
   ·subst e;simp [this.1,this.2]
   ·rw [if_neg e];exact this.2
  ·refine ⟨by simp,by simp [l]⟩
 ·obtain ⟨U,p,hm⟩:=h.sz;have o:∀ d,((x.mI i).2.live d).isSome=true->(x.live d).isSome=true\/(d=i.dot/\x.has i.dot=false):=by
   intro d hd;rw [rT h] at hd;by_cases e:d=i.dot
   ·subst e;rw [if_pos rfl] at hd;split at hd
    ·cases hd
    ·split at hd
     ·exact .inl hd
     ·rename_i r;exact .inr ⟨rfl,by simpa using r⟩
   ·rw [if_neg e] at hd;exact .inl hd
  have ht:∀ d,(x.mI i).2.rS d=true->x.keeps d\/(d=i.dot/\x.has i.dot=false):=by
   intro d hd;rw [Ca h] at hd;simp only [Bool.or_eq_true,Bool.and_eq_true,decide_eq_true_eq] at hd;rcases hd with hd | ⟨⟨rfl,l⟩,hd | hd⟩
   ·exact .inl (.inr (.inr hd))
   ·exact .inl (.inr (.inl hd))
   ·exact .inr ⟨rfl,by simpa using hd⟩
  by_cases c:x.has i.dot=true
  ·rw [if_pos c];have hex:(x.mI i).2.ex=x.ex:=by
    unfold aF.mI;split
    ·rfl
    ·rw [if_pos (show fG x.v x.ex i.dot=true from c)]
   refine ⟨U,p,fun d hd=>?_⟩;rcases hd with hd | hd | hd
   ·rw [hex] at hd;exact hm _ (.inl hd)
   ·rcases o d hd with hd | ⟨_,hd⟩
    ·exact hm _ (.inr (.inl hd))
    ·rw [c] at hd;cases hd
   ·rcases ht d hd with hd | ⟨_,hd⟩
    ·exact hm _ hd
    ·rw [c] at hd;cases hd
  ·rw [if_neg c];have hex:∀ d∈(x.mI i).2.ex,d=i.dot\/d∈x.ex:=by
    intro d hd;unfold aF.mI at hd;split at hd
    ·exact .inr hd
    ·split at hd
     ·exact .inr hd
     ·have:d∈(compact x.v (ins x.ex i.dot)).2:=by split at hd <;> exact hd
      exact vj.1 ((su _ _).subset this)
   refine ⟨i.dot::U,by simp;omega,fun d hd=>?_⟩;rcases hd with hd | hd | hd
   ·rcases hex d hd with rfl | hd
    ·simp
    ·simp [hm _ (.inl hd)]
   ·rcases o d hd with hd | ⟨rfl,_⟩
    ·simp [hm _ (.inr (.inl hd))]
    ·simp
   ·rcases ht d hd with hd | ⟨rfl,_⟩
    ·simp [hm _ hd]
    ·simp
end
theorem Nu (x:aF):x.ef []=(false,x):=rfl
theorem HD:∀ (l:List eP) (b:Bool) (x:aF),l.foldl (fun a i=>(a.1||(a.2.mI i).1,(a.2.mI i).2)) (b,x)=(b||(x.ef l).1,(x.ef l).2)
 | [],b,x=>by simp [aF.ef]
 | i::l,b,x=>by
  unfold aF.ef;simp only [List.foldl_cons];rw [HD l,HD l (false||_)];simp [Bool.or_assoc]
theorem q7 (x:aF) (i:eP) (l:List eP):x.ef (i::l)=((x.mI i).1||((x.mI i).2.ef l).1,((x.mI i).2.ef l).2):=by
 conv=>lhs;unfold aF.ef
 rw [List.foldl_cons,HD];simp
theorem mJ.ef:∀ (l:List eP) {x:aF} {B:Nat},mJ x B->(∀ i∈l,i.may=true)->mJ (x.ef l).2 (B+l.length)
 | [],x,B,h,_=>h
 | i::l,x,B,h,b=>by
  rw [q7];have c:=(vQ h (b i (by simp))).mono (B':=B+1) (by split <;> omega);have:=mJ.ef l c fun j hj=>b j (by simp [hj]);exact this.mono (by simp;omega)
theorem mJ.Nv:∀ (l:List eP) {x:aF} {B:Nat},mJ x B->(∀ i∈l,i.may=true)->(∀ i∈l,x.has i.dot=true)->mJ (x.ef l).2 B
 | [],x,B,h,_,_=>h
 | i::l,x,B,h,d,b=>by
  rw [q7];have e:=vQ h (d i (by simp));rw [if_pos (b i (by simp))] at e;have c:i.dot.may=true:=aF.qL (b i (by simp));exact mJ.Nv l e (fun j hj=>d j (by simp [hj])) fun j hj=>by rw [B_ h c,b j (by simp [hj])];rfl
/-! ### how great -/
theorem kK {l:List aO} (h:ew l):l.Nodup:=h.imp fun {a b} c e=>by subst e;exact aO.lt_irrefl _ c
theorem ic.Yf {F:List Nat} {s:AS} {p:Nat} {x:aF} {B:Nat} (h:ic F s p x) (o:mJ x B):x.nl+x.nt<=B/\x.ex.length<=B:=by
 obtain ⟨ok,Hy,hlen,pc,lm,tm,a,n,G,w,y,z,⟨es,c,A,h2,h3⟩,⟨es',c',k,i,C⟩⟩:=h;obtain ⟨U,H,hm⟩:=o.sz;have D:(es.map fun e=>e.1).Nodup:=List.pairwise_map.2 A.nd;have n2:(es'.map fun e=>e.1).Nodup:=List.pairwise_map.2 k.nd;constructor
 ·have l:((es.map fun e=>e.1)++(es'.map fun e=>e.1)).Nodup:=by
   refine List.nodup_append.2 ⟨D,n2,fun a m b hb=>?_⟩;rintro rfl;rw [pB,h2] at m;rw [pB,i] at hb;cases j:x.rS a with
   | false=>rw [j] at hb;cases hb
   | true=>rw [(o.tb _ j).2] at m;cases m
  have:=mw l fun d hd=>hm d ?_
  ·simp only [List.length_append,List.length_map] at this;omega
  ·rcases List.mem_append.1 hd with hd | hd
   ·rw [pB,h2] at hd;exact .inr (.inl hd)
   ·rw [pB,i] at hd;cases j:x.rS d with
    | false=>rw [j] at hd;cases hd
    | true=>exact .inr (.inr j)
 ·have:=mw (kK ok.r) fun d hd=>hm d ?_
  ·omega
  ·exact .inl hd
/-! ### rows in order -/
theorem Qw {α:Type} {r:α->α->Prop} (c:∀ a,¬ r a a) (i:∀ a b,r a b->¬ r b a):∀ {l l':List α},l.Pairwise r->l'.Pairwise r->(∀ x,x∈l↔x∈l')->l=l'
 | [],[],_,_,_=>rfl
 | [],b::l',_,_,h=>by have:=(h b).2 (by simp);cases this
 | a::l,[],_,_,h=>by have:=(h a).1 (by simp);cases this
 | a::l,b::l',n,h2,h=>by
  obtain ⟨p1,o⟩:=List.pairwise_cons.1 n;obtain ⟨m,p⟩:=List.pairwise_cons.1 h2;have k:a=b:=by
   rcases List.mem_cons.1 ((h a).1 (by simp)) with e | w
   ·exact e
   ·rcases List.mem_cons.1 ((h b).2 (by simp)) with e | hb
    ·exact e.symm
    ·exact absurd (p1 b hb) (i _ _ (m a w))
  subst k;have:=Qw c i o p fun x=>by
   constructor
   ·intro j;rcases List.mem_cons.1 ((h x).1 (by simp [j])) with e | d
    ·subst e;exact absurd (p1 x j) (c x)
    ·exact d
   ·intro j;rcases List.mem_cons.1 ((h x).2 (by simp [j])) with e | d
    ·subst e;exact absurd (m x j) (c x)
    ·exact d
  rw [this]
theorem aO.Vz {a b:aO} (h:a.lt b=true):¬ b.lt a=true:=by
 rw [aO.lt_iff] at *;omega
theorem Nw {l l':List aO} (h:ew l) (c:ew l') (hm:∀ d,d∈l↔d∈l'):l=l' :=
 Qw (fun a h=>aO.lt_irrefl _ h) (fun a b=>aO.Vz) h c hm
theorem nE.has {x:aF} {B:Nat} (o:mJ x B) {k:Key} {l:List aO} (h:nE x k l) {d:aO} (hd:d∈l):x.has d=true:=(o.lv d k ((h.mem d).1 hd)).1
/-! ### a law's own sets -/
def Dj (F G:List Nat):Prop:=∀ y∈F,y ∉ G
theorem Dj.symm {F G:List Nat} (h:Dj F G):Dj G F:=fun y b hf=>h y hf b
section
variable {s0 s s':AS} {F F' G:List Nat} {p q:Nat} {x y:aF} {B C:Nat}
theorem ic.pF (h:ic F s p x):p∈F:=by obtain ⟨_,_,_,pc,lm,tm,_,h,_⟩:=h;exact h
theorem Jv {L:List Nat} (h:∀ y∈F,s.h y≠none) (m:bB L s s') (d:Dj L F):∀ y∈F,s'.h y≠none:=by
 intro y b;cases c:s.h y with
 | none=>exact absurd c (h y b)
 | some o=>rw [m.1 y o (fun e=>d y e b) c];simp
theorem Dj.step (d:Dj F G) (ht:∀ y∈G,s.h y≠none) (c:∀ y∈F',y∈F\/s.h y=none):Dj F' G:=by
 intro y e b;rcases c y e with h | h
 ·exact d y h b
 ·exact ht y b h
end
end
section
open Go.Am Go.aq Go.aB
section
variable {s0 s:AS} {F:List Nat} {p:Nat} {x:aF} {B:Nat}
theorem mJ.Yg (h:mJ x B):∀ d,(x.live d).isSome=true->d.may=true:=fun d hd=>by
 obtain ⟨k,b⟩:=Option.isSome_iff_exists.1 hd;exact aF.qL (h.lv _ _ b).1
theorem yJ {l:List aO} (h:∀ d∈l,d.may=true):∀ i∈l.map ee,i.may=true:=fun i hi=>by
 obtain ⟨d,hd,rfl⟩:=List.mem_map.1 hi;exact uE (h d hd)
theorem mJ.Jx (o:mJ x B) {l:List aO} (h:∀ d∈l,x.has d=true):mJ (x.ef (l.map ee)).2 B :=
 o.Nv _ (yJ fun d hd=>aF.qL (h d hd)) fun i hi=>by
  obtain ⟨d,hd,rfl⟩:=List.mem_map.1 hi;exact h d hd
theorem mJ.add (o:mJ x B) {k:Key} {d:aO} {l:List aO} (b:k.may=true) (hd:d.may=true) (c:nE x k l):mJ (x.ef (⟨d,k,false⟩::l.map ee)).2 (B+1):=by
 rw [q7];have hi:(⟨d,k,false⟩:eP).may=true:=by simp [eP.may,b,hd]
 have e:=(vQ o hi).mono (B':=B+1) (by split <;> omega);exact e.Jx fun y i=>by rw [B_ o hd,c.has o i];rfl
end
/-! ### what is seen and live,by cases -/
end
section
set_option maxRecDepth 100000
set_option maxHeartbeats 4000000
open Go.Am
end
section
open Go.Am Go.aq Go.aB
theorem uF (a b:List UInt8):aY T lz [(0,.str a),(1,.str b)]=some (.agg (fm ⟨a,b⟩)):=by kernel_rfl
theorem vR (r c:Int):aY T gM [(0,.int .i64 r),(1,.int .u64 c)]=some (.agg (aP ⟨r,c⟩)):=by kernel_rfl
theorem lP {s:AS} {l o n m:Nat} {cs:List AV} (h:aD s l o n=some cs) (hm:m<=n):aD s l o m=some (cs.take m):=by
 unfold Am.aD at *;split at h
 ·rename_i C g ro b;split at h
  ·rename_i c;rw [if_pos (by omega)];simp only [Option.some.injEq] at h;rw [<- h,List.take_take];congr 2;omega
  ·cases h
 ·cases h
end
section
open Go.Am Go.aq Go.aB Go.ChangeShapes Go.WideShapes Go.ChangeAt Go.RowKit
theorem Ab (t:List UInt8) (s:AS):aa Tryz.prog mV [.str t] s fun v s'=>v=.bool (aN t)/\s'=s:=by
 refine Li _ _ _ ⟨_,lH t s,af.dec (fun h=>⟨_,lH t s,?_,rfl⟩) (fun h=>⟨?_,rfl⟩)⟩
 ·congr 1;rw [aN,decide_eq_decide];omega
 ·congr 1;symm;rw [aN,decide_eq_false_iff_not];omega
section
variable {s0 s s':AS} {pa pb:Nat} {xa xb:aF} {Ba Bb:Nat} {sl:List (AV×List eP)}
end
end
section
set_option maxRecDepth 100000
set_option maxHeartbeats 4000000
open Go.Am
def Cb (a0:Option (Nat×Nat)) (a1:List UInt8) (s:AS) (R:AV->AS->Prop):Prop :=
 aj (.cells [.str a1] 0 false) s fun l1 s2=>aa Tryz.prog cq [.ptr a0] s2 fun I s4=>∃ G:Bool,I=.bool G/\(af (!G)
 (R (.slc none 0 0 true) s4)
 (aa Tryz.prog fS [.ptr a0,(.func kR [(.ptr (some (l1,0)))])] s4 fun H s7=>aV .i64 (aL T aC H s7) fun J=>bu fun k l=>k l [.slc none 0 0 true,.int .i64 0] s7 /\
 ∀ i:Nat,∀ d:AV,∀ b:Int,∀ c:AS,k i [d,.int .i64 b] c ->
 af (decide ((b:Int)<J))
 (bE (ag T aC H (.int .i64 b)) fun m n=>aS (aD c m n 2) fun j=>aj (.cells [.int .i64 0,.int .u64 0] 0 false) c fun e iF=>fy (some 2) j (bC (cS iF e 0 j) fun gw=>aS (aD gw e 0 2) fun o=>ah a0 fun p r=>wN (ak gw p (r+1)) fun w=>aS (aD gw e 0 2) fun x=>oq (dA T cE (.map w) (.agg x) false gw) fun y=>CM (y[1]?) fun z=>oq (aY T xI [(0,.agg o),(1,.str z)]) fun A=>aS (de T bZ 1 [(0,.agg A)]) fun B=>aj (.cells B 0 false) gw fun C mG=>ig (aG T bZ bZ d (.slc (some (C,0)) 1 1 true) mG) fun D F=>∃ m',m'<i/\k m' [D,(.int .i64 (IntKind.wrap .i64 (b+1)))] F))
 (R d c)))
def Cc:QA:=(.seq .leaf (.seq (.seq .leaf (.cond (.seq .leaf .leaf) .leaf)) (.seq .leaf (.seq (.seq .leaf (.wrap (.loop [(5,.any),(15,.int .i64)] [(5,5),(7,7),(15,31)] (.seq .leaf (.seq (.cond .leaf .leaf) (.seq (.wrap (.seq .leaf .calm)) .leaf)))))) (.seq .leaf .leaf)))))
theorem Cd (a0:Option (Nat×Nat)) (a1:List UInt8) (s:AS) (R:AV->AS->Prop) (h:Cb a0 a1 s R):aa Tryz.prog cZ [.ptr a0,.str a1] s R :=
 aa.q (n:=33) (rs:=[.tmp 4]) (A:=Cc) hT bX Tryz.func72 (by kernel_rfl) rfl rfl rfl (by kernel_rfl) (by kernel_rfl) h
def za (a0:List AV) (a1:List AV) (c0:Option (Nat×Nat)) (s:AS) (R:AV->AS->Prop):Prop :=
 cj a0 (aj (.cells a0 0 false) s fun l1 s2=>cj a1 (aj (.cells a1 0 false) s2 fun l3 s4=>CM (ak s4 l3 0) fun b=>ah c0 fun c d=>CM (ak s4 c d) fun e=>R (.bool ((b:List UInt8)==e)) s4))
def zb:QA:=(.seq .leaf (.seq .leaf .leaf))
theorem ze (a0:List AV) (a1:List AV) (c0:Option (Nat×Nat)) (s:AS) (R:AV->AS->Prop) (h:za a0 a1 c0 s R):aa Tryz.prog kR [.agg a0,.agg a1,.ptr c0] s R :=
 aa.q (n:=10) (rs:=[.tmp 5]) (A:=zb) hT bX Tryz.func154 (by kernel_rfl) rfl rfl rfl (by kernel_rfl) (by kernel_rfl) h
def DA (a0:Option (Nat×Nat)) (s:AS) (R:AV->AS->Prop):Prop :=
 bu fun c m2=>c m2 [.slc none 0 0 true,.int .i64 0] s /\
 ∀ e:Nat,∀ d:AV,∀ b:Int,∀ s6:AS,c e [d,.int .i64 b] s6 ->
 ah a0 fun D F=>dn (ak s6 D (F+17)) fun G=>aV .i64 (aL T aI G s6) fun i=>af (decide ((b:Int)<i))
 (ah a0 fun j k=>dn (ak s6 j (k+17)) fun l=>bE (ag T aI l (.int .i64 b)) fun lN m=>Qb (ak s6 lN (m+4)) fun n=>af (!n)
 (ah a0 fun o p=>dn (ak s6 o (p+17)) fun r=>bE (ag T aI r (.int .i64 b)) fun w x=>aS (aD s6 w x 5) fun y=>aS (de T aI 1 [(0,.agg y)]) fun z=>aj (.cells z 0 false) s6 fun A en=>ig (aG T aI aI d (.slc (some (A,0)) 1 1 true) en) fun B C=>∃ m',m'<e/\c m' [B,(.int .i64 (IntKind.wrap .i64 (b+1)))] C)
 (∃ m',m'<e/\c m' [d,(.int .i64 (IntKind.wrap .i64 (b+1)))] s6))
 (R d s6)
def DB:QA:=(.seq .leaf (.seq .leaf (.seq (.seq .leaf (.wrap (.loop [(3,.any),(4,.int .i64)] [(3,32)] (.seq (.seq .leaf (.cond .leaf .leaf)) (.seq (.wrap (.seq .leaf (.cond .leaf .leaf))) .leaf))))) (.seq .leaf .leaf))))
theorem DC (a0:Option (Nat×Nat)) (s:AS) (R:AV->AS->Prop) (h:DA a0 s R):aa Tryz.prog oD [.ptr a0] s R :=
 aa.q (n:=34) (rs:=[.tmp 2]) (A:=DB) hT bX Tryz.func155 (by kernel_rfl) rfl rfl rfl (by kernel_rfl) (by kernel_rfl) h
def Ce (a0:Option (Nat×Nat)) (a1:List UInt8) (s:AS) (R:AV->AS->Prop):Prop :=
 aa Tryz.prog oD [.ptr a0] s fun c s2=>bu fun d A=>d A [.slc none 0 0 true,.int .i64 0] s2 /\
 ∀ i:Nat,∀ e:AV,∀ b:Int,∀ s8:AS,d i [e,.int .i64 b] s8 ->
 aV .i64 (aL T aI c s8) fun B=>af (decide ((b:Int)<B))
 (bE (ag T aI c (.int .i64 b)) fun nN j=>CM (ak s8 nN (j+2)) fun k=>af ((k:List UInt8)==a1)
 (bE (ag T aI c (.int .i64 b)) fun l m=>aS (aD s8 l m 2) fun n=>bE (ag T aI c (.int .i64 b)) fun qZ o=>CM (ak s8 qZ (o+3)) fun p=>oq (aY T xI [(0,.agg n),(1,.str p)]) fun r=>aS (de T bZ 1 [(0,.agg r)]) fun w=>aj (.cells w 0 false) s8 fun x fV=>ig (aG T bZ bZ e (.slc (some (x,0)) 1 1 true) fV) fun y z=>∃ m',m'<i/\d m' [y,(.int .i64 (IntKind.wrap .i64 (b+1)))] z)
 (∃ m',m'<i/\d m' [e,(.int .i64 (IntKind.wrap .i64 (b+1)))] s8))
 (R e s8)
def Cf:QA:=(.seq .leaf (.seq .leaf (.seq .leaf (.seq (.seq .leaf (.wrap (.loop [(5,.any),(7,.int .i64)] [(5,5),(7,7),(10,38)] (.seq (.seq .leaf (.cond .leaf .leaf)) (.seq (.wrap (.seq .leaf (.cond .calm .leaf))) .leaf))))) (.seq .leaf .leaf)))))
theorem Cg (a0:Option (Nat×Nat)) (a1:List UInt8) (s:AS) (R:AV->AS->Prop) (h:Ce a0 a1 s R):aa Tryz.prog c_ [.ptr a0,.str a1] s R :=
 aa.q (n:=40) (rs:=[.tmp 4]) (A:=Cf) hT bX Tryz.func74 (by kernel_rfl) rfl rfl rfl (by kernel_rfl) (by kernel_rfl) h
def Fg (a0:Option (Nat×Nat)) (a1:List AV) (s:AS) (R:AV->AS->Prop):Prop :=
 cj a1 (aj (.cells a1 0 false) s fun l1 s2=>aS (aD s2 l1 0 2) fun g3=>aa Tryz.prog rC [.ptr a0,.agg g3] s2 fun v4 k=>∃ z:Int,v4=.int .i64 z/\(bt fun A =>
 (∀ b8:Bool,∀ s9:AS,A [.bool b8] s9 ->
 af b8
 (ah a0 fun nN B=>dn (ak s9 nN (B+17)) fun C=>ig (aG T aI aI (.slc none 0 0 true) C s9) fun l m=>aS (aD m l1 0 5) fun n=>bE (ag T aI l (.int .i64 z)) fun qZ D=>fy (some 5) n (bC (cS m qZ D n) fun eH=>ah a0 fun AJ F=>e_ T aI eH AJ (F+17) l fun gl=>R (.bool true) gl))
 (ah a0 fun G H=>aS (aD s9 l1 0 2) fun I=>aa Tryz.prog qc [(.ptr (some (G,H))),.agg I] s9 fun J o=>∃ p:Bool,J=.bool p/\(af (!p)
 (R (.bool false) o)
 (bt fun i =>
 (∀ r:AV,∀ w:Int,∀ mG:AS,i [r,.int .i64 w] mG ->
 aS (aD mG l1 0 5) fun K=>aS (de T aI 1 [(0,.agg K)]) fun L=>aj (.cells L 0 false) mG fun M O=>ig (aG T aI aI r (.slc (some (M,0)) 1 1 true) O) fun Q kC=>ah a0 fun S U=>dn (ak kC S (U+17)) fun wm=>dn (bf T aI wm (some (.int .i64 w)) none none) fun W=>ig (aG T aI aI Q W kC) fun X Y=>ah a0 fun Z ab=>e_ T aI Y Z (ab+17) X fun uw=>R (.bool true) uw) /\
 (bu fun j ad=>j ad [.slc none 0 0 true,.int .i64 0] o /\
 ∀ x:Nat,∀ d:AV,∀ c:Int,∀ b:AS,j x [d,.int .i64 c] b ->
 ah a0 fun ae al=>dn (ak b ae (al+17)) fun am=>aV .i64 (aL T aI am b) fun an=>af (decide ((c:Int)<an)) (ah a0 fun ao ar=>dn (ak b ao (ar+17)) fun aw=>bE (ag T aI aw (.int .i64 c)) fun a2 a3=>aS (aD b a2 a3 2) fun a4=>aS (aD b l1 0 2) fun a5=>aa Tryz.prog qA [.agg a4,.agg a5] b fun a6 e=>∃ y:Bool,a6=.bool y/\(af y
 (ah a0 fun a7 a8=>dn (ak e a7 (a8+17)) fun a9=>bE (ag T aI a9 (.int .i64 c)) fun a' ba=>aS (aD e a' ba 5) fun bb=>aS (de T aI 1 [(0,.agg bb)]) fun bc=>aj (.cells bc 0 false) e fun bd be=>ig (aG T aI aI d (.slc (some (bd,0)) 1 1 true) be) fun bh bi=>∃ m',m'<x/\j m' [bh,(.int .i64 (IntKind.wrap .i64 (c+1)))] bi)
 (i [d,.int .i64 c] e))) (i [d,.int .i64 c] b)))))) /\
 (af (decide ((z:Int)>=0)) (ah a0 fun bj bk=>dn (ak k bj (bk+17)) fun bl=>bE (ag T aI bl (.int .i64 z)) fun bm bo=>Qb (ak k bm (bo+4)) fun bs=>af (!bs) (Qb (ak k l1 4) fun bx=>A [.bool bx] k) (A [.bool false] k)) (A [.bool false] k))))
def Fh:QA:=(.seq .leaf (.seq .leaf (.seq (.join [(29,.bool)] [(13,29)] .leaf (.cond (.seq .leaf (.seq .leaf (.seq .leaf (.seq .leaf .leaf)))) .leaf)) (.seq (.seq (.draw 5) (.cond (.seq .leaf .leaf) .leaf)) (.seq .leaf (.seq .leaf (.join [(7,.any),(8,.int .i64)] [(7,8),(50,81)] (.wrap (.loop [(7,.any),(8,.int .i64)] [(7,8),(50,81)] (.seq (.seq (.draw 18) (.cond .leaf .leaf)) (.seq (.wrap .leaf) .leaf)))) (.seq .leaf (.seq .leaf (.seq .leaf .leaf))))))))))
theorem Fi (a0:Option (Nat×Nat)) (a1:List AV) (s:AS) (R:AV->AS->Prop) (h:Fg a0 a1 s R):aa Tryz.prog je [.ptr a0,.agg a1] s R :=
 aa.q (n:=97) (rs:=[.tmp 4]) (A:=Fh) hT bX Tryz.func153 (by kernel_rfl) rfl rfl rfl (by kernel_rfl) (by kernel_rfl) h
def Fj (a0:Option (Nat×Nat)) (a1:List AV) (a2:List AV) (s:AS) (R:AV->AS->Prop):Prop :=
 cj a1 (aj (.cells a1 0 false) s fun l1 s2=>cj a2 (aj (.cells a2 0 false) s2 fun l3 s4=>gn fun S V=>aS (aD s4 l3 0 2) fun D=>aS (aD s4 l1 0 2) fun F=>oq (aY T rF [(0,.agg D),(1,.agg F)]) fun l=>(∀ s8:AS,Ext s4 s8->aJ s8->(True)->aS (de T aI 1 [(0,.agg l)]) fun G=>aj (.cells G 0 false) s8 fun nN m=>(Ext s8 m/\S 3 [.agg l] (.slc (some (nN,0)) 1 1 true) m/\V 3 [.agg l] (.slc (some (nN,0)) 1 1 true)))/\(∃ v,V 3 [.agg l] v)/\∀ i:AV,V 3 [.agg l] i->aS (aD s4 l1 0 2) fun b=>(∀ d:AS,Ext s4 d->aJ d->(True)->aa Tryz.prog dD [.ptr a0,.agg b] d fun n o=>(Ext d o/\S 6 [(.func dD []),.ptr a0,.agg b] n o/\V 6 [(.func dD []),.ptr a0,.agg b] n))/\(∃ v,V 6 [(.func dD []),.ptr a0,.agg b] v)/\∀ j:AV,V 6 [(.func dD []),.ptr a0,.agg b] j->∀ eH:AS,Ext s4 eH->aJ eH->(S 3 [.agg l] i eH/\(S 6 [(.func dD []),.ptr a0,.agg b] j eH/\True))->ig (aG T aI aI i j eH) fun v20 gl=>bu fun k r=>k r [.int .i64 0] gl /\
 ∀ p:Nat,∀ e:Int,∀ c:AS,k p [.int .i64 e] c ->
 aV .i64 (aL T aI v20 c) fun w=>af (decide ((e:Int)<w))
 (bE (ag T aI v20 (.int .i64 e)) fun x y=>aS (aD c x y 5) fun z=>aa Tryz.prog je [.ptr a0,.agg z] c fun A B=>∃ C:Bool,A=.bool C/\(∃ m',m'<p/\k m' [(.int .i64 (IntKind.wrap .i64 (e+1)))] B))
 (R v20 c)))
def Fk:QA:=(.seq .leaf (.seq (.iB 7 [[],[],[],[],[],[],[]] [3,6]) (.seq (.seq .leaf (.wrap (.loop [(8,.int .i64)] [(8,8),(17,28)] (.seq (.seq .leaf (.cond .leaf .leaf)) (.seq (.wrap .leaf) .leaf))))) (.seq .leaf .leaf))))
theorem Fl (a0:Option (Nat×Nat)) (a1:List AV) (a2:List AV) (s:AS) (R:AV->AS->Prop) (h:Fj a0 a1 a2 s R):aa Tryz.prog p_ [.ptr a0,.agg a1,.agg a2] s R :=
 aa.q (n:=30) (rs:=[.tmp 6]) (A:=Fk) hT bX Tryz.func69 (by kernel_rfl) rfl rfl rfl (by kernel_rfl) (by kernel_rfl) h
def Ac (a0:Option (Nat×Nat)) (a1:List AV) (s:AS) (R:AV->AS->Prop):Prop :=
 cj a1 (aj (.cells a1 0 false) s fun l1 s2=>aS (aD s2 l1 0 2) fun p=>aa Tryz.prog dD [.ptr a0,.agg p] s2 fun d r=>bu fun e w=>e w [.int .i64 0] r /\
 ∀ o:Nat,∀ c:Int,∀ b:AS,e o [.int .i64 c] b ->
 aV .i64 (aL T aI d b) fun i=>af (decide ((c:Int)<i))
 (bE (ag T aI d (.int .i64 c)) fun qY j=>aS (aD b qY j 5) fun k=>aa Tryz.prog je [.ptr a0,.agg k] b fun l m=>∃ n:Bool,l=.bool n/\(∃ m',m'<o/\e m' [(.int .i64 (IntKind.wrap .i64 (c+1)))] m))
 (R d b))
def Ad:QA:=(.seq .leaf (.seq .leaf (.seq (.seq .leaf (.wrap (.loop [(6,.int .i64)] [(6,6),(10,21)] (.seq (.seq .leaf (.cond .leaf .leaf)) (.seq (.wrap .leaf) .leaf))))) (.seq .leaf .leaf))))
theorem Ae (a0:Option (Nat×Nat)) (a1:List AV) (s:AS) (R:AV->AS->Prop) (h:Ac a0 a1 s R):aa Tryz.prog iQ [.ptr a0,.agg a1] s R :=
 aa.q (n:=23) (rs:=[.tmp 4]) (A:=Ad) hT bX Tryz.func86 (by kernel_rfl) rfl rfl rfl (by kernel_rfl) (by kernel_rfl) h
def HE (a0:Option (Nat×Nat)) (a1:List AV) (s:AS) (R:AV->AS->Prop):Prop :=
 cj a1 (aj (.cells a1 0 false) s fun l1 s2=>bu fun c p=>c p [.int .i64 0] s2 /\
 ∀ o:Nat,∀ b:Int,∀ s7:AS,c o [.int .i64 b] s7 ->
 ah a0 fun r w=>dn (ak s7 r (w+17)) fun v10=>aV .i64 (aL T aI v10 s7) fun d=>af (decide ((b:Int)<d))
 (ah a0 fun qY e=>dn (ak s7 qY (e+17)) fun i=>bE (ag T aI i (.int .i64 b)) fun j k=>aS (aD s7 j k 2) fun l=>aS (aD s7 l1 0 2) fun m=>sr (iZ T 100 gM (.agg l) (.agg m)) fun n=>af n
 (R (.int .i64 b) s7)
 (∃ m',m'<o/\c m' [(.int .i64 (IntKind.wrap .i64 (b+1)))] s7))
 (R (.int .i64 (-1)) s7))
def HF:QA:=(.seq .leaf (.seq (.seq .leaf (.wrap (.loop [(5,.int .i64)] [(4,25)] (.seq (.seq .leaf (.cond .leaf .leaf)) (.seq (.wrap (.seq (.draw 9) (.cond (.seq .leaf .leaf) .leaf))) .leaf))))) (.seq .leaf .leaf)))
theorem HG (a0:Option (Nat×Nat)) (a1:List AV) (s:AS) (R:AV->AS->Prop) (h:HE a0 a1 s R):aa Tryz.prog rC [.ptr a0,.agg a1] s R :=
 aa.q (n:=26) (rs:=[.tmp 4]) (A:=HF) hT bX Tryz.func96 (by kernel_rfl) rfl rfl rfl (by kernel_rfl) (by kernel_rfl) h
def DD (a0:Option (Nat×Nat)) (a1:List AV) (s:AS) (R:AV->AS->Prop):Prop :=
 cj a1 (aj (.cells a1 0 false) s fun l1 s2=>bu fun e Q=>e Q [.slc none 0 0 true,.int .i64 0] s2 /\
 ∀ j:Nat,∀ i:AV,∀ b:Int,∀ s8:AS,e j [i,.int .i64 b] s8 ->
 ah a0 fun S k=>dn (ak s8 S (k+17)) fun v11=>aV .i64 (aL T aI v11 s8) fun l=>af (decide ((b:Int)<l))
 (bt fun c =>
 (∀ d:Bool,∀ fH:AS,c [.bool d] fH ->
 af d
 (ah a0 fun qZ m=>dn (ak fH qZ (m+17)) fun n=>bE (ag T aI n (.int .i64 b)) fun AJ o=>aS (aD fH AJ o 2) fun p=>oq (aY T rF [(0,.agg p),(2,.bool true)]) fun r=>aS (de T aI 1 [(0,.agg r)]) fun w=>aj (.cells w 0 false) fH fun x en=>ig (aG T aI aI i (.slc (some (x,0)) 1 1 true) en) fun y z=>∃ m',m'<j/\e m' [y,(.int .i64 (IntKind.wrap .i64 (b+1)))] z)
 (∃ m',m'<j/\e m' [i,(.int .i64 (IntKind.wrap .i64 (b+1)))] fH)) /\
 (ah a0 fun A B=>dn (ak s8 A (B+17)) fun v30=>bE (ag T aI v30 (.int .i64 b)) fun C D=>Qb (ak s8 C (D+4)) fun F=>af (!F) (ah a0 fun G H=>dn (ak s8 G (H+17)) fun I=>bE (ag T aI I (.int .i64 b)) fun J K=>aS (aD s8 J (K+2) 2) fun L=>aS (aD s8 l1 0 2) fun M=>sr (iZ T 100 lz (.agg L) (.agg M)) fun O=>c [.bool O] s8) (c [.bool false] s8)))
 (R i s8))
def DE:QA:=(.seq .leaf (.seq .leaf (.seq (.seq .leaf (.wrap (.loop [(5,.any),(6,.int .i64)] [(5,48)] (.seq (.seq .leaf (.cond .leaf .leaf)) (.seq (.wrap (.join [(36,.bool)] [(16,36)] (.draw 19) (.cond .leaf .leaf))) .leaf))))) (.seq .leaf .leaf))))
theorem DF (a0:Option (Nat×Nat)) (a1:List AV) (s:AS) (R:AV->AS->Prop) (h:DD a0 a1 s R):aa Tryz.prog dD [.ptr a0,.agg a1] s R :=
 aa.q (n:=50) (rs:=[.tmp 4]) (A:=DE) hT bX Tryz.func152 (by kernel_rfl) rfl rfl rfl (by kernel_rfl) (by kernel_rfl) h
end
section
open Go.Am Go.aq Go.aB
theorem VA {s:AS} {l o n:Nat} {cs:List AV} (h:aD s l o n=some cs) (k m:Nat) (hm:k+m<=n):aD s l (o+k) m=some ((cs.drop k).take m):=by
 unfold Am.aD at *;split at h
 ·rename_i C g ro b;split at h
  ·rename_i c;rw [if_pos (by omega)];simp only [Option.some.injEq] at h;rw [<- h,List.drop_take,List.take_take,List.drop_drop];congr 2;omega
  ·cases h
 ·cases h
section
variable {F:List Nat} {s:AS} {p:Nat} {x:aF}
end
section
variable {s0 s s':AS} {pa pb:Nat} {xa xb:aF} {Ba Bb:Nat} {sl:List (AV×List eP)}
end
end
end Go.Proofs.YtohgmogbabkkeaaGreat
