/-
  A part of QX proof: an abstract machine CF QX model, and qO of qP of this program CF it.
-/
import Derived.KernelRfl
import Derived.Test.YtohgmogbabkkeaaGreatP5
set_option linter.unusedVariables false
set_option linter.unusedSimpArgs false
set_option linter.unusedSectionVars false
namespace Go.Proofs.YtohgmogbabkkeaaGreat
section
open Go.Am Go.aq Go.aB
def aF.item (x:aF) (i:eP):Prop:=match i.gone with
 | true=>x.rS i.dot=true/\i.key=⟨[],[]⟩
 | false=>x.live i.dot=some i.key
structure Items (x:aF) (I:List eP):Prop where
 So:ew (I.map eP.dot)
 mem:∀ i,i∈I↔x.item i
theorem YN.pw {I:List eP} (h:ew (I.map eP.dot)):I.Pairwise fun a b=>a.dot.lt b.dot=true:=List.pairwise_map.1 h
theorem Items.one {x:aF} {I:List eP} (h:Items x I) {i j:eP} (hi:i∈I) (hj:j∈I) (e:i.dot=j.dot):i=j:=by
 have key:∀ (l:List eP),l.Pairwise (fun a b=>a.dot.lt b.dot=true)->i∈l->j∈l->i=j:=by
  intro l
  induction l with
  | nil=>intro _ h;cases h
  | cons a l k =>
   intro hp m h2;obtain ⟨p1,n⟩:=List.pairwise_cons.1 hp;rcases List.mem_cons.1 m with e1 | c <;> rcases List.mem_cons.1 h2 with e2 | d
   ·rw [e1,e2]
   ·have:=p1 j d;rw [<- e1,e] at this;exact absurd this (fun h=>aO.lt_irrefl _ h)
   ·have:=p1 i c;rw [<- e2,e] at this;exact absurd this (fun h=>aO.lt_irrefl _ h)
   ·exact k n c d
 exact key I (YN.pw h.So) hi hj
theorem Items.zero:Items aF.zero []:=⟨List.Pairwise.nil,fun i=>by unfold aF.item;cases i.gone <;> simp [aF.zero]⟩
theorem TX {x:aF} {B:Nat} (o:mJ x B) {i:eP} (h:x.item i):x.has i.dot=true:=by
 unfold aF.item at h;cases b:i.gone with
 | true=>rw [b] at h;exact (o.tb _ h.1).1
 | false=>rw [b] at h;exact (o.lv _ _ h).1
theorem Pw {x:aF} {i:eP} (h:x.item i):x.keeps i.dot:=by
 unfold aF.item at h;cases b:i.gone with
 | true=>rw [b] at h;exact .inr (.inr h.1)
 | false=>rw [b] at h;exact .inr (.inl (by rw [h];rfl))
theorem Items.len {x:aF} {B:Nat} (o:mJ x B) {I:List eP} (h:Items x I):I.length<=B:=by
 obtain ⟨U,b,hm⟩:=o.sz;have:=mw (kK h.So) fun d hd=>hm d ?_
 ·simp only [List.length_map] at this;omega
 ·obtain ⟨i,hi,rfl⟩:=List.mem_map.1 hd;exact Pw ((h.mem i).1 hi)
structure oU (F:List Nat) (s:AS) (q:Nat) (x:aF):Prop where
 ok:Nc x.v x.ex
 Hy:TP x.v x.ex
 mem:∃ w iw I,Am.Own s q (x.v.map (.int .u64)++[w,iw])/\(w.one=true/\w≠.emp/\bg aP 2 s w x.ex)/\(iw.one=true/\iw≠.emp/\bg bD 5 s iw I)/\Items x I/\q∈F/\(∀ y∈ax w,y∈F)/\∀ y∈ax iw,y∈F
section
variable {F F':List Nat} {s s':AS} {q:Nat} {x:aF}
theorem oU.mut {L:List Nat} (h:oU F s q x) (m:bB L s s') (b:Dj L F):oU F s' q x:=by
 obtain ⟨i,h2,w,iw,I,a,⟨j,k,l⟩,⟨n,c2,o⟩,d,e,f,g⟩:=h;exact ⟨i,h2,w,iw,I,a.mut m (fun p=>b q p e),⟨j,k,l.mut m fun y c hm=>b y hm (f y c)⟩,⟨n,c2,o.mut m fun y c hm=>b y hm (g y c)⟩,d,e,f,g⟩
theorem oU.ext (h:oU F s q x) (e:Ext s s'):oU F s' q x:=h.mut (L:=[]) e.mut (fun y b=>by cases b)
theorem oU.qF (h:oU F s q x):q∈F:=by obtain ⟨_,_,w,iw,I,_,_,_,_,e,_⟩:=h;exact e
theorem sO {α:Type} {f:α->List AV} {sz:Nat} {v:AV} {l:List α} (h:bg f sz s v l):∀ n,v≠.int .i64 n:=by
 rcases h with ⟨_,a,rfl⟩ | ⟨la,rfl,_⟩ <;> simp
theorem FQ {v:List Int} (h:v.length=16) (w iw:AV):(v.map (AV.int .u64)++[w,iw])[17]? = some iw:=by
 rw [List.getElem?_append_right (by simp [h])];simp [h]
theorem Yh {v:List Int} {w iw:AV} {I:List eP} (B:At s q (v.map (.int .u64)++[w,iw])) (hv:v.length=16) (A:Sl bD 5 s iw I) (L:I.length<=2 ^ 30) (d:aO) :
  aa Tryz.prog rC [.ptr (some (q,0)),.agg (aP d)] s fun r s'=>Ext s s'/\∃ n:Int,r=.int .i64 n/\((n = -1/\∀ i∈I,i.dot≠d)\/∃ k:Nat,n=k/\∃ i,I[k]? = some i/\i.dot=d):=by
 refine aa.pre fun C=>HG _ _ _ _ ⟨rfl,aj.intro C rfl fun l1 s2 c=>⟨fun m vs s'=>∃ i:Nat,vs=[.int .i64 (i:Nat)]/\i<=I.length/\m=I.length - i/\s'=s2/\∀ j y,j<i->I[j]? = some y->y.dot≠d,I.length,⟨0,rfl,by omega,rfl,rfl,by omega⟩,?_⟩⟩;rintro m n s7 ⟨i,hi,M,rfl,rfl,b⟩;simp only [List.cons.injEq,AV.int.injEq,true_and,and_true] at hi;subst hi;have o:ak s7 q (0+17)=some iw:=by rw [(B.ext c.ext).ak];exact FQ hv w iw
 refine ⟨iw,o,_,A.b_ dw _,af.dec (fun D=>?_) (fun F=>⟨c.ext,-1,rfl,.inl ⟨rfl,fun y p=>?_⟩⟩)⟩
 ·obtain ⟨y,p⟩:=cF (l:=I) (i:=i) (by omega);obtain ⟨G,H,J,K⟩:=A.ix (by decide) bp dw qe p;refine ⟨iw,o,G,H,J _,_,lP ((K _ c.ext).2) (by decide),_,c.own.at.aD (by simp [aP]),_,z5 y.dot d,af.dec (fun e=>⟨c.ext,_,rfl,.inr ⟨i,rfl,y,p,e⟩⟩) (fun e=>⟨I.length - (i+1),by omega,i+1,by rw [a_ (by omega)];rfl,by omega,rfl,rfl,fun j z hj x=>?_⟩)⟩;rcases Nat.lt_or_ge j i with h | h
  ·exact b j z h x
  ·obtain rfl:j=i:=by omega
   rw [p] at x;obtain rfl:=Option.some.inj x;exact e
 ·obtain ⟨j,hj⟩:=List.mem_iff_getElem?.1 p;have:j<I.length:=by
   rcases Nat.lt_or_ge j I.length with h | h
   ·exact h
   ·rw [List.getElem?_eq_none h] at hj;cases hj
  exact b j y (by omega) hj
/-! ### the plain side of seeing -/
theorem Items.set {x:aF} {B:Nat} (o:mJ x B) {I:List eP} (h:Items x I) {k:Nat} {j i:eP} (w:I[k]? = some j) (hj:j.gone=false) (hd:j.dot=i.dot) (A:i.gone=true) (c:i.key=⟨[],[]⟩):Items (x.mI i).2 (I.set k i)/\(x.mI i).1=true/\(x.mI i).2.v=x.v/\(x.mI i).2.ex=x.ex:=by
 have C:j∈I:=List.mem_of_getElem? w;have d:x.live i.dot=some j.key:=by
  have:=(h.mem j).1 C;unfold aF.item at this;rw [hj,hd] at this;exact this
 have F:((x.live i.dot).isSome&&i.gone)=true:=by rw [d,A];rfl
 have m:k<I.length:=by
  rcases Nat.lt_or_ge k I.length with h | h
  ·exact h
  ·rw [List.getElem?_eq_none h] at w;cases w
 have z:(I.set k i).map eP.dot=I.map eP.dot:=by
  apply List.ext_getElem?;intro n;simp only [List.getElem?_map,List.getElem?_set];split
  ·rename_i e;subst e
   first | (rw [if_pos m,w];simp [hd]) | (rw [w];simp [hd])
  ·rfl
 refine ⟨⟨by rw [z];exact h.So,fun y=>?_⟩,?_,?_,?_⟩
 ·have D:y∈I.set k i↔y=i\/(y∈I/\y.dot≠i.dot):=by
   rw [List.mem_iff_getElem?];constructor
   ·rintro ⟨n,b⟩;rw [List.getElem?_set] at b;split at b
    ·rename_i e
     first | (rw [if_pos m] at b;exact .inl (Option.some.inj b).symm) | exact .inl (Option.some.inj b).symm
    ·rename_i e;have p:=List.mem_of_getElem? b;refine .inr ⟨p,fun G=>?_⟩;have:=h.one p C (G.trans hd.symm);subst this;have H:=kK h.So;have K:n<I.length:=by
      rcases Nat.lt_or_ge n I.length with h | h
      ·exact h
      ·rw [List.getElem?_eq_none h] at b;cases b
     have e1:(I.map eP.dot)[k]? = (I.map eP.dot)[n]? := by rw [List.getElem?_map,List.getElem?_map,w,b]
     exact e ((List.getElem?_inj (by simpa using m) H).1 e1)
   ·rintro (rfl | ⟨p,J⟩)
    ·exact ⟨k,by rw [List.getElem?_set,if_pos rfl,if_pos m]⟩
    ·obtain ⟨n,b⟩:=List.mem_iff_getElem?.1 p;refine ⟨n,?_⟩;rw [List.getElem?_set,if_neg,b];rintro rfl;rw [w] at b;obtain rfl:=Option.some.inj b;exact J hd
  rw [D,h.mem];unfold aF.item;rw [rT o,Ca o];cases r:y.gone with
  | true =>
   simp only;constructor
   ·rintro (rfl | ⟨l,h2⟩)
    ·exact ⟨by simp [A,d],c⟩
    ·exact ⟨by simp [l.1],l.2⟩
   ·rintro ⟨l,h2⟩;by_cases e:y.dot=i.dot
    ·left;cases y;cases i;simp only at e r h2 c A;rw [e,r,h2,c,A]
    ·refine .inr ⟨⟨?_,h2⟩,e⟩;simpa [e] using l
  | false =>
   simp only;constructor
   ·rintro (rfl | ⟨l,h2⟩)
    ·rw [A] at r;cases r
    ·rw [if_neg h2];exact l
   ·intro l;by_cases e:y.dot=i.dot
    ·rw [if_pos e,if_pos A] at l;cases l
    ·rw [if_neg e] at l;exact .inr ⟨l,e⟩
 ·rw [Vy o,F];rfl
 ·unfold aF.mI;rw [if_pos F]
 ·unfold aF.mI;rw [if_pos F]
theorem TY {I:List eP} {k:Nat} {i y:eP}:y∈I.take k++i::I.drop k↔y=i\/y∈I:=by
 rw [List.mem_append,List.mem_cons]
 conv=>rhs;rhs;rw [<- List.take_append_drop k I]
 rw [List.mem_append];constructor
 ·rintro (h | rfl | h)
  ·exact .inr (.inl h)
  ·exact .inl rfl
  ·exact .inr (.inr h)
 ·rintro (rfl | h | h)
  ·exact .inr (.inl rfl)
  ·exact .inl h
  ·exact .inr (.inr h)
theorem Items.ins {x:aF} {B:Nat} (o:mJ x B) {I:List eP} (h:Items x I) {i:eP} (hi:i.may=true) (j:x.has i.dot=false):Items (x.mI i).2 (I.take (pos (I.map eP.dot) i.dot)++i::I.drop (pos (I.map eP.dot) i.dot)):=by
 have p:∀ y∈I,y.dot≠i.dot:=fun y r e=>by
  have:=TX o ((h.mem y).1 r);rw [e,j] at this;cases this
 have m:x.live i.dot=none:=by
  cases w:x.live i.dot with
  | none=>rfl
  | some k=>rw [(o.lv _ _ w).1] at j;cases j
 have z:x.rS i.dot=false:=by
  cases w:x.rS i.dot with
  | false=>rfl
  | true=>rw [(o.tb _ w).1] at j;cases j
 refine ⟨?_,fun y=>?_⟩
 ·have:=h.So.ins (d:=i.dot) (by simpa using fun y r=>p y r);rw [show (I.take (pos (I.map eP.dot) i.dot)++i::I.drop (pos (I.map eP.dot) i.dot)).map eP.dot=Go.aq.ins (I.map eP.dot) i.dot by simp [Go.aq.ins,List.map_take,List.map_drop]];exact this
 ·rw [TY,h.mem];unfold aF.item;rw [rT o,Ca o];cases c:y.gone with
  | true =>
   simp only;constructor
   ·rintro (rfl | b)
    ·refine ⟨by simp [c,j],?_⟩;simp only [eP.may,Bool.and_eq_true,c,if_true,decide_eq_true_eq] at hi;exact hi.2
    ·exact ⟨by simp [b.1],b.2⟩
   ·rintro ⟨b,h2⟩;by_cases e:y.dot=i.dot
    ·left;rw [e,z] at b;simp [m,j] at b;have n:i.key=⟨[],[]⟩:=by
      simp only [eP.may,Bool.and_eq_true,b,if_true,decide_eq_true_eq] at hi;exact hi.2
     cases y;cases i;simp only at e c h2 n b;rw [e,c,h2,n,b]
    ·refine .inr ⟨?_,h2⟩;simpa [e] using b
  | false =>
   simp only;constructor
   ·rintro (rfl | b)
    ·rw [if_pos rfl,c,j];simp
    ·by_cases e:y.dot=i.dot
     ·rw [e,m] at b;cases b
     ·rw [if_neg e];exact b
   ·intro b;by_cases e:y.dot=i.dot
    ·rw [if_pos e] at b;left;cases l:i.gone with
     | true=>rw [l] at b;simp at b
     | false =>
      rw [l,e,j] at b;simp at b;cases y;cases i;simp only at e c b l;rw [e,c,l,b]
    ·rw [if_neg e] at b;exact .inr b
end
end
section
open Go.Am Go.aq Go.aB
theorem mJ.Yi {x:aF} {B:Nat} (o:mJ x B):x.ex.length<=B:=by
 obtain ⟨U,b,hm⟩:=o.sz;have:=mw (kK o.ok.r) fun d hd=>hm d ?_
 ·omega
 ·exact .inl hd
theorem Jy {α:Type} {f:α->List AV} {sz:Nat} (hf:∀ x,(f x).length=sz):∀ (l:List α) (k:Nat) (x:α),k<l.length->qQ (l.flatMap f) (k*sz) (f x)=(l.set k x).flatMap f:=by
 intro l k x c;have b:l.flatMap f=(l.take k).flatMap f++(f (l[k])++(l.drop (k+1)).flatMap f):=by
  conv=>lhs;rw [<- List.take_append_drop k l,List.flatMap_append,List.drop_eq_getElem_cons c,List.flatMap_cons]
 have d:((l.take k).flatMap f).length=k*sz:=by rw [dY hf,List.length_take,Nat.min_eq_left (by omega)]
 have:=Ku ((l.take k).flatMap f) (f l[k]) (f x) ((l.drop (k+1)).flatMap f) (by rw [hf,hf]);rw [d] at this;rw [b,<- List.append_assoc,this,List.set_eq_take_append_cons_drop,if_pos c,List.flatMap_append,List.flatMap_cons,List.append_assoc]
theorem VB {x:aF} {i:eP} (b:¬ ((x.live i.dot).isSome=true/\i.gone=true)) (h2:x.has i.dot=true):x.mI i=(false,x):=by
 unfold aF.mI;rw [if_neg (by simpa using b),if_pos (show fG x.v x.ex i.dot=true from h2)]
theorem RN {x:aF} {i:eP} (c:¬ ((x.live i.dot).isSome=true/\i.gone=true)) (h2:x.has i.dot=false):(x.mI i).1=true/\(x.mI i).2.v=(compact x.v (ins x.ex i.dot)).1/\(x.mI i).2.ex=(compact x.v (ins x.ex i.dot)).2:=by
 have b:¬ fG x.v x.ex i.dot=true:=by rw [show fG x.v x.ex i.dot=x.has i.dot from rfl,h2];simp
 unfold aF.mI;rw [if_neg (by simpa using c),if_neg b];split <;> exact ⟨rfl,rfl,rfl⟩
section
variable {F:List Nat} {s:AS} {q:Nat} {x:aF} {B:Nat}
theorem _root_.Go.Am.bg.there {α:Type} {f:α->List AV} {sz:Nat} {v:AV} {l:List α} (h:bg f sz s v l):∀ y∈ax v,s.h y≠none:=by
 intro y c;rcases h with ⟨_,b,rfl⟩ | ⟨la,rfl,d⟩
 ·simp [ax] at c
 ·obtain rfl:y=la:=by simpa [ax] using c
  rw [d];simp
theorem _root_.Go.Am.bg.ne {α:Type} {f:α->List AV} {sz:Nat} (e:sz≠0) {v:AV} {l:List α} {cs:List AV} (h:bg f sz s v l) (i:Am.Own s q cs):∀ y∈ax v,y ∉ [q]:=by
 intro y d hm;obtain rfl:=List.mem_singleton.1 hm;rcases h with ⟨_,b,rfl⟩ | ⟨la,rfl,c⟩
 ·simp [ax] at d
 ·obtain rfl:y=la:=by simpa [ax] using d
  rw [i] at c;simp only [Option.some.injEq,AO.cells.injEq] at c;exact e c.2.1.symm
theorem Px (h:oU F s q x) (o:mJ x B) (hB:B<=1000) (b6:∀ y∈F,s.h y≠none) (i:eP) (hi:i.may=true) :
  aa Tryz.prog je [.ptr (some (q,0)),.agg (bD i)] s fun r s'=>r=.bool (x.mI i).1/\bB [q] s s'/\∃ F',oU F' s' q (x.mI i).2/\(∀ y∈F',y∈F\/s.h y=none)/\∀ y∈F',s'.h y≠none:=by
 have b7:i.dot.may=true:=by simp only [eP.may,Bool.and_eq_true] at hi;exact hi.1
 refine aa.pre fun hw=>Fi _ _ _ _ ⟨rfl,aj.intro hw rfl fun l1 s2 F2=>?_⟩;obtain ⟨ok,Hy,w,iw,I,a,⟨b1,b2,b3⟩,⟨c1,c2,c3⟩,hI,a7,f,g⟩:=h.ext F2.ext;have hlen:=hI.len o;have cv:=o.Yi;have C:=ok.v.len;refine ⟨_,F2.own.at.aD (by simp [bD]),?_⟩;refine aa.use (Yh a.at C (c3.sl bp) (by omega) i.dot) ?_;rintro r s5 ⟨e5,n,rfl,O⟩ w5;have a5:=a.ext e5;have c5:=c3.ext e5;have b5:=b3.ext e5;have o5:Am.Own s5 l1 (bD i):=F2.own.ext e5;have Y:=F2.ext.trans e5;have a8:ak s5 q (0+17)=some iw:=by rw [a5.at.ak];exact FQ C w iw
 have p:∀ y∈F,s5.h y≠none:=fun y b Z=>b6 y b (Y.none Z);refine ⟨_,rfl,fun vs s'=>s'=s5/\∃ t,vs=[.bool t]/\(t=true->∃ (k:Nat) (j:eP),n=k/\I[k]? = some j/\j.dot=i.dot/\j.gone=false/\i.gone=true)/\(t=false->¬ ((x.live i.dot).isSome=true/\i.gone=true)),?_,?_⟩;rotate_left
 ·refine af.dec (fun Z=>?_) (fun Z=>⟨rfl,_,rfl,(fun h=>by cases h),fun _=>?_⟩)
  ·rcases O with ⟨rfl,_⟩ | ⟨k,rfl,j,hj,ab⟩
   ·omega
   ·obtain ⟨lj,oj,g8,g9⟩:=c5.sl bp |>.ix (by decide) bp dw qe hj;refine ⟨iw,a8,lj,oj,g8 _,j.gone,(g9 _ (Ext.refl _)).1 4 (by decide),af.mk (fun hg=>⟨i.gone,by rw [o5.at.ak];rfl,rfl,_,rfl,fun ht=>⟨k,j,rfl,hj,ab,by simpa using hg,ht⟩,fun ht h=>by rw [ht] at h;cases h.2⟩) (fun hg=>⟨rfl,_,rfl,(fun h=>by cases h),fun _ h=>?_⟩)⟩;have:=(hI.mem j).1 (List.mem_of_getElem? hj);unfold aF.item at this;have b8:j.gone=true:=by simpa using hg
    rw [b8,ab] at this;rw [(o.tb _ this.1).2] at h;cases h.1
  ·rcases O with ⟨rfl,aw⟩ | ⟨k,rfl,_⟩
   ·rintro ⟨h1,h2⟩;obtain ⟨k,hk⟩:=Option.isSome_iff_exists.1 h1;exact aw ⟨i.dot,k,false⟩ ((hI.mem _).2 hk) rfl
   ·omega
 rintro t s9 ⟨rfl,t',ht,a9,aw⟩;simp only [List.cons.injEq,AV.bool.injEq,and_true] at ht;subst ht;refine af.mk (fun ht=>?_) (fun ht=>?_)
 ·
  obtain ⟨k,j,rfl,hj,ab,b9,a'⟩:=a9 ht;have ba:i.key=⟨[],[]⟩:=by
   simp only [eP.may,Bool.and_eq_true,a',if_true,decide_eq_true_eq] at hi;exact hi.2
  obtain ⟨b',a0,Q,R⟩:=hI.set o hj b9 ab a' ba;have a1:k<I.length:=by
   rcases Nat.lt_or_ge k I.length with h | h
   ·exact h
   ·rw [List.getElem?_eq_none h] at hj;cases hj
  refine ⟨iw,a8,aW.iq gA bp kJ w5 (aW.nil (M:=[])) (by simp) (c5.sl bp) (by simp;omega) dw fun ad cw D ca _=>?_⟩;rw [List.nil_append] at D;have K:=D.eo.ext;rcases D.uQ with ⟨h0,_⟩ | ⟨la,S,ho⟩
  ·rw [h0] at a1;simp at a1
  have U:ax ad=[la]:=by rw [S];rfl
  have L:s9.h la=none:=D.new la (by simp [U]);have ae:la≠q:=by rintro rfl;rw [a5] at L;cases L
  have cb:ag T aI ad (.int .i64 (k:Nat))=some (.ptr (some (la,0+k*5))):=by
   rw [S];have:(0:Int)<=(k:Int)/\(k:Int)<(I.length:Int):=by omega
   simp only [ag,dw,qe,Option.bind_some];rw [if_pos this];simp
  refine ⟨bD i,(o5.ext K).at.aD (by simp [bD]),_,_,cb,⟨rfl,rfl⟩,?_⟩;rw [Nat.zero_add];have cc:=dY bp I;have cx:k*5+5<=I.length*5:=by omega
  refine bC.cS ca ho (by rw [cc];simp [bD];omega) fun eH G=>?_;have ao:eH.h la=some (.cells ((I.set k i).flatMap bD) 5 false):=by
   have e3:qQ (I.flatMap bD) (k*5) (bD i)=(I.set k i).flatMap bD:=Jy bp I k i a1;exact G.at.trans (by rw [<- e3])
  have bb:Am.Own eH q (x.v.map (.int .u64)++[w,iw]):=(a5.ext K).mut G.mut (by simpa using ae.symm);have gI:bg bD 5 eH ad (I.set k i):=.inr ⟨la,by rw [List.length_set];exact S,ao⟩;refine cP D.jJ.2 Mx (bC.own G.wf bb (by simp [C]) fun gl W=>?_);have M:bB [q] s gl:=by
   have cd:Ext s eH:=Ext.wr (Y.trans K) (Y.none L) G.mut;exact cd.mut.trans W.mut
  have bc:Am.Own gl q (x.v.map (.int .u64)++[w,ad]):=by
   have:=W.at;rw [fA,List.set_append_right _ _ (by simp [C])] at this;simp only [List.length_map,C,Nat.zero_add,Nat.reduceSub,List.set_cons_succ,List.set_cons_zero] at this;exact this
  have ce:bg aP 2 gl w x.ex:=(((b5.ext K).mut G.mut fun y b hm=>by
   obtain rfl:=List.mem_singleton.1 hm;exact p _ (f _ b) L)).mut W.mut ((b5.ext K).mut G.mut (fun y b hm=>by
   obtain rfl:=List.mem_singleton.1 hm;exact p _ (f _ b) L) |>.ne (by decide) bb)
  have cf:=gI.mut W.mut (by simpa [U] using ae);rw [a0];refine ⟨rfl,M,la::F,⟨by rw [Q,R];exact ok,by rw [Q,R];exact Hy,w,_,I.set k i,by rw [Q];exact bc,⟨b1,b2,by rw [R];exact ce⟩,⟨D.jJ.2,D.jJ.1,cf⟩,b',by simp [a7],fun y b=>by simp [f y b],fun y b=>by rw [U] at b;simp at b;simp [b]⟩,fun y b=>?_,fun y b=>?_⟩
  ·rcases List.mem_cons.1 b with rfl | b
   ·exact .inr (Y.none L)
   ·exact .inl b
  ·by_cases e1:y=q
   ·rw [e1,bc];simp
   ·rw [W.eq y e1];by_cases e2:y=la
    ·rw [e2,ao];simp
    ·rw [G.eq y e2];rcases List.mem_cons.1 b with rfl | b
     ·exact absurd rfl e2
     ·exact fun Z=>p y b (K.none Z)
 ·have bd:=aw ht;have hT:K9 s9 q [iw] x.v x.ex:=⟨C,fun y b n=>by obtain rfl:=List.mem_singleton.1 b;exact sO c5 n,w,a5,b1,b2,b5.sl br⟩;refine ⟨_,o5.at.aD (by simp [bD]),?_⟩;refine aa.use (RJ hT ok.v ok.r ok.m (by omega) b7) ?_;rintro r H ⟨rfl,al,hold,be⟩ ch;cases hh:fG x.v x.ex i.dot with
  | true =>
   have a2:=hold hh;rw [VB bd hh];exact ⟨_,rfl,af.yes (by simp) ⟨rfl,(Y.trans a2).mut,F,h.ext (Y.trans a2),fun y b=>.inl b,fun y b Z=>p y b (a2.none Z)⟩⟩
  | false =>
   obtain ⟨a0,Q,R⟩:=RN bd hh;obtain ⟨J,cy,w',a3,d1,d2,d3,d4⟩:=be hh;have bh:bg bD 5 H iw I:=c5.mut al (c5.ne (by decide) a5);have ae:l1 ∉ [q]:=by
    simp only [List.mem_singleton];rintro rfl;have:=a5.at.inj o5.at;have:=congrArg List.length this;simp [C,bD] at this
   have bi:Am.Own H l1 (bD i):=o5.mut al ae;have am:∀ s',Ext H s'->ak s' q (0+17)=some iw:=fun s' e=>by rw [(a3.ext e).at.ak];exact FQ J w' iw
   refine ⟨_,rfl,af.no (by simp) ⟨fun vs s'=>∃ left,vs=[left,.int .i64 (pos (I.map eP.dot) i.dot:Nat)]/\aJ s'/\aW bD 5 [] H s' left (I.take (pos (I.map eP.dot) i.dot)),?_,fun m vs s'=>∃ (k:Nat) (left:AV),vs=[left,.int .i64 (k:Nat)]/\k<=I.length/\m=I.length - k/\aJ s'/\aW bD 5 [] H s' left (I.take k)/\∀ (j:Nat) y,j<k->I[j]? = some y->y.dot.lt i.dot=true,I.length,⟨0,_,rfl,by omega,rfl,ch,by simpa using aW.nil,fun j y hj=>by omega⟩,?_⟩⟩
   ·rintro cz cA mG ⟨left,hl,ci,bj⟩;simp only [List.cons.injEq,AV.int.injEq,true_and,and_true] at hl;obtain ⟨rfl,rfl⟩:=hl;have ck:pos (I.map eP.dot) i.dot<=I.length:=by have:=Kq (I.map eP.dot) i.dot;simpa using this
    have cl:(I.take (pos (I.map eP.dot) i.dot)).length<=I.length:=by rw [List.length_take];omega
    refine ⟨_,(bi.ext bj.eo.ext).at.aD (by simp [bD]),aW.iu gA bp kJ ci bj (by simp) i (by omega) fun cB kC a4 cm _=>?_⟩;obtain ⟨cn,k1,k2⟩:=((bh.ext a4.eo.ext).sl bp).from bp dw qe c2 ck .i64
    refine ⟨iw,am _ a4.eo.ext,cn,k1,aW.iq gA bp kJ cm a4 (by simp) k2 (by simp;omega) dw fun a6 cC c cp _=>?_⟩;have bk:I.take (pos (I.map eP.dot) i.dot)++[i]++I.drop (pos (I.map eP.dot) i.dot)=I.take (pos (I.map eP.dot) i.dot)++i::I.drop (pos (I.map eP.dot) i.dot):=by simp
    rw [bk] at c;have bl:=a3.ext c.eo.ext;refine cP c.jJ.2 Mx (bC.own cp bl (by simp [J]) fun uw P=>?_);have bm:Am.Own uw q ((compact x.v (ins x.ex i.dot)).1.map (.int .u64)++[w',a6]):=by
     have:=P.at;rw [fA,List.set_append_right _ _ (by simp [J])] at this;simp only [List.length_map,J,Nat.zero_add,Nat.reduceSub,List.set_cons_succ,List.set_cons_zero] at this;exact this
    have ar:H.h q≠none:=by rw [a3];simp
    have bo:=c.uQ.mut P.mut fun y b hm=>by
     obtain rfl:=List.mem_singleton.1 hm;exact ar (c.new _ b)
    have d46:=(d3.ext c.eo.ext).mut P.mut ((d3.ext c.eo.ext).ne (by decide) bl);have M:bB [q] s uw:=Y.mut.trans (al.trans (c.eo.ext.mut.trans P.mut));have bs:=vQ o hi;have X:∀ y,H.h y=none->s9.h y=none:=fun y b=>by
     cases hq:s9.h y with
     | none=>rfl
     | some ob =>
      by_cases e:y=q
      ·subst e;exact absurd b ar
      ·rw [al.1 y ob (by simpa using e) hq] at b;cases b
    rw [a0];refine ⟨rfl,M,ax w'++(ax a6++F),⟨bs.ok,bs.Hy,w',a6,_,by rw [Q];exact bm,⟨d1,d2,by rw [R];exact d46⟩,⟨c.jJ.2,c.jJ.1,bo⟩,hI.ins o hi hh,by simp [a7],fun y b=>by simp [b],fun y b=>by simp [b]⟩,fun y b=>?_,fun y b=>?_⟩
    ·rcases List.mem_append.1 b with b | b
     ·exact .inr (Y.none (d4 y b))
     ·rcases List.mem_append.1 b with b | b
      ·exact .inr (Y.none (X y (c.new y b)))
      ·exact .inl b
    ·rcases List.mem_append.1 b with b | b
     ·exact d46.there y b
     ·rcases List.mem_append.1 b with b | b
      ·exact bo.there y b
      ·by_cases e:y=q
       ·rw [e,bm];simp
       ·rw [P.eq y e];intro Z;exact p y b (X y (c.eo.ext.none Z))
   ·rintro m left n c0 ⟨k,cr,hk,h6,rfl,cs,A,bx⟩;simp only [List.cons.injEq,AV.int.injEq,true_and,and_true] at hk;obtain ⟨rfl,rfl⟩:=hk;have b0:=bh.ext A.eo.ext;have cl:(I.take k).length<=I.length:=by rw [List.length_take];omega
    have fin:(∀ y,I[k]? = some y->y.dot.lt i.dot=false)->pos (I.map eP.dot) i.dot=k:=fun hq=>by
     refine pos_eq (by simpa using h6) (fun j d hj hd=>?_) fun d hd=>?_
     ·rw [List.getElem?_map,Option.map_eq_some_iff] at hd;obtain ⟨y,b,rfl⟩:=hd;exact bx j y hj b
     ·rw [List.getElem?_map,Option.map_eq_some_iff] at hd;obtain ⟨y,b,rfl⟩:=hd;exact hq y b
    refine ⟨iw,am _ A.eo.ext,_,(b0.sl bp).b_ dw _,af.dec (fun hl=>?_) (fun c4=>?_)⟩
    ·obtain ⟨y,b⟩:=cF (l:=I) (i:=k) (by omega);obtain ⟨ly,oy,g8,g9⟩:=(b0.sl bp).ix (by decide) bp dw qe b;refine ⟨iw,am _ A.eo.ext,ly,oy,g8 _,_,lP ((g9 _ (Ext.refl _)).2) (by decide),_,(bi.ext A.eo.ext).at.aD (by simp [bD]),?_⟩;refine aa.use (zm y.dot i.dot _) ?_;rintro r c6 ⟨rfl,an⟩ b4;refine ⟨_,rfl,af.mk (fun hb=>?_) (fun hb=>?_)⟩
     ·have ht:I.take (k+1)=I.take k++[y]:=by rw [List.take_add_one,b];rfl
      refine ⟨iw,am _ (A.eo.ext.trans an),ly,oy,g8 _,_,(g9 _ an).2,aW.iu gA bp kJ b4 (A.step an) (by simp) y (by omega) fun v' s' g' cu _=>?_⟩;refine ⟨I.length - (k+1),by omega,k+1,v',by rw [a_ (by omega)];rfl,by omega,rfl,cu,by rw [ht];exact g',fun j z hj hz=>?_⟩;rcases Nat.lt_or_ge j k with h | h
      ·exact bx j z h hz
      ·obtain rfl:j=k:=by omega
       rw [b] at hz;obtain rfl:=Option.some.inj hz;exact hb
     ·have hp:=fin fun z hz=>by rw [b] at hz;obtain rfl:=Option.some.inj hz;exact hb
      exact ⟨left,by rw [hp],b4,by rw [hp];exact A.step an⟩
    ·have hp:=fin fun z hz=>by rw [List.getElem?_eq_none (by omega)] at hz;cases hz
     exact ⟨left,by rw [hp],cs,by rw [hp];exact A⟩
end
end
section
set_option maxRecDepth 100000
set_option maxHeartbeats 4000000
open Go.Am
end
section
open Go.Am Go.aq Go.aB
def KD (x:aF) (k:Key) (l:List aO):Prop:=ew l/\∀ d,d∈l↔x.live d=some k
theorem KD.uniq {x:aF} {k:Key} {l l':List aO} (h:KD x k l) (b:KD x k l'):l=l':=Nw h.1 b.1 fun d=>by rw [h.2,b.2]
theorem nE.kd {x:aF} {k:Key} {l:List aO} (h:nE x k l):KD x k l:=⟨h.So,h.mem⟩
theorem KD.has {x:aF} {B:Nat} (o:mJ x B) {k:Key} {l:List aO} (h:KD x k l) {d:aO} (hd:d∈l):x.has d=true:=(o.lv d k ((h.2 d).1 hd)).1
theorem KD.len {x:aF} {B:Nat} (o:mJ x B) {k:Key} {l:List aO} (h:KD x k l):l.length<=B:=by
 obtain ⟨U,b,hm⟩:=o.sz;have:=mw (kK h.1) fun d hd=>hm d (.inr (.inl (by rw [(h.2 d).1 hd];rfl)));omega
def qm (k:Key) (i:eP):Bool:=!i.gone&&decide (i.key=k)
theorem Jz {x:aF} {I:List eP} (h:Items x I) (k:Key):KD x k ((I.filter (qm k)).map eP.dot):=by
 refine ⟨h.So.sub (List.Sublist.map _ List.filter_sublist),fun d=>?_⟩;simp only [List.mem_map,List.mem_filter,qm,Bool.and_eq_true,Bool.not_eq_true',decide_eq_true_eq];constructor
 ·rintro ⟨i,⟨hi,b,c⟩,rfl⟩;have:=(h.mem i).1 hi;unfold aF.item at this;rw [b] at this;rw [this,c]
 ·intro hd;exact ⟨⟨d,k,false⟩,⟨(h.mem _).2 hd,rfl,rfl⟩,rfl⟩
section
variable {F:List Nat} {s:AS} {q:Nat} {x:aF} {B:Nat}
theorem oU.open (h:oU F s q x):∃ w iw I,At s q (x.v.map (.int .u64)++[w,iw])/\iw≠.emp/\bg bD 5 s iw I/\Items x I/\(∀ s',Ext s s'->ak s' q (0+17)=some iw)/\K9 s q [iw] x.v x.ex:=by
 obtain ⟨ok,Hy,w,iw,I,a,⟨c,d,i⟩,⟨m,c2,b⟩,j,k,f,g⟩:=h;exact ⟨w,iw,I,a.at,c2,b,j,fun s' e=>by rw [(a.ext e).at.ak];exact FQ ok.v.len w iw,ok.v.len,fun y l n=>by obtain rfl:=List.mem_singleton.1 l;exact sO b n,w,a,c,d,i.sl br⟩
theorem Ea (h:oU F s q x) (o:mJ x B) (X:B<=1000) (k:Key):aa Tryz.prog dD [.ptr (some (q,0)),.agg (fm k)] s fun v s'=>∃ l,KD x k l/\aW bD 5 [] s s' v (l.map ee):=by
 obtain ⟨w,iw,I,a,c2,K,D,hr,_⟩:=h.open;have hlen:=D.len o;refine aa.pre fun L=>DF _ _ _ _ ⟨rfl,aj.intro L rfl fun l1 s2 d=>⟨fun m vs s'=>∃ (i:Nat) (v:AV),vs=[v,.int .i64 (i:Nat)]/\i<=I.length/\m=I.length - i/\aJ s'/\aW bD 5 [] s2 s' v ((((I.take i).filter (qm k)).map eP.dot).map ee),I.length,⟨0,_,rfl,by omega,rfl,d.wf,by simpa using aW.nil⟩,?_⟩⟩;rintro m M n s8 ⟨i,v',hi,Y,rfl,G,c⟩;simp only [List.cons.injEq,AV.int.injEq,true_and,and_true] at hi;obtain ⟨rfl,rfl⟩:=hi;have e:=d.ext.trans c.eo.ext;have H:=(K.ext e).sl bp;refine ⟨iw,hr _ e,_,H.b_ dw _,af.dec (fun O=>?_) (fun Q=>?_)⟩
 ·obtain ⟨y,J⟩:=cF (l:=I) (i:=i) (by omega);obtain ⟨p,r,z,A⟩:=H.ix (by decide) bp dw qe J;have R:=List.length_filter_le (qm k) (I.take i);have S:=List.length_take_le i I;have ht:((((I.take (i+1)).filter (qm k)).map eP.dot).map ee)=((((I.take i).filter (qm k)).map eP.dot).map ee)++if qm k y=true then [ee y.dot] else []:=by
   rw [List.take_add_one,J,List.filter_append,Option.toList_some,List.map_append,List.map_append];congr 1;cases U:qm k y <;> simp [List.filter_cons,U]
  refine ⟨fun vs s'=>s'=s8/\vs=[.bool (qm k y)],?_,iw,hr _ e,p,r,z _,y.gone,(A _ (Ext.refl _)).1 4 (by decide),af.mk (fun j=>⟨iw,hr _ e,p,r,z _,fm y.key,VA ((A _ (Ext.refl _)).2) 2 2 (by decide),_,(d.own.ext c.eo.ext).at.aD (by simp [fm]),_,Hx y.key k,rfl,by simp only [Bool.not_eq_true'] at j;simp [qm,j]⟩) (fun j=>⟨rfl,by simp only [Bool.not_eq_false'] at j;simp [qm,j]⟩)⟩;rintro b fH ⟨rfl,hb⟩;simp only [List.cons.injEq,AV.bool.injEq,and_true] at hb;subst hb;refine af.mk (fun hb=>?_) (fun hb=>?_)
  ·refine ⟨iw,hr _ e,p,r,z _,_,lP ((A _ (Ext.refl _)).2) (by decide),_,Hz y.dot,aW.iu gA bp kJ G c (by simp) (ee y.dot) (by simp;omega) fun v' s' W w' _=>?_⟩;exact ⟨I.length - (i+1),by omega,i+1,v',by rw [a_ (by omega)];rfl,by omega,rfl,w',by rw [ht,if_pos hb];exact W⟩
  ·exact ⟨I.length - (i+1),by omega,i+1,M,by rw [a_ (by omega)];rfl,by omega,rfl,G,by rw [ht,if_neg (by rw [hb];simp),List.append_nil];exact c⟩
 ·rw [List.take_of_length_le (by omega)] at c;exact ⟨_,Jz D k,c.uQ,d.ext.mut.trans c.eo,fun la C=>d.ext.none (c.new la C)⟩
theorem oU.Qu {s':AS} {v:AV} {l:List eP} (h:oU F s q x) (hs:Sl bD 5 s v l) (m:bB [q] s s'):Sl bD 5 s' v l:=by
 obtain ⟨ok,Hy,w,iw,I,a,⟨i,j,d⟩,⟨k,c2,e⟩,_⟩:=h;refine HA a (fun c b n=>?_) hs m;rcases List.mem_append.1 b with b | b
 ·obtain ⟨y,_,rfl⟩:=List.mem_map.1 b;simp
 ·simp only [List.mem_cons,List.not_mem_nil,or_false] at b;rcases b with rfl | rfl
  ·exact sO d n
  ·exact sO e n
theorem Qx (hw : aJ s) (h : oU F s q x) (o : mJ x B) (C : ∀ y ∈ F, s.h y ≠ none) {v : AV} {L : List eP} (hv : Sl bD 5 s v L) (hB : B + L.length <= 1000) (hL : ∀ i ∈ L, i.may = true) {K : AS -> Prop}
    (hK : ∀ s' F', oU F' s' q (x.ef L).2 -> (∀ y ∈ F', y ∈ F \/ s.h y = none) -> (∀ y ∈ F', s'.h y ≠ none) -> bB [q] s s' -> Sl bD 5 s' v L -> aJ s' -> K s') :
    bu fun k J => k J [.int .i64 0] s /\
     ∀ D : Nat, ∀ d : Int, ∀ b : AS, k D [.int .i64 d] b ->
     aV .i64 (aL T aI v b) fun M => af (decide ((d : Int) < M))
     (bE (ag T aI v (.int .i64 d)) fun O Q => aS (aD b O Q 5) fun R => aa Tryz.prog je [(.ptr (some (q, 0))), (.agg R)] b fun S G => ∃ U : Bool, S = .bool U /\ (∃ m', m' < D /\ k m' [(.int .i64 (IntKind.wrap .i64 (d + 1)))] G))
     (K b) := by
  have p : ∀ (i : Nat) y, L[i]? = some y -> (x.ef (L.take (i + 1))).2 = ((x.ef (L.take i)).2.mI y).2 := by
    intro i y w;unfold aF.ef;rw [List.take_add_one, w, Option.toList_some, List.foldl_append];rfl
  refine ⟨fun m vs s' => ∃ i : Nat, vs = [.int .i64 (i : Nat)] /\ i <= L.length /\ m = L.length - i /\ aJ s' /\ bB [q] s s' /\ Sl bD 5 s' v L /\ ∃ F', oU F' s' q (x.ef (L.take i)).2 /\ (∀ y ∈ F', y ∈ F \/ s.h y = none) /\ ∀ y ∈ F', s'.h y ≠ none, L.length, ⟨0, rfl, by omega, rfl, hw, bB.refl _ _, hv, F, h, fun y w => .inl w, C⟩, ?_⟩;rintro m n b ⟨i, hi, h6, rfl, W, A, c, F', H, hn, ht⟩;simp only [List.cons.injEq, AV.int.injEq, true_and, and_true] at hi;subst hi;refine ⟨_, c.b_ dw _, af.dec (fun ad => ?_) (fun ae => ?_)⟩
  · obtain ⟨y, w⟩ := cF (l := L) (i := i) (by omega);obtain ⟨ly, oy, k8, k9⟩ := c.ix (by decide) bp dw qe w;have ok : mJ (x.ef (L.take i)).2 (B + (L.take i).length) := o.ef _ fun j hj => hL j (List.mem_of_mem_take hj);have al := List.length_take_le i L;have am : (L.take i).length <= L.length := by rw [List.length_take]; omega
    refine ⟨ly, oy, k8 _, _, (k9 _ (Ext.refl _)).2, ?_⟩;refine aa.use (Px H ok (by omega) ht y (hL y (List.mem_of_getElem? w))) ?_;rintro r G ⟨rfl, m32, F2, X, Y, Z⟩ ab;refine ⟨_, rfl, L.length - (i + 1), by omega, i + 1, by rw [a_ (by omega)]; rfl, by omega, rfl, ab, A.trans m32, H.Qu c m32, F2, by rw [p i y w]; exact X, fun z hz => ?_, Z⟩;have an : s.h q ≠ none := C q h.qF;rcases Y z hz with I | I
    · exact hn z I
    · right;cases hq : s.h z with
      | none => rfl
      | some ob =>
        by_cases e : z = q
        · subst e;exact absurd I (ht _ H.qF)
        · rw [A.1 z ob (by simpa using e) hq] at I; cases I
  · rw [List.take_of_length_le (by omega)] at H;exact hK b F' H hn ht A c W
theorem Py (h:oU F s q x) (o:mJ x B) (G:∀ y∈F,s.h y≠none) (hB:B<=450) (k:Key) (d:aO) (X:k.may=true) (hd:d.may=true) :
  aa Tryz.prog p_ [.ptr (some (q,0)),.agg (fm k),.agg (aP d)] s fun v s'=>∃ l,KD x k l/\Sl bD 5 s' v (⟨d,k,false⟩::l.map ee)/\bB [q] s s'/\∃ F',oU F' s' q (x.ef (⟨d,k,false⟩::l.map ee)).2/\(∀ y∈F',y∈F\/s.h y=none)/\∀ y∈F',s'.h y≠none:=by
 refine aa.pre fun Y=>Fl _ _ _ _ _ ⟨rfl,aj.intro Y rfl fun l1 s2 C=>⟨rfl,aj.intro C.wf rfl fun l3 s4 D=>?_⟩⟩;have S:=C.ext.trans D.ext;have h4:=h.ext S;obtain ⟨w0,Z,I0,_,_,_,H,_⟩:=h.open;have c:=Jz H k;generalize ab:(I0.filter (qm k)).map eP.dot=l at c;refine ⟨fun z _ v s'=>(z=3->∃ l,v=.slc (some (l,0)) 1 1 true/\At s' l (bD ⟨d,k,false⟩))/\(z=6->Sl bD 5 s' v (l.map ee)),fun z _ v=>z=3->∃ l,v=.slc (some (l,0)) 1 1 true,?_,_,D.own.at.aD (by simp [aP]),_,(C.own.ext D.ext).at.aD (by simp [fm]),_,HC d k,fun s8 e8 w8 _=>?_,⟨.slc (some (0,0)) 1 1 true,fun _=>⟨0,rfl⟩⟩,fun ad U=>⟨_,(C.own.ext D.ext).at.aD (by simp [fm]),fun ae I al _=>?_,⟨.undef,(fun h=>by cases h)⟩,fun am _ eH J K W=>?_⟩⟩
 ·rintro z ks v s s' e ⟨h1,h2⟩;refine ⟨fun L=>?_,fun L=>(h2 L).ext e⟩;obtain ⟨l,a,b⟩:=h1 L;exact ⟨l,a,b.ext e⟩
 ·exact ⟨_,kY gA (bp _) (kJ _),aj.intro w8 rfl fun nN an n=>⟨n.ext,⟨(fun _=>⟨nN,rfl,n.own.at⟩),(fun h=>by cases h)⟩,fun _=>⟨nN,rfl⟩⟩⟩
 ·refine (Ea (h4.ext I) o (by omega) k).mono ?_;rintro ao ar ⟨l',M,g⟩;obtain rfl:=M.uniq c;exact ⟨g.eo.ext,⟨(fun h=>by cases h),fun _=>g.sl bp⟩,(fun h=>by cases h)⟩
 obtain ⟨aw,rfl,hi⟩:=W.1.1 rfl;have hg:=W.2.1.2 rfl;have a0:=c.len o;refine HB K hi hg (by simp;omega) fun v20 gl p O Q=>?_;have j:=S.trans (J.trans Q);have r:∀ i∈(⟨d,k,false⟩:eP)::l.map ee,i.may=true:=by
  intro i hi;rcases List.mem_cons.1 hi with rfl | hi
  ·simp [eP.may,X,hd]
  ·obtain ⟨y,A,rfl⟩:=List.mem_map.1 hi;exact uE (aF.qL (c.has o A))
 refine Qx O (h.ext j) o (fun y A R=>G y A (j.none R)) p (by simp;omega) r fun s' F' hR R ht m hs w=>?_;exact ⟨l,c,hs,j.mut.trans m,F',hR,fun y A=>(R y A).imp id fun h=>j.none h,ht⟩
theorem IG (h:oU F s q x) (o:mJ x B) (d:∀ y∈F,s.h y≠none) (z:B<=450) (k:Key) :
  aa Tryz.prog iQ [.ptr (some (q,0)),.agg (fm k)] s fun v s'=>∃ l,KD x k l/\Sl bD 5 s' v (l.map ee)/\bB [q] s s'/\∃ F',oU F' s' q (x.ef (l.map ee)).2/\(∀ y∈F',y∈F\/s.h y=none)/\∀ y∈F',s'.h y≠none:=by
 refine aa.pre fun j=>Ae _ _ _ _ ⟨rfl,aj.intro j rfl fun l1 s2 e=>⟨_,e.own.at.aD (by simp [fm]),?_⟩⟩;refine aa.use (Ea (h.ext e.ext) o (by omega) k) ?_;rintro A C ⟨l,kd,g⟩ n;have c:=e.ext.trans g.eo.ext;have p:=kd.len o;refine Qx n (h.ext c) o (fun y b i=>d y b (c.none i)) (g.sl bp) (by simp;omega) (yJ fun y b=>aF.qL (kd.has o b)) fun s' F' r i ht m hs w=>?_;exact ⟨l,kd,hs,c.mut.trans m,F',r,fun y b=>(i y b).imp id fun h=>c.none h,ht⟩
end
end
section
open Go.Am Go.aq Go.aB
section
variable {F:List Nat} {s:AS} {p:Nat} {x:aF} {B:Nat}
end
/-! ### the reference's live items and keys -/
section
variable {F:List Nat} {s:AS} {q:Nat} {x:aF} {B:Nat}
def kQ (I:List eP):List eP:=I.filter fun i=>!i.gone
theorem Nx (h:oU F s q x) (o:mJ x B) (R:B<=1000):aa Tryz.prog oD [.ptr (some (q,0))] s fun v s'=>∃ I,Items x I/\aW bD 5 [] s s' v (kQ I):=by
 obtain ⟨w,iw,I,a,c2,D,e,hr,_⟩:=h.open;have hlen:=e.len o;refine aa.pre fun G=>DC _ _ _ ⟨fun m vs s'=>∃ (i:Nat) (v:AV),vs=[v,.int .i64 (i:Nat)]/\i<=I.length/\m=I.length - i/\aJ s'/\aW bD 5 [] s s' v (kQ (I.take i)),I.length,⟨0,_,rfl,by omega,rfl,G,by simpa [kQ] using aW.nil⟩,?_⟩;rintro m H n s6 ⟨i,v',hi,S,rfl,j,b⟩;simp only [List.cons.injEq,AV.int.injEq,true_and,and_true] at hi;obtain ⟨rfl,rfl⟩:=hi;have c:=b.eo.ext;have k:=(D.ext c).sl bp;refine ⟨iw,hr _ c,_,k.b_ dw _,af.dec (fun J=>?_) (fun K=>?_)⟩
 ·obtain ⟨y,p⟩:=cF (l:=I) (i:=i) (by omega);obtain ⟨r,z,A,C⟩:=k.ix (by decide) bp dw qe p;have L:=List.length_filter_le (fun i:eP=>!i.gone) (I.take i);have M:=List.length_take_le i I;have ht:kQ (I.take (i+1))=kQ (I.take i)++if y.gone=false then [y] else []:=by
   unfold kQ;rw [List.take_add_one,p,List.filter_append,Option.toList_some];congr 1;cases O:y.gone <;> simp [List.filter_cons,O]
  refine ⟨iw,hr _ c,r,z,A _,y.gone,(C _ (Ext.refl _)).1 4 (by decide),af.mk (fun d=>?_) (fun d=>?_)⟩
  ·refine ⟨iw,hr _ c,r,z,A _,_,(C _ (Ext.refl _)).2,aW.iu gA bp kJ j b (by simp) y (by unfold kQ;omega) fun v' s' Q w' _=>?_⟩;exact ⟨I.length - (i+1),by omega,i+1,v',by rw [a_ (by omega)];rfl,by omega,rfl,w',by rw [ht,if_pos (by simpa using d)];exact Q⟩
  ·exact ⟨I.length - (i+1),by omega,i+1,H,by rw [a_ (by omega)];rfl,by omega,rfl,j,by rw [ht,if_neg (by simpa using d),List.append_nil];exact b⟩
 ·rw [List.take_of_length_le (by omega)] at b;exact ⟨I,e,b⟩
theorem JA {I:List eP} (h:Items x I) (i:eP):i∈kQ I↔i.gone=false/\x.live i.dot=some i.key:=by
 unfold kQ;rw [List.mem_filter,h.mem];unfold aF.item;cases i.gone <;> simp
end
end
section
set_option maxRecDepth 100000
set_option maxHeartbeats 4000000
open Go.Am
end
section
open Go.Am Go.aq Go.aB
section
variable {s0 s s':AS} {p q:Nat} {x y:aF} {B:Nat}
end
end
section
open Go.Am Go.aq Go.aB Go.ChangeShapes Go.WideShapes Go.ChangeAt Go.RowKit
end
section
open Go.Am Go.aq Go.aB Go.ChangeShapes Go.WideShapes Go.ChangeAt Go.RowKit
end
section
open Go.Am Go.aq Go.aB
section
variable {s0 s:AS} {p q:Nat} {x:aF} {B:Nat} {F G:List Nat}
end
end
end Go.Proofs.YtohgmogbabkkeaaGreat

section
namespace Go.Am
end Go.Am
namespace Go.Proofs.YtohgmogbabkkeaaGreat
open Go.Am Go.aq Go.aB
section
variable {s0 s s':AS} {p q:Nat} {x y:aF} {B:Nat}
end
end Go.Proofs.YtohgmogbabkkeaaGreat
end

namespace Go.Proofs.YtohgmogbabkkeaaGreat
section
open Go.Am Go.aq Go.aB
end
section
set_option maxRecDepth 100000
set_option maxHeartbeats 4000000
open Go.Am
end
section
open Go.Am Go.aq Go.aB
/-! ### plainly -/
/-! ### at a set -/
section
variable {s0 s:AS} {F:List Nat} {p:Nat} {x:aF} {B:Nat}
end
end
section
open Go.Am Go.aq Go.aB
/-! ### plainly -/
section
variable {v:List Int} {ex:List aO} {L:List eP} {x:aF}
end
/-! ### in memory -/
end
section
open Go.Am Go.aq Go.aB
end
end Go.Proofs.YtohgmogbabkkeaaGreat
namespace Go.Proofs.YtohgmogbabkkeaaGreat.SI
section
open Go.Am Go.aq Go.aB Go.aq.SI
section
variable {s0 s:AS} {a:AV} {l:List eP} {g:FuncId} {cap:List AV} {P:eP->Bool}
end
end
end Go.Proofs.YtohgmogbabkkeaaGreat.SI
namespace Go.Proofs.YtohgmogbabkkeaaGreat
section
open Go.Am Go.aq Go.aB
/-! ### buckets -/
section
variable {F G:List Nat} {s:AS} {p q:Nat} {x:aF} {B:Nat}
end
/-! ### dests -/
structure DG where
 dot:aO
 dev:List UInt8
 deriving DecidableEq
def qM (e:DG):List AV:=[.int .i64 e.dot.r,.int .u64 e.dot.c,.str e.dev]
theorem eE (e:DG):(qM e).length=3:=rfl
theorem uG (e:DG):(qM e).all AV.one=true:=rfl
theorem uH:CQ T bZ xI 3 32:=⟨gh,C2,WY,⟨_,_,Vf,rfl,rfl⟩,by decide,by decide⟩
theorem JB (d:aO) (t:List UInt8):aY T xI [(0,.agg (aP d)),(1,.str t)]=some (.agg (qM ⟨d,t⟩)):=by kernel_rfl
structure qu (x:aF) (t:List UInt8) (L:List DG):Prop where
 So:ew (L.map DG.dot)
 mem:∀ e,e∈L↔x.live e.dot=some ⟨t,e.dev⟩
theorem RP (d:aO) (k:Key) {c:Nat} {t:List UInt8} {s:AS} (j:At s c [.str t]):aa Tryz.prog kR [.agg (aP d),.agg (fm k),.ptr (some (c,0))] s fun v s'=>v=.bool (k.t==t)/\Ext s s':=by
 refine aa.pre fun l=>ze _ _ _ _ _ ⟨rfl,aj.intro l rfl fun l1 s2 b=>⟨rfl,aj.intro b.wf rfl fun l3 s4 e=>?_⟩⟩;have i:=b.ext.trans e.ext;exact ⟨k.t,by rw [e.own.at.ak];rfl,t,by rw [(j.ext i).ak];rfl,rfl,i⟩
section
variable {F G:List Nat} {s:AS} {p q:Nat} {x:aF} {B:Nat}
theorem aW.back {α:Type} {f:α->List AV} {sz:Nat} {s0 s1 s:AS} {v:AV} {l:List α} (h:aW f sz [] s1 s v l) (e:Ext s0 s1):aW f sz [] s0 s v l:=⟨h.uQ,e.mut.trans h.eo,fun la b=>e.none (h.new la b)⟩
theorem TZ (h:ic F s p x) (o:mJ x B) (hB:B<=1000) (t:List UInt8) :
  aa Tryz.prog cZ [.ptr (some (p,0)),.str t] s fun v s'=>∃ L,qu x t L/\aW qM 3 [] s s' v L/\L.length<=x.nl:=by
 obtain ⟨S,U⟩:=h.Yf o;refine aa.pre fun W=>Cd _ _ _ _ (aj.intro W rfl fun l1 s2 C=>?_);refine aa.use (nD (h.ext C.ext)) ?_;rintro v s4 ⟨rfl,rfl⟩ w4;have X:=C.own.at;refine ⟨_,rfl,af.no rfl ?_⟩;refine aa.use (FP (P:=fun _ k=>k.t==t) (h.ext C.ext) (by omega) fun d k s' e w=>RP d k (X.ext e)) ?_;rintro v6 s7 ⟨D,J,G,Q,Y⟩ Z;have h7:=h.ext (C.ext.trans J.eo.ext);have H:=J.sl br;have key:∀ d∈D,∃ k,x.live d=some k/\k.t=t:=by
  intro d hd;have:=(Q d).1 hd;unfold aF.held at this;cases A:x.live d with
  | none=>rw [A] at this;cases this
  | some k=>rw [A] at this;exact ⟨k,rfl,by simpa using this⟩
 let f:aO->DG:=fun d=>⟨d,((x.live d).getD ⟨[],[]⟩).d⟩
 refine ⟨_,H.b_ bJ _,fun m vs s'=>∃ (i:Nat) (v:AV),vs=[v,.int .i64 (i:Nat)]/\i<=D.length/\m=D.length - i/\aJ s'/\aW qM 3 [] s7 s' v ((D.take i).map f),D.length,⟨0,_,rfl,by omega,rfl,Z,by simpa using aW.nil⟩,?_⟩;rintro m ab n ad ⟨i,v',hi,h6,rfl,K,b⟩;simp only [List.cons.injEq,AV.int.injEq,true_and,and_true] at hi;obtain ⟨rfl,rfl⟩:=hi;refine af.dec (fun ae=>?_) (fun al=>?_)
 ·obtain ⟨d,A⟩:=cF (l:=D) (i:=i) (by omega);obtain ⟨la,oa,k8,k9⟩:=H.ix (by decide) br bJ kN A;refine ⟨la,oa,k8 _,_,(k9 _ b.eo.ext).2,jK K rfl rfl rfl fun am gw j=>?_⟩;have M:=b.eo.ext.trans j.ext;obtain ⟨_,_,_,pc,lm,tm,a,_,_,_,_,_,⟨es,c,hm,hg,_⟩,_⟩:=h7.ext M;obtain ⟨k,I,y⟩:=key d (List.mem_of_getElem? A);have z:dA T cE (.map (some lm)) (.agg (aP d)) false gw=some (.agg (fm k)):=by
   have:=hm.find vP d false;rw [hg,I] at this;exact this
  have O:f d=⟨d,k.d⟩:=by simp [f,I]
  have ht:(D.take (i+1)).map f=(D.take i).map f++[⟨d,k.d⟩]:=by rw [List.take_add_one,A,Option.toList_some,List.map_append,<- O];rfl
  have r:=j.own.at;refine ⟨_,r.aD (by simp [aP]),some lm,by rw [a.at.ak];rfl,_,r.aD (by simp [aP]),_,z,k.d,rfl,_,JB d k.d,?_⟩;refine aW.iu uH eE uG j.wf (b.step j.ext) (by simp) ⟨d,k.d⟩ (by simp;omega) fun v' s' g' w' _=>?_;exact ⟨D.length - (i+1),by omega,i+1,v',by rw [a_ (by omega)];rfl,by omega,rfl,w',by rw [ht];exact g'⟩
 ·rw [List.take_of_length_le (by omega)] at b;refine ⟨D.map f,⟨?_,fun e=>?_⟩,aW.back b (C.ext.trans J.eo.ext),by rw [List.length_map];omega⟩
  ·rw [List.map_map];have:D.map (DG.dot∘f)=D:=by
    conv=>rhs;rw [<- List.map_id D]
    rfl
   rw [this];exact G
  ·rw [List.mem_map];constructor
   ·rintro ⟨d,hd,rfl⟩;obtain ⟨k,I,y⟩:=key d hd;simp only [f,I];cases k;simp only at y;subst y;rfl
   ·intro R;refine ⟨e.dot,(Q _).2 (by simp [aF.held,R]),?_⟩;simp only [f,R];rfl
theorem Lq (h:oU G s q x) (o:mJ x B) (O:B<=1000) (t:List UInt8) :
  aa Tryz.prog c_ [.ptr (some (q,0)),.str t] s fun v s'=>∃ L,qu x t L/\aW qM 3 [] s s' v L/\L.length<=B:=by
 refine Cg _ _ _ _ ?_;refine aa.use (Nx h o O) ?_;rintro Z s2 ⟨I,A,K⟩ w2;have D:=A.len o;have F:(kQ I).length<=I.length:=List.length_filter_le _ _;have r:=K.sl bp
 let f:eP->List DG:=fun i=>if i.key.t=t then [⟨i.dot,i.key.d⟩] else []
 have b:∀ l:List eP,(l.flatMap f).length<=l.length:=by
  intro l
  induction l with
  | nil=>simp
  | cons a l C =>
   have h1:(f a).length<=1:=by simp only [f];split <;> simp
   rw [List.flatMap_cons,List.length_append,List.length_cons];omega
 refine ⟨fun m vs s'=>∃ (i:Nat) (v:AV),vs=[v,.int .i64 (i:Nat)]/\i<=(kQ I).length/\m=(kQ I).length - i/\aJ s'/\aW qM 3 [] s2 s' v (((kQ I).take i).flatMap f),(kQ I).length,⟨0,_,rfl,by omega,rfl,w2,by simpa using aW.nil⟩,?_⟩;rintro m H n Q ⟨i,v',hi,h6,rfl,w,c⟩;simp only [List.cons.injEq,AV.int.injEq,true_and,and_true] at hi;obtain ⟨rfl,rfl⟩:=hi;refine ⟨_,r.b_ dw _,af.dec (fun R=>?_) (fun S=>?_)⟩
 ·obtain ⟨j,M⟩:=cF (l:=kQ I) (i:=i) (by omega);obtain ⟨la,oa,J,U⟩:=r.ix (by decide) bp dw qe M;have step:=List.take_add_one (l:=kQ I) (i:=i);rw [M,Option.toList_some] at step;have y:=U _ c.eo.ext;refine ⟨la,oa,J _,j.key.t,y.1 2 (by decide),?_⟩;have W:=b ((kQ I).take i);have X:=List.length_take_le i (kQ I);refine af.mk (fun hb=>?_) (fun hb=>?_)
  ·have k:j.key.t=t:=by simpa using hb
   refine ⟨la,oa,J _,_,lP y.2 (by decide),la,oa,J _,j.key.d,y.1 3 (by decide),_,JB j.dot j.key.d,?_⟩;refine aW.iu uH eE uG w c (by simp) ⟨j.dot,j.key.d⟩ (by omega) fun v' s' Y w' _=>?_;refine ⟨(kQ I).length - (i+1),by omega,i+1,v',by rw [a_ (by omega)];rfl,by omega,rfl,w',?_⟩;rw [step,List.flatMap_append];simpa [f,k] using Y
  ·have k:¬ j.key.t=t:=by simpa using hb
   refine ⟨(kQ I).length - (i+1),by omega,i+1,H,by rw [a_ (by omega)];rfl,by omega,rfl,w,?_⟩;rw [step,List.flatMap_append];simpa [f,k] using c
 ·rw [List.take_of_length_le (by omega)] at c;have z:ew ((kQ I).map eP.dot):=A.So.sublist (List.Sublist.map _ List.filter_sublist);refine ⟨(kQ I).flatMap f,⟨?_,fun e=>?_⟩,aW.back c K.eo.ext,Nat.le_trans (b _) (Nat.le_trans F D)⟩
  ·have:∀ l:List eP,(((l.flatMap f)).map DG.dot).Sublist (l.map eP.dot):=by
    intro l
    induction l with
    | nil=>simp
    | cons a l C =>
     simp only [List.flatMap_cons,List.map_append,List.map_cons,f] at C ⊢;split
     ·simpa using C
     ·simpa using C.trans (List.sublist_cons_self _ _)
   exact z.sublist (this _)
  ·rw [List.mem_flatMap];constructor
   ·rintro ⟨j,hj,p⟩;simp only [f] at p;split at p
    ·rename_i y;obtain rfl:=List.mem_singleton.1 p;rw [((JA A j).1 hj).2,<- y]
    ·cases p
   ·intro p;exact ⟨⟨e.dot,⟨t,e.dev⟩,false⟩,(JA A _).2 ⟨rfl,p⟩,by simp [f]⟩
end
end
section
open Go.Am Go.aq Go.aB
end
end Go.Proofs.YtohgmogbabkkeaaGreat

section
namespace Go.Am
section
variable {T:TT} {t el:TypeId} {sz qR:Nat} (ht:CQ T t el sz qR)
include ht
end
end Go.Am
namespace Go.Proofs.YtohgmogbabkkeaaGreat
open Go.Am Go.aq Go.aB
def qv (n:Int):List AV:=[.int .u8 n]
theorem cg (n:Int):(qv n).length=1:=rfl
theorem Lr (n:Int):(qv n).all AV.one=true:=rfl
theorem gY:CQ T av sE 1 1:=⟨aT,eN,KB,⟨_,_,GP,rfl,rfl⟩,by decide,by decide⟩
theorem tQ (l:List Int):(l.flatMap qv).length=l.length*1:=dY cg l
abbrev gZ (s:AS) (v:AV) (l:List Int):Prop:=Sl qv 1 s v l
abbrev Ag (s0 s:AS) (v:AV) (l:List Int):Prop:=aW qv 1 [] s0 s v l
def zn (s:AS) (v:AV) (n:Nat) (l:List Int) (lo:Option Nat):Prop :=
 match lo with
 | none=>v=.slc none 0 0 true/\n=0/\l=[]
 | some lo=>v=.slc (some (lo,0)) l.length n false/\l.length<=n/\∃ rest,s.h lo=some (.cells (l.flatMap qv++rest) 1 false)/\rest.length=(n - l.length)*1
theorem zn.app {s:AS} {v x:AV} {n:Nat} {l xs:List Int} {lo:Nat} (h:zn s v n l (some lo)) (j:aJ s) (p:Sl qv 1 s x xs) (k:l.length+xs.length<=n) (hb:n<=2 ^ 30)
  {K:AV->AS->Prop} (m:∀ v' s',zn s' v' n (l++xs) (some lo)->aJ s'->bB [lo] s s'->K v' s'):ig (aG T av av v x s) K:=by
 obtain ⟨rfl,hle,rest,b,hr⟩:=h;obtain ⟨c,hlen⟩:=bR.src gY p;have e:=kG gY (base:=some (lo,0)) (len:=l.length) (cap:=n) (ex:=false) aT hlen c (by rw [tQ]) (by omega);rw [if_pos k] at e;by_cases h0:xs.flatMap qv=[]
 ·have d:xs=[]:=by
   have:=congrArg List.length h0;rw [tQ] at this;exact List.length_eq_zero_iff.1 (by simp only [List.length_nil] at this;omega)
  subst d;simp only [List.flatMap_nil,if_true] at e;exact ⟨_,_,e,m _ _ ⟨by simp,by simpa using hle,rest,by simpa using b,by simpa using hr⟩ j (bB.refl _ _)⟩
 ·simp only [if_neg h0] at e;have i:=j.put b (o:=.cells (qQ (l.flatMap qv++rest) (0+l.length*1) (xs.flatMap qv)) 1 false) rfl;have ea:cS s lo (0+l.length*1) (xs.flatMap qv)=some (s.put lo (.cells (qQ (l.flatMap qv++rest) (0+l.length*1) (xs.flatMap qv)) 1 false)):=by
   simp only [cS,b];rw [if_pos (by rw [List.length_append,tQ,tQ,hr];omega)]
  rw [ea] at e;refine ⟨_,_,e,m _ _ ⟨by simp,by simpa using k,rest.drop (xs.flatMap qv).length,?_,?_⟩ i.wf i.mut⟩
  ·rw [i.at,Nat.zero_add,<- tQ l,Qo _ _ _ (by rw [tQ,hr];omega),List.flatMap_append]
  ·rw [List.length_drop,tQ,hr,List.length_append];omega
theorem zn.app' {s:AS} {v x:AV} {n:Nat} {l xs:List Int} {lo:Option Nat} (h:zn s v n l lo) (c:aJ s) (d:Sl qv 1 s x xs) (i:l.length+xs.length<=n) (hb:n<=2 ^ 30)
  {K:AV->AS->Prop} (j:∀ v' s',zn s' v' n (l++xs) lo->aJ s'->bB lo.toList s s'->K v' s'):ig (aG T av av v x s) K:=by
 cases lo with
 | some lo=>exact zn.app h c d i hb j
 | none =>
  obtain ⟨rfl,rfl,rfl⟩:=h;obtain rfl:xs=[]:=by simpa using i
  obtain ⟨b,hlen⟩:=bR.src gY d;have e:=kG gY (base:=none) (len:=0) (cap:=0) (ex:=true) aT hlen b (by simp) (by simp);simp only [List.length_nil,Nat.le_refl,if_true] at e;exact ⟨_,_,e,j _ _ ⟨rfl,rfl,rfl⟩ c (bB.refl _ _)⟩
def Ny (t:List UInt8):List Int:=t.map fun c=>(c.toNat:Int)
theorem yb (t:List UInt8):(Ny t).length=t.length:=by simp [Ny]
theorem RQ (t:List UInt8):(Ny t).flatMap qv=t.map fun c=>AV.int .u8 c.toNat:=by
 induction t with
 | nil=>rfl
 | cons a t b=>simp only [Ny,List.map_cons,List.flatMap_cons,qv] at b ⊢;rw [b];rfl
def XV (l:List Int):List UInt8:=l.map fun n=>UInt8.ofNat n.toNat
theorem Nz (l:List Int):zq (l.flatMap qv)=some (XV l):=by
 induction l with
 | nil=>rfl
 | cons a l b =>
  simp only [List.flatMap_cons,qv,List.cons_append,List.nil_append,zq,b,XV,List.map_cons,Option.map_some]
theorem T0 {s:AS} {v:AV} {l:List Int} (h:gZ s v l) (b:l≠[]):(cY T av cL v s).map (·.1)=some (.str (XV l)):=by
 have hp:0<l.length:=List.length_pos_iff.2 b;rcases h with ⟨rfl,h2,h3⟩ | ⟨a,c,e,rfl,⟨d,h2⟩,h3⟩
 ·omega
 ·rcases h3 with h3 | ⟨la,o,C,rfl,i,h3⟩
  ·omega
  ·have j:o+l.length<=C.length:=by
    have:=congrArg List.length h3;rw [List.length_take,List.length_drop,d] at this;omega
   have hr:aD s la o l.length=some (l.flatMap qv):=by
    rw [i.aD j,<- h3,Nat.mul_one]
   have k:¬ l.length=0:=by omega
   simp [cY,aT,pL,Bg,hr,Nz,b]
/-! ### numbers -/
def vS (n:Int) (b:Nat):Int:=IntKind.wrap .u8 (Int.fdiv n (2 ^ min b (IntKind.bits .u64)))
def yK (n:Int) (k:Nat):List Int:=(List.range k).map fun i=>vS n (8*(k - 1 - i))
theorem kL (n:Int) (k:Nat):(yK n k).length=k:=by simp [yK]
theorem yc {M:List Nat} {s0 s:AS} (b:aJ s) {v:AV} {l:List Int} (h:aW qv 1 M s0 s v l) (c:∀ x∈M,s.h x≠none) (n:Int) (hb:l.length+1<=2 ^ 30) {K:AV->AS->Prop} (d:∀ v' s',aW qv 1 M s0 s' v' (l++[n])->aJ s'->bB (ax v) s s'->K v' s'):aS (de T av 1 [(0,.int .u8 n)]) fun g=>aj (.cells g 0 false) s fun la s1=>ig (aG T av av v (.slc (some (la,0)) 1 1 true) s1) K :=
 aW.Mi (f:=fun n:Int=>AV.int .u8 n) gY rfl (fun _=>rfl) b h c n hb d
theorem yd {M:List Nat} {s0 s:AS} (b:aJ s) {v x:AV} {l xs:List Int} (h:aW qv 1 M s0 s v l) (c:∀ x∈M,s.h x≠none) (d:gZ s x xs) (hb:l.length+xs.length<=2 ^ 30) {K:AV->AS->Prop} (e:∀ v' s',aW qv 1 M s0 s' v' (l++xs)->aJ s'->bB (ax v) s s'->K v' s'):ig (aG T av av v x s) K :=
 aW.iq gY cg Lr b h c d hb aT e
theorem T1 (n:Int) (k:Nat) (A:1<=k/\k<=8) (l:k<8->Int.fdiv n (2 ^ min (8*k) (IntKind.bits .u64))=0) (s:AS) :
  aa Tryz.prog vr [.int .u64 n,.int .i64 (k:Nat)] s fun r s'=>∃ v,r=.aQ [v,.int .i64 0]/\Ag s s' v (yK n k):=by
 refine aa.pre fun o=>Pa _ _ _ _ ⟨fun vs s'=>vs=[.bool false]/\s'=s,?_,af.dec (fun h=>absurd h (by omega)) (fun _=>af.dec (fun h=>absurd h (by omega)) (fun _=>af.dec (fun h=>⟨?_,?_,rfl⟩) (fun _=>⟨rfl,rfl⟩)))⟩
 ·rintro b s3 ⟨hb,rfl⟩;obtain rfl:b=false:=by simpa using hb
  refine af.no rfl ⟨fun vs s'=>∃ v,vs=[v]/\Ag s3 s' v (yK n k),?_,fun m vs s'=>∃ (i:Nat) (v:AV),vs=[v,.int .i64 (i:Nat)]/\i<=k/\m=k - i/\aJ s'/\Ag s3 s' v ((List.range i).map fun j=>vS n (8*(k - 1 - j))),k,⟨0,_,rfl,by omega,rfl,o,by simpa using aW.nil⟩,?_⟩
  ·rintro p s6 ⟨v,hv,g⟩;obtain rfl:p=v:=by simpa using hv
   exact ⟨_,rfl,g⟩
  ·rintro m v10 w dJ ⟨i,v',c,hi,rfl,e,d⟩;simp only [List.cons.injEq,AV.int.injEq,true_and,and_true] at c;obtain ⟨rfl,rfl⟩:=c;refine af.dec (fun x=>?_) (fun y=>?_)
   ·have e1:IntKind.wrap .i64 (8*(IntKind.wrap .i64 ((IntKind.wrap .i64 ((k:Int) - 1)) - (i:Int))))=((8*(k - 1 - i):Nat):Int):=by
     rw [a_ (n:=(k:Int) - 1) (by omega),a_ (n:=(k:Int) - 1 - i) (by omega),a_ (by omega)];omega
    rw [e1];refine ⟨by omega,?_⟩;rw [Int.toNat_natCast];refine yc e d (by simp) (vS n (8*(k - 1 - i))) (by simp;omega) fun v' s' z w' _=>?_;refine ⟨k - (i+1),by omega,i+1,v',by rw [a_ (by omega)];rfl,by omega,rfl,w',?_⟩;rw [List.range_succ,List.map_append];exact z
   ·obtain rfl:i=k:=by omega
    exact ⟨v10,rfl,d⟩
 ·rw [a_ (by omega)];omega
 ·rw [show IntKind.wrap .i64 (8*(k:Int))=((8*k:Nat):Int) by rw [a_ (by omega)];omega,Int.toNat_natCast,l (by omega)];rfl
/-! ### dots,texts -/
def uI (t:List UInt8):List Int:=yK (t.length:Nat) 2++Ny t
theorem RR (t:List UInt8):(uI t).length=2+t.length:=by simp [uI,kL,yb]
theorem NB {n:Nat} (h:n<2 ^ 16):Int.fdiv (n:Int) (2 ^ min (8*2) (IntKind.bits .u64))=0:=by
 rw [show min (8*2) (IntKind.bits .u64)=16 from rfl];rw [Int.fdiv_eq_ediv_of_nonneg _ (by decide)];omega
theorem VC {s:AS} {v:AV} {l:List Int} (h:gZ s v l) (i:l.length<=65535):aa Tryz.prog xD [v] s fun r s'=>∃ v,r=.aQ [v,.int .i64 0]/\Ag s s' v (yK (l.length:Nat) 2++l):=by
 refine aa.pre fun j=>MV _ _ _ ⟨_,h.b_ aT _,af.dec (fun c=>absurd c (by omega)) (fun _=>⟨_,h.b_ aT _,?_⟩)⟩;dsimp only;rw [gi (by omega)];refine aa.use (T1 _ 2 (by omega) (fun _=>NB (by omega)) s) ?_;rintro r s4 ⟨k,rfl,b⟩ d;refine ⟨_,_,rfl,?_⟩;exact yd d b (by simp) (h.ext b.eo.ext) (by rw [kL];omega) fun v' s' e w' _=>⟨v',rfl,e⟩
end Go.Proofs.YtohgmogbabkkeaaGreat
end

namespace Go.Proofs.YtohgmogbabkkeaaGreat
section
open Go.Am Go.aq Go.aB
theorem VD (N:Nat) (i:N<=2 ^ 28) (s:AS):aa Tryz.prog f_ [.slc none 0 0 true,.int .i64 (N:Nat)] s fun v s'=>∃ lo,zn s' v N [] lo/\Ext s s'/\∀ l∈lo.toList,s.h l=none:=by
 refine aa.pre fun b=>rL _ _ _ _ (af.dec (fun h=>absurd h (by omega)) (fun _=>?_));refine ⟨0,by simp [wR,aT],0,by simp [aL,aT],?_⟩;have e1:IntKind.wrap .i64 ((N:Int) - (IntKind.wrap .i64 (0 - 0)))=(N:Nat):=by rw [show IntKind.wrap .i64 (0 - 0)=0 from rfl,a_ (by omega)];omega
 dsimp only;rw [e1];refine af.dec (fun hp=>?_) (fun j=>?_)
 ·have c:0<N:=by omega
  have d:aG T av um (.slc none 0 0 true) (.int .i64 (N:Nat)) s=some (.slc (some (s.nl,0)) N N false,s.new (.cells (rep N [.int .u8 0]) 1 false)):=by
   simp only [aG,aT,Ql,if_true,tY,eN,KB,GP,Option.bind_some,bN,List.length_cons,List.length_nil,Int.toNat_natCast,Nat.zero_add];rw [show (if (AV.int IntKind.u8 0).cells.all AV.one=true then some (AV.int IntKind.u8 0).cells else none)=some [AV.int .u8 0] from rfl,Option.bind_some,if_neg (by simp only [List.length_cons,List.length_nil];omega)];simp [nZ]
  have Fr:=b.new (o:=.cells (rep N [.int .u8 0]) 1 false) rfl;refine ⟨0,by simp [wR,aT],.slc none 0 0 true,by simp [bf,aT,eN,cX,tX,qq,ie],_,_,d,0,by simp [aL,aT],.slc (some (s.nl,0)) 0 N false,?_,some s.nl,⟨rfl,by simp,rep N [.int .u8 0],by simpa using Fr.at,by simp [rep]⟩,Fr.ext,?_⟩
  ·have:¬ N=0:=by omega
   simp [bf,aT,eN,cX,tX,qq,ie,this]
  ·intro l e;obtain rfl:l=s.nl:=by simpa using e
   exact b.none
 ·obtain rfl:N=0:=by omega
  exact ⟨none,⟨rfl,rfl,rfl⟩,Ext.refl _,by simp⟩
abbrev XW:AV×List Int->List AV:=fun p=>[p.1]
theorem Ls (p:AV×List Int):(XW p).length=1:=rfl
def qN (L:List (AV×List Int)):Nat:=(L.map fun p=>p.2.length).sum
theorem JC {L:List (AV×List Int)} {i:Nat} {p:AV×List Int} (h:L[i]? = some p):qN (L.take (i+1))=qN (L.take i)+p.2.length:=by
 unfold qN;rw [List.take_add_one,h,Option.toList_some,List.map_append,List.sum_append];simp
theorem Qy (L:List (AV×List Int)) (i:Nat):qN (L.take i)<=qN L:=by
 have:qN L=qN (L.take i)+qN (L.drop i):=by
  unfold qN;rw [<- List.sum_append,<- List.map_append,List.take_append_drop]
 omega
theorem yL (L:List (AV×List Int)):(L.flatMap Prod.snd).length=qN L:=by simp [qN,List.length_flatMap]
theorem RT {s:AS} {a:AV} {L:List (AV×List Int)} (k:Sl XW 1 s a L) (F:∀ p∈L,gZ s p.1 p.2) (R:L.length<=2 ^ 20) (hb:qN L<=2 ^ 28):aa Tryz.prog fE [a] s fun v s'=>Ag s s' v (L.flatMap Prod.snd):=by
 refine aa.pre fun S=>qk _ _ _ ⟨fun vs s'=>s'=s/\vs=[.int .i64 (qN L:Nat)],?_,_,k.b_ oL _,fun m vs s'=>∃ i:Nat,vs=[.int .i64 (qN (L.take i):Nat),.int .i64 (i:Nat)]/\i<=L.length/\m=L.length - i/\s'=s,L.length,⟨0,by simp [qN],by omega,rfl,rfl⟩,?_⟩;rotate_left
 ·rintro m G H I ⟨i,c,hi,rfl,rfl⟩;simp only [List.cons.injEq,AV.int.injEq,true_and,and_true] at c;obtain ⟨rfl,rfl⟩:=c;refine af.dec (fun r=>?_) (fun w=>?_)
  ·obtain ⟨p,hp⟩:=cF (l:=L) (i:=i) (by omega);obtain ⟨la,o,x,y⟩:=k.ix (by decide) Ls oL qX hp;have hs:=JC hp;have hle:=Qy L (i+1);refine ⟨la,o,x _,p.1,(y _ (Ext.refl _)).1 0 (by decide),_,(F p (List.mem_of_getElem? hp)).b_ aT _,?_⟩;dsimp only;rw [a_ (n:=(qN (L.take i):Int)+p.2.length) (by omega)];refine af.dec (fun h=>absurd h (by omega)) (fun _=>⟨L.length - (i+1),by omega,i+1,?_,by omega,rfl,rfl⟩);rw [a_ (by omega),hs];rfl
  ·rw [List.take_of_length_le (by omega)];exact ⟨rfl,rfl⟩
 rintro n2 s3 ⟨rfl,z⟩;obtain rfl:n2=(qN L:Nat):=by simpa using z
 refine aa.use (VD (qN L) hb s3) ?_;rintro J U ⟨lo,K,M,j⟩ O;refine ⟨_,k.b_ oL _,fun m vs s'=>∃ (i:Nat) (v:AV),vs=[v,.int .i64 (i:Nat)]/\i<=L.length/\m=L.length - i/\aJ s'/\Ext s3 s'/\zn s' v (qN L) ((L.take i).flatMap Prod.snd) lo,L.length,⟨0,J,rfl,by omega,rfl,O,M,by simpa using K⟩,?_⟩;rintro m v10 Q dJ ⟨i,v',c,hi,rfl,A,d,b⟩;simp only [List.cons.injEq,AV.int.injEq,true_and,and_true] at c;obtain ⟨rfl,rfl⟩:=c;refine af.dec (fun r=>?_) (fun w=>?_)
 ·obtain ⟨p,hp⟩:=cF (l:=L) (i:=i) (by omega);obtain ⟨la,o,x,y⟩:=k.ix (by decide) Ls oL qX hp;have hs:=JC hp;have hle:=Qy L (i+1);have step:=List.take_add_one (l:=L) (i:=i);rw [hp,Option.toList_some] at step;refine ⟨la,o,x _,p.1,(y _ d).1 0 (by decide),?_⟩;refine zn.app' b A ((F p (List.mem_of_getElem? hp)).ext d) (by rw [yL];omega) (by omega) fun v' s' B w' m'=>?_;refine ⟨L.length - (i+1),by omega,i+1,v',by rw [a_ (by omega)];rfl,by omega,rfl,w',Ext.Vr d j m',?_⟩;rw [step,List.flatMap_append];simpa using B
 ·rw [List.take_of_length_le (by omega)] at b;cases lo with
  | none =>
   obtain ⟨rfl,W,C⟩:=b;rw [C];exact ⟨bg.nil,d.mut,by simp [ax]⟩
  | some lo =>
   obtain ⟨rfl,_,rest,e,hr⟩:=b;rw [yL,Nat.sub_self,Nat.zero_mul] at hr;obtain rfl:=List.length_eq_zero_iff.1 hr;rw [List.append_nil] at e;refine ⟨.inr ⟨lo,by rw [yL],e⟩,d.mut,fun la D=>?_⟩;obtain rfl:la=lo:=by simpa [ax] using D
   exact j la (by simp)
/-! ### a variable that holds a row of bytes of one's own -/
section
variable {s0 s s':AS} {c:Nat} {l:List Int}
end
theorem RU (v:List Int) (hv:v.length=16) (s:AS):aa Tryz.prog s_ [.agg (v.map (.int .u64))] s fun r s'=>Ag s s' r (v.flatMap fun n=>yK n 8):=by
 refine aa.pre fun p=>Ip _ _ _ ⟨?_,aj.intro p rfl fun l1 s2 e=>⟨v.map (.int .u64),?_,fun m vs s'=>∃ (i:Nat) (r:AV),vs=[r,.int .i64 (i:Nat)]/\i<=16/\m=16 - i/\aJ s'/\Ag s2 s' r ((v.take i).flatMap fun n=>yK n 8),16,⟨0,_,rfl,by omega,rfl,e.wf,by simpa using aW.nil⟩,?_⟩⟩
 ·simp [List.all_eq_true,AV.one]
 ·rw [e.own.at.aD (by simp [hv])];simp [hv,List.take_of_length_le]
 ·rintro m A B s9 ⟨i,r,b,hi,rfl,C,c⟩;simp only [List.cons.injEq,AV.int.injEq,true_and,and_true] at b;obtain ⟨rfl,rfl⟩:=b;refine af.dec (fun w=>?_) (fun x=>?_)
  ·obtain ⟨n,o⟩:=cF (l:=v) (i:=i) (by omega);have step:=List.take_add_one (l:=v) (i:=i);rw [o,Option.toList_some] at step;refine ⟨n,?_,?_⟩
   ·rw [Vl hv (by omega),List.getD_eq_getElem?_getD,o];rfl
   refine aa.use (T1 n 8 (by omega) (by omega) s9) ?_;rintro q dJ ⟨y,rfl,d⟩ j;have hlen:((v.take i).flatMap fun n=>yK n 8).length<=16*8:=by
    rw [List.length_flatMap];have:(List.map (fun a=>(yK a 8).length) (v.take i))=List.map (fun _=>8) (v.take i):=by simp [kL]
    rw [this,List.map_const',List.sum_replicate_nat,List.length_take];have:min i v.length<=16:=by omega
    omega
   refine ⟨_,_,rfl,yd j (c.step d.eo.ext) (by simp) (d.sl cg) (by rw [kL];omega) fun v' s' z w' _=>?_⟩;refine ⟨16 - (i+1),by omega,i+1,v',by rw [a_ (by omega)];rfl,by omega,rfl,w',?_⟩;rw [step,List.flatMap_append];simpa using z
  ·rw [List.take_of_length_le (by omega)] at c;exact ⟨c.uQ,e.ext.mut.trans c.eo,fun la k=>e.ext.none (c.new la k)⟩
end
section
open Go.Am Go.aq Go.aB Go.bq
theorem Qz (n:Int):0<=IntKind.wrap .u64 n:=by
 simp only [IntKind.wrap,IntKind.signed,Bool.false_and,Bool.false_eq_true,if_false,IntKind.bits];exact Int.emod_nonneg _ (by decide)
theorem uJ {i:Nat} (h:i<=2 ^ 61):IntKind.wrap .i64 ((i:Int)+1)=((i+1:Nat):Int):=by rw [a_ (by omega)];omega
theorem RV (x y:Int) (l:List Int):Er x (l++[y])=xu .u32 (Er x l) (WS x (IntKind.wrap .i64 (0 - y))):=by simp [Er]
theorem Xr (x k:Int) (s:AS):aa Tryz.prog gV [.int .u32 x,.int .i64 k] s fun r s'=>r=.int .u32 (WS x k)/\s'=s :=
 tM _ _ _ _ ⟨_,rfl,Qz _,Qz _,_,rfl,rfl,rfl⟩
def NC (n:Int):List AV:=[.int .i64 n]
theorem T2 (n:Int):(NC n).length=1:=rfl
theorem Lu {s:AS} {v:AV} {l:List Int} (h:Sl NC 1 s v l) (k:l.length<=2 ^ 40) (x:Int):aa Tryz.prog aH [.int .u32 x,v] s fun r s'=>r=.int .u32 (Er x l)/\s'=s:=by
 refine yY _ _ _ _ ⟨_,h.b_ sG _,fun m vs s'=>∃ i:Nat,vs=[.int .u32 (Er x (l.take i)),.int .i64 (i:Nat)]/\i<=l.length/\m=l.length - i/\s'=s,l.length,⟨0,rfl,by omega,rfl,rfl⟩,?_⟩;rintro m n p s7 ⟨i,hi,w,rfl,rfl⟩;simp only [List.cons.injEq,AV.int.injEq,true_and,and_true] at hi;obtain ⟨rfl,rfl⟩:=hi;refine af.dec (fun c=>?_) (fun d=>⟨?_,rfl⟩)
 ·obtain ⟨y,b⟩:=cF (l:=l) (i:=i) (by omega);obtain ⟨la,o,e,j⟩:=h.ix (by decide) T2 sG Jq b;have h0:=(j _ (Ext.refl _)).1 0 (by decide);refine ⟨la,o,e _,y,by simpa [NC] using h0,?_⟩;refine aa.use (Xr _ _ _) ?_;rintro v s' ⟨rfl,rfl⟩ _;refine ⟨_,rfl,_,rfl,l.length - (i+1),by omega,i+1,?_,by omega,rfl,rfl⟩;rw [uJ (by omega),List.take_add_one,b,Option.toList_some,RV];rfl
 ·rw [List.take_of_length_le (by omega)]
theorem Pz (a b:Int) (s:AS):aa Tryz.prog gK [.int .u64 a,.int .u64 b] s fun r s'=>r=.aQ [.int .u64 (pC a b).1,.int .u64 (pC a b).2]/\s'=s :=
 BA _ _ _ _ ⟨_,rfl,by decide,_,rfl,by decide,by decide,_,rfl,by decide,by decide,rfl,rfl⟩
theorem QB (a b:Int):0<=(pC a b).1/\0<=(pC a b).2:=⟨Qz _,Qz _⟩
theorem Xs {x y:Int} (b:0<=x) (c:0<=y) (s:AS):aa Tryz.prog sC [.int .u64 x,.int .u64 y,.int .u64 0] s fun v s'=>v=.aQ [.int .u64 ((x+y+0) % 18446744073709551616),.int .u64 ((x+y+0) / 18446744073709551616)]/\s'=s :=
 Kx Tryz.func307 (by kernel_rfl) (by kernel_rfl) (by kernel_rfl) (by kernel_rfl) b c (by decide) (by decide)
theorem JD (a b:Int):aY T fR [(0,.int .u64 a),(1,.int .u64 b)]=some (.agg [.int .u64 a,.int .u64 b]):=by kernel_rfl
theorem Yj {l:Nat} {i:Int} (h:0<=i/\i<2):ag T fR (.ptr (some (l,0))) (.int .i64 i)=some (.ptr (some (l,0+i.toNat*1))):=vk My ki h
theorem JE (a:Int) (s:AS):aa Tryz.prog fL [.int .u64 a] s fun r s'=>r=.agg [.int .u64 (pC a a).1,.int .u64 (pC a a).2]/\Ext s s':=by
 refine aa.pre fun c=>KY _ _ _ (aj.intro c rfl fun l1 s2 b=>?_);refine aa.use (Pz _ _ _) ?_;rintro v s' ⟨rfl,rfl⟩ d;refine ⟨_,_,rfl,_,JD _ _,⟨rfl,rfl⟩,bC.own d b.own (by simp) fun s8 P=>⟨_,At.aD (cs:=[.int .u64 (pC a a).1,.int .u64 (pC a a).2]) ⟨_,_,P.at⟩ (by simp),rfl,Ext.wr b.ext b.no P.mut⟩⟩
theorem VE (a:Int) (s:AS):aa Tryz.prog zN [.int .u64 a] s fun r s'=>r=.aQ [.agg ((zj a).map (.int .u64)),.bool (Qk a)]/\Ext s s':=by
 refine aa.pre fun j=>OZ _ _ _ (aj.intro j rfl fun l1 s2 c=>?_);refine aa.use (JE _ _) ?_;rintro v s4 ⟨rfl,e⟩ k;refine ⟨_,rfl,jK k rfl rfl rfl fun w s8 b=>⟨_,_,Yj (i:=1) (by omega),_,by rw [b.own.at.ak];rfl,?_⟩⟩;refine aa.use (Pz _ _ _) ?_;rintro v bQ ⟨rfl,rfl⟩ l;refine ⟨_,_,rfl,_,_,Yj (i:=0) (by omega),_,by rw [b.own.at.ak];rfl,?_⟩;refine aa.use (Pz _ _ _) ?_;rintro v gw ⟨rfl,rfl⟩ m;refine ⟨_,_,rfl,?_⟩;refine aa.use (Xs (QB _ _).2 (QB _ _).1 _) ?_;rintro v n ⟨rfl,rfl⟩ d;have o:=(c.own.ext e).ext b.ext;refine ⟨_,_,rfl,by decide,by decide,_,rfl,by decide,by decide,_,rfl,_,JD _ _,by decide,⟨rfl,rfl⟩,bC.own d o (by simp) fun p P=>⟨_,At.aD (cs:=(zj a).map (.int .u64)) ⟨_,_,P.at⟩ (by simp [zj]),rfl,Ext.wr ((c.ext.trans e).trans b.ext) c.no P.mut⟩⟩
theorem ND (x y:Int) (lost:Bool) (p:Int) (s:AS):aa Tryz.prog sB [.agg [.int .u64 x,.int .u64 y],.bool lost,.int .u64 p] s fun r s'=>r=.bool (rz x y lost p)/\Ext s s':=by
 refine aa.pre fun e=>MF _ _ _ _ _ ⟨rfl,aj.intro e rfl fun l1 s2 b=>?_⟩;have d:ak s2 l1 (0+(0:Int).toNat*1)=some (.int .u64 x):=by rw [b.own.at.ak];rfl
 have j:ak s2 l1 (0+(1:Int).toNat*1)=some (.int .u64 y):=by rw [b.own.at.ak];rfl
 refine ⟨_,_,Yj (i:=0) (by omega),_,d,af.dec (fun c=>⟨?_,b.ext⟩) (fun c=>⟨_,_,Yj (i:=0) (by omega),_,d,af.mk (fun h2=>⟨_,_,Yj (i:=1) (by omega),_,j,af.dec (fun h3=>⟨?_,b.ext⟩) (fun h3=>⟨?_,b.ext⟩)⟩) (fun h2=>⟨?_,b.ext⟩)⟩)⟩
 ·simp [rz,c]
 ·simp [rz,c,h2,h3]
 ·simp [rz,c,h2,h3]
 ·simp [rz,c,h2]
theorem QC {g:AV} {P:Int->Bool} {s:AS} (c:aJ s) (d:∀ x s1,Ext s s1->aJ s1->eK Tryz.prog g [.int .u64 x] s1 fun v s'=>v=.bool (P x)/\Ext s1 s'/\aJ s'):aa Tryz.prog vz [g] s fun r s'=>r=.int .u32 (Tp P)/\Ext s s':=by
 refine O2 _ _ _ ⟨fun vs s'=>vs=[.int .u64 (Bc P 38)]/\Ext s s',?_,fun m vs s'=>∃ i:Nat,vs=[.int .u64 (Bc P i),.int .i64 (i:Nat)]/\i<=38/\m=38 - i/\Ext s s'/\aJ s',38,⟨0,rfl,by omega,rfl,Ext.refl _,c⟩,?_⟩
 ·rintro n2 s3 ⟨h,e⟩;simp only [List.cons.injEq,AV.int.injEq,true_and,and_true] at h;subst h;exact ⟨rfl,e⟩
 ·rintro m n o s9 ⟨i,hi,p,rfl,b,j⟩;simp only [List.cons.injEq,AV.int.injEq,true_and,and_true] at hi;obtain ⟨rfl,rfl⟩:=hi;refine af.dec (fun k=>?_) (fun l=>?_)
  ·refine ⟨by rw [a_ (by omega)];omega,_,rfl,?_⟩;have:=d (Vb .u64 (Bc P i) (shl .u64 1 (IntKind.wrap .i64 (37 - (i:Int))))) s9 b j;have key:∀ (g:AV) {R R':AV->AS->Prop},eK Tryz.prog g [.int .u64 (Vb .u64 (Bc P i) (shl .u64 1 (IntKind.wrap .i64 (37 - (i:Int)))))] s9 R->(∀ v s',R v s'->R' v s')->eK Tryz.prog g [.int .u64 (Vb .u64 (Bc P i) (shl .u64 1 (IntKind.wrap .i64 (37 - (i:Int)))))] s9 R':=by
    intro g R R' h hr;cases g <;> first | exact h.elim | exact aa.mono h hr
   refine key _ this ?_;rintro v s' ⟨rfl,e,w⟩;refine ⟨_,rfl,af.mk (fun hb=>⟨38 - (i+1),by omega,i+1,?_,by omega,rfl,b.trans e,w⟩) (fun hb=>⟨38 - (i+1),by omega,i+1,?_,by omega,rfl,b.trans e,w⟩)⟩
   ·rw [uJ (by omega),Bc,GO,if_neg (by simpa using hb)];rfl
   ·rw [uJ (by omega),Bc,GO,if_pos (by simpa using hb)]
  ·obtain rfl:i=38:=by omega
   exact ⟨rfl,b⟩
theorem RW {s:AS} {l:Nat} {p:Int} (h:At s l [.int .u64 p]) (x:Int):aa Tryz.prog oJ [.int .u64 x,.ptr (some (l,0))] s fun r s'=>r=.bool (rz ((zj x).getD 0 0) ((zj x).getD 1 0) (Qk x) p)/\Ext s s':=by
 refine Db _ _ _ _ ?_;refine aa.use (VE _ _) ?_;rintro v s2 ⟨rfl,e2⟩ w2;refine ⟨_,_,rfl,jK w2 rfl rfl rfl fun c s7 F=>?_⟩;refine ⟨_,F.own.at.aD (by simp [zj]),_,by rw [((h.ext e2).ext F.ext).ak];rfl,?_⟩;refine aa.use (ND _ _ _ _ _) ?_;rintro v s3 ⟨rfl,b⟩ d;exact ⟨_,rfl,rfl,(e2.trans F.ext).trans b⟩
theorem NF (p:Int) (s:AS):aa Tryz.prog rD [.int .u64 p] s fun r s'=>r=.int .u32 (OJ p)/\Ext s s':=by
 refine aa.pre fun b=>Hg _ _ _ (aj.intro b rfl fun l1 s2 F=>?_);refine aa.use (QC (P:=fun x=>rz ((zj x).getD 0 0) ((zj x).getD 1 0) (Qk x) p) F.wf fun x s1 e w=>?_) ?_
 ·show aa _ _ _ _ _;refine aa.use (RW (F.own.at.ext e) x) ?_;rintro v s' ⟨rfl,e'⟩ w';exact ⟨rfl,e',w'⟩
 ·rintro v s4 ⟨rfl,c⟩ d;exact ⟨_,rfl,rfl,F.ext.trans c⟩
theorem RX {s:AS} {l:Nat} {p:Int} (h:At s l [.int .u64 p]) (x:Int):aa Tryz.prog tw [.int .u64 x,.ptr (some (l,0))] s fun r s'=>r=.bool (rz (pC x x).1 (pC x x).2 false p)/\Ext s s':=by
 refine Ii _ _ _ _ ⟨fun _ _ _ _=>True,fun _ _ v=>v=.agg [.int .u64 (pC x x).1,.int .u64 (pC x x).2],fun _ _ _ _ _ _ _=>trivial,?_⟩;refine ⟨fun s1 e1 w1 _=>?_,⟨_,rfl⟩,?_⟩
 ·refine (JE _ _).mono ?_;rintro v s3 ⟨rfl,b⟩;exact ⟨_,rfl,b,trivial,rfl⟩
 ·rintro v rfl;refine ⟨_,rfl,_,by rw [h.ak];rfl,fun d c e _=>?_⟩;refine aa.use (ND _ _ _ _ _) ?_;rintro v s3 ⟨rfl,b⟩ i;exact ⟨_,rfl,rfl,c.trans b⟩
theorem T3 (p:Int) (s:AS):aa Tryz.prog xH [.int .u64 p] s fun r s'=>r=.int .u32 (Tq p)/\Ext s s':=by
 refine aa.pre fun b=>MI _ _ _ (aj.intro b rfl fun l1 s2 F=>?_);refine aa.use (QC (P:=fun x=>rz (pC x x).1 (pC x x).2 false p) F.wf fun x s1 e w=>?_) ?_
 ·show aa _ _ _ _ _;refine aa.use (RX (F.own.at.ext e) x) ?_;rintro v s' ⟨rfl,e'⟩ w';exact ⟨rfl,e',w'⟩
 ·rintro v s4 ⟨rfl,c⟩ d;exact ⟨_,rfl,rfl,F.ext.trans c⟩
end
section
open Go.Am Go.aq
def yf (n:Int):List AV:=[.int .u64 n]
theorem uK (n:Int):(yf n).length=1:=rfl
theorem NG:CQ T fF kh 1 8:=⟨kj,ki,Tv,⟨_,_,Rr,rfl,rfl⟩,by decide,by decide⟩
section
variable {s:AS} {a:AV} {l:List Int} {g:FuncId} {cap:List AV} {P:Int->Bool}
theorem II (w:Sl yf 1 s a l) (H:l.length<=2 ^ 40) (hf:∀ i∈l,∀ s',Ext s s'->aJ s'->aa Tryz.prog g ([.int .u64 i]++cap) s' fun v s''=>v=.bool (P i)/\Ext s' s'') :
  aa Tryz.prog dO [a,.func g cap] s fun v s'=>Ext s s'/\∃ n:Int,v=.int .i64 n/\((n = -1/\l.any P=false)\/∃ k:Nat,n=k/\k<l.length/\(∃ x,l[k]? = some x/\P x=true)/\∀ j x,j<k->l[j]? = some x->P x=false):=by
 refine aa.pre fun z=>lF _ _ _ _ ⟨_,w.b_ kj _,fun m vs s'=>∃ i:Nat,vs=[.int .i64 (i:Nat)]/\i<=l.length/\m=l.length - i/\Ext s s'/\aJ s'/\(∀ j x,j<i->l[j]? = some x->P x=false),l.length,⟨0,rfl,by omega,rfl,Ext.refl _,z,by omega⟩,?_⟩;rintro m n s6 ⟨i,hi,I,rfl,d,A,b⟩;simp only [List.cons.injEq,AV.int.injEq,true_and,and_true] at hi;subst hi;refine af.dec (fun B=>?_) (fun C=>⟨d,-1,rfl,.inl ⟨rfl,?_⟩⟩)
 ·obtain ⟨x,c⟩:=cF (l:=l) (i:=i) (by omega);obtain ⟨la,o,D,F⟩:=w.ix (by decide) uK kj ki c;refine ⟨la,o,D _,x,by simpa [yf] using (F _ d).1 0 (by decide),?_⟩;refine aa.use (hf x (List.mem_of_getElem? c) s6 d A) ?_;rintro v G ⟨rfl,e⟩ p;refine ⟨_,rfl,af.mk (fun hb=>⟨d.trans e,_,rfl,.inr ⟨i,rfl,by omega,⟨x,c,hb⟩,b⟩⟩) (fun hb=>⟨l.length - (i+1),by omega,i+1,by rw [a_ (by omega)];rfl,by omega,rfl,d.trans e,p,fun j y hj r=>?_⟩)⟩;rcases Nat.lt_or_ge j i with h | h
  ·exact b j y h r
  ·obtain rfl:j=i:=by omega
   rw [c] at r;obtain rfl:=Option.some.inj r;exact hb
 ·rw [List.any_eq_false];intro x c;obtain ⟨j,hj⟩:=List.mem_iff_getElem?.1 c;have:j<l.length:=by
   rcases Nat.lt_or_ge j l.length with h | h
   ·exact h
   ·rw [List.getElem?_eq_none h] at hj;cases hj
  rw [b j x (by omega) hj];simp
theorem uL (b:Sl yf 1 s a l) (c:l.length<=2 ^ 40) (hf:∀ i∈l,∀ s',Ext s s'->aJ s'->aa Tryz.prog g ([.int .u64 i]++cap) s' fun v s''=>v=.bool (P i)/\Ext s' s'') :
  aa Tryz.prog ct [a,.func g cap] s fun v s'=>v=.bool (l.any P)/\Ext s s':=by
 refine kr _ _ _ _ ?_;refine aa.use (II b c hf) ?_;rintro v s2 ⟨e,n,rfl,h⟩ _;refine ⟨_,rfl,?_,e⟩;congr 1;rcases h with ⟨rfl,h⟩ | ⟨k,rfl,j,⟨x,d,hp⟩,_⟩
 ·rw [h];decide
 ·rw [List.any_eq_true.2 ⟨x,List.mem_of_getElem? d,hp⟩,decide_eq_true_eq];omega
end
section
variable {s:AS} {a:AV} {l:List aO} {g:FuncId} {cap:List AV} {P:aO->Bool}
theorem IJ (w:Sl aP 2 s a l) (H:l.length<=2 ^ 40) (hf:∀ i∈l,∀ s',Ext s s'->aJ s'->aa Tryz.prog g ([.agg (aP i)]++cap) s' fun v s''=>v=.bool (P i)/\Ext s' s'') :
  aa Tryz.prog fj [a,.func g cap] s fun v s'=>Ext s s'/\∃ n:Int,v=.int .i64 n/\((n = -1/\l.any P=false)\/∃ k:Nat,n=k/\k<l.length/\(∃ x,l[k]? = some x/\P x=true)/\∀ j x,j<k->l[j]? = some x->P x=false):=by
 refine aa.pre fun z=>pR _ _ _ _ ⟨_,w.b_ bJ _,fun m vs s'=>∃ i:Nat,vs=[.int .i64 (i:Nat)]/\i<=l.length/\m=l.length - i/\Ext s s'/\aJ s'/\(∀ j x,j<i->l[j]? = some x->P x=false),l.length,⟨0,rfl,by omega,rfl,Ext.refl _,z,by omega⟩,?_⟩;rintro m n s6 ⟨i,hi,I,rfl,d,A,b⟩;simp only [List.cons.injEq,AV.int.injEq,true_and,and_true] at hi;subst hi;refine af.dec (fun B=>?_) (fun C=>⟨d,-1,rfl,.inl ⟨rfl,?_⟩⟩)
 ·obtain ⟨x,c⟩:=cF (l:=l) (i:=i) (by omega);obtain ⟨la,o,D,F⟩:=w.ix (by decide) br bJ kN c;refine ⟨la,o,D _,_,(F _ d).2,?_⟩;refine aa.use (hf x (List.mem_of_getElem? c) s6 d A) ?_;rintro v G ⟨rfl,e⟩ p;refine ⟨_,rfl,af.mk (fun hb=>⟨d.trans e,_,rfl,.inr ⟨i,rfl,by omega,⟨x,c,hb⟩,b⟩⟩) (fun hb=>⟨l.length - (i+1),by omega,i+1,by rw [a_ (by omega)];rfl,by omega,rfl,d.trans e,p,fun j y hj r=>?_⟩)⟩;rcases Nat.lt_or_ge j i with h | h
  ·exact b j y h r
  ·obtain rfl:j=i:=by omega
   rw [c] at r;obtain rfl:=Option.some.inj r;exact hb
 ·rw [List.any_eq_false];intro x c;obtain ⟨j,hj⟩:=List.mem_iff_getElem?.1 c;have:j<l.length:=by
   rcases Nat.lt_or_ge j l.length with h | h
   ·exact h
   ·rw [List.getElem?_eq_none h] at hj;cases hj
  rw [b j x (by omega) hj];simp
theorem DH (b:Sl aP 2 s a l) (c:l.length<=2 ^ 40) (hf:∀ i∈l,∀ s',Ext s s'->aJ s'->aa Tryz.prog g ([.agg (aP i)]++cap) s' fun v s''=>v=.bool (P i)/\Ext s' s'') :
  aa Tryz.prog eC [a,.func g cap] s fun v s'=>v=.bool (l.any P)/\Ext s s':=by
 refine nu _ _ _ _ ?_;refine aa.use (IJ b c hf) ?_;rintro v s2 ⟨e,n,rfl,h⟩ _;refine ⟨_,rfl,?_,e⟩;congr 1;rcases h with ⟨rfl,h⟩ | ⟨k,rfl,j,⟨x,d,hp⟩,_⟩
 ·rw [h];decide
 ·rw [List.any_eq_true.2 ⟨x,List.mem_of_getElem? d,hp⟩,decide_eq_true_eq];omega
end
end
section
open Go.Am Go.aq Go.aB Go.bq
theorem PA {s:AS} {l:Nat} {n p:Int} (h:At s l [.int .u64 n]) (hp:p≠0):aa Tryz.prog rE [.int .u64 p,.ptr (some (l,0))] s fun r s'=>r=.bool (Int.tmod n p==0)/\Ext s s' :=
 G_ _ _ _ _ ⟨_,by rw [h.ak];rfl,hp,rfl,Ext.refl _⟩
theorem RY (s:AS):aa Tryz.prog vu [] s fun v s'=>aW yf 1 [] s s' v yI:=by
 refine aa.pre fun I=>KV _ _ (aj.intro I rfl fun l1 s2 z=>bC.own z.wf z.own (by simp) fun s3 A=>?_);have J:Am.Own s3 l1 [.int .u64 2]:=A.at;refine ⟨fun m vs s'=>∃ (k:Nat) (v:AV) (ln:Nat),vs=[v,.ptr (some (ln,0))]/\k<=310/\m=310 - k/\aW yf 1 [] s s' v (eW k)/\Am.Own s' ln [.int .u64 ((k:Int)+2)]/\aJ s',310,⟨0,_,l1,rfl,by omega,rfl,aW.start (Ext.wr z.ext z.no A.mut).mut,by simpa using J,A.wf⟩,?_⟩;rintro m S U s9 ⟨k,v,ln,d,K,rfl,g,j,W⟩;simp only [List.cons.injEq,AV.ptr.injEq,and_true] at d;obtain ⟨rfl,rfl⟩:=d;have l:=g.sl uK;have hlen:(eW k).length<=64:=by
  have:=zG K;rw [CY] at this;exact this
 refine ⟨_,l.b_ kj _,af.dec (fun L=>?_) (fun M=>?_)⟩
 ·have o:k<310:=by
   rcases Nat.lt_or_ge k 310 with h | h
   ·exact h
   ·have B:=zG h;rw [CY] at B;omega
  refine ⟨fun vs s'=>∃ v,vs=[v]/\aW yf 1 [] s s' v (eW (k+1))/\Am.Own s' ln [.int .u64 ((k:Int)+2)]/\aJ s',?_,?_⟩
  ·rintro O bQ ⟨v,hv,C,D,G⟩;simp only [List.cons.injEq,and_true] at hv;subst hv;refine ⟨_,by rw [D.at.ak];rfl,aj.intro G rfl fun r eH F=>bC.own F.wf F.own (by simp) fun iF P=>?_⟩;have x:Am.Own iF r [.int .u64 ((k:Int)+2)]:=P.at;refine ⟨_,by rw [x.at.ak];rfl,bC.own P.wf x (by simp) fun gl H=>⟨310 - (k+1),by omega,k+1,_,r,rfl,by omega,rfl,?_,?_,H.wf⟩⟩
   ·exact C.step (Ext.wr (Ext.wr F.ext F.no P.mut) F.no H.mut)
   ·have:=H.at;rw [dZ (by simp),gi (by omega)] at this;rw [Am.Own,this];congr 4
  ·refine aa.use (uL l (by omega) fun i hi s' e w=>PA (j.at.ext e) (by have:=xw k i hi;omega)) ?_;rintro Q uR ⟨rfl,b⟩ y;refine ⟨_,rfl,af.mk (fun hb=>?_) (fun hb=>?_)⟩
   ·have c:(eW k).any (fun p=>Int.tmod ((k:Int)+2) p==0)=false:=by simpa using hb
    refine ⟨_,by rw [(j.ext b).at.ak];rfl,?_⟩;refine aW.Mi (f:=fun n=>AV.int .u64 n) NG rfl (fun _=>rfl) y (g.step b) (by simp) ((k:Int)+2) (by omega) fun v' s' R w' m'=>⟨v',rfl,?_,?_,w'⟩
    ·rw [eW,c,if_neg (by simp)];exact R
    ·exact (j.ext b).mut m' (fun hm=>bg.ne (by decide) (g.uQ.ext b) (j.ext b) _ hm (by simp))
   ·have c:(eW k).any (fun p=>Int.tmod ((k:Int)+2) p==0)=true:=by simpa using hb
    refine ⟨_,rfl,?_,j.ext b,y⟩;rw [eW,if_pos c];exact g.step b
 ·have o:k=310:=by
   rcases Nat.lt_or_ge k 310 with h | h
   ·have B:=zG (show k<=309 by omega);rw [Rn] at B;omega
   ·omega
  subst o;exact g
theorem Sq {l o:Nat} {i:Int} (h:0<=i/\i<8):ag T cJ (.ptr (some (l,o))) (.int .i64 i)=some (.ptr (some (l,o+i.toNat*1))):=vk D8 GV h
theorem IK {l o:Nat} {i:Int} (h:0<=i/\i<64):ag T dS (.ptr (some (l,o))) (.int .i64 i)=some (.ptr (some (l,o+i.toNat*1))):=vk KI GV h
theorem Ch (k:IntKind) (n:Nat):List.replicate n (AV.int k 0)=(List.replicate n (0:Int)).map (AV.int k):=by simp
set_option maxRecDepth 100000 in
theorem T4 (s:AS):aa Tryz.prog xG [] s fun v s'=>v=.agg (sX.map (.int .u32))/\Ext s s':=by
 refine aa.pre fun hw=>ML _ _ (aj.intro hw rfl fun l1 s2 A=>aj.intro A.wf rfl fun l3 s4 B=>?_);refine aa.use (RY _) ?_;rintro v5 s6 W w6;have X:Ext s4 s6:=W.eo.ext;have F:=W.sl uK;have ab:yI.length=64:=CY;have ad:s.h l3=none:=A.ext.none B.no;refine ⟨_,F.b_ kj _,fun m vs s'=>∃ i:Nat,vs=[.int .i64 (i:Nat)]/\i<=64/\m=64 - i/\Ext s2 s'/\aJ s'/\Am.Own s' l3 ((vp i).map (.int .u32))/\Sl yf 1 s' v5 yI,64,⟨0,rfl,by omega,rfl,B.ext.trans X,w6,?_,F⟩,?_⟩
 ·exact (Ch .u32 72) ▸ (B.own.ext X:Am.Own s6 l3 (List.replicate 72 (AV.int .u32 0)))
 rintro m ae dJ ⟨i,hi,h6,rfl,n,K,r,e⟩;simp only [List.cons.injEq,AV.int.injEq,true_and,and_true] at hi;subst hi;refine af.dec (fun al=>?_) (fun am=>?_)
 ·obtain ⟨y,Y⟩:=cF (l:=yI) (i:=i) (by omega);obtain ⟨la,o,h8,h9⟩:=e.ix (by decide) uK kj ki Y;have G:yI.getD i 0=y:=by rw [List.getD_eq_getElem?_getD,Y];rfl
  refine ⟨la,o,h8 _,y,by simpa [yf] using (h9 _ (Ext.refl _)).1 0 (by decide),?_⟩;refine aa.use (NF _ _) ?_;rintro nO kU ⟨rfl,b⟩ L;refine ⟨_,rfl,_,_,IK (by omega),bC.int L (r.ext b) (i:=8+i) (by rw [rA];omega) (by simp) fun gl w M H=>?_⟩;have Z:∀ {l:List Int} {v:AV} {s s':AS},Sl yf 1 s v l->∀ {C:List Int},Am.Own s l3 (C.map (.int .u32))->bB [l3] s s'->Sl yf 1 s' v l:=by
   intro l v s s' h C ho m;refine h.mut m uK (by decide) ?_;rintro p hp D hD x hx j c hc hj;obtain rfl:=List.mem_singleton.1 hp;rw [ho.at.inj hD |>.symm] at hj;rw [List.getElem?_map] at hj;simp only [yf,List.getElem?_cons_zero,Option.some.injEq] at hc;subst hc;cases hq:C[j]? with
   | none=>rw [hq] at hj;cases hj
   | some z=>rw [hq] at hj;simp at hj
  have k:=Z (e.ext b) (r.ext b) H;have I:Ext s2 gl:=Ext.wr (n.trans b) B.no H;refine af.dec (fun O=>?_) (fun O=>?_)
  ·refine aa.use (T3 _ _) ?_;rintro an uR ⟨rfl,d⟩ Q;refine ⟨_,rfl,_,_,Sq (by omega),bC.int Q (w.ext d) (i:=i) (by simp [rA];omega) (by simp) fun ao R S J=>⟨64 - (i+1),by omega,i+1,by rw [uJ (by omega)],by omega,rfl,Ext.wr (I.trans d) B.no J,S,?_,Z (k.ext d) (w.ext d) J⟩⟩;rw [vp,FJ,if_pos (by omega),G];exact R
  ·refine ⟨64 - (i+1),by omega,i+1,by rw [uJ (by omega)],by omega,rfl,I,M,?_,k⟩;rw [vp,FJ,if_neg (by omega),G];exact w
 ·obtain rfl:i=64:=by omega
  have o1:=A.own.ext n;have U:((vp 64).map (AV.int .u32)).length=72:=by simp [rA]
  refine ⟨_,r.at.aD (by omega),?_⟩;rw [List.drop_zero,List.take_of_length_le (by omega)];refine ⟨⟨cH _ _,by rw [U]⟩,bC.own K o1 (by simp [U]) fun ar P=>?_⟩;have hP:=P.at;rw [dZ (by simp [U])] at hP;refine ⟨_,At.aD ⟨_,_,hP⟩ (by omega),?_,Ext.wr (A.ext.trans n) A.no P.mut⟩;rw [List.drop_zero,List.take_of_length_le (by omega)];rfl
end
section
open Go.Am Go.aq Go.aB Go.bq
theorem PB (a b:Int):de T iA 2 [(0,.int .i64 a),(1,.int .i64 b)]=some [.int .i64 a,.int .i64 b]:=by
 simp only [de,sG,Jq,KA,Option.bind_some,u9];rfl
theorem T5 (a b c:Int):de T iA 3 [(0,.int .i64 a),(1,.int .i64 b),(2,.int .i64 c)]=some [.int .i64 a,.int .i64 b,.int .i64 c]:=by
 simp only [de,sG,Jq,KA,Option.bind_some,u9];rfl
theorem Wk {s:AS} {l:Nat} {a b:Int} (h:At s l [.int .i64 a,.int .i64 b]):Sl NC 1 s (.slc (some (l,0)) 2 2 true) [a,b]:=bR.mk h rfl rfl
theorem Wl {s:AS} {l:Nat} {a b c:Int} (h:At s l [.int .i64 a,.int .i64 b,.int .i64 c]):Sl NC 1 s (.slc (some (l,0)) 3 3 true) [a,b,c]:=bR.mk h rfl rfl
theorem NH (a b c d e f g z:Int):aY T cJ [(0,.int .u32 a),(1,.int .u32 b),(2,.int .u32 c),(3,.int .u32 d),(4,.int .u32 e),(5,.int .u32 f),(6,.int .u32 g),(7,.int .u32 z)]=some (.agg [.int .u32 a,.int .u32 b,.int .u32 c,.int .u32 d,.int .u32 e,.int .u32 f,.int .u32 g,.int .u32 z]):=by kernel_rfl
theorem T6 (v:W8) {i:Nat} (hi:i<8):ju T cJ (.agg (v.list.map (.int .u32))) (.int .i64 (i:Nat))=some (.int .u32 (v.list.getD i 0)):=by
 simp only [ju,D8,GV,Option.bind_some,CR Ru];rcases v with ⟨a,b,c,d,e,f,g,z⟩
 match i,hi with
 | 0,_=>simp [W8.list]
 | 1,_=>simp [W8.list]
 | 2,_=>simp [W8.list]
 | 3,_=>simp [W8.list]
 | 4,_=>simp [W8.list]
 | 5,_=>simp [W8.list]
 | 6,_=>simp [W8.list]
 | 7,_=>simp [W8.list]
def W8.vs (v:W8):List AV:=[.int .u32 v.a,.int .u32 v.b,.int .u32 v.c,.int .u32 v.d,.int .u32 v.e,.int .u32 v.f,.int .u32 v.g,.int .u32 v.z]
theorem W8.inj {v:W8} {a b c d e f g z:Int} (h:[AV.int .u32 a,.int .u32 b,.int .u32 c,.int .u32 d,.int .u32 e,.int .u32 f,.int .u32 g,.int .u32 z]=W8.vs v):v=⟨a,b,c,d,e,f,g,z⟩:=by
 cases v;simp only [W8.vs,List.cons.injEq,AV.int.injEq,true_and,and_true] at h;obtain ⟨rfl,rfl,rfl,rfl,rfl,rfl,rfl,rfl⟩:=h;rfl
set_option maxRecDepth 100000 in
theorem T7 {s:AS} {p:Nat} {st:List Int} {bv:AV} {n:List Int} (ho:Am.Own s p (st.map (.int .u32))) (cv:st.length=72) (hb:gZ s bv n) (bb:bv≠.emp) (cw:n.length=64) :
  aa Tryz.prog ng [.ptr (some (p,0)),bv] s fun r s'=>r=.aQ []/\bB [p] s s'/\Am.Own s' p ((OM st n).map (.int .u32)):=by
 refine aa.pre fun hw=>Bx _ _ _ _ (aj.intro hw rfl fun l1 s2 W=>?_);have cx:l1≠p:=fun e=>by
  have:=W.no;rw [e,ho] at this;cases this
 have o1:Am.Own s2 l1 ((UP n 0).map (.int .u32)):=(Ch .u32 64) ▸ (W.own:Am.Own s2 l1 (List.replicate 64 (AV.int .u32 0)));refine ⟨fun vs s'=>Ext s s'/\aJ s'/\Am.Own s' l1 ((Mu n 0).map (.int .u32)),?_,?_⟩
 ·rintro s4 ⟨e4,w4,o4⟩;refine ⟨fun vs s'=>Ext s s'/\aJ s'/\Am.Own s' l1 ((Mu n 48).map (.int .u32)),?_,?_⟩
  ·rintro s6 ⟨e6,w6,o6⟩;have Y:=ho.ext e6;have rd:∀ i:Nat,i<8->ak s6 p (0+((i:Nat):Int).toNat*1)=some (.int .u32 (st.getD i 0)):=fun i hi=>Y.at.Ro (by omega) (by simp);refine ⟨_,_,Sq (i:=0) (by omega),_,rd 0 (by omega),_,_,Sq (i:=1) (by omega),_,rd 1 (by omega),_,_,Sq (i:=2) (by omega),_,rd 2 (by omega),_,_,Sq (i:=3) (by omega),_,rd 3 (by omega),_,_,Sq (i:=4) (by omega),_,rd 4 (by omega),_,_,Sq (i:=5) (by omega),_,rd 5 (by omega),_,_,Sq (i:=6) (by omega),_,rd 6 (by omega),_,_,Sq (i:=7) (by omega),_,rd 7 (by omega),?_⟩;refine ⟨fun vs s'=>vs=W8.vs (xx st (Mu n 48) 64)/\Ext s s'/\aJ s',?_,?_⟩
   ·rintro cy cz cA cB cC c0 c1 c2 c3 ⟨hv,Z,bc⟩;have hv:=W8.inj hv;refine ⟨_,NH _ _ _ _ _ _ _ _,fun m vs s'=>∃ i:Nat,vs=[.int .i64 (i:Nat)]/\i<=8/\m=8 - i/\bB [p] s s'/\aJ s'/\Am.Own s' p ((Mv (xx st (Mu n 48) 64).list st i).map (.int .u32)),8,⟨0,rfl,by omega,rfl,Z.mut,bc,ho.ext Z⟩,?_⟩;rintro m c4 bd ⟨i,hi,h6,rfl,ab,be,R⟩;simp only [List.cons.injEq,AV.int.injEq,true_and,and_true] at hi;subst hi;refine af.dec (fun G=>?_) (fun H=>?_)
    ·have hx:=T6 (xx st (Mu n 48) 64) (i:=i) (by omega);have hr:ak bd p (0+((i:Nat):Int).toNat*1)=some (.int .u32 ((Mv (xx st (Mu n 48) 64).list st i).getD i 0)):=R.at.Ro (by rw [Bd];omega) (by simp);rw [hv] at hx;refine ⟨_,hx,_,_,Sq (by omega),_,hr,_,_,Sq (by omega),bC.int be R (i:=i) (by rw [Bd];omega) (by simp) fun c5 ad bh bi=>⟨8 - (i+1),by omega,i+1,by rw [uJ (by omega)],by omega,rfl,ab.trans bi,bh,?_⟩⟩;rw [Mv];rw [hv] at ad ⊢;exact ad
    ·obtain rfl:i=8:=by omega
     exact ⟨rfl,ab,R⟩
   ·refine ⟨fun m vs s'=>∃ i:Nat,vs=W8.vs (xx st (Mu n 48) i)++[.int .i64 (i:Nat)]/\i<=64/\m=64 - i/\Ext s6 s'/\aJ s',64,⟨0,rfl,by omega,rfl,Ext.refl _,w6⟩,?_⟩;rintro m a b c d e f g z bj ae ⟨i,hi,h6,rfl,I,bk⟩;obtain ⟨hv,hi⟩:=List.append_inj' (s₁:=[AV.int .u32 a,.int .u32 b,.int .u32 c,.int .u32 d,.int .u32 e,.int .u32 f,.int .u32 g,.int .u32 z]) (t₁:=[AV.int .i64 bj]) hi rfl;have hv:=W8.inj hv;simp only [List.cons.injEq,AV.int.injEq,true_and,and_true] at hi;subst hi;refine af.dec (fun G=>?_) (fun H=>?_)
    ·have X:ak ae p (0+8+((i:Nat):Int).toNat*1)=some (.int .u32 (st.getD (8+i) 0)):=(Y.ext I).at.Ro (by omega) (by simp);have bl:ak ae l1 (0+((i:Nat):Int).toNat*1)=some (.int .u32 ((Mu n 48).getD i 0)):=(o6.ext I).at.Ro (by rw [FM];omega) (by simp);refine ⟨fun q _ v s=>q=3->Sl NC 1 s v [6,11,25],fun q _ v=>q=4->v=.int .u32 (Er e [6,11,25]),fun q _ v s s' e h C=>(h C).ext e,fun c6 c7 bm _=>⟨_,T5 _ _ _,aj.intro bm rfl fun c8 c9 F=>⟨F.ext,(fun _=>Wl F.own.at),(fun h=>by cases h)⟩⟩,⟨.bad,fun h=>by cases h⟩,fun c' _=>⟨fun da db dc hS=>?_,⟨_,fun _=>rfl⟩,fun dd al=>?_⟩⟩
     ·refine (Lu (hS.1 rfl) (by decide) _).mono ?_;rintro v s' ⟨rfl,rfl⟩;exact ⟨_,rfl,Ext.refl _,(fun h=>by cases h),(fun _=>rfl)⟩
     ·obtain rfl:=al rfl;refine ⟨_,rfl,_,rfl,_,rfl,_,rfl,_,rfl,_,_,IK (by omega),_,X,_,_,IK (by omega),_,bl,fun bx am an _=>⟨_,T5 _ _ _,aj.intro an rfl fun b0 tI F=>?_⟩⟩;refine aa.use (Lu (Wl F.own.at) (by decide) _) ?_;rintro v b1 ⟨rfl,rfl⟩ ao;refine ⟨_,rfl,_,rfl,_,rfl,_,rfl,_,rfl,_,rfl,64 - (i+1),by omega,i+1,?_,by omega,rfl,I.trans (am.trans F.ext),ao⟩;rw [uJ (by omega),xx,hv];rfl
    ·obtain rfl:i=64:=by omega
     refine ⟨?_,e6.trans I,bk⟩;rw [hv];rfl
  ·refine ⟨fun m vs s'=>∃ i:Nat,vs=[.int .i64 ((16+i:Nat):Int)]/\i<=48/\m=48 - i/\Ext s s'/\aJ s'/\Am.Own s' l1 ((Mu n i).map (.int .u32)),48,⟨0,rfl,by omega,rfl,e4,w4,o4⟩,?_⟩;rintro m b2 ar ⟨i,hi,h6,rfl,e7,w7,o7⟩;simp only [List.cons.injEq,AV.int.injEq,true_and,and_true] at hi;subst hi;refine af.dec (fun G=>?_) (fun H=>?_)
   ·have ww:∀ k:Nat,k<=16->IntKind.wrap .i64 (((16+i:Nat):Int) - (k:Int))=((16+i - k:Nat):Int):=fun k X=>by rw [a_ (by omega)];omega
    have rd:∀ k:Nat,k<64->ak ar l1 (0+(k:Int).toNat*1)=some (.int .u32 ((Mu n i).getD k 0)):=fun k X=>o7.at.Ro (by rw [FM];omega) (by simp);have aw:=ww 15 (by omega);have w2:=ww 2 (by omega);have a0:=ww 16 (by omega);have a1:=ww 7 (by omega);rw [show ((15:Nat):Int)=15 from rfl] at aw;rw [show ((2:Nat):Int)=2 from rfl] at w2;rw [show ((16:Nat):Int)=16 from rfl] at a0;rw [show ((7:Nat):Int)=7 from rfl] at a1;rw [aw,w2,a0,a1];refine ⟨_,_,IK (by omega),_,rd _ (by omega),_,_,IK (by omega),_,rd _ (by omega),fun q _ v s=>(q=7->Sl NC 1 s v [7,18])/\(q=20->Sl NC 1 s v [17,19]),fun q _ v=>(q=8->v=.int .u32 (Er ((Mu n i).getD (16+i - 15) 0) [7,18]))/\(q=21->v=.int .u32 (Er ((Mu n i).getD (16+i - 2) 0) [17,19])),fun q _ v s s' e h=>⟨fun C=>(h.1 C).ext e,fun C=>(h.2 C).ext e⟩,_,_,IK (by omega),_,rd _ (by omega),fun b3 b4 a2 _=>⟨_,PB _ _,aj.intro a2 rfl fun b5 b6 F=>⟨F.ext,⟨(fun _=>Wk F.own.at),(fun h=>by cases h)⟩,(fun h=>by cases h),(fun h=>by cases h)⟩⟩,⟨.bad,(fun h=>by cases h),(fun h=>by cases h)⟩,fun b7 _=>⟨fun b8 b9 b' hS=>?_,⟨_,(fun _=>rfl),(fun h=>by cases h)⟩,fun ca S=>?_⟩⟩
    ·refine (Lu (hS.1.1 rfl) (by decide) _).mono ?_;rintro v s' ⟨rfl,rfl⟩;exact ⟨_,rfl,Ext.refl _,⟨(fun h=>by cases h),(fun h=>by cases h)⟩,(fun _=>rfl),(fun h=>by cases h)⟩
    ·obtain rfl:=S.1 rfl;refine ⟨_,rfl,by decide,_,rfl,_,_,IK (by omega),_,rd _ (by omega),fun cb cc a3 _=>⟨_,PB _ _,aj.intro a3 rfl fun cd ce F=>⟨F.ext,⟨(fun h=>by cases h),(fun _=>Wk F.own.at)⟩,(fun h=>by cases h),(fun h=>by cases h)⟩⟩,⟨.bad,(fun h=>by cases h),(fun h=>by cases h)⟩,fun cf _=>⟨fun ch ci ck hS=>?_,⟨_,(fun h=>by cases h),(fun _=>rfl)⟩,fun cl U=>?_⟩⟩
     ·refine (Lu (hS.2.2.1.2 rfl) (by decide) _).mono ?_;rintro v s' ⟨rfl,rfl⟩;exact ⟨_,rfl,Ext.refl _,⟨(fun h=>by cases h),(fun h=>by cases h)⟩,(fun h=>by cases h),(fun _=>rfl)⟩
     ·obtain rfl:=U.2 rfl;refine ⟨_,rfl,by decide,_,rfl,fun cm J a4 _=>⟨_,_,IK (by omega),bC.int a4 (o7.ext J) (i:=16+i) (by rw [FM];omega) (by simp;omega) fun cn a5 a6 a7=>⟨48 - (i+1),by omega,i+1,by rw [uJ (by omega)];rfl,by omega,rfl,Ext.wr (e7.trans J) W.no a7,a6,?_⟩⟩⟩;rw [Mu,OL];exact a5
   ·obtain rfl:i=48:=by omega
    exact ⟨e7,w7,o7⟩
 ·refine ⟨fun m vs s'=>∃ i:Nat,vs=[.int .i64 (i:Nat)]/\i<=16/\m=16 - i/\Ext s s'/\aJ s'/\Am.Own s' l1 ((UP n i).map (.int .u32)),16,⟨0,rfl,by omega,rfl,W.ext,W.wf,o1⟩,?_⟩;rintro m cp cr ⟨i,hi,h6,rfl,A,K,L⟩;simp only [List.cons.injEq,AV.int.injEq,true_and,and_true] at hi;subst hi;refine af.dec (fun G=>?_) (fun H=>?_)
  ·have w4:IntKind.wrap .i64 (4*(i:Int))=((4*i:Nat):Int):=by rw [a_ (by omega)];omega
   have w8:IntKind.wrap .i64 (((4*i:Nat):Int)+4)=((4*i+4:Nat):Int):=by rw [a_ (by omega)];omega
   obtain ⟨v',pY,a8⟩:=(hb.ext A).mid cg aT eN bb (i:=4*i) (j:=4*i+4) (by omega) (by omega) .i64 .i64;rw [w4,w8];have bo:((n.drop (4*i)).take (4*i+4 - 4*i)).length=4:=by rw [List.length_take,List.length_drop];omega
   refine ⟨_,pY,_,a8.b_ aT _,fun m vs s'=>∃ k:Nat,vs=[.int .i64 (k:Nat)]/\k<=4/\m=4 - k/\Ext s s'/\aJ s'/\Sl qv 1 s' v' ((n.drop (4*i)).take (4*i+4 - 4*i))/\Am.Own s' l1 ((Wi n i (UP n i) k).map (.int .u32)),4,⟨0,rfl,by omega,rfl,A,K,a8,L⟩,?_⟩;rintro m cs a9 ⟨k,X,df,rfl,M,O,B,w⟩;simp only [List.cons.injEq,AV.int.injEq,true_and,and_true] at X;subst X;rw [bo];refine af.dec (fun G=>?_) (fun H=>?_)
   ·obtain ⟨y,hy⟩:=cF (l:=(n.drop (4*i)).take (4*i+4 - 4*i)) (i:=k) (by omega);have bs:n.getD (4*i+k) 0=y:=by
     rw [List.getElem?_take,if_pos (by omega),List.getElem?_drop] at hy;rw [List.getD_eq_getElem?_getD,hy];rfl
    obtain ⟨la,o,h8,h9⟩:=B.ix (by decide) cg aT eN hy;have hr:ak a9 l1 (0+((i:Nat):Int).toNat*1)=some (.int .u32 ((Wi n i (UP n i) k).getD i 0)):=w.at.Ro (by rw [FK,FL];omega) (by simp);refine ⟨la,o,h8 _,y,by simpa [qv] using (h9 _ (Ext.refl _)).1 0 (by decide),_,_,IK (by omega),_,hr,by decide,_,rfl,_,_,IK (by omega),bC.int O w (i:=i) (by rw [FK,FL];omega) (by simp) fun cu a' ba Q=>⟨4 - (k+1),by omega,k+1,by rw [uJ (by omega)],by omega,rfl,Ext.wr M W.no Q,ba,?_,?_⟩⟩
    ·refine B.mut Q cg (by decide) ?_;rintro q C D hD x hx j c hc hj;obtain rfl:=List.mem_singleton.1 C;rw [<- w.at.inj hD,List.getElem?_map] at hj;simp only [qv,List.getElem?_cons_zero,Option.some.injEq] at hc;subst hc;cases C:(Wi n i (UP n i) k)[j]? with
     | none=>rw [C] at hj;cases hj
     | some z=>rw [C] at hj;simp at hj
    ·rw [Wi,OK,bs];exact a'
   ·obtain rfl:k=4:=by omega
    refine ⟨16 - (i+1),by omega,i+1,by rw [uJ (by omega)],by omega,rfl,M,O,w⟩
  ·obtain rfl:i=16:=by omega
   exact ⟨A,K,L⟩
end
section
open Go.Am Go.aq Go.aB Go.bq
theorem T8 (k:Nat):(List.replicate k (0:Int)).flatMap qv=rep k [AV.int .u8 0]:=by
 induction k with
 | zero=>rfl
 | succ k b=>simp only [List.replicate_succ,List.flatMap_cons,b,rep];rfl
theorem RZ {s0 s:AS} (e:aJ s) {v:AV} {l:List Int} (h:Ag s0 s v l) (hv:l≠[]) (k:Nat) (hb:l.length+k<=2 ^ 28) {K:AV->AS->Prop} (r:∀ v' s',Ag s0 s' v' (l++List.replicate k 0)->aJ s'->K v' s'):ig (aG T av um v (.int .i64 (k:Nat)) s) K:=by
 rcases h with ⟨⟨rfl,_⟩ | ⟨la,rfl,b⟩,i,w⟩
 ·exact absurd rfl hv
 have c:=tQ l;have A:bN (AV.int IntKind.u8 0)=some [AV.int .u8 0]:=rfl;have m:aG T av um (.slc (some (la,0)) l.length l.length false) (.int .i64 (k:Nat)) s=if k=0 then some (.slc (some (la,0)) l.length l.length false,s) else
   some (.slc (some (s.nl,0)) (l.length+k) (l.length+k) false,(s.kill la).new (.cells (l.flatMap qv++rep k [.int .u8 0]) 1 false)):=by
  simp only [aG,aT,Ql,if_true,tY,eN,KB,GP,Option.bind_some,A,List.length_cons,List.length_nil,Int.toNat_natCast,Nat.zero_add];rw [if_neg (by omega)];split
  ·rfl
  ·have d:nZ 1 l.length s (.slc (some (la,0)) l.length l.length false)=some (l.flatMap qv):=by
    have:l.length≠0:=fun h=>hv (List.length_eq_zero_iff.1 h);simp only [nZ,if_neg this];rw [u_ b (by rw [c];omega),List.drop_zero,List.take_of_length_le (by rw [c];omega)]
   rw [d];simp only [Option.bind_some,b,Nat.zero_add];rw [if_pos ⟨trivial,by omega,by omega⟩]
 by_cases h0:k=0
 ·subst h0;rw [if_pos rfl] at m;refine ⟨_,_,m,r _ _ ?_ e⟩;simp only [List.replicate_zero,List.append_nil];exact ⟨.inr ⟨la,rfl,b⟩,i,w⟩
 ·rw [if_neg h0] at m;have B:aJ (s.kill la):=by
   refine ⟨e.1,fun j=>?_⟩;rw [AS.sR,AS.oV,AS.Ft];split
   ·rfl
   ·exact e.2 j
  have n:=B.new (o:=.cells (l.flatMap qv++rep k [.int .u8 0]) 1 false) rfl;refine ⟨_,_,m,r _ _ ⟨.inr ⟨s.nl,by simp,?_⟩,⟨fun y o C p=>n.ext.1 y o ?_,Nat.le_trans i.2 n.ext.2⟩,fun x z=>?_⟩ n.wf⟩
  ·rw [List.flatMap_append,T8];exact n.at
  ·rw [AS.sR,if_neg]
   ·exact i.1 y o C p
   ·rintro rfl;rw [w y (by simp [ax])] at p;cases p
  ·simp only [ax,List.mem_singleton] at z;subst z;cases D:s0.h s.nl with
   | none=>rfl
   | some o =>
    have:=i.1 _ _ (by simp) D;rw [e.none] at this;cases this
theorem VF (n:Nat) (c:n<=2 ^ 40):Int.tmod (IntKind.wrap .i64 (120 - Int.tmod ((n+1:Nat):Int) 64)) 64=((Kz n:Nat):Int):=by
 have b:Int.tmod ((n+1:Nat):Int) 64=(((n+1) % 64:Nat):Int):=by
  rw [Int.tmod_eq_emod_of_nonneg (by omega)];omega
 rw [b,a_ (by omega),Int.tmod_eq_emod_of_nonneg (by omega),Kz];omega
theorem VG (f:Nat->Int) {i n:Nat} (h:i<n):((List.range i).map f++List.replicate (n - i) 0).set i (f i)=(List.range (i+1)).map f++List.replicate (n - (i+1)) 0:=by
 have e:n - i=(n - (i+1))+1:=by omega
 rw [e,List.range_succ,List.set_append,if_neg (by simp)];simp [List.replicate_succ]
theorem YO {l:Nat} {i:Int} (h:0<=i/\i<32):ag T tD (.ptr (some (l,0))) (.int .i64 i)=some (.ptr (some (l,0+i.toNat*1))):=vk KE eN h
theorem R2 {k:IntKind} (e:k≠.u8) {s s':AS} {q:Nat} {C:List Int} {v:AV} {l:List Int} (h:gZ s v l) (i:Am.Own s q (C.map (.int k))) (m:bB [q] s s'):gZ s' v l:=by
 refine Sl.mut h m cg (by decide) ?_;rintro p hp D n x o j c b hj;obtain rfl:=List.mem_singleton.1 hp;rw [<- i.at.inj n,List.getElem?_map] at hj;simp only [qv,List.getElem?_cons_zero,Option.some.injEq] at b;subst b;cases d:C[j]? with
 | none=>rw [d] at hj;cases hj
 | some z=>rw [d] at hj;simp at hj;exact e hj.1
set_option maxRecDepth 100000 in
theorem QD {s:AS} {st:List Int} (y:st.length=72) {a:AV} {L:List (AV×List Int)} (ha:Sl XW 1 s a L) (hL:∀ p∈L,gZ s p.1 p.2) (hn:L.length<=2 ^ 20) (hb:qN L<=2 ^ 20) :
  aa Tryz.prog cM [.agg (st.map (.int .u32)),a] s fun r s'=>r=.agg ((D7 st (L.flatMap Prod.snd)).map (.int .u8))/\Ext s s':=by
 refine aa.pre fun hw=>BD _ _ _ _ ⟨cH _ _,aj.intro hw rfl fun l1 s2 x=>aj.intro x.wf rfl fun l3 s4 z=>?_⟩;have U:=x.ext.trans z.ext;have o1:Am.Own s4 l1 (st.map (.int .u32)):=x.own.ext z.ext;have o3:Am.Own s4 l3 ((List.replicate 32 (0:Int)).map (.int .u8)):=(Ch .u8 32) ▸ (z.own:Am.Own s4 l3 (List.replicate 32 (AV.int .u8 0)));have A:l1≠l3:=fun e=>by
  have:=z.no;rw [<- e,x.own] at this;cases this
 have n3:s.h l3=none:=x.ext.none z.no;refine aa.use (RT (ha.ext U) (fun p hp=>(hL p hp).ext U) hn (by omega)) ?_;rintro v5 s6 W w6;have X:=yL L;generalize L.flatMap Prod.snd=b at W X ⊢;refine ⟨_,(W.sl cg).b_ aT _,?_⟩;refine yc w6 W (by simp) 128 (by omega) fun v11 dJ B Y a9=>?_;refine ⟨_,(B.sl cg).b_ aT _,by decide,by decide,?_⟩;have a':Kz b.length<64:=by unfold Kz;omega
 have Z:(b++[(128:Int)]).length=b.length+1:=by simp
 rw [Z,VF _ (by omega)];refine RZ Y B (by simp) (Kz b.length) (by simp;omega) fun ba fH ab ad=>?_;have bb:=Mw b;have bc:=Ts b;refine ⟨fun vs s'=>∃ v,vs=[v]/\Ag s4 s' v (sY b)/\aJ s',?_,?_⟩
 ·rintro bd eH ⟨v,hv,c,ae⟩;simp only [List.cons.injEq,and_true] at hv;subst hv;refine ⟨fun vs s'=>Ext s s'/\aJ s'/\Am.Own s' l1 ((xy st (sY b) ((sY b).length / 64)).map (.int .u32))/\Am.Own s' l3 ((List.replicate 32 (0:Int)).map (.int .u8)),?_,?_⟩
  ·rintro gw ⟨al,am,C,an⟩;generalize hS:xy st (sY b) ((sY b).length / 64)=S at C;have be:S.length=72:=by rw [<- hS,zH,y]
   refine ⟨fun m vs s'=>∃ i:Nat,vs=[.int .i64 (i:Nat)]/\i<=32/\m=32 - i/\Ext s s'/\aJ s'/\Am.Own s' l1 (S.map (.int .u32))/\Am.Own s' l3 (((List.range i).map (Vc S)++List.replicate (32 - i) 0).map (.int .u8)),32,⟨0,rfl,by omega,rfl,al,am,C,by simpa using an⟩,?_⟩;rintro m bh en ⟨i,hi,h6,rfl,D,F,G,d⟩;simp only [List.cons.injEq,AV.int.injEq,true_and,and_true] at hi;subst hi;refine af.dec (fun ao=>?_) (fun ar=>?_)
   ·have hd:IntKind.wrap .i64 (Int.tdiv (i:Int) 4)=((i / 4:Nat):Int):=by
     rw [Int.tdiv_eq_ediv_of_nonneg (by omega),a_ (by omega)];omega
    have ht:Int.tmod (i:Int) 4=((i % 4:Nat):Int):=by rw [Int.tmod_eq_emod_of_nonneg (by omega)];omega
    have hr:ak en l1 (0+((i / 4:Nat):Int).toNat*1)=some (.int .u32 (S.getD (i / 4) 0)):=G.at.Ro (by omega) (by simp;omega);rw [hd];refine ⟨by decide,_,_,Sq (by omega),_,hr,by decide,?_,_,_,YO (by omega),bC.int F d (i:=i) (by simp;omega) (by simp) fun mG aw a0 H=>⟨32 - (i+1),by omega,i+1,by rw [uJ (by omega)],by omega,rfl,Ext.wr D n3 H,a0,G.mut H (by simpa using A),?_⟩⟩
    ·rw [ht,a_ (n:=8*((i % 4:Nat):Int)) (by omega),a_ (by omega)];omega
    ·rw [<- VG (Vc S) (by omega)];exact aw
   ·obtain rfl:i=32:=by omega
    simp only [Nat.sub_self,List.replicate_zero,List.append_nil] at d;have hl:(((List.range 32).map (Vc S)).map (AV.int .u8)).length=32:=by simp
    refine ⟨_,d.at.aD (by omega),?_⟩;rw [List.drop_zero,List.take_of_length_le (by omega)];refine ⟨⟨cH _ _,by rw [hl]⟩,bC.own F d (by omega) fun bi P=>?_⟩;have hP:=P.at;rw [dZ (by omega)] at hP;refine ⟨_,At.aD ⟨_,_,hP⟩ (by omega),?_,Ext.wr D n3 P.mut⟩;rw [List.drop_zero,List.take_of_length_le (by omega),D7,hS,WU]
  ·refine ⟨fun m vs s'=>∃ (k:Nat) (v:AV),vs=[v]/\64*k<=(sY b).length/\m=(sY b).length / 64 - k/\Ext s s'/\aJ s'/\gZ s' v ((sY b).drop (64*k))/\Am.Own s' l1 ((xy st (sY b) k).map (.int .u32))/\Am.Own s' l3 ((List.replicate 32 (0:Int)).map (.int .u8)),(sY b).length / 64,⟨0,_,rfl,by omega,rfl,U.trans c.eo.ext,ae,by simpa using c.sl cg,o1.ext c.eo.ext,o3.ext c.eo.ext⟩,?_⟩;rintro m bj bk ⟨k,v,hv,hk,rfl,I,a1,j,l,J⟩;simp only [List.cons.injEq,and_true] at hv;subst hv;have bl:((sY b).drop (64*k)).length=(sY b).length - 64*k:=List.length_drop;refine ⟨_,j.b_ aT _,af.dec (fun K=>?_) (fun hle=>?_)⟩
   ·have a2:(sY b).drop (64*k)≠[]:=fun h=>by rw [h] at K;simp at K
    have a3:=j.Tt a2;obtain ⟨v',pY,M⟩:=j.upto cg aT eN a3 (i:=64) (by omega) .i64;refine ⟨_,pY,?_⟩;have o:(((sY b).drop (64*k)).take 64).length=64:=by rw [List.length_take];omega
    refine aa.use (T7 l (by rw [zH,y]) M (M.Tt fun h=>by rw [h] at o;simp at o) o) ?_;rintro bm bo ⟨rfl,w,a4⟩ a5;have a6:=R2 (by decide) j l w;obtain ⟨v2,a7,O⟩:=a6.rest cg aT eN (i:=64) (by omega) .i64;refine ⟨rfl,_,a7,(sY b).length / 64 - (k+1),by omega,k+1,v2,rfl,by omega,rfl,Ext.wr I x.no w,a5,?_,?_,J.mut w (by simpa using Ne.symm A)⟩
    ·rw [List.drop_drop] at O;rw [show 64*(k+1)=64*k+64 by omega];exact O
    ·rw [xy];exact a4
   ·have:(sY b).length / 64=k:=by omega
    exact ⟨I,a1,by rw [this];exact l,J⟩
 ·refine ⟨fun m vs s'=>∃ (i:Nat) (v:AV),vs=[v,.int .i64 (i:Nat)]/\i<=8/\m=8 - i/\aJ s'/\Ag s4 s' v (b++[128]++List.replicate (Kz b.length) 0++(List.range i).map (WT b.length)),8,⟨0,_,rfl,by omega,rfl,ad,by simpa using ab⟩,?_⟩;rintro m a8 bs bx ⟨i,v,hi,h6,rfl,Q,R⟩;simp only [List.cons.injEq,AV.int.injEq,true_and,and_true] at hi;obtain ⟨rfl,rfl⟩:=hi;refine af.dec (fun ao=>?_) (fun ar=>?_)
  ·refine ⟨by rw [a_ (n:=8*(i:Int)) (by omega),a_ (by omega)];omega,?_⟩;refine yc Q R (by simp) (WT b.length i) (by simp;omega) fun v' s' g' w' _=>⟨8 - (i+1),by omega,i+1,v',by rw [uJ (by omega)],by omega,rfl,w',?_⟩;rw [List.range_succ,List.map_append,<- List.append_assoc];exact g'
  ·obtain rfl:i=8:=by omega
   exact ⟨a8,rfl,R,Q⟩
end
section
open Go.Am Go.aq Go.aB Go.bq
theorem Eb:CQ T eV av 1 24:=⟨oL,qX,Rq,⟨_,_,GQ,rfl,rfl⟩,by decide,by decide⟩
theorem Yy {l:Nat} {i:Int} (h:0<=i/\i<64):ag T gP (.ptr (some (l,0))) (.int .i64 i)=some (.ptr (some (l,0+i.toNat*1))):=vk sH eN h
def Ci (f:Int->Int) (K:List Int) (i:Nat):List Int:=(K.take i).map f++K.drop i
theorem Cj (f:Int->Int) (K:List Int) (i:Nat):(Ci f K i).length=K.length:=by simp [Ci];omega
theorem QE (f:Int->Int) {K:List Int} {i:Nat} (h:i<K.length):(Ci f K i).getD i 0=K.getD i 0:=by
 rw [Ci,List.getD_eq_getElem?_getD,List.getD_eq_getElem?_getD,List.getElem?_append_right (by simp;omega)];simp [Nat.min_eq_left (Nat.le_of_lt h)]
theorem NI (f:Int->Int) {K:List Int} {i:Nat} (h:i<K.length):(Ci f K i).set i (f (K.getD i 0))=Ci f K (i+1):=by
 have hd:=List.drop_eq_getElem_cons h;have b:K.getD i 0=K[i]:=by simp [List.getD_eq_getElem?_getD,List.getElem?_eq_getElem h]
 have c:((K.take i).map f).length=i:=by simp;omega
 rw [Ci,Ci,List.set_append,if_neg (by omega),c,Nat.sub_self,hd,List.set_cons_zero,List.take_add_one,List.getElem?_eq_getElem h,Option.toList_some,List.map_append,List.append_assoc,b];rfl
theorem T9 (f:Int->Int) (K:List Int):Ci f K K.length=K.map f:=by simp [Ci]
theorem VH {k:IntKind} (sec:List Int) (h:sec.length<=64):qQ ((List.replicate 64 (0:Int)).map (AV.int k)) 0 (sec.map (AV.int k))=(sec++List.replicate (64 - sec.length) 0).map (AV.int k):=by
 apply List.ext_getElem?;intro j;rw [kF _ _ _ _ (by simp;omega)];simp only [List.length_map,Nat.zero_add,Nat.zero_le,true_and,Nat.sub_zero,List.map_append];by_cases hj:j<sec.length
 ·rw [if_pos hj,List.getElem?_append_left (by simpa using hj)]
 ·rw [if_neg hj,List.getElem?_append_right (by simpa using hj)];simp only [List.getElem?_map,List.getElem?_replicate,List.length_map];by_cases h2:j<64
  ·rw [if_pos h2,if_pos (by omega)]
  ·rw [if_neg h2,if_neg (by omega)]
theorem lI (l:List Int):l.flatMap qv=l.map (AV.int .u8):=by
 induction l with
 | nil=>rfl
 | cons x xs b=>rw [List.flatMap_cons,b];rfl
theorem T_ {s:AS} (c:aJ s) {l:Nat} (d:Am.Own s l ((List.replicate 64 (0:Int)).map (.int .u8))) {v:AV} {sec:List Int} (hs:gZ s v sec) (i:sec.length<=64) {K:AV->AS->Prop}
  (j:∀ v' s',Am.Own s' l ((sec++List.replicate (64 - sec.length) 0).map (.int .u8))->aJ s'->bB [l] s s'->K v' s'):ig (q8 T av (.slc (some (l,0)) 64 64 true) v s) K:=by
 obtain ⟨b,hlen⟩:=bR.src gY hs;have e:q8 T av (.slc (some (l,0)) 64 64 true) v s=if sec.flatMap qv=[] then some (.int .i64 ((min sec.length 64:Nat):Int),s) else (Am.cS s l 0 (sec.flatMap qv)).map fun s'=>(.int .i64 ((min sec.length 64:Nat):Int),s'):=by
  simp only [q8,aT,eN,Option.bind_some,hlen,show Ef (AV.slc (some (l,0)) 64 64 true)=some 64 from rfl,Nat.min_eq_left i,b]
 rw [lI] at e;by_cases h0:sec=[]
 ·subst h0;simp only [List.map_nil,if_true] at e;exact ⟨_,_,e,j _ _ (by simpa using d) c (bB.refl _ _)⟩
 ·rw [if_neg (by simpa using h0)] at e;obtain ⟨s',k,h2⟩:=bC.own (K:=fun s'=>Am.Own s' l ((sec++List.replicate (64 - sec.length) 0).map (.int .u8))/\aJ s'/\bB [l] s s') (vs:=sec.map (AV.int .u8)) (o:=0) c d (by simp;omega) (fun s' P=>⟨by have:=P.at;rw [VH _ i] at this;exact this,P.wf,P.mut⟩);rw [k] at e;exact ⟨_,_,e,j _ _ h2.1 h2.2.1 h2.2.2⟩
theorem NJ (sec:List Int) (h:sec.length<=64) (m:Int):(xz sec m).length=64:=by simp [xz];omega
theorem QF {a b:AV} (c:a.one=true) (hb:b.one=true):de T eV 2 [(0,a),(1,b)]=some [a,b]:=by
 have e1:∀ v:AV,v.one=true->bN v=some [v]:=fun v hv=>by cases v <;> first | rfl | cases hv
 simp only [de,oL,qX,GQ,Option.bind_some,e1 _ c,e1 _ hb,jQ,e1 (AV.slc none 0 0 true) rfl];rfl
set_option maxRecDepth 100000 in
theorem VI {s:AS} {sv:AV} {sec:List Int} (hs:gZ s sv sec) (hl:sec.length<=64) {a:AV} {L:List (AV×List Int)} (ha:Sl XW 1 s a L) (hL:∀ p∈L,gZ s p.1 p.2) (hn:L.length<=2 ^ 10) (hb:qN L<=2 ^ 16) :
  aa Tryz.prog zK [sv,a] s fun r s'=>r=.agg ((Be sec (L.flatMap Prod.snd)).map (.int .u8))/\Ext s s':=by
 refine aa.pre fun hw=>O5 _ _ _ _ (aj.intro hw rfl fun l1 s2 F2=>?_);refine aa.use (T4 _) ?_;rintro v3 s4 ⟨rfl,e4⟩ w4;have A:sX.length=72:=rA 64;refine ⟨_,rfl,jK w4 (by simp [A]) (by simp) (cH _ _) fun W s8 X=>?_⟩;have e8:=(F2.ext.trans e4).trans X.ext;have o1:=(F2.own.ext e4).ext X.ext;refine ⟨fun vs s'=>vs=[sv]/\s'=s8,?_,⟨_,(hs.ext e8).b_ aT _,af.no (by rw [decide_eq_false_iff_not];omega) ⟨rfl,rfl⟩⟩⟩;rintro v10 ca ⟨hv,rfl⟩;simp only [List.cons.injEq,and_true] at hv;subst hv;refine aj.intro X.wf rfl fun qY bQ d=>aj.intro d.wf rfl fun lN fH j=>⟨_,oz sH eN (by decide),?_⟩;have Y:=(e8.trans d.ext).trans j.ext;have a3:Am.Own fH qY ((List.replicate 64 (0:Int)).map (.int .u8)):=((Ch .u8 64) ▸ (d.own:Am.Own bQ qY (List.replicate 64 (AV.int .u8 0)))).ext j.ext;have a4:Am.Own fH lN ((List.replicate 64 (0:Int)).map (.int .u8)):=(Ch .u8 64) ▸ (j.own:Am.Own fH lN (List.replicate 64 (AV.int .u8 0)));have Z:s.h qY=none:=e8.none d.no;have ab:s.h lN=none:=(e8.trans d.ext).none j.no;have d1:qY≠lN:=fun e=>by
  have:=j.no;rw [<- e,d.own] at this;cases this
 have d6:W≠qY:=fun e=>by
  have:=d.no;rw [<- e,X.own] at this;cases this
 have d7:W≠lN:=fun e=>by
  have:=j.no;rw [<- e,X.own.ext d.ext] at this;cases this
 have d8:l1≠qY:=fun e=>by
  have:=d.no;rw [<- e,o1] at this;cases this
 have d9:l1≠lN:=fun e=>by
  have:=j.no;rw [<- e,o1.ext d.ext] at this;cases this
 refine T_ j.wf a3 (hs.ext Y) hl fun cb eH I a5 C=>?_;generalize hK:sec++List.replicate (64 - sec.length) 0=K at I;have J:K.length=64:=by rw [<- hK];simp;omega
 have a6:(K.map (AV.int .u8)).length=64:=by simp [J]
 refine ⟨_,I.at.aD (by omega),?_⟩;rw [List.drop_zero,List.take_of_length_le (by omega)];refine ⟨⟨cH _ _,by rw [a6]⟩,bC.own a5 (a4.mut C (by simpa using Ne.symm d1)) (by simp [J]) fun gw y=>?_⟩;have a7:Am.Own gw lN (K.map (.int .u8)):=by
  have:=y.at;rw [dZ (by simp [J])] at this;exact this
 have a8:Ext s gw:=Ext.wr (Ext.wr Y Z C) ab y.mut;have a9:Am.Own gw W (sX.map (.int .u32)):=(((X.own.ext d.ext).ext j.ext).mut C (by simpa using d6)).mut y.mut (by simpa using d7);have a':=(((o1.ext d.ext).ext j.ext).mut C (by simpa using d8)).mut y.mut (by simpa using d9);refine ⟨fun vs s'=>Ext s s'/\aJ s'/\Am.Own s' qY ((xz sec 54).map (.int .u8))/\Am.Own s' lN ((xz sec 92).map (.int .u8))/\Am.Own s' W (sX.map (.int .u32))/\Am.Own s' l1 (List.replicate 32 (.int .u8 0)),?_,?_⟩
 ·rintro fV ⟨M,cc,z,B,p6,p1⟩;have k:=NJ sec hl 54;have n:=NJ sec hl 92;have ad:∀ s',Ext fV s'->aD s' W 0 72=some (sX.map (.int .u32)):=fun s' e=>by
   rw [(p6.ext e).at.aD (by simp [A]),List.drop_zero,List.take_of_length_le (by simp [A])]
  have ae:∀ s',Ext fV s'->gZ s' (.slc (some (qY,0)) 64 64 true) (xz sec 54):=fun s' e=>bR.mk (z.ext e).at (by rw [lI,k];simp [k]) (by rw [lI,List.drop_zero,List.take_of_length_le (by simp [k])]) |> (k ▸ ·);have al:∀ s',Ext fV s'->gZ s' (.slc (some (lN,0)) 64 64 true) (xz sec 92):=fun s' e=>bR.mk (B.ext e).at (by rw [lI,n];simp [n]) (by rw [lI,List.drop_zero,List.take_of_length_le (by simp [n])]) |> (n ▸ ·);refine ⟨fun q _ v s'=>(q=2->∃ l,v=.slc (some (l,0)) 1 1 true/\At s' l [.slc (some (qY,0)) 64 64 true])/\(q=4->Sl XW 1 s' v ((.slc (some (qY,0)) 64 64 true,xz sec 54)::L))/\(q=6->∃ l,v=.ptr (some (l,0))/\Am.Own s' l (List.replicate 32 (.int .u8 0))/\fV.h l=none),fun q _ v=>(q=5->v=.agg ((D7 sX (xz sec 54++L.flatMap Prod.snd)).map (.int .u8)))/\(q=6->∃ l,v=.ptr (some (l,0))),?_,_,ad _ (Ext.refl _),_,oz sH eN (by decide),fun en cd ba _=>⟨_,Mh Eb rfl rfl,aj.intro ba rfl fun bb ce F=>⟨F.ext,⟨(fun _=>⟨bb,rfl,F.own.at⟩),(fun h=>by cases h),(fun h=>by cases h)⟩,(fun h=>by cases h),(fun h=>by cases h)⟩⟩,⟨.bad,(fun h=>by cases h),(fun h=>by cases h)⟩,fun cf _=>⟨fun ch bc bd O=>?_,⟨.bad,(fun h=>by cases h),(fun h=>by cases h)⟩,fun ci _=>⟨fun lC am ck O=>?_,⟨_,(fun _=>rfl),(fun h=>by cases h)⟩,fun cl an=>?_⟩⟩⟩
  ·rintro q ks v s' s'' e ⟨h1,h2,h3⟩;refine ⟨fun Q=>?_,fun Q=>(h2 Q).ext e,fun Q=>?_⟩
   ·obtain ⟨l,a,b⟩:=h1 Q;exact ⟨l,a,b.ext e⟩
   ·obtain ⟨l,a,b,c⟩:=h3 Q;exact ⟨l,a,b.ext e,c⟩
  ·obtain ⟨l,rfl,R⟩:=O.1.1 rfl;refine Vd (f:=XW) Eb Ls bd (x:=(.slc (some (qY,0)) 64 64 true,xz sec 54)) R (ha.ext (M.trans bc)) (by omega) fun cm cn be cp bh=>⟨bh,⟨(fun h=>by cases h),(fun _=>be),(fun h=>by cases h)⟩,(fun h=>by cases h),(fun h=>by cases h)⟩
  ·refine (QD A (O.2.1.2.1 rfl) ?_ (by simp;omega) (by simp [qN,k] at hb ⊢;omega)).mono ?_
   ·intro p hp;rcases List.mem_cons.1 hp with rfl | hp
    ·exact ae _ am
    ·exact (hL p hp).ext (M.trans am)
   ·rintro v s' ⟨rfl,e⟩;exact ⟨_,rfl,e,⟨(fun h=>by cases h),(fun h=>by cases h),(fun h=>by cases h)⟩,(fun _=>rfl),(fun h=>by cases h)⟩
  ·obtain rfl:=an.1 rfl;generalize hH:D7 sX (xz sec 54++L.flatMap Prod.snd)=H1;have w:H1.length=32:=by rw [<- hH,ox]
   refine ⟨_,rfl,fun cr bi bj _=>aj.intro bj rfl fun o cs F=>⟨F.ext,⟨(fun h=>by cases h),(fun h=>by cases h),(fun _=>⟨o,rfl,F.own,bi.none F.no⟩)⟩,(fun h=>by cases h),(fun _=>⟨o,rfl⟩)⟩,⟨.ptr (some (0,0)),(fun h=>by cases h),(fun _=>⟨0,rfl⟩)⟩,fun cu ao=>?_⟩;obtain ⟨o,rfl⟩:=ao.2 rfl;refine ⟨_,rfl,fun cv bk bl O=>?_⟩;obtain ⟨l',ar,bm,bo⟩:=O.2.2.2.1.2.2 rfl;simp only [AV.ptr.injEq,Option.some.injEq,Prod.mk.injEq,and_true] at ar;subst ar;refine ⟨⟨cH _ _,by simp [w]⟩,bC.own bl bm (by simp [w]) fun rI aw=>?_⟩;have bs:Am.Own rI o (H1.map (.int .u8)):=by
    have:=aw.at;rw [dZ (by simp [w])] at this;exact this
   have S:Ext fV rI:=Ext.wr bk bo aw.mut;refine ⟨fun q _ v s'=>q=3->∃ l,v=.slc (some (l,0)) 2 2 true/\At s' l [.slc (some (lN,0)) 64 64 true,.slc (some (o,0)) 32 32 true],fun _ _ _=>True,?_,_,ad _ S,_,oz sH eN (by decide),_,oz KE eN (by decide),fun FN cw bx _=>⟨_,QF rfl rfl,aj.intro bx rfl fun b0 cx F=>⟨F.ext,(fun _=>⟨b0,rfl,F.own.at⟩),trivial⟩⟩,⟨.bad,trivial⟩,fun cy _ b1 U cz O=>?_⟩
   ·rintro q ks v s' s'' e h Q;obtain ⟨l,a,b⟩:=h Q;exact ⟨l,a,b.ext e⟩
   ·obtain ⟨l,rfl,R⟩:=O.1 rfl;have hh:gZ b1 (.slc (some (o,0)) 32 32 true) H1:=bR.mk (bs.ext U).at (by rw [lI];simp [w]) (by rw [lI,List.drop_zero,List.take_of_length_le (by simp [w])]) |> (w ▸ ·);refine aa.use (QD (L:=[(.slc (some (lN,0)) 64 64 true,xz sec 92),(.slc (some (o,0)) 32 32 true,H1)]) A (bR.mk R rfl rfl) ?_ (by simp) (by simp [qN,n,w])) ?_
    ·intro p hp;simp only [List.mem_cons,List.not_mem_nil,or_false] at hp;rcases hp with rfl | rfl
     ·exact al _ (S.trans U)
     ·exact hh
    ·rintro cA cB ⟨rfl,b2⟩ b3;have a0:=(S.trans U).trans b2;have hc:([(AV.slc (some (lN,0)) 64 64 true,xz sec 92),(AV.slc (some (o,0)) 32 32 true,H1)].flatMap Prod.snd)=xz sec 92++H1:=by simp
     rw [hc];refine ⟨_,rfl,⟨cH _ _,by simp [ox]⟩,bC.own b3 (p1.ext a0) (by simp [ox]) fun cC P=>?_⟩;have hP:=P.at;rw [dZ (by simp [ox])] at hP;refine ⟨_,At.aD ⟨_,_,hP⟩ (by simp [ox]),?_,Ext.wr (M.trans a0) F2.no P.mut⟩;rw [List.drop_zero,List.take_of_length_le (by simp [ox]),Be,hH]
 ·refine ⟨fun m vs s'=>∃ i:Nat,vs=[.int .i64 (i:Nat)]/\i<=64/\m=64 - i/\Ext s s'/\aJ s'/\Am.Own s' qY ((Ci (fun x=>xu .u8 x 54) K i).map (.int .u8))/\Am.Own s' lN ((Ci (fun x=>xu .u8 x 92) K i).map (.int .u8))/\Am.Own s' W (sX.map (.int .u32))/\Am.Own s' l1 (List.replicate 32 (.int .u8 0)),64,⟨0,rfl,by omega,rfl,a8,y.wf,by simpa [Ci] using I.mut y.mut (by simpa using d1),by simpa [Ci] using a7,a9,a'⟩,?_⟩;rintro m c0 b4 ⟨i,hi,h6,rfl,a1,a2,z,B,p6,p1⟩;simp only [List.cons.injEq,AV.int.injEq,true_and,and_true] at hi;subst hi;refine af.dec (fun c1=>?_) (fun c2=>?_)
  ·have hr:ak b4 qY (0+((i:Nat):Int).toNat*1)=some (.int .u8 (K.getD i 0)):=by rw [<- QE (fun x=>xu .u8 x 54) (by omega)];exact z.at.Ro (by rw [Cj];omega) (by simp)
   refine ⟨_,_,Yy (by omega),_,hr,_,rfl,_,_,Yy (by omega),bC.int a2 z (i:=i) (by rw [Cj];omega) (by simp) fun b5 b6 b7 D=>?_⟩;have H:=B.mut D (by simpa using Ne.symm d1);have b8:ak b5 lN (0+((i:Nat):Int).toNat*1)=some (.int .u8 (K.getD i 0)):=by rw [<- QE (fun x=>xu .u8 x 92) (by omega)];exact H.at.Ro (by rw [Cj];omega) (by simp)
   refine ⟨_,_,Yy (by omega),_,b8,_,rfl,_,_,Yy (by omega),bC.int b7 H (i:=i) (by rw [Cj];omega) (by simp) fun c3 b9 b' G=>⟨64 - (i+1),by omega,i+1,by rw [uJ (by omega)],by omega,rfl,Ext.wr (Ext.wr a1 Z D) ab G,b',?_,?_,(p6.mut D (by simpa using d6)).mut G (by simpa using d7),(p1.mut D (by simpa using d8)).mut G (by simpa using d9)⟩⟩
   ·rw [<- NI (fun x=>xu .u8 x 54) (by omega)];exact b6.mut G (by simpa using d1)
   ·rw [<- NI (fun x=>xu .u8 x 92) (by omega)];exact b9
  ·obtain rfl:i=K.length:=by omega
   rw [T9] at z B;refine ⟨a1,a2,?_,?_,p6,p1⟩
   ·rw [xz,hK];exact z
   ·rw [xz,hK];exact B
theorem xor_self (n:Int):xu .u8 n n=0:=by
 unfold xu;rw [BitVec.xor_self];rfl
theorem PC {H:List Int} (x:H.length=32) (s:AS):aa Tryz.prog xB [.agg (H.map (.int .u8)),.agg (H.map (.int .u8))] s fun r s'=>r=.bool true/\Ext s s':=by
 refine aa.pre fun d=>MP _ _ _ _ ⟨cH _ _,aj.intro d rfl fun l1 s2 b=>⟨cH _ _,aj.intro b.wf rfl fun l3 s4 c=>?_⟩⟩;have e:=b.ext.trans c.ext;refine ⟨fun vs s'=>vs=[.int .u8 0]/\s'=s4,?_,fun m vs s'=>∃ i:Nat,vs=[.int .u8 0,.int .i64 (i:Nat)]/\i<=32/\m=32 - i/\s'=s4,32,⟨0,rfl,by omega,rfl,rfl⟩,?_⟩
 ·rintro n s7 ⟨h,rfl⟩;simp only [List.cons.injEq,AV.int.injEq,true_and,and_true] at h;subst h;exact ⟨rfl,e⟩
 ·rintro m j k bQ ⟨i,hi,y,rfl,rfl⟩;simp only [List.cons.injEq,AV.int.injEq,true_and,and_true] at hi;obtain ⟨rfl,rfl⟩:=hi;refine af.dec (fun l=>?_) (fun o=>⟨rfl,rfl⟩);have p:ak bQ l1 (0+((i:Nat):Int).toNat*1)=some (.int .u8 (H.getD i 0)):=(b.own.ext c.ext).at.Ro (by omega) (by simp);have h3:ak bQ l3 (0+((i:Nat):Int).toNat*1)=some (.int .u8 (H.getD i 0)):=c.own.at.Ro (by omega) (by simp);have w:bG .xor .u8 (H.getD i 0) (H.getD i 0)=some (.int .u8 0):=congrArg (fun n=>some (AV.int .u8 n)) (xor_self _);refine ⟨_,_,YO (by omega),_,p,_,_,YO (by omega),_,h3,_,w,0,rfl,32 - (i+1),by omega,i+1,by rw [uJ (by omega)],by omega,rfl,rfl⟩
end
section
open Go.Am Go.aq Go.aB
theorem JF {α:Type} {f:α->List Int} {n:Nat} (h:∀ x,(f x).length=n):∀ l:List α,(l.flatMap f).length=l.length*n
 | []=>by simp
 | a::l=>by rw [List.flatMap_cons,List.length_append,h,JF h l,List.length_cons,Nat.add_mul];omega
theorem PD {s:AS} (b:aJ s) (t:List UInt8) {K:AV->AS->Prop} (d:∀ v s',gZ s' v (Ny t)->Ext s s'->aJ s'->K v s'):ig (cY T cL av (.str t) s) K:=by
 have Fr:=b.new (o:=.cells (t.map fun c=>.int .u8 c.toNat) 1 false) rfl;refine ⟨.slc (some (s.nl,0)) t.length t.length false,s.new (.cells (t.map fun c=>.int .u8 c.toNat) 1 false),by simp [cY,pL,aT,Bg],d _ _ ?_ Fr.ext Fr.wf⟩;have:=bR.mk (s:=s.new (.cells (t.map fun c=>.int .u8 c.toNat) 1 false)) (la:=s.nl) (o:=0) (n:=t.length) (c:=t.length) (e:=false) (sz:=1) (cs:=(Ny t).flatMap qv) ⟨_,_,Fr.at⟩ (by rw [tQ,yb]) (by rw [RQ,List.drop_zero];exact List.take_of_length_le (by simp)) (Nat.le_refl _);show bR _ _ _ _ (Ny t).length;rw [yb];exact this
section
variable {F:List Nat} {s:AS} {p:Nat} {x:aF} {B:Nat}
end
end
section
open Go.Am Go.aq Go.aB
theorem Ah {n:Int} (h:0<=n) {b:Nat} (hs:b<=64):vS n b=n / 2 ^ b % 256:=by
 unfold vS;rw [IntKind.wrap_u8,Nat.min_eq_left (show b<=IntKind.bits .u64 from hs),Int.fdiv_eq_ediv_of_nonneg _ (Int.le_of_lt (Int.pow_pos (by decide)))]
theorem R4 (n:Int) (b:Nat):0<=vS n b/\vS n b<256:=by unfold vS;rw [IntKind.wrap_u8];omega
theorem Lv (n:Int) {k i:Nat} (h:i<k):(yK n k)[i]? = some (vS n (8*(k - 1 - i))):=by
 simp [yK,h]
theorem Xt (n:Int) (k:Nat):∀ b∈yK n k,0<=b/\b<256:=by
 intro b hb;obtain ⟨i,_,rfl⟩:=List.mem_map.1 hb;exact R4 _ _
end
section
set_option maxRecDepth 100000
set_option maxHeartbeats 4000000
open Go.Am
def NK (a0:AV) (s:AS) (R:AV->AS->Prop):Prop :=
 aa Tryz.prog aZ [a0] s fun c s2=>oq (aY T gX [(0,c),(1,.bool true),(2,.bool true)]) fun b=>cj b (aj (.cells b 0 false) s2 fun d e=>R (.ptr (some (d,0))) e)
def NL:QA:=(.seq .leaf (.seq .leaf .leaf))
theorem NM (a0:AV) (s:AS) (R:AV->AS->Prop) (h:NK a0 s R):aa Tryz.prog sy [a0] s R :=
 aa.q (n:=7) (rs:=[.tmp 2]) (A:=NL) hT bX Tryz.func88 (by kernel_rfl) rfl rfl rfl (by kernel_rfl) (by kernel_rfl) h
def yg (a0:Option (Nat×Nat)) (s:AS) (R:AV->AS->Prop):Prop :=
 aj (.cells [.int .u64 0,.int .u64 0,.int .u64 0,.int .u64 0,.int .u64 0,.int .u64 0,.int .u64 0,.int .u64 0,.int .u64 0,.int .u64 0,.int .u64 0,.int .u64 0,.int .u64 0,.int .u64 0,.int .u64 0,.int .u64 0] 0 false) s fun l1 s2=>aa Tryz.prog iT [.ptr a0,.int .i64 128] s2 fun w s4=>∃ p:AV,∃ x:Bool,w=.aQ [p,.bool x]/\(aa Tryz.prog sy [p] s4 fun y s8=>∃ r:Option (Nat×Nat),y=.ptr r/\(aj (.cells [.ptr none] 0 false) s8 fun nN j=>bC (cS j nN 0 [.ptr r]) fun dJ=>bu fun c k=>c k [.int .i64 0] dJ /\
 ∀ d:Nat,∀ b:Int,∀ kU:AS,c d [.int .i64 b] kU ->
 af (decide ((b:Int)<16))
 (aa Tryz.prog iU [(.ptr (some (nN,0)))] kU fun l iF=>∃ e:Int,l=.int .u64 e/\(bE (ag T aX (.ptr (some (l1,0))) (.int .i64 b)) fun m n=>bC (cS iF m n [.int .u64 e]) fun uR=>∃ m',m'<d/\c m' [(.int .i64 (IntKind.wrap .i64 (b+1)))] uR))
 (aS (aD kU l1 0 16) fun i=>fy (some 16) i (bC (cS kU l1 0 i) fun en=>aS (aD en l1 0 16) fun o=>R (.agg o) en))))
def yh:QA:=(.seq .leaf (.seq .leaf (.seq .leaf (.seq .leaf (.seq (.seq .leaf (.wrap (.loop [(16,.int .i64)] [(7,7),(16,23)] (.seq .leaf (.seq (.cond .leaf .leaf) (.seq (.wrap (.seq .leaf .leaf)) .leaf)))))) (.seq .leaf .leaf))))))
theorem yj (a0:Option (Nat×Nat)) (s:AS) (R:AV->AS->Prop) (h:yg a0 s R):aa Tryz.prog jW [.ptr a0] s R :=
 aa.q (n:=25) (rs:=[.cell 2 49]) (A:=yh) hT bX Tryz.func89 (by kernel_rfl) rfl rfl rfl (by kernel_rfl) (by kernel_rfl) h
def yl (a0:Option (Nat×Nat)) (a1:Int) (s:AS) (R:AV->AS->Prop):Prop :=
 bt fun c =>
 (∀ n2:Int,∀ s3:AS,c [.int .i64 n2] s3 ->
 aa Tryz.prog iT [.ptr a0,.int .i64 n2] s3 fun i j=>∃ e:AV,∃ k:Bool,i=.aQ [e,.bool k]/\(aa Tryz.prog zM [e] j fun l s9=>∃ b:Int,∃ d:Int,l=.aQ [.int .u64 b,.int .i64 d]/\(R (.int .u64 b) s9))) /\
 (af (decide ((a1:Int)<1)) (c [(.int .i64 (-1))] s) (af (decide ((a1:Int)>8))
 (c [(.int .i64 (-1))] s)
 (c [.int .i64 a1] s)))
def ym:QA:=(.seq .leaf (.join [(1,.int .i64)] [(1,1),(9,14)] (.seq .leaf (.cond .leaf .leaf)) (.seq .leaf (.seq .leaf (.seq .leaf .leaf)))))
theorem yo (a0:Option (Nat×Nat)) (a1:Int) (s:AS) (R:AV->AS->Prop) (h:yl a0 a1 s R):aa Tryz.prog jZ [.ptr a0,.int .i64 a1] s R :=
 aa.q (n:=27) (rs:=[.tmp 4]) (A:=ym) hT bX Tryz.func165 (by kernel_rfl) rfl rfl rfl (by kernel_rfl) (by kernel_rfl) h
def yp (a0:Option (Nat×Nat)) (s:AS) (R:AV->AS->Prop):Prop :=
 sr (iZ T 100 wh (.ptr a0) (.ptr none)) fun b=>af b (R (.bool true) s) (ah a0 fun c d=>Qb (ak s c (d+1)) fun e=>R (.bool (!e)) s)
def yq:QA:=(.seq .leaf (.seq .leaf .leaf))
theorem yu (a0:Option (Nat×Nat)) (s:AS) (R:AV->AS->Prop) (h:yp a0 s R):aa Tryz.prog j_ [.ptr a0] s R :=
 aa.q (n:=12) (rs:=[.tmp 2]) (A:=yq) hT bX Tryz.func217 (by kernel_rfl) rfl rfl rfl (by kernel_rfl) (by kernel_rfl) h
def Ai (a0:Option (Nat×Nat)) (a1:Int) (s:AS) (R:AV->AS->Prop):Prop :=
 aa Tryz.prog j_ [.ptr a0] s fun B s2=>∃ y:Bool,B=.bool y/\(af y
 (R (.aQ [.slc none 0 0 true,.bool false]) s2)
 (bt fun b =>
 (∀ z:Bool,∀ s6:AS,b [.bool z] s6 ->
 af z
 (oq (aY T gX [(2,.bool true)]) fun A=>ah a0 fun C D=>fy (some 3) A (bC (cS s6 C D A) fun c=>R (.aQ [.slc none 0 0 true,.bool false]) c))
 (ah a0 fun d e=>dn (ak s6 d e) fun i=>dn (bf T av i none (some (.int .i64 a1)) (some (.int .i64 a1))) fun j=>ah a0 fun k l=>dn (ak s6 k l) fun m=>dn (bf T av m (some (.int .i64 a1)) none none) fun n=>ah a0 fun AJ o=>e_ T av s6 AJ o n fun gl=>R (.aQ [j,.bool true]) gl)) /\
 (af (decide ((a1:Int)<0)) (b [.bool true] s2) (ah a0 fun p r=>dn (ak s2 p r) fun w=>aV .i64 (aL T av w s2) fun x=>b [(.bool (decide ((a1:Int)>x)))] s2))))
def Aj:QA:=(.seq .leaf (.seq (.wrap (.seq .leaf (.cond (.seq .leaf .leaf) (.join [(10,.bool)] [(10,21)] .leaf (.cond (.seq .leaf (.seq .leaf .leaf)) .leaf))))) (.seq .leaf (.seq .leaf (.seq .leaf .leaf)))))
theorem Ak (a0:Option (Nat×Nat)) (a1:Int) (s:AS) (R:AV->AS->Prop) (h:Ai a0 a1 s R):aa Tryz.prog iT [.ptr a0,.int .i64 a1] s R :=
 aa.q (n:=42) (rs:=[.tmp 4,.tmp 5]) (A:=Aj) hT bX Tryz.func163 (by kernel_rfl) rfl rfl rfl (by kernel_rfl) (by kernel_rfl) h
def vT (c0:Option (Nat×Nat)) (s:AS) (R:AV->AS->Prop):Prop :=
 ah c0 fun l1 o2=>nM (ak s l1 o2) fun c=>aa Tryz.prog jZ [.ptr c,.int .i64 8] s fun d e=>∃ b:Int,d=.int .u64 b/\(R (.int .u64 b) e)
def vU:QA:=(.seq .leaf (.seq .leaf .leaf))
theorem vV (c0:Option (Nat×Nat)) (s:AS) (R:AV->AS->Prop) (h:vT c0 s R):aa Tryz.prog iU [.ptr c0] s R :=
 aa.q (n:=4) (rs:=[.tmp 1]) (A:=vU) hT bX Tryz.func164 (by kernel_rfl) rfl rfl rfl (by kernel_rfl) (by kernel_rfl) h
def PE (a0:AV) (s:AS) (R:AV->AS->Prop):Prop :=
 bt fun e =>
 (∀ o:Bool,∀ s3:AS,e [.bool o] s3 ->
 af o
 (R (.aQ [.int .u64 0,.int .i64 2]) s3)
 (bt fun p =>
 (∀ r:Int,∀ s6:AS,p [.int .u64 r] s6 ->
 R (.aQ [.int .u64 r,.int .i64 0]) s6) /\
 (aV .i64 (aL T av a0 s3) fun w=>bu fun i x=>i x [.int .u64 0,.int .i64 0] s3 /\
 ∀ d:Nat,∀ c:Int,∀ b:Int,∀ bQ:AS,i d [.int .u64 c,.int .i64 b] bQ ->
 af (decide ((b:Int)<w))
 (bE (ag T av a0 (.int .i64 b)) fun lN j=>aV .u8 (ak bQ lN j) fun k=>NN 8 (aV .u64 (bG .or .u64 (IntKind.wrap .u64 (c*2 ^ min (Int.toNat 8) (IntKind.bits .u64))) (IntKind.wrap .u64 k)) fun l=>∃ m',m'<d/\i m' [.int .u64 l,(.int .i64 (IntKind.wrap .i64 (b+1)))] bQ))
 (p [.int .u64 c] bQ)))) /\
 (aV .i64 (aL T av a0 s) fun m=>af (decide ((m:Int)<1)) (e [.bool true] s) (aV .i64 (aL T av a0 s) fun n=>e [(.bool (decide ((n:Int)>8)))] s))
def PF:QA:=(.seq .leaf (.seq (.join [(14,.bool)] [(7,14)] .leaf (.cond (.seq .leaf .leaf) .leaf)) (.seq .leaf (.join [(4,.int .u64)] [(4,4),(6,6),(15,26)] (.seq .leaf (.wrap (.loop [(4,.int .u64),(17,.int .i64)] [(4,4),(6,6),(17,26)] (.seq .leaf (.seq (.cond .leaf .leaf) (.seq (.wrap (.seq .leaf .leaf)) .leaf)))))) (.seq .leaf .leaf)))))
theorem PG (a0:AV) (s:AS) (R:AV->AS->Prop) (h:PE a0 s R):aa Tryz.prog zM [a0] s R :=
 aa.q (n:=28) (rs:=[.tmp 2,.tmp 3]) (A:=PF) hT bX Tryz.func218 (by kernel_rfl) rfl rfl rfl (by kernel_rfl) (by kernel_rfl) h
end
section
open Go.Am Go.aq Go.aB
/-! ### numbers of bytes -/
def LH (l:List Int):Prop:=∀ x∈l,0<=x/\x<256
theorem LH.take {l:List Int} (h:LH l) (n:Nat):LH (l.take n):=fun x b=>h x (List.mem_of_mem_take b)
theorem LH.drop {l:List Int} (h:LH l) (n:Nat):LH (l.drop n):=fun x b=>h x (List.mem_of_mem_drop b)
theorem LH.nil:LH []:=by simp [LH]
def DI (l:List Int):Int:=l.foldl (fun n x=>n*256+x) 0
theorem DJ (l:List Int) (x:Int):DI (l++[x])=DI l*256+x:=by simp [DI]
theorem VJ:∀ (l:List Int) (n:Nat),LH l->l.length<=n->0<=DI l/\DI l<256 ^ n:=by
 intro l
 induction b:l.length generalizing l with
 | zero =>
  intro n _ _;obtain rfl:=List.length_eq_zero_iff.1 b;exact ⟨by simp [DI],by simp only [DI,List.foldl_nil];exact Int.pow_pos (by decide)⟩
 | succ k c =>
  intro n h j;obtain ⟨m,x,rfl⟩:∃ m x,l=m++[x]:=⟨l.dropLast,l.getLast (by intro e;subst e;simp at b),(List.dropLast_concat_getLast _).symm⟩;have d:m.length=k:=by simpa using b
  obtain ⟨n',rfl⟩:∃ n',n=n'+1:=⟨n - 1,by omega⟩;have:=c m d n' (fun y i=>h y (by simp [i])) (by omega);have o:=h x (by simp);rw [DJ,Int.pow_succ];exact ⟨by omega,by omega⟩
theorem VK {a x:Int} (b:0<=a/\a<256 ^ 7) (c:0<=x/\x<256):bG .or .u64 (IntKind.wrap .u64 (a*2 ^ min (Int.toNat 8) (IntKind.bits .u64))) (IntKind.wrap .u64 x)=some (.int .u64 (a*256+x)):=by
 have e1:(2:Int) ^ min (Int.toNat 8) (IntKind.bits .u64)=256:=by decide
 have d:(256:Int) ^ 7=72057594037927936:=by decide
 rw [d] at b;rw [e1,gi (by omega),gi (by omega)];obtain ⟨A,rfl⟩:=Int.eq_ofNat_of_zero_le b.1;obtain ⟨X,rfl⟩:=Int.eq_ofNat_of_zero_le c.1;have e:(BitVec.ofInt (IntKind.bits .u64) ((A:Int)*256)).toNat=2 ^ 8*A:=by
  rw [BitVec.toNat_ofInt];have:((2 ^ (IntKind.bits .u64):Nat):Int)=18446744073709551616:=by decide
  rw [this];omega
 have h2:(BitVec.ofInt (IntKind.bits .u64) (X:Int)).toNat=X:=by
  rw [BitVec.toNat_ofInt];have:((2 ^ (IntKind.bits .u64):Nat):Int)=18446744073709551616:=by decide
  rw [this];omega
 simp only [bG,BitVec.toNat_or,e,h2];rw [<- Nat.two_pow_add_eq_or_of_lt (show X<2 ^ 8 by omega),gi (by omega)];congr 2;omega
def R5 (l:List Int):Int:=if 1<=l.length/\l.length<=8 then DI l else 0
theorem Xu {s:AS} {v:AV} {l:List Int} (h:gZ s v l) (hb:LH l):aa Tryz.prog zM [v] s fun r s'=>s'=s/\∃ c,r=.aQ [.int .u64 (R5 l),.int .i64 c]:=by
 refine PG _ _ _ ⟨fun vs s'=>s'=s/\vs=[.bool (decide (¬ (1<=l.length/\l.length<=8)))],?_,_,h.b_ aT _,af.dec (fun w=>⟨rfl,?_⟩) (fun w=>⟨_,h.b_ aT _,rfl,?_⟩)⟩;rotate_left
 ·rw [decide_eq_true (by omega)]
 ·congr 2;apply decide_eq_decide.2;omega
 rintro b s3 ⟨rfl,j⟩;obtain rfl:b=decide (¬ (1<=l.length/\l.length<=8)):=AV.bool.inj (List.cons.inj j).1;refine af.dec (fun d=>⟨rfl,2,?_⟩) (fun d=>?_)
 ·rw [show R5 l=0 from if_neg d]
 have d:1<=l.length/\l.length<=8:=Classical.not_not.1 d;refine ⟨fun vs s'=>s'=s3/\vs=[.int .u64 (DI l)],?_,_,h.b_ aT _,fun m vs s'=>∃ i:Nat,vs=[.int .u64 (DI (l.take i)),.int .i64 (i:Nat)]/\i<=l.length/\m=l.length - i/\s'=s3,l.length,⟨0,rfl,by omega,rfl,rfl⟩,?_⟩
 ·rintro n s6 ⟨rfl,k⟩;obtain rfl:n=DI l:=by simpa using k
  exact ⟨rfl,0,by rw [show R5 l=DI l from if_pos d]⟩
 rintro m y z bQ ⟨i,e,hi,rfl,rfl⟩;simp only [List.cons.injEq,AV.int.injEq,true_and,and_true] at e;obtain ⟨rfl,rfl⟩:=e;refine af.dec (fun A=>?_) (fun B=>?_)
 ·obtain ⟨x,p⟩:=cF (l:=l) (i:=i) (by omega);obtain ⟨la,o,C,D⟩:=h.ix (by decide) cg aT eN p;have step:=List.take_add_one (l:=l) (i:=i);rw [p,Option.toList_some] at step;have k:=VJ (l.take i) 7 (hb.take i) (by rw [List.length_take];omega);refine ⟨la,o,C _,x,(D _ (Ext.refl _)).1 0 (by decide),by omega,_,VK k (hb x (List.mem_of_getElem? p)),l.length - (i+1),by omega,i+1,?_,by omega,rfl,rfl⟩;rw [step,DJ,a_ (by omega)];rfl
 ·rw [List.take_of_length_le (by omega)];exact ⟨rfl,rfl⟩
/-! ### readers,plainly: what is left;none: it has failed -/
abbrev RO:=Option (List Int)
def RO.fit (o:RO) (n:Int):Bool:=match o with
 | some B=>decide (0<=n/\n<=B.length)
 | none=>false
def RO.take (o:RO) (n:Int):List Int:=if o.fit n then (o.getD []).take n.toNat else []
def RO.left (o:RO) (n:Int):RO:=if o.fit n then o.map fun B=>B.drop n.toNat else none
def RO.NO (o:RO) (k:Int):Int:=R5 (o.take k)
def zf (B:RO):Nat->List Int
 | 0=>[]
 | n+1=>RO.NO B 8::zf (B.left 8) n
def RO.VL (o:RO):List Int:=zf (some (o.take 128)) 16
def RO.In (o:RO):Prop:=∀ B,o=some B->LH B
theorem RO.In.getD {o:RO} (h:o.In):LH (o.getD []):=by
 cases o with
 | none=>exact LH.nil
 | some B=>exact h B rfl
theorem RO.In.take {o:RO} (h:o.In) (n:Int):LH (o.take n):=by
 unfold RO.take;split
 ·exact h.getD.take _
 ·exact LH.nil
theorem RO.In.left {o:RO} (h:o.In) (n:Int):(o.left n).In:=by
 intro B b;unfold RO.left at b;split at b
 ·cases o with
  | none=>cases b
  | some A=>obtain rfl:=Option.some.inj b;exact (h A rfl).drop _
 ·cases b
/-! ### a reader in memory -/
structure jO (s:AS) (p:Nat) (o:RO):Prop where
 Y2:o.In
 mem:∃ v,Am.Own s p [v,.bool o.isSome,.bool true]/\gZ s v (o.getD [])
def R6 (s:AS) (q:Nat):Prop:=∀ (C:List AV),At s q C->∀ (k:Nat) (x:Int),C[k]? ≠ some (AV.int .u8 x)
theorem R6.own {s:AS} {q:Nat} {C:List AV} (h:At s q C) (c:∀ v∈C,∀ x,v≠AV.int .u8 x):R6 s q:=by
 intro e d k x b;rw [d.inj h] at b;exact c _ (List.mem_of_getElem? b) x rfl
theorem bR.Y9 {s:AS} {v:AV} {n sz:Nat} {cs:List AV} (h:bR s v sz cs n) (x:Int):v≠AV.int .u8 x:=by
 rcases h with ⟨rfl,_⟩ | ⟨a,c,e,rfl,_⟩ <;> exact fun h=>by cases h
theorem gZ.Xv {s s':AS} {v:AV} {l:List Int} {L:List Nat} (h:gZ s v l) (m:bB L s s') (b:∀ q∈L,R6 s q):gZ s' v l :=
 Sl.mut h m cg (by decide) fun q d C e x _ k c i j=>b q d C e k x (by rw [j,<- i];rfl)
section
variable {s s':AS} {p:Nat} {o:RO}
theorem jO.Y3 (h:jO s p o):R6 s p:=by
 obtain ⟨_,v,c,h2⟩:=h;refine R6.own c.at fun w b x=>?_;simp only [List.mem_cons,List.not_mem_nil,or_false] at b;rcases b with rfl | rfl | rfl
 ·exact bR.Y9 h2 x
 ·exact fun h=>by cases h
 ·exact fun h=>by cases h
theorem jO.there (h:jO s p o):s.h p≠none:=by
 obtain ⟨_,v,b,_⟩:=h;rw [b];simp
theorem jO.mut {L:List Nat} (h:jO s p o) (m:bB L s s') (hp:p ∉ L) (b:∀ q∈L,R6 s q):jO s' p o:=by
 obtain ⟨h0,v,c,h2⟩:=h;exact ⟨h0,v,c.mut m hp,h2.Xv m b⟩
theorem jO.ext (h:jO s p o) (e:Ext s s'):jO s' p o:=h.mut (L:=[]) e.mut (by simp) (by simp)
theorem R7 (h:jO s p o):aa Tryz.prog j_ [.ptr (some (p,0))] s fun r s'=>r=.bool (!o.isSome)/\s'=s:=by
 obtain ⟨_,v,b,_⟩:=h;exact yu _ _ _ ⟨_,jq Eu _,af.no rfl ⟨o.isSome,by rw [b.at.ak];rfl,rfl,rfl⟩⟩
theorem Xw:places T gX=some [(0,1),(1,1),(2,1)]:=by kernel_rfl
theorem Ua:aY T gX [(2,.bool true)]=some (.agg [.slc none 0 0 true,.bool false,.bool true]):=by kernel_rfl
theorem R8 {w:AV} (b:w.one=true):aY T gX [(0,w),(1,.bool true),(2,.bool true)]=some (.agg [w,.bool true,.bool true]):=by
 rw [qV Xw GU rfl];have d:=ov (pl:=fun i=>[(0,1),(1,1),(2,1)][i]?) (pre:=[]) (mid:=[.slc none 0 0 true]) (post:=[.bool false,.bool false]) (c:=[w]) (i:=0) (sz:=1) (v:=w) (rest:=[(1,.bool true),(2,.bool true)]) rfl (Nd b) rfl rfl;have e1:=ov (pl:=fun i=>[(0,1),(1,1),(2,1)][i]?) (pre:=[w]) (mid:=[.bool false]) (post:=[.bool false]) (c:=[.bool true]) (i:=1) (sz:=1) (v:=.bool true) (rest:=[(2,.bool true)]) rfl rfl rfl rfl;have e2:=ov (pl:=fun i=>[(0,1),(1,1),(2,1)][i]?) (pre:=[w,.bool true]) (mid:=[.bool false]) (post:=[]) (c:=[.bool true]) (i:=2) (sz:=1) (v:=.bool true) (rest:=[]) rfl rfl rfl rfl;exact congrArg (Option.map AV.agg) (d.trans (e1.trans e2))
theorem QG (h:jO s p o) (n:Int):aa Tryz.prog iT [.ptr (some (p,0)),.int .i64 n] s fun r s'=>bB [p] s s'/\jO s' p (o.left n)/\∃ v,r=.aQ [v,.bool (o.fit n)]/\gZ s' v (o.take n):=by
 refine aa.pre fun D=>Ak _ _ _ _ ?_;refine aa.use (R7 h) ?_;rintro F s2 ⟨rfl,rfl⟩ w2;obtain ⟨d,v,c,h2⟩:=id h;cases o with
 | none=>exact ⟨_,rfl,af.yes rfl ⟨bB.refl _ _,h,_,rfl,Sl.nil⟩⟩
 | some B =>
  simp only [Option.isSome_some,Option.getD_some] at c h2;refine ⟨_,rfl,af.no rfl ⟨fun vs s'=>s'=s2/\vs=[.bool (!RO.fit (some B) n)],?_,?_⟩⟩;rotate_left
  ·refine af.dec (fun m=>⟨rfl,?_⟩) (fun m=>⟨v,by rw [c.at.ak];rfl,_,h2.b_ aT _,rfl,?_⟩)
   ·rw [show RO.fit (some B) n=false from decide_eq_false (by omega)];rfl
   ·congr 2;unfold RO.fit;rw [<- decide_not,decide_eq_decide];omega
  rintro b s6 ⟨rfl,hb⟩;obtain rfl:b=!RO.fit (some B) n:=AV.bool.inj (List.cons.inj hb).1;refine af.mk (fun hf=>?_) (fun hf=>?_)
  ·have hf:RO.fit (some B) n=false:=by simpa using hf
   refine ⟨_,Ua,⟨rfl,rfl⟩,bC.own w2 c (by simp) fun A P=>⟨P.mut,⟨d.left n,.slc none 0 0 true,?_,?_⟩,_,by rw [hf],?_⟩⟩
   ·simp only [RO.left,hf,Bool.false_eq_true,if_false];exact P.at
   ·simp only [RO.left,hf,Bool.false_eq_true,if_false];exact Sl.nil
   ·simp only [RO.take,hf,Bool.false_eq_true,if_false];exact Sl.nil
  ·have hf:RO.fit (some B) n=true:=by simpa using hf
   have m:0<=n/\n<=B.length:=by simpa [RO.fit] using hf
   obtain ⟨k,rfl⟩:=Int.eq_ofNat_of_zero_le m.1;obtain ⟨e,w,x⟩:=Sl.head cg aT eN h2 (i:=k) (by omega) .i64;obtain ⟨j,y,l⟩:=Sl.rest cg aT eN h2 (i:=k) (by omega) .i64;refine ⟨v,by rw [c.at.ak];rfl,e,w,v,by rw [c.at.ak];rfl,j,y,?_⟩;refine cP (bR.one l) qX (bC.own w2 c (by simp) fun gl P=>?_);have z:∀ q∈[p],R6 s6 q:=by
    intro q C;obtain rfl:=List.mem_singleton.1 C;exact h.Y3
   refine ⟨P.mut,⟨d.left _,j,?_,?_⟩,e,by rw [hf],?_⟩
   ·simp only [RO.left,hf,if_true];exact P.at
   ·simp only [RO.left,hf,if_true,Option.map_some,Option.getD_some,Int.toNat_natCast];exact gZ.Xv l P.mut z
   ·simp only [RO.take,hf,if_true,Option.getD_some,Int.toNat_natCast];exact gZ.Xv x P.mut z
theorem R9 (h:jO s p o) {k:Int} (j:1<=k/\k<=8):aa Tryz.prog jZ [.ptr (some (p,0)),.int .i64 k] s fun r s'=>r=.int .u64 (o.NO k)/\bB [p] s s'/\jO s' p (o.left k):=by
 refine yo _ _ _ _ ⟨fun vs s'=>s'=s/\vs=[.int .i64 k],?_,af.dec (fun h=>absurd h (by omega)) (fun _=>af.dec (fun h=>absurd h (by omega)) (fun _=>⟨rfl,rfl⟩))⟩;rintro n s3 ⟨rfl,b⟩;obtain rfl:n=k:=by simpa using b
 refine aa.use (QG h n) ?_;rintro l m ⟨d,e,w,rfl,i⟩ x;refine ⟨_,_,rfl,?_⟩;refine aa.use (Xu i (h.Y2.take n)) ?_;rintro y s9 ⟨rfl,c,rfl⟩ z;exact ⟨_,_,rfl,rfl,d,e⟩
end
theorem DK {s:AS} {v:AV} {l:List Int} (b:gZ s v l) (i:l.length<=2 ^ 30):aa Tryz.prog aZ [v] s fun r s'=>Ag s s' r l:=by
 refine aa.pre fun j=>qJ _ _ _ ?_;have main:aS (de T av 0 []) fun k=>aj (.cells k 0 false) s fun l3 s4=>ig (aG T av av (.slc (some (l3,0)) 0 0 true) v s4) fun m s6=>Ag s s6 m l:=by
  refine ⟨_,xl gY,aj.intro j rfl fun l3 s4 F=>?_⟩;refine aW.iq gY cg Lr F.wf (aW.start (M:=[]) F.ext.mut) (by simp) (b.ext F.ext) (by simpa using i) aT fun v' s' g _ _=>?_;simpa using g
 rcases b with ⟨rfl,_,d⟩ | ⟨a,c,e,rfl,hlen,h3⟩
 ·refine ⟨_,pA aT _ _ _ _,af.no rfl main⟩
 ·refine ⟨_,pz aT _ _ _ _ _ _ _ _,af.mk (fun h=>?_) (fun _=>main)⟩;have:a=none:=by simpa using h
  subst this;have:l=[]:=by
   rcases h3 with h3 | ⟨la,o,C,h,_⟩
   ·exact List.length_eq_zero_iff.1 h3
   ·cases h
  subst this;exact aW.nil
theorem QH {s:AS} {v:AV} {l:List Int} (d:gZ s v l) (hb:LH l) (e:l.length<=2 ^ 30):aa Tryz.prog sy [v] s fun r s'=>∃ p,r=.ptr (some (p,0))/\s.h p=none/\jO s' p (some l)/\Ext s s':=by
 refine NM _ _ _ ?_;refine aa.use (DK d e) ?_;rintro i s2 g w2;have c:=g.jJ.2;refine ⟨_,R8 c,?_,aj.intro w2 rfl fun j m b=>⟨j,rfl,g.eo.ext.none b.no,⟨?_,i,b.own,(g.sl cg).ext b.ext⟩,g.eo.ext.trans b.ext⟩⟩
 ·simp [c]
 ·intro B k;obtain rfl:=Option.some.inj k;exact hb
section
variable {s:AS} {p:Nat} {o:RO}
theorem Xx {n:Nat}:(o.take n).length<=n:=by
 unfold RO.take;split
 ·rw [List.length_take];omega
 ·simp
end
end
section
open Go.Am Go.aq Go.aB
def Ck:RO->Nat->RO
 | B,0=>B
 | B,n+1=>Ck (B.left 8) n
theorem HH:∀ (n:Nat) (B:RO),Ck B (n+1)=(Ck B n).left 8
 | 0,B=>rfl
 | n+1,B=>by rw [Ck,HH n,Ck]
theorem JG:∀ (n:Nat) (B:RO),zf B (n+1)=zf B n++[(Ck B n).NO 8]
 | 0,B=>rfl
 | n+1,B=>by rw [zf,JG n,zf,Ck];rfl
theorem Cl:∀ (n:Nat) (B:RO),(zf B n).length=n
 | 0,_=>rfl
 | n+1,B=>by rw [zf,List.length_cons,Cl n]
theorem VM (l:List Int) (m:Nat) (x:Int):qQ ((l++List.replicate (m+1) 0).map (AV.int .u64)) l.length [.int .u64 x]=((l++[x])++List.replicate m 0).map (AV.int .u64):=by
 rw [fA];simp [List.replicate_succ,List.set_append]
section
variable {s:AS} {p:Nat} {o:RO}
theorem PI {c q:Nat} (b:At s c [.ptr (some (q,0))]) (h:jO s q o):aa Tryz.prog iU [.ptr (some (c,0))] s fun r s'=>r=.int .u64 (o.NO 8)/\bB [q] s s'/\jO s' q (o.left 8):=by
 refine vV _ _ _ ⟨_,by rw [b.ak];rfl,?_⟩;refine aa.use (R9 h (k:=8) (by omega)) ?_;rintro v s' ⟨rfl,d,h2⟩ _;exact ⟨_,rfl,rfl,d,h2⟩
theorem PJ (h:jO s p o):aa Tryz.prog jW [.ptr (some (p,0))] s fun r s'=>r=.agg (o.VL.map (.int .u64))/\bB [p] s s'/\jO s' p (o.left 128):=by
 refine aa.pre fun j=>yj _ _ _ (aj.intro j rfl fun l1 s2 z=>?_);refine aa.use (QG (h.ext z.ext) 128) ?_;rintro v3 s4 ⟨m4,r4,v5,rfl,b5⟩ w4;have J:l1≠p:=by rintro rfl;exact h.there z.no
 refine ⟨_,_,rfl,?_⟩;have hlen:(o.take 128).length<=128:=Xx (n:=128);refine aa.use (QH b5 (h.Y2.take 128) (by omega)) ?_;rintro v7 s8 ⟨q,rfl,K,rq,L⟩ w8;refine ⟨_,rfl,aj.intro w8 rfl fun nN ad b=>bC.own b.wf b.own (by simp) fun dJ d=>?_⟩;have M:p≠q:=by rintro rfl;exact r4.there K
 have O:Am.Own s4 l1 (dx.map (.int .u64)):=z.own.mut m4 (by simpa using J);have Q:l1≠q:=by rintro rfl;rw [O] at K;cases K
 have A:=O.ext L;have B:nN≠l1:=by
  rintro rfl;have:=b.no;rw [A] at this;cases this
 have F:nN≠q:=by rintro rfl;exact rq.there b.no
 have G:nN≠p:=by rintro rfl;exact (r4.ext L).there b.no
 have R:R6 ad nN:=R6.own b.own.at (by intro w j x;obtain rfl:=List.mem_singleton.1 j;exact fun h=>by cases h);have ae:Am.Own dJ l1 (dx.map (.int .u64)):=(A.ext b.ext).mut d.mut (by simpa using Ne.symm B);have S:jO dJ q (some (o.take 128)):=(rq.ext b.ext).mut d.mut (by simpa using Ne.symm F) (by intro x c;obtain rfl:=List.mem_singleton.1 c;exact R);have U:jO dJ p (o.left 128):=((r4.ext L).ext b.ext).mut d.mut (by simpa using Ne.symm G) (by intro x c;obtain rfl:=List.mem_singleton.1 c;exact R);have al:Am.Own dJ nN [.ptr (some (q,0))]:=d.at;have am:s.h q=none:=by
  cases hs:s.h q with
  | none=>rfl
  | some ob =>
   have:=m4.1 q ob (by simpa using Ne.symm M) (z.ext.1 _ _ hs);rw [this] at K;cases K
 have W:s.h nN=none:=by
  cases hs:s.h nN with
  | none=>rfl
  | some ob =>
   have:=L.1 _ _ (m4.1 nN ob (by simpa using G) (z.ext.1 _ _ hs));rw [b.no] at this;cases this
 have an:bB [p] s dJ:=(((z.ext.mut.trans m4).trans L.mut).trans b.ext.mut).new d.mut (by intro x c;obtain rfl:=List.mem_singleton.1 c;exact .inr W);refine ⟨fun m vs s'=>∃ i:Nat,vs=[.int .i64 (i:Nat)]/\i<=16/\m=16 - i/\aJ s'/\bB [p] s s'/\Am.Own s' l1 ((zf (some (o.take 128)) i++List.replicate (16 - i) 0).map (.int .u64))/\Am.Own s' nN [.ptr (some (q,0))]/\jO s' q (Ck (some (o.take 128)) i)/\jO s' p (o.left 128),16,⟨0,rfl,by omega,rfl,d.wf,an,ae,al,S,U⟩,?_⟩;rintro m n kU ⟨i,X,hi,rfl,ao,Y,e,Z,H,I⟩;simp only [List.cons.injEq,AV.int.injEq,true_and,and_true] at X;subst X;refine af.dec (fun a1=>?_) (fun a2=>?_)
 ·refine aa.use (PI Z.at H) ?_;rintro a3 iF ⟨rfl,k,ab⟩ ar;have y:=e.mut k (by simpa using Q);have c:=M_ (l:=l1) (o:=0) (i:=(i:Nat)) (by omega);simp only [Int.toNat_natCast,Nat.mul_one,Nat.zero_add] at c;have aw:16 - i=(16 - (i+1))+1:=by omega
  rw [aw] at y;refine ⟨_,rfl,_,_,c,bC.own ar y (by simp [Cl]) fun uR P=>⟨16 - (i+1),by omega,i+1,by rw [a_ (by omega)];rfl,by omega,rfl,P.wf,?_,?_,?_,?_,?_⟩⟩
  ·exact (Y.new k (by intro x c;obtain rfl:=List.mem_singleton.1 c;exact .inr am)).new P.mut (by intro x c;obtain rfl:=List.mem_singleton.1 c;exact .inr z.no)
  ·have:=P.at;rw [JG];have hv:=VM (zf (some (o.take 128)) i) (16 - (i+1)) ((Ck (some (o.take 128)) i).NO 8);rw [Cl] at hv;rw [hv] at this;exact this
  ·exact (Z.mut k (by simpa using F)).mut P.mut (by simpa using B)
  ·rw [HH];refine ab.mut P.mut (by simpa using Ne.symm Q) ?_;intro x c;obtain rfl:=List.mem_singleton.1 c;exact R6.own y.at (by intro w j x;obtain ⟨n,_,rfl⟩:=List.mem_map.1 j;exact fun h=>by cases h)
  ·refine (I.mut k (by simpa using M) (by intro x c;obtain rfl:=List.mem_singleton.1 c;exact H.Y3)).mut P.mut (by simpa using Ne.symm J) ?_;intro x c;obtain rfl:=List.mem_singleton.1 c;exact R6.own y.at (by intro w j x;obtain ⟨n,_,rfl⟩:=List.mem_map.1 j;exact fun h=>by cases h)
 ·obtain rfl:i=16:=by omega
  simp only [Nat.sub_self,List.replicate_zero,List.append_nil] at e;have hl:((zf (some (o.take 128)) 16).map (AV.int .u64)).length=16:=by simp [Cl]
  have h1:=cH .u64 (zf (some (o.take 128)) 16);have a0:R6 kU l1:=R6.own e.at (by intro w j x;obtain ⟨n,_,rfl⟩:=List.mem_map.1 j;exact fun h=>by cases h);have hR:(zf (some (o.take 128)) 16).map (AV.int .u64)=o.VL.map (.int .u64):=rfl;generalize (zf (some (o.take 128)) 16).map (AV.int .u64)=C at e hl h1 hR;have ht:∀ D:List AV,D.length=16->(D.drop 0).take 16=D:=fun D hD=>by rw [List.drop_zero,List.take_of_length_le (by omega)]
  refine ⟨C,by rw [e.at.aD (by omega),ht C hl],⟨h1,by rw [hl]⟩,bC.own ao e (by omega) fun en P=>?_⟩;have hP:=P.at;rw [U8 rfl] at hP;refine ⟨C,by rw [At.aD ⟨_,_,hP⟩ (by omega),ht C hl],by rw [hR],?_,?_⟩
  ·exact Y.new P.mut (by intro x c;obtain rfl:=List.mem_singleton.1 c;exact .inr z.no)
  ·refine I.mut P.mut (by simpa using Ne.symm J) ?_;intro x c;obtain rfl:=List.mem_singleton.1 c;exact a0
end
/-! ### what is read of what was written -/
theorem Ub (n:Int) (b:0<=n) (k:Nat) (d:k<=7):yK n (k+1)=yK (n / 256) k++[n % 256]:=by
 apply List.ext_getElem?;intro i;by_cases c:i<k
 ·rw [Lv _ (by omega),List.getElem?_append_left (by rw [kL];exact c),Lv _ c,Ah b (by omega),Ah (by omega) (by omega)];rw [Int.ediv_ediv_of_nonneg (by decide),show (256:Int)*2 ^ (8*(k - 1 - i))=2 ^ (8*(k+1 - 1 - i)) by
   rw [show 8*(k+1 - 1 - i)=8+8*(k - 1 - i) by omega,Int.pow_add];rfl]
 ·by_cases h2:i=k
  ·subst h2;rw [Lv _ (by omega),List.getElem?_append_right (by rw [kL];omega),kL,Nat.sub_self,Ah b (by omega)];simp
  ·rw [List.getElem?_eq_none (by rw [kL];omega),List.getElem?_eq_none (by simp [kL];omega)]
theorem NP:∀ (k:Nat) (n:Int),k<=8->0<=n->n<256 ^ k->DI (yK n k)=n
 | 0,n,_,h0,b=>by
  have:n=0:=by simp at b;omega
  subst this;rfl
 | k+1,n,c,h0,b=>by
  rw [Int.pow_succ] at b;rw [Ub n h0 k (by omega),DJ,NP k (n / 256) (by omega) (by omega) (by omega)];omega
theorem Uc {k:Nat} (b:1<=k/\k<=8) {n:Int} (h0:0<=n) (c:n<256 ^ k):R5 (yK n k)=n:=by
 unfold R5;rw [kL,if_pos b,NP k n b.2 h0 c]
theorem Xy:(256:Int) ^ 8=18446744073709551616:=by decide
theorem NQ {A B:List Int} {n:Int} (h:n=A.length):RO.take (some (A++B)) n=A/\RO.left (some (A++B)) n=some B:=by
 subst h;have hf:RO.fit (some (A++B)) A.length=true:=by simp [RO.fit];omega
 constructor
 ·simp [RO.take,hf]
 ·simp [RO.left,hf]
theorem VN {k:Nat} (c:1<=k/\k<=8) {n:Int} (h0:0<=n) (d:n<256 ^ k) (B:List Int):RO.NO (some (yK n k++B)) k=n/\RO.left (some (yK n k++B)) k=some B:=by
 obtain ⟨a,b⟩:=NQ (A:=yK n k) (B:=B) (n:=k) (by rw [kL]);exact ⟨by rw [RO.NO,a,Uc c h0 d],b⟩
theorem NR:∀ (v:List Int),(∀ x∈v,0<=x/\x<=18446744073709551615)->∀ B,zf (some ((v.flatMap fun n=>yK n 8)++B)) v.length=v
 | [],_,_=>rfl
 | x::v,h,B=>by
  have e:=h x (by simp);obtain ⟨a,b⟩:=VN (k:=8) (by omega) (n:=x) (by omega) (by rw [Xy];omega) ((v.flatMap fun n=>yK n 8)++B);rw [List.flatMap_cons,List.append_assoc,List.length_cons,zf];have a':RO.NO (some (yK x 8++((v.flatMap fun n=>yK n 8)++B))) 8=x:=a;have c:RO.left (some (yK x 8++((v.flatMap fun n=>yK n 8)++B))) 8=some ((v.flatMap fun n=>yK n 8)++B):=b;rw [a',c,NR v (fun y d=>h y (by simp [d])) B]
theorem VO {v:List Int} (h:Yx v) (B:List Int):RO.VL (some ((v.flatMap fun n=>yK n 8)++B))=v/\RO.left (some ((v.flatMap fun n=>yK n 8)++B)) 128=some B:=by
 have c:(v.flatMap fun n=>yK n 8).length=128:=by rw [JF (f:=fun n=>yK n 8) (n:=8) (fun n=>kL n 8),h.len]
 obtain ⟨a,b⟩:=NQ (A:=v.flatMap fun n=>yK n 8) (B:=B) (n:=128) (by rw [c];rfl);refine ⟨?_,b⟩;have:=NR v h.Yu [];rw [List.append_nil,h.len] at this;rw [RO.VL,a,this]
theorem JH {s:AS} {v:AV} {l:List Int} (h:gZ s v l):(cY T av cL v s).map (·.1)=some (.str (XV l)):=by
 by_cases b:l=[]
 ·subst b;rcases h with ⟨rfl,h2,h3⟩ | ⟨a,c,e,rfl,⟨d,h2⟩,h3⟩
  ·simp [cY,aT,pL,Bg,XV]
  ·rcases a with _ | ⟨la,o⟩ <;> simp [cY,aT,pL,Bg,XV]
 ·exact T0 h b
end
section
set_option maxRecDepth 100000
set_option maxHeartbeats 4000000
open Go.Am
def IL (a0:List AV) (a1:List AV) (s:AS) (R:AV->AS->Prop):Prop :=
 cj a0 (aj (.cells a0 0 false) s fun l1 s2=>cj a1 (aj (.cells a1 0 false) s2 fun l3 s4=>aj (.cells [.int .u64 0,.int .u64 0,.int .u64 0,.int .u64 0,.int .u64 0,.int .u64 0,.int .u64 0,.int .u64 0,.int .u64 0,.int .u64 0,.int .u64 0,.int .u64 0,.int .u64 0,.int .u64 0,.int .u64 0,.int .u64 0] 0 false) s4 fun p s6=>aS (aD s6 l3 0 16) fun r=>bu fun e w=>e w [.int .i64 0] s6 /\
 ∀ c:Nat,∀ b:Int,∀ dJ:AS,e c [.int .i64 b] dJ ->
 af (decide ((b:Int)<16))
 (aV .u64 (ju T aX (.agg r) (.int .i64 b)) fun i=>bE (ag T aX (.ptr (some (l1,0))) (.int .i64 b)) fun lN j=>aV .u64 (ak dJ lN j) fun k=>aV .u64 (LM true [.int .u64 k,.int .u64 i]) fun l=>bE (ag T aX (.ptr (some (l1,0))) (.int .i64 b)) fun m n=>bC (cS dJ m n [.int .u64 l]) fun gw=>∃ m',m'<c/\e m' [(.int .i64 (IntKind.wrap .i64 (b+1)))] gw)
 (aS (aD dJ l1 0 16) fun d=>fy (some 16) d (bC (cS dJ p 0 d) fun fV=>aS (aD fV p 0 16) fun o=>R (.agg o) fV))))
def IM:QA:=(.seq .leaf (.seq (.seq .leaf (.wrap (.loop [(8,.int .i64)] [(5,6),(8,19)] (.seq .leaf (.seq (.cond .leaf .leaf) (.seq (.wrap (.seq .leaf .leaf)) .leaf)))))) (.seq .leaf .leaf)))
theorem IN (a0:List AV) (a1:List AV) (s:AS) (R:AV->AS->Prop) (h:IL a0 a1 s R):aa Tryz.prog sZ [.agg a0,.agg a1] s R :=
 aa.q (n:=21) (rs:=[.cell 4 49]) (A:=IM) hT bX Tryz.func81 (by kernel_rfl) rfl rfl rfl (by kernel_rfl) (by kernel_rfl) h
def Al (a0:List UInt8) (s:AS) (R:AV->AS->Prop):Prop :=
 aV .i64 (aL T cL (.str a0) s) fun b=>af (decide ((b:Int)>=1)) (aV .i64 (aL T cL (.str a0) s) fun n2=>R (.bool (decide ((n2:Int)<=32))) s) (R (.bool false) s)
def An:QA:=(.seq .leaf (.seq .leaf .leaf))
theorem Ao (a0:List UInt8) (s:AS) (R:AV->AS->Prop) (h:Al a0 s R):aa Tryz.prog iR [.str a0] s R :=
 aa.q (n:=11) (rs:=[.tmp 2]) (A:=An) hT bX Tryz.func87 (by kernel_rfl) rfl rfl rfl (by kernel_rfl) (by kernel_rfl) h
def Lw (a0:List AV) (s:AS) (R:AV->AS->Prop):Prop :=
 cj a0 (aj (.cells a0 0 false) s fun l1 s2=>aS (aD s2 l1 0 16) fun j=>bu fun d k=>d k [.bool true,.int .i64 0] s2 /\
 ∀ e:Nat,∀ i:Bool,∀ c:Int,∀ s9:AS,d e [.bool i,.int .i64 c] s9 ->
 af (decide ((c:Int)<16))
 (aV .u64 (ju T aX (.agg j) (.int .i64 c)) fun b=>af (!(decide ((b:Int)<=4611686018427387904)))
 (R (.bool (decide ((b:Int)<=4611686018427387904))) s9)
 (∃ m',m'<e/\d m' [(.bool (decide ((b:Int)<=4611686018427387904))),(.int .i64 (IntKind.wrap .i64 (c+1)))] s9))
 (R (.bool i) s9))
def Ly:QA:=(.seq .leaf (.wrap (.seq .leaf (.seq .leaf (.seq (.seq .leaf (.wrap (.loop [(3,.bool),(7,.int .i64)] [(3,3),(5,5),(7,14)] (.seq .leaf (.seq (.cond .leaf .leaf) (.seq (.wrap (.seq .leaf (.seq .leaf (.seq .leaf (.cond .leaf .leaf))))) .leaf)))))) (.seq .leaf .leaf))))))
theorem Lz (a0:List AV) (s:AS) (R:AV->AS->Prop) (h:Lw a0 s R):aa Tryz.prog dR [.agg a0] s R :=
 aa.q (n:=16) (rs:=[.tmp 2]) (A:=Ly) hT bX Tryz.func90 (by kernel_rfl) rfl rfl rfl (by kernel_rfl) (by kernel_rfl) h
def IP (a0:AV) (a1:List UInt8) (a2:AV) (s:AS) (R:AV->AS->Prop):Prop :=
 aj (.cells (List.replicate 32 (.int .u8 0)) 0 false) s fun l1 s2=>ig (cY T cL av (.str a1) s2) fun j s4=>aa Tryz.prog xD [j] s4 fun k s6=>∃ i:AV,∃ l:Int,k=.aQ [i,.int .i64 l]/\(aS (de T eV 2 [(0,i),(1,a2)]) fun m=>aj (.cells m 0 false) s6 fun nN c=>aa Tryz.prog zK [a0,(.slc (some (nN,0)) 2 2 true)] c fun d bQ=>∃ b:List AV,d=.agg b/\(fy (some 32) b (bC (cS bQ l1 0 b) fun fH=>aS (aD fH l1 0 32) fun e=>R (.agg e) fH)))
def IQ:QA:=(.seq .leaf (.seq .leaf (.seq .leaf .leaf)))
theorem IS (a0:AV) (a1:List UInt8) (a2:AV) (s:AS) (R:AV->AS->Prop) (h:IP a0 a1 a2 s R):aa Tryz.prog eX [a0,.str a1,a2] s R :=
 aa.q (n:=20) (rs:=[.cell 6 93]) (A:=IQ) hT bX Tryz.func92 (by kernel_rfl) rfl rfl rfl (by kernel_rfl) (by kernel_rfl) h
def HI (a0:AV) (a1:List UInt8) (a2:List AV) (s:AS) (R:AV->AS->Prop):Prop :=
 cj a2 (aj (.cells a2 0 false) s fun l1 s2=>bt fun i =>
 (∀ p:Bool,∀ e:AS,i [.bool p] e ->
 af p
 (R (.aQ [.slc none 0 0 true,.int .i64 2]) e)
 (aS (aD e l1 0 16) fun w=>aa Tryz.prog s_ [.agg w] e fun r s8=>aa Tryz.prog eX [a0,.str a1,r] s8 fun x j=>∃ b:List AV,x=.agg b/\(aj (.cells (List.replicate 32 (.int .u8 0)) 0 false) j fun qY bQ=>fy (some 32) b (bC (cS bQ qY 0 b) fun k=>dn (bf T tD (.ptr (some (qY,0))) none none none) fun l=>ig (aG T av av r l k) fun nO kU=>R (.aQ [nO,.int .i64 0]) kU)))) /\
 (aa Tryz.prog iR [.str a1] s2 fun m iF=>∃ c:Bool,m=.bool c/\(af (!c) (i [.bool true] iF) (aS (aD iF l1 0 16) fun n=>aa Tryz.prog dR [.agg n] iF fun o uR=>∃ d:Bool,o=.bool d/\(i [(.bool (!d))] uR)))))
def HJ:QA:=(.seq .leaf (.seq (.join [(17,.bool)] [(10,17)] .leaf (.cond (.seq .leaf .leaf) .leaf)) (.seq .leaf (.seq .leaf (.seq .leaf .leaf)))))
theorem HK (a0:AV) (a1:List UInt8) (a2:List AV) (s:AS) (R:AV->AS->Prop) (h:HI a0 a1 a2 s R):aa Tryz.prog fZ [a0,.str a1,.agg a2] s R :=
 aa.q (n:=27) (rs:=[.tmp 6,.tmp 7]) (A:=HJ) hT bX Tryz.func83 (by kernel_rfl) rfl rfl rfl (by kernel_rfl) (by kernel_rfl) h
def NS (a0:AV) (a1:List UInt8) (a2:AV) (s:AS) (R:AV->AS->Prop):Prop :=
 aj (.cells [.int .u64 0,.int .u64 0,.int .u64 0,.int .u64 0,.int .u64 0,.int .u64 0,.int .u64 0,.int .u64 0,.int .u64 0,.int .u64 0,.int .u64 0,.int .u64 0,.int .u64 0,.int .u64 0,.int .u64 0,.int .u64 0] 0 false) s fun l1 s2=>aa Tryz.prog iR [.str a1] s2 fun v3 s4=>∃ b5:Bool,v3=.bool b5/\(af (!b5)
 (oq (aY T aX []) fun g6=>fy (some 16) g6 (bC (cS s4 l1 0 g6) fun s7=>aS (aD s7 l1 0 16) fun g8=>R (.aQ [.agg g8,.int .i64 2]) s7))
 (aV .i64 (aL T av a2 s4) fun n9=>af ((n9:Int)==0)
 (oq (aY T aX []) fun A=>fy (some 16) A (bC (cS s4 l1 0 A) fun B=>aS (aD B l1 0 16) fun X=>R (.aQ [.agg X,.int .i64 0]) B))
 (aV .i64 (aL T av a2 s4) fun Y=>af ((Y:Int) != 160)
 (oq (aY T aX []) fun C=>fy (some 16) C (bC (cS s4 l1 0 C) fun fH=>aS (aD fH l1 0 16) fun Z=>R (.aQ [.agg Z,.int .i64 9]) fH))
 (dn (bf T av a2 none (some (.int .i64 128)) (some (.int .i64 128))) fun c=>dn (bf T av a2 (some (.int .i64 128)) none none) fun e=>aa Tryz.prog sy [c] s4 fun ab gw=>∃ D:Option (Nat×Nat),ab=.ptr D/\(aa Tryz.prog jW [.ptr D] gw fun ad uR=>∃ o:List AV,ad=.agg o/\(aj (.cells [.int .u64 0,.int .u64 0,.int .u64 0,.int .u64 0,.int .u64 0,.int .u64 0,.int .u64 0,.int .u64 0,.int .u64 0,.int .u64 0,.int .u64 0,.int .u64 0,.int .u64 0,.int .u64 0,.int .u64 0,.int .u64 0] 0 false) uR fun p ae=>fy (some 16) o (bC (cS ae p 0 o) fun d=>bt fun r =>
 (∀ F:Bool,∀ l:AS,r [.bool F] l ->
 af F
 (oq (aY T aX []) fun G=>fy (some 16) G (bC (cS l l1 0 G) fun H=>aS (aD H l1 0 16) fun al=>R (.aQ [.agg al,.int .i64 9]) H))
 (aS (aD l p 0 16) fun I=>fy (some 16) I (bC (cS l l1 0 I) fun J=>aS (aD J l1 0 16) fun am=>R (.aQ [.agg am,.int .i64 0]) J))) /\
 (gn fun S V=>aS (aD d p 0 16) fun b=>(∀ m:AS,Ext d m->aJ m->(True)->aa Tryz.prog dR [.agg b] m fun an K=>∃ w:Bool,an=.bool w/\((Ext m K/\S 1 [(.func dR []),.agg b] (.bool w) K/\V 1 [(.func dR []),.agg b] (.bool w))))/\(∃ v,V 1 [(.func dR []),.agg b] v)/\∀ L:AV,V 1 [(.func dR []),.agg b] L->∃ i:Bool,L=.bool i/\(af (!i) (∀ n:AS,Ext d n->aJ n->(S 1 [(.func dR []),.agg b] (.bool i) n/\True)->r [.bool true] n) ((∀ uw:AS,Ext d uw->aJ uw->(S 1 [(.func dR []),.agg b] (.bool i) uw/\True)->aa Tryz.prog eX [a0,.str a1,c] uw fun ao M=>∃ x:List AV,ao=.agg x/\((Ext uw M/\S 7 [(.func eX []),a0,.str a1,c] (.agg x) M/\V 7 [(.func eX []),a0,.str a1,c] (.agg x))))/\(∃ v,V 7 [(.func eX []),a0,.str a1,c] v)/\∀ O:AV,V 7 [(.func eX []),a0,.str a1,c] O->∃ y:List AV,O=.agg y/\((∀ j:AS,Ext d j->aJ j->(S 1 [(.func dR []),.agg b] (.bool i) j/\True)->nM (QY T tD e) fun Q=>(Ext j j/\S 9 [e] (.ptr Q) j/\V 9 [e] (.ptr Q)))/\(∃ v,V 9 [e] v)/\∀ U:AV,V 9 [e] U->∃ z:Option (Nat×Nat),U=.ptr z/\(ah z fun ar aw=>aS (aD d ar aw 32) fun a3=>∀ k:AS,Ext d k->aJ k->(S 1 [(.func dR []),.agg b] (.bool i) k/\(S 7 [(.func eX []),a0,.str a1,c] (.agg y) k/\(S 9 [e] (.ptr z) k/\True)))->aa Tryz.prog xB [.agg y,.agg a3] k fun a4 a5=>∃ W:Bool,a4=.bool W/\(r [(.bool (!W))] a5)))))))))))))
def NT:QA:=(.seq .leaf (.seq (.wrap (.seq .leaf (.cond (.seq .leaf .leaf) (.seq .leaf (.cond (.seq .leaf .leaf) (.seq .leaf (.cond (.seq .leaf .leaf) .leaf))))))) (.seq (.draw 5) (.seq .leaf (.seq (.join [(46,.bool)] [(33,46)] (.iB 11 [[],[],[],[],[],[],[],[1],[],[1],[]] [1,7,9]) (.cond (.seq .leaf .leaf) .leaf)) (.seq .leaf .leaf))))))
theorem Ec (a0:AV) (a1:List UInt8) (a2:AV) (s:AS) (R:AV->AS->Prop) (h:NS a0 a1 a2 s R):aa Tryz.prog pD [a0,.str a1,a2] s R :=
 aa.q (n:=49) (rs:=[.cell 6 49,.tmp 7]) (A:=NT) hT bX Tryz.func24 (by kernel_rfl) rfl rfl rfl (by kernel_rfl) (by kernel_rfl) h
def nS (a0:AV) (s:AS) (R:AV->AS->Prop):Prop :=
 sr (Q9 T bz true a0 (.slc none 0 0 true)) fun b=>af b
 (R (.slc none 0 0 true) s)
 (aS (de T bz 0 []) fun c=>aj (.cells c 0 false) s fun l3 s4=>ig (aG T bz bz (.slc (some (l3,0)) 0 0 true) a0 s4) fun d s6=>R d s6)
def nT:QA:=(.seq .leaf (.seq (.seq .leaf (.cond (.seq .leaf .leaf) .leaf)) (.seq .leaf .leaf)))
theorem nU (a0:AV) (s:AS) (R:AV->AS->Prop) (h:nS a0 s R):aa Tryz.prog eL [a0] s R :=
 aa.q (n:=8) (rs:=[.tmp 2]) (A:=nT) hT bX Tryz.func82 (by kernel_rfl) rfl rfl rfl (by kernel_rfl) (by kernel_rfl) h
end
section
open Go.Am Go.aq Go.aB Go.bq
def uM (v:List Int):Bool:=v.all fun n=>decide (n<=4611686018427387904)
def Aq (v:List Int):List Int:=v.flatMap fun n=>yK n 8
def Cm (sec:List Int) (dev:List UInt8) (v:List Int):List Int:=Aq v++Be sec (uI dev++Aq v)
theorem HL {v:List Int} (h:v.length=16):(Aq v).length=128:=by
 have:∀ l:List Int,(Aq l).length=8*l.length:=by
  intro l
  induction l with
  | nil=>rfl
  | cons x xs b=>simp only [Aq,List.flatMap_cons,List.length_append,kL] at b ⊢;rw [b];simp;omega
 rw [this,h]
theorem Ud (sec:List Int) (dev:List UInt8) {v:List Int} (h:v.length=16):(Cm sec dev v).length=160:=by
 rw [Cm,List.length_append,HL h,kH]
def nY (a b:List Int):List Int:=(List.range 16).map fun i=>if b.getD i 0>a.getD i 0 then b.getD i 0 else a.getD i 0
theorem dL (a b:List Int):(nY a b).length=16:=by simp [nY]
theorem PK {v:List Int} (h:v.length=16) {i:Nat} (hi:i<16):ju T aX (.agg (v.map (.int .u64))) (.int .i64 (i:Nat))=some (.int .u64 (v.getD i 0)):=by
 simp only [ju,xJ,ki,Option.bind_some,CR C1];rw [if_pos (by omega),List.getElem?_map,List.getElem?_eq_getElem (by simp;omega),List.getD_eq_getElem?_getD,List.getElem?_eq_getElem (by omega)];simp
theorem UQ {v:List Int} (h:v.length=16) {s:AS} {l:Nat} (b:At s l (v.map (.int .u64))):aD s l 0 16=some (v.map (.int .u64)):=by
 rw [b.aD (by simp [h]),List.drop_zero,List.take_of_length_le (by simp [h])]
theorem Xz (a b:List Int) {i:Nat} (h:i<16) (e:a.length=16):(((nY a b).take i)++a.drop i).set i (if b.getD i 0>a.getD i 0 then b.getD i 0 else a.getD i 0)=((nY a b).take (i+1))++a.drop (i+1):=by
 have hd:=List.drop_eq_getElem_cons (l:=a) (i:=i) (by omega);have c:((nY a b).take i).length=i:=by simp [dL];omega
 have d:(nY a b)[i]? = some (if b.getD i 0>a.getD i 0 then b.getD i 0 else a.getD i 0):=by
  rw [nY,List.getElem?_map,List.getElem?_range h];rfl
 rw [List.set_append,if_neg (by omega),c,Nat.sub_self,hd,List.set_cons_zero,List.take_add_one,d,Option.toList_some,List.append_assoc];rfl
theorem Ue {a b:List Int} (A:a.length=16) (hb:b.length=16) (s:AS):aa Tryz.prog sZ [.agg (a.map (.int .u64)),.agg (b.map (.int .u64))] s fun r s'=>r=.agg ((nY a b).map (.int .u64))/\Ext s s':=by
 refine aa.pre fun B=>IN _ _ _ _ ⟨cH _ _,aj.intro B rfl fun l1 s2 d=>⟨cH _ _,aj.intro d.wf rfl fun l3 s4 j=>aj.intro j.wf rfl fun x s6 c=>?_⟩⟩;have C:=(d.ext.trans j.ext).trans c.ext;have D:=d.no;have d5:x≠l1:=fun e=>by
  have:=c.no;rw [e,d.own.ext j.ext] at this;cases this
 refine ⟨_,UQ hb (j.own.ext c.ext).at,fun m vs s'=>∃ i:Nat,vs=[.int .i64 (i:Nat)]/\i<=16/\m=16 - i/\Ext s s'/\aJ s'/\Am.Own s' l1 (((nY a b).take i++a.drop i).map (.int .u64))/\Am.Own s' x (dx.map (.int .u64)),16,⟨0,rfl,by omega,rfl,C,c.wf,by simpa using (d.own.ext j.ext).ext c.ext,c.own⟩,?_⟩;rintro m n dJ ⟨i,hi,J,rfl,k,l,p1,y⟩;simp only [List.cons.injEq,AV.int.injEq,true_and,and_true] at hi;subst hi;refine af.dec (fun F=>?_) (fun G=>?_)
 ·have H:((nY a b).take i++a.drop i).getD i 0=a.getD i 0:=by
   rw [List.getD_eq_getElem?_getD,List.getD_eq_getElem?_getD,List.getElem?_append_right (by simp [dL];omega)];simp [dL,Nat.min_eq_left (show i<=16 by omega)]
  have hr:ak dJ l1 (0+((i:Nat):Int).toNat*1)=some (.int .u64 (a.getD i 0)):=by rw [<- H];exact p1.at.Ro (by simp [dL];omega) (by simp)
  refine ⟨_,PK hb (by omega),_,_,M_ (by omega),_,hr,_,PZ _ _,_,_,M_ (by omega),bC.int l p1 (i:=i) (by simp [dL];omega) (by simp) fun gw I p o=>⟨16 - (i+1),by omega,i+1,by rw [uJ (by omega)],by omega,rfl,Ext.wr k D o,p,?_,y.mut o (by simpa using d5)⟩⟩;rw [<- Xz a b (by omega) A];exact I
 ·obtain rfl:i=16:=by omega
  have w:(nY a b).take 16++a.drop 16=nY a b:=by rw [List.take_of_length_le (by simp [dL]),List.drop_eq_nil_of_le (by omega),List.append_nil]
  rw [w] at p1;refine ⟨_,UQ (dL a b) p1.at,⟨cH _ _,by simp [dL]⟩,bC.own l y (by simp [dL,dx]) fun fV P=>?_⟩;have z:=P.at;rw [dZ (by simp [dL,dx])] at z;exact ⟨_,UQ (dL a b) ⟨_,_,z⟩,rfl,Ext.wr k ((d.ext.trans j.ext).none c.no) P.mut⟩
theorem vW (t:List UInt8) (s:AS):aa Tryz.prog iR [.str t] s fun v s'=>v=.bool (aN t)/\s'=s:=by
 refine Ao _ _ _ ⟨_,lH t s,af.dec (fun h=>⟨_,lH t s,?_,rfl⟩) (fun h=>⟨?_,rfl⟩)⟩
 ·congr 1;rw [aN,decide_eq_decide];omega
 ·congr 1;symm;rw [aN,decide_eq_false_iff_not];omega
theorem QI {v:List Int} (h:v.length=16) (s:AS):aa Tryz.prog dR [.agg (v.map (.int .u64))] s fun r s'=>r=.bool (uM v)/\Ext s s':=by
 refine aa.pre fun j=>Lz _ _ _ ⟨cH _ _,aj.intro j rfl fun l1 s2 e=>⟨_,UQ h e.own.at,fun m vs s'=>∃ i:Nat,vs=[.bool true,.int .i64 (i:Nat)]/\i<=16/\m=16 - i/\s'=s2/\(v.take i).all (fun n=>decide (n<=4611686018427387904))=true,16,⟨0,rfl,by omega,rfl,rfl,rfl⟩,?_⟩⟩;rintro m b n s9 ⟨i,hi,o,rfl,rfl,d⟩;simp only [List.cons.injEq,AV.int.injEq,AV.bool.injEq,true_and,and_true] at hi;obtain ⟨rfl,rfl⟩:=hi;refine af.dec (fun k=>⟨_,PK h (by omega),af.mk (fun hb=>⟨?_,e.ext⟩) (fun hb=>⟨16 - (i+1),by omega,i+1,?_,by omega,rfl,rfl,?_⟩)⟩) (fun l=>⟨?_,e.ext⟩)
 ·have c:decide (v.getD i 0<=4611686018427387904)=false:=by simpa using hb
  rw [c];congr 1;symm;rw [uM,List.all_eq_false];refine ⟨v.getD i 0,?_,by simpa using c⟩;rw [List.getD_eq_getElem?_getD,List.getElem?_eq_getElem (by omega)];exact List.getElem_mem _
 ·have c:decide (v.getD i 0<=4611686018427387904)=true:=by simpa using hb
  rw [c,uJ (by omega)]
 ·have c:decide (v.getD i 0<=4611686018427387904)=true:=by simpa using hb
  rw [List.take_add_one,List.all_append,d];rw [List.getD_eq_getElem?_getD] at c;rw [List.getElem?_eq_getElem (by omega)] at c ⊢;simpa using c
 ·rw [List.take_of_length_le (by omega)] at d;rw [uM,d]
theorem QJ {s:AS} {sv e:AV} {sec vb:List Int} (hs:gZ s sv sec) (x:sec.length<=64) (hv:gZ s e vb) (y:vb.length<=1000) (dev:List UInt8) (hd:dev.length<=1000) :
  aa Tryz.prog eX [sv,.str dev,e] s fun r s'=>r=.agg ((Be sec (uI dev++vb)).map (.int .u8))/\Ext s s':=by
 refine aa.pre fun z=>IS _ _ _ _ _ (aj.intro z rfl fun l1 s2 i=>?_);refine PD i.wf dev fun I s4 A m J=>?_;refine aa.use (VC A (by rw [yb];omega)) ?_;rintro v s6 ⟨n,rfl,j⟩ B;have o:=(i.ext.trans m).trans j.eo.ext;have k:=hv.ext o;have C:=j.sl cg;refine ⟨_,_,rfl,_,QF j.jJ.2 k.one,aj.intro B rfl fun nN D b=>?_⟩;have c:=o.trans b.ext;refine aa.use (VI (L:=[(n,uI dev),(e,vb)]) (hs.ext c) x (bR.mk b.own.at rfl rfl) ?_ (by simp) ?_) ?_
 ·intro p hp;simp only [List.mem_cons,List.not_mem_nil,or_false] at hp;rcases hp with rfl | rfl
  ·have:=C.ext b.ext;rw [yb] at this;exact this
  ·exact hv.ext c
 ·simp [qN,RR];omega
 ·rintro F bQ ⟨rfl,d⟩ l;have G:([(n,uI dev),(e,vb)].flatMap Prod.snd)=uI dev++vb:=by simp
  rw [G];have H:=(((i.own.ext m).ext j.eo.ext).ext b.ext).ext d;refine ⟨_,rfl,⟨cH _ _,by simp [kH]⟩,bC.own l H (by simp [kH]) fun fH P=>?_⟩;have w:=P.at;rw [dZ (by simp [kH])] at w;refine ⟨_,At.aD ⟨_,_,w⟩ (by simp [kH]),?_,Ext.wr (c.trans d) i.no P.mut⟩;rw [List.drop_zero,List.take_of_length_le (by simp [kH])]
theorem NU {s:AS} {sv:AV} {sec:List Int} (hs:gZ s sv sec) (A:sec.length<=64) (dev:List UInt8) {v:List Int} (hv:v.length=16) (z:aN dev=true) (hm:uM v=true) :
  aa Tryz.prog fZ [sv,.str dev,.agg (v.map (.int .u64))] s fun r s'=>∃ w,r=.aQ [w,.int .i64 0]/\Ag s s' w (Cm sec dev v):=by
 refine aa.pre fun B=>HK _ _ _ _ _ ⟨cH _ _,aj.intro B rfl fun l1 s2 e=>⟨fun vs s'=>vs=[.bool false]/\Ext s2 s'/\aJ s',?_,?_⟩⟩
 ·rintro b C ⟨hb,j,L⟩;obtain rfl:b=false:=by simpa using hb
  refine af.no rfl ⟨_,UQ hv (e.own.ext j).at,?_⟩;refine aa.use (RU v hv _) ?_;rintro D s8 (k:Ag C s8 D (Aq v)) M;have F:=(e.ext.trans j).trans k.eo.ext;have hd:dev.length<=32:=by
   simp only [aN,decide_eq_true_eq] at z;omega
  have i:=HL hv;refine aa.use (QJ (hs.ext F) A (k.sl cg) (by rw [i];omega) dev (by omega)) ?_;rintro O G ⟨rfl,l⟩ m;refine ⟨_,rfl,jK m (by simp [kH]) (by simp) (cH _ _) fun qY n d=>⟨_,oz KE eN (by decide),?_⟩⟩;have c:=kH sec (uI dev++Aq v);have H:gZ n (.slc (some (qY,0)) 32 32 true) (Be sec (uI dev++Aq v)):=bR.mk d.own.at (by rw [lI];simp [c]) (by rw [lI,List.drop_zero,List.take_of_length_le (by simp [c])]) |> (c ▸ ·);refine yd d.wf (k.step (l.trans d.ext)) (by simp) H (by rw [i,c];omega) fun v' s' o w' _=>⟨v',rfl,?_⟩;exact ⟨o.uQ,(e.ext.trans j).mut.trans o.eo,fun la p=>(e.ext.trans j).none (o.new la p)⟩
 ·refine aa.use (vW dev _) ?_;rintro I iF ⟨rfl,rfl⟩ J;refine ⟨_,rfl,af.no (by simp [z]) ⟨_,UQ hv e.own.at,?_⟩⟩;refine aa.use (QI hv _) ?_;rintro K uR ⟨rfl,x⟩ y;exact ⟨_,rfl,by simp [hm],x,y⟩
theorem HM:aY T aX []=some (.agg (dx.map (.int .u64))):=by kernel_rfl
theorem Sl.YP {s:AS} {v:AV} {l:List Int} (h:gZ s v l) (d:l.length=32):∃ la o,QY T tD v=some (.ptr (some (la,o)))/\∀ s',Ext s s'->aD s' la o 32=some (l.map (.int .u8)):=by
 rcases h with ⟨_,h0,_⟩ | ⟨a,c,e,rfl,⟨i,k⟩,h3⟩
 ·omega
 ·rcases h3 with h3 | ⟨la,o,C,rfl,j,b⟩
  ·omega
  ·refine ⟨la,o,by simp [QY,KE,d],fun s' e'=>?_⟩;have hlen:=congrArg List.length b;rw [List.length_take,List.length_drop,tQ,d] at hlen;rw [(j.ext e').aD (by omega),<- lI,<- b,d]
theorem PL {s s4:AS} {l1:Nat} {v:List Int} (hv:v.length=16) (d:Ext s s4) (e:aJ s4) (i:s.h l1=none) (j:Am.Own s4 l1 (dx.map (.int .u64))) {c c':Int} (k:c=c') :
  fy (some 16) (v.map (AV.int .u64)) (bC (Am.cS s4 l1 0 (v.map (.int .u64))) fun s7=>aS (aD s7 l1 0 16) fun l=>(fun r s'=>r=AV.aQ [.agg (v.map (.int .u64)),.int .i64 c']/\Ext s s') (.aQ [.agg l,.int .i64 c]) s7):=by
 refine ⟨⟨cH _ _,by simp [hv]⟩,bC.own e j (by simp [hv,dx]) fun s7 P=>?_⟩;have b:=P.at;rw [dZ (by simp [hv,dx])] at b;exact ⟨_,UQ hv ⟨_,_,b⟩,by rw [k],Ext.wr d i P.mut⟩
theorem VP (v:List Int):LH (Aq v):=by
 intro x b;obtain ⟨n,_,b⟩:=List.mem_flatMap.1 b;exact Xt n 8 x b
theorem XA {s:AS} {sv bv:AV} {b:List Int} (hb:gZ s bv b) (dev:List UInt8) (h0:aN dev=false\/b=[]) :
  aa Tryz.prog pD [sv,.str dev,bv] s fun r s'=>r=.aQ [.agg (dx.map (.int .u64)),.int .i64 (if aN dev then 0 else 2)]/\Ext s s':=by
 refine aa.pre fun i=>Ec _ _ _ _ _ (aj.intro i rfl fun l1 s2 c=>?_);refine aa.use (vW dev _) ?_;rintro j s4 ⟨rfl,rfl⟩ d;refine ⟨_,rfl,af.mk (fun h=>⟨_,HM,PL rfl c.ext d c.no c.own (by rw [if_neg (by simpa using h)])⟩) (fun h=>?_)⟩
 ·have e:aN dev=true:=by simpa using h
  rcases h0 with h0 | rfl
  ·rw [e] at h0;cases h0
  ·refine ⟨_,(hb.ext c.ext).b_ aT _,af.yes (by simp) ⟨_,HM,PL rfl c.ext d c.no c.own (by rw [if_pos e])⟩⟩
theorem XB {s:AS} {sv bv:AV} {sec:List Int} (hs:gZ s sv sec) (hl:sec.length<=64) (dev:List UInt8) (Z:aN dev=true) {v:List Int} (hv:Yx v) (hm:uM v=true) (hb:gZ s bv (Cm sec dev v)) :
  aa Tryz.prog pD [sv,.str dev,bv] s fun r s'=>r=.aQ [.agg (v.map (.int .u64)),.int .i64 0]/\Ext s s':=by
 have c:=hv.len;have hd:dev.length<=32:=by
  simp only [aN,decide_eq_true_eq] at Z;omega
 have z:=Ud sec dev c;have ad:=HL c;have A:=kH sec (uI dev++Aq v);refine aa.pre fun hw=>Ec _ _ _ _ _ (aj.intro hw rfl fun l1 s2 B=>?_);refine aa.use (vW dev _) ?_;rintro v3 s4 ⟨rfl,rfl⟩ w4;have k:=hb.ext B.ext;refine ⟨_,rfl,af.no (by simp [Z]) ⟨_,k.b_ aT _,af.no (by simp [z]) ⟨_,k.b_ aT _,af.no (by simp [z]) ?_⟩⟩⟩;obtain ⟨ae,J,d⟩:=k.head cg aT eN (i:=128) (by omega) .i64;obtain ⟨al,K,l⟩:=k.rest cg aT eN (i:=128) (by omega) .i64;have t1:(Cm sec dev v).take 128=Aq v:=by rw [Cm,List.take_append_of_le_length (by omega),List.take_of_length_le (by omega)]
 have t2:(Cm sec dev v).drop 128=Be sec (uI dev++Aq v):=by rw [Cm,List.drop_append_of_le_length (by omega),List.drop_eq_nil_of_le (by omega),List.nil_append]
 rw [t1] at d;rw [t2] at l;refine ⟨_,J,_,K,?_⟩;refine aa.use (QH d (VP v) (by omega)) ?_;rintro am gw ⟨p,rfl,hp,rp,L⟩ an;refine ⟨_,rfl,?_⟩;refine aa.use (PJ rp) ?_;rintro ao uR ⟨rfl,M,ab⟩ O;have m:=VO hv [];rw [List.append_nil] at m;rw [show (v.flatMap fun n=>yK n 8)=Aq v from rfl] at m;rw [m.1];have Q:Ext s4 uR:=Ext.wr L hp M;refine ⟨_,rfl,jK O (by simp [c]) rfl (cH _ _) fun ar C x=>?_⟩;have j:=Q.trans x.ext;have R:=B.own.ext j;refine ⟨fun vs s'=>vs=[.bool false]/\Ext C s'/\aJ s',?_,fun q _ v s'=>q=9->∃ la o,v=.ptr (some (la,o)),fun q _ w=>(q=1->w=.bool true)/\(q=7->w=.agg ((Be sec (uI dev++Aq v)).map (.int .u8)))/\(q=9->∃ la o,w=.ptr (some (la,o))/\aD C la o 32=some ((Be sec (uI dev++Aq v)).map (.int .u8))),fun q _ w s s' e h=>h,?_⟩
 ·rintro b aw ⟨hb,y,S⟩;obtain rfl:b=false:=by simpa using hb
  refine af.no rfl ⟨_,UQ c (x.own.ext y).at,PL c ((B.ext.trans j).trans y) S B.no (R.ext y) rfl⟩
 ·refine ⟨_,UQ c x.own.at,fun a0 a1 a2 _=>?_,⟨_,(fun _=>rfl),(fun h=>by cases h),(fun h=>by cases h)⟩,fun a3 D=>?_⟩
  ·refine (QI c _).mono ?_;rintro w s' ⟨rfl,e⟩;exact ⟨_,rfl,e,(fun h=>by cases h),(fun _=>by rw [hm]),(fun h=>by cases h),(fun h=>by cases h)⟩
  ·obtain rfl:=D.1 rfl;obtain ⟨la,o,U,F⟩:=Sl.YP (l.ext j) A;refine ⟨_,rfl,af.no rfl ⟨fun uw G a4 _=>?_,⟨_,(fun h=>by cases h),(fun _=>rfl),(fun h=>by cases h)⟩,fun a5 H=>?_⟩⟩
   ·refine (QJ (hs.ext ((B.ext.trans j).trans G)) hl (d.ext (j.trans G)) (by omega) dev (by omega)).mono ?_;rintro w s' ⟨rfl,e⟩;exact ⟨_,rfl,e,(fun h=>by cases h),(fun h=>by cases h),(fun _=>rfl),(fun h=>by cases h)⟩
   ·obtain rfl:=H.2.1 rfl;refine ⟨_,rfl,fun a6 a7 a8 _=>⟨_,U,Ext.refl _,(fun _=>⟨la,o,rfl⟩),(fun h=>by cases h),(fun h=>by cases h),(fun _=>⟨la,o,rfl,F _ (Ext.refl _)⟩)⟩,⟨_,(fun h=>by cases h),(fun h=>by cases h),(fun _=>⟨la,o,rfl,F _ (Ext.refl _)⟩)⟩,fun a9 I=>?_⟩;obtain ⟨a',o',rfl,hr'⟩:=I.2.2 rfl;refine ⟨_,rfl,_,hr',fun ba W bb _=>?_⟩;refine aa.use (PC A _) ?_;rintro w bc ⟨rfl,X⟩ Y;exact ⟨_,rfl,rfl,W.trans X,Y⟩
end
section
open Go.Am Go.aq Go.aB Go.bq
structure Ev where
 id:aO
 dQ:List UInt8
 tW:List Int
 gR:List Int
 to:List DG
structure gj where
 ev:Ev
 pv:AV
 tv:AV
 len:ev.gR.length=16
 p1:pv.one=true
 t1:tv.one=true
def ep (m:gj):List AV:=[.int .i64 m.ev.id.r,.int .u64 m.ev.id.c,.str m.ev.dQ,m.pv]++(m.ev.gR.map (.int .u64)++[m.tv])
theorem aE (m:gj):(ep m).length=21:=by simp [ep,m.len]
theorem bL (m:gj):(ep m).all AV.one=true:=by
 have b:=m.p1;have h2:=m.t1;have h3:=cH .u64 m.ev.gR;rw [ep,List.all_append,List.all_append,h3];simp [b,h2]
theorem uN (m:gj) {i:Nat} (h:i<16):(ep m)[4+i]? = some (.int .u64 (m.ev.gR.getD i 0)):=by
 have b:=m.len;rw [ep,List.getElem?_append_right (by simp),List.getElem?_append_left (by simp;omega),List.getElem?_map,List.getElem?_eq_getElem (by simp;omega),List.getD_eq_getElem?_getD];simp [List.getElem?_eq_getElem (show i<m.ev.gR.length by omega)]
theorem rU (m:gj):(ep m)[20]? = some m.tv:=by
 have b:=m.len;rw [ep,List.getElem?_append_right (by simp),List.getElem?_append_right (by simp;omega)];simp [b]
theorem Ar (m:gj):((ep m).drop 0).take 2=aP m.ev.id:=rfl
theorem LA (m:gj):((ep m).drop 4).take 16=m.ev.gR.map (.int .u64):=by
 have b:=m.len;rw [ep,List.drop_append_of_le_length (by simp)];simp [List.take_append_of_le_length,b]
theorem dI (m:gj):((ep m).drop 0).take 21=ep m:=by rw [List.drop_zero,List.take_of_length_le (by rw [aE];exact Nat.le_refl _)]
def rV (s:AS) (m:gj):Prop:=gZ s m.pv m.ev.tW/\Sl qM 3 s m.tv m.ev.to
theorem rV.ext {s s':AS} {m:gj} (h:rV s m) (e:Ext s s'):rV s' m:=⟨h.1.ext e,h.2.ext e⟩
theorem DL (d:aO) (s:AS):aa Tryz.prog ke [.agg (aP d)] s fun v s'=>v=.bool d.may/\Ext s s':=by
 refine aa.pre fun b=>Hj _ _ _ ⟨rfl,aj.intro b rfl fun l s1 F=>?_⟩;simp only [F.own.at.ak,aP,List.getElem?_cons_zero,List.getElem?_cons_succ,go_sem,gU,F.ext,and_true,aO.may]
 grind
theorem vX (t:List UInt8) (s:AS):aa Tryz.prog gy [.str t] s fun v s'=>v=.bool (aN t)/\s'=s:=by
 refine Ey _ _ _ ⟨_,lH t s,af.dec (fun h=>⟨_,lH t s,?_,rfl⟩) (fun h=>⟨?_,rfl⟩)⟩
 ·congr 1;rw [aN,decide_eq_decide];omega
 ·congr 1;symm;rw [aN,decide_eq_false_iff_not];omega
theorem Uf (a b:aO) (s:AS):aa Tryz.prog vt [.agg (aP a),.agg (aP b)] s fun v s'=>v=.bool (a.lt b)/\Ext s s':=by
 refine aa.pre fun k=>K3 _ _ _ _ ⟨rfl,aj.intro k rfl fun l s1 F=>⟨rfl,aj.intro F.wf rfl fun m s2 c=>?_⟩⟩;have e:=F.ext.trans c.ext;refine ⟨fun _ _ _ _=>True,fun _ _ v=>v=.int .i64 (ug a.r b.r),fun _ _ _ _ _ _ _=>trivial,?_⟩;simp only [(F.own.ext c.ext).at.ak,c.own.at.ak,aP,List.getElem?_cons_zero,List.getElem?_cons_succ,go_sem];refine ⟨fun s7 _ _ _=>?_,⟨_,rfl⟩,?_⟩
 ·refine (kT _ _ _).mono ?_;rintro v s' ⟨rfl,rfl⟩;exact ⟨_,rfl,Ext.refl _,trivial,rfl⟩
 ·rintro v rfl;refine ⟨_,rfl,fun fH d _ _=>?_⟩;refine aa.use (iY _ _ _) ?_;rintro v s' ⟨rfl,rfl⟩ i;refine ⟨_,rfl,_,PB _ _,aj.intro i rfl fun l3 s3 j=>?_⟩;refine (ql _ _ j.own.at).mono ?_;rintro v s' ⟨rfl,rfl⟩;refine ⟨_,rfl,?_,e.trans (d.trans j.ext)⟩;congr 1;rw [Bool.eq_iff_iff,decide_eq_true_eq,<- aO.gu,aO.cmp]
theorem XC {s:AS} {l o:Nat} {C:List AV} {v:List Int} (hv:v.length=16) (h:At s l C) (b:(C.drop o).take 16=v.map (.int .u64)):Sl yf 1 s (.slc (some (l,o)) 16 16 true) v:=by
 have hf:v.flatMap yf=v.map (.int .u64):=by
  clear hv b
  induction v with
  | nil=>rfl
  | cons x xs d=>rw [List.flatMap_cons,d];rfl
 exact (bR.mk (n:=16) (c:=16) h (by rw [hf];simp [hv]) (by rw [hf];exact b)) |> (hv ▸ ·)
theorem R_ {v:List Int} (hv:v.length=16) (s:AS):aa Tryz.prog mZ [.agg (v.map (.int .u64))] s fun r s'=>r=.bool (uM v)/\Ext s s':=by
 refine aa.pre fun c=>BG _ _ _ ⟨cH _ _,aj.intro c rfl fun l1 s2 b=>⟨_,oz xJ ki (by decide),?_⟩⟩;have hs:=XC hv b.own.at (by rw [List.drop_zero,List.take_of_length_le (by simp [hv])]);refine aa.use (uL (P:=fun n=>decide (n>4611686018427387904)) hs (by omega) fun i _ s' e w=>y5 _ _ _ ⟨rfl,Ext.refl _⟩) ?_;rintro w j ⟨rfl,d⟩ k;refine ⟨_,rfl,?_,b.ext.trans d⟩;congr 1;rw [uM,Bool.eq_iff_iff];simp only [Bool.not_eq_true',List.any_eq_false,decide_eq_true_eq,List.all_eq_true,Int.not_lt,gt_iff_lt]
def vY (l:List DG) (j:Nat):Bool:=match l[j]? with
 | none=>true
 | some t=>t.dot.may&&aN t.dev&&(decide (j=0)||match l[j - 1]? with
  | none=>true
  | some u=>u.dot.lt t.dot)
def yw (l:List DG):Bool:=(List.range l.length).all (vY l)
def tU (e:Ev):Bool:=decide (e.gR.getD (e.id.r.toNat - 1) 0=IntKind.wrap .u64 (e.id.c - 1))
def si (e:Ev):Bool:=e.id.may&&uM e.gR&&tU e&&aN e.dQ&&decide (e.tW.length<=512)&&decide (e.to.length<=1024)&&yw e.to
theorem qn {d:aO} (h:d.may=true):IntKind.wrap .i64 (d.r - 1)=((d.r.toNat - 1:Nat):Int)/\d.r.toNat - 1<16:=by
 have:=aO.gC.1 h;rw [a_ (by omega)];omega
set_option maxRecDepth 20000 in
theorem VQ {s:AS} {m:gj} (h:rV s m):aa Tryz.prog xE [.agg (ep m)] s fun r s'=>r=.bool (si m.ev)/\Ext s s':=by
 refine aa.pre fun hw=>MS _ _ _ ⟨bL m,aj.intro hw rfl fun l1 s2 M=>?_⟩;have c2:=M.own.at;have ev:=aE m;refine ⟨_,c2.aD (by omega),?_⟩;rw [Ar];refine aa.use (DL _ _) ?_;rintro v4 s5 ⟨rfl,O⟩ w5;have c5:=c2.ext O;refine ⟨_,rfl,af.mk (fun hb=>⟨?_,M.ext.trans O⟩) (fun hb=>⟨_,c5.aD (by omega),?_⟩)⟩
 ·simp only [Bool.not_eq_true'] at hb;simp [si,hb]
 have C:m.ev.id.may=true:=by simpa using hb
 rw [LA];refine aa.use (R_ m.len _) ?_;rintro v8 s9 ⟨rfl,e9⟩ w9;have p:=c5.ext e9;have w:=(M.ext.trans O).trans e9;refine ⟨_,rfl,af.mk (fun hb=>⟨?_,w⟩) (fun hb=>⟨m.ev.id.r,by rw [p.ak];rfl,?_⟩)⟩
 ·simp only [Bool.not_eq_true'] at hb;simp [si,hb]
 have hv:uM m.ev.gR=true:=by simpa using hb
 obtain ⟨hr,D⟩:=qn C;dsimp only;rw [hr];have hx:ag T aX (.ptr (some (l1,4))) (.int .i64 ((m.ev.id.r.toNat - 1:Nat):Int))=some (.ptr (some (l1,4+(m.ev.id.r.toNat - 1)))):=by
  rw [M_ (by omega)];simp
 refine ⟨_,_,hx,_,by rw [p.ak,uN m D],m.ev.id.c,by rw [p.ak];rfl,af.mk (fun hb=>⟨?_,w⟩) (fun hb=>?_)⟩
 ·have:tU m.ev=false:=decide_eq_false (bne_iff_ne.1 hb);simp [si,this]
 have hp:tU m.ev=true:=decide_eq_true (by rw [bne_eq_false_iff_eq] at hb;exact hb);refine ⟨m.ev.dQ,by rw [p.ak];rfl,?_⟩;refine aa.use (vX _ _) ?_;rintro ab eH ⟨rfl,rfl⟩ Q;have e:=h.ext w;refine ⟨_,rfl,af.mk (fun hb=>⟨?_,w⟩) (fun hb=>⟨m.pv,by rw [p.ak];rfl,_,e.1.b_ aT _,af.dec (fun F=>⟨?_,w⟩) (fun F=>⟨m.tv,by rw [p.ak,rU],_,e.2.b_ gh _,af.dec (fun z=>⟨?_,w⟩) (fun z=>⟨m.tv,by rw [p.ak,rU],_,e.2.b_ gh _,?_⟩)⟩)⟩)⟩
 ·have:aN m.ev.dQ=false:=by simpa using hb
  simp [si,this]
 ·simp [si,show ¬ m.ev.tW.length<=512 by omega]
 ·simp [si,show ¬ m.ev.to.length<=1024 by omega]
 have hn:aN m.ev.dQ=true:=by simpa using hb
 have G:si m.ev=yw m.ev.to:=by
  simp [si,C,hv,hp,hn,show m.ev.tW.length<=512 by omega,show m.ev.to.length<=1024 by omega]
 rw [G];refine ⟨fun m' vs s'=>∃ i:Nat,vs=[.bool true,.int .i64 (i:Nat)]/\i<=m.ev.to.length/\m'=m.ev.to.length - i/\Ext eH s'/\aJ s'/\(List.range i).all (vY m.ev.to)=true,m.ev.to.length,⟨0,rfl,by omega,rfl,Ext.refl _,Q,rfl⟩,?_⟩;rintro m' b n mG ⟨i,hi,h6,rfl,A,R,x⟩;simp only [List.cons.injEq,AV.int.injEq,AV.bool.injEq,true_and,and_true] at hi;obtain ⟨rfl,rfl⟩:=hi;refine af.dec (fun ad=>?_) (fun ae=>?_)
 ·obtain ⟨y,H⟩:=cF (l:=m.ev.to) (i:=i) (by omega);obtain ⟨la,o,h8,h9⟩:=e.2.ix (by decide) eE gh C2 H;refine ⟨la,o,h8 _,_,(h9 _ A).2,jK R (eE y) rfl (uG y) fun al kC B=>?_⟩;have k:=A.trans B.ext;refine ⟨fun vs s'=>vs=[.bool (vY m.ev.to i)]/\Ext kC s'/\aJ s',?_,?_⟩
  ·rintro b am ⟨hb,I,S⟩;simp only [List.cons.injEq,AV.bool.injEq,and_true] at hb;subst hb;refine af.mk (fun hb=>⟨?_,w.trans (k.trans I)⟩) (fun hb=>?_)
   ·have j:vY m.ev.to i=false:=by simpa using hb
    rw [j];congr 1;symm;rw [yw,List.all_eq_false];exact ⟨i,by simp;omega,by simp [j]⟩
   ·have j:vY m.ev.to i=true:=by simpa using hb
    refine ⟨m.ev.to.length - (i+1),by omega,i+1,by rw [j,uJ (by omega)],by omega,rfl,k.trans I,S,?_⟩;rw [List.range_succ,List.all_append,x];simp [j]
  ·refine ⟨_,B.own.at.aD (by rw [eE];omega),?_⟩;rw [show ((qM y).drop 0).take 2=aP y.dot from rfl];refine aa.use (DL _ _) ?_;rintro an ao ⟨rfl,d⟩ U;have J:=(B.own.ext d).at;refine ⟨_,rfl,af.mk (fun K=>⟨y.dev,by rw [J.ak];rfl,?_⟩) (fun K=>⟨by simp [vY,H,K],d,U⟩)⟩;refine aa.use (vX _ _) ?_;rintro ar aw ⟨rfl,rfl⟩ L;refine ⟨_,rfl,af.mk (fun h2=>af.mk (fun h3=>⟨?_,d,L⟩) (fun h3=>?_)) (fun h2=>⟨by simp [vY,H,K,h2],d,L⟩)⟩
   ·obtain rfl:i=0:=by simp at h3;omega
    simp [vY,H,K,h2]
   ·have W:i≠0:=by simp at h3;omega
    obtain ⟨u,hu⟩:=cF (l:=m.ev.to) (i:=i - 1) (by omega);obtain ⟨lu,ou,k8,k9⟩:=e.2.ix (by decide) eE gh C2 hu;have X:IntKind.wrap .i64 ((i:Int) - 1)=((i - 1:Nat):Int):=by rw [a_ (by omega)];omega
    rw [X];refine ⟨m.tv,by rw [((p.ext (k.trans d))).ak,rU],lu,ou,k8 _,aP u.dot,?_,_,J.aD (by rw [eE];omega),?_⟩
    ·exact lP (k9 _ (k.trans d)).2 (by omega)
    ·rw [show ((qM y).drop 0).take 2=aP y.dot from rfl];refine aa.use (Uf _ _ _) ?_;rintro a0 a1 ⟨rfl,Y⟩ Z;exact ⟨_,rfl,by simp [vY,H,K,h2,W,hu],d.trans Y,Z⟩
 ·obtain rfl:i=m.ev.to.length:=by omega
  exact ⟨by rw [yw,x],w.trans A⟩
def under (v:List Int) (d:aO):Bool:=d.may&&decide (v.getD (d.r.toNat - 1) 0>=d.c)
theorem Ug {v:List Int} (hv:v.length=16) (d:aO) (s:AS):aa Tryz.prog tj [.agg (v.map (.int .u64)),.agg (aP d)] s fun r s'=>r=.bool (under v d)/\Ext s s':=by
 refine aa.pre fun n=>Il _ _ _ _ ⟨cH _ _,aj.intro n rfl fun l1 s2 e=>⟨rfl,aj.intro e.wf rfl fun l3 s4 b=>⟨_,b.own.at.aD (by simp [aP]),?_⟩⟩⟩;refine aa.use (DL _ _) ?_;rintro p s7 ⟨rfl,j⟩ w;have k:=(e.ext.trans b.ext).trans j;have l:=(b.own.ext j).at;have o:=((e.own.ext b.ext).ext j).at;refine ⟨_,rfl,af.mk (fun hb=>⟨d.r,by rw [l.ak];rfl,?_⟩) (fun hb=>⟨by simp [under,hb],k⟩)⟩;obtain ⟨hr,m⟩:=qn hb;dsimp only;rw [hr];exact ⟨_,_,M_ (by omega),_,o.Ro (i:=d.r.toNat - 1) (by omega) (by simp),d.c,by rw [l.ak];rfl,by simp [under,hb],k⟩
def jF (l:List DG) (dev:List UInt8):List aO:=(l.filter fun t=>t.dev==dev).map DG.dot
theorem Yk {s:AS} {m:gj} (h:rV s m) (D:m.ev.to.length<=2 ^ 29) (dev:List UInt8):aa Tryz.prog zL [.agg (ep m),.str dev] s fun r s'=>aW aP 2 [] s s' r (jF m.ev.to dev):=by
 refine aa.pre fun k=>O8 _ _ _ _ ⟨bL m,aj.intro k rfl fun l1 s2 d=>?_⟩;have h2:=h.ext d.ext;refine ⟨m.tv,by rw [d.own.at.ak,rU],_,h2.2.b_ gh _,fun m' vs s'=>∃ (i:Nat) (v:AV),vs=[v,.int .i64 (i:Nat)]/\i<=m.ev.to.length/\m'=m.ev.to.length - i/\aJ s'/\aW aP 2 [] s s' v (jF (m.ev.to.take i) dev),m.ev.to.length,⟨0,_,rfl,by omega,rfl,d.wf,aW.start d.ext.mut⟩,?_⟩;rintro m' n F p ⟨i,v,hi,G,rfl,e,c⟩;simp only [List.cons.injEq,AV.int.injEq,true_and,and_true] at hi;obtain ⟨rfl,rfl⟩:=hi;refine af.dec (fun w=>?_) (fun x=>?_)
 ·obtain ⟨y,j⟩:=cF (l:=m.ev.to) (i:=i) (by omega);obtain ⟨la,o,z,A⟩:=h.2.ix (by decide) eE gh C2 j;have ht:m.ev.to.take (i+1)=m.ev.to.take i++[y]:=by rw [List.take_add_one,j];rfl
  have hlen:(jF (m.ev.to.take i) dev).length<=i:=by
   simp only [jF,List.length_map];exact Nat.le_trans (List.length_filter_le _ _) (by rw [List.length_take];omega)
  refine ⟨la,o,z _,_,(A _ c.eo.ext).2,jK e (eE y) rfl (uG y) fun lN B b=>⟨y.dev,by rw [b.own.at.ak];rfl,af.mk (fun hb=>?_) (fun hb=>?_)⟩⟩
  ·refine ⟨_,b.own.at.aD (by rw [eE];omega),?_⟩;rw [show ((qM y).drop 0).take 2=aP y.dot from rfl];refine aW.iu jk br nB b.wf (c.step b.ext) (by simp) y.dot (by omega) fun v' s' C w' _=>⟨m.ev.to.length - (i+1),by omega,i+1,v',by rw [uJ (by omega)],by omega,rfl,w',?_⟩;rw [ht,jF,List.filter_append,List.map_append];simp only [List.filter_cons,hb,if_true,List.filter_nil,List.map_cons,List.map_nil];exact C
  ·refine ⟨m.ev.to.length - (i+1),by omega,i+1,n,by rw [uJ (by omega)],by omega,rfl,b.wf,?_⟩;rw [ht,jF,List.filter_append];simp only [List.filter_cons,hb,List.filter_nil,Bool.false_eq_true,if_false,List.append_nil];exact c.step b.ext
 ·rw [List.take_of_length_le (by omega)] at c;exact c
end
section
open Go.Am Go.aq Go.aB Go.bq
/-! ### marks of objects -/
def Tag (s:AS) (y g:Nat):Prop:=∃ cs,s.h y=some (.cells cs g false)
theorem Tag.uniq {s:AS} {y a b:Nat} (h:Tag s y a) (c:Tag s y b):a=b:=by
 obtain ⟨cs,h⟩:=h;obtain ⟨cs',c⟩:=c;rw [h] at c;simp only [Option.some.injEq,AO.cells.injEq] at c;exact c.2.1
theorem bg.tag {α:Type} {f:α->List AV} {sz:Nat} {s:AS} {v:AV} {l:List α} (h:bg f sz s v l):∀ y∈ax v,Tag s y sz:=by
 intro y b;rcases h with ⟨_,a,rfl⟩ | ⟨la,rfl,h⟩
 ·simp [ax] at b
 ·obtain rfl:y=la:=by simpa [ax] using b
  exact ⟨_,h⟩
theorem Own.tag {s:AS} {l:Nat} {cs:List AV} (h:Am.Own s l cs):Tag s l 0:=⟨cs,h⟩
theorem Tag.there {s:AS} {y g:Nat} (h:Tag s y g):s.h y≠none:=by
 obtain ⟨cs,h⟩:=h;rw [h];simp
theorem bg.ek {α:Type} {f:α->List AV} {sz:Nat} {s s':AS} {v:AV} {l:List α} {L:List Nat} (h:bg f sz s v l) (m:bB L s s') (b:∀ y∈L,∀ g,Tag s y g->g≠sz):bg f sz s' v l :=
 h.mut m fun y c hm=>b y hm sz (bg.tag h y c) rfl
theorem bg.jG {α:Type} {f:α->List AV} {sz:Nat} {s:AS} {v:AV} {l:List α} (h:bg f sz s v l):∀ y∈ax v,s.h y≠none:=fun y b=>(bg.tag h y b).there
/-! ### events in memory of one's own -/
def g_ (F:List Nat) (s:AS) (m:gj):Prop:=bg qv 1 s m.pv m.ev.tW/\bg qM 3 s m.tv m.ev.to/\∀ y,y∈ax m.pv\/y∈ax m.tv->y∈F
theorem g_.at {F:List Nat} {s:AS} {m:gj} (h:g_ F s m):rV s m:=⟨h.1.sl cg,h.2.1.sl eE⟩
theorem g_.mut {F:List Nat} {s s':AS} {m:gj} {L:List Nat} (h:g_ F s m) (e:bB L s s') (c:∀ y∈L,y ∉ F):g_ F s' m :=
 ⟨h.1.mut e fun y b hm=>c y hm (h.2.2 y (.inl b)),h.2.1.mut e fun y b hm=>c y hm (h.2.2 y (.inr b)),h.2.2⟩
theorem g_.ext {F:List Nat} {s s':AS} {m:gj} (h:g_ F s m) (e:Ext s s'):g_ F s' m:=h.mut (L:=[]) e.mut (by simp)
theorem g_.sub {F F':List Nat} {s:AS} {m:gj} (h:g_ F s m) (b:∀ y∈F,y∈F'):g_ F' s m:=⟨h.1,h.2.1,fun y c=>b y (h.2.2 y c)⟩
theorem g_.ek {F:List Nat} {s s':AS} {m:gj} {L:List Nat} (h:g_ F s m) (e:bB L s s') (c:∀ y∈L,∀ g,Tag s y g->g≠1/\g≠3):g_ F s' m :=
 ⟨bg.ek h.1 e fun y b g t=>(c y b g t).1,bg.ek h.2.1 e fun y b g t=>(c y b g t).2,h.2.2⟩
def gj.set (m:gj) (v w:AV) (b:v.one=true) (h2:w.one=true):gj:=⟨m.ev,v,w,m.len,b,h2⟩
theorem VR (m:gj) (v w:AV) (b:v.one=true) (h2:w.one=true):((ep m).set 3 v).set 20 w=ep (m.set v w b h2):=by
 have c:=m.len;simp only [ep,gj.set];rw [List.set_append,if_pos (by simp),List.set_append,if_neg (by simp)];simp [List.set_append,c]
theorem eF:CQ T ay gN 21 208:=⟨aR,fB,Ve,⟨_,_,GR,rfl,rfl⟩,by decide,by decide⟩
theorem iK:CQ T bz aX 16 128:=⟨dW,uq,Tw,⟨_,_,Rt,rfl,rfl⟩,by decide,by decide⟩
theorem Sa {s:AS} {v:AV} {l:List DG} (b:Sl qM 3 s v l) (i:l.length<=2 ^ 30):aa Tryz.prog bH [v] s fun r s'=>aW qM 3 [] s s' r l:=by
 refine aa.pre fun j=>qG _ _ _ ?_;have main:aS (de T bZ 0 []) fun k=>aj (.cells k 0 false) s fun l3 s4=>ig (aG T bZ bZ (.slc (some (l3,0)) 0 0 true) v s4) fun m s6=>aW qM 3 [] s s6 m l:=by
  refine ⟨_,xl uH,aj.intro j rfl fun l3 s4 F=>?_⟩;refine aW.iq uH eE uG F.wf (aW.start (M:=[]) F.ext.mut) (by simp) (b.ext F.ext) (by simpa using i) gh fun v' s' g _ _=>?_;simpa using g
 rcases b with ⟨rfl,_,d⟩ | ⟨a,c,e,rfl,hlen,h3⟩
 ·refine ⟨_,pA gh _ _ _ _,af.no rfl main⟩
 ·refine ⟨_,pz gh _ _ _ _ _ _ _ _,af.mk (fun h=>?_) (fun _=>main)⟩;have:a=none:=by simpa using h
  subst this;have:l=[]:=by
   rcases h3 with h3 | ⟨la,o,C,h,_⟩
   ·exact List.length_eq_zero_iff.1 h3
   ·cases h
  subst this;exact aW.nil
set_option maxRecDepth 20000 in
theorem uO {s:AS} {m:gj} (h:rV s m) (R:m.ev.tW.length<=2 ^ 30) (h2:m.ev.to.length<=2 ^ 30):aa Tryz.prog bS [.agg (ep m)] s fun r s'=>∃ (m':gj) (F:List Nat),m'.ev=m.ev/\r=.agg (ep m')/\g_ F s' m'/\(∀ y∈F,s.h y=none)/\(∀ y∈F,s'.h y≠none)/\Ext s s':=by
 refine aa.pre fun S=>KR _ _ _ ⟨bL m,aj.intro S rfl fun l1 s2 w=>aj.intro w.wf rfl fun l3 s4 A=>?_⟩;have D:=w.ext.trans A.ext;have ev:=aE m;have G:=w.own.ext A.ext;have h4:=h.ext D;have d13:l1≠l3:=fun e=>by
  have:=A.no;rw [<- e,w.own] at this;cases this
 refine ⟨fun q _ v s'=>(q=2->aW qv 1 [] s4 s' v m.ev.tW)/\(q=5->aW qM 3 [] s4 s' v m.ev.to),fun q _ v=>v.one=true,fun q _ v s s' e g=>⟨fun I=>(g.1 I).step e,fun I=>(g.2 I).step e⟩,m.pv,by rw [G.at.ak];rfl,fun s6 M Y _=>?_,⟨_,m.p1⟩,fun B l=>⟨m.tv,by rw [G.at.ak,rU],fun U C W _=>?_,⟨_,m.t1⟩,fun n c fH x J O=>?_⟩⟩
 ·refine (DK (h4.1.ext M) R).mono ?_;intro v s' g;exact ⟨g.eo.ext,⟨(fun _=>aW.back g M),(fun h=>by cases h)⟩,g.jJ.2⟩
 ·refine (Sa (h4.2.ext C) h2).mono ?_;intro v s' g;exact ⟨g.eo.ext,⟨(fun h=>by cases h),(fun _=>aW.back g C)⟩,g.jJ.2⟩
 have o:=O.1.1 rfl;have b:=O.2.1.2 rfl;have p:∀ {v:AV} {f:Nat},(∀ la∈ax v,s4.h la=none)->∀ y∈ax v,y ∉ [l1]:=fun h y d hm=>by
  obtain rfl:=List.mem_singleton.1 hm;have:=h y d;rw [G] at this;cases this
 have H:∀ {v:AV} {f:Nat},(∀ la∈ax v,s4.h la=none)->∀ y∈ax v,y ∉ [l3]:=fun h y d hm=>by
  obtain rfl:=List.mem_singleton.1 hm;have:=h y d;rw [A.own] at this;cases this
 refine cP l qX (bC.own J (G.ext x) (by simp [ev]) fun kU i=>?_);have K:Am.Own kU l1 ((ep m).set 3 B):=i.at;refine cP c Tx (bC.own i.wf K (by simp [ev]) fun eH j=>?_);have L:Am.Own eH l1 (ep (m.set B n l c)):=by
  have:=j.at;rw [fA,VR m B n l c] at this;exact this
 have z:=aE (m.set B n l c);have X:=((A.own.ext x).mut i.mut (by simpa using Ne.symm d13)).mut j.mut (by simpa using Ne.symm d13);refine ⟨_,L.at.aD (by omega),?_⟩;rw [dI];refine ⟨⟨bL _,by rw [z]⟩,bC.own j.wf X (by rw [z];simp) fun gw k=>?_⟩;have Q:=k.at;rw [dZ (by rw [z];simp)] at Q;refine ⟨_,At.aD ⟨_,_,Q⟩ (by omega),m.set B n l c,ax B++ax n,rfl,by rw [dI],⟨?_,?_,fun y d=>List.mem_append.2 d⟩,?_,?_,Ext.wr (Ext.wr (Ext.wr (D.trans x) w.no i.mut) w.no j.mut) (w.ext.none A.no) k.mut⟩
 ·exact ((o.uQ.mut i.mut (p (f:=0) o.new)).mut j.mut (p (f:=0) o.new)).mut k.mut (H (f:=0) o.new)
 ·exact ((b.uQ.mut i.mut (p (f:=0) b.new)).mut j.mut (p (f:=0) b.new)).mut k.mut (H (f:=0) b.new)
 ·intro y d;rcases List.mem_append.1 d with d | d
  ·exact D.none (o.new y d)
  ·exact D.none (b.new y d)
 ·intro y d;rcases List.mem_append.1 d with d | d
  ·exact bg.jG (((o.uQ.mut i.mut (p (f:=0) o.new)).mut j.mut (p (f:=0) o.new)).mut k.mut (H (f:=0) o.new)) y d
  ·exact bg.jG (((b.uQ.mut i.mut (p (f:=0) b.new)).mut j.mut (p (f:=0) b.new)).mut k.mut (H (f:=0) b.new)) y d
/-! ### the caster -/
structure dX where
 v:List Int
 log:List Ev
 JI:List (List Int)
 held:aO->Option Ev
 nh:Nat
def dX.zero:dX:=⟨dx,[],[],fun _=>none,0⟩
structure HN where
 v:List Int
 len:v.length=16
def rZ (m:HN):List AV:=m.v.map (.int .u64)
theorem cR (m:HN):(rZ m).length=16:=by simp [rZ,m.len]
theorem nH (m:HN):(rZ m).all AV.one=true:=cH _ _
def fU (v:List Int) (lg bh hd:AV):List AV:=[.int .i64 3,.int .i64 1]++(v.map (.int .u64)++[lg,bh,hd])
def Y4 (m:gj):AV:=.agg (ep m)
structure gx (F:List Nat) (s:AS) (p:Nat) (c:dX):Prop where
 len:c.v.length=16
 mem:∃ (lg bh:AV) (hm:Nat) (L:List gj) (B:List HN) (es:List (aO×gj×Nat)) (k:Nat),
  Am.Own s p (fU c.v lg bh (.map (some hm)))/\p∈F/\hm∈F /\
  (bg ep 21 s lg L/\(∀ y∈ax lg,y∈F)/\L.map gj.ev=c.log/\∀ m∈L,g_ F s m) /\
  (bg rZ 16 s bh B/\(∀ y∈ax bh,y∈F)/\B.map HN.v=c.JI) /\
  eR dK Y4 s hm es k false/\(∀ d,(dF es d).map gj.ev=c.held d)/\es.length=c.nh/\∀ e∈es,g_ F s e.2.1
section
variable {F F':List Nat} {s s':AS} {p:Nat} {c:dX}
theorem gx.mut {L:List Nat} (h:gx F s p c) (m:bB L s s') (d:∀ y∈L,y ∉ F):gx F s' p c:=by
 obtain ⟨l,lg,bh,hm,n,B,es,k,o,h2,h3,⟨a1,a2,a3,a4⟩,⟨r,j,w⟩,z,c2,A,C⟩:=h;exact ⟨l,lg,bh,hm,n,B,es,k,o.mut m (fun b=>d p b h2),h2,h3,⟨a1.mut m (fun y i b=>d y b (a2 y i)),a2,a3,fun x b=>(a4 x b).mut m d⟩,⟨r.mut m (fun y i b=>d y b (j y i)),j,w⟩,z.mut m (fun b=>d hm b h3),c2,A,fun e D=>(C e D).mut m d⟩
theorem gx.ext (h:gx F s p c) (e:Ext s s'):gx F s' p c:=h.mut (L:=[]) e.mut (by simp)
end
theorem nI {v:List Int} (h:v.length=16) (lg bh hd:AV):(fU v lg bh hd).length=21:=by simp [fU,h]
theorem rW {v:List Int} (h:v.length=16) (lg bh hd:AV) {i:Nat} (hi:i<16):(fU v lg bh hd)[2+i]? = some (.int .u64 (v.getD i 0)):=by
 rw [fU,List.getElem?_append_right (by simp),List.getElem?_append_left (by simp;omega),List.getElem?_map,List.getElem?_eq_getElem (by simp;omega),List.getD_eq_getElem?_getD];simp [List.getElem?_eq_getElem (show i<v.length by omega)]
theorem nJ {v:List Int} (h:v.length=16) (lg bh hd:AV):(fU v lg bh hd)[18]? = some lg/\(fU v lg bh hd)[19]? = some bh/\(fU v lg bh hd)[20]? = some hd:=by
 refine ⟨?_,?_,?_⟩ <;>
 ·rw [fU,List.getElem?_append_right (by simp),List.getElem?_append_right (by simp;omega)];simp [h]
theorem Cn {v:List Int} (h:v.length=16) (lg bh hd:AV):((fU v lg bh hd).drop 2).take 16=v.map (.int .u64):=by
 rw [fU,List.drop_append_of_le_length (by simp)];simp [List.take_append_of_le_length,h]
theorem JJ {v:List Int} (h:v.length=16) (lg bh hd:AV) {i:Nat} (hi:i<16) (x:Int):(fU v lg bh hd).set (2+i) (.int .u64 x)=fU (v.set i x) lg bh hd:=by
 rw [fU,fU,List.set_append,if_neg (by simp),List.set_append,if_pos (by simp;omega),List.map_set];simp
theorem Sb {v:List Int} (h:v.length=16) (lg bh hd b c:AV):((fU v lg bh hd).set 18 b).set 19 c=fU v b c hd:=by
 simp [fU,List.set_append,h]
theorem JK {t k e:TypeId} (hu:T.cW t=some (.map k e)) (r:Option Nat):iZ T 100 t (.map r) (.map none)=some r.isNone:=by
 cases r <;> simp [iZ,hu]
section
variable {F:List Nat} {s:AS} {p:Nat} {c:dX}
theorem uP (h:gx F s p c):aa Tryz.prog dH [.ptr (some (p,0))] s fun r s'=>r=.bool true/\s'=s:=by
 obtain ⟨b,lg,bh,hm,e,B,es,k,d,_⟩:=h;exact yP _ _ _ ⟨_,jq wj _,af.yes rfl ⟨_,by rw [d.at.ak,(nJ b lg bh _).2.2],_,JK tH _,rfl,rfl⟩⟩
theorem VS (h:gx F s p c):aa Tryz.prog mU [.ptr (some (p,0))] s fun r s'=>r=.int .i64 (c.log.length:Nat)/\s'=s:=by
 refine Bo _ _ _ ?_;refine aa.use (uP h) ?_;rintro v s2 ⟨rfl,rfl⟩ _;obtain ⟨b,lg,bh,hm,e,B,es,k,d,_,_,⟨a1,_,a3,_⟩,_⟩:=h;refine ⟨_,rfl,af.no rfl ⟨lg,by rw [d.at.ak,(nJ b lg bh _).1],_,(a1.sl aE).b_ aR _,?_,rfl⟩⟩;rw [<- a3,List.length_map]
def fN (e:Ev):Bool:=si e&&decide (e.id.r<=3)&&(e.gR.drop 3).all fun n=>decide (n=0)
set_option maxRecDepth 20000 in
theorem Uh (h:gx F s p c) {m:gj} (hm:rV s m):aa Tryz.prog jL [.ptr (some (p,0)),.agg (ep m)] s fun r s'=>r=.bool (fN m.ev)/\Ext s s':=by
 have ev:=aE m;refine aa.pre fun R=>Br _ _ _ _ ⟨bL m,aj.intro R rfl fun l1 s2 G=>⟨_,G.own.at.aD (by omega),?_⟩⟩;rw [dI];refine aa.use (VQ (hm.ext G.ext)) ?_;rintro v4 L ⟨rfl,M⟩ w5;have z:=G.ext.trans M;obtain ⟨hl,lg,bh,sU,L',B,es,k,O,_⟩:=h.ext z;have A:=(G.own.ext M).at;refine ⟨_,rfl,af.mk (fun hb=>⟨?_,z⟩) (fun hb=>⟨m.ev.id.r,by rw [A.ak];rfl,3,by rw [O.at.ak];rfl,af.dec (fun H=>⟨?_,z⟩) (fun H=>⟨m.ev.id.r,by rw [A.ak];rfl,?_⟩)⟩)⟩
 ·simp only [Bool.not_eq_true'] at hb;simp [fN,hb]
 ·simp [fN,show ¬ m.ev.id.r<=3 by omega]
 have C:si m.ev=true:=by simpa using hb
 have b:=C;simp only [si,Bool.and_eq_true] at b;have I:m.ev.id.may=true:=b.1.1.1.1.1.1;have j:tU m.ev=true:=b.1.1.1.1.2;obtain ⟨hr,D⟩:=qn I;dsimp only;rw [hr];have S:ag T aX (.ptr (some (l1,4))) (.int .i64 ((m.ev.id.r.toNat - 1:Nat):Int))=some (.ptr (some (l1,4+(m.ev.id.r.toNat - 1)))):=by
  rw [M_ (by omega)];simp
 have d:(m.ev.gR.drop 3).all (fun n=>decide (n=0))=fN m.ev:=by simp [fN,C,show m.ev.id.r<=3 by omega]
 refine ⟨_,_,S,_,by rw [A.ak,uN m D],m.ev.id.c,by rw [A.ak];rfl,af.no (bne_eq_false_iff_eq.2 (of_decide_eq_true j)) ⟨3,by rw [O.at.ak];rfl,?_⟩⟩;have U:=m.len;have e:(m.ev.gR.drop 3).length=13:=by rw [List.length_drop];omega
 have J:bf T aX (.ptr (some (l1,4))) (some (.int .i64 3)) none none=some (.slc (some (l1,7)) 13 13 true):=by
  simp only [bf,xJ,ki,Option.bind_some];rfl
 have Q:Sl yf 1 L (.slc (some (l1,7)) 13 13 true) (m.ev.gR.drop 3):=by
  have hf:∀ v:List Int,v.flatMap yf=v.map (.int .u64):=fun v=>by
   induction v with
   | nil=>rfl
   | cons x xs W=>rw [List.flatMap_cons,W];rfl
  refine (bR.mk (n:=13) (c:=13) A (by rw [hf,List.length_map,e]) ?_) |> (e ▸ ·);have:=LA m;rw [hf,List.map_drop,<- this,List.drop_take,List.drop_drop]
 refine ⟨_,J,_,Q.b_ kj _,fun m' vs s'=>∃ i:Nat,vs=[.int .i64 (i:Nat)]/\i<=(m.ev.gR.drop 3).length/\m'=(m.ev.gR.drop 3).length - i/\s'=L/\((m.ev.gR.drop 3).take i).all (fun n=>decide (n=0))=true,(m.ev.gR.drop 3).length,⟨0,rfl,by omega,rfl,rfl,rfl⟩,?_⟩;rintro m' n en ⟨i,hi,h6,rfl,rfl,w⟩;simp only [List.cons.injEq,AV.int.injEq,true_and,and_true] at hi;subst hi;refine af.dec (fun X=>?_) (fun Y=>⟨?_,z⟩)
 ·obtain ⟨y,K⟩:=cF (l:=m.ev.gR.drop 3) (i:=i) (by omega);obtain ⟨la,o,Z,h9⟩:=Q.ix (by decide) uK kj ki K;refine ⟨la,o,Z _,y,by simpa [yf] using (h9 _ (Ext.refl _)).1 0 (by decide),af.mk (fun h0=>⟨?_,z⟩) (fun h0=>⟨(m.ev.gR.drop 3).length - (i+1),by omega,i+1,by rw [uJ (by omega)],by omega,rfl,rfl,?_⟩)⟩
  ·rw [<- d];congr 1;symm;rw [List.all_eq_false];exact ⟨y,List.mem_of_getElem? K,by simpa using h0⟩
  ·rw [List.take_add_one,K,List.all_append,w];simpa using h0
 ·rw [List.take_of_length_le (by omega)] at w;rw [<- d,w]
end
end
section
open Go.Am Go.aq Go.aB Go.bq
def yx (p:Nat) (s s':AS):Prop:=∀ l cs g,s.h l=some (.cells cs g false)->g≠21->g≠16->(g=0->l≠p)->s'.h l=some (.cells cs g false)
theorem yx.trans {p:Nat} {a b c:AS} (h:yx p a b) (i:yx p b c):yx p a c:=fun l cs g e d h2 h3=>i l cs g (h l cs g e d h2 h3) d h2 h3
theorem Ext.ek {p:Nat} {a b:AS} (h:Ext a b):yx p a b:=fun l cs g e _ _ _=>h.1 l _ e
theorem bg.QK {α:Type} {f:α->List AV} {sz p:Nat} {s s':AS} {v:AV} {l:List α} (h:bg f sz s v l) (k:yx p s s') (b:sz≠21) (h2:sz≠16) (h3:sz≠0):bg f sz s' v l:=by
 rcases h with ⟨h,a,rfl⟩ | ⟨la,rfl,h⟩
 ·exact .inl ⟨h,a,rfl⟩
 ·exact .inr ⟨la,rfl,k _ _ _ h b h2 (fun e=>absurd e h3)⟩
def LB (m:gj):List Nat:=ax m.pv++ax m.tv
theorem g_.LB {F:List Nat} {s:AS} {m:gj} (h:g_ F s m):∀ y∈LB m,s.h y≠none:=fun y b=>by
 rcases List.mem_append.1 b with b | b
 ·exact bg.jG h.1 y b
 ·exact bg.jG h.2.1 y b
theorem gx.LC {F:List Nat} {s:AS} {p:Nat} {c:dX} (h:gx F s p c):∃ F0,gx F0 s p c/\(∀ y∈F0,y∈F)/\(∀ y∈F0,s.h y≠none)/\∀ y∈F0,y≠p->¬ Tag s y 0:=by
 obtain ⟨w,lg,bh,hm,L,B,es,k,r,h2,h3,⟨a1,a2,a3,a4⟩,⟨l,x,z⟩,n,c2,A,i⟩:=h;refine ⟨p::hm::(ax lg++(ax bh++(L.flatMap LB++es.flatMap fun e=>LB e.2.1))),⟨w,lg,bh,hm,L,B,es,k,r,by simp,by simp,⟨a1,fun y b=>by simp [b],a3,fun m hm=>⟨(a4 m hm).1,(a4 m hm).2.1,fun y b=>?_⟩⟩,⟨l,fun y b=>by simp [b],z⟩,n,c2,A,fun e d=>⟨(i e d).1,(i e d).2.1,fun y b=>?_⟩⟩,?_,?_,?_⟩
 ·have:y∈L.flatMap LB:=List.mem_flatMap.2 ⟨m,hm,List.mem_append.2 b⟩;simp [this]
 ·have:y∈es.flatMap fun e=>LB e.2.1:=List.mem_flatMap.2 ⟨e,d,List.mem_append.2 b⟩;simp only [List.mem_cons,List.mem_append,this,or_true]
 ·intro y b;simp only [List.mem_cons,List.mem_append] at b;rcases b with rfl | rfl | b | b | b | b
  ·exact h2
  ·exact h3
  ·exact a2 y b
  ·exact x y b
  ·obtain ⟨m,hm,b⟩:=List.mem_flatMap.1 b;exact (a4 m hm).2.2 y (List.mem_append.1 b)
  ·obtain ⟨e,d,b⟩:=List.mem_flatMap.1 b;exact (i e d).2.2 y (List.mem_append.1 b)
 ·intro y b;simp only [List.mem_cons,List.mem_append] at b;rcases b with rfl | rfl | b | b | b | b
  ·rw [r];simp
  ·rw [n.obj];simp
  ·exact bg.jG a1 y b
  ·exact bg.jG l y b
  ·obtain ⟨m,hm,b⟩:=List.mem_flatMap.1 b;exact (a4 m hm).LB y b
  ·obtain ⟨e,d,b⟩:=List.mem_flatMap.1 b;exact (i e d).LB y b
 ·intro y b o ht;have j:∀ {F:List Nat} {m:gj},g_ F s m->y∈LB m->False:=fun h b=>by
   rcases List.mem_append.1 b with b | b
   ·have:=ht.uniq (bg.tag h.1 y b);omega
   ·have:=ht.uniq (bg.tag h.2.1 y b);omega
  simp only [List.mem_cons,List.mem_append] at b;rcases b with rfl | rfl | b | b | b | b
  ·exact o rfl
  ·obtain ⟨cs,ht⟩:=ht;rw [n.obj] at ht;cases ht
  ·have:=ht.uniq (bg.tag a1 y b);omega
  ·have:=ht.uniq (bg.tag l y b);omega
  ·obtain ⟨m,hm,b⟩:=List.mem_flatMap.1 b;exact j (a4 m hm) b
  ·obtain ⟨e,d,b⟩:=List.mem_flatMap.1 b;exact j (i e d) b
theorem gx.tight {F:List Nat} {s:AS} {p:Nat} {c:dX} (h:gx F s p c):∃ F0,gx F0 s p c/\(∀ y∈F0,y∈F)/\∀ y∈F0,s.h y≠none:=by
 obtain ⟨F0,b,h2,h3,_⟩:=h.LC;exact ⟨F0,b,h2,h3⟩
theorem Sc (hm:Nat):aY T tE [(0,.int .i64 3),(1,.int .i64 1),(5,.map (some hm))]=some (.agg (fU dx (.slc none 0 0 true) (.slc none 0 0 true) (.map (some hm)))):=by kernel_rfl
theorem VT (s:AS):aa Tryz.prog zI [.int .i64 3,.int .i64 1] s fun r s'=>∃ p F,r=.aQ [.ptr (some (p,0)),.int .i64 0]/\gx F s' p dX.zero/\(∀ y∈F,s.h y=none)/\(∀ y∈F,s'.h y≠none)/\Ext s s':=by
 refine aa.pre fun l=>OS _ _ _ _ ⟨fun vs s'=>vs=[.bool false]/\s'=s,?_,af.no rfl (af.no rfl (af.no rfl ⟨rfl,rfl⟩))⟩;rintro b s3 ⟨hb,rfl⟩;obtain rfl:b=false:=by simpa using hb
 refine af.no rfl (aj.intro l rfl fun j m c=>⟨_,Sc j,rfl,aj.intro c.wf rfl fun k s8 e=>⟨k,[k,j],rfl,⟨rfl,_,_,j,[],[],[],0,e.own,by simp,by simp,⟨bg.nil,by simp [ax],rfl,by simp⟩,⟨bg.nil,by simp [ax],rfl⟩,eR.new (e.ext.1 _ _ c.at),fun d=>rfl,rfl,by simp⟩,?_,?_,c.ext.trans e.ext⟩⟩)
 ·intro y i;simp only [List.mem_cons,List.not_mem_nil,or_false] at i;rcases i with rfl | rfl
  ·exact c.ext.none e.no
  ·exact c.no
 ·intro y i;simp only [List.mem_cons,List.not_mem_nil,or_false] at i;rcases i with rfl | rfl
  ·rw [e.at];simp
  ·rw [e.ext.1 _ _ c.at];simp
theorem bg.HO {α:Type} {f:α->List AV} {sz:Nat} (hf:∀ x,(f x).length=sz) (e:0<sz) {s:AS} {v v':AV} {l l':List α} (h:bg f sz s v l) (c:bg f sz s v' l') (i:l.length≠l'.length):∀ y∈ax v,y ∉ ax v':=by
 intro y d b;rcases h with ⟨_,a,rfl⟩ | ⟨la,rfl,h⟩
 ·simp [ax] at d
 rcases c with ⟨_,a,rfl⟩ | ⟨lb,rfl,c⟩
 ·simp [ax] at b
 simp only [ax,List.mem_singleton] at d b;subst d;subst b;rw [h] at c;simp only [Option.some.injEq,AO.cells.injEq] at c;have:=congrArg List.length c.1;rw [dY hf,dY hf] at this;exact i (Nat.eq_of_mul_eq_mul_right e this)
theorem bg.one {α:Type} {f:α->List AV} {sz:Nat} {s:AS} {v:AV} {l:List α} (h:bg f sz s v l):v.one=true:=by
 rcases h with ⟨_,a,rfl⟩ | ⟨la,rfl,_⟩ <;> rfl
def dX.apply (c:dX) (e:Ev):dX:={ c with
 v:=c.v.set (e.id.r.toNat - 1) (IntKind.wrap .u64 (c.v.getD (e.id.r.toNat - 1) 0+1))
 log:=c.log++[e]
 JI:=c.JI++[c.v.set (e.id.r.toNat - 1) (IntKind.wrap .u64 (c.v.getD (e.id.r.toNat - 1) 0+1))] }
theorem DM {α:Type} {f:α->List AV} {sz:Nat} (hf:∀ x,(f x).length=sz) {s:AS} {l:Nat} {x:α} (h:At s l (f x)):Sl f sz s (.slc (some (l,0)) 1 1 true) [x] :=
 bR.mk h (by simp [hf]) (by simp [List.take_of_length_le,hf])
set_option maxRecDepth 20000 in
theorem HP {F G:List Nat} {s:AS} {p:Nat} {c:dX} {m:gj} (h:gx F s p c) (hm:g_ G s m) (a':m.ev.id.may=true) (hn:c.log.length+1<=2 ^ 29) (cc:c.JI.length+1<=2 ^ 29) :
  aa Tryz.prog fJ [.ptr (some (p,0)),.agg (ep m)] s fun r s'=>r=.aQ []/\∃ F',gx F' s' p (c.apply m.ev)/\bB F s s'/\(∀ y∈F',y∈F\/y∈G\/s.h y=none)/\(∀ y∈F',s'.h y≠none)/\yx p s s':=by
 have ev:=aE m;refine aa.pre fun hw=>yS _ _ _ _ ⟨bL m,aj.intro hw rfl fun l1 s2 U=>⟨m.ev.id.r,by rw [U.own.at.ak];rfl,?_⟩⟩;obtain ⟨D,lg,bh,sU,L,B,es,k,W,h2,h3,⟨a1,a2,a3,a4⟩,⟨b1,b2,b3⟩,c1,c2,c3,c4⟩:=id h;obtain ⟨hr,z⟩:=qn a';have cd:L.length=c.log.length:=by rw [<- a3,List.length_map]
 have ce:B.length=c.JI.length:=by rw [<- b3,List.length_map]
 dsimp only;rw [hr];generalize hi:m.ev.id.r.toNat - 1=i at z ⊢;have o2:=W.ext U.ext;have n:ag T aX (.ptr (some (p,0+2))) (.int .i64 ((i:Nat):Int))=some (.ptr (some (p,2+i))):=by
  rw [M_ (by omega)];simp
 have ba:=nI D lg bh (.map (some sU));refine ⟨_,_,n,_,by rw [o2.at.ak,rW D lg bh _ z],_,_,n,bC.own U.wf o2 (by rw [ba];simp;omega) fun bQ K=>?_⟩;generalize pY:c.v.set i (IntKind.wrap .u64 (c.v.getD i 0+1))=v';have A:v'.length=16:=by rw [<- pY,List.length_set,D]
 have j:Am.Own bQ p (fU v' lg bh (.map (some sU))):=by
  have:=K.at;rw [fA,JJ D lg bh _ z,pY] at this;exact this
 have C:=nI A lg bh (.map (some sU));have H:bB [p] s bQ:=U.ext.mut.trans K.mut;have d1:l1≠p:=fun e=>by
  have:=U.no;rw [e,W] at this;cases this
 have Z:Am.Own bQ l1 (ep m):=U.own.mut K.mut (by simpa using d1);have t0:∀ y∈[p],∀ g,Tag s y g->g=0:=fun y d g t=>by
  obtain rfl:=List.mem_singleton.1 d;exact t.uniq (Own.tag W)
 have ab:bg ep 21 bQ lg L:=bg.ek a1 H fun y d g t=>by rw [t0 y d g t];decide
 have ad:bg rZ 16 bQ bh B:=bg.ek b1 H fun y d g t=>by rw [t0 y d g t];decide
 have ta:=bg.tag ab;have tb:=bg.tag ad;have tL:∀ y∈ax lg++ax bh,∃ g,Tag bQ y g/\(g=21\/g=16):=fun y d=>by
  rcases List.mem_append.1 d with d | d
  ·exact ⟨21,ta y d,.inl rfl⟩
  ·exact ⟨16,tb y d,.inr rfl⟩
 have hs:=nJ A lg bh (.map (some sU))
 let Y:HN:=⟨v',A⟩
 refine ⟨fun a b=>(∀ l cs,Am.Own a l cs->Am.Own b l cs)/\(∀ v,bg ep 21 a v (L++[m])->bg ep 21 b v (L++[m]))/\bB (ax lg++ax bh) a b,fun q _ v s'=>(q=8->bg rZ 16 s' bh B)/\(q=18->bg rZ 16 s' v (B++[Y])),fun s'=>bg ep 21 s' lg L/\bg rZ 16 s' bh B,
  fun q _ v s'=>(q=7->∃ l,v=.slc (some (l,0)) 1 1 true/\Am.Own s' l (ep m))/\(q=8->bg ep 21 s' v (L++[m])/\∀ y∈ax v,y∈ax lg++ax bh\/bQ.h y=none)/\(q=17->∃ l,v=.slc (some (l,0)) 1 1 true/\Am.Own s' l (rZ Y))/\(q=18->∀ y∈ax v,y∈ax lg++ax bh\/bQ.h y=none),
  fun q _ v=>(q=8\/q=18->v.one=true),fun a b e=>⟨fun l cs o=>o.ext e,fun v g=>g.ext e,e.mut⟩,fun a b c x y=>⟨fun l cs o=>y.1 l cs (x.1 l cs o),fun v g=>y.2.1 v (x.2.1 v g),x.2.2.trans y.2.2⟩,fun q _ v a b e g=>⟨fun w=>(g.1 w).ext e,fun w=>(g.2 w).ext e⟩,?_,fun a b e g=>⟨g.1.ext e,g.2.ext e⟩,⟨ab,ad⟩,?_⟩
 ·rintro q ks v a b ⟨x1,x2,_⟩ ⟨M,g2,g3,g4⟩;refine ⟨fun w=>?_,fun w=>⟨x2 v (g2 w).1,(g2 w).2⟩,fun w=>?_,g4⟩
  ·obtain ⟨l,e,O⟩:=M w;exact ⟨l,e,x1 _ _ O⟩
  ·obtain ⟨l,e,O⟩:=g3 w;exact ⟨l,e,x1 _ _ O⟩
 have ae:∀ s',Am.Own s' p (fU v' lg bh (.map (some sU)))->ak s' p (0+18)=some lg:=fun s' o=>by rw [o.at.ak];exact hs.1
 have al:∀ s',Am.Own s' p (fU v' lg bh (.map (some sU)))->ak s' p (0+19)=some bh:=fun s' o=>by rw [o.at.ak];exact hs.2.1
 have rl:∀ s',Am.Own s' l1 (ep m)->aD s' l1 0 21=some (ep m):=fun s' o=>by rw [o.at.aD (by omega),dI]
 have rv:∀ s',Am.Own s' p (fU v' lg bh (.map (some sU)))->aD s' p (0+2) 16=some (rZ Y):=fun s' o=>by rw [o.at.aD (by rw [C];omega),Cn A];rfl
 have new:∀ {s':AS} {y:Nat},bB (ax lg++ax bh) bQ s'->s'.h y=none->y∈ax lg++ax bh\/bQ.h y=none:=fun {s' y} mm hn=>by
  by_cases d:y∈ax lg++ax bh
  ·exact .inl d
  ·right;cases w:bQ.h y with
   | none=>rfl
   | some o=>rw [mm.1 y o d w] at hn;cases hn
 refine ⟨fun s' _ _=>rfl,_,ae _ j,fun s' x _=>⟨_,ae _ (x.1 _ _ j),rfl⟩,_,rl _ Z,fun s' x _=>⟨_,rl _ (x.1 _ _ Z),rfl⟩,fun en cf bb _=>⟨_,kY eF (aE m) (bL m),aj.intro bb rfl fun bc ch am=>⟨am.ext,⟨(fun _=>⟨bc,rfl,am.own⟩),(fun h=>by cases h),(fun h=>by cases h),(fun h=>by cases h)⟩,(fun h=>by rcases h with h | h <;> cases h)⟩⟩,⟨.bad,(fun h=>by rcases h with h | h <;> cases h)⟩,fun ci _=>⟨fun ck bd be hS hc=>?_,⟨.nilFunc,fun _=>rfl⟩,fun I an=>⟨fun s' _ _=>rfl,_,al _ j,fun s' x _=>⟨_,al _ (x.1 _ _ j),rfl⟩,fun s' _ _=>rfl,_,rv _ j,fun s' x _=>⟨_,rv _ (x.1 _ _ j),rfl⟩,fun cl cm bi _=>⟨_,kY iK (cR Y) (nH Y),aj.intro bi rfl fun bj FN ao=>⟨ao.ext,⟨(fun h=>by cases h),(fun h=>by cases h),(fun _=>⟨bj,rfl,ao.own⟩),(fun h=>by cases h)⟩,(fun h=>by rcases h with h | h <;> cases h)⟩⟩,⟨.bad,(fun h=>by rcases h with h | h <;> cases h)⟩,fun cn _=>⟨fun cp bk bl hS hc=>?_,⟨.nilFunc,fun _=>rfl⟩,fun Q ar=>⟨fun s' _ _=>rfl,fun aw a0 bm hS hC=>?_⟩⟩⟩⟩⟩
 ·obtain ⟨l,rfl,O⟩:=hS.1.1 rfl;obtain ⟨ga,gb⟩:=hc;obtain ⟨v',s',e1,M,J,_,n1⟩:=bg.append eF aE bL be ga (DM aE O.at) (by simp;omega) aR;have t1:=bg.tag ga;refine ⟨v',s',e1,⟨⟨fun l cs o=>o.mut J fun d=>?_,fun v g=>g.mut J (bg.HO aE (by decide) g ga (by simp)),J.mono fun y d=>List.mem_append_left _ d⟩,(fun _=>gb.mut J fun y d n=>?_),(fun h=>by cases h)⟩,⟨(fun h=>by cases h),(fun _=>⟨M,fun y d=>?_⟩),(fun h=>by cases h),(fun h=>by cases h)⟩,fun _=>bg.one M⟩
  ·have:=(t1 _ d).uniq (Own.tag o);omega
  ·have:=(t1 _ n).uniq (bg.tag gb y d);omega
  ·rcases n1 y d with h | h
   ·exact .inl (List.mem_append_left _ h)
   ·exact new bd.2.2 h
 ·obtain ⟨l,rfl,O⟩:=hS.2.2.1.2.2.1 rfl;have gb:=hc.1 rfl;obtain ⟨v',s',e1,M,J,_,n1⟩:=bg.append iK cR nH bl gb (DM cR O.at) (by simp;omega) dW;have t1:=bg.tag gb;refine ⟨v',s',e1,⟨⟨fun l cs o=>o.mut J fun d=>?_,fun v g=>g.mut J fun y d n=>?_,J.mono fun y d=>List.mem_append_right _ d⟩,(fun h=>by cases h),(fun _=>M)⟩,⟨(fun h=>by cases h),(fun h=>by cases h),(fun h=>by cases h),(fun _ y d=>?_)⟩,fun _=>bg.one M⟩
  ·have:=(t1 _ d).uniq (Own.tag o);omega
  ·have:=(t1 _ n).uniq (bg.tag g y d);omega
  ·rcases n1 y d with h | h
   ·exact .inl (List.mem_append_right _ h)
   ·exact new bk.2.2 h
 ·obtain ⟨_,⟨_,h8,_⟩,_,⟨_,_,_,bo⟩,_⟩:=hS;obtain ⟨bs,bx⟩:=h8 rfl;have b0:=bo rfl;have b4:=hC.2 rfl;have a5:=a0.1 _ _ j;refine cP (an (.inl rfl)) uo (bC.own bm a5 (by simp [C]) fun b5 R=>?_);have b6:Am.Own b5 p ((fU v' lg bh (.map (some sU))).set 18 I):=R.at;refine cP (ar (.inr rfl)) rH (bC.own R.wf b6 (by simp [C]) fun Tz a6=>⟨rfl,?_⟩);have b7:Am.Own Tz p (fU v' I Q (.map (some sU))):=by
   have:=a6.at;rw [fA,Sb A] at this;exact this
  have S:bB [p] aw Tz:=R.mut.trans a6.mut;have t64:∀ y∈[p],∀ g,Tag aw y g->g=0:=fun y d g t=>by
   obtain rfl:=List.mem_singleton.1 d;exact t.uniq (Own.tag a5)
  have MA:bB (p::(ax lg++ax bh)) s Tz:=((H.mono (by simp)).trans (a0.2.2.mono (fun y d=>List.mem_cons_of_mem _ d))).trans (S.mono (by simp));have tA:∀ y∈p::(ax lg++ax bh),∀ g,Tag s y g->g=0\/g=21\/g=16:=fun y d g t=>by
   rcases List.mem_cons.1 d with rfl | d
   ·exact .inl (t.uniq (Own.tag W))
   ·rcases List.mem_append.1 d with d | d
    ·exact .inr (.inl (t.uniq (bg.tag a1 y d)))
    ·exact .inr (.inr (t.uniq (bg.tag b1 y d)))
  have kE:∀ {X:List Nat} {x:gj},g_ X s x->g_ X Tz x:=fun n=>n.ek MA fun y d g t=>by rcases tA y d g t with h | h | h <;> omega
  have a7:∀ y,y∈ax lg++ax bh\/bQ.h y=none->y∈F\/s.h y=none:=fun y d=>by
   rcases d with d | d
   ·rcases List.mem_append.1 d with d | d
    ·exact .inl (a2 y d)
    ·exact .inl (b2 y d)
   ·right;cases w:s.h y with
    | none=>rfl
    | some o =>
     by_cases a8:y=p
     ·subst a8;rw [j] at d;cases d
     ·rw [H.1 y o (by simpa using a8) w] at d;cases d
  have b8:gx (ax I++(ax Q++(F++G))) Tz p (c.apply m.ev):=by
   refine ⟨by simp [dX.apply,D],I,Q,sU,L++[m],B++[Y],es,k,?_,by simp [h2],by simp [h3],⟨bg.ek bs S fun y d g t=>by rw [t64 y d g t];decide,fun y d=>by simp [d],by simp [dX.apply,a3],fun x n=>?_⟩,⟨bg.ek b4 S fun y d g t=>by rw [t64 y d g t];decide,fun y d=>by simp [d],?_⟩,c1.mut MA ?_,c2,c3,fun e he=>(kE (c4 e he)).sub fun y d=>by simp [d]⟩
   ·simp only [dX.apply,hi,pY];exact b7
   ·rcases List.mem_append.1 n with n | n
    ·exact (kE (a4 x n)).sub fun y d=>by simp [d]
    ·obtain rfl:=List.mem_singleton.1 n;exact (kE hm).sub fun y d=>by simp [d]
   ·simp only [dX.apply,hi,pY,List.map_append,b3];rfl
   ·intro d;have:∀ g,¬ Tag s sU g:=fun g ⟨cs,t⟩=>by rw [c1.obj] at t;cases t
    rcases List.mem_cons.1 d with rfl | d
    ·exact this _ (Own.tag W)
    ·rcases List.mem_append.1 d with d | d
     ·exact this _ (bg.tag a1 _ d)
     ·exact this _ (bg.tag b1 _ d)
  obtain ⟨F0,b9,a9,b'⟩:=b8.tight;refine ⟨F0,b9,MA.mono fun y d=>?_,fun y d=>?_,b',fun l cs g D ca cb g0=>MA.1 l _ (fun hm=>?_) D⟩
  rotate_right
  ·rcases List.mem_cons.1 hm with rfl | hm
   ·exact g0 (Tag.uniq ⟨cs,D⟩ (Own.tag W)) rfl
   ·rcases List.mem_append.1 hm with hm | hm
    ·exact ca (Tag.uniq ⟨cs,D⟩ (bg.tag a1 _ hm))
    ·exact cb (Tag.uniq ⟨cs,D⟩ (bg.tag b1 _ hm))
  ·rcases List.mem_cons.1 d with rfl | d
   ·exact h2
   ·rcases List.mem_append.1 d with d | d
    ·exact a2 y d
    ·exact b2 y d
  ·have:=a9 y d;simp only [List.mem_append] at this;rcases this with h | h | h | h
   ·rcases a7 y (bx y h) with h | h
    ·exact .inl h
    ·exact .inr (.inr h)
   ·rcases a7 y (b0 y h) with h | h
    ·exact .inl h
    ·exact .inr (.inr h)
   ·exact .inl h
   ·exact .inr (.inl h)
end
section
open Go.Am Go.aq Go.aB Go.bq
theorem Ui {v:List Int} (h:v.length=16):∃ a b c d e f g i j k l m n o p q:Int,v=[a,b,c,d,e,f,g,i,j,k,l,m,n,o,p,q]:=by
 match v,h with
 | [a,b,c,d,e,f,g,i,j,k,l,m,n,o,p,q],_=>exact ⟨a,b,c,d,e,f,g,i,j,k,l,m,n,o,p,q,rfl⟩
theorem NV {id:aO} {dQ:List UInt8} {pv tv:AV} {gR:List Int} (x:gR.length=16) (y:pv.one=true) (h2:tv.one=true):aY T gN [(0,.agg (aP id)),(1,.str dQ),(2,pv),(3,.agg (gR.map (.int .u64))),(4,tv)]=some (.agg ([.int .i64 id.r,.int .u64 id.c,.str dQ,pv]++(gR.map (.int .u64)++[tv]))):=by
 obtain ⟨a,b,c,d,e,f,g,i,j,k,l,m,n,o,p,q,rfl⟩:=Ui x;have e1:∀ v:AV,v.one=true->bN v=some [v]:=fun v hv=>by cases v <;> first | rfl | cases hv
 rw [qV (pl:=[(0,2),(2,1),(3,1),(4,16),(20,1)]) (by kernel_rfl) GR rfl];have z:bN (.agg (aP id))=some [.int .i64 id.r,.int .u64 id.c]:=rfl;have A:bN (.str dQ)=some [.str dQ]:=rfl;have w:bN (.agg ([a,b,c,d,e,f,g,i,j,k,l,m,n,o,p,q].map (AV.int .u64)))=some ([a,b,c,d,e,f,g,i,j,k,l,m,n,o,p,q].map (AV.int .u64)):=rfl;simp only [List.map_cons,List.map_nil] at w ⊢;simp only [jQ,AV.cells,e1 _ y,e1 _ h2,z,A,w,List.getElem?_cons_zero,List.getElem?_cons_succ,List.length_cons,List.length_nil,List.length_map,Nat.zero_add,Nat.reduceAdd,Nat.reduceLeDiff,and_self,if_true,qQ,List.set_cons_zero,List.set_cons_succ,List.map_cons,List.map_nil,Option.map_some,List.cons_append,List.nil_append]
def JL:List AV:=[.int .i64 0,.int .u64 0,.str [],.slc none 0 0 true,.int .u64 0,.int .u64 0,.int .u64 0,.int .u64 0,.int .u64 0,.int .u64 0,.int .u64 0,.int .u64 0,.int .u64 0,.int .u64 0,.int .u64 0,.int .u64 0,.int .u64 0,.int .u64 0,.int .u64 0,.int .u64 0,.slc none 0 0 true]
theorem JM:aY T gN []=some (.agg JL):=by kernel_rfl
theorem HQ {s4 s7:AS} {l1:Nat} {g C:List AV} (c:g.length=21) (d:C.length=21) (P:We s4 s7 l1 (.cells (qQ C 0 g) 0 false)):Am.Own s7 l1 g/\aD s7 l1 0 21=some g:=by
 have b:=P.at;rw [dZ (by omega)] at b;exact ⟨b,by rw [At.aD ⟨_,_,b⟩ (by omega),List.drop_zero,List.take_of_length_le (by omega)]⟩
def PM (c:dX) (dQ:List UInt8) (tW:List Int) (to:List DG):Ev:=⟨⟨1,IntKind.wrap .u64 (c.v.getD 0 0+1)⟩,dQ,tW,c.v,to⟩
set_option maxRecDepth 20000 in
theorem PN {F:List Nat} {s:AS} {p:Nat} {c:dX} (h:gx F s p c) (a3:∀ y∈F,s.h y≠none) {dQ:List UInt8} {pv tv:AV} {tW:List Int} {to:List DG} (gp:bg qv 1 s pv tW) (gt:bg qM 3 s tv to) (a4:0<=c.v.getD 0 0/\c.v.getD 0 0<4611686018427387904) (hn:c.log.length+1<=2 ^ 29) (a5:c.JI.length+1<=2 ^ 29) :
  aa Tryz.prog bM [.ptr (some (p,0)),.str dQ,pv,tv] s fun r s' =>
   (fN (PM c dQ tW to)=false/\(∃ g,r=.aQ [.agg g,.int .i64 2]/\g.all AV.one=true/\g.length=21)/\Ext s s') \/
   (fN (PM c dQ tW to)=true/\(∃ g,r=.aQ [.agg g,.int .i64 0]/\g.all AV.one=true/\g.length=21)/\∃ F',gx F' s' p (c.apply (PM c dQ tW to))/\bB F s s'/\(∀ y∈F',y∈F\/s.h y=none)/\(∀ y∈F',s'.h y≠none)/\yx p s s'):=by
 have hp:=gp.sl cg;have ht:=gt.sl eE;have h1:=hp.one;have h2:=ht.one;refine aa.pre fun hw=>wD _ _ _ _ _ _ (aj.intro hw rfl fun l1 s2 A=>?_);have o2:Am.Own s2 l1 JL:=A.own;refine aa.use (uP (h.ext A.ext)) ?_;rintro v3 s4 ⟨rfl,rfl⟩ w4;obtain ⟨X,lg,bh,sU,L,B,es,k,I,_⟩:=id (h.ext A.ext);have a6:=nI X lg bh (.map (some sU))
 let m:gj:=⟨PM c dQ tW to,pv,tv,X,h1,h2⟩
 have ev:=aE m;have hx:ag T aX (.ptr (some (p,0+2))) (.int .i64 (IntKind.wrap .i64 (1 - 1)))=some (.ptr (some (p,2+0))):=by
  rw [a_ (by omega),M_ (by omega)];rfl
 refine ⟨_,rfl,af.no rfl ⟨fun q _ v s'=>q=24->∃ l,v=.ptr (some (l,0))/\Am.Own s' l JL/\s4.h l=none,fun q _ v=>q=24->∃ l,v=.ptr (some (l,0)),fun q _ v a b e g hq=>by obtain ⟨l,x,y,z⟩:=g hq;exact ⟨l,x,y.ext e,z⟩,1,by rw [I.at.ak];rfl,1,by rw [I.at.ak];rfl,_,_,hx,_,by rw [I.at.ak,rW X lg bh _ (by omega)],_,vR _ _,_,I.at.aD (by rw [a6];omega),?_⟩⟩;rw [Cn X];refine ⟨_,NV X h1 h2,fun en a7 a8 _=>aj.intro a8 rfl fun Y bo R=>⟨R.ext,(fun _=>⟨Y,rfl,R.own,a7.none R.no⟩),(fun _=>⟨Y,rfl⟩)⟩,⟨.ptr (some (0,0)),fun _=>⟨0,rfl⟩⟩,fun bs Z=>?_⟩;obtain ⟨l,rfl⟩:=Z rfl;refine ⟨_,rfl,fun bx ab a9 hS=>?_⟩;obtain ⟨l',ad,a',J⟩:=hS.1 rfl;simp only [AV.ptr.injEq,Option.some.injEq,Prod.mk.injEq,and_true] at ad;subst ad;refine ⟨⟨bL m,congrArg some ev.symm⟩,bC.own a9 a' (vs:=ep m) (by rw [ev];exact Nat.le_refl _) fun lC S=>?_⟩;have U:Am.Own lC l (ep m):=by
  have:=S.at;rw [dZ (by rw [show JL.length=21 from rfl];exact ev)] at this;exact this
 have C:Ext s lC:=Ext.wr (A.ext.trans ab) (A.ext.none J) S.mut;have d1:l1≠l:=fun e=>by rw [<- e,o2] at J;cases J
 have K:Am.Own lC l1 JL:=(o2.ext ab).mut S.mut (by simpa using d1);have ae:IntKind.wrap .u64 (c.v.getD 0 0+1)=c.v.getD 0 0+1:=gi (by omega);refine ⟨IntKind.wrap .u64 (c.v.getD 0 0+1),by rw [U.at.ak];rfl,fun vs s'=>s'=lC,?_,af.no (by rw [decide_eq_false_iff_not,ae];omega) rfl⟩;rintro ba rfl;refine ⟨_,U.at.aD (by omega),?_⟩;rw [dI];have hE:rV ba m:=⟨hp.ext C,ht.ext C⟩;have hC:=h.ext C;refine aa.use (Uh hC hE) ?_;rintro b0 b1 ⟨rfl,d⟩ bb;refine ⟨_,rfl,af.mk (fun hb=>⟨_,JM,?_⟩) (fun hb=>af.no (by rw [decide_eq_false_iff_not,ae];omega) ?_)⟩
 ·have bc:fN (PM c dQ tW to)=false:=by simpa using hb
  refine ⟨⟨rfl,rfl⟩,bC.own bb (K.ext d) (Nat.le_refl _) fun s7 P=>⟨JL,(HQ rfl rfl P).2,.inl ⟨bc,⟨_,rfl,rfl,rfl⟩,Ext.wr (C.trans d) A.no P.mut⟩⟩⟩
 have al:fN (PM c dQ tW to)=true:=by simpa using hb
 have n:=al;simp only [fN,si,Bool.and_eq_true,decide_eq_true_eq] at n;have bd:m.ev.id.may=true:=n.1.1.1.1.1.1.1.1;have b2:m.ev.tW.length<=512:=n.1.1.1.1.2;have b3:m.ev.to.length<=1024:=n.1.1.1.2;have am:=C.trans d;have an:=U.ext d;refine ⟨_,an.at.aD (by omega),?_⟩;rw [dI];refine aa.use (uO (hE.ext d) (by omega) (by omega)) ?_;rintro b4 b5 ⟨m',G,ao,rfl,gE,nG,tG,M⟩ b6;have j:=am.trans M;refine ⟨_,rfl,?_⟩;refine aa.use (HP (h.ext j) gE (by rw [ao];exact bd) hn a5) ?_;rintro b7 O ⟨rfl,F',ar,Q,D,aw,W⟩ b8;rw [ao] at ar;have nF:∀ y,s.h y=none->y ∉ F:=fun y hn i=>a3 y i hn;have a0:s.h l=none:=A.ext.none J;have be:Am.Own O l (ep m):=(an.ext M).mut Q (nF _ a0);have bi:Am.Own O l1 JL:=((K.ext d).ext M).mut Q (nF _ A.no);have a1:rV O m:=⟨(bg.QK (gp.ext j) W (by decide) (by decide) (by decide)).sl cg,(bg.QK (gt.ext j) W (by decide) (by decide) (by decide)).sl eE⟩;refine ⟨rfl,_,be.at.aD (by omega),?_⟩;rw [dI];refine aa.use (uO a1 (by omega) (by omega)) ?_;rintro b9 b' ⟨m2,G2,ca,rfl,cb,cc,cd,w⟩ bj;refine ⟨_,rfl,⟨bL m2,by rw [aE]⟩,bC.own bj (bi.ext w) (by rw [aE];exact Nat.le_refl _) fun s7 P=>?_⟩;obtain ⟨_,bk⟩:=HQ (aE m2) rfl P;have a2:l1 ∉ F':=fun i=>by
  rcases D l1 i with h | h | h
  ·exact nF _ A.no h
  ·have:=nG l1 h;rw [K.ext d] at this;cases this
  ·rw [(K.ext d).ext M] at h;cases h
 refine ⟨_,bk,.inr ⟨al,⟨_,rfl,bL m2,aE m2⟩,F',(ar.ext w).mut P.mut (fun y i=>by obtain rfl:=List.mem_singleton.1 i;exact a2),?_,?_,?_,fun y cs g i bl bm h0=>?_⟩⟩
 ·refine ⟨fun y o i ho=>?_,Nat.le_trans j.2 (Nat.le_trans Q.2 (Nat.le_trans w.2 (by rw [P.nl];exact Nat.le_refl _)))⟩;have H:y≠l1:=fun e=>by rw [e,A.no] at ho;cases ho
  rw [P.eq y H];exact w.1 _ _ (Q.1 y o i (j.1 _ _ ho))
 ·intro y i;rcases D y i with h | h | h
  ·exact .inl h
  ·exact .inr (am.none (nG y h))
  ·exact .inr (j.none h)
 ·intro y i;have H:y≠l1:=fun e=>a2 (e ▸ i);rw [P.eq y H];cases hq:O.h y with
  | none=>exact absurd hq (aw y i)
  | some ob=>rw [w.1 y ob hq];simp
 ·have H:y≠l1:=fun e=>by rw [e,A.no] at i;cases i
  rw [P.eq y H];exact w.1 _ _ (W y cs g (j.1 _ _ i) bl bm h0)
end
section
open Go.Am Go.aq Go.aB Go.bq
theorem XD {F:List Nat} {s:AS} {p:Nat} {c:dX} (h:gx F s p c) (hb:c.JI.length=c.log.length) {i:Nat} (hi:i<c.log.length) (hp:∀ e∈c.log,e.tW.length<=2 ^ 30/\e.to.length<=2 ^ 30) (ba:i<=2 ^ 40) :
  aa Tryz.prog oE [.ptr (some (p,0)),.int .i64 (i:Nat)] s fun r s'=>∃ (m:gj) (v:HN) (G:List Nat),c.log[i]? = some m.ev/\c.JI[i]? = some v.v/\r=.aQ [.agg (ep m),.agg (rZ v),.bool true]/\g_ G s' m/\(∀ y∈G,s.h y=none)/\(∀ y∈G,s'.h y≠none)/\Ext s s':=by
 refine aa.pre fun hw=>C9 _ _ _ _ (aj.intro hw rfl fun l1 s2 C=>aj.intro C.wf rfl fun l3 s4 J=>?_);have e4:=C.ext.trans J.ext;have o1:Am.Own s4 l1 JL:=C.own.ext J.ext;have o3:Am.Own s4 l3 (dx.map (.int .u64)):=J.own;have d13:l1≠l3:=fun e=>by
  have:=J.no;rw [<- e,C.own] at this;cases this
 obtain ⟨hl,lg,bh,sU,L,B,es,k,h1,h2,h3,⟨a1,a2,a3,a4⟩,⟨b1,b2,b3⟩,c1,c2,c3,c4⟩:=id (h.ext e4);have hs:=nJ hl lg bh (.map (some sU));have bb:L.length=c.log.length:=by rw [<- a3,List.length_map]
 have bc:B.length=c.JI.length:=by rw [<- b3,List.length_map]
 have al:l1≠p:=fun e=>by
  obtain ⟨_,_,_,_,_,_,_,_,am,_⟩:=h;have:=C.no;rw [e,am] at this;cases this
 refine ⟨fun vs s'=>vs=[.bool false]/\s'=s4,?_,?_⟩
 ·rintro b s7 ⟨an,rfl⟩;obtain rfl:b=false:=by simpa using an
  obtain ⟨m,hm⟩:=cF (l:=L) (i:=i) (by omega);obtain ⟨v,hv⟩:=cF (l:=B) (i:=i) (by omega);have j:c.log[i]? = some m.ev:=by rw [<- a3,List.getElem?_map,hm];rfl
  have K:c.JI[i]? = some v.v:=by rw [<- b3,List.getElem?_map,hv];rfl
  have ta:=bg.tag a1;have tb:=bg.tag b1;have key:∀ s',bB [l1] s7 s'->Am.Own s' p (fU c.v lg bh (.map (some sU)))/\bg ep 21 s' lg L/\bg rZ 16 s' bh B/\rV s' m:=fun s' x=>by
   have t0:∀ y∈[l1],∀ g,Tag s7 y g->g=0:=fun y d g t=>by
    obtain rfl:=List.mem_singleton.1 d;exact t.uniq (Own.tag o1)
   refine ⟨h1.mut x (by simpa using Ne.symm al),bg.ek a1 x fun y d g t=>by rw [t0 y d g t];decide,bg.ek b1 x fun y d g t=>by rw [t0 y d g t];decide,g_.at ((a4 m (List.mem_of_getElem? hm)).ek x fun y d g t=>by rw [t0 y d g t];decide)⟩
  have M0:bB [l1] s7 s7:=bB.refl _ _;obtain ⟨la,oa,k8,k9⟩:=(a1.sl aE).ix (by decide) aE aR fB hm;obtain ⟨lb,ob,m8,m9⟩:=(b1.sl cR).ix (by decide) cR dW uq hv;have M:∀ s',bB [l1] s7 s'->aD s' la oa 21=some (ep m):=fun s' x=>by
   obtain ⟨ao,ar,D,H⟩:=((key s' x).2.1.sl aE).ix (by decide) aE aR fB hm;have:=(k8 .i64).symm.trans (D .i64);simp only [Option.some.injEq,AV.ptr.injEq,Prod.mk.injEq] at this;rw [this.1,this.2];exact (H _ (Ext.refl _)).2
  have O:∀ s',bB [l1] s7 s'->aD s' lb ob 16=some (rZ v):=fun s' x=>by
   obtain ⟨ao,ar,D,H⟩:=((key s' x).2.2.1.sl cR).ix (by decide) cR dW uq hv;have:=(m8 .i64).symm.trans (D .i64);simp only [Option.some.injEq,AV.ptr.injEq,Prod.mk.injEq] at this;rw [this.1,this.2];exact (H _ (Ext.refl _)).2
  have Q:∀ s',bB [l1] s7 s'->ak s' p (0+18)=some lg:=fun s' x=>by rw [(key s' x).1.at.ak];exact hs.1
  have R:∀ s',bB [l1] s7 s'->ak s' p (0+19)=some bh:=fun s' x=>by rw [(key s' x).1.at.ak];exact hs.2.1
  have S:=hp m.ev (List.mem_of_getElem? j);refine af.no rfl ⟨fun a b=>bB [l1] a b/\(a.h l1≠none->b.h l1≠none),fun q ks _ s'=>q=15->∃ g cs,ks=[.ptr (some (l1,0)),.agg g]/\Am.Own s' l1 cs/\cs=g,fun s'=>∃ cs,Am.Own s' l1 cs/\cs.length=21/\l1≠l3,fun q _ v s'=>q=7->∃ m' G,v=.agg (ep m')/\g_ G s' m'/\(∀ y∈G,s7.h y=none)/\m'.ev=m.ev,fun q _ v=>(q=7->∃ m',v=.agg (ep m'))/\(q=15->v=.aQ []),fun a b e=>⟨e.mut,fun hn=>by cases A:a.h l1 with | none=>exact absurd A hn | some o=>rw [e.1 _ _ A];simp⟩,fun a b c x y=>⟨x.1.trans y.1,fun hn=>y.2 (x.2 hn)⟩,fun q ks v a b e g A=>by obtain ⟨g',cs,x,y,z⟩:=g A;exact ⟨g',cs,x,y.ext e,z⟩,fun q _ v a b x g A=>?_,fun a b e g=>by obtain ⟨cs,x,y⟩:=g;exact ⟨cs,x.ext e,y⟩,⟨_,o1,rfl,d13⟩,?_⟩
  ·obtain ⟨m',G,e1,e2,e3,e5⟩:=g A;refine ⟨m',G,e1,e2.mut x.1 fun y d hG=>?_,e3,e5⟩;obtain rfl:=List.mem_singleton.1 d;have:=e3 y hG;rw [o1] at this;cases this
  refine ⟨fun s' _ _=>rfl,_,Q _ M0,fun s' x _=>⟨_,Q _ x.1,rfl⟩,la,oa,k8 _,_,M _ M0,fun s' x _=>⟨_,M _ x.1,rfl⟩,fun aw I bd _=>?_,⟨.agg (ep m),(fun _=>⟨m,rfl⟩),(fun h=>by cases h)⟩,fun be U=>?_⟩
  ·refine (uO (key aw I.1).2.2.2 S.1 S.2).mono ?_;rintro w s' ⟨m',G,a0,rfl,gE,nG,tG,e⟩;refine ⟨_,rfl,e,(fun _=>⟨m',G,rfl,gE,fun y d=>?_,a0⟩),(fun _=>⟨m',rfl⟩),(fun h=>by cases h)⟩;have:=nG y d;cases A:s7.h y with
   | none=>rfl
   | some o =>
    by_cases W:y=l1
    ·subst W;exact absurd this (I.2 (by rw [o1];simp))
    ·rw [I.1.1 y o (by simpa using W) A] at this;cases this
  obtain ⟨m',rfl⟩:=U.1 rfl;refine ⟨_,rfl,fun s' _ _=>rfl,_,R _ M0,fun s' x _=>⟨_,R _ x.1,rfl⟩,lb,ob,m8 _,_,O _ M0,fun s' x _=>⟨_,O _ x.1,rfl⟩,fun uw bi a5 _ hc=>?_,⟨.aQ [],(fun h=>by cases h),(fun _=>rfl)⟩,fun bj X=>?_⟩
  ·obtain ⟨cs,oc,a6,_⟩:=hc;refine ⟨⟨bL m',by rw [aE]⟩,bC.own a5 oc (by rw [aE];omega) fun bk P=>?_⟩;obtain ⟨ho,_⟩:=HQ (aE m') a6 P;exact ⟨⟨⟨P.mut,fun _=>by rw [ho];simp⟩,(fun _=>⟨_,_,rfl,ho,rfl⟩)⟩,(fun h=>by cases h),(fun h=>by cases h),(fun _=>rfl)⟩
  ·refine ⟨X.2 rfl,fun rI Y a7 hS hC=>?_⟩;obtain ⟨m2,G,e1,gE,nG,a8⟩:=hS.1 rfl;obtain ⟨g',cs,hk,oc,rfl⟩:=hC rfl;simp only [List.cons.injEq,AV.agg.injEq,true_and,and_true] at hk e1;subst hk;have a9:=o3.mut Y.1 (by simpa using Ne.symm d13);have n3:l3 ∉ G:=fun d=>by
    have:=nG _ d;rw [o3] at this;cases this
   refine ⟨⟨nH v,by rw [cR]⟩,bC.own a7 a9 (by rw [cR];simp [dx]) fun a' P=>?_⟩;have hP:=P.at;rw [dZ (by rw [cR];simp [dx])] at hP;have Z:=oc.mut P.mut (by simpa using d13);have ab:=gE.mut P.mut (fun y d hG=>by obtain rfl:=List.mem_singleton.1 d;exact n3 hG);have ad:g_ (LB m2) a' m2:=⟨ab.1,ab.2.1,fun y d=>List.mem_append.2 d⟩;have ae:=Z.at.aD (o:=0) (n:=21) (by rw [aE];omega);rw [dI] at ae;refine ⟨_,ae,_,by rw [At.aD ⟨_,_,hP⟩ (by rw [cR];omega),List.drop_zero,List.take_of_length_le (by rw [cR];omega)],m2,v,LB m2,by rw [a8];exact j,K,by rw [e1],ad,fun y d=>e4.none (nG y (gE.2.2 y (List.mem_append.1 d))),ad.LB,?_⟩
   ·exact Ext.wr (Ext.Vr e4 (fun y d=>by obtain rfl:=List.mem_singleton.1 d;exact C.no) Y.1) (C.ext.none J.no) P.mut
 ·refine aa.use (uP (h.ext e4)) ?_;rintro wm bl ⟨rfl,rfl⟩ bm;refine ⟨_,rfl,af.no rfl (af.no (by rw [decide_eq_false_iff_not];omega) ⟨lg,by rw [h1.at.ak];exact hs.1,_,(a1.sl aE).b_ aR _,?_,rfl⟩)⟩;rw [show decide ((i:Int)>=(L.length:Int))=false by rw [decide_eq_false_iff_not];omega]
theorem Sd {s:AS} {m c:Nat} {ro:Bool} {es:List (aO×gj×Nat)} (hm:eR dK Y4 s m es c ro):aa Tryz.prog fQ [.map (some m)] s fun v s'=>∃ m',v=.map (some m')/\Ext s s':=by
 refine (xq hT Tryz.func158 (tm:=cU) (ti:=tC) (tb:=wO) (cl:=vq) (by kernel_rfl) (by kernel_rfl) (by kernel_rfl) (by kernel_rfl) tH Tryz.func210 Lm Ln Ll Lk hm.obj).mono ?_;rintro v s' ⟨m',rfl,F⟩;exact ⟨m',rfl,F.ext⟩
theorem Uj {s:AS} {v:AV} {l:List gj} (h:Sl ep 21 s v l):aa Tryz.prog bw [v] s fun r s'=>r.one=true/\s'=s:=by
 obtain ⟨v',b,h2⟩:=h.head aE aR fB (i:=l.length) (Nat.le_refl _) .i64;exact qh _ _ _ ⟨_,h.b_ aR _,_,h.b_ aR _,_,b,h2.one,rfl⟩
theorem Uk {s:AS} {v:AV} {l:List HN} (h:Sl rZ 16 s v l):aa Tryz.prog bA [v] s fun r s'=>r.one=true/\s'=s:=by
 obtain ⟨v',b,h2⟩:=h.head cR dW uq (i:=l.length) (Nat.le_refl _) .i64;exact oO _ _ _ ⟨_,h.b_ dW _,_,h.b_ dW _,_,b,h2.one,rfl⟩
set_option maxRecDepth 20000 in
theorem Ul {F:List Nat} {s:AS} {p:Nat} {c:dX} (h:gx F s p c):aa Tryz.prog fY [.ptr (some (p,0))] s fun r s'=>(∃ q,r=.ptr (some q))/\Ext s s':=by
 refine zX _ _ _ ?_;refine aa.use (uP h) ?_;rintro v s2 ⟨rfl,rfl⟩ w2;obtain ⟨O,lg,bh,sU,L,B,es,k,l,h2,h3,⟨a1,a2,a3,a4⟩,⟨x,b2,b3⟩,R,_⟩:=id h;have b:=nI O lg bh (.map (some sU));have hs:=nJ O lg bh (.map (some sU));have m:(fU c.v lg bh (.map (some sU))).all AV.one=true:=by
  have S:=bg.one a1;have U:=bg.one x;rw [fU,List.all_append,List.all_append,cH];simp [S,U]
 refine ⟨_,rfl,af.no rfl ⟨_,by rw [l.at.aD (by omega),List.drop_zero,List.take_of_length_le (by omega)],jK w2 b rfl m fun Q s9 d=>?_⟩⟩;have y:=l.ext d.ext;refine ⟨fun _ _ _ _=>True,fun _ _ v=>v.one=true,fun _ _ _ _ _ _ h=>h,lg,by rw [y.at.ak];exact hs.1,fun bQ z W _=>?_,⟨_,bg.one a1⟩,fun nO n=>⟨bh,by rw [y.at.ak];exact hs.2.1,fun gw A X _=>?_,⟨_,bg.one x⟩,fun C o=>⟨_,by rw [y.at.ak];exact hs.2.2,fun Y e Z _=>?_⟩⟩⟩
 ·refine (Uj ((a1.ext (d.ext.trans z)).sl aE)).mono ?_;rintro v s' ⟨l,rfl⟩;exact ⟨Ext.refl _,trivial,l⟩
 ·refine (Uk ((x.ext (d.ext.trans A)).sl cR)).mono ?_;rintro v s' ⟨l,rfl⟩;exact ⟨Ext.refl _,trivial,l⟩
 ·refine aa.use (Sd (R.ext (d.ext.trans e))) ?_;rintro ab ad ⟨m',rfl,w⟩ D;have G:=(d.own.ext e).ext w;refine ⟨_,rfl,cP n uo (bC.own D G (by simp [b]) fun H i=>?_)⟩;have I:Am.Own H Q ((fU c.v lg bh (.map (some sU))).set 18 nO):=i.at;refine cP o rH (bC.own i.wf I (by simp [b]) fun J j=>?_);have K:Am.Own J Q (((fU c.v lg bh (.map (some sU))).set 18 nO).set 19 C):=j.at;refine bC.own j.wf K (by simp [b]) fun lC M=>⟨⟨_,rfl⟩,Ext.wr (Ext.wr (Ext.wr ((d.ext.trans e).trans w) d.no i.mut) d.no j.mut) d.no M.mut⟩
end
section
open Go.Am Go.aq Go.aB Go.bq
theorem QL (d:aO) (s:AS):aa Tryz.prog sA [.agg (aP d)] s fun v s'=>v=.bool d.may/\Ext s s':=by
 refine aa.pre fun b=>MC _ _ _ ⟨rfl,aj.intro b rfl fun l s1 F=>?_⟩;simp only [F.own.at.ak,aP,List.getElem?_cons_zero,List.getElem?_cons_succ,go_sem,gU,F.ext,and_true,aO.may]
 grind
theorem NW (t:List UInt8) (s:AS):aa Tryz.prog qx [.str t] s fun v s'=>v=.bool (aN t)/\s'=s:=by
 refine KL _ _ _ ⟨_,lH t s,af.dec (fun h=>⟨_,lH t s,?_,rfl⟩) (fun h=>⟨?_,rfl⟩)⟩
 ·congr 1;rw [aN,decide_eq_decide];omega
 ·congr 1;symm;rw [aN,decide_eq_false_iff_not];omega
theorem NX (a b:aO) (s:AS):aa Tryz.prog qy [.agg (aP a),.agg (aP b)] s fun v s'=>v=.bool (a.lt b)/\Ext s s':=by
 refine aa.pre fun d=>KO _ _ _ _ ⟨rfl,aj.intro d rfl fun l s1 F=>⟨rfl,aj.intro F.wf rfl fun i s2 c=>?_⟩⟩;have e:=F.ext.trans c.ext;simp only [(F.own.ext c.ext).at.ak,c.own.at.ak,aP,List.getElem?_cons_zero,List.getElem?_cons_succ,go_sem,gU,e,and_true,aO.lt]
 grind
def pJ (l:List Int) (i:Nat):Bool:=decide (l.getD i 0<=4611686018427387904)&&(decide (i<3)||decide (l.getD i 0=0))
theorem XE {l:List Int} (h:l.length=16):(List.range 16).all (pJ l)=(uM l&&(l.drop 3).all fun n=>decide (n=0)):=by
 obtain ⟨a,b,c,d,e,f,g,i,j,k,l,m,n,o,p,q,rfl⟩:=Ui h;rw [Bool.eq_iff_iff];simp [List.range,List.range.loop,pJ,uM]
 grind
structure Fm (hd:AV) (F:List Nat) (s:AS) (p:Nat) (v:List Int) (n:Nat):Prop where
 len:v.length=16
 mem:∃ (lg bh:AV) (L:List gj) (B:List HN),Am.Own s p (fU v lg bh hd)/\p∈F /\
  (bg ep 21 s lg L/\(∀ y∈ax lg,y∈F)/\L.length=n)/\(bg rZ 16 s bh B/\(∀ y∈ax bh,y∈F)/\B.length=n)
section
variable {hd:AV} {F F':List Nat} {s s':AS} {p n:Nat} {v:List Int}
theorem Fm.mut {L:List Nat} (h:Fm hd F s p v n) (m:bB L s s') (c:∀ y∈L,y ∉ F):Fm hd F s' p v n:=by
 obtain ⟨i,lg,bh,j,B,k,h2,⟨a1,a2,a3⟩,⟨l,e,o⟩⟩:=h;exact ⟨i,lg,bh,j,B,k.mut m (fun b=>c p b h2),h2,⟨a1.mut m (fun y d b=>c y b (a2 y d)),a2,a3⟩,⟨l.mut m (fun y d b=>c y b (e y d)),e,o⟩⟩
theorem Fm.ext (h:Fm hd F s p v n) (e:Ext s s'):Fm hd F s' p v n:=h.mut (L:=[]) e.mut (by simp)
set_option maxRecDepth 20000 in
theorem QM (h:Fm hd F s p v n) {m:gj} (hm:rV s m):aa Tryz.prog fX [.ptr (some (p,0)),.agg (ep m)] s fun r s'=>r=.bool (fN m.ev)/\Ext s s':=by
 refine aa.pre fun hw=>zR _ _ _ _ ⟨bL m,aj.intro hw rfl fun l1 s2 F2=>?_⟩;have c2:=F2.own.at;have ev:=aE m;refine ⟨_,c2.aD (by omega),?_⟩;rw [Ar];refine aa.use (QL _ _) ?_;rintro v4 s5 ⟨rfl,e5⟩ w5;have A:=c2.ext e5;have d:=F2.ext.trans e5;obtain ⟨hl,lg,bh,L',B,K,_⟩:=h.ext d;refine ⟨_,rfl,af.mk (fun hb=>⟨?_,d⟩) (fun hb=>⟨m.ev.id.r,by rw [A.ak];rfl,3,by rw [K.at.ak];rfl,af.dec (fun ab=>⟨?_,d⟩) (fun ab=>⟨m.ev.dQ,by rw [A.ak];rfl,?_⟩)⟩)⟩
 ·simp only [Bool.not_eq_true'] at hb;simp [fN,si,hb]
 ·simp [fN,show ¬ m.ev.id.r<=3 by omega]
 have L:m.ev.id.may=true:=by simpa using hb
 have ad:m.ev.id.r<=3:=by omega
 refine aa.use (NW _ _) ?_;rintro a7 bQ ⟨rfl,rfl⟩ ae;have j:=hm.ext d;refine ⟨_,rfl,af.mk (fun hb=>⟨?_,d⟩) (fun hb=>⟨m.pv,by rw [A.ak];rfl,_,j.1.b_ aT _,af.dec (fun M=>⟨?_,d⟩) (fun M=>⟨m.tv,by rw [A.ak,rU],_,j.2.b_ gh _,af.dec (fun C=>⟨?_,d⟩) (fun C=>⟨m.ev.id.r,by rw [A.ak];rfl,?_⟩)⟩)⟩)⟩
 ·have:aN m.ev.dQ=false:=by simpa using hb
  simp [fN,si,this]
 ·simp [fN,si,show ¬ m.ev.tW.length<=512 by omega]
 ·simp [fN,si,show ¬ m.ev.to.length<=1024 by omega]
 have hn:aN m.ev.dQ=true:=by simpa using hb
 obtain ⟨hr,O⟩:=qn L;dsimp only;rw [hr];have Z:ag T aX (.ptr (some (l1,4))) (.int .i64 ((m.ev.id.r.toNat - 1:Nat):Int))=some (.ptr (some (l1,4+(m.ev.id.r.toNat - 1)))):=by
  rw [M_ (by omega)];simp
 refine ⟨_,_,Z,_,by rw [A.ak,uN m O],m.ev.id.c,by rw [A.ak];rfl,af.mk (fun hb=>⟨?_,d⟩) (fun hb=>?_)⟩
 ·have:tU m.ev=false:=decide_eq_false (bne_iff_ne.1 hb);simp [fN,si,this]
 have hp:tU m.ev=true:=decide_eq_true (by rw [bne_eq_false_iff_eq] at hb;exact hb);have Q:fN m.ev=((List.range 16).all (pJ m.ev.gR)&&yw m.ev.to):=by
  rw [XE m.len];simp only [fN,si,L,hp,hn,ad,show m.ev.tW.length<=512 by omega,show m.ev.to.length<=1024 by omega,decide_true,Bool.true_and,Bool.and_true];cases uM m.ev.gR <;> cases yw m.ev.to <;> simp
 rw [Q];refine ⟨fun vs s'=>vs=[]/\Ext bQ s'/\aJ s'/\(List.range 16).all (pJ m.ev.gR)=true,?_,?_⟩
 ·rintro en ⟨_,al,am,R⟩;rw [R,Bool.true_and];refine ⟨fun m' vs s'=>∃ i:Nat,vs=[.int .i64 (i:Nat)]/\i<=m.ev.to.length/\m'=m.ev.to.length - i/\Ext bQ s'/\aJ s'/\(List.range i).all (vY m.ev.to)=true,m.ev.to.length,⟨0,rfl,by omega,rfl,al,am,rfl⟩,?_⟩;rintro m' a8 a9 ⟨i,hi,h6,rfl,x,a',z⟩;simp only [List.cons.injEq,AV.int.injEq,true_and,and_true] at hi;subst hi;have S:=A.ext x;refine ⟨m.tv,by rw [S.ak,rU],_,(j.2.ext x).b_ gh _,af.dec (fun an=>?_) (fun ao=>?_)⟩
  ·obtain ⟨y,U⟩:=cF (l:=m.ev.to) (i:=i) (by omega);obtain ⟨la,o,h8,h9⟩:=j.2.ix (by decide) eE gh C2 U;refine ⟨m.tv,by rw [S.ak,rU],la,o,h8 _,aP y.dot,lP (h9 _ x).2 (by omega),?_⟩;have next:∀ {s':AS},Ext bQ s'->aJ s'->vY m.ev.to i=true->∃ m',m'<m.ev.to.length - i/\∃ k:Nat,[AV.int .i64 (IntKind.wrap .i64 ((i:Int)+1))]=[.int .i64 (k:Nat)]/\k<=m.ev.to.length/\m'=m.ev.to.length - k/\Ext bQ s'/\aJ s'/\(List.range k).all (vY m.ev.to)=true:=fun e w ht=>by
    refine ⟨m.ev.to.length - (i+1),by omega,i+1,by rw [uJ (by omega)],by omega,rfl,e,w,?_⟩;rw [List.range_succ,List.all_append,z];simp [ht]
   have bad:vY m.ev.to i=false->yw m.ev.to=false:=fun D=>by
    rw [yw,List.all_eq_false];exact ⟨i,by simp;omega,by simp [D]⟩
   refine aa.use (QL _ _) ?_;rintro ba ar ⟨rfl,aw⟩ bb;have b:=x.trans aw;have G:=A.ext b;have W:ak ar la (o+2)=some (.str y.dev):=by rw [(h9 _ b).1 2 (by omega)];rfl
   refine ⟨_,rfl,af.mk (fun K=>⟨by rw [bad (by simpa [vY,U] using fun h=>by simp [h] at K)],d.trans b⟩) (fun K=>⟨m.tv,by rw [G.ak,rU],la,o,h8 _,y.dev,W,?_⟩)⟩;have H:y.dot.may=true:=by simpa using K
   refine aa.use (NW _ _) ?_;rintro bc bd ⟨rfl,rfl⟩ a0;refine ⟨_,rfl,af.mk (fun h2=>⟨by rw [bad (by simp only [Bool.not_eq_true'] at h2;simp [vY,U,H,h2])],d.trans b⟩) (fun h2=>af.dec (fun a5=>?_) (fun hz=>?_))⟩
   ·have I:aN y.dev=true:=by simpa using h2
    have a1:i≠0:=by omega
    obtain ⟨u,hu⟩:=cF (l:=m.ev.to) (i:=i - 1) (by omega);obtain ⟨lu,ou,k8,k9⟩:=j.2.ix (by decide) eE gh C2 hu;have a2:IntKind.wrap .i64 ((i:Int) - 1)=((i - 1:Nat):Int):=by rw [a_ (by omega)];omega
    rw [a2];refine ⟨m.tv,by rw [G.ak,rU],lu,ou,k8 _,aP u.dot,lP (k9 _ b).2 (by omega),m.tv,by rw [G.ak,rU],la,o,h8 _,aP y.dot,lP (h9 _ b).2 (by omega),?_⟩;refine aa.use (NX _ _ _) ?_;rintro be bi ⟨rfl,X⟩ a3;have ht:vY m.ev.to i=u.dot.lt y.dot:=by simp [vY,U,H,I,a1,hu]
    refine ⟨_,rfl,af.mk (fun h3=>⟨by rw [bad (by rw [ht];simpa using h3)],d.trans (b.trans X)⟩) (fun h3=>next (b.trans X) a3 (by rw [ht];simpa using h3))⟩
   ·have I:aN y.dev=true:=by simpa using h2
    obtain rfl:i=0:=by omega
    exact next b a0 (by simp [vY,U,H,I])
  ·obtain rfl:i=m.ev.to.length:=by omega
   exact ⟨by rw [yw,z],d.trans x⟩
 ·refine ⟨fun m' vs s'=>∃ i:Nat,vs=[.int .i64 (i:Nat)]/\i<=16/\m'=16 - i/\s'=bQ/\(List.range i).all (pJ m.ev.gR)=true,16,⟨0,rfl,by omega,rfl,rfl,rfl⟩,?_⟩;rintro m' bj J ⟨i,hi,h6,rfl,rfl,z⟩;simp only [List.cons.injEq,AV.int.injEq,true_and,and_true] at hi;subst hi;refine af.dec (fun an=>?_) (fun ao=>?_)
  ·have Z:ag T aX (.ptr (some (l1,4))) (.int .i64 (i:Nat))=some (.ptr (some (l1,4+i))):=by
    rw [M_ (by omega)];simp
   have Y:ak J l1 (4+i)=some (.int .u64 (m.ev.gR.getD i 0)):=by rw [A.ak,uN m (by omega)]
   have next:pJ m.ev.gR i=true->∃ m',m'<16 - i/\∃ k:Nat,[AV.int .i64 (IntKind.wrap .i64 ((i:Int)+1))]=[.int .i64 (k:Nat)]/\k<=16/\m'=16 - k/\J=J/\(List.range k).all (pJ m.ev.gR)=true:=fun ht=>by
    refine ⟨16 - (i+1),by omega,i+1,by rw [uJ (by omega)],by omega,rfl,rfl,?_⟩;rw [List.range_succ,List.all_append,z];simp [ht]
   have bad:pJ m.ev.gR i=false->(List.range 16).all (pJ m.ev.gR)=false:=fun D=>by
    rw [List.all_eq_false];exact ⟨i,by simp;omega,by simp [D]⟩
   refine ⟨_,_,Z,_,Y,af.dec (fun a6=>⟨by rw [bad (by rw [pJ,decide_eq_false (by omega)];rfl)];simp,d⟩) (fun bk=>⟨3,by rw [K.at.ak];rfl,af.dec (fun h3=>⟨_,_,Z,_,Y,af.mk (fun a4=>⟨?_,d⟩) (fun he=>next ?_)⟩) (fun h3=>next ?_)⟩)⟩
   ·rw [bad (by rw [pJ,decide_eq_false (show ¬ i<3 by omega),decide_eq_false (bne_iff_ne.1 a4)];simp)];simp
   ·rw [bne_eq_false_iff_eq] at he;rw [pJ,he];simp
   ·rw [pJ,decide_eq_true (show i<3 by omega),decide_eq_true (show m.ev.gR.getD i 0<=4611686018427387904 by omega)];rfl
  ·obtain rfl:i=16:=by omega
   exact ⟨rfl,Ext.refl _,ae,z⟩
end
end
section
open Go.Am Go.aq Go.aB Go.bq
theorem Um {v:List Int} (h:v.length=16) (lg bh hd b:AV):(fU v lg bh hd).set 18 b=fU v b bh hd:=by
 simp [fU,List.set_append,h]
theorem Un {v:List Int} (h:v.length=16) (lg bh hd b:AV):(fU v lg bh hd).set 19 b=fU v lg b hd:=by
 simp [fU,List.set_append,h]
section
variable {hd:AV} {F:List Nat} {s:AS} {p n:Nat} {v:List Int}
theorem qo {L:List Nat} {s s':AS} {y:Nat} (d:bB L s s') (b:s'.h y=none):y∈L\/s.h y=none:=by
 by_cases c:y∈L
 ·exact .inl c
 ·right;cases e:s.h y with
  | none=>rfl
  | some o=>rw [d.1 y o c e] at b;cases b
set_option maxRecDepth 20000 in
theorem DN {m:gj} (h:Fm hd F s p v n) (a7:m.ev.id.may=true) (hn:n+1<=2 ^ 29) :
  aa Tryz.prog ff [.ptr (some (p,0)),.agg (ep m)] s fun r s'=>r=.aQ []/\∃ F',Fm hd F' s' p (v.set (m.ev.id.r.toNat - 1) (IntKind.wrap .u64 (v.getD (m.ev.id.r.toNat - 1) 0+1))) (n+1)/\bB F s s'/\(∀ y∈F',y∈F\/s.h y=none)/\(∀ y∈F',s'.h y≠none)/\yx p s s':=by
 have ev:=aE m;refine aa.pre fun hw=>xS _ _ _ _ ⟨bL m,aj.intro hw rfl fun l1 s2 Z=>⟨m.ev.id.r,by rw [Z.own.at.ak];rfl,?_⟩⟩;obtain ⟨H,lg,bh,L,B,h1,h2,⟨a1,a2,a3⟩,⟨b1,b2,b3⟩⟩:=id h;obtain ⟨hr,w⟩:=qn a7;dsimp only;rw [hr];generalize hi:m.ev.id.r.toNat - 1=i at w ⊢;have o2:=h1.ext Z.ext;have hx:ag T cD (.ptr (some (p,0+2))) (.int .i64 ((i:Nat):Int))=some (.ptr (some (p,2+i))):=by
  rw [K5 (by omega)];simp
 have a8:=nI H lg bh hd;refine ⟨_,_,hx,_,by rw [o2.at.ak,rW H lg bh _ w],_,_,hx,bC.own Z.wf o2 (by rw [a8];simp;omega) fun bQ Q=>?_⟩;generalize pY:v.set i (IntKind.wrap .u64 (v.getD i 0+1))=v';have k:v'.length=16:=by rw [<- pY,List.length_set,H]
 have R:Am.Own bQ p (fU v' lg bh hd):=by
  have:=Q.at;rw [fA,JJ H lg bh _ w,pY] at this;exact this
 have ab:=nI k lg bh hd;have z:bB [p] s bQ:=Z.ext.mut.trans Q.mut;have d1:l1≠p:=fun e=>by
  have:=Z.no;rw [e,h1] at this;cases this
 have ad:Am.Own bQ l1 (ep m):=Z.own.mut Q.mut (by simpa using d1);have t0:∀ y∈[p],∀ g,Tag s y g->g=0:=fun y d g t=>by
  obtain rfl:=List.mem_singleton.1 d;exact t.uniq (Own.tag h1)
 have ae:bg ep 21 bQ lg L:=bg.ek a1 z fun y d g t=>by rw [t0 y d g t];decide
 have a9:bg rZ 16 bQ bh B:=bg.ek b1 z fun y d g t=>by rw [t0 y d g t];decide
 have hs:=nJ k lg bh hd
 let M:HN:=⟨v',k⟩
 have al:∀ s',Am.Own s' p (fU v' lg bh hd)->ak s' p (0+18)=some lg:=fun s' o=>by rw [o.at.ak];exact hs.1
 have rl:∀ s',Am.Own s' l1 (ep m)->aD s' l1 0 21=some (ep m):=fun s' o=>by rw [o.at.aD (by omega),dI]
 refine ⟨fun a b=>(∀ l cs,Am.Own a l cs->Am.Own b l cs)/\bB (ax lg) a b,fun q _ v s'=>bg ep 21 s' v (L++[m]),fun s'=>bg ep 21 s' lg L,
  fun q _ v s'=>(q=6->∃ l,v=.slc (some (l,0)) 1 1 true/\Am.Own s' l (ep m))/\(q=7->∀ y∈ax v,y∈ax lg\/bQ.h y=none),
  fun q _ v=>(q=7->v.one=true),fun a b e=>⟨fun l cs o=>o.ext e,e.mut⟩,fun a b c x y=>⟨fun l cs o=>y.1 l cs (x.1 l cs o),x.2.trans y.2⟩,fun q _ v a b e g=>g.ext e,?_,fun a b e g=>g.ext e,ae,?_⟩
 ·rintro q ks v a b ⟨x1,_⟩ ⟨I,g2⟩;refine ⟨fun hq=>?_,g2⟩;obtain ⟨l,e,S⟩:=I hq;exact ⟨l,e,x1 _ _ S⟩
 refine ⟨fun s' _ _=>rfl,_,al _ R,fun s' x _=>⟨_,al _ (x.1 _ _ R),rfl⟩,_,rl _ ad,fun s' x _=>⟨_,rl _ (x.1 _ _ ad),rfl⟩,fun en b' a' _=>⟨_,kY eF (aE m) (bL m),aj.intro a' rfl fun U ba A=>⟨A.ext,⟨(fun _=>⟨U,rfl,A.own⟩),(fun h=>by cases h)⟩,(fun h=>by cases h)⟩⟩,⟨.bad,(fun h=>by cases h)⟩,fun ca _=>⟨fun cb bb bc W hc=>?_,⟨.nilFunc,fun _=>rfl⟩,fun j am lC J bd W hC=>?_⟩⟩
 ·obtain ⟨l,rfl,S⟩:=W.1.1 rfl;obtain ⟨v',s',e1,I,m1,_,n1⟩:=bg.append eF aE bL bc hc (DM aE S.at) (by simp;omega) aR;have t1:=bg.tag hc;refine ⟨v',s',e1,⟨⟨fun l cs o=>o.mut m1 fun d=>?_,m1⟩,I⟩,⟨(fun h=>by cases h),(fun _ y d=>?_)⟩,fun _=>bg.one I⟩
  ·have:=(t1 _ d).uniq (Own.tag o);omega
  ·rcases n1 y d with h | h
   ·exact .inl h
   ·exact qo bb.2 h
 have be:=W.2.1.2 rfl;have bi:bg ep 21 lC j (L++[m]):=hC;have an:=J.1 _ _ R;have bj:bg rZ 16 lC bh B:=bg.ek a9 J.2 fun y d g t=>by
  have:=t.uniq (bg.tag ae y d);omega
 refine cP (am rfl) uo (bC.own bd an (by simp [ab]) fun kC C=>?_);have D:Am.Own kC p (fU v' j bh hd):=by
  have:=C.at;rw [fA,Nat.zero_add,Um k] at this;exact this
 have t34:∀ y∈[p],∀ g,Tag lC y g->g=0:=fun y d g t=>by
  obtain rfl:=List.mem_singleton.1 d;exact t.uniq (Own.tag an)
 have bk:bg ep 21 kC j (L++[m]):=bg.ek bi C.mut fun y d g t=>by rw [t34 y d g t];decide
 have ao:bg rZ 16 kC bh B:=bg.ek bj C.mut fun y d g t=>by rw [t34 y d g t];decide
 have bl:=nJ k j bh hd;have O:=nI k j bh hd;have ar:∀ s',Am.Own s' p (fU v' j bh hd)->ak s' p (0+19)=some bh:=fun s' o=>by rw [o.at.ak];exact bl.2.1
 have rv:∀ s',Am.Own s' p (fU v' j bh hd)->aD s' p (0+2) 16=some (rZ M):=fun s' o=>by rw [o.at.aD (by rw [O];omega),Cn k];rfl
 refine ⟨fun a b=>(∀ l cs,Am.Own a l cs->Am.Own b l cs)/\bB (ax bh) a b,fun q _ v s'=>bg rZ 16 s' v (B++[M]),fun s'=>bg rZ 16 s' bh B,
  fun q _ v s'=>(q=9->∃ l,v=.slc (some (l,0)) 1 1 true/\Am.Own s' l (rZ M))/\(q=10->∀ y∈ax v,y∈ax bh\/kC.h y=none),
  fun q _ v=>(q=10->v.one=true),fun a b e=>⟨fun l cs o=>o.ext e,e.mut⟩,fun a b c x y=>⟨fun l cs o=>y.1 l cs (x.1 l cs o),x.2.trans y.2⟩,fun q _ v a b e g=>g.ext e,?_,fun a b e g=>g.ext e,ao,?_⟩
 ·rintro q ks v a b ⟨x1,_⟩ ⟨I,g2⟩;refine ⟨fun hq=>?_,g2⟩;obtain ⟨l,e,S⟩:=I hq;exact ⟨l,e,x1 _ _ S⟩
 refine ⟨fun s' _ _=>rfl,_,ar _ D,fun s' x _=>⟨_,ar _ (x.1 _ _ D),rfl⟩,fun s' _ _=>rfl,_,rv _ D,fun s' x _=>⟨_,rv _ (x.1 _ _ D),rfl⟩,fun cc cd bm _=>⟨_,kY iK (cR M) (nH M),aj.intro bm rfl fun U ba A=>⟨A.ext,⟨(fun _=>⟨U,rfl,A.own⟩),(fun h=>by cases h)⟩,(fun h=>by cases h)⟩⟩,⟨.bad,(fun h=>by cases h)⟩,fun ce _=>⟨fun cf bo bs W hc=>?_,⟨.nilFunc,fun _=>rfl⟩,fun G aw X Y bx W hC=>?_⟩⟩
 ·obtain ⟨l,rfl,S⟩:=W.1.1 rfl;obtain ⟨v',s',e1,I,m1,_,n1⟩:=bg.append iK cR nH bs hc (DM cR S.at) (by simp;omega) dW;have t1:=bg.tag hc;refine ⟨v',s',e1,⟨⟨fun l cs o=>o.mut m1 fun d=>?_,m1⟩,I⟩,⟨(fun h=>by cases h),(fun _ y d=>?_)⟩,fun _=>bg.one I⟩
  ·have:=(t1 _ d).uniq (Own.tag o);omega
  ·rcases n1 y d with h | h
   ·exact .inl h
   ·exact qo bo.2 h
 have b0:=W.2.1.2 rfl;have b4:bg rZ 16 X G (B++[M]):=hC;have a0:=Y.1 _ _ D;have b5:bg ep 21 X j (L++[m]):=bg.ek bk Y.2 fun y d g t=>by
  have:=t.uniq (bg.tag ao y d);omega
 refine cP (aw rfl) rH (bC.own bx a0 (by simp [O]) fun Bi K=>⟨rfl,?_⟩);have a4:Am.Own Bi p (fU v' j G hd):=by
  have:=K.at;rw [fA,Nat.zero_add,Un k] at this;exact this
 have t63:∀ y∈[p],∀ g,Tag X y g->g=0:=fun y d g t=>by
  obtain rfl:=List.mem_singleton.1 d;exact t.uniq (Own.tag a0)
 have a5:bg ep 21 Bi j (L++[m]):=bg.ek b5 K.mut fun y d g t=>by rw [t63 y d g t];decide
 have a6:bg rZ 16 Bi G (B++[M]):=bg.ek b4 K.mut fun y d g t=>by rw [t63 y d g t];decide
 have MA:bB (p::(ax lg++ax bh)) s Bi:=(((z.mono (by simp)).trans (J.2.mono (fun y d=>List.mem_cons_of_mem _ (List.mem_append_left _ d)))).trans (C.mut.mono (by simp))).trans ((Y.2.mono (fun y d=>List.mem_cons_of_mem _ (List.mem_append_right _ d))).trans (K.mut.mono (by simp)));have b6:∀ y∈p::(ax lg++ax bh),y∈F:=fun y d=>by
  rcases List.mem_cons.1 d with rfl | d
  ·exact h2
  ·rcases List.mem_append.1 d with d | d
   ·exact a2 y d
   ·exact b2 y d
 refine ⟨p::(ax j++ax G),⟨k,j,G,L++[m],B++[M],a4,by simp,⟨a5,fun y d=>by simp [d],by simp [a3]⟩,⟨a6,fun y d=>by simp [d],by simp [b3]⟩⟩,MA.mono b6,fun y d=>?_,fun y d=>?_,fun l cs g H b7 b8 g0=>MA.1 l _ (fun hm=>?_) H⟩
 ·rcases List.mem_cons.1 d with rfl | d
  ·exact .inl h2
  ·rcases List.mem_append.1 d with d | d
   ·rcases be y d with h | h
    ·exact .inl (a2 y h)
    ·rcases qo z h with h | h
     ·obtain rfl:=List.mem_singleton.1 h;exact .inl h2
     ·exact .inr h
   ·rcases b0 y d with h | h
    ·exact .inl (b2 y h)
    ·have b9:bB (p::ax lg) s kC:=((z.mono (by simp)).trans (J.2.mono (fun y d=>List.mem_cons_of_mem _ d))).trans (C.mut.mono (by simp));rcases qo b9 h with h | h
     ·rcases List.mem_cons.1 h with rfl | h
      ·exact .inl h2
      ·exact .inl (a2 y h)
     ·exact .inr h
 ·rcases List.mem_cons.1 d with rfl | d
  ·rw [a4];simp
  ·rcases List.mem_append.1 d with d | d
   ·exact bg.jG a5 y d
   ·exact bg.jG a6 y d
 ·rcases List.mem_cons.1 hm with rfl | hm
  ·exact g0 (Tag.uniq ⟨cs,H⟩ (Own.tag h1)) rfl
  ·rcases List.mem_append.1 hm with hm | hm
   ·exact b7 (Tag.uniq ⟨cs,H⟩ (bg.tag a1 _ hm))
   ·exact b8 (Tag.uniq ⟨cs,H⟩ (bg.tag b1 _ hm))
end
end
section
open Go.Am Go.aq Go.aB Go.bq
def h_ (v:List Int) (dQ:List UInt8) (tW:List Int) (to:List DG):Ev:=⟨⟨1,IntKind.wrap .u64 (v.getD 0 0+1)⟩,dQ,tW,v,to⟩
section
variable {hd:AV} {F:List Nat} {s:AS} {p n:Nat} {v:List Int}
set_option maxRecDepth 20000 in
theorem NY (h:Fm hd F s p v n) (a1:∀ y∈F,s.h y≠none) {dQ:List UInt8} {pv tv:AV} {tW:List Int} {to:List DG} (gp:Sl qv 1 s pv tW) (gt:Sl qM 3 s tv to) (hp:tW.length<=2 ^ 29) (ht:to.length<=2 ^ 29) (hn:n+1<=2 ^ 29) :
  aa Tryz.prog bI [.ptr (some (p,0)),.str dQ,pv,tv] s fun r s' =>
   (fN (h_ v dQ tW to)=false/\(∃ g,r=.aQ [.agg g,.bool false]/\g.all AV.one=true/\g.length=21)/\Ext s s') \/
   (fN (h_ v dQ tW to)=true/\(∃ g,r=.aQ [.agg g,.bool true]/\g.all AV.one=true/\g.length=21)/\∃ F',Fm hd F' s' p (v.set 0 (IntKind.wrap .u64 (v.getD 0 0+1))) (n+1)/\bB F s s'/\(∀ y∈F',y∈F\/s.h y=none)/\(∀ y∈F',s'.h y≠none)/\yx p s s'):=by
 refine aa.pre fun hw=>vC _ _ _ _ _ _ (aj.intro hw rfl fun l1 s2 i=>?_);have o2:Am.Own s2 l1 JL:=i.own;obtain ⟨K,lg,bh,L,B,C,_⟩:=id (h.ext i.ext);have a2:=nI K lg bh hd;have hx:ag T cD (.ptr (some (p,0+2))) (.int .i64 (IntKind.wrap .i64 (1 - 1)))=some (.ptr (some (p,2+0))):=by
  rw [a_ (by omega),K5 (by omega)];rfl
 refine ⟨fun q _ v s'=>(q=18->aW qv 1 [] s2 s' v tW)/\(q=24->aW qM 3 [] s2 s' v to)/\(q=26->∃ l,v=.ptr (some (l,0))/\Am.Own s' l JL/\s2.h l=none),fun q _ v=>(q=18\/q=24->v.one=true)/\(q=26->∃ l,v=.ptr (some (l,0))),fun q _ v a b e g=>⟨fun O=>(g.1 O).step e,fun O=>(g.2.1 O).step e,fun O=>by obtain ⟨l,x,y,z⟩:=g.2.2 O;exact ⟨l,x,y.ext e,z⟩⟩,1,by rw [C.at.ak];rfl,1,by rw [C.at.ak];rfl,_,_,hx,_,by rw [C.at.ak,rW K lg bh _ (by omega)],_,vR _ _,fun fH Q a3 _=>?_,⟨.slc none 0 0 true,(fun _=>rfl),(fun h=>by cases h)⟩,fun R S=>⟨_,C.at.aD (by rw [a2];omega),fun fV U a4 _=>?_,⟨.slc none 0 0 true,(fun _=>rfl),(fun h=>by cases h)⟩,fun W X=>?_⟩⟩
 ·refine aW.iq gY cg Lr a3 (aW.start (M:=[]) Q.mut) (by simp) (gp.ext (i.ext.trans Q)) (by simp;omega) aT fun v' s' g w' m=>?_;exact ⟨(show bB [] fH s' from m).ext,⟨(fun _=>by simpa using g),(fun h=>by cases h),(fun h=>by cases h)⟩,(fun _=>g.jJ.2),(fun h=>by cases h)⟩
 ·refine aW.iq uH eE uG a4 (aW.start (M:=[]) U.mut) (by simp) (gt.ext (i.ext.trans U)) (by simp;omega) gh fun v' s' g w' m=>?_;exact ⟨(show bB [] fV s' from m).ext,⟨(fun h=>by cases h),(fun _=>by simpa using g),(fun h=>by cases h)⟩,(fun _=>g.jJ.2),(fun h=>by cases h)⟩
 rw [Cn K];have k1:=S.1 (.inl rfl);have k2:=X.1 (.inr rfl)
 let m:gj:=⟨h_ v dQ tW to,R,W,K,k1,k2⟩
 have ev:=aE m;refine ⟨_,NV K k1 k2,fun bx a5 a6 _=>aj.intro a6 rfl fun Y b0 I=>⟨I.ext,⟨(fun h=>by cases h),(fun h=>by cases h),(fun _=>⟨Y,rfl,I.own,a5.none I.no⟩)⟩,(fun h=>by rcases h with h | h <;> cases h),(fun _=>⟨Y,rfl⟩)⟩,⟨.ptr (some (0,0)),(fun h=>by rcases h with h | h <;> cases h),(fun _=>⟨0,rfl⟩)⟩,fun v30 Z=>?_⟩;obtain ⟨l,rfl⟩:=Z.2 rfl;refine ⟨_,rfl,fun a7 ab a8 hS=>?_⟩;have a9:=hS.1.1 rfl;have a':=hS.2.1.2.1 rfl;obtain ⟨l',ad,ae,D⟩:=hS.2.2.1.2.2 rfl;simp only [AV.ptr.injEq,Option.some.injEq,Prod.mk.injEq,and_true] at ad;subst ad;refine ⟨⟨bL m,congrArg some ev.symm⟩,bC.own a8 ae (vs:=ep m) (by rw [ev];exact Nat.le_refl _) fun oY j=>?_⟩;have al:Am.Own oY l (ep m):=by
  have:=j.at;rw [dZ (by rw [show JL.length=21 from rfl];exact ev)] at this;exact this
 have am:Ext s oY:=Ext.wr (i.ext.trans ab) (i.ext.none D) j.mut;have d1:l1≠l:=fun e=>by rw [<- e,o2] at D;cases D
 have J:Am.Own oY l1 JL:=(o2.ext ab).mut j.mut (by simpa using d1);have t32:∀ y∈[l],∀ g,Tag a7 y g->g=0:=fun y c g t=>by
  obtain rfl:=List.mem_singleton.1 c;exact t.uniq (Own.tag ae)
 have ba:bg qv 1 oY R tW:=bg.ek a9.uQ j.mut fun y c g t=>by rw [t32 y c g t];decide
 have d36:bg qM 3 oY W to:=bg.ek a'.uQ j.mut fun y c g t=>by rw [t32 y c g t];decide
 have hE:rV oY m:=⟨ba.sl cg,d36.sl eE⟩;refine ⟨_,al.at.aD (by omega),?_⟩;rw [dI];refine aa.use (QM (h.ext am) hE) ?_;rintro wm b1 ⟨rfl,k⟩ bb;have d:=am.trans k;refine ⟨_,rfl,af.mk (fun hb=>⟨_,JM,?_⟩) (fun hb=>?_)⟩
 ·have bc:fN (h_ v dQ tW to)=false:=by simpa using hb
  exact ⟨⟨rfl,rfl⟩,bC.own bb (J.ext k) (Nat.le_refl _) fun s7 P=>⟨JL,(HQ rfl rfl P).2,.inl ⟨bc,⟨_,rfl,rfl,rfl⟩,Ext.wr d i.no P.mut⟩⟩⟩
 have an:fN (h_ v dQ tW to)=true:=by simpa using hb
 have H:=an;simp only [fN,si,Bool.and_eq_true,decide_eq_true_eq] at H;have bd:m.ev.id.may=true:=H.1.1.1.1.1.1.1.1;have ao:=al.ext k;refine ⟨_,ao.at.aD (by omega),?_⟩;rw [dI];refine aa.use (DN (h.ext d) bd hn) ?_;rintro b2 ar ⟨rfl,F',be,G,w,aw,bi⟩ bj;have nF:∀ y,s.h y=none->y ∉ F:=fun y hn c=>a1 y c hn;have bk:Am.Own ar l (ep m):=ao.mut G (nF _ (i.ext.none D));have bl:Am.Own ar l1 JL:=(J.ext k).mut G (nF _ i.no);refine ⟨rfl,_,bk.at.aD (by omega),?_⟩;rw [dI];refine ⟨⟨bL m,by rw [ev]⟩,bC.own bj bl (by rw [ev];exact Nat.le_refl _) fun s7 P=>?_⟩;obtain ⟨_,bm⟩:=HQ ev rfl P;have a0:l1 ∉ F':=fun c=>by
  rcases w l1 c with h | h
  ·exact nF _ i.no h
  ·rw [J.ext k] at h;cases h
 refine ⟨_,bm,.inr ⟨an,⟨_,rfl,bL m,aE m⟩,F',be.mut P.mut (fun y c=>by obtain rfl:=List.mem_singleton.1 c;exact a0),?_,?_,?_,fun y cs g c bo bs h0=>?_⟩⟩
 ·refine ⟨fun y o c ho=>?_,Nat.le_trans d.2 (Nat.le_trans G.2 (by rw [P.nl];exact Nat.le_refl _))⟩;have A:y≠l1:=fun e=>by rw [e,i.no] at ho;cases ho
  rw [P.eq y A];exact G.1 y o c (d.1 _ _ ho)
 ·intro y c;rcases w y c with h | h
  ·exact .inl h
  ·exact .inr (d.none h)
 ·intro y c;have A:y≠l1:=fun e=>a0 (e ▸ c);rw [P.eq y A];exact aw y c
 ·have A:y≠l1:=fun e=>by rw [e,i.no] at c;cases c
  rw [P.eq y A];exact bi y cs g (d.1 _ _ c) bo bs h0
end
section
variable {F:List Nat} {s:AS} {q:Nat} {x:aF}
theorem VU (h:oU F s q x) (W:x.ex.length<=2 ^ 40):aa Tryz.prog oB [.ptr (some (q,0)),.int .i64 1] s fun r s'=>s'=s/\∃ m:Int,r=.int .u64 m/\0<=m/\x.has ⟨1,m+1⟩=false/\(m=0\/x.has ⟨1,m⟩=true):=by
 obtain ⟨⟨z,hr,hm⟩,_,w,iw,I,a,⟨X,Y,J⟩,_⟩:=h;have hv:=z.len;have K:ag T cD (.ptr (some (q,0))) (.int .i64 (IntKind.wrap .i64 (1 - 1)))=some (.ptr (some (q,0))):=by
  rw [a_ (by omega),K5 (by omega)];rfl
 have d:ak s q (0+16)=some w:=by
  rw [a.at.ak,List.getElem?_append_right (by simp [hv])];simp [hv]
 have h0:ak s q 0=some (.int .u64 (x.v.getD 0 0)):=by
  rw [a.at.ak,List.getElem?_append_left (by simp;omega),List.getElem?_map,List.getElem?_eq_getElem (by omega),List.getD_eq_getElem?_getD,List.getElem?_eq_getElem (show 0<x.v.length by omega)];rfl
 have hs:=J.sl br;refine C6 _ _ _ _ ⟨_,_,K,_,h0,fun m' vs s'=>∃ (i:Nat) (m:Int),vs=[.int .u64 m,.int .i64 (i:Nat)]/\i<=x.ex.length/\m'=x.ex.length - i/\s'=s/\x.v.getD 0 0<=m/\(∀ e∈x.ex.take i,e.r=1->e.c<=m)/\(m=x.v.getD 0 0\/∃ e∈x.ex,e.r=1/\e.c=m),x.ex.length,⟨0,_,rfl,by omega,rfl,rfl,Int.le_refl _,by simp,.inl rfl⟩,?_⟩;rintro m' C L n ⟨i,m,hi,Z,rfl,rfl,M,h2,h3⟩;simp only [List.cons.injEq,AV.int.injEq,true_and,and_true] at hi;obtain ⟨rfl,rfl⟩:=hi;refine ⟨w,d,_,hs.b_ bJ _,af.dec (fun O=>?_) (fun Q=>?_)⟩
 ·obtain ⟨e,p⟩:=cF (l:=x.ex) (i:=i) (by omega);obtain ⟨la,o,D,H⟩:=hs.ix (by decide) br bJ kN p;have G:ak n la o=some (.int .i64 e.r):=by have:=(H _ (Ext.refl _)).1 0 (by omega);simpa [aP] using this
  have A:ak n la (o+1)=some (.int .u64 e.c):=by rw [(H _ (Ext.refl _)).1 1 (by omega)];rfl
  have ht:x.ex.take (i+1)=x.ex.take i++[e]:=by rw [List.take_add_one,p];rfl
  refine ⟨fun vs s'=>s'=n/\vs=[.bool (decide (e.r=1)&&decide (e.c>C))],?_,w,d,la,o,D _,e.r,G,af.mk (fun hb=>⟨w,d,la,o,D _,e.c,A,rfl,?_⟩) (fun hb=>⟨rfl,?_⟩)⟩
  ·rintro b eH ⟨rfl,hb⟩;simp only [List.cons.injEq,AV.bool.injEq,and_true] at hb;subst hb;refine af.mk (fun hb=>⟨w,d,la,o,D _,e.c,A,x.ex.length - (i+1),by omega,i+1,e.c,by rw [uJ (by omega)],by omega,rfl,rfl,?_,?_,.inr ⟨e,List.mem_of_getElem? p,?_⟩⟩) (fun hb=>⟨x.ex.length - (i+1),by omega,i+1,C,by rw [uJ (by omega)],by omega,rfl,rfl,M,?_,h3⟩)
   ·simp at hb;omega
   ·simp at hb;rw [ht];intro y j k;rcases List.mem_append.1 j with j | j
    ·have:=h2 y j k;omega
    ·obtain rfl:=List.mem_singleton.1 j;omega
   ·simp at hb;exact ⟨hb.1,rfl⟩
   ·simp at hb;rw [ht];intro y j k;rcases List.mem_append.1 j with j | j
    ·exact h2 y j k
    ·obtain rfl:=List.mem_singleton.1 j;exact hb k
  ·simp at hb;simp [hb]
  ·simp at hb;simp [hb]
 ·obtain rfl:i=x.ex.length:=by omega
  rw [List.take_of_length_le (Nat.le_refl _)] at h2;have R:=z.get 0;refine ⟨rfl,C,rfl,by omega,?_,?_⟩
  ·cases S:x.has ⟨1,C+1⟩ with
   | false=>rfl
   | true =>
    rcases (uD.1 S).2 with h | h
    ·have:=h2 _ h rfl;simp only at this;omega
    ·simp only [show ((1:Int) - 1).toNat=0 from rfl] at h;omega
  ·rcases h3 with rfl | ⟨e,p,B,rfl⟩
   ·by_cases U:x.v.getD 0 0=0
    ·exact .inl U
    ·exact .inr (uD.2 ⟨aO.gC.2 (by simp only;omega),.inr (Int.le_refl _)⟩)
   ·have e2:(⟨1,e.c⟩:aO)=e:=by cases e;simp only at B;subst B;rfl
    rw [e2];exact .inr (uD.2 ⟨hm e p,.inl p⟩)
end
end
end Go.Proofs.YtohgmogbabkkeaaGreat
