/-
  A part of OQ proof: an abstract machine Be OQ model, and qc of qd of this program Be it.
-/
import Derived.Test.YtohgmogbabkkeaaGreatP6
set_option linter.unusedVariables false
set_option linter.unusedSimpArgs false
set_option linter.unusedSectionVars false
section
namespace Go.Proofs.YtohgmogbabkkeaaGreat
open Go.Am Go.au Go.aB Go.bM
theorem Qe {s:AS} {v:AV} {l:List FO} (b:Sl q8 16 s v l) (i:l.length<=2 ^ 30):aa Tryz.prog en [v] s fun r s'=>aT q8 16 [] s s' r l:=by
 refine aa.pre fun j=>mM _ _ _ ?_;have main:aR (cV T bp 0 []) fun k=>ak (.cells k 0 false) s fun l3 s4=>iF (aI T bp bp (.slc (some (l3,0)) 0 0 true) v s4) fun m s6=>aT q8 16 [] s s6 m l:=by
  refine ⟨_,zG gR,ak.intro j rfl fun l3 s4 F=>?_⟩;refine aT.kH gR cG nW F.wf (aT.start (M:=[]) F.ext.mut) (by simp) (b.ext F.ext) (by simpa using i) dA fun v' s' g _ _=>?_;simpa using g
 rcases b with ⟨rfl,_,d⟩ | ⟨a,c,e,rfl,hlen,h3⟩
 ·refine ⟨_,ru dA _ _ _ _,af.no rfl main⟩
 ·refine ⟨_,rm dA _ _ _ _ _ _ _ _,af.mk (fun h=>?_) (fun _=>main)⟩;have:a=none:=by simpa using h
  subst this;have:l=[]:=by
   rcases h3 with h3 | ⟨la,o,C,h,_⟩
   ·exact List.length_eq_zero_iff.1 h3
   ·cases h
  subst this;exact aT.nil
theorem So {cur b:List Int} (h:cur.length=16) (c:b.length=16) (pl:Int) (hv:AV):qe (mC cur pl hv) 0 (b.map (.int .u64))=mC b pl hv:=by
 apply List.ext_getElem?;intro k;rw [jH _ _ _ _ (by rw [mD h];simp [c])];simp only [List.length_map,c,Nat.zero_add,Nat.zero_le,true_and,Nat.sub_zero,mC];by_cases d:k<16
 ·rw [if_pos d,List.getElem?_append_left (by simp [c];omega)]
 ·rw [if_neg d,List.getElem?_append_right (by simp [h];omega),List.getElem?_append_right (by simp [c];omega)];simp [h,c]
section
variable {F:List Nat} {s:AS} {p n:Nat} {sec:List Int} {f:List UInt8->Option Dv}
theorem Qf (h:lI F s p sec f n) (U:∀ y∈F,s.h y≠none) (hl:sec.length<=64) (name:List UInt8) (hm:∀ d,f name=some d->q7 d.cur=true) :
  aa Tryz.prog eE [.ptr (some (p,0)),.str name] s fun r s' =>
   ((aE name=false\/f name=none)/\(∃ e:Int,e≠0/\r=.aQ [.slc none 0 0 true,.int .i64 e])/\s'=s) \/
   (aE name=true/\∃ d w s1,f name=some d/\r=.aQ [w,.int .i64 0]/\aT pK 1 [] s1 s' w (y5 sec name d.cur)/\lI F s1 p sec (jF f name none) (n - 1)/\bD F s s1/\∀ y∈F,s1.h y≠none):=by
 refine aa.pre fun hw=>zj _ _ _ _ ?_;refine aa.use (A5 h name true) ?_;rintro v1 s2 ⟨rfl,rfl⟩ w2;refine ⟨_,rfl,?_⟩;cases hn:aE name with
 | false=>exact af.yes rfl (.inl ⟨.inl rfl,⟨2,by decide,rfl⟩,rfl⟩)
 | true =>
  cases R:f name with
  | none=>exact af.yes rfl (.inl ⟨.inr rfl,⟨7,by decide,rfl⟩,rfl⟩)
  | some d =>
   refine af.no rfl ?_;obtain ⟨sv,uR,es,k,S,h2,h3,⟨a1,a2⟩,W,c2,X,c4,c5⟩:=id h;cases K:dV es name with
   | none=>rw [c4 _ K] at R;cases R
   | some m =>
    obtain ⟨hD,L⟩:=X _ _ K;rw [R] at L;obtain rfl:=Option.some.inj L;have G:dN T aJ (.map (some uR)) (.str name) false s2=some (.ptr (some (m.l,0))):=by
     have:=W.find uQ name false;rw [K] at this;exact this
    refine ⟨_,by rw [S.at.av];rfl,_,G,_,by rw [S.at.av];rfl,?_⟩;refine eJ.del uQ w2 W name K fun B es' hM j hlen ab x=>?_;have i:∀ {y g:Nat},Tag s2 y g->y≠uR:=fun t e=>Tag.OO W.obj (e ▸ t);have M:=S.mut x (by simpa using i (Own.tag S));have C:=a1.mut x fun y c hx=>i (br.tag a1 y c) (by simpa using hx);have D:∀ a y,dV es a=some y->FJ F B y:=fun a y c=>by
     obtain ⟨Y,_⟩:=X a y c;exact Y.mut x fun z H I=>by
      obtain rfl:=List.mem_singleton.1 H;rcases List.mem_cons.1 I with e | I
      ·exact i (Own.tag Y.1) e.symm
      ·exact i (br.tag Y.2.1 _ I) rfl
    have dm:=D _ _ K;refine ⟨sv,by rw [M.at.av];rfl,_,dm.1.at.aC (by rw [mD m.len];omega),?_⟩;rw [A4 m.len];refine aa.use (L8 (C.sl bS) hl name m.len hn (hm _ R)) ?_;rintro ad iV ⟨w,rfl,g⟩ ae;have al:Ext B iV:=g.ew.ext;refine ⟨_,_,rfl,.inr ⟨rfl,m.d,w,B,rfl,rfl,g,?_,?_,?_⟩⟩
    ·refine (lI.mk ⟨sv,uR,es',k,M,h2,h3,⟨C,a2⟩,hM,by omega,fun a y c=>?_,fun a A=>?_,fun a b y z c H Z=>?_⟩:lI F B p sec (jF f name none) (n - 1))
     ·rw [j] at c;by_cases A:a=name
      ·rw [if_pos A] at c;cases c
      ·rw [if_neg A] at c;exact ⟨D a y c,by rw [jF,if_neg A];exact (X a y c).2⟩
     ·rw [j] at A;by_cases J:a=name
      ·rw [jF,if_pos J]
      ·rw [if_neg J] at A;rw [jF,if_neg J];exact c4 a A
     ·rw [j] at c H;by_cases A:a=name
      ·rw [if_pos A] at c;cases c
      ·by_cases hb:b=name
       ·rw [if_pos hb] at H;cases H
       ·rw [if_neg A] at c;rw [if_neg hb] at H;exact c5 a b y z c H Z
    ·exact x.mono fun y c=>by obtain rfl:=List.mem_singleton.1 c;exact h3
    ·intro y c;by_cases O:y=uR
     ·subst O;rw [hM.obj];simp
     ·cases Q:s2.h y with
      | none=>exact absurd Q (U y c)
      | some o=>rw [x.1 y o (by simpa using O) Q];simp
def mE (d:Dv) (k:Nat):Dv:=if k=0 then d else ⟨mR d.cur (d.hand.getD (k - 1) []),d.place,d.hand.drop k⟩
def WD (F : List Nat) (s : AS) (p n : Nat) (sec : List Int) (f : List UInt8 -> Option Dv) (name : List UInt8) (k : Int) (r : AV) (s' : AS) : Prop :=
      ((aE name = false \/ k < 0 \/ (∀ d, f name = some d -> k > d.hand.length)) /\ (∃ e : Int, e ≠ 0 /\ r = .aQ [.slc none 0 0 true, .int .i64 e]) /\ s' = s) \/
      (aE name = true /\ ∃ (d : Dv) (j : Nat) (w : AV) (F' : List Nat) (s1 : AS), k = j /\ f name = some d /\ j <= d.hand.length /\ r = .aQ [w, .int .i64 0] /\ aT pK 1 [] s1 s' w (y5 sec name (mE d j).cur) /\ lI F' s1 p sec (jF f name (some (mE d j))) n /\ Sn F s s1 /\ (∀ y ∈ F', y ∈ F \/ s.h y = none) /\ ∀ y ∈ F', s1.h y ≠ none)
set_option maxRecDepth 20000 in
theorem Sq (h:lI F s p sec f n) (a1:∀ y∈F,s.h y≠none) (hl:sec.length<=64) (name:List UInt8) (k:Int) (hm:∀ d,f name=some d->∀ j,j<=d.hand.length->q7 (mE d j).cur=true) (hh:∀ d,f name=some d->d.hand.length<=2 ^ 28) :
  aa Tryz.prog e_ [.ptr (some (p,0)),.str name,.int .i64 k] s (WD F s p n sec f name k):=by
 refine aa.pre fun hw=>DF _ _ _ _ _ ?_;refine aa.use (A5 h name _) ?_;rintro v1 s2 ⟨rfl,rfl⟩ w2;refine ⟨_,rfl,?_⟩;by_cases a2:k<0
 ·have S:decide (k>=0)=false:=by rw [decide_eq_false_iff_not];omega
  rw [S,show (!aE name||!false)=true by simp];exact af.yes rfl (.inl ⟨.inr (.inl a2),⟨2,by decide,rfl⟩,rfl⟩)
 have hk:k>=0:=by omega
 obtain ⟨j,rfl⟩:=Int.eq_ofNat_of_zero_le hk;have S:decide ((j:Int)>=0)=true:=decide_eq_true hk;rw [S];cases hn:aE name with
 | false=>exact af.yes rfl (.inl ⟨.inl hn,⟨2,by decide,rfl⟩,rfl⟩)
 | true =>
  cases U:f name with
  | none=>exact af.yes rfl (.inl ⟨.inr (.inr fun d hd=>by rw [U] at hd;cases hd),⟨7,by decide,rfl⟩,rfl⟩)
  | some d =>
   refine af.no rfl ?_;obtain ⟨m,sv,uR,rfl,r,op,⟨a3,b1⟩,W,a4,a5,ab⟩:=h.dev a1 U;have b2:m.H.length=m.d.hand.length:=by rw [<- r.2.2.1,List.length_map]
   have b3:=hh _ U;have a6:=mD m.len m.d.place m.hv;have ad:=DY m.len m.d.place m.hv;have sl:=r.2.1.sl cG;refine ⟨_,by rw [op.at.av];rfl,_,W _ (Ext.refl _),m.hv,by rw [r.1.at.av];exact ad.2,_,sl.cj dA _,af.dec (fun b4=>.inl ⟨.inr (.inr fun d' ae=>by rw [U] at ae;obtain rfl:=Option.some.inj ae;omega),⟨6,by decide,rfl⟩,rfl⟩) (fun hle=>?_)⟩;have hj:j<=m.d.hand.length:=by omega
   have kl:m.l∈fA m:=by simp [fA]
   refine ⟨fun vs s'=>Ext s2 s'/\aM s'/\j=0\/aM s'/\j≠0/\bD [m.l] s2 s'/\∃ oQ ,Am.Own s' m.l (mC (mE m.d j).cur m.d.place oQ)/\br q8 16 s' oQ (m.H.drop j)/\∀ y∈ay oQ,s2.h y=none,?_,af.dec (fun b0=>?_) (fun J=>.inl ⟨Ext.refl _,w2,by omega⟩)⟩
   ·let PP:AV->AS->Prop:=fun v gu=>∃ (w:AV) (F':List Nat) (s1:AS),v=.aQ [w,.int .i64 0]/\aT pK 1 [] s1 gu w (y5 sec name (mE m.d j).cur)/\lI F' s1 p sec (jF f name (some (mE m.d j))) n/\Sn F s2 s1/\(∀ y∈F',y∈F\/s2.h y=none)/\∀ y∈F',s1.h y≠none
    have fin:∀ (bQ:AS) (oQ:AV) (H':List FO),aM bQ->bD (fA m) s2 bQ->Am.Own bQ m.l (mC (mE m.d j).cur m.d.place oQ)->br q8 16 bQ oQ H'->H'.map FO.v=(mE m.d j).hand->(mE m.d j).cur.length=16->(mE m.d j).place=m.d.place->(∀ y∈ay oQ,y∈fA m\/s2.h y=none) ->
      ai (some (p,0)) fun lq A=>dJ (av bQ lq A) fun nD=>ai (some (m.l,0)) fun B C=>aR (aC bQ B C 16) fun x=>aa Tryz.prog fH [nD,.str name,.agg x] bQ fun v20 gu=>∃ b:AV,∃ c:Int,v20=.aQ [b,.int .i64 c] /\
       PP (.aQ [b,.int .i64 c]) gu:=by
     intro bQ oQ H' K mm ho hg hH L a7 al;have am:=op.mut mm a4;have X:=a3.mut mm a5;refine ⟨sv,by rw [am.at.av];rfl,_,ho.at.aC (by rw [mD L];omega),?_⟩;rw [A4 L];refine aa.use (L8 (X.sl bS) hl name L hn (hm _ U j hj)) ?_;rintro v20 gu ⟨w,rfl,g⟩ b5;obtain ⟨F',a8,a9,a'⟩:=ab bQ ⟨m.l,oQ,mE m.d j,H',L⟩ rfl mm (by rw [a7];exact ho) hg hH al;refine ⟨_,_,rfl,w,F',bQ,rfl,g,a8,⟨fA m,mm,fun y D=>⟨r.2.2.2 y D,fun g t=>?_⟩⟩,a9,a'⟩;rcases List.mem_cons.1 D with rfl | D
     ·exact .inl (t.uniq (Own.tag r.1))
     ·exact .inr (t.uniq (br.tag r.2.1 y D))
    have conv:∀ {P:AV->AS->Prop} (bQ:AS),(ai (some (p,0)) fun lq A=>dJ (av bQ lq A) fun nD=>ai (some (m.l,0)) fun B C=>aR (aC bQ B C 16) fun x=>aa Tryz.prog fH [nD,.str name,.agg x] bQ fun v20 gu=>∃ b:AV,∃ c:Int,v20=.aQ [b,.int .i64 c]/\P (.aQ [b,.int .i64 c]) gu)->∀ {P':AV->AS->Prop},(∀ v s,P v s->P' v s)->ai (some (p,0)) fun lq A=>dJ (av bQ lq A) fun nD=>ai (some (m.l,0)) fun B C=>aR (aC bQ B C 16) fun x=>aa Tryz.prog fH [nD,.str name,.agg x] bQ fun v20 gu=>∃ b:AV,∃ c:Int,v20=.aQ [b,.int .i64 c]/\P' (.aQ [b,.int .i64 c]) gu:=by
     intro P bQ hq P' hP;obtain ⟨nD,an,x,ao,hc⟩:=hq;refine ⟨nD,an,x,ao,hc.mono ?_⟩;rintro v20 gu ⟨b,c,e,hp⟩;exact ⟨b,c,e,hP _ _ hp⟩
    rintro bQ (⟨Y,K,rfl⟩ | ⟨K,M,ba,oQ,bb,X,bc⟩)
    ·have R:mE m.d 0=m.d:=rfl;refine conv (P:=PP) bQ (fin bQ m.hv m.H K Y.mut (by rw [R];exact r.1.ext Y) (r.2.1.ext Y) (by rw [R];exact r.2.2.1) (by rw [R];exact m.len) (by rw [R]) fun y D=>.inl (by simp [fA,D])) ?_
     rintro v s ⟨w,F',s1,h1,h2⟩;exact .inr ⟨hn,m.d,0,w,F',s1,rfl,U,hj,h1,h2⟩
    ·have R:mE m.d j=⟨mR m.d.cur (m.d.hand.getD (j - 1) []),m.d.place,m.d.hand.drop j⟩:=by rw [mE,if_neg M]
     refine conv (P:=PP) bQ (fin bQ oQ (m.H.drop j) K (ba.mono (by simp [kl])) bb X (by rw [R,List.map_drop,r.2.2.1]) (by rw [R];exact de _ _) (by rw [R]) fun y D=>.inr (bc y D)) ?_
     rintro v s ⟨w,F',s1,h1,h2⟩;exact .inr ⟨hn,m.d,j,w,F',s1,rfl,U,hj,h1,h2⟩
   ·have M:j≠0:=by omega
    obtain ⟨y,D⟩:=cS (l:=m.H) (i:=j - 1) (by omega);have bd:m.d.hand.getD (j - 1) []=y.v:=by rw [List.getD_eq_getElem?_getD,<- r.2.2.1,List.getElem?_map,D];rfl
    obtain ⟨la,o,k8,k9⟩:=sl.ix (by decide) cG dA sN D;have be:IntKind.wrap .i64 ((j:Int) - 1)=((j - 1:Nat):Int):=by rw [aW (by omega)];omega
    rw [be];refine ⟨_,r.1.at.aC (by omega),m.hv,by rw [r.1.at.av];exact ad.2,la,o,k8 _,_,(k9 _ (Ext.refl _)).2,?_⟩;rw [A4 m.len];refine aa.use (R7 m.len y.len _) ?_;rintro b6 j8 ⟨rfl,G⟩ bh;refine ⟨_,rfl,⟨b_ _ _,by simp [de]⟩,bz.own bh (r.1.ext G) (by simp [de,a6]) fun bi O=>?_⟩;have Z:Am.Own bi m.l (mC (mR m.d.cur y.v) m.d.place m.hv):=by
     have:=O.at;rw [So m.len (de _ _)] at this;exact this
    have ar:=DY (de m.d.cur y.v) m.d.place m.hv;have tl:∀ z∈[m.l],∀ g,Tag j8 z g->g=0:=fun z J g t=>by
     obtain rfl:=List.mem_singleton.1 J;exact t.uniq (Own.tag (r.1.ext G))
    have bj:=br.eY (r.2.1.ext G) O.mut fun z J g t=>by rw [tl z J g t];decide
    obtain ⟨bk,bl,bm⟩:=(bj.sl cG).rest cG dA sN (i:=j) (by omega) .i64;refine ⟨m.hv,by rw [Z.at.av];exact ar.2,bk,bl,?_⟩;refine aa.use (Qe bm (by simp;omega)) ?_;rintro aw bo I bs;have a0:=Z.ext I.ew.ext;refine cK I.iS.2 qC (bz.own bs a0 (by rw [mD (de _ _)];simp) fun b7 Q=>.inr ⟨Q.wf,M,?_,aw,?_,?_,?_⟩)
    ·exact ((G.mut.trans O.mut).trans I.ew.ext.mut).trans Q.mut
    ·have:=Q.at;rw [fo,Nat.zero_add,(FK (de _ _) _ 0 _ aw).2] at this;rw [mE,if_neg M,bd];exact this
    ·have t44:∀ z∈[m.l],∀ g,Tag bo z g->g=0:=fun z J g t=>by
      obtain rfl:=List.mem_singleton.1 J;exact t.uniq (Own.tag a0)
     exact br.eY I.u6 Q.mut fun z J g t=>by rw [t44 z J g t];decide
    ·intro z J;have:=I.new z J;cases hq:s2.h z with
     | none=>rfl
     | some ob =>
      have bx:z≠m.l:=fun e=>by subst e;rw [Z] at this;cases this
      rw [O.eq z bx,G.1 z ob hq] at this;cases this
end
end Go.Proofs.YtohgmogbabkkeaaGreat
end

section
namespace Go.Proofs.YtohgmogbabkkeaaGreat
open Go.Am Go.au Go.aB Go.bM
def Ap (s0 s:AS) (Rs:List (List Nat)):Prop:=Ext s0 s/\Rs.Pairwise Dj/\∀ R∈Rs,∀ y∈R,s0.h y=none/\s.h y≠none
section
variable {s0 s s':AS} {Rs A B:List (List Nat)} {R R':List Nat}
theorem Ext.there {y:Nat} (e:Ext s s') (h:s.h y≠none):s'.h y≠none:=by
 cases b:s.h y with
 | none=>exact absurd b h
 | some o=>rw [e.1 y o b];simp
theorem Ap.ext (h:Ap s0 s Rs) (e:Ext s s'):Ap s0 s' Rs:=⟨h.1.trans e,h.2.1,fun R b y c=>⟨(h.2.2 R b y c).1,Ext.there e (h.2.2 R b y c).2⟩⟩
theorem Ap.oO (h:Ap s0 s (A++R::B)) (m:bD R s s') (p:∀ y∈R',y∈R\/s.h y=none) (ht:∀ y∈R',s'.h y≠none):Ap s0 s' (A++R'::B):=by
 obtain ⟨e,C,n⟩:=h;obtain ⟨p1,D,r⟩:=List.pairwise_append.1 C;obtain ⟨F,G⟩:=List.pairwise_cons.1 D;have w:∀ y∈R,s0.h y=none/\s.h y≠none:=n R (by simp);have H:Ext s0 s':=Ext.Wd e (fun y i=>(w y i).1) m;have j:∀ Q,Q∈A\/Q∈B->Dj Q R/\∀ y∈Q,s0.h y=none/\s.h y≠none:=fun Q c=>by
  rcases c with c | c
  ·exact ⟨r Q c R (by simp),n Q (by simp [c])⟩
  ·exact ⟨(F Q c).symm,n Q (by simp [c])⟩
 have l:∀ Q,Q∈A\/Q∈B->Dj R' Q:=fun Q c=>Dj.step (j Q c).1.symm (fun y i=>((j Q c).2 y i).2) p;refine ⟨H,List.pairwise_append.2 ⟨p1,List.pairwise_cons.2 ⟨fun Q c=>l Q (.inr c),G⟩,fun a x b hb=>?_⟩,fun Q c y i=>?_⟩
 ·rcases List.mem_cons.1 hb with rfl | hb
  ·exact (l a (.inl x)).symm
  ·exact r a x b (by simp [hb])
 ·have k:Q=R'\/(Q∈A\/Q∈B):=by
   simp only [List.mem_append,List.mem_cons] at c;rcases c with h | h | h
   ·exact .inr (.inl h)
   ·exact .inl h
   ·exact .inr (.inr h)
  rcases k with rfl | k
  ·refine ⟨?_,ht y i⟩;rcases p y i with h | h
   ·exact (w y h).1
   ·exact e.none h
  ·obtain ⟨d,t⟩:=j Q k;refine ⟨(t y i).1,?_⟩;cases z:s.h y with
   | none=>exact absurd z (t y i).2
   | some o=>rw [m.1 y o (fun hm=>d y i hm) z];simp
theorem Ap.new (h:Ap s0 s Rs) (e:Ext s s') (d:∀ y∈R,s.h y=none) (ht:∀ y∈R,s'.h y≠none):Ap s0 s' (R::Rs):=by
 have i:=h.ext e;refine ⟨i.1,List.pairwise_cons.2 ⟨fun Q b y c j=>(h.2.2 Q b y j).2 (d y c),h.2.1⟩,fun Q b y c=>?_⟩;rcases List.mem_cons.1 b with rfl | b
 ·exact ⟨h.1.none (d y c),ht y c⟩
 ·exact i.2.2 Q b y c
theorem Ap.obj (h:Ap s0 s Rs) {l:Nat} {cs:List AV} (F:qs s s' l (.cells cs 0 false)):Ap s0 s' ([l]::Rs) :=
 h.new F.ext (fun y b=>by obtain rfl:=List.mem_singleton.1 b;exact F.no) fun y b=>by
  obtain rfl:=List.mem_singleton.1 b;rw [F.own];simp
theorem Ap.perm {WV:List (List Nat)} (h:Ap s0 s Rs) (p:Rs.Perm WV):Ap s0 s WV :=
 ⟨h.1,(p.pairwise_iff fun {a b} d=>Dj.symm d).1 h.2.1,fun R c=>h.2.2 R (p.mem_iff.2 c)⟩
theorem Ap.ij (h:Ap s0 s Rs) (i j:Nat) {P Q:List Nat} (hi:Rs[i]? = some P) (hj:Rs[j]? = some Q) (d:i≠j):Dj P Q:=by
 have k:=h.2.1;obtain ⟨b,rfl⟩:=List.getElem?_eq_some_iff.1 hi;obtain ⟨c,rfl⟩:=List.getElem?_eq_some_iff.1 hj;rcases Nat.lt_or_gt_of_ne d with e | e
 ·exact List.pairwise_iff_getElem.1 k i j b c e
 ·exact (List.pairwise_iff_getElem.1 k j i c b e).symm
theorem Ap.th (h:Ap s0 s Rs) (i:Nat) {P:List Nat} (hi:Rs[i]? = some P):∀ y∈P,s.h y≠none:=fun y b=>(h.2.2 P (List.mem_of_getElem? hi) y b).2
theorem Ap.tail (h:Ap s0 s (R::Rs)):Ap s0 s Rs:=⟨h.1,(List.pairwise_cons.1 h.2.1).2,fun Q b=>h.2.2 Q (by simp [b])⟩
end
structure Wq (s:AS) (l pc ps pv pw:Nat) (Fc Fs Fv Fw:List Nat) (c:gA) (x:aH) (v:List Int) (n:Nat) (y:aH):Prop where
 own:Am.Own s l [.ptr (some (pc,0)),.ptr (some (ps,0)),.ptr (some (pv,0)),.ptr (some (pw,0))]
 ca:jE Fc s pc c
 se:gL Fs s ps x
 rc:FH Fv s pv v n
 re:pC Fw s pw y
section
variable {s0 s s':AS} {l pc ps pv pw n n':Nat} {Fc Fs Fv Fw F':List Nat} {c c':gA} {x x' y y':aH} {v v':List Int} {Gs:List (List Nat)}
theorem Wq.mut {L:List Nat} (h:Wq s l pc ps pv pw Fc Fs Fv Fw c x v n y) (m:bD L s s') (d0:Dj L [l]) (d1:Dj L Fc) (d2:Dj L Fs) (d3:Dj L Fv) (d4:Dj L Fw):Wq s' l pc ps pv pw Fc Fs Fv Fw c x v n y :=
 ⟨h.own.mut m fun hm=>d0 l hm (by simp),h.ca.mut m d1,h.se.mut m d2,h.rc.mut m d3,h.re.mut m d4⟩
theorem Wq.ext (h:Wq s l pc ps pv pw Fc Fs Fv Fw c x v n y) (e:Ext s s'):Wq s' l pc ps pv pw Fc Fs Fv Fw c x v n y :=
 h.mut (L:=[]) e.mut (fun _ h=>by cases h) (fun _ h=>by cases h) (fun _ h=>by cases h) (fun _ h=>by cases h) (fun _ h=>by cases h)
theorem Wq.WE (h:Wq s l pc ps pv pw Fc Fs Fv Fw c x v n y) (A:Ap s0 s ([l]::Fc::Fs::Fv::Fw::Gs)) (m:bD Fc s s') (b:jE F' s' pc c') (d:∀ y∈F',y∈Fc\/s.h y=none) (ht:∀ y∈F',s'.h y≠none) :
  Wq s' l pc ps pv pw F' Fs Fv Fw c' x v n y/\Ap s0 s' ([l]::F'::Fs::Fv::Fw::Gs) :=
 ⟨⟨h.own.mut m fun hm=>A.ij 1 0 rfl rfl (by decide) l hm (by simp),b,h.se.mut m (A.ij 1 2 rfl rfl (by decide)),h.rc.mut m (A.ij 1 3 rfl rfl (by decide)),h.re.mut m (A.ij 1 4 rfl rfl (by decide))⟩,Ap.oO (A:=[[l]]) A m d ht⟩
theorem Wq.V2 (h:Wq s l pc ps pv pw Fc Fs Fv Fw c x v n y) (A:Ap s0 s ([l]::Fc::Fs::Fv::Fw::Gs)) (m:bD Fs s s') (b:gL F' s' ps x') (d:∀ y∈F',y∈Fs\/s.h y=none) (ht:∀ y∈F',s'.h y≠none) :
  Wq s' l pc ps pv pw Fc F' Fv Fw c x' v n y/\Ap s0 s' ([l]::Fc::F'::Fv::Fw::Gs) :=
 ⟨⟨h.own.mut m fun hm=>A.ij 2 0 rfl rfl (by decide) l hm (by simp),h.ca.mut m (A.ij 2 1 rfl rfl (by decide)),b,h.rc.mut m (A.ij 2 3 rfl rfl (by decide)),h.re.mut m (A.ij 2 4 rfl rfl (by decide))⟩,Ap.oO (A:=[[l],Fc]) A m d ht⟩
theorem Wq.V3 (h:Wq s l pc ps pv pw Fc Fs Fv Fw c x v n y) (A:Ap s0 s ([l]::Fc::Fs::Fv::Fw::Gs)) (m:bD Fv s s') (b:FH F' s' pv v' n') (d:∀ y∈F',y∈Fv\/s.h y=none) (ht:∀ y∈F',s'.h y≠none) :
  Wq s' l pc ps pv pw Fc Fs F' Fw c x v' n' y/\Ap s0 s' ([l]::Fc::Fs::F'::Fw::Gs) :=
 ⟨⟨h.own.mut m fun hm=>A.ij 3 0 rfl rfl (by decide) l hm (by simp),h.ca.mut m (A.ij 3 1 rfl rfl (by decide)),h.se.mut m (A.ij 3 2 rfl rfl (by decide)),b,h.re.mut m (A.ij 3 4 rfl rfl (by decide))⟩,Ap.oO (A:=[[l],Fc,Fs]) A m d ht⟩
theorem Wq.WG (h:Wq s l pc ps pv pw Fc Fs Fv Fw c x v n y) (A:Ap s0 s ([l]::Fc::Fs::Fv::Fw::Gs)) (m:bD Fw s s') (b:pC F' s' pw y') (d:∀ y∈F',y∈Fw\/s.h y=none) (ht:∀ y∈F',s'.h y≠none) :
  Wq s' l pc ps pv pw Fc Fs Fv F' c x v n y'/\Ap s0 s' ([l]::Fc::Fs::Fv::F'::Gs) :=
 ⟨⟨h.own.mut m fun hm=>A.ij 4 0 rfl rfl (by decide) l hm (by simp),h.ca.mut m (A.ij 4 1 rfl rfl (by decide)),h.se.mut m (A.ij 4 2 rfl rfl (by decide)),h.rc.mut m (A.ij 4 3 rfl rfl (by decide)),b⟩,Ap.oO (A:=[[l],Fc,Fs,Fv]) A m d ht⟩
theorem Sr:aV T mO [(0,.int .i64 3),(1,.int .i64 1)]=some (.agg (f_ eW (.slc none 0 0 true) (.slc none 0 0 true) (.slc none 0 0 true))):=by kernel_rfl
theorem Ss:aV T qA []=some (.agg (eW.map (.int .u64)++[.slc none 0 0 true,.slc none 0 0 true])):=by kernel_rfl
theorem St (a b c d:Nat):aV T oA [(0,.ptr (some (a,0))),(1,.ptr (some (b,0))),(2,.ptr (some (c,0))),(3,.ptr (some (d,0)))]=some (.agg [.ptr (some (a,0)),.ptr (some (b,0)),.ptr (some (c,0)),.ptr (some (d,0))]):=by kernel_rfl
theorem Su (A:Ap s0 s Gs):aa Tryz.prog kh [] s fun r s'=>∃ l pc ps pv pw Fc Fs Fv Fw,r=.aQ [.ptr (some (l,0)),.bool true]/\Wq s' l pc ps pv pw Fc Fs Fv Fw gA.zero aH.zero eW 0 aH.zero/\Ap s0 s' ([l]::Fc::Fs::Fv::Fw::Gs)/\Ext s s':=by
 refine Gc _ _ ?_;refine aa.use (T1 s) ?_;rintro D s2 ⟨pc,Fc,rfl,m,n,tc,e2⟩ w2;refine ⟨_,_,rfl,?_⟩;refine aa.use (U_ s2) ?_;rintro F s6 ⟨ps,Fs,rfl,hs,o,ts,j⟩ p;refine ⟨_,rfl,_,Sr,rfl,ak.intro p rfl fun pv w b=>⟨_,Ss,rfl,ak.intro b.wf rfl fun pw bQ c=>⟨_,St _ _ _ _,rfl,ak.intro c.wf rfl fun l x d=>?_⟩⟩⟩;have z:=A.new e2 n tc;have B:=z.new j o ts;have k:=((B.obj b).obj c).obj d;have i:=c.ext.trans d.ext;have e:=b.ext.trans i;refine ⟨l,pc,ps,pv,pw,Fc,Fs,[pv],[pw],rfl,⟨d.own,m.ext (j.trans e),hs.ext e,⟨rfl,_,_,_,[],[],b.own.ext i,by simp,⟨br.nil,by simp [ay],rfl⟩,⟨br.nil,by simp [ay],rfl⟩⟩,⟨Ln.zero,(fun y C=>by cases C),_,_,[],c.own.ext d.ext,⟨rfl,(by simp),br.nil⟩,⟨rfl,(by simp),br.nil⟩,?_,by simp,by simp [ay],by simp [ay]⟩⟩,k.perm ?_,e2.trans (j.trans e)⟩
 ·exact Items.zero
 ·refine List.Perm.cons _ ?_;refine (List.Perm.swap _ _ _).trans ?_;have p1:([pv]::[pw]::Fs::Fc::Gs).Perm ([pv]::[pw]::Fc::Fs::Gs):=.cons _ (.cons _ (.swap _ _ _));refine p1.trans ?_;exact (List.perm_append_comm_assoc [[pv],[pw]] [Fc,Fs] Gs)
end
end Go.Proofs.YtohgmogbabkkeaaGreat
end

section
namespace Go.Proofs.YtohgmogbabkkeaaGreat
open Go.Am Go.au Go.aB Go.bM
section
variable {s0 s s':AS} {l pc ps pv pw n B:Nat} {Fc Fs Fv Fw F':List Nat} {c:gA} {x:aH} {v:List Int} {Gs:List (List Nat)}
def Sv (x x':aH) (t d:List UInt8):Prop:=((aE t&&aE d)=false/\x'=x)\/((aE t&&aE d)=true/\∃ (m:Int) (l:List aK),0<=m/\x.has ⟨1,m+1⟩=false/\(m=0\/x.has ⟨1,m⟩=true)/\qa x ⟨t,d⟩ l/\x'=(x.ep (⟨⟨1,m+1⟩,⟨t,d⟩,false⟩::l.map eX)).2)
set_option maxRecDepth 20000 in
theorem JJ (h:Wq s l pc ps pv pw Fc Fs Fv Fw c x v n x) (A:Ap s0 s ([l]::Fc::Fs::Fv::Fw::Gs)) (o:nN x B) (hB:B<=450) (hN:∀ d,x.has d=true->d.c<=1073741824) (t dv:List UInt8) :
  aa Tryz.prog dF [.ptr (some (l,0)),.str t,.str dv] s fun r s'=>r=.bool true/\∃ K M x',Wq s' l pc ps pv pw Fc K Fv M c x' v n x'/\Ap s0 s' ([l]::Fc::K::Fv::M::Gs)/\Sv x x' t dv/\bD (Fs++Fw) s s':=by
 obtain ⟨b1,b2⟩:=h.se.Wy o;refine aa.pre fun hw=>sQ _ _ _ _ _ ⟨some (pw,0),by rw [h.own.at.av];rfl,?_⟩;refine aa.use (T4 h.re (by omega)) ?_;rintro v6 s7 ⟨rfl,m,rfl,Z,O,D⟩ w7;have hm:m<=1073741824:=by
  rcases D with rfl | D
  ·omega
  ·exact hN _ D
 have ab:IntKind.wrap .u64 (m+1)=m+1:=fy (by omega);refine ⟨_,rfl,?_⟩;rw [ab];refine ⟨_,yR _ _,ak.intro w7 rfl fun nU a3 p=>⟨⟨rfl,rfl⟩,bz.own p.wf p.own (by simp [aN]) fun dw Q=>?_⟩⟩
 let d:aK:=⟨1,m+1⟩
 have hd:d.may=true:=aK.gB.2 (by simp only [d];omega);have H:Am.Own dw nU (aN d):=Q.at;have F:Ext s7 dw:=Ext.wr p.ext p.no Q.mut;have z:=h.ext F;have I:=A.ext F;have G:nU ∉ Fs:=fun i=>A.th 2 rfl _ i p.no;have nl:l ∉ Fs:=fun i=>A.ij 2 0 rfl rfl (by decide) l i (by simp)
 let k:Key:=⟨t,dv⟩
 have hk:k.may=(aE t&&aE dv):=rfl;refine ⟨fun a b=>bD Fs a b,fun _ _ _ s'=>((aE t&&aE dv)=false/\gL Fs s' ps x/\∀ y∈Fs,s'.h y≠none)\/((aE t&&aE dv)=true/\∃ F' L,qa x k L/\gL F' s' ps (x.ep (⟨d,k,false⟩::L.map eX)).2/\(∀ y∈F',y∈Fs\/dw.h y=none)/\∀ y∈F',s'.h y≠none),fun s'=>gL Fs s' ps x/\∀ y∈Fs,s'.h y≠none,fun _ _ _ _=>True,fun _ _ v=>∃ w,v=.aQ [w,.int .i64 (if (aE t&&aE dv)=true then 0 else 2)],
  fun a b e=>e.mut,fun a b c x y=>x.trans y,?_,fun _ _ _ _ _ _ _=>trivial,fun a b e g=>⟨g.1.ext e,fun y i=>Ext.there e (g.2 y i)⟩,⟨z.se,I.th 2 rfl⟩,fun s' _ _=>rfl,some (ps,0),by rw [z.own.at.av];rfl,fun s' x _=>⟨some (ps,0),by rw [(z.own.mut x nl).at.av];rfl,rfl⟩,_,B2 _ _,_,H.at.aC (by simp [aN]),fun s' x _=>⟨_,(H.mut x G).at.aC (by simp [aN]),rfl⟩,fun dM ad a4 _ X=>?_,⟨_,.slc none 0 0 true,rfl⟩,?_⟩
 ·rintro q ks v a b e (⟨g1,g2,g3⟩ | ⟨g1,F',L,g2,g3,g4,g5⟩)
  ·exact .inl ⟨g1,g2.ext e,fun y i=>Ext.there e (g3 y i)⟩
  ·exact .inr ⟨g1,F',L,g2,g3.ext e,g4,fun y i=>Ext.there e (g5 y i)⟩
 ·refine (Vc X.1 k d o.Wz (by omega) (by omega) (by omega)).mono ?_;rintro r s' (⟨ae,rfl,e⟩ | ⟨⟨y1,y2,y3⟩,v,L,kd,rfl,hs,F',R,al,J,m⟩)
  ·have j:(aE t&&aE dv)=false:=by
    cases hq:(aE t&&aE dv) with
    | false=>rfl
    | true=>exact absurd ⟨by rw [hk,hq],hd,O⟩ ae
   exact ⟨_,_,rfl,⟨e.mut,.inl ⟨j,X.1.ext e,fun y i=>Ext.there e (X.2 y i)⟩⟩,trivial,_,by rw [j];rfl⟩
  ·have j:(aE t&&aE dv)=true:=y1;have S:=X.1.pF;refine ⟨_,_,rfl,⟨m.mono fun y i=>?_,.inr ⟨j,F',L,kd,R,fun y i=>?_,J⟩⟩,trivial,_,by rw [j];rfl⟩
   ·obtain rfl:=List.mem_singleton.1 i;exact S
   ·rcases al y i with rfl | h
    ·exact .inl S
    ·exact uP ad h
 rintro v30 ⟨a5,rfl⟩;refine ⟨_,_,rfl,fun am C a6 _ hC=>?_⟩;refine ⟨fun vs s'=>vs=[.bool (!(aE t&&aE dv))]/\s'=am,?_,?_⟩
 ·rintro b nV ⟨hb,rfl⟩;simp only [List.cons.injEq,AV.bool.injEq,and_true] at hb;subst hb;rcases hC with ⟨j,R,an⟩ | ⟨j,F',L,kd,R,ao,J⟩
  ·rw [j];refine af.yes rfl ⟨rfl,?_⟩;obtain ⟨W,Y⟩:=z.V2 I C R (fun y i=>.inl i) an;exact ⟨Fs,Fw,x,W,Y,.inl ⟨j,rfl⟩,(F.mut.trans C).mono fun y i=>by simp [i]⟩
  ·rw [j];obtain ⟨W,Y⟩:=z.V2 I C R ao J;have ar:Am.Own nV nU (aN d):=H.mut C G;refine af.no rfl ⟨some (pw,0),by rw [W.own.at.av];rfl,_,B2 _ _,_,ar.at.aC (by simp [aN]),?_⟩;refine aa.use (ND W.re o (Y.th 4 rfl) hB k d j hd) ?_;rintro a7 a8 ⟨L',aw,_,U,F2,hR,a0,a1⟩ a9;obtain rfl:=aw.uniq kd.kd;obtain ⟨W',a2⟩:=W.WG Y (U.mono fun y i=>by obtain rfl:=List.mem_singleton.1 i;exact W.re.qF) hR a0 a1;exact ⟨rfl,F',F2,_,W',a2,.inr ⟨j,m,_,Z,O,D,kd,rfl⟩,((F.mut.trans C).mono fun y i=>by simp [i]).trans (U.mono fun y i=>by obtain rfl:=List.mem_singleton.1 i;simp [W.re.qF])⟩
 ·refine aa.use (Fp _ _) ?_;rintro v s' ⟨rfl,rfl⟩ w;refine ⟨_,rfl,af.mk (fun h=>?_) (fun h=>?_)⟩
  ·simp only [Bool.not_eq_true'] at h;simp [h]
  ·have h1:aE t=true:=by simpa using h
   refine aa.use (Fp _ _) ?_;rintro v s' ⟨rfl,rfl⟩ w;exact ⟨_,rfl,by simp [h1],rfl⟩
end
end Go.Proofs.YtohgmogbabkkeaaGreat
end

section
namespace Go.Proofs.YtohgmogbabkkeaaGreat
open Go.Am Go.au Go.aB Go.bM
def FM:List Int:=[98,101,116,119,101,101,110,32,117,115]
theorem T_:cV T aq 10 [(0,.int .u8 98),(1,.int .u8 101),(2,.int .u8 116),(3,.int .u8 119),(4,.int .u8 101),(5,.int .u8 101),(6,.int .u8 110),(7,.int .u8 32),(8,.int .u8 117),(9,.int .u8 115)]=some (FM.map (.int .u8)):=by kernel_rfl
set_option maxRecDepth 20000 in
theorem Qg (s:AS):aa Tryz.prog gF [] s fun r s'=>gy s' r FM/\Ext s s':=by
 refine aa.pre fun d=>EO _ _ ⟨_,T_,ak.intro d rfl fun l s3 b=>⟨.slc (some (l,0)) 10 10 true,s3,?_,?_,b.ext⟩⟩
 ·have e:s3.h l=some (.cells (FM.map (.int .u8)) 1 false):=b.at;simp only [cN,aL,if_true,zO,e]
 ·exact bX.mk (n:=10) (c:=10) ⟨_,_,b.at⟩ (by decide) (by rfl)
section
variable {s0 s s':AS} {l pc ps pv pw n B:Nat} {Fc Fs Fv Fw F':List Nat} {c:gA} {x:aH} {v:List Int} {Gs:List (List Nat)}
theorem FH.JH {F:List Nat} {s:AS} {p n:Nat} {v:List Int} (h:FH F s p v n):∃ F0,FH F0 s p v n/\(∀ y∈F0,y∈F)/\(∀ y∈F0,s.h y≠none)/\∀ y∈F0,y≠p->¬ Tag s y 0:=by
 obtain ⟨i,lg,bh,hd,L,B,e,h2,⟨a1,a2,a3⟩,⟨c,j,k⟩⟩:=h;refine ⟨p::(ay lg++ay bh),⟨i,lg,bh,hd,L,B,e,by simp,⟨a1,fun y b=>by simp [b],a3⟩,⟨c,fun y b=>by simp [b],k⟩⟩,?_,?_,?_⟩
 ·intro y b;simp only [List.mem_cons,List.mem_append] at b;rcases b with rfl | b | b
  ·exact h2
  ·exact a2 y b
  ·exact j y b
 ·intro y b;simp only [List.mem_cons,List.mem_append] at b;rcases b with rfl | b | b
  ·rw [e];simp
  ·exact br.kZ a1 y b
  ·exact br.kZ c y b
 ·intro y b d ht;simp only [List.mem_cons,List.mem_append] at b;rcases b with rfl | b | b
  ·exact d rfl
  ·have:=ht.uniq (br.tag a1 y b);omega
  ·have:=ht.uniq (br.tag c y b);omega
theorem jE.Sx {F:List Nat} {s:AS} {p:Nat} {c:gA} (h:jE F s p c):∃ cs,Am.Own s p cs:=by
 obtain ⟨_,_,_,_,_,_,_,_,h,_⟩:=h;exact ⟨_,h⟩
theorem FH.Sx {F:List Nat} {s:AS} {p n:Nat} {v:List Int} (h:FH F s p v n):∃ cs,Am.Own s p cs:=by
 obtain ⟨_,_,_,_,_,_,h,_⟩:=h;exact ⟨_,h⟩
def XK (F:List Nat) (p:Nat) (a b:AS):Prop:=bD F a b/\wU p a b/\((∃ cs,Am.Own a p cs)->∃ cs,Am.Own b p cs)
theorem XK.ext {F:List Nat} {p:Nat} {a b:AS} (e:Ext a b):XK F p a b:=⟨e.mut,Ext.eY e,fun ⟨cs,h⟩=>⟨cs,h.ext e⟩⟩
theorem XK.trans {F:List Nat} {p:Nat} {a b c:AS} (h:XK F p a b) (d:XK F p b c):XK F p a c:=⟨h.1.trans d.1,h.2.1.trans d.2.1,fun x=>d.2.2 (h.2.2 x)⟩
set_option maxRecDepth 20000 in
theorem N0 (h:Wq s l pc ps pv pw Fc Fs Fv Fw c x c.v c.log.length x) (A:Ap s0 s ([l]::Fc::Fs::Fv::Fw::Gs)) (o:nN x B) (hB:B<=450) (t:List UInt8) (a1:∀ L,rM x t L->nP (nQ c.v t [] L)=aE t) (U:0<=c.v.getD 0 0/\c.v.getD 0 0<4611686018427387904) (hn:c.log.length+1<=2 ^ 29) (bm:c.JF.length+1<=2 ^ 29) :
  aa Tryz.prog cL [.ptr (some (l,0)),.str t] s fun r s'=>r=.bool true/\∃ n a2 c',Wq s' l pc ps pv pw n Fs a2 Fw c' x c'.v c'.log.length x/\Ap s0 s' ([l]::n::Fs::a2::Fw::Gs)/\bD (Fc++Fv) s s' /\
   ((aE t=false/\c'=c)\/(aE t=true/\∃ L,rM x t L/\c'=c.apply (nQ c.v t [] L))):=by
 have nl:l ∉ Fc:=fun i=>A.ij 1 0 rfl rfl (by decide) l i (by simp);have bo:=A.th 1 rfl;have ch:=A.th 3 rfl;refine u_ _ _ _ _ ⟨fun a b=>XK Fc pc a b,fun _ _ _ s'=>(aE t=false/\jE Fc s' pc c/\∀ y∈Fc,s'.h y≠none)\/(aE t=true/\∃ F' L,rM x t L/\jE F' s' pc (c.apply (nQ c.v t [] L))/\(∀ y∈F',y∈Fc\/s.h y=none)/\∀ y∈F',s'.h y≠none),fun s'=>jE Fc s' pc c/\∀ y∈Fc,s'.h y≠none,
  fun q _ v s'=>(q=10->∃ L,rM x t L/\br qZ 3 s' v L)/\(q=15->∃ l,v=.ptr (some (l,0))/\Am.Own s' l JR/\l≠pc/\(l∈Fc\/s.h l=none)),
  fun q _ v=>(q=11->∃ g,v=.aQ [.agg g,.int .i64 (if aE t=true then 0 else 2)]/\g.all AV.one=true/\g.length=21)/\(q=15->∃ l,v=.ptr (some (l,0))),
  fun a b e=>XK.ext e,fun a b c x y=>x.trans y,?_,?_,fun a b e g=>⟨g.1.ext e,fun y i=>Ext.there e (g.2 y i)⟩,⟨h.ca,bo⟩,fun s' _ _=>rfl,some (pc,0),by rw [h.own.at.av];rfl,fun s' x _=>⟨some (pc,0),by rw [(h.own.mut x.1 nl).at.av];rfl,rfl⟩,fun s' _ _=>rfl,some (ps,0),by rw [h.own.at.av];rfl,fun s' x _=>⟨some (ps,0),by rw [(h.own.mut x.1 nl).at.av];rfl,rfl⟩,fun lH bs ci _=>?_,⟨.bad,(fun h=>by cases h),(fun h=>by cases h)⟩,fun v20 _=>⟨fun gu bx ck X M=>?_,⟨_,(fun _=>⟨JR,rfl,rfl,rfl⟩),(fun h=>by cases h)⟩,fun cl a3=>?_⟩⟩
 ·rintro q ks v a b e (⟨p,w,Y⟩ | ⟨p,F',L,w,Y,g4,g5⟩)
  ·exact .inl ⟨p,w.ext e,fun y i=>Ext.there e (Y y i)⟩
  ·exact .inr ⟨p,F',L,w,Y.ext e,g4,fun y i=>Ext.there e (g5 y i)⟩
 ·rintro q ks v a b x1 ⟨p,w⟩;refine ⟨fun Z=>?_,fun Z=>?_⟩
  ·obtain ⟨L,d,g⟩:=p Z;exact ⟨L,d,br.OM g x1.2.1 (by decide) (by decide) (by decide)⟩
  ·obtain ⟨l',rfl,g,F,nw⟩:=w Z;exact ⟨l',rfl,x1.2.1 _ _ _ g (by decide) (by decide) (fun _=>F),F,nw⟩
 ·refine (RN (h.se.mut bs.1 (A.ij 1 2 rfl rfl (by decide))) o (by omega) t).mono ?_;rintro v s' ⟨L,d,g,_⟩;exact ⟨g.ew.ext,⟨(fun _=>⟨L,d,g.u6⟩),(fun h=>by cases h)⟩,(fun h=>by cases h),(fun h=>by cases h)⟩
 ·obtain ⟨L,d,g⟩:=X.1.1 rfl;have hm:=a1 L d;refine (NT (dL:=t) (uM:=[]) M.1 M.2 br.nil g U hn bm).mono ?_;have b0:NS c t [] L=nQ c.v t [] L:=rfl;rw [b0,hm];rintro r s' (⟨k,⟨gg,rfl,p,w⟩,e⟩ | ⟨j,⟨gg,rfl,p,w⟩,F',D,m,hF,ht,hK⟩)
  ·exact ⟨_,_,rfl,⟨XK.ext e,.inl ⟨k,M.1.ext e,fun y i=>Ext.there e (M.2 y i)⟩⟩,⟨(fun h=>by cases h),(fun h=>by cases h)⟩,(fun _=>⟨gg,by rw [k];rfl,p,w⟩),(fun h=>by cases h)⟩
  ·exact ⟨_,_,rfl,⟨⟨m,hK,fun _=>D.Sx⟩,.inr ⟨j,F',L,d,D,fun y i=>(hF y i).elim .inl fun h=>uP bx.1 h,ht⟩⟩,⟨(fun h=>by cases h),(fun h=>by cases h)⟩,(fun _=>⟨gg,by rw [j];rfl,p,w⟩),(fun h=>by cases h)⟩
 obtain ⟨b1,rfl,b2,a4⟩:=a3.1 rfl;refine ⟨_,_,rfl,fun cm a5 b3 _=>ak.intro b3 rfl fun a6 mP O=>⟨O.ext,⟨(fun h=>by cases h),(fun _=>⟨a6,rfl,O.own,?_,uP a5.1 O.no⟩)⟩,(fun h=>by cases h),(fun _=>⟨a6,rfl⟩)⟩,⟨.ptr (some (0,0)),(fun h=>by cases h),(fun _=>⟨0,rfl⟩)⟩,fun cn a7=>?_⟩
 ·rintro rfl;obtain ⟨cs,ab⟩:=a5.2.2 h.ca.Sx;have:=O.no;rw [ab] at this;cases this
 obtain ⟨b4,rfl⟩:=a7.2 rfl;refine ⟨_,rfl,fun j8 b5 b6 X D=>?_⟩;obtain ⟨l',G,a8,ad,ae⟩:=X.2.2.1.2 rfl;simp only [AV.ptr.injEq,Option.some.injEq,Prod.mk.injEq,and_true] at G;subst G;refine ⟨⟨b2,congrArg some a4.symm⟩,bz.own b6 a8 (vs:=b1) (by rw [a4];exact Nat.le_refl _) fun mG al=>?_⟩;have a9:bD Fc s mG:=b5.1.new al.mut fun y i=>by obtain rfl:=List.mem_singleton.1 i;exact ae
 have first:∃ n c',jE n mG pc c'/\(∀ y∈n,y∈Fc\/s.h y=none)/\(∀ y∈n,mG.h y≠none)/\((aE t=false/\c'=c)\/(aE t=true/\∃ L,rM x t L/\c'=c.apply (nQ c.v t [] L))):=by
  have put:∀ {F':List Nat} {c':gA},jE F' j8 pc c'->∃ F0,jE F0 mG pc c'/\(∀ y∈F0,y∈F')/\∀ y∈F0,mG.h y≠none:=fun D=>by
   obtain ⟨F0,H,I,J,k4⟩:=D.JH;have K:b4 ∉ F0:=fun i=>k4 _ i ad (Own.tag a8);exact ⟨F0,H.mut al.mut (fun y i=>by obtain rfl:=List.mem_singleton.1 i;exact K),I,Hr J al.mut fun y i=>by obtain rfl:=List.mem_singleton.1 i;exact K⟩
  rcases D with ⟨k,z,_⟩ | ⟨j,F',L,d,z,am,_⟩
  ·obtain ⟨F0,H,I,J⟩:=put z;exact ⟨F0,c,H,fun y i=>.inl (I y i),J,.inl ⟨k,rfl⟩⟩
  ·obtain ⟨F0,H,I,J⟩:=put z;exact ⟨F0,_,H,fun y i=>am y (I y i),J,.inr ⟨j,L,d,rfl⟩⟩
 obtain ⟨n,c',a',ba,bb,C⟩:=first
 obtain ⟨W,A'⟩:=h.WE A a9 a' ba bb;have b7:c'.v=c.v.set 0 (IntKind.wrap .u64 (c.v.getD 0 0+1))/\c'.log.length=c.log.length+1\/aE t=false/\c'=c:=by
  rcases C with h | ⟨_,L,_,rfl⟩
  ·exact .inr h
  ·exact .inl ⟨rfl,by simp [gA.apply]⟩
 have bc:l ∉ Fv:=fun i=>A'.ij 3 0 rfl rfl (by decide) l i (by simp);have bd:=A'.th 3 rfl
 let R2:AV->AS->Prop:=fun _ s'=>(aE t=false/\FH Fv s' pv c.v c.log.length/\∀ y∈Fv,s'.h y≠none)\/(aE t=true/\∃ F',FH F' s' pv (c.v.set 0 (IntKind.wrap .u64 (c.v.getD 0 0+1))) (c.log.length+1)/\(∀ y∈F',y∈Fv\/mG.h y=none)/\∀ y∈F',s'.h y≠none)
 refine ⟨fun a b=>XK Fv pv a b,fun _ _ v s'=>R2 v s',fun s'=>FH Fv s' pv c.v c.log.length/\∀ y∈Fv,s'.h y≠none,
  fun q _ v s'=>(q=10->∃ L,rM x t L/\br qZ 3 s' v L/\L.length<=B)/\(q=15->∃ l,v=.ptr (some (l,0))/\Am.Own s' l JR/\l≠pv/\(l∈Fv\/mG.h l=none)),
  fun q _ v=>(q=11->∃ g,v=.aQ [.agg g,.bool (aE t)]/\g.all AV.one=true/\g.length=21)/\(q=15->∃ l,v=.ptr (some (l,0))),
  fun a b e=>XK.ext e,fun a b c x y=>x.trans y,?_,?_,fun a b e g=>⟨g.1.ext e,fun y i=>Ext.there e (g.2 y i)⟩,⟨W.rc,bd⟩,fun s' _ _=>rfl,some (pv,0),by rw [W.own.at.av];rfl,fun s' x _=>⟨some (pv,0),by rw [(W.own.mut x.1 bc).at.av];rfl,rfl⟩,fun s' _ _=>rfl,some (pw,0),by rw [W.own.at.av];rfl,fun s' x _=>⟨some (pw,0),by rw [(W.own.mut x.1 bc).at.av];rfl,rfl⟩,fun cp b8 cr _=>?_,⟨.bad,(fun h=>by cases h),(fun h=>by cases h)⟩,fun cu _=>⟨fun cv b9 cw X M=>?_,⟨_,(fun _=>⟨JR,rfl,rfl,rfl⟩),(fun h=>by cases h)⟩,fun cx be=>?_⟩⟩
 ·rintro q ks v a b e (⟨p,w,Y⟩ | ⟨p,F',Y,g4,g5⟩)
  ·exact .inl ⟨p,w.ext e,fun y i=>Ext.there e (Y y i)⟩
  ·exact .inr ⟨p,F',Y.ext e,g4,fun y i=>Ext.there e (g5 y i)⟩
 ·rintro q ks v a b x1 ⟨p,w⟩;refine ⟨fun Z=>?_,fun Z=>?_⟩
  ·obtain ⟨L,d,g,Q⟩:=p Z;exact ⟨L,d,br.OM g x1.2.1 (by decide) (by decide) (by decide),Q⟩
  ·obtain ⟨l',rfl,g,F,nw⟩:=w Z;exact ⟨l',rfl,x1.2.1 _ _ _ g (by decide) (by decide) (fun _=>F),F,nw⟩
 ·refine (Jx (W.re.mut b8.1 (A'.ij 3 4 rfl rfl (by decide))) o (by omega) t).mono ?_;rintro v s' ⟨L,d,g,Q⟩;exact ⟨g.ew.ext,⟨(fun _=>⟨L,d,g.u6,Q⟩),(fun h=>by cases h)⟩,(fun h=>by cases h),(fun h=>by cases h)⟩
 ·obtain ⟨L,d,g,Q⟩:=X.1.1 rfl;have hm:=a1 L d;refine (Ma (dL:=t) (uM:=[]) M.1 M.2 (br.nil.sl bS) (g.sl d_) (by simp) (by omega) hn).mono ?_;rw [hm];rintro r s' (⟨k,⟨gg,rfl,p,w⟩,e⟩ | ⟨j,⟨gg,rfl,p,w⟩,F',D,m,hF,ht,hK⟩)
  ·exact ⟨_,_,rfl,⟨XK.ext e,.inl ⟨k,M.1.ext e,fun y i=>Ext.there e (M.2 y i)⟩⟩,⟨(fun h=>by cases h),(fun h=>by cases h)⟩,(fun _=>⟨gg,by rw [k],p,w⟩),(fun h=>by cases h)⟩
  ·exact ⟨_,_,rfl,⟨⟨m,hK,fun _=>D.Sx⟩,.inr ⟨j,F',D,fun y i=>(hF y i).elim .inl fun h=>uP b9.1 h,ht⟩⟩,⟨(fun h=>by cases h),(fun h=>by cases h)⟩,(fun _=>⟨gg,by rw [j],p,w⟩),(fun h=>by cases h)⟩
 obtain ⟨b',rfl,bh,S⟩:=be.1 rfl;refine ⟨_,_,rfl,fun Iw bi cb _=>ak.intro cb rfl fun bj Rm R=>⟨R.ext,⟨(fun h=>by cases h),(fun _=>⟨bj,rfl,R.own,?_,uP bi.1 R.no⟩)⟩,(fun h=>by cases h),(fun _=>⟨bj,rfl⟩)⟩,⟨.ptr (some (0,0)),(fun h=>by cases h),(fun _=>⟨0,rfl⟩)⟩,fun cy bk=>?_⟩
 ·rintro rfl;obtain ⟨cs,ab⟩:=bi.2.2 W.rc.Sx;have:=R.no;rw [ab] at this;cases this
 obtain ⟨cc,rfl⟩:=bk.2 rfl;refine ⟨_,rfl,fun cd ce cf X D=>?_⟩;obtain ⟨l',G,bl,an,ao⟩:=X.2.2.1.2 rfl;simp only [AV.ptr.injEq,Option.some.injEq,Prod.mk.injEq,and_true] at G;subst G;refine ⟨⟨bh,congrArg some S.symm⟩,bz.own cf bl (vs:=b') (by rw [S];exact Nat.le_refl _) fun Tj ar=>?_⟩;have aw:bD Fv mG Tj:=ce.1.new ar.mut fun y i=>by obtain rfl:=List.mem_singleton.1 i;exact ao
 have put:∀ {F':List Nat} {v':List Int} {n':Nat},FH F' cd pv v' n'->∃ F0,FH F0 Tj pv v' n'/\(∀ y∈F0,y∈F')/\∀ y∈F0,Tj.h y≠none:=fun D=>by
  obtain ⟨F0,H,I,J,k4⟩:=D.JH;have K:cc ∉ F0:=fun i=>k4 _ i an (Own.tag bl);exact ⟨F0,H.mut ar.mut (fun y i=>by obtain rfl:=List.mem_singleton.1 i;exact K),I,Hr J ar.mut fun y i=>by obtain rfl:=List.mem_singleton.1 i;exact K⟩
 have MM:bD (Fc++Fv) s Tj:=(a9.mono fun y i=>by simp [i]).trans (aw.mono fun y i=>by simp [i]);refine ⟨by cases aE t <;> rfl,?_⟩;rcases D with ⟨k,z,_⟩ | ⟨j,F',z,am,_⟩
 ·obtain ⟨F0,H,I,J⟩:=put z;obtain ⟨W',a0⟩:=W.V3 A' aw H (fun y i=>.inl (I y i)) J;rcases C with ⟨_,rfl⟩ | ⟨i,_⟩
  ·exact ⟨n,F0,_,W',a0,MM,.inl ⟨k,rfl⟩⟩
  ·rw [k] at i;cases i
 ·obtain ⟨F0,H,I,J⟩:=put z;obtain ⟨W',a0⟩:=W.V3 A' aw H (fun y i=>am y (I y i)) J;rcases b7 with ⟨e1,e2⟩ | ⟨k,_⟩
  ·rw [<- e1,<- e2] at W';exact ⟨n,F0,_,W',a0,MM,C⟩
  ·rw [j] at k;cases k
end
end Go.Proofs.YtohgmogbabkkeaaGreat
end

section
namespace Go.Proofs.YtohgmogbabkkeaaGreat
open Go.Am Go.au Go.aB Go.bM
def vN (n:Nat):List Int:=(n:Int)::List.replicate 15 0
theorem Vu (n:Nat):(vN n).length=16:=by simp [vN]
theorem Vv (n:Nat):(vN n).getD 0 0=n:=rfl
theorem Sy (n i:Nat) (hi:i<1000000):under (vN n) ⟨1,(i:Int)+1⟩=decide (i<n):=by
 have hm:(⟨1,(i:Int)+1⟩:aK).may=true:=aK.gB.2 (by simp only;omega);rw [under,hm,Bool.true_and,show (vN n).getD ((⟨1,(i:Int)+1⟩:aK).r.toNat - 1) 0=(n:Int) from rfl,decide_eq_decide];simp only;omega
theorem JK (a b:Nat):mR (vN a) (vN b)=vN (max a b):=by
 have h:mR (vN a) (vN b)=(if (b:Int)>a then (b:Int) else a)::List.replicate 15 0:=rfl;rw [h,vN];congr 1;split <;> omega
theorem Sz {n:Nat}:∀ x∈vN n,x=(n:Int)\/x=0:=by
 intro x b;rcases List.mem_cons.1 b with h | h
 ·exact .inl h
 ·exact .inr (List.eq_of_mem_replicate h)
theorem A8 {n:Nat} (h:n<1000000):q7 (vN n)=true:=by
 rw [q7,List.all_eq_true];intro x b;rcases Sz x b with rfl | rfl <;> simp <;> omega
theorem SA {n:Nat} (h:n<1000000):Wc (vN n):=⟨Vu n,fun x b=>by rcases Sz x b with rfl | rfl <;> omega⟩
theorem Mf:∀ (l:List ey) {x:aH} {B:Nat},nN x B->(∀ i∈l,i.may=true)->∀ d,(x.ep l).2.has d=true↔x.has d=true\/∃ i∈l,i.dot=d
 | [],x,B,_,_,d=>by simp [LG]
 | i::l,x,B,h,hm,d=>by
  have hi:=hm i (by simp);have b:i.dot.may=true:=by simp only [ey.may,Bool.and_eq_true] at hi;exact hi.1
  rw [ql,Mf l (uG h hi) (fun j hj=>hm j (by simp [hj])),AD h b];simp only [Bool.or_eq_true,decide_eq_true_eq,List.mem_cons,exists_eq_or_imp];constructor
  ·rintro ((h | rfl) | h)
   ·exact .inl h
   ·exact .inr (.inl rfl)
   ·exact .inr (.inr h)
  ·rintro (h | rfl | h)
   ·exact .inl (.inl h)
   ·exact .inl (.inr rfl)
   ·exact .inr h
theorem HF:∀ (l:List aK) {x:aH} {B:Nat},nN x B->(∀ d∈l,d.may=true)->∀ d,(x.ep (l.map eX)).2.live d=if d∈l then none else x.live d
 | [],x,B,_,_,d=>by simp [LG]
 | a::l,x,B,h,hm,d=>by
  have hi:(eX a).may=true:=xp (hm a (by simp));rw [List.map_cons,ql,HF l (uG h hi) (fun j hj=>hm j (by simp [hj])),qO h];by_cases b:d=a
  ·subst b;simp [eX]
  ·by_cases h2:d∈l <;> simp [b,h2,eX]
theorem Sv.ok {x x':aH} {t d:List UInt8} {N:Nat} (h:Sv x x' t d) (o:nN x N) (w:∀ e,x.has e=true->e.c<=N) (C:N<=1000):nN x' (N+1)/\(∀ e,x'.has e=true->e.c<=(N+1:Nat))/\(aE t=true->aE d=true->∃ d0,x'.live d0=some ⟨t,d⟩)/\∀ e,x.has e=true->x'.has e=true:=by
 rcases h with ⟨n,rfl⟩ | ⟨n,m,l,D,p,z,kd,rfl⟩
 ·exact ⟨o.mono (by omega),fun e j=>by have:=w e j;omega,(fun F h2=>by rw [F,h2] at n;cases n),fun e j=>j⟩
 ·have G:m<=N:=by
   rcases z with rfl | h
   ·omega
   ·exact w _ h
  have hd:(⟨1,m+1⟩:aK).may=true:=aK.gB.2 (by simp only;omega);have hi:(⟨⟨1,m+1⟩,⟨t,d⟩,false⟩:ey).may=true:=by simp [ey.may,hd,Key.may,n]
  have y:∀ e∈l,x.has e=true:=fun e j=>kd.has o j;have A:∀ i∈l.map eX,i.may=true:=Hs fun e j=>aH.uF (y e j);have r:∀ i∈(⟨⟨1,m+1⟩,⟨t,d⟩,false⟩:ey)::l.map eX,i.may=true:=fun i h=>by
   rcases List.mem_cons.1 h with rfl | h
   ·exact hi
   ·exact A i h
  have k:=Mf _ o r;refine ⟨o.add n hd kd,fun e j=>?_,fun _ _=>⟨⟨1,m+1⟩,?_⟩,fun e j=>(k e).2 (.inl j)⟩
  ·rcases (k e).1 j with h | ⟨i,h,rfl⟩
   ·have:=w e h;omega
   ·rcases List.mem_cons.1 h with rfl | h
    ·simp only;omega
    ·obtain ⟨b,hb,rfl⟩:=List.mem_map.1 h;have:=w b (y b hb);simp only [eX];omega
  ·rw [ql];simp only;rw [HF l (uG o hi) (fun e j=>aH.uF (y e j)),if_neg (fun B=>by have:=y _ B;rw [p] at this;cases this),qO o];simp [p]
theorem rM.cj {x:aH} {t:List UInt8} {L:List DX} {B:Nat} (h:rM x t L) (o:nN x B):L.length<=B:=by
 obtain ⟨U,c,hm⟩:=o.sz;have:=lf (jN h.Ql) fun d hd=>hm d ?_
 ·simp only [List.length_map] at this;omega
 ·obtain ⟨e,b,rfl⟩:=List.mem_map.1 hd;exact .inr (.inl (by rw [(h.mem e).1 b];rfl))
theorem SB {x:aH} {t:List UInt8} {L:List DX} {B n:Nat} (o:nN x B) (p:B<=1000) (e:n<1000000) (h:rM x t L):nP (nQ (vN n) t [] L)=aE t:=by
 have c:(⟨1,IntKind.wrap .u64 ((n:Int)+1)⟩:aK)=⟨1,(n:Int)+1⟩:=by rw [fy (by omega)]
 have hm:(⟨1,(n:Int)+1⟩:aK).may=true:=aK.gB.2 (by simp only;omega);have hlen:=h.cj o;have i:wT (nQ (vN n) t [] L)=true:=by
  rw [wT,decide_eq_true_eq];show (n:Int)=IntKind.wrap .u64 (IntKind.wrap .u64 ((n:Int)+1) - 1);rw [fy (n:=(n:Int)+1) (by omega),fy (by omega)];omega
 have d:wS L=true:=by
  rw [wS,List.all_eq_true];intro j hj;have b:j<L.length:=by simpa using hj
  rw [uO,List.getElem?_eq_getElem b];have k:=(h.mem L[j]).1 (List.getElem_mem b);obtain ⟨l,h2⟩:=o.lv _ _ k;simp only [Key.may,Bool.and_eq_true] at h2;simp only [aH.uF l,h2.2,Bool.true_and,Bool.or_eq_true,decide_eq_true_eq];by_cases m:j=0
  ·exact .inl m
  ·right;rw [List.getElem?_eq_getElem (show j - 1<L.length by omega)];have:=List.pairwise_iff_getElem.1 h.Ql (j - 1) j (by simp;omega) (by simpa using b) (by omega);simpa using this
 have hd:((vN n).drop 3).all (fun z=>decide (z=0))=true:=by simp [vN]
 simp only [nP,sr,i,show (nQ (vN n) t [] L).to=L from rfl,d,show (nQ (vN n) t [] L).jP=vN n from rfl,A8 e,hd,show (nQ (vN n) t [] L).id=(⟨1,(n:Int)+1⟩:aK) from c,hm,show (nQ (vN n) t [] L).dL=t from rfl,show (nQ (vN n) t [] L).uM=[] from rfl];simp [show L.length<=1024 by omega]
structure WI (c:gA) (x:aH) (n N:Nat):Prop where
 ok:nN x N
 cnt:∀ d,x.has d=true->d.c<=N
 v:c.v=vN n
 ln:c.log.length=n
 bl:c.JF=(List.range n).map fun i=>vN (i+1)
 ev:∀ (i:Nat) (e:Ev),c.log[i]? = some e->e.id=⟨1,(i:Int)+1⟩/\e.uM=[]/\e.to.length<=1000
theorem WI.zero:WI gA.zero aH.zero 0 0:=⟨nN.zero,(fun d h=>by rw [aH.has,show aH.zero.v=eW from rfl,show aH.zero.ex=[] from rfl,RF] at h;cases h),rfl,rfl,rfl,fun i e h=>by simp [gA.zero] at h⟩
section
variable {c:gA} {x x':aH} {n N:Nat} {t d:List UInt8}
theorem WI.sub (h:WI c x n N) (s:Sv x x' t d) (b:N<=1000):WI c x' n (N+1) :=
 let k:=s.ok h.ok h.cnt b
 ⟨k.1,k.2.1,h.v,h.ln,h.bl,h.ev⟩
theorem WI.SC (h:WI c x n N) (l:n<1000000) (m:N<=1000) {L:List DX} (j:rM x t L):WI (c.apply (nQ c.v t [] L)) x (n+1) N:=by
 have d:(nQ c.v t [] L).id=(⟨1,(n:Int)+1⟩:aK):=by
  rw [h.v];show (⟨1,IntKind.wrap .u64 ((n:Int)+1)⟩:aK)=_;rw [fy (by omega)]
 have hv:c.v.set ((nQ c.v t [] L).id.r.toNat - 1) (IntKind.wrap .u64 (c.v.getD ((nQ c.v t [] L).id.r.toNat - 1) 0+1))=vN (n+1):=by
  rw [d,h.v];show IntKind.wrap .u64 ((n:Int)+1)::List.replicate 15 0=_;rw [fy (by omega)];rfl
 refine ⟨h.ok,h.cnt,hv,by simp [gA.apply,h.ln],?_,fun i e b=>?_⟩
 ·simp only [gA.apply,hv,h.bl,List.range_succ,List.map_append,List.map_cons,List.map_nil]
 ·simp only [gA.apply] at b;by_cases hi:i<c.log.length
  ·rw [List.getElem?_append_left hi] at b;exact h.ev i e b
  ·rw [List.getElem?_append_right (by omega)] at b;obtain ⟨k,h2⟩:i=c.log.length/\nQ c.v t [] L=e:=by
    rcases Nat.eq_or_lt_of_le (show c.log.length<=i by omega) with h | h
    ·subst h;simp at b;exact ⟨rfl,b⟩
    ·rw [List.getElem?_eq_none (by simp;omega)] at b;cases b
   subst k h2;refine ⟨by rw [d,h.ln],rfl,?_⟩;have:=j.cj h.ok;show L.length<=1000;omega
end
end Go.Proofs.YtohgmogbabkkeaaGreat
end

section
namespace Go.Proofs.YtohgmogbabkkeaaGreat
open Go.Am Go.au Go.aB Go.bM
structure Wp where
 l:Nat
 pc:Nat
 ps:Nat
 pv:Nat
 pw:Nat
def Wo (s0 s:AS) (w:Wp) (c:gA) (x:aH) (n N:Nat) (Gs:List (List Nat)):Prop :=
 WI c x n N/\∃ Fc Fs Fv Fw,Wq s w.l w.pc w.ps w.pv w.pw Fc Fs Fv Fw c x c.v c.log.length x/\Ap s0 s ([w.l]::Fc::Fs::Fv::Fw::Gs)
def Kp (Gs:List (List Nat)) (s s':AS):Prop:=∃ M,bD M s s'/\∀ G∈Gs,Dj M G
section
variable {s0 s s':AS} {w:Wp} {n N:Nat} {c:gA} {x:aH} {Gs:List (List Nat)} {G G':List Nat}
theorem Ap.gs {a b c d e:List Nat} (A:Ap s0 s (a::b::c::d::e::Gs)) (i:G∈Gs):Dj a G/\Dj b G/\Dj c G/\Dj d G/\Dj e G:=by
 obtain ⟨j,hj⟩:=List.mem_iff_getElem?.1 i;exact ⟨A.ij 0 (j+5) rfl (by simpa using hj) (by omega),A.ij 1 (j+5) rfl (by simpa using hj) (by omega),A.ij 2 (j+5) rfl (by simpa using hj) (by omega),A.ij 3 (j+5) rfl (by simpa using hj) (by omega),A.ij 4 (j+5) rfl (by simpa using hj) (by omega)⟩
theorem Dj.app {a b g:List Nat} (h:Dj a g) (d:Dj b g):Dj (a++b) g:=fun y c=>by
 rcases List.mem_append.1 c with c | c
 ·exact h y c
 ·exact d y c
theorem Wo.ap (h:Wo s0 s w c x n N Gs):Ext s0 s:=by obtain ⟨_,_,_,_,_,_,A⟩:=h;exact A.1
theorem Wo.ext (h:Wo s0 s w c x n N Gs) (e:Ext s s'):Wo s0 s' w c x n N Gs:=by
 obtain ⟨hi,Fc,Fs,Fv,Fw,W,A⟩:=h;exact ⟨hi,Fc,Fs,Fv,Fw,W.ext e,A.ext e⟩
theorem Wo.begin (A:Ap s0 s Gs):aa Tryz.prog kh [] s fun r s'=>∃ w:Wp,r=.aQ [.ptr (some (w.l,0)),.bool true]/\Wo s0 s' w gA.zero aH.zero 0 0 Gs/\Ext s s':=by
 refine (Su A).mono ?_;rintro r s' ⟨l,pc,ps,pv,pw,Fc,Fs,Fv,Fw,rfl,W,b,e⟩;exact ⟨⟨l,pc,ps,pv,pw⟩,rfl,⟨WI.zero,Fc,Fs,Fv,Fw,W,b⟩,e⟩
theorem Wo.sub (h:Wo s0 s w c x n N Gs) (k:N<=200) (t d:List UInt8):aa Tryz.prog dF [.ptr (some (w.l,0)),.str t,.str d] s fun r s'=>r=.bool true/\∃ x',Sv x x' t d/\Wo s0 s' w c x' n (N+1) Gs/\Kp Gs s s':=by
 obtain ⟨hi,Fc,Fs,Fv,Fw,W,A⟩:=h;refine (JJ W A hi.ok (by omega) (fun d hd=>by have:=hi.cnt d hd;omega) t d).mono ?_;rintro r s' ⟨rfl,b,e,x',W',j,hs,m⟩;exact ⟨rfl,x',hs,⟨hi.sub hs (by omega),Fc,b,Fv,e,W',j⟩,_,m,fun G i=>Dj.app (A.gs i).2.2.1 (A.gs i).2.2.2.2⟩
theorem Wo.SC (h:Wo s0 s w c x n N Gs) (z:N<=200) (B:n<=1000) (t:List UInt8):aa Tryz.prog cL [.ptr (some (w.l,0)),.str t] s fun r s'=>r=.bool true/\Kp Gs s s'/\((aE t=false/\Wo s0 s' w c x n N Gs)\/(aE t=true/\∃ L,rM x t L/\Wo s0 s' w (c.apply (nQ c.v t [] L)) x (n+1) N Gs)):=by
 obtain ⟨hi,Fc,Fs,Fv,Fw,W,A⟩:=h;refine (N0 W A hi.ok (by omega) t (fun L d=>by rw [hi.v];exact SB hi.ok (by omega) (by omega) d) (by rw [hi.v,Vv];omega) (by rw [hi.ln];omega) (by rw [hi.bl];simp;omega)).mono ?_;rintro r s' ⟨rfl,e,i,c',W',o,m,b⟩;refine ⟨rfl,⟨_,m,fun G p=>Dj.app (A.gs p).2.1 (A.gs p).2.2.2.1⟩,?_⟩;rcases b with ⟨k,rfl⟩ | ⟨j,L,y,rfl⟩
 ·exact .inl ⟨k,hi,e,Fs,i,Fw,W',o⟩
 ·exact .inr ⟨j,L,y,hi.SC (by omega) (by omega) y,e,Fs,i,Fw,W',o⟩
theorem Wo.V4 (h:Wo s0 s w c x n N (G::Gs)) (m:bD G s s') (b:∀ y∈G',y∈G\/s.h y=none) (ht:∀ y∈G',s'.h y≠none):Wo s0 s' w c x n N (G'::Gs):=by
 obtain ⟨hi,Fc,Fs,Fv,Fw,W,A⟩:=h;exact ⟨hi,Fc,Fs,Fv,Fw,W.mut m (A.ij 5 0 rfl rfl (by decide)) (A.ij 5 1 rfl rfl (by decide)) (A.ij 5 2 rfl rfl (by decide)) (A.ij 5 3 rfl rfl (by decide)) (A.ij 5 4 rfl rfl (by decide)),Ap.oO (A:=[[w.l],Fc,Fs,Fv,Fw]) A m b ht⟩
theorem Wo.add (h:Wo s0 s w c x n N Gs) (e:Ext s s') (b:∀ y∈G,s.h y=none) (ht:∀ y∈G,s'.h y≠none):Wo s0 s' w c x n N (G::Gs):=by
 obtain ⟨hi,Fc,Fs,Fv,Fw,W,A⟩:=h;refine ⟨hi,Fc,Fs,Fv,Fw,W.ext e,(A.new e b ht).perm ?_⟩;exact (List.perm_middle (l₁:=[[w.l],Fc,Fs,Fv,Fw]) (l₂:=Gs) (a:=G)).symm
theorem Wo.perm {Wg:List (List Nat)} (h:Wo s0 s w c x n N Gs) (p:Gs.Perm Wg):Wo s0 s w c x n N Wg:=by
 obtain ⟨hi,Fc,Fs,Fv,Fw,W,A⟩:=h;exact ⟨hi,Fc,Fs,Fv,Fw,W,A.perm (.cons _ (.cons _ (.cons _ (.cons _ (.cons _ p)))))⟩
theorem Wo.aC (h:Wo s0 s w c x n N Gs):av s w.l 0=some (.ptr (some (w.pc,0)))/\av s w.l (0+1)=some (.ptr (some (w.ps,0))):=by
 obtain ⟨hi,Fc,Fs,Fv,Fw,W,A⟩:=h;exact ⟨by rw [W.own.at.av];rfl,by rw [W.own.at.av];rfl⟩
/-! ### feeds -/
structure FI (G:List Nat) (s:AS) (p:Nat) (f:List UInt8->Option Dv) (k n:Nat):Prop where
 fe:lI G s p FM f k
 pl:∀ a d,f a=some d->d.place<=n/\d.hand.length<=d.place
variable {p k:Nat} {f:List UInt8->Option Dv}
theorem FI.mono {n':Nat} (h:FI G s p f k n) (c:n<=n'):FI G s p f k n':=⟨h.fe,fun a d b=>by have:=h.pl a d b;omega⟩
theorem FI.keep {Gs:List (List Nat)} (h:FI G s p f k n) (b:Kp Gs s s') (c:G∈Gs):FI G s' p f k n:=by
 obtain ⟨M,m,d⟩:=b;exact ⟨h.fe.mut m (d G c),h.pl⟩
theorem FI.ext (h:FI G s p f k n) (e:Ext s s'):FI G s' p f k n:=⟨h.fe.ext e,h.pl⟩
theorem Wo.WH (h:Wo s0 s w c x n N (G::Gs)) (F:FI G s p f k n) (o:N<=1000) (r:n<=1000):∃ Fc Fs,Vs G Fc Fs s p w.pc w.ps FM f k c x:=by
 obtain ⟨hi,Fc,Fs,Fv,Fw,W,A⟩:=h;have hb:=W.se.Wy hi.ok;refine ⟨Fc,Fs,F.fe,A.th 5 rfl,W.ca,W.se,A.th 1 rfl,A.th 2 rfl,A.ij 5 1 rfl rfl (by decide),A.ij 5 2 rfl rfl (by decide),by rw [hi.bl,hi.ln];simp,by rw [hi.ln];omega,fun e j=>?_,by omega,fun a d l=>by rw [hi.ln];exact F.pl a d l⟩;obtain ⟨i,b⟩:=List.mem_iff_getElem?.1 j;obtain ⟨_,m,h2⟩:=hi.ev i e b;rw [m];exact ⟨by simp,by omega⟩
theorem Wo.feed (h:Wo s0 s w c x n N Gs):aa Tryz.prog gF [] s fun v s1=>aM s1/\aa Tryz.prog ng [v] s1 fun r s'=>∃ p G,r=.ptr (some (p,0))/\Wo s0 s' w c x n N (G::Gs)/\FI G s' p (fun _=>none) 0 n/\Ext s s':=by
 refine aa.use (Qg s) ?_;rintro v s1 ⟨hv,e1⟩ w1;refine ⟨w1,(T5 hv (by decide)).mono ?_⟩;rintro r s' ⟨p,G,rfl,b,i,ht,e⟩;exact ⟨p,G,rfl,(h.ext e1).add e i ht,⟨b,fun a d j=>by cases j⟩,e1.trans e⟩
theorem Wo.attach (h:Wo s0 s w c x n N (G::Gs)) (F:FI G s p f k n) (name:List UInt8) {bv:AV} {b v:List Int} (hb:gy s bv b) (B:aE name=true) (C:f name=none) (D:k<64) (H:FL FM name b v) :
  aa Tryz.prog dx [.ptr (some (p,0)),.str name,bv] s fun r s'=>r=.int .i64 0/\∃ G',Wo s0 s' w c x n N (G'::Gs)/\FI G' s' p (jF f name (some ⟨v,0,[]⟩)) (k+1) n/\bD G s s':=by
 have j:∀ y∈G,s.h y≠none:=by
  obtain ⟨_,Fc,Fs,Fv,Fw,W,A⟩:=h;exact A.th 5 rfl
 refine (Qd F.fe j (by decide) name hb fun _ _=>H).mono ?_;rintro r s' (⟨l,_⟩ | ⟨_,rfl,G',I,m,o,z⟩)
 ·exact absurd ⟨B,C,D⟩ l
 ·refine ⟨rfl,G',h.V4 m o z,⟨I,fun a d i=>?_⟩,m⟩;by_cases e:a=name
  ·rw [jF,if_pos e] at i;obtain rfl:=Option.some.inj i;simp
  ·rw [jF,if_neg e] at i;exact F.pl a d i
theorem JL (P:Ev->Bool) (stop:Nat->Bool):∀ (l:List (Ev×List Int)) (k:Nat),(scan P stop l k).2<=l.length/\(scan P stop l k).1.length<=(scan P stop l k).2
 | [],k=>by simp [scan]
 | a::l,k=>by
  have b:=JL P stop l (k+1);have h2:=JL P stop l k;simp only [scan];split
  ·split
   ·simp
   ·simp;omega
  ·simp;omega
theorem Wo.SD (h:Wo s0 s w c x n N (G::Gs)) (F:FI G s p f k n) (C:N<=1000) (D:n<=1000) (name:List UInt8) {d:Dv} (i:aE name=true) (o:f name=some d) {most:Int} (hm:1<=most/\most<=16) :
  aa Tryz.prog eD [.ptr (some (p,0)),.str name,.int .i64 most,.ptr (some (w.pc,0)),.ptr (some (w.ps,0))] s fun r s'=>∃ (out:AV) (j:List mS) (G':List Nat),r=.aQ [out,.int .i64 0]/\br iu 21 s' out j/\(∀ m∈j,jZ (JQ m) s' m)/\j.map mS.ev=(wV name d c x most).1.map Prod.fst/\Wo s0 s' w c x n N (G'::Gs)/\FI G' s' p (jF f name (some (CE name d c x most))) k n/\bD G s s':=by
 obtain ⟨Fc,Fs,T⟩:=h.WH F C D;have hi:=h.1;refine (T9 T name most).mono ?_;rintro r s' (⟨b,_⟩ | ⟨_,K,out,j,G',hd,rfl,H,h2,h3,I,A,y,z⟩)
 ·rcases b with b | b
  ·exact absurd ⟨i,hm⟩ b
  ·rw [o] at b;cases b
 ·rw [o] at hd;obtain rfl:=Option.some.inj hd;refine ⟨out,j,G',rfl,H,h2,h3,h.V4 A.mut y z,⟨I,fun a e l=>?_⟩,A.mut⟩;by_cases B:a=name
  ·rw [jF,if_pos B] at l;obtain rfl:=Option.some.inj l;have J:=F.pl name d o;have:=JL (lE name d.cur x) (fun k=>!decide ((k:Int)<most)) ((tw c).drop d.place) 0;have hlen:(tw c).length=n:=by rw [JI (by rw [hi.bl,hi.ln];simp),hi.ln]
   simp only [List.length_drop,hlen] at this;simp only [CE,wV,List.length_append,List.length_map];omega
  ·rw [jF,if_neg B] at l;exact F.pl a e l
theorem Wo.Xb (h:Wo s0 s w c x n N (G::Gs)) (F:FI G s p f k n) (M:n<=1000) (name:List UInt8) {d:Dv} (l:aE name=true) (z:f name=some d) (o:∀ j,j<=d.hand.length->q7 (mE d j).cur=true) {j:Nat} (hj:j<=d.hand.length) :
  aa Tryz.prog e_ [.ptr (some (p,0)),.str name,.int .i64 j] s fun r s'=>∃ (bv:AV) (G':List Nat),r=.aQ [bv,.int .i64 0]/\br pK 1 s' bv (y5 FM name (mE d j).cur)/\Wo s0 s' w c x n N (ay bv::G'::Gs)/\FI G' s' p (jF f name (some (mE d j))) k n:=by
 have C:∀ y∈G,s.h y≠none:=by
  obtain ⟨_,Fc,Fs,Fv,Fw,W,A⟩:=h;exact A.th 5 rfl
 refine (Sq F.fe C (by decide) name j (fun e m i hi=>?_) (fun e m=>?_)).mono ?_
 ·rw [z] at m;obtain rfl:=Option.some.inj m;exact o i hi
 ·have:=F.pl name e m;omega
 ·rintro r s' (⟨b,_⟩ | ⟨_,O,j',bv,G',s1,J,hd,hle,rfl,g,K,L,D,H⟩)
  ·rcases b with b | b | b
   ·rw [l] at b;cases b
   ·omega
   ·have:=b d z;omega
  ·obtain rfl:j=j':=by omega
   rw [z] at hd;obtain rfl:=Option.some.inj hd;refine ⟨bv,G',rfl,g.u6,(h.V4 L.mut D H).add g.ew.ext g.new (br.kZ g.u6),⟨K.ext g.ew.ext,fun a e B=>?_⟩⟩;by_cases m:a=name
   ·rw [jF,if_pos m] at B;obtain rfl:=Option.some.inj B;have I:=F.pl name d z;rw [mE];split
    ·exact I
    ·simp only [List.length_drop];omega
   ·rw [jF,if_neg m] at B;exact F.pl a e B
theorem Wo.JM (h:Wo s0 s w c x n N (G::Gs)) (F:FI G s p f k n) (name:List UInt8) {d:Dv} (i:aE name=true) (z:f name=some d) (j:q7 d.cur=true) :
  aa Tryz.prog eE [.ptr (some (p,0)),.str name] s fun r s'=>∃ (bv:AV),r=.aQ [bv,.int .i64 0]/\br pK 1 s' bv (y5 FM name d.cur)/\Wo s0 s' w c x n N (ay bv::G::Gs)/\FI G s' p (jF f name none) (k - 1) n/\∃ s1,bD G s s1/\Ext s1 s':=by
 have B:∀ y∈G,s.h y≠none:=by
  obtain ⟨_,Fc,Fs,Fv,Fw,W,A⟩:=h;exact A.th 5 rfl
 refine (Qf F.fe B (by decide) name (fun e l=>?_)).mono ?_
 ·rw [z] at l;obtain rfl:=Option.some.inj l;exact j
 ·rintro r s' (⟨b,_⟩ | ⟨_,I,bv,s1,hd,rfl,g,D,m,C⟩)
  ·rcases b with b | b
   ·rw [i] at b;cases b
   ·rw [z] at b;cases b
  ·rw [z] at hd;obtain rfl:=Option.some.inj hd;refine ⟨bv,rfl,g.u6,(h.V4 m (fun y H=>.inl H) C).add g.ew.ext g.new (br.kZ g.u6),⟨D.ext g.ew.ext,fun a e o=>?_⟩,s1,m,g.ew.ext⟩;by_cases l:a=name
   ·rw [jF,if_pos l] at o;cases o
   ·rw [jF,if_neg l] at o;exact F.pl a e o
end
end Go.Proofs.YtohgmogbabkkeaaGreat
end

section
namespace Go.Proofs.YtohgmogbabkkeaaGreat
open Go.Am Go.au Go.aB Go.bM
def OW (c:gA) (x:aH) (t d:List UInt8):Prop:=(∃ d0,x.live d0=some ⟨t,d⟩)/\∀ e∈c.log,e.dL=t/\iP e.to d≠[]
section
variable {c:gA} {x x':aH} {n N:Nat} {t d:List UInt8}
theorem OW.SC (h:OW c x t d) {L:List DX} (j:rM x t L) {v:List Int}:OW (c.apply (nQ v t [] L)) x t d:=by
 refine ⟨h.1,fun e b=>?_⟩;rcases List.mem_append.1 (show e∈c.log++[nQ v t [] L] from b) with b | b
 ·exact h.2 e b
 ·obtain rfl:=List.mem_singleton.1 b;refine ⟨rfl,fun k=>?_⟩;obtain ⟨d0,l⟩:=h.1;have:(⟨d0,d⟩:DX)∈L:=(j.mem _).2 l;have:d0∈iP L d:=List.mem_map.2 ⟨⟨d0,d⟩,List.mem_filter.2 ⟨this,by simp⟩,rfl⟩;have i:iP L d=[]:=k;rw [i] at this;cases this
theorem OW.WJ (h:OW c x t d) (hi:WI c x n N) (o:n<=1000) {i m:Nat} {e:Ev} (b:c.log[i]? = some e):lE d (vN m) x e=!decide (i<m):=by
 obtain ⟨j,h2⟩:=h.2 e (List.mem_of_getElem? b);have k:i<c.log.length:=by
  rcases Nat.lt_or_ge i c.log.length with h | h
  ·exact h
  ·rw [List.getElem?_eq_none h] at b;cases b
 have l:Si x ⟨e.dL,d⟩=true:=Me.2 (by rw [j];exact h.1);have ht:(iP e.to d).isEmpty=false:=by simpa using h2
 rw [lE,(hi.ev i e b).1,Sy m i (by have:=hi.ln;omega),l,ht];simp
theorem N1 (hi:WI c x n N) {i:Nat} {z:Ev×List Int} (h:(tw c)[i]? = some z):c.log[i]? = some z.1/\z.2=vN (i+1):=by
 rw [tw,List.getElem?_zip_eq_some] at h;refine ⟨h.1,?_⟩;have:=h.2;rw [hi.bl,List.getElem?_map] at this;cases b:(List.range n)[i]? with
 | none=>rw [b] at this;cases this
 | some j =>
  rw [b] at this;obtain rfl:i=j:=by
   have:=List.getElem?_eq_some_iff.1 b;obtain ⟨d,h2⟩:=this;simpa using h2
  exact (Option.some.inj this).symm
theorem SF (hi:WI c x n N):(tw c).length=n:=by rw [JI (by rw [hi.bl,hi.ln];simp),hi.ln]
theorem Mg {P:Ev->Bool} {most:Nat}:∀ (l:List (Ev×List Int)) (k:Nat),(∀ z∈l,P z.1=true)->k<most->scan P (fun k=>!decide ((k:Int)<(most:Int))) l k=(l.take (most - k),min (most - k) l.length)
 | [],k,_,_=>by simp [scan]
 | a::l,k,h,c=>by
  rw [scan,if_pos (h a (by simp))];by_cases hs:k+1<most
  ·have:(!decide (((k+1:Nat):Int)<(most:Int)))=false:=by simp;omega
   rw [if_neg (by rw [this];simp),Mg l (k+1) (fun z b=>h z (by simp [b])) hs];obtain ⟨j,hj⟩:∃ j,most - k=j+1:=⟨most - k - 1,by omega⟩;rw [hj,show most - (k+1)=j by omega];simp
  ·have:(!decide (((k+1:Nat):Int)<(most:Int)))=true:=by simp;omega
   rw [if_pos this,show most - k=1 by omega];simp
theorem HG {P:Ev->Bool} {stop:Nat->Bool}:∀ (l m:List (Ev×List Int)) (k:Nat),(∀ z∈l,P z.1=false)->scan P stop (l++m) k=((scan P stop m k).1,(scan P stop m k).2+l.length)
 | [],m,k,_=>by simp
 | a::l,m,k,h=>by
  rw [List.cons_append,scan,if_neg (by simp [h a]),HG l m k fun z b=>h z (by simp [b])];simp;omega
theorem JN (hi:WI c x n N) (o:n<=1000) (p:OW c x t d) {m pl most:Nat} {hand:List (List Int)} (hm:m<=n) (r:pl<=n) (w:1<=most):wV d ⟨vN m,pl,hand⟩ c x most=(((tw c).drop (max m pl)).take most,(max m pl - pl)+min most (n - max m pl)):=by
 have e:(tw c).drop pl=((tw c).drop pl).take (max m pl - pl)++(tw c).drop (max m pl):=by
  conv=>lhs;rw [<- List.take_append_drop (max m pl - pl) ((tw c).drop pl)]
  rw [List.drop_drop,show pl+(max m pl - pl)=max m pl by omega]
 have k:=SF hi;have l:∀ i z,(tw c)[i]? = some z->lE d (vN m) x z.1=!decide (i<m):=fun i z b=>p.WJ hi o (N1 hi b).1;rw [wV];simp only;rw [e,HG _ _ 0 ?_,Mg _ 0 ?_ (by omega)]
 ·simp only [Nat.sub_zero,List.length_take,List.length_drop,k,Prod.mk.injEq,true_and];omega
 ·intro z b;obtain ⟨j,hj⟩:=List.mem_iff_getElem?.1 b;rw [List.getElem?_drop] at hj;rw [l _ z hj];simp;omega
 ·intro z b;obtain ⟨j,hj⟩:=List.mem_iff_getElem?.1 b;rw [List.getElem?_take] at hj;split at hj
  ·rw [List.getElem?_drop] at hj;rw [l _ z hj];simp;omega
  ·cases hj
end
section
variable {s0 s s':AS} {w:Wp} {n N:Nat} {c:gA} {x:aH} {Gs:List (List Nat)} {G R:List Nat}
theorem Wo.dj (h:Wo s0 s w c x n N (G::Gs)) (b:R∈Gs):Dj G R:=by
 obtain ⟨_,Fc,Fs,Fv,Fw,W,A⟩:=h;obtain ⟨j,hj⟩:=List.mem_iff_getElem?.1 b;exact A.ij 5 (j+6) rfl (by simpa using hj) (by omega)
theorem xx {α:Type} {f:α->List AV} {sz:Nat} {v:AV} {l:List α} (g:br f sz s v l) (m:bD G s s') (d:Dj G (ay v)):br f sz s' v l:=g.mut m fun y b hm=>d y hm b
theorem mF {f:List UInt8->Option Dv} (a:List UInt8) (d:Option Dv):jF f a d a=d:=by simp [jF]
def tT:List UInt8:=[116]
def aA:List UInt8:=[97]
set_option maxRecDepth 20000 in
set_option maxHeartbeats 2000000 in
theorem Mh (A:Ap s0 s Gs):aa Tryz.prog nS [] s fun r s'=>r=.bool true/\Ap s0 s' Gs:=by
 refine F_ _ _ ?_;refine aa.use (Wo.begin A) ?_;rintro v1 s2 ⟨w,rfl,Q,e2⟩ w2;refine ⟨_,_,rfl,af.no rfl ?_⟩;refine aa.use (Q.sub (by omega) tT aA) ?_;rintro v5 s6 ⟨rfl,R,hs,W1,k6⟩ w6;have S:∃ d0,R.live d0=some ⟨tT,aA⟩:=(hs.ok Q.1.ok Q.1.cnt (by omega)).2.2.1 (by decide) (by decide);have U:OW gA.zero R tT aA:=⟨S,fun e he=>by simp [gA.zero] at he⟩;refine ⟨_,rfl,af.no rfl ?_⟩;refine aa.use (W1.SC (by omega) (by omega) tT) ?_;rintro v8 s9 ⟨rfl,k9,(⟨d,_⟩ | ⟨_,L1,W,W2⟩)⟩ w9
 ·exact absurd d (by decide)
 have y:=U.SC W (v:=gA.zero.v);generalize a4:gA.zero.apply (nQ gA.zero.v tT [] L1)=X at W2 y;refine ⟨_,rfl,af.no rfl ?_⟩;refine aa.use (W2.SC (by omega) (by omega) tT) ?_;rintro v11 dw ⟨rfl,a5,(⟨d,_⟩ | ⟨_,L2,Y,Z⟩)⟩ a6
 ·exact absurd d (by decide)
 have l:=y.SC Y (v:=X.v);generalize a7:X.apply (nQ X.v tT [] L2)=c2 at Z l;have hi:=Z.1;refine ⟨_,rfl,af.no rfl ?_⟩;refine aa.use Z.feed ?_;rintro a8 gr ⟨a9,hN⟩ _;refine aa.use hN ?_;rintro nD lH ⟨p,G1,rfl,W4,F4,a'⟩ ba;refine ⟨_,rfl,?_⟩;refine aa.use (W4.attach F4 aA (br.nil.sl bS) (by decide) rfl (by omega) (.inl ⟨rfl,rfl⟩)) ?_;rintro bb fN ⟨rfl,G2,W5,F5,_⟩ bc;refine ⟨_,rfl,_,W5.aC.1,_,W5.aC.2,?_⟩;refine aa.use (W5.SD F5 (by omega) (by omega) aA (by decide) (mF _ _) (by omega)) ?_;rintro bd be ⟨out,Lo,G3,rfl,gO,gE,ab,W6,F6,_⟩ bh;have hz:(eW:List Int)=vN 0:=rfl;have B:=JN (hand:=[]) hi (by omega) l (m:=0) (pl:=0) (most:=5) (by omega) (by omega) (by omega);have ad:=SF hi;have hd:CE aA ⟨eW,0,[]⟩ c2 R 5=⟨vN 0,2,[vN 1,vN 2]⟩:=by
  rw [CE,hz,show (5:Int)=((5:Nat):Int) from rfl,B];have:((tw c2).drop 0).take 5=tw c2:=by rw [List.drop_zero,List.take_of_length_le (by omega)]
  simp only [show max 0 0=0 from rfl,this];have h2:(tw c2).map Prod.snd=c2.JF:=by
   rw [tw,List.map_snd_zip];rw [hi.bl,hi.ln];simp
  rw [h2,hi.bl];rfl
 have ae:Lo.length=2:=by
  have:=congrArg List.length ab;rw [hz,show (5:Int)=((5:Nat):Int) from rfl,B] at this;simp [ad] at this;exact this
 rw [hd] at F6;refine ⟨_,_,rfl,?_⟩;have C:∀ j,j<=2->q7 (mE ⟨vN 0,2,[vN 1,vN 2]⟩ j).cur=true:=by
  intro j hj
  match j,hj with
  | 0,_=>rfl
  | 1,_=>rfl
  | 2,_=>rfl
 refine aa.use (W6.Xb F6 (by omega) aA (by decide) (mF _ _) C (j:=1) (by decide)) ?_;rintro bi bj ⟨kv,G4,rfl,gk,W7,F7⟩ bk;have al:mE ⟨vN 0,2,[vN 1,vN 2]⟩ 1=⟨vN 1,2,[vN 2]⟩:=by
  rw [mE,if_neg (by decide)];show (⟨mR (vN 0) (vN 1),2,[vN 2]⟩:Dv)=_;rw [JK];rfl
 rw [al] at gk F7;have D:=W7.perm (.swap _ _ _);refine ⟨_,_,rfl,?_⟩;refine aa.use (D.JM F7 aA (by decide) (mF _ _) rfl) ?_;rintro bm mG ⟨mv,rfl,gm,W8,F8,s1,m1,e1⟩ bo;have F:=(xx gk m1 (D.dj (by simp))).ext e1;have x:=W8.perm (Wg:=G4::ay mv::ay kv::Gs) (.swap _ _ _);refine ⟨_,_,rfl,?_⟩;refine aa.use (x.attach F8 aA (F.sl bS) (by decide) (mF _ _) (by omega) (.inr ⟨SA (n:=1) (by omega),rfl,rfl⟩)) ?_;rintro qU bs ⟨rfl,G5,G,F9,m9⟩ bx;have am:=xx F m9 (x.dj (by simp));have an:=xx gm m9 (x.dj (by simp));refine ⟨_,rfl,_,G.aC.1,_,G.aC.2,?_⟩;refine aa.use (G.SD F9 (by omega) (by omega) aA (by decide) (mF _ _) (by omega)) ?_;rintro b0 ao ⟨a3,H,G6,rfl,I,b1,J,ar,b2,K⟩ b3;have L:=xx am K (G.dj (by simp));have M:=xx an K (G.dj (by simp));have aw:=JN (hand:=[]) hi (by omega) l (m:=1) (pl:=0) (most:=5) (by omega) (by omega) (by omega);obtain ⟨z,O⟩:∃ z,(tw c2)[1]? = some z:=⟨_,List.getElem?_eq_getElem (by omega)⟩;have b:H.map mS.ev=[z.1]:=by
  rw [J,show (5:Int)=((5:Nat):Int) from rfl,aw];have:((tw c2).drop 1)=[z]:=by
   apply List.ext_getElem?;intro k;rw [List.getElem?_drop]
   match k with
   | 0=>simpa using O
   | k+1=>rw [List.getElem?_eq_none (by omega)];simp
  show (((tw c2).drop 1).take 5).map Prod.fst=_;rw [this];rfl
 obtain ⟨me,rfl⟩:=List.length_eq_one_iff.1 (show H.length=1 by have:=congrArg List.length b;simpa using this);have a0:me.ev=z.1:=by simpa using b
 have a1:me.ev.id=⟨1,((1:Nat):Int)+1⟩:=by rw [a0];exact (hi.ev 1 _ (N1 hi O).1).1
 obtain ⟨la,o,k8,a2⟩:=(I.sl aY).ix (i:=0) (by decide) aY c_ xo rfl;have hc:av ao la (o+1)=some (.int .u64 2):=by
  rw [(a2 _ (Ext.refl _)).1 1 (by omega)];show some (AV.int .u64 me.ev.id.c)=_;rw [a1];rfl
 refine ⟨_,_,rfl,af.yes rfl (af.yes rfl (af.yes rfl (af.yes rfl (af.yes rfl (af.yes rfl ⟨_,(gO.sl aY).cj c_ _,?_⟩)))))⟩;rw [ae];refine af.yes rfl ⟨_,HB (L.sl bS),_,HB (M.sl bS),af.yes (by simp) ⟨_,(I.sl aY).cj c_ _,af.yes rfl ⟨_,_,k8 .i64,_,hc,rfl,?_⟩⟩⟩;obtain ⟨_,Fc,Fs,Fv,Fw,Wf,Af⟩:=ar;exact Af.tail.tail.tail.tail.tail.tail.tail.tail
end
end Go.Proofs.YtohgmogbabkkeaaGreat
end

section
namespace Go.Proofs.YtohgmogbabkkeaaGreat
open Go.Am Go.au Go.aB Go.bM
def tC (q j:Nat):List (List Int):=(List.range j).map fun i=>vN (q+i+1)
theorem Cj (q j:Nat):(tC q j).length=j:=by simp [tC]
section
variable {c:gA} {x:aH} {n N:Nat} {t d:List UInt8}
theorem SH (hi:WI c x n N) {q most:Nat} (b:q<=n):(((tw c).drop q).take most).map Prod.snd=tC q (min most (n - q)):=by
 have h2:(tw c).map Prod.snd=c.JF:=by
  rw [tw,List.map_snd_zip];rw [hi.bl,hi.ln];simp
 rw [List.map_take,List.map_drop,h2,hi.bl];apply List.ext_getElem?;intro k;rw [tC,List.getElem?_take,List.getElem?_drop,List.getElem?_map,List.getElem?_map];by_cases d:k<min most (n - q)
 ·rw [if_pos (by omega),List.getElem?_range (by omega),List.getElem?_range (by omega)];rfl
 ·rw [List.getElem?_eq_none (l:=List.range (min most (n - q))) (by simp;omega)];split
  ·rw [List.getElem?_eq_none (by simp;omega)];rfl
  ·rfl
theorem Ua (q j pl:Nat) (h:pl=q+j):mE ⟨vN q,pl,tC q j⟩ j=⟨vN (q+j),pl,[]⟩:=by
 rw [mE];by_cases hj:j=0
 ·subst hj;simp [tC]
 ·rw [if_neg hj];have:(tC q j).getD (j - 1) []=vN (q+j):=by
   rw [List.getD_eq_getElem?_getD,tC,List.getElem?_map,List.getElem?_range (by omega)];show vN (q+(j - 1)+1)=_;rw [show q+(j - 1)+1=q+j by omega]
  simp only [this,JK];rw [show max q (q+j)=q+j by omega,List.drop_of_length_le (by rw [Cj];exact Nat.le_refl _)]
theorem Ub {q j pl i:Nat} (h:q+j<1000000) (hi:i<=(tC q j).length):q7 (mE ⟨vN q,pl,tC q j⟩ i).cur=true:=by
 rw [Cj] at hi;rw [mE];by_cases b:i=0
 ·rw [if_pos b];exact A8 (by omega)
 ·rw [if_neg b];have:(tC q j).getD (i - 1) []=vN (q+i):=by
   rw [List.getD_eq_getElem?_getD,tC,List.getElem?_map,List.getElem?_range (by omega)];show vN (q+(i - 1)+1)=_;rw [show q+(i - 1)+1=q+i by omega]
  simp only [this,JK];exact A8 (by omega)
end
def Km (s0 s:AS) (w:Wp) (c:gA) (x:aH) (n N:Nat) (p p' lr:Nat) (row:List AV) (at_:AV) (b:List Int):Prop :=
 ∃ (G G':List Nat) (f f':List UInt8->Option Dv),Wo s0 s w c x n N [G,G',[lr],ay at_]/\FI G s p f 0 n/\FI G' s p' f' 0 n/\f aA=none/\f' aA=none/\Am.Own s lr row/\br pK 1 s at_ b
section
variable {s0 s s':AS} {w:Wp} {c c':gA} {x:aH} {n n' N p p' lr:Nat} {row:List AV} {at_:AV} {b:List Int}
theorem Km.swap (h:Km s0 s w c x n N p p' lr row at_ b):Km s0 s w c x n N p' p lr row at_ b:=by
 obtain ⟨G,G',f,f',W,F,F',d,h2,h3,h4⟩:=h;exact ⟨G',G,f',f,W.perm (.swap _ _ _),F',F,h2,d,h3,h4⟩
theorem Km.SC (h:Km s0 s w c x n N p p' lr row at_ b) (j:N<=200) (o:n<=1000) (y:OW c x tT aA):aa Tryz.prog cL [.ptr (some (w.l,0)),.str tT] s fun r s'=>r=.bool true/\∃ c',Km s0 s' w c' x (n+1) N p p' lr row at_ b/\OW c' x tT aA:=by
 obtain ⟨G,G',f,f',W,F,F',z,h2,h3,h4⟩:=h;refine (W.SC j o tT).mono ?_;rintro r s' ⟨rfl,k,(⟨d,_⟩ | ⟨_,L,A,W'⟩)⟩
 ·exact absurd d (by decide)
 ·have e:=k;obtain ⟨M,m,i⟩:=k;exact ⟨rfl,_,⟨G,G',f,f',W',(F.keep e (by simp)).mono (by omega),(F'.keep e (by simp)).mono (by omega),z,h2,h3.mut m (fun B=>i [lr] (by simp) _ B (by simp)),xx h4 m (i _ (by simp))⟩,y.SC A⟩
end
end Go.Proofs.YtohgmogbabkkeaaGreat
end

section
namespace Go.Proofs.YtohgmogbabkkeaaGreat
open Go.Am Go.au Go.aB Go.bM
section
variable {s0 s s':AS} {w:Wp} {c:gA} {x:aH} {n N:Nat} {Gs:List (List Nat)} {G R:List Nat} {p k:Nat} {f:List UInt8->Option Dv}
theorem Wo.drop (h:Wo s0 s w c x n N (R::Gs)):Wo s0 s w c x n N Gs:=by
 obtain ⟨hi,Fc,Fs,Fv,Fw,W,A⟩:=h;exact ⟨hi,Fc,Fs,Fv,Fw,W,(A.perm (List.perm_middle (l₁:=[[w.l],Fc,Fs,Fv,Fw]) (l₂:=Gs) (a:=R))).tail⟩
theorem Wo.WK (h:Wo s0 s w c x n N (G::Gs)) (F:FI G s p f k n) (M:n<=1000) (name:List UInt8) {d:Dv} (l:aE name=true) (z:f name=some d) (o:∀ j,j<=d.hand.length->q7 (mE d j).cur=true) {j:Nat} (hj:j<=d.hand.length) :
  aa Tryz.prog e_ [.ptr (some (p,0)),.str name,.int .i64 j] s fun r s'=>∃ (bv:AV) (G':List Nat),r=.aQ [bv,.int .i64 0]/\Wo s0 s' w c x n N (G'::Gs)/\FI G' s' p (jF f name (some (mE d j))) k n/\∃ s1,bD G s s1/\Ext s1 s':=by
 have C:∀ y∈G,s.h y≠none:=by
  obtain ⟨_,Fc,Fs,Fv,Fw,W,A⟩:=h;exact A.th 5 rfl
 refine (Sq F.fe C (by decide) name j (fun e m i hi=>?_) (fun e m=>?_)).mono ?_
 ·rw [z] at m;obtain rfl:=Option.some.inj m;exact o i hi
 ·have:=F.pl name e m;omega
 ·rintro r s' (⟨b,_⟩ | ⟨_,O,j',bv,G',s1,K,hd,hle,rfl,g,L,J,D,H⟩)
  ·rcases b with b | b | b
   ·rw [l] at b;cases b
   ·omega
   ·have:=b d z;omega
  ·obtain rfl:j=j':=by omega
   rw [z] at hd;obtain rfl:=Option.some.inj hd;refine ⟨bv,G',rfl,(h.V4 J.mut D H).ext g.ew.ext,⟨L.ext g.ew.ext,fun a e B=>?_⟩,s1,J.mut,g.ew.ext⟩;by_cases m:a=name
   ·rw [jF,if_pos m] at B;obtain rfl:=Option.some.inj B;have I:=F.pl name d z;rw [mE];split
    ·exact I
    ·simp only [List.length_drop];omega
   ·rw [jF,if_neg m] at B;exact F.pl a e B
theorem Wo.len (h:Wo s0 s w c x n N Gs):aa Tryz.prog fU [.ptr (some (w.pc,0))] s fun r s'=>r=.int .i64 (n:Nat)/\s'=s:=by
 obtain ⟨hi,Fc,Fs,Fv,Fw,W,A⟩:=h;have:=OL W.ca;rw [hi.ln] at this;exact this
end
def Uq (s0 s:AS) (w:Wp) (c:gA) (x:aH) (n N p p' lr:Nat) (row:List AV) (R:List Nat) (q pl:Nat):Prop :=
 ∃ (G G':List Nat) (f f':List UInt8->Option Dv),Wo s0 s w c x n N [G,G',[lr],R]/\FI G s p f 1 n/\FI G' s p' f' 0 n/\f aA=some ⟨vN q,pl,[]⟩/\f' aA=none/\Am.Own s lr row/\pl<=q/\q<=n
section
variable {s0 s s':AS} {w:Wp} {c c':gA} {x:aH} {n n' N p p' lr q pl:Nat} {row:List AV} {at_:AV} {b:List Int} {R:List Nat}
theorem Km.attach (h:Km s0 s w c x n N p p' lr row at_ b) (d:FL FM aA b (vN q)) (e:q<=n) :
  aa Tryz.prog dx [.ptr (some (p,0)),.str aA,at_] s fun r s'=>r=.int .i64 0/\Uq s0 s' w c x n N p p' lr row (ay at_) q 0:=by
 obtain ⟨G,G',f,f',W,F,F',i,h2,h3,h4⟩:=h;refine (W.attach F aA (h4.sl bS) (by decide) i (by omega) d).mono ?_;rintro r s' ⟨rfl,j,W',k,m⟩;exact ⟨rfl,j,G',_,f',W',k,⟨F'.fe.mut m (W.dj (by simp)),F'.pl⟩,mF _ _,h2,h3.mut m (fun l=>W.dj (R:=[lr]) (by simp) _ l (by simp)),by omega,e⟩
theorem Uq.JM (h:Uq s0 s w c x n N p p' lr row R q pl) (j:n<=1000) :
  aa Tryz.prog eE [.ptr (some (p,0)),.str aA] s fun r s'=>∃ bv,r=.aQ [bv,.int .i64 0]/\Km s0 s' w c x n N p p' lr row bv (y5 FM aA (vN q)):=by
 obtain ⟨G,G',f,f',W,F,F',b,h2,h3,h4,k⟩:=h;refine (W.JM F aA (by decide) b (A8 (by omega))).mono ?_;rintro r s' ⟨bv,rfl,g,W',d,s1,m,e⟩;refine ⟨bv,rfl,G,G',_,f',(W'.perm (Wg:=R::[G,G',[lr],ay bv]) ?_).drop,d,⟨(F'.fe.mut m (W.dj (by simp))).ext e,F'.pl⟩,mF _ _,h2,(h3.mut m (fun i=>W.dj (R:=[lr]) (by simp) _ i (by simp))).ext e,g⟩;have p1:[ay bv,G,G',[lr],R].Perm ([G,G',[lr],R]++[ay bv]):=(List.perm_append_comm (l₁:=[ay bv]) (l₂:=[G,G',[lr],R]));refine p1.trans ?_;exact (List.perm_middle (l₁:=[G,G',[lr]]) (l₂:=[ay bv]) (a:=R))
theorem Uq.SD (h:Uq s0 s w c x n N p p' lr row R q pl) (M:N<=1000) (k:n<=1000) (O:OW c x tT aA) {b:Nat} (Q:1<=b) (S:b<=16) :
  aa Tryz.prog eD [.ptr (some (p,0)),.str aA,.int .i64 b,.ptr (some (w.pc,0)),.ptr (some (w.ps,0))] s fun r s'=>∃ (out:AV) (e:List mS),r=.aQ [out,.int .i64 0]/\br iu 21 s' out e/\e.length=min b (n - q)/\(∀ i m,e[i]? = some m->m.ev.id.c=((q+i+1:Nat):Int)) /\
   aa Tryz.prog e_ [.ptr (some (p,0)),.str aA,.int .i64 (min b (n - q):Nat)] s' fun H s2=>∃ bv,H=.aQ [bv,.int .i64 0]/\Uq s0 s2 w c x n N p p' lr row R (q+min b (n - q)) (q+min b (n - q)):=by
 obtain ⟨G,G',f,f',W,F,F',U,h2,h3,h4,I⟩:=h;have hi:=W.1;have o:=JN (hand:=[]) hi k O (m:=q) (pl:=pl) (most:=b) I (by omega) Q;have y:=SF hi;rw [show max q pl=q by omega] at o;refine (W.SD F M k aA (by decide) U (most:=(b:Nat)) (by omega)).mono ?_;rintro r s' ⟨out,e,G2,rfl,X,gE,d,A,J,m⟩;rw [o] at d;have hd:CE aA ⟨vN q,pl,[]⟩ c x (b:Nat)=⟨vN q,q+min b (n - q),tC q (min b (n - q))⟩:=by
  rw [CE,o];simp only [SH hi I,List.nil_append,Dv.mk.injEq,true_and,and_true];omega
 rw [hd] at J;refine ⟨out,e,rfl,X,?_,fun i Y B=>?_,?_⟩
 ·have:=congrArg List.length d;simpa [y] using this
 ·have:=congrArg (fun l=>l[i]?) d;simp only [List.getElem?_map,B,Option.map_some,List.getElem?_take,List.getElem?_drop] at this;split at this
  ·cases C:(tw c)[q+i]? with
   | none=>rw [C] at this;cases this
   | some z =>
    rw [C] at this;have Z:Y.ev=z.1:=Option.some.inj this;rw [Z,(hi.ev _ _ (N1 hi C).1).1];simp
  ·cases this
 ·refine (A.WK J k aA (by decide) (mF _ _) (fun j hj=>Ub (by omega) hj) (j:=min b (n - q)) (by rw [Cj];exact Nat.le_refl _)).mono ?_;rintro H s2 ⟨bv,G3,rfl,W3,K,s1,L,e1⟩;rw [Ua q _ _ rfl] at K;refine ⟨bv,rfl,G3,G',_,f',W3,K,?_,mF _ _,h2,?_,Nat.le_refl _,by omega⟩
  ·exact ⟨((F'.fe.mut m (W.dj (by simp))).mut L (A.dj (by simp))).ext e1,F'.pl⟩
  ·exact ((h3.mut m (fun D=>W.dj (R:=[lr]) (by simp) _ D (by simp))).mut L (fun D=>A.dj (R:=[lr]) (by simp) _ D (by simp))).ext e1
end
end Go.Proofs.YtohgmogbabkkeaaGreat
end

section
namespace Go.Proofs.YtohgmogbabkkeaaGreat
open Go.Am Go.au Go.aB Go.bM
section
variable {s0 s s':AS} {w:Wp} {n N:Nat} {c:gA} {x:aH} {Gs:List (List Nat)} {G R:List Nat}
theorem Ap.start (s:AS):Ap s s []:=⟨Ext.refl s,List.Pairwise.nil,fun R h=>by cases h⟩
end
end Go.Proofs.YtohgmogbabkkeaaGreat
end

section
namespace Go.Proofs.YtohgmogbabkkeaaGreat
open Go.Am Go.au Go.aB Go.bM
theorem Vx (p q:Option (Nat×Nat)):cV T fP 2 [(0,.ptr p),(1,.ptr q)]=some [.ptr p,.ptr q]:=by kernel_rfl
theorem Vy (l:Nat):ag T fP (.slc (some (l,0)) 2 2 true) (.int .i64 0)=some (.ptr (some (l,0))):=by kernel_rfl
theorem Vz (l:Nat):ag T fP (.slc (some (l,0)) 2 2 true) (.int .i64 1)=some (.ptr (some (l,1))):=by kernel_rfl
theorem V5 (l:Nat) (k:Nat) (b:k<2):ag T fP (.slc (some (l,0)) 2 2 true) (.int .i64 (k:Nat))=some (.ptr (some (l,k))):=by
 rcases (show k=0\/k=1 by omega) with rfl | rfl
 ·exact Vy l
 ·exact Vz l
set_option maxRecDepth 20000 in
set_option maxHeartbeats 2000000 in
theorem FP {s:AS} {a:AV} {l:List Int} (hl:U7 s a l):aa Tryz.prog iQ [a] s fun r s'=>r=.bool true:=by
 refine aa.pre fun hw=>zS _ _ _ ⟨_,hl.cj iU _,af.dec (fun _=>?_) (fun b1=>?_)⟩
 ·refine aa.use (Mh (Ap.start s)) ?_;rintro v s5 ⟨rfl,_⟩ _;exact ⟨_,rfl,rfl⟩
 refine aa.use (Wo.begin (Ap.start s)) ?_;rintro v5 s6 ⟨w,rfl,W0,e6⟩ w6;refine ⟨_,_,rfl,af.no rfl ?_⟩;refine aa.use (W0.sub (by omega) tT aA) ?_;rintro v9 b2 ⟨rfl,x,hs,W1,b3⟩ b4;have a2:OW gA.zero x tT aA:=⟨(hs.ok W0.1.ok W0.1.cnt (by omega)).2.2.1 (by decide) (by decide),fun e he=>by simp [gA.zero] at he⟩;refine ⟨_,rfl,af.no rfl ?_⟩;refine aa.use W1.feed ?_;rintro b5 bQ ⟨b6,S⟩ _;refine aa.use S ?_;rintro b7 gr ⟨A,G0,rfl,W2,F0,b8⟩ b9;refine ⟨_,rfl,?_⟩;refine aa.use W2.feed ?_;rintro b' eC ⟨ca,I⟩ _;refine aa.use I ?_;rintro cb fN ⟨p1,G1,rfl,W3,F1,a3⟩ a4;refine ⟨_,rfl,_,Vx _ _,ak.intro a4 rfl fun lr a5 j=>?_⟩;have W4:=W3.add (G:=[lr]) j.ext (fun y U=>by obtain rfl:=List.mem_singleton.1 U;exact j.no) (fun y U=>by
  obtain rfl:=List.mem_singleton.1 U;rw [j.own];simp)
 have W5:=W4.add (G:=[]) (Ext.refl _) (by simp) (by simp);have T0:Km s a5 w gA.zero x 0 1 A p1 lr [.ptr (some (A,0)),.ptr (some (p1,0))] (.slc none 0 0 true) []:=by
  refine ⟨G0,G1,_,_,W5.perm ?_,(F0.ext a3).ext j.ext,F1.ext j.ext,rfl,rfl,j.own,br.nil⟩;show [[],[lr],G1,G0].Perm [G0,G1,[lr],[]];exact (List.reverse_perm [G0,G1,[lr],([]:List Nat)])
 have bm:=hl.ext W5.ap;refine ⟨fun vs s'=>∃ (n:Nat) (c:gA) (Gs:List (List Nat)),vs=[.int .u64 ((n+1:Nat):Int)]/\n<=100/\aM s'/\Wo s s' w c x n 1 Gs,?_,fun m vs s'=>∃ (i q n:Nat) (c:gA) (at_:AV) (b:List Int),vs=[at_,.int .u64 ((q+1:Nat):Int),.int .i64 (i:Nat)]/\i<=l.length+1/\m=l.length+1 - i/\aM s'/\q<=n/\n<=i/\(i=l.length+1->q=n)/\OW c x tT aA/\FL FM aA b (vN q)/\Km s s' w c x n 1 A p1 lr [.ptr (some (A,0)),.ptr (some (p1,0))] at_ b,l.length+1,⟨0,0,0,gA.zero,_,[],rfl,by omega,rfl,j.wf,by omega,by omega,by omega,a2,.inl ⟨rfl,rfl⟩,T0⟩,?_⟩
 ·rintro cc cd ⟨n,c,Gs,hv,hn,ce,W⟩;simp only [List.cons.injEq,AV.int.injEq,true_and,and_true] at hv;subst hv;refine ⟨_,W.aC.1,?_⟩;refine aa.use W.len ?_;rintro cf ch ⟨rfl,rfl⟩ _;refine ⟨_,rfl,af.yes ?_ ?_⟩
  ·rw [fy (n:=((n:Nat):Int)) (by omega),fy (by omega)];simp
  ·obtain ⟨_,Fc,Fs,Fv,Fw,Wf,Af⟩:=W;refine aa.use (Mh Af) ?_;rintro v s5 ⟨rfl,_⟩ _;exact ⟨_,rfl,rfl⟩
 rintro m qU ci ck X ⟨i,q,n,c,at_,b,hv,h6,rfl,a6,Y,cl,Z,ow,D,T⟩;simp only [List.cons.injEq,AV.int.injEq,true_and,and_true] at hv;obtain ⟨rfl,rfl,rfl⟩:=hv;have p:U7 X a l:=by
  obtain ⟨_,_,_,_,W,_⟩:=T;exact hl.ext W.ap
 refine ⟨_,p.cj iU _,af.dec (fun cm=>?_) (fun cn=>?_)⟩;rotate_left
 ·obtain rfl:q=n:=Z (by omega);obtain ⟨G,G',_,_,W,_⟩:=T;exact ⟨q,c,_,rfl,by omega,a6,W⟩
 refine ⟨fun vs s'=>s'=X/\∃ z:Int,vs=[.int .i64 z]/\(i=l.length->z=15),?_,_,p.cj iU _,af.dec (fun h=>?_) (fun h=>⟨rfl,15,rfl,fun _=>rfl⟩)⟩;rotate_left
 ·obtain ⟨y,U⟩:=cS (l:=l) (i:=i) (by omega);obtain ⟨la,o,k8,k9⟩:=p.ix (sz:=1) (by decide) (fun _=>rfl) iU EG U;exact ⟨la,o,k8 _,y,by have:=(k9 _ (Ext.refl _)).1 0 (by omega);simpa using this,rfl,y,rfl,fun h2=>by omega⟩
 rintro d C ⟨rfl,z,hv,F⟩;simp only [List.cons.injEq,AV.int.injEq,true_and,and_true] at hv;subst hv;refine af.dec (fun bo=>?_) (fun bs=>?_)
 ·refine aa.use (T.SC (by omega) (by omega) ow) ?_;rintro cp wu ⟨rfl,c',T',a7⟩ a8;refine ⟨_,rfl,af.no rfl ⟨l.length+1 - (i+1),by omega,i+1,q,n+1,c',qU,b,by rw [AL (by omega)],by omega,rfl,a8,by omega,by omega,fun h=>?_,a7,D,T'⟩⟩;have:=F (by omega);omega
 have ab:Int.tmod d 2=d % 2:=Int.tmod_eq_emod_of_nonneg (by omega);have ad:Int.tmod d 16=d % 16:=Int.tmod_eq_emod_of_nonneg (by omega);refine ⟨by decide,?_⟩;obtain ⟨k,ps,po,hk,a9,ae,Tp,back⟩:∃ (k ps po:Nat),Int.tmod d 2=(k:Int)/\k<2/\av C lr k=some (.ptr (some (ps,0)))/\Km s C w c x n 1 ps po lr [.ptr (some (A,0)),.ptr (some (p1,0))] qU b/\∀ {s':AS} {qU:AV} {b:List Int},Km s s' w c x n 1 ps po lr [.ptr (some (A,0)),.ptr (some (p1,0))] qU b->Km s s' w c x n 1 A p1 lr [.ptr (some (A,0)),.ptr (some (p1,0))] qU b:=by
  have o:Am.Own C lr [.ptr (some (A,0)),.ptr (some (p1,0))]:=by obtain ⟨_,_,_,_,_,_,_,_,_,o,_⟩:=T;exact o
  by_cases hp:d % 2=0
  ·exact ⟨0,A,p1,by rw [ab,hp];rfl,by omega,by rw [o.at.av];rfl,T,fun t=>t⟩
  ·exact ⟨1,p1,A,by rw [ab];omega,by omega,by rw [o.at.av];rfl,T.swap,fun t=>t.swap⟩
 rw [hk];refine ⟨_,_,V5 lr k a9,_,ae,fun vs s'=>s'=C/\∃ r:Nat,vs=[.int .i64 (r:Nat)]/\r<=10/\(i=l.length->r=10),?_,_,p.cj iU _,af.mk (fun h=>⟨rfl,10,rfl,by omega,fun _=>rfl⟩) (fun h=>⟨rfl,1,rfl,by omega,fun h2=>by subst h2;simp at h⟩)⟩;rintro cr cs ⟨rfl,r0,hv,al,a'⟩;simp only [List.cons.injEq,AV.int.injEq,true_and,and_true] at hv;subst hv;refine aa.use (Tp.attach D Y) ?_;rintro cu cv ⟨rfl,ba⟩ bb;refine ⟨_,rfl,af.no rfl ?_⟩;refine ⟨fun vs s'=>∃ (q' pl:Nat),vs=[.int .u64 ((q'+1:Nat):Int)]/\aM s'/\Uq s s' w c x n 1 ps po lr [.ptr (some (A,0)),.ptr (some (p1,0))] (ay qU) q' pl/\(i=l.length->q'=n)/\q'<=n,?_,fun m' vs s'=>∃ (q' pl r:Nat),vs=[.int .u64 ((q'+1:Nat):Int),.int .i64 (r:Nat)]/\m'=r/\aM s'/\r<=10/\Uq s s' w c x n 1 ps po lr [.ptr (some (A,0)),.ptr (some (p1,0))] (ay qU) q' pl/\(i=l.length->n<=q'+16*r)/\q'<=n,r0,⟨q,0,r0,rfl,rfl,bb,al,ba,fun h=>by have:=a' h;omega,Y⟩,?_⟩
 ·rintro cw cx ⟨q',pl,hv,cy,B,J,K⟩;simp only [List.cons.injEq,AV.int.injEq,true_and,and_true] at hv;subst hv;refine aa.use (B.JM (by omega)) ?_;rintro cz cA ⟨bv,rfl,T2⟩ bc;exact ⟨_,_,rfl,af.no rfl ⟨l.length+1 - (i+1),by omega,i+1,q',n,c,bv,_,by rw [AL (by omega)],by omega,rfl,bc,K,by omega,fun h=>J (by omega),ow,.inr ⟨SA (by omega),A8 (by omega),rfl⟩,back T2⟩⟩
 rintro m' cB cC am ⟨q',pl,r,hv,rfl,bd,hr,B,H,K⟩;simp only [List.cons.injEq,AV.int.injEq,true_and,and_true] at hv;obtain ⟨rfl,rfl⟩:=hv;refine af.dec (fun be=>?_) (fun be=>?_);rotate_left
 ·obtain rfl:m'=0:=by omega
  exact ⟨q',pl,rfl,bd,B,fun h=>by have:=H h;omega,K⟩
 have L:∃ Q:Nat,IntKind.wrap .i64 (1+Int.tmod d 16)=(Q:Int)/\1<=Q/\Q<=16/\(i=l.length->Q=16):=by
  refine ⟨(1+d % 16).toNat,by rw [ad,aW (by omega)];omega,by omega,by omega,fun h=>?_⟩;have:=F h;omega
 obtain ⟨Q,L,an,M,ao⟩:=L;have ar:av am w.l 0=some (.ptr (some (w.pc,0)))/\av am w.l (0+1)=some (.ptr (some (w.ps,0))):=by
  obtain ⟨_,_,_,_,W,_⟩:=B;exact W.aC
 refine ⟨by decide,_,ar.1,_,ar.2,?_⟩;rw [L];refine aa.use (B.SD (by omega) (by omega) ow an M) ?_;rintro c0 aw ⟨out,O,rfl,gO,bh,bi,a0⟩ c1;refine ⟨_,_,rfl,af.no rfl ?_⟩;refine ⟨fun vs s'=>s'=aw/\vs=[.int .u64 ((q'+O.length+1:Nat):Int)],?_,fun m2 vs s'=>s'=aw/\∃ k:Nat,vs=[.int .u64 ((q'+k+1:Nat):Int),.int .i64 (k:Nat)]/\k<=O.length/\m2=O.length - k,O.length,⟨rfl,0,rfl,by omega,rfl⟩,?_⟩
 ·rintro c2 c3 ⟨rfl,hv⟩;simp only [List.cons.injEq,AV.int.injEq,true_and,and_true] at hv;subst hv;refine ⟨_,(gO.sl aY).cj c_ _,?_⟩;rw [bh];refine aa.use a0 ?_;rintro c4 c5 ⟨bv,rfl,bj⟩ bk;refine ⟨_,_,rfl,af.no rfl ⟨m' - 1,by omega,q'+min Q (n - q'),_,m' - 1,?_,rfl,bk,by omega,bj,fun h=>?_,by omega⟩⟩
  ·rw [aW (by omega),show ((m':Int) - 1)=((m' - 1:Nat):Int) by omega]
  ·have h1:=H h;have h2:=ao h;omega
 ·rintro m2 c6 c7 bl ⟨rfl,R,hv,c8,rfl⟩;simp only [List.cons.injEq,AV.int.injEq,true_and,and_true] at hv;obtain ⟨rfl,rfl⟩:=hv;refine ⟨_,(gO.sl aY).cj c_ _,af.dec (fun bx=>?_) (fun b0=>?_)⟩
  ·obtain ⟨me,a1⟩:=cS (l:=O) (i:=R) (by omega);obtain ⟨la,o,k8,k9⟩:=(gO.sl aY).ix (by decide) aY c_ xo a1;have hc:av bl la (o+1)=some (.int .u64 ((q'+R+1:Nat):Int)):=by
    rw [(k9 _ (Ext.refl _)).1 1 (by omega)];show some (AV.int .u64 me.ev.id.c)=_;rw [bi R me a1]
   refine ⟨la,o,k8 _,_,hc,af.no (by simp) ⟨O.length - (R+1),by omega,rfl,R+1,?_,by omega,rfl⟩⟩;rw [AL (by omega),fy (by omega)];rfl
  ·obtain rfl:R=O.length:=by omega
   exact ⟨rfl,rfl⟩
end Go.Proofs.YtohgmogbabkkeaaGreat
end
