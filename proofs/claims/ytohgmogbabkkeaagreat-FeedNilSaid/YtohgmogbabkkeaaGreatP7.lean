/-
  A part of O4 proof: an abstract machine Bo O4 model, and qi of qj of this program Bo it.
-/
import Derived.Test.YtohgmogbabkkeaaGreatP6
set_option linter.unusedVariables false
set_option linter.unusedSimpArgs false
set_option linter.unusedSectionVars false
section
namespace Go.Proofs.YtohgmogbabkkeaaGreat
open Go.Am Go.au Go.aC Go.bL
section
variable {F Fc Fs:List Nat} {s:AS} {p pc ps n:Nat} {sec:List Int} {f:List UInt8->Option Dv} {c:iM} {x:aH}
def Mb (sec:List Int) (dev:List UInt8) (b:List Int) (v:List Int):Prop:=(b=[]/\v=dD)\/(Wm v/\tQ v=true/\b=A9 sec dev v)
theorem Mb.len {sec:List Int} {dev:List UInt8} {b v:List Int} (h:Mb sec dev b v):v.length=16:=by
 rcases h with ⟨_,rfl⟩ | ⟨h,_⟩
 ·rfl
 ·exact h.len
theorem Vx {s:AS} {sv bv:AV} {sec b v:List Int} (hs:gA s sv sec) (d:sec.length<=64) {dev:List UInt8} (c:aK dev=true) (hb:gA s bv b) (i:Mb sec dev b v) :
  aa Tryz.prog oC [sv,.str dev,bv] s fun r s'=>r=.aP [.agg (v.map (.int .u64)),.int .i64 0]/\Ext s s':=by
 rcases i with ⟨rfl,rfl⟩ | ⟨j,h2,rfl⟩
 ·refine (Vp (sv:=sv) hb dev (.inr rfl)).mono ?_;rintro r s' ⟨rfl,e⟩;exact ⟨by rw [if_pos c],e⟩
 ·exact Vq hs d dev c j h2 hb
theorem Qn {v:List Int} (hv:v.length=16):aS T n_ [(0,.agg (v.map (.int .u64)))]=some (.agg (mH v 0 (.slc none 0 0 true))):=by
 obtain ⟨a,b,c,d,e,f,g,i,j,k,l,m,n,o,p,q,rfl⟩:=Sk hv;rw [qp (pl:=[(0,16),(16,1),(17,1)]) (by kernel_rfl) EW rfl];have r:bI (.agg ([a,b,c,d,e,f,g,i,j,k,l,m,n,o,p,q].map (AV.int .u64)))=some ([a,b,c,d,e,f,g,i,j,k,l,m,n,o,p,q].map (AV.int .u64)):=rfl;simp only [List.map_cons,List.map_nil] at r ⊢;simp only [jc,AV.cells,r,List.getElem?_cons_zero,List.length_cons,List.length_nil,Nat.zero_add,Nat.reduceAdd,Nat.reduceLeDiff,and_self,if_true,Option.map_some];rfl
set_option maxRecDepth 20000 in
theorem Qo (h:kI F s p sec f n) (an:∀ y∈F,s.h y≠none) (hl:sec.length<=64) (name:List UInt8) {bv:AV} {b v:List Int} (hb:gA s bv b) (hc:aK name=true->f name=none->Mb sec name b v) :
  aa Tryz.prog dL [.ptr (some (p,0)),.str name,bv] s fun r s' =>
   (¬ (aK name=true/\f name=none/\n<64)/\(∃ e:Int,e≠0/\r=.int .i64 e)/\Ext s s') \/
   ((aK name=true/\f name=none/\n<64)/\r=.int .i64 0/\∃ F',kI F' s' p sec (kJ f name (some ⟨v,0,[]⟩)) (n+1)/\bD F s s'/\(∀ y∈F',y∈F\/s.h y=none)/\∀ y∈F',s'.h y≠none):=by
 refine aa.pre fun hw=>qX _ _ _ _ _ ?_;refine aa.use (tV h) ?_;rintro v1 s2 ⟨rfl,rfl⟩ w2;refine ⟨_,rfl,af.no rfl ?_⟩;refine aa.use (u6 name _) ?_;rintro v4 s5 ⟨rfl,rfl⟩ w5;refine ⟨_,rfl,af.mk (fun hn=>?_) (fun hn=>?_)⟩
 ·have B:aK name=false:=by simpa using hn
  exact .inl ⟨(fun h=>by rw [B] at h;cases h.1),⟨2,by decide,rfl⟩,Ext.refl _⟩
 have B:aK name=true:=by simpa using hn
 obtain ⟨sv,hm,es,k,R,h2,h3,⟨a1,a2⟩,S,c2,c3,c4,c5⟩:=id h;have J:∀ s',Ext s5 s'->dh T aB (.map (some hm)) (.str name) false s'=some (.ptr ((ec es name).map fun m=>(m.l,0))):=fun s' e=>by
  refine ((S.ext e).find u_ name false).trans ?_;cases ec es name <;> rfl
 refine ⟨_,by rw [R.at.av];rfl,_,J _ (Ext.refl _),_,dn vj _,?_⟩;cases U:ec es name with
 | some m=>exact af.yes rfl (.inl ⟨(fun hh=>by rw [(c3 _ _ U).2] at hh;cases hh.2.1),⟨7,by decide,rfl⟩,Ext.refl _⟩)
 | none =>
  have W:=c4 _ U;refine af.no rfl ⟨sv,by rw [R.at.av];rfl,?_⟩;have X:=hc B W;have D:=X.len;refine aa.use (Vx (a1.sl bU) hl B hb X) ?_;rintro ba bb ⟨rfl,K⟩ ao;refine ⟨_,_,rfl,lq ao (by simp [D]) rfl (bT _ _) fun zF fL G=>af.no (by decide) ⟨_,by rw [((R.ext K).ext G.ext).at.av];rfl,?_⟩⟩;have H:=K.trans G.ext;refine ⟨_,(S.ext H).cI u_,af.dec (fun bc=>.inl ⟨fun hh=>by omega,⟨5,by decide,rfl⟩,H⟩) (fun bd=>?_)⟩;refine ⟨fun q _ w s'=>q=7->∃ l,w=.ptr (some (l,0))/\Am.Own s' l (mH v 0 (.slc none 0 0 true))/\fL.h l=none,fun q _ w=>q=7->∃ l,w=.ptr (some (l,0)),fun q _ w a b e g U=>by obtain ⟨l,x,y,z⟩:=g U;exact ⟨l,x,y.ext e,z⟩,_,by rw [((R.ext K).ext G.ext).at.av];rfl,_,S6 D G.own.at,_,Qn D,fun mu ap ar _=>⟨?_,aj.intro ar rfl fun Y be M=>⟨M.ext,(fun _=>⟨Y,rfl,M.own,ap.none M.no⟩),(fun _=>⟨Y,rfl⟩)⟩⟩,⟨.ptr (some (0,0)),fun _=>⟨0,rfl⟩⟩,fun bh Z=>?_⟩
  ·rw [mH,List.all_append,bT];rfl
  obtain ⟨l,rfl⟩:=Z rfl;refine ⟨_,rfl,fun jZ aw a0 hS=>?_⟩;obtain ⟨l',ab,ad,a3⟩:=hS.1 rfl;simp only [AV.ptr.injEq,Option.some.injEq,Prod.mk.injEq,and_true] at ab;subst ab;have d:=H.trans aw
  let md:Qm:=⟨l,.slc none 0 0 true,⟨v,0,[]⟩,[],D⟩
  refine eM.oW u_ a0 (S.ext d) name md fun a4 es' k' hM j bi C=>.inr ⟨⟨B,W,by omega⟩,rfl,?_⟩;have i:∀ {y g:Nat},Tag jZ y g->y≠hm:=fun t e=>Tag.O1 (S.ext d).obj (e ▸ t);have ae:s5.h l=none:=H.none a3;have hC:kI (l::F) a4 p sec (kJ f name (some ⟨v,0,[]⟩)) (n+1):=by
   refine ⟨sv,hm,es',k',(R.ext d).mut C (by simpa using i (Own.tag (R.ext d))),by simp [h2],by simp [h3],⟨(a1.ext d).mut C fun y c hx=>i (br.tag (a1.ext d) y c) (by simpa using hx),fun y c=>by simp [a2 y c]⟩,hM,?_,fun a y c=>?_,fun a o=>?_,fun a b y z c A al=>?_⟩
   ·rw [Ij S.nd hM.nd j,U,<- c2];rfl
   ·rw [j] at c;by_cases o:a=name
    ·rw [if_pos o] at c;obtain rfl:=Option.some.inj c;exact ⟨⟨ad.mut C (by simpa using i (Own.tag ad)),br.nil,rfl,fun y c=>by simp [fC,ay,md] at c;simp [c]⟩,by rw [kJ,if_pos o]⟩
    ·rw [if_neg o] at c;obtain ⟨hE,a5⟩:=c3 a y c;have I:=(hE.mut (L:=[]) d.mut (by simp)).mut C fun z A O=>by
      obtain rfl:=List.mem_singleton.1 A;rcases List.mem_cons.1 O with e | O
      ·exact i (Own.tag (hE.1.ext d)) e.symm
      ·exact i (br.tag (hE.2.1.ext d) _ O) rfl
     exact ⟨⟨I.1,I.2.1,I.2.2.1,fun z A=>List.mem_cons_of_mem _ (I.2.2.2 z A)⟩,by rw [kJ,if_neg o];exact a5⟩
   ·rw [j] at o;by_cases Q:a=name
    ·rw [if_pos Q] at o;cases o
    ·rw [if_neg Q] at o;rw [kJ,if_neg Q];exact c4 a o
   ·have old:∀ (b:List UInt8) (y:Qm),ec es b=some y->∀ z,z∈fC md->z ∉ fC y:=fun b y c z A a6=>by
     simp only [fC,ay,md,List.mem_cons,List.not_mem_nil,or_false] at A;subst A;exact an z ((c3 b y c).1.2.2.2 z a6) ae
    rw [j] at c A;by_cases o:a=name
    ·rw [if_pos o] at c;obtain rfl:=Option.some.inj c;rw [if_neg (by rw [<- o];exact Ne.symm al)] at A;exact old b z A
    ·rw [if_neg o] at c;by_cases am:b=name
     ·rw [if_pos am] at A;obtain rfl:=Option.some.inj A;exact fun w hw a7=>old a y c w a7 hw
     ·rw [if_neg am] at A;exact c5 a b y z c A al
  obtain ⟨F0,a8,a9,a'⟩:=hC.tight;refine ⟨F0,a8,d.mut.trans (C.mono fun y c=>by obtain rfl:=List.mem_singleton.1 c;exact h3),fun y c=>?_,a'⟩;rcases List.mem_cons.1 (a9 y c) with rfl | h
  ·exact .inr ae
  ·exact .inl h
end
end Go.Proofs.YtohgmogbabkkeaaGreat
end

section
namespace Go.Proofs.YtohgmogbabkkeaaGreat
open Go.Am Go.au Go.aC Go.bL
theorem Qp {s:AS} {v:AV} {l:List F_} (b:Sl ry 16 s v l) (i:l.length<=2 ^ 30):aa Tryz.prog cT [v] s fun r s'=>aU ry 16 [] s s' r l:=by
 refine aa.pre fun j=>mR _ _ _ ?_;have main:aR (cV T a_ 0 []) fun k=>aj (.cells k 0 false) s fun l3 s4=>iD (aI T a_ a_ (.slc (some (l3,0)) 0 0 true) v s4) fun m s6=>aU ry 16 [] s s6 m l:=by
  refine ⟨_,zW gU,aj.intro j rfl fun l3 s4 F=>?_⟩;refine aU.kK gU cG oh F.wf (aU.start (M:=[]) F.ext.mut) (by simp) (b.ext F.ext) (by simpa using i) dN fun v' s' g _ _=>?_;simpa using g
 rcases b with ⟨rfl,_,d⟩ | ⟨a,c,e,rfl,hlen,h3⟩
 ·refine ⟨_,rF dN _ _ _ _,af.no rfl main⟩
 ·refine ⟨_,rE dN _ _ _ _ _ _ _ _,af.mk (fun h=>?_) (fun _=>main)⟩;have:a=none:=by simpa using h
  subst this;have:l=[]:=by
   rcases h3 with h3 | ⟨la,o,C,h,_⟩
   ·exact List.length_eq_zero_iff.1 h3
   ·cases h
  subst this;exact aU.nil
theorem Sz {cur b:List Int} (h:cur.length=16) (c:b.length=16) (pl:Int) (hv:AV):qk (mH cur pl hv) 0 (b.map (.int .u64))=mH b pl hv:=by
 apply List.ext_getElem?;intro k;rw [jH _ _ _ _ (by rw [mI h];simp [c])];simp only [List.length_map,c,Nat.zero_add,Nat.zero_le,true_and,Nat.sub_zero,mH];by_cases d:k<16
 ·rw [if_pos d,List.getElem?_append_left (by simp [c];omega)]
 ·rw [if_neg d,List.getElem?_append_right (by simp [h];omega),List.getElem?_append_right (by simp [c];omega)];simp [h,c]
section
variable {F:List Nat} {s:AS} {p n:Nat} {sec:List Int} {f:List UInt8->Option Dv}
theorem Qq (h:kI F s p sec f n) (U:∀ y∈F,s.h y≠none) (hl:sec.length<=64) (name:List UInt8) (hm:∀ d,f name=some d->tQ d.cur=true) :
  aa Tryz.prog eF [.ptr (some (p,0)),.str name] s fun r s' =>
   ((aK name=false\/f name=none)/\(∃ e:Int,e≠0/\r=.aP [.slc none 0 0 true,.int .i64 e])/\s'=s) \/
   (aK name=true/\∃ d w s1,f name=some d/\r=.aP [w,.int .i64 0]/\aU qg 1 [] s1 s' w (A9 sec name d.cur)/\kI F s1 p sec (kJ f name none) (n - 1)/\bD F s s1/\∀ y∈F,s1.h y≠none):=by
 refine aa.pre fun hw=>qY _ _ _ _ ?_;refine aa.use (Bj h name true) ?_;rintro v1 s2 ⟨rfl,rfl⟩ w2;refine ⟨_,rfl,?_⟩;cases hn:aK name with
 | false=>exact af.yes rfl (.inl ⟨.inl rfl,⟨2,by decide,rfl⟩,rfl⟩)
 | true =>
  cases R:f name with
  | none=>exact af.yes rfl (.inl ⟨.inr rfl,⟨7,by decide,rfl⟩,rfl⟩)
  | some d =>
   refine af.no rfl ?_;obtain ⟨sv,vS,es,k,S,h2,h3,⟨a1,a2⟩,W,c2,X,c4,c5⟩:=id h;cases K:ec es name with
   | none=>rw [c4 _ K] at R;cases R
   | some m =>
    obtain ⟨hD,L⟩:=X _ _ K;rw [R] at L;obtain rfl:=Option.some.inj L;have G:dh T aB (.map (some vS)) (.str name) false s2=some (.ptr (some (m.l,0))):=by
     have:=W.find u_ name false;rw [K] at this;exact this
    refine ⟨_,by rw [S.at.av];rfl,_,G,_,by rw [S.at.av];rfl,?_⟩;refine eM.del u_ w2 W name K fun B es' hM j hlen ab x=>?_;have i:∀ {y g:Nat},Tag s2 y g->y≠vS:=fun t e=>Tag.O1 W.obj (e ▸ t);have M:=S.mut x (by simpa using i (Own.tag S));have C:=a1.mut x fun y c hx=>i (br.tag a1 y c) (by simpa using hx);have D:∀ a y,ec es a=some y->FV F B y:=fun a y c=>by
     obtain ⟨Y,_⟩:=X a y c;exact Y.mut x fun z H I=>by
      obtain rfl:=List.mem_singleton.1 H;rcases List.mem_cons.1 I with e | I
      ·exact i (Own.tag Y.1) e.symm
      ·exact i (br.tag Y.2.1 _ I) rfl
    have dm:=D _ _ K;refine ⟨sv,by rw [M.at.av];rfl,_,dm.1.at.aD (by rw [mI m.len];omega),?_⟩;rw [Bi m.len];refine aa.use (L3 (C.sl bU) hl name m.len hn (hm _ R)) ?_;rintro ad gz ⟨w,rfl,g⟩ ae;have al:Ext B gz:=g.eL.ext;refine ⟨_,_,rfl,.inr ⟨rfl,m.d,w,B,rfl,rfl,g,?_,?_,?_⟩⟩
    ·refine (kI.mk ⟨sv,vS,es',k,M,h2,h3,⟨C,a2⟩,hM,by omega,fun a y c=>?_,fun a A=>?_,fun a b y z c H Z=>?_⟩:kI F B p sec (kJ f name none) (n - 1))
     ·rw [j] at c;by_cases A:a=name
      ·rw [if_pos A] at c;cases c
      ·rw [if_neg A] at c;exact ⟨D a y c,by rw [kJ,if_neg A];exact (X a y c).2⟩
     ·rw [j] at A;by_cases J:a=name
      ·rw [kJ,if_pos J]
      ·rw [if_neg J] at A;rw [kJ,if_neg J];exact c4 a A
     ·rw [j] at c H;by_cases A:a=name
      ·rw [if_pos A] at c;cases c
      ·by_cases hb:b=name
       ·rw [if_pos hb] at H;cases H
       ·rw [if_neg A] at c;rw [if_neg hb] at H;exact c5 a b y z c H Z
    ·exact x.mono fun y c=>by obtain rfl:=List.mem_singleton.1 c;exact h3
    ·intro y c;by_cases O:y=vS
     ·subst O;rw [hM.obj];simp
     ·cases Q:s2.h y with
      | none=>exact absurd Q (U y c)
      | some o=>rw [x.1 y o (by simpa using O) Q];simp
def rz (d:Dv) (k:Nat):Dv:=if k=0 then d else ⟨mW d.cur (d.hand.getD (k - 1) []),d.place,d.hand.drop k⟩
def WO (F : List Nat) (s : AS) (p n : Nat) (sec : List Int) (f : List UInt8 -> Option Dv) (name : List UInt8) (k : Int) (r : AV) (s' : AS) : Prop :=
      ((aK name = false \/ k < 0 \/ (∀ d, f name = some d -> k > d.hand.length)) /\ (∃ e : Int, e ≠ 0 /\ r = .aP [.slc none 0 0 true, .int .i64 e]) /\ s' = s) \/
      (aK name = true /\ ∃ (d : Dv) (j : Nat) (w : AV) (F' : List Nat) (s1 : AS), k = j /\ f name = some d /\ j <= d.hand.length /\ r = .aP [w, .int .i64 0] /\ aU qg 1 [] s1 s' w (A9 sec name (rz d j).cur) /\ kI F' s1 p sec (kJ f name (some (rz d j))) n /\ Sy F s s1 /\ (∀ y ∈ F', y ∈ F \/ s.h y = none) /\ ∀ y ∈ F', s1.h y ≠ none)
set_option maxRecDepth 20000 in
theorem Vy (h:kI F s p sec f n) (a0:∀ y∈F,s.h y≠none) (hl:sec.length<=64) (name:List UInt8) (k:Int) (hm:∀ d,f name=some d->∀ j,j<=d.hand.length->tQ (rz d j).cur=true) (hh:∀ d,f name=some d->d.hand.length<=2 ^ 28) :
  aa Tryz.prog fQ [.ptr (some (p,0)),.str name,.int .i64 k] s (WO F s p n sec f name k):=by
 refine aa.pre fun hw=>vp _ _ _ _ _ ?_;refine aa.use (Bj h name _) ?_;rintro v1 s2 ⟨rfl,rfl⟩ w2;refine ⟨_,rfl,?_⟩;by_cases a1:k<0
 ·have S:decide (k>=0)=false:=by rw [decide_eq_false_iff_not];omega
  rw [S,show (!aK name||!false)=true by simp];exact af.yes rfl (.inl ⟨.inr (.inl a1),⟨2,by decide,rfl⟩,rfl⟩)
 have hk:k>=0:=by omega
 obtain ⟨j,rfl⟩:=Int.eq_ofNat_of_zero_le hk;have S:decide ((j:Int)>=0)=true:=decide_eq_true hk;rw [S];cases hn:aK name with
 | false=>exact af.yes rfl (.inl ⟨.inl hn,⟨2,by decide,rfl⟩,rfl⟩)
 | true =>
  cases U:f name with
  | none=>exact af.yes rfl (.inl ⟨.inr (.inr fun d hd=>by rw [U] at hd;cases hd),⟨7,by decide,rfl⟩,rfl⟩)
  | some d =>
   refine af.no rfl ?_;obtain ⟨m,sv,vS,rfl,r,op,⟨a2,b0⟩,W,a3,a4,ab⟩:=h.dev a0 U;have b1:m.H.length=m.d.hand.length:=by rw [<- r.2.2.1,List.length_map]
   have b2:=hh _ U;have a5:=mI m.len m.d.place m.hv;have ad:=D_ m.len m.d.place m.hv;have sl:=r.2.1.sl cG;refine ⟨_,by rw [op.at.av];rfl,_,W _ (Ext.refl _),m.hv,by rw [r.1.at.av];exact ad.2,_,sl.cI dN _,af.dec (fun b3=>.inl ⟨.inr (.inr fun d' ae=>by rw [U] at ae;obtain rfl:=Option.some.inj ae;omega),⟨6,by decide,rfl⟩,rfl⟩) (fun hle=>?_)⟩;have hj:j<=m.d.hand.length:=by omega
   have kl:m.l∈fC m:=by simp [fC]
   refine ⟨fun vs s'=>Ext s2 s'/\aM s'/\j=0\/aM s'/\j≠0/\bD [m.l] s2 s'/\∃ oX ,Am.Own s' m.l (mH (rz m.d j).cur m.d.place oX)/\br ry 16 s' oX (m.H.drop j)/\∀ y∈ay oX,s2.h y=none,?_,af.dec (fun bx=>?_) (fun J=>.inl ⟨Ext.refl _,w2,by omega⟩)⟩
   ·let PP:AV->AS->Prop:=fun v fL=>∃ (w:AV) (F':List Nat) (s1:AS),v=.aP [w,.int .i64 0]/\aU qg 1 [] s1 fL w (A9 sec name (rz m.d j).cur)/\kI F' s1 p sec (kJ f name (some (rz m.d j))) n/\Sy F s2 s1/\(∀ y∈F',y∈F\/s2.h y=none)/\∀ y∈F',s1.h y≠none
    have fin:∀ (bP:AS) (oX:AV) (H':List F_),aM bP->bD (fC m) s2 bP->Am.Own bP m.l (mH (rz m.d j).cur m.d.place oX)->br ry 16 bP oX H'->H'.map F_.v=(rz m.d j).hand->(rz m.d j).cur.length=16->(rz m.d j).place=m.d.place->(∀ y∈ay oX,y∈fC m\/s2.h y=none) ->
      ah (some (p,0)) fun lC A=>dS (av bP lC A) fun nM=>ah (some (m.l,0)) fun B C=>aR (aD bP B C 16) fun x=>aa Tryz.prog fI [nM,.str name,.agg x] bP fun v20 fL=>∃ b:AV,∃ c:Int,v20=.aP [b,.int .i64 c] /\
       PP (.aP [b,.int .i64 c]) fL:=by
     intro bP oX H' K mm ho hg hH L a6 al;have am:=op.mut mm a3;have X:=a2.mut mm a4;refine ⟨sv,by rw [am.at.av];rfl,_,ho.at.aD (by rw [mI L];omega),?_⟩;rw [Bi L];refine aa.use (L3 (X.sl bU) hl name L hn (hm _ U j hj)) ?_;rintro v20 fL ⟨w,rfl,g⟩ b4;obtain ⟨F',a7,a8,a9⟩:=ab bP ⟨m.l,oX,rz m.d j,H',L⟩ rfl mm (by rw [a6];exact ho) hg hH al;refine ⟨_,_,rfl,w,F',bP,rfl,g,a7,⟨fC m,mm,fun y D=>⟨r.2.2.2 y D,fun g t=>?_⟩⟩,a8,a9⟩;rcases List.mem_cons.1 D with rfl | D
     ·exact .inl (t.uniq (Own.tag r.1))
     ·exact .inr (t.uniq (br.tag r.2.1 y D))
    have conv:∀ {P:AV->AS->Prop} (bP:AS),(ah (some (p,0)) fun lC A=>dS (av bP lC A) fun nM=>ah (some (m.l,0)) fun B C=>aR (aD bP B C 16) fun x=>aa Tryz.prog fI [nM,.str name,.agg x] bP fun v20 fL=>∃ b:AV,∃ c:Int,v20=.aP [b,.int .i64 c]/\P (.aP [b,.int .i64 c]) fL)->∀ {P':AV->AS->Prop},(∀ v s,P v s->P' v s)->ah (some (p,0)) fun lC A=>dS (av bP lC A) fun nM=>ah (some (m.l,0)) fun B C=>aR (aD bP B C 16) fun x=>aa Tryz.prog fI [nM,.str name,.agg x] bP fun v20 fL=>∃ b:AV,∃ c:Int,v20=.aP [b,.int .i64 c]/\P' (.aP [b,.int .i64 c]) fL:=by
     intro P bP hq P' hP;obtain ⟨nM,an,x,ao,hc⟩:=hq;refine ⟨nM,an,x,ao,hc.mono ?_⟩;rintro v20 fL ⟨b,c,e,hp⟩;exact ⟨b,c,e,hP _ _ hp⟩
    rintro bP (⟨Y,K,rfl⟩ | ⟨K,M,a',oX,ba,X,bb⟩)
    ·have R:rz m.d 0=m.d:=rfl;refine conv (P:=PP) bP (fin bP m.hv m.H K Y.mut (by rw [R];exact r.1.ext Y) (r.2.1.ext Y) (by rw [R];exact r.2.2.1) (by rw [R];exact m.len) (by rw [R]) fun y D=>.inl (by simp [fC,D])) ?_
     rintro v s ⟨w,F',s1,h1,h2⟩;exact .inr ⟨hn,m.d,0,w,F',s1,rfl,U,hj,h1,h2⟩
    ·have R:rz m.d j=⟨mW m.d.cur (m.d.hand.getD (j - 1) []),m.d.place,m.d.hand.drop j⟩:=by rw [rz,if_neg M]
     refine conv (P:=PP) bP (fin bP oX (m.H.drop j) K (a'.mono (by simp [kl])) ba X (by rw [R,List.map_drop,r.2.2.1]) (by rw [R];exact dx _ _) (by rw [R]) fun y D=>.inr (bb y D)) ?_
     rintro v s ⟨w,F',s1,h1,h2⟩;exact .inr ⟨hn,m.d,j,w,F',s1,rfl,U,hj,h1,h2⟩
   ·have M:j≠0:=by omega
    obtain ⟨y,D⟩:=de (l:=m.H) (i:=j - 1) (by omega);have bc:m.d.hand.getD (j - 1) []=y.v:=by rw [List.getD_eq_getElem?_getD,<- r.2.2.1,List.getElem?_map,D];rfl
    obtain ⟨la,o,k8,k9⟩:=sl.ix (by decide) cG dN tj D;have bd:IntKind.wrap .i64 ((j:Int) - 1)=((j - 1:Nat):Int):=by rw [aW (by omega)];omega
    rw [bd];refine ⟨_,r.1.at.aD (by omega),m.hv,by rw [r.1.at.av];exact ad.2,la,o,k8 _,_,(k9 _ (Ext.refl _)).2,?_⟩;rw [Bi m.len];refine aa.use (Sg m.len y.len _) ?_;rintro b5 kr ⟨rfl,G⟩ be;refine ⟨_,rfl,⟨bT _ _,by simp [dx]⟩,bt.own be (r.1.ext G) (by simp [dx,a5]) fun bh O=>?_⟩;have Z:Am.Own bh m.l (mH (mW m.d.cur y.v) m.d.place m.hv):=by
     have:=O.at;rw [Sz m.len (dx _ _)] at this;exact this
    have ap:=D_ (dx m.d.cur y.v) m.d.place m.hv;have tl:∀ z∈[m.l],∀ g,Tag kr z g->g=0:=fun z J g t=>by
     obtain rfl:=List.mem_singleton.1 J;exact t.uniq (Own.tag (r.1.ext G))
    have bi:=br.e_ (r.2.1.ext G) O.mut fun z J g t=>by rw [tl z J g t];decide
    obtain ⟨bj,bk,bl⟩:=(bi.sl cG).rest cG dN tj (i:=j) (by omega) .i64;refine ⟨m.hv,by rw [Z.at.av];exact ap.2,bj,bk,?_⟩;refine aa.use (Qp bl (by simp;omega)) ?_;rintro ar bm I bo;have aw:=Z.ext I.eL.ext;refine cM I.iX.2 qJ (bt.own bo aw (by rw [mI (dx _ _)];simp) fun b6 Q=>.inr ⟨Q.wf,M,?_,ar,?_,?_,?_⟩)
    ·exact ((G.mut.trans O.mut).trans I.eL.ext.mut).trans Q.mut
    ·have:=Q.at;rw [fy,Nat.zero_add,(FW (dx _ _) _ 0 _ ar).2] at this;rw [rz,if_neg M,bc];exact this
    ·have t44:∀ z∈[m.l],∀ g,Tag bm z g->g=0:=fun z J g t=>by
      obtain rfl:=List.mem_singleton.1 J;exact t.uniq (Own.tag aw)
     exact br.e_ I.vq Q.mut fun z J g t=>by rw [t44 z J g t];decide
    ·intro z J;have:=I.new z J;cases hq:s2.h z with
     | none=>rfl
     | some ob =>
      have bs:z≠m.l:=fun e=>by subst e;rw [Z] at this;cases this
      rw [O.eq z bs,G.1 z ob hq] at this;cases this
end
end Go.Proofs.YtohgmogbabkkeaaGreat
end

section
namespace Go.Proofs.YtohgmogbabkkeaaGreat
open Go.Am Go.au Go.aC Go.bL
def Ap (s0 s:AS) (Rs:List (List Nat)):Prop:=Ext s0 s/\Rs.Pairwise Dj/\∀ R∈Rs,∀ y∈R,s0.h y=none/\s.h y≠none
section
variable {s0 s s':AS} {Rs A B:List (List Nat)} {R R':List Nat}
theorem Ext.there {y:Nat} (e:Ext s s') (h:s.h y≠none):s'.h y≠none:=by
 cases b:s.h y with
 | none=>exact absurd b h
 | some o=>rw [e.1 y o b];simp
theorem Ap.ext (h:Ap s0 s Rs) (e:Ext s s'):Ap s0 s' Rs:=⟨h.1.trans e,h.2.1,fun R b y c=>⟨(h.2.2 R b y c).1,Ext.there e (h.2.2 R b y c).2⟩⟩
theorem Ap.oW (h:Ap s0 s (A++R::B)) (m:bD R s s') (p:∀ y∈R',y∈R\/s.h y=none) (ht:∀ y∈R',s'.h y≠none):Ap s0 s' (A++R'::B):=by
 obtain ⟨e,C,n⟩:=h;obtain ⟨p1,D,r⟩:=List.pairwise_append.1 C;obtain ⟨F,G⟩:=List.pairwise_cons.1 D;have w:∀ y∈R,s0.h y=none/\s.h y≠none:=n R (by simp);have H:Ext s0 s':=Ext.Wn e (fun y i=>(w y i).1) m;have j:∀ Q,Q∈A\/Q∈B->Dj Q R/\∀ y∈Q,s0.h y=none/\s.h y≠none:=fun Q c=>by
  rcases c with c | c
  ·exact ⟨r Q c R (by simp),n Q (by simp [c])⟩
  ·exact ⟨(F Q c).symm,n Q (by simp [c])⟩
 have l:∀ Q,Q∈A\/Q∈B->Dj R' Q:=fun Q c=>Dj.step (j Q c).1.symm (fun y i=>((j Q c).2 y i).2) p;refine ⟨H,List.pairwise_append.2 ⟨p1,List.pairwise_cons.2 ⟨fun Q c=>l Q (.inr c),G⟩,fun a x b hb=>?_⟩,fun Q c y i=>?_⟩
 ·rcases List.mem_cons.1 hb with rfl | hb
  ·exact (l a (.inl x)).symm
  ·exact r a x b (by simp [hb])
 ·have k:Q=R'\/(Q∈A\/Q∈B):=by
   simp only [List.mem_append,List.mem_cons] at c;rcases c with h | h | h
   ·exact .inr (.inl h)
   ·exact .inl h
   ·exact .inr (.inr h)
  rcases k with rfl | k
  ·refine ⟨?_,ht y i⟩;rcases p y i with h | h
   ·exact (w y h).1
   ·exact e.none h
  ·obtain ⟨d,t⟩:=j Q k;refine ⟨(t y i).1,?_⟩;cases z:s.h y with
   | none=>exact absurd z (t y i).2
   | some o=>rw [m.1 y o (fun hm=>d y i hm) z];simp
theorem Ap.new (h:Ap s0 s Rs) (e:Ext s s') (d:∀ y∈R,s.h y=none) (ht:∀ y∈R,s'.h y≠none):Ap s0 s' (R::Rs):=by
 have i:=h.ext e;refine ⟨i.1,List.pairwise_cons.2 ⟨fun Q b y c j=>(h.2.2 Q b y j).2 (d y c),h.2.1⟩,fun Q b y c=>?_⟩;rcases List.mem_cons.1 b with rfl | b
 ·exact ⟨h.1.none (d y c),ht y c⟩
 ·exact i.2.2 Q b y c
theorem Ap.obj (h:Ap s0 s Rs) {l:Nat} {cs:List AV} (F:qy s s' l (.cells cs 0 false)):Ap s0 s' ([l]::Rs) :=
 h.new F.ext (fun y b=>by obtain rfl:=List.mem_singleton.1 b;exact F.no) fun y b=>by
  obtain rfl:=List.mem_singleton.1 b;rw [F.own];simp
theorem Ap.perm {Xd:List (List Nat)} (h:Ap s0 s Rs) (p:Rs.Perm Xd):Ap s0 s Xd :=
 ⟨h.1,(p.pairwise_iff fun {a b} d=>Dj.symm d).1 h.2.1,fun R c=>h.2.2 R (p.mem_iff.2 c)⟩
theorem Ap.ij (h:Ap s0 s Rs) (i j:Nat) {P Q:List Nat} (hi:Rs[i]? = some P) (hj:Rs[j]? = some Q) (d:i≠j):Dj P Q:=by
 have k:=h.2.1;obtain ⟨b,rfl⟩:=List.getElem?_eq_some_iff.1 hi;obtain ⟨c,rfl⟩:=List.getElem?_eq_some_iff.1 hj;rcases Nat.lt_or_gt_of_ne d with e | e
 ·exact List.pairwise_iff_getElem.1 k i j b c e
 ·exact (List.pairwise_iff_getElem.1 k j i c b e).symm
theorem Ap.th (h:Ap s0 s Rs) (i:Nat) {P:List Nat} (hi:Rs[i]? = some P):∀ y∈P,s.h y≠none:=fun y b=>(h.2.2 P (List.mem_of_getElem? hi) y b).2
theorem Ap.tail (h:Ap s0 s (R::Rs)):Ap s0 s Rs:=⟨h.1,(List.pairwise_cons.1 h.2.1).2,fun Q b=>h.2.2 Q (by simp [b])⟩
end
abbrev Wa:AV:=.slc none 0 0 true
structure Wq (hd:AV) (s:AS) (l pc ps pv pw:Nat) (Fc Fs Fv Fw:List Nat) (c:iM) (x:aH) (v:List Int) (n:Nat) (y:aH):Prop where
 own:Am.Own s l [.ptr (some (pc,0)),.ptr (some (ps,0)),.ptr (some (pv,0)),.ptr (some (pw,0))]
 ca:kH Fc s pc c
 se:gP Fs s ps x
 rc:HL hd Fv s pv v n
 re:pK Fw s pw y
section
variable {hd:AV} {s0 s s':AS} {l pc ps pv pw n n':Nat} {Fc Fs Fv Fw F':List Nat} {c c':iM} {x x' y y':aH} {v v':List Int} {Gs:List (List Nat)}
theorem Wq.mut {L:List Nat} (h:Wq hd s l pc ps pv pw Fc Fs Fv Fw c x v n y) (m:bD L s s') (d0:Dj L [l]) (d1:Dj L Fc) (d2:Dj L Fs) (d3:Dj L Fv) (d4:Dj L Fw):Wq hd s' l pc ps pv pw Fc Fs Fv Fw c x v n y :=
 ⟨h.own.mut m fun hm=>d0 l hm (by simp),h.ca.mut m d1,h.se.mut m d2,h.rc.mut m d3,h.re.mut m d4⟩
theorem Wq.ext (h:Wq hd s l pc ps pv pw Fc Fs Fv Fw c x v n y) (e:Ext s s'):Wq hd s' l pc ps pv pw Fc Fs Fv Fw c x v n y :=
 h.mut (L:=[]) e.mut (fun _ h=>by cases h) (fun _ h=>by cases h) (fun _ h=>by cases h) (fun _ h=>by cases h) (fun _ h=>by cases h)
theorem Wq.WQ (h:Wq hd s l pc ps pv pw Fc Fs Fv Fw c x v n y) (A:Ap s0 s ([l]::Fc::Fs::Fv::Fw::Gs)) (m:bD Fc s s') (b:kH F' s' pc c') (d:∀ y∈F',y∈Fc\/s.h y=none) (ht:∀ y∈F',s'.h y≠none) :
  Wq hd s' l pc ps pv pw F' Fs Fv Fw c' x v n y/\Ap s0 s' ([l]::F'::Fs::Fv::Fw::Gs) :=
 ⟨⟨h.own.mut m fun hm=>A.ij 1 0 rfl rfl (by decide) l hm (by simp),b,h.se.mut m (A.ij 1 2 rfl rfl (by decide)),h.rc.mut m (A.ij 1 3 rfl rfl (by decide)),h.re.mut m (A.ij 1 4 rfl rfl (by decide))⟩,Ap.oW (A:=[[l]]) A m d ht⟩
theorem Wq.Wb (h:Wq hd s l pc ps pv pw Fc Fs Fv Fw c x v n y) (A:Ap s0 s ([l]::Fc::Fs::Fv::Fw::Gs)) (m:bD Fs s s') (b:gP F' s' ps x') (d:∀ y∈F',y∈Fs\/s.h y=none) (ht:∀ y∈F',s'.h y≠none) :
  Wq hd s' l pc ps pv pw Fc F' Fv Fw c x' v n y/\Ap s0 s' ([l]::Fc::F'::Fv::Fw::Gs) :=
 ⟨⟨h.own.mut m fun hm=>A.ij 2 0 rfl rfl (by decide) l hm (by simp),h.ca.mut m (A.ij 2 1 rfl rfl (by decide)),b,h.rc.mut m (A.ij 2 3 rfl rfl (by decide)),h.re.mut m (A.ij 2 4 rfl rfl (by decide))⟩,Ap.oW (A:=[[l],Fc]) A m d ht⟩
theorem Wq.WR (h:Wq hd s l pc ps pv pw Fc Fs Fv Fw c x v n y) (A:Ap s0 s ([l]::Fc::Fs::Fv::Fw::Gs)) (m:bD Fv s s') {b:AV} (d:HL b F' s' pv v' n') (e:∀ y∈F',y∈Fv\/s.h y=none) (ht:∀ y∈F',s'.h y≠none) :
  Wq b s' l pc ps pv pw Fc Fs F' Fw c x v' n' y/\Ap s0 s' ([l]::Fc::Fs::F'::Fw::Gs) :=
 ⟨⟨h.own.mut m fun hm=>A.ij 3 0 rfl rfl (by decide) l hm (by simp),h.ca.mut m (A.ij 3 1 rfl rfl (by decide)),h.se.mut m (A.ij 3 2 rfl rfl (by decide)),d,h.re.mut m (A.ij 3 4 rfl rfl (by decide))⟩,Ap.oW (A:=[[l],Fc,Fs]) A m e ht⟩
theorem Wq.WS (h:Wq hd s l pc ps pv pw Fc Fs Fv Fw c x v n y) (A:Ap s0 s ([l]::Fc::Fs::Fv::Fw::Gs)) (m:bD Fw s s') (b:pK F' s' pw y') (d:∀ y∈F',y∈Fw\/s.h y=none) (ht:∀ y∈F',s'.h y≠none) :
  Wq hd s' l pc ps pv pw Fc Fs Fv F' c x v n y'/\Ap s0 s' ([l]::Fc::Fs::Fv::F'::Gs) :=
 ⟨⟨h.own.mut m fun hm=>A.ij 4 0 rfl rfl (by decide) l hm (by simp),h.ca.mut m (A.ij 4 1 rfl rfl (by decide)),h.se.mut m (A.ij 4 2 rfl rfl (by decide)),h.rc.mut m (A.ij 4 3 rfl rfl (by decide)),b⟩,Ap.oW (A:=[[l],Fc,Fs,Fv]) A m d ht⟩
theorem SA:aS T mT [(0,.int .i64 3),(1,.int .i64 1)]=some (.agg (gh dD (.slc none 0 0 true) (.slc none 0 0 true) (.slc none 0 0 true))):=by kernel_rfl
theorem SB:aS T qH []=some (.agg (dD.map (.int .u64)++[.slc none 0 0 true,.slc none 0 0 true])):=by kernel_rfl
theorem SC (a b c d:Nat):aS T oG [(0,.ptr (some (a,0))),(1,.ptr (some (b,0))),(2,.ptr (some (c,0))),(3,.ptr (some (d,0)))]=some (.agg [.ptr (some (a,0)),.ptr (some (b,0)),.ptr (some (c,0)),.ptr (some (d,0))]):=by kernel_rfl
theorem SD (A:Ap s0 s Gs):aa Tryz.prog ki [] s fun r s'=>∃ l pc ps pv pw Fc Fs Fv Fw,r=.aP [.ptr (some (l,0)),.bool true]/\Wq Wa s' l pc ps pv pw Fc Fs Fv Fw iM.zero aH.zero dD 0 aH.zero/\Ap s0 s' ([l]::Fc::Fs::Fv::Fw::Gs)/\Ext s s':=by
 refine Gm _ _ ?_;refine aa.use (T9 s) ?_;rintro D s2 ⟨pc,Fc,rfl,m,n,tc,e2⟩ w2;refine ⟨_,_,rfl,?_⟩;refine aa.use (Vc s2) ?_;rintro F s6 ⟨ps,Fs,rfl,hs,o,ts,j⟩ p;refine ⟨_,rfl,_,SA,rfl,aj.intro p rfl fun pv w b=>⟨_,SB,rfl,aj.intro b.wf rfl fun pw bP c=>⟨_,SC _ _ _ _,rfl,aj.intro c.wf rfl fun l x d=>?_⟩⟩⟩;have z:=A.new e2 n tc;have B:=z.new j o ts;have k:=((B.obj b).obj c).obj d;have i:=c.ext.trans d.ext;have e:=b.ext.trans i;refine ⟨l,pc,ps,pv,pw,Fc,Fs,[pv],[pw],rfl,⟨d.own,m.ext (j.trans e),hs.ext e,⟨rfl,_,_,[],[],b.own.ext i,by simp,⟨br.nil,by simp [ay],rfl⟩,⟨br.nil,by simp [ay],rfl⟩⟩,⟨Lj.zero,(fun y C=>by cases C),_,_,[],c.own.ext d.ext,⟨rfl,(by simp),br.nil⟩,⟨rfl,(by simp),br.nil⟩,?_,by simp,by simp [ay],by simp [ay]⟩⟩,k.perm ?_,e2.trans (j.trans e)⟩
 ·exact Items.zero
 ·refine List.Perm.cons _ ?_;refine (List.Perm.swap _ _ _).trans ?_;have p1:([pv]::[pw]::Fs::Fc::Gs).Perm ([pv]::[pw]::Fc::Fs::Gs):=.cons _ (.cons _ (.swap _ _ _));refine p1.trans ?_;exact (List.perm_append_comm_assoc [[pv],[pw]] [Fc,Fs] Gs)
end
end Go.Proofs.YtohgmogbabkkeaaGreat
end

section
namespace Go.Proofs.YtohgmogbabkkeaaGreat
open Go.Am Go.au Go.aC Go.bL
section
variable {hd:AV} {s0 s s':AS} {l pc ps pv pw n B:Nat} {Fc Fs Fv Fw F':List Nat} {c:iM} {x:aH} {v:List Int} {Gs:List (List Nat)}
def SF (x x':aH) (t d:List UInt8):Prop:=((aK t&&aK d)=false/\x'=x)\/((aK t&&aK d)=true/\∃ (m:Int) (l:List aJ),0<=m/\x.has ⟨1,m+1⟩=false/\(m=0\/x.has ⟨1,m⟩=true)/\qf x ⟨t,d⟩ l/\x'=(x.ew (⟨⟨1,m+1⟩,⟨t,d⟩,false⟩::l.map eZ)).2)
set_option maxRecDepth 20000 in
theorem JJ (h:Wq hd s l pc ps pv pw Fc Fs Fv Fw c x v n x) (A:Ap s0 s ([l]::Fc::Fs::Fv::Fw::Gs)) (o:mV x B) (hB:B<=450) (hN:∀ d,x.has d=true->d.c<=1073741824) (t dv:List UInt8) :
  aa Tryz.prog eY [.ptr (some (l,0)),.str t,.str dv] s fun r s'=>r=.bool true/\∃ K M x',Wq hd s' l pc ps pv pw Fc K Fv M c x' v n x'/\Ap s0 s' ([l]::Fc::K::Fv::M::Gs)/\SF x x' t dv/\bD (Fs++Fw) s s':=by
 obtain ⟨b1,b2⟩:=h.se.WJ o;refine aa.pre fun hw=>tu _ _ _ _ _ ⟨some (pw,0),by rw [h.own.at.av];rfl,?_⟩;refine aa.use (Ua h.re (by omega)) ?_;rintro v6 s7 ⟨rfl,m,rfl,Z,O,D⟩ w7;have hm:m<=1073741824:=by
  rcases D with rfl | D
  ·omega
  ·exact hN _ D
 have ab:IntKind.wrap .u64 (m+1)=m+1:=gw (by omega);refine ⟨_,rfl,?_⟩;rw [ab];refine ⟨_,zb _ _,aj.intro w7 rfl fun mL a2 p=>⟨⟨rfl,rfl⟩,bt.own p.wf p.own (by simp [aN]) fun dI Q=>?_⟩⟩
 let d:aJ:=⟨1,m+1⟩
 have hd:d.may=true:=aJ.gD.2 (by simp only [d];omega);have H:Am.Own dI mL (aN d):=Q.at;have F:Ext s7 dI:=Ext.wr p.ext p.no Q.mut;have z:=h.ext F;have I:=A.ext F;have G:mL ∉ Fs:=fun i=>A.th 2 rfl _ i p.no;have nl:l ∉ Fs:=fun i=>A.ij 2 0 rfl rfl (by decide) l i (by simp)
 let k:Key:=⟨t,dv⟩
 have hk:k.may=(aK t&&aK dv):=rfl;refine ⟨fun a b=>bD Fs a b,fun _ _ _ s'=>((aK t&&aK dv)=false/\gP Fs s' ps x/\∀ y∈Fs,s'.h y≠none)\/((aK t&&aK dv)=true/\∃ F' L,qf x k L/\gP F' s' ps (x.ew (⟨d,k,false⟩::L.map eZ)).2/\(∀ y∈F',y∈Fs\/dI.h y=none)/\∀ y∈F',s'.h y≠none),fun s'=>gP Fs s' ps x/\∀ y∈Fs,s'.h y≠none,fun _ _ _ _=>True,fun _ _ v=>∃ w,v=.aP [w,.int .i64 (if (aK t&&aK dv)=true then 0 else 2)],
  fun a b e=>e.mut,fun a b c x y=>x.trans y,?_,fun _ _ _ _ _ _ _=>trivial,fun a b e g=>⟨g.1.ext e,fun y i=>Ext.there e (g.2 y i)⟩,⟨z.se,I.th 2 rfl⟩,fun s' _ _=>rfl,some (ps,0),by rw [z.own.at.av];rfl,fun s' x _=>⟨some (ps,0),by rw [(z.own.mut x nl).at.av];rfl,rfl⟩,_,Cb _ _,_,H.at.aD (by simp [aN]),fun s' x _=>⟨_,(H.mut x G).at.aD (by simp [aN]),rfl⟩,fun dW ad a3 _ X=>?_,⟨_,.slc none 0 0 true,rfl⟩,?_⟩
 ·rintro q ks v a b e (⟨g1,g2,g3⟩ | ⟨g1,F',L,g2,g3,g4,g5⟩)
  ·exact .inl ⟨g1,g2.ext e,fun y i=>Ext.there e (g3 y i)⟩
  ·exact .inr ⟨g1,F',L,g2,g3.ext e,g4,fun y i=>Ext.there e (g5 y i)⟩
 ·refine (Vf X.1 k d o.WK (by omega) (by omega) (by omega)).mono ?_;rintro r s' (⟨ae,rfl,e⟩ | ⟨⟨y1,y2,y3⟩,v,L,kd,rfl,hs,F',R,al,J,m⟩)
  ·have j:(aK t&&aK dv)=false:=by
    cases hq:(aK t&&aK dv) with
    | false=>rfl
    | true=>exact absurd ⟨by rw [hk,hq],hd,O⟩ ae
   exact ⟨_,_,rfl,⟨e.mut,.inl ⟨j,X.1.ext e,fun y i=>Ext.there e (X.2 y i)⟩⟩,trivial,_,by rw [j];rfl⟩
  ·have j:(aK t&&aK dv)=true:=y1;have S:=X.1.pF;refine ⟨_,_,rfl,⟨m.mono fun y i=>?_,.inr ⟨j,F',L,kd,R,fun y i=>?_,J⟩⟩,trivial,_,by rw [j];rfl⟩
   ·obtain rfl:=List.mem_singleton.1 i;exact S
   ·rcases al y i with rfl | h
    ·exact .inl S
    ·exact u9 ad h
 rintro v30 ⟨a4,rfl⟩;refine ⟨_,_,rfl,fun am C a5 _ hC=>?_⟩;refine ⟨fun vs s'=>vs=[.bool (!(aK t&&aK dv))]/\s'=am,?_,?_⟩
 ·rintro b jZ ⟨hb,rfl⟩;simp only [List.cons.injEq,AV.bool.injEq,and_true] at hb;subst hb;rcases hC with ⟨j,R,an⟩ | ⟨j,F',L,kd,R,ao,J⟩
  ·rw [j];refine af.yes rfl ⟨rfl,?_⟩;obtain ⟨W,Y⟩:=z.Wb I C R (fun y i=>.inl i) an;exact ⟨Fs,Fw,x,W,Y,.inl ⟨j,rfl⟩,(F.mut.trans C).mono fun y i=>by simp [i]⟩
  ·rw [j];obtain ⟨W,Y⟩:=z.Wb I C R ao J;have ap:Am.Own jZ mL (aN d):=H.mut C G;refine af.no rfl ⟨some (pw,0),by rw [W.own.at.av];rfl,_,Cb _ _,_,ap.at.aD (by simp [aN]),?_⟩;refine aa.use (NK W.re o (Y.th 4 rfl) hB k d j hd) ?_;rintro a6 a7 ⟨L',ar,_,U,F2,hR,aw,a0⟩ a8;obtain rfl:=ar.uniq kd.kd;obtain ⟨W',a1⟩:=W.WS Y (U.mono fun y i=>by obtain rfl:=List.mem_singleton.1 i;exact W.re.qF) hR aw a0;exact ⟨rfl,F',F2,_,W',a1,.inr ⟨j,m,_,Z,O,D,kd,rfl⟩,((F.mut.trans C).mono fun y i=>by simp [i]).trans (U.mono fun y i=>by obtain rfl:=List.mem_singleton.1 i;simp [W.re.qF])⟩
 ·refine aa.use (FG _ _) ?_;rintro v s' ⟨rfl,rfl⟩ w;refine ⟨_,rfl,af.mk (fun h=>?_) (fun h=>?_)⟩
  ·simp only [Bool.not_eq_true'] at h;simp [h]
  ·have h1:aK t=true:=by simpa using h
   refine aa.use (FG _ _) ?_;rintro v s' ⟨rfl,rfl⟩ w;exact ⟨_,rfl,by simp [h1],rfl⟩
end
end Go.Proofs.YtohgmogbabkkeaaGreat
end

section
namespace Go.Proofs.YtohgmogbabkkeaaGreat
open Go.Am Go.au Go.aC Go.bL
def Mc:List Int:=[98,101,116,119,101,101,110,32,117,115]
theorem Uf:cV T aq 10 [(0,.int .u8 98),(1,.int .u8 101),(2,.int .u8 116),(3,.int .u8 119),(4,.int .u8 101),(5,.int .u8 101),(6,.int .u8 110),(7,.int .u8 32),(8,.int .u8 117),(9,.int .u8 115)]=some (Mc.map (.int .u8)):=by kernel_rfl
set_option maxRecDepth 20000 in
theorem Qr (s:AS):aa Tryz.prog lU [] s fun r s'=>gA s' r Mc/\Ext s s':=by
 refine aa.pre fun d=>E1 _ _ ⟨_,Uf,aj.intro d rfl fun l s3 b=>⟨.slc (some (l,0)) 10 10 true,s3,?_,?_,b.ext⟩⟩
 ·have e:s3.h l=some (.cells (Mc.map (.int .u8)) 1 false):=b.at;simp only [cO,aL,if_true,z4,e]
 ·exact cq.mk (n:=10) (c:=10) ⟨_,_,b.at⟩ (by decide) (by rfl)
section
variable {hd:AV} {s0 s s':AS} {l pc ps pv pw n B:Nat} {Fc Fs Fv Fw F':List Nat} {c:iM} {x:aH} {v:List Int} {Gs:List (List Nat)}
theorem HL.JH {hd:AV} {F:List Nat} {s:AS} {p n:Nat} {v:List Int} (h:HL hd F s p v n):∃ F0,HL hd F0 s p v n/\(∀ y∈F0,y∈F)/\(∀ y∈F0,s.h y≠none)/\∀ y∈F0,y≠p->¬ Tag s y 0:=by
 obtain ⟨i,lg,bh,L,B,e,h2,⟨a1,a2,a3⟩,⟨c,j,k⟩⟩:=h;refine ⟨p::(ay lg++ay bh),⟨i,lg,bh,L,B,e,by simp,⟨a1,fun y b=>by simp [b],a3⟩,⟨c,fun y b=>by simp [b],k⟩⟩,?_,?_,?_⟩
 ·intro y b;simp only [List.mem_cons,List.mem_append] at b;rcases b with rfl | b | b
  ·exact h2
  ·exact a2 y b
  ·exact j y b
 ·intro y b;simp only [List.mem_cons,List.mem_append] at b;rcases b with rfl | b | b
  ·rw [e];simp
  ·exact br.k7 a1 y b
  ·exact br.k7 c y b
 ·intro y b d ht;simp only [List.mem_cons,List.mem_append] at b;rcases b with rfl | b | b
  ·exact d rfl
  ·have:=ht.uniq (br.tag a1 y b);omega
  ·have:=ht.uniq (br.tag c y b);omega
theorem kH.SH {F:List Nat} {s:AS} {p:Nat} {c:iM} (h:kH F s p c):∃ cs,Am.Own s p cs:=by
 obtain ⟨_,_,_,_,_,_,_,_,h,_⟩:=h;exact ⟨_,h⟩
theorem HL.SH {hd:AV} {F:List Nat} {s:AS} {p n:Nat} {v:List Int} (h:HL hd F s p v n):∃ cs,Am.Own s p cs:=by
 obtain ⟨_,_,_,_,_,h,_⟩:=h;exact ⟨_,h⟩
def XK (F:List Nat) (p:Nat) (a b:AS):Prop:=bD F a b/\xq p a b/\((∃ cs,Am.Own a p cs)->∃ cs,Am.Own b p cs)
theorem XK.ext {F:List Nat} {p:Nat} {a b:AS} (e:Ext a b):XK F p a b:=⟨e.mut,Ext.e_ e,fun ⟨cs,h⟩=>⟨cs,h.ext e⟩⟩
theorem XK.trans {F:List Nat} {p:Nat} {a b c:AS} (h:XK F p a b) (d:XK F p b c):XK F p a c:=⟨h.1.trans d.1,h.2.1.trans d.2.1,fun x=>d.2.2 (h.2.2 x)⟩
set_option maxRecDepth 20000 in
theorem Md (h:Wq hd s l pc ps pv pw Fc Fs Fv Fw c x v n x) (A:Ap s0 s ([l]::Fc::Fs::Fv::Fw::Gs)) (o:mV x B) (hB:B<=450) (t:List UInt8) (S:0<=c.v.getD 0 0/\c.v.getD 0 0<4611686018427387904) (hn:c.log.length+1<=2 ^ 29) (bh:c.JF.length+1<=2 ^ 29) (bi:n+1<=2 ^ 29) :
  aa Tryz.prog dw [.ptr (some (l,0)),.str t] s fun r s'=>∃ (L L2:List Ci) (j an:List Nat),pR x t L/\pR x t L2/\r=.bool (iz (gB v t [] L2)==iz (gB c.v t [] L)) /\
   Wq hd s' l pc ps pv pw j Fs an Fw (if iz (gB c.v t [] L)=true then c.apply (gB c.v t [] L) else c) x (if iz (gB v t [] L2)=true then v.set 0 (IntKind.wrap .u64 (v.getD 0 0+1)) else v) (if iz (gB v t [] L2)=true then n+1 else n) x/\Ap s0 s' ([l]::j::Fs::an::Fw::Gs)/\bD (Fc++Fv) s s':=by
 have nl:l ∉ Fc:=fun i=>A.ij 1 0 rfl rfl (by decide) l i (by simp);have bj:=A.th 1 rfl;have ch:=A.th 3 rfl;refine vu _ _ _ _ ⟨fun a b=>XK Fc pc a b,fun _ _ v s'=>∃ (L:List Ci) (g:List AV) (F':List Nat),pR x t L/\v=.aP [.agg g,.int .i64 (if iz (gB c.v t [] L)=true then 0 else 2)]/\kH F' s' pc (if iz (gB c.v t [] L)=true then c.apply (gB c.v t [] L) else c)/\(∀ y∈F',y∈Fc\/s.h y=none)/\∀ y∈F',s'.h y≠none,fun s'=>kH Fc s' pc c/\∀ y∈Fc,s'.h y≠none,
  fun q _ v s'=>(q=10->∃ L,pR x t L/\br ru 3 s' v L)/\(q=15->∃ l,v=.ptr (some (l,0))/\Am.Own s' l JO/\l≠pc/\(l∈Fc\/s.h l=none)),
  fun q _ v=>(q=11->∃ g z,v=.aP [.agg g,.int .i64 z]/\g.all AV.one=true/\g.length=21)/\(q=15->∃ l,v=.ptr (some (l,0))),
  fun a b e=>XK.ext e,fun a b c x y=>x.trans y,?_,?_,fun a b e g=>⟨g.1.ext e,fun y i=>Ext.there e (g.2 y i)⟩,⟨h.ca,bj⟩,fun s' _ _=>rfl,some (pc,0),by rw [h.own.at.av];rfl,fun s' x _=>⟨some (pc,0),by rw [(h.own.mut x.1 nl).at.av];rfl,rfl⟩,fun s' _ _=>rfl,some (ps,0),by rw [h.own.at.av];rfl,fun s' x _=>⟨some (ps,0),by rw [(h.own.mut x.1 nl).at.av];rfl,rfl⟩,fun lK bk ci _=>?_,⟨.bad,(fun h=>by cases h),(fun h=>by cases h)⟩,fun v20 _=>⟨fun fL bl ck U J=>?_,⟨_,(fun _=>⟨JO,0,rfl,rfl,rfl⟩),(fun h=>by cases h)⟩,fun cl ao=>?_⟩⟩
 ·rintro q ks v a b e ⟨L,g,F',p,g0,g3,g4,g5⟩;exact ⟨L,g,F',p,g0,g3.ext e,g4,fun y i=>Ext.there e (g5 y i)⟩
 ·rintro q ks v a b x1 ⟨C,p⟩;refine ⟨fun X=>?_,fun X=>?_⟩
  ·obtain ⟨L,d,g⟩:=C X;exact ⟨L,d,br.OY g x1.2.1 (by decide) (by decide) (by decide)⟩
  ·obtain ⟨l',rfl,g,D,nw⟩:=p X;exact ⟨l',rfl,x1.2.1 _ _ _ g (by decide) (by decide) (fun _=>D),D,nw⟩
 ·refine (RZ (h.se.mut bk.1 (A.ij 1 2 rfl rfl (by decide))) o (by omega) t).mono ?_;rintro v s' ⟨L,d,g,_⟩;exact ⟨g.eL.ext,⟨(fun _=>⟨L,d,g.vq⟩),(fun h=>by cases h)⟩,(fun h=>by cases h),(fun h=>by cases h)⟩
 ·obtain ⟨L,d,g⟩:=U.1.1 rfl;refine (N0 (dV:=t) (u5:=[]) J.1 J.2 br.nil g S hn bh).mono ?_;have bm:NY c t [] L=gB c.v t [] L:=rfl;rw [bm];rintro r s' (⟨F,⟨G,rfl,C,p⟩,e⟩ | ⟨k,⟨G,rfl,C,p⟩,F',K,m,hF,ht,hK⟩)
  ·exact ⟨_,_,rfl,⟨XK.ext e,L,G,Fc,d,by rw [F];rfl,by rw [F];exact J.1.ext e,fun y i=>.inl i,fun y i=>Ext.there e (J.2 y i)⟩,⟨(fun h=>by cases h),(fun h=>by cases h)⟩,(fun _=>⟨G,_,rfl,C,p⟩),(fun h=>by cases h)⟩
  ·exact ⟨_,_,rfl,⟨⟨m,hK,fun _=>K.SH⟩,L,G,F',d,by rw [k];rfl,by rw [k];exact K,fun y i=>(hF y i).elim .inl fun h=>u9 bl.1 h,ht⟩,⟨(fun h=>by cases h),(fun h=>by cases h)⟩,(fun _=>⟨G,_,rfl,C,p⟩),(fun h=>by cases h)⟩
 obtain ⟨bo,cm,rfl,bs,ap⟩:=ao.1 rfl;refine ⟨_,_,rfl,fun cn ar bx _=>aj.intro bx rfl fun aw mu M=>⟨M.ext,⟨(fun h=>by cases h),(fun _=>⟨aw,rfl,M.own,?_,u9 ar.1 M.no⟩)⟩,(fun h=>by cases h),(fun _=>⟨aw,rfl⟩)⟩,⟨.ptr (some (0,0)),(fun h=>by cases h),(fun _=>⟨0,rfl⟩)⟩,fun cp a0=>?_⟩
 ·rintro rfl;obtain ⟨cs,Y⟩:=ar.2.2 h.ca.SH;have:=M.no;rw [Y] at this;cases this
 obtain ⟨b0,rfl⟩:=a0.2 rfl;refine ⟨_,rfl,fun kr b1 b2 U K=>?_⟩;obtain ⟨l',H,a1,Z,ab⟩:=U.2.2.1.2 rfl;simp only [AV.ptr.injEq,Option.some.injEq,Prod.mk.injEq,and_true] at H;subst H;refine ⟨⟨bs,congrArg some ap.symm⟩,bt.own b2 a1 (vs:=bo) (by rw [ap];exact Nat.le_refl _) fun mK ad=>?_⟩;have a2:bD Fc s mK:=b1.1.new ad.mut fun y i=>by obtain rfl:=List.mem_singleton.1 i;exact ab
 obtain ⟨L,g0,F1,hL,hz,a3,b3,_⟩:=K;simp only [AV.aP.injEq,List.cons.injEq,AV.agg.injEq,AV.int.injEq,true_and,and_true] at hz;obtain ⟨rfl,rfl⟩:=hz;generalize b4:(if iz (gB c.v t [] L)=true then c.apply (gB c.v t [] L) else c)=c' at a3 ⊢;obtain ⟨j,a4,a5,a6⟩:∃ j,kH j mK pc c'/\(∀ y∈j,y∈Fc\/s.h y=none)/\∀ y∈j,mK.h y≠none:=by
  obtain ⟨F0,k1,k2,k3,k4⟩:=a3.JH;have I:b0 ∉ F0:=fun i=>k4 _ i Z (Own.tag a1);exact ⟨F0,k1.mut ad.mut (fun y i=>by obtain rfl:=List.mem_singleton.1 i;exact I),fun y i=>b3 y (k2 y i),Hy k3 ad.mut fun y i=>by obtain rfl:=List.mem_singleton.1 i;exact I⟩
 obtain ⟨W,A'⟩:=h.WQ A a2 a4 a5 a6;have a7:l ∉ Fv:=fun i=>A'.ij 3 0 rfl rfl (by decide) l i (by simp);have a8:=A'.th 3 rfl;refine ⟨fun a b=>XK Fv pv a b,fun _ _ w s'=>∃ (L:List Ci) (g:List AV) (F':List Nat),pR x t L/\w=.aP [.agg g,.bool (iz (gB v t [] L))]/\HL hd F' s' pv (if iz (gB v t [] L)=true then v.set 0 (IntKind.wrap .u64 (v.getD 0 0+1)) else v) (if iz (gB v t [] L)=true then n+1 else n)/\(∀ y∈F',y∈Fv\/mK.h y=none)/\∀ y∈F',s'.h y≠none,fun s'=>HL hd Fv s' pv v n/\∀ y∈Fv,s'.h y≠none,
  fun q _ v s'=>(q=10->∃ L,pR x t L/\br ru 3 s' v L/\L.length<=B)/\(q=15->∃ l,v=.ptr (some (l,0))/\Am.Own s' l JO/\l≠pv/\(l∈Fv\/mK.h l=none)),
  fun q _ v=>(q=11->∃ g z,v=.aP [.agg g,.bool z]/\g.all AV.one=true/\g.length=21)/\(q=15->∃ l,v=.ptr (some (l,0))),
  fun a b e=>XK.ext e,fun a b c x y=>x.trans y,?_,?_,fun a b e g=>⟨g.1.ext e,fun y i=>Ext.there e (g.2 y i)⟩,⟨W.rc,a8⟩,fun s' _ _=>rfl,some (pv,0),by rw [W.own.at.av];rfl,fun s' x _=>⟨some (pv,0),by rw [(W.own.mut x.1 a7).at.av];rfl,rfl⟩,fun s' _ _=>rfl,some (pw,0),by rw [W.own.at.av];rfl,fun s' x _=>⟨some (pw,0),by rw [(W.own.mut x.1 a7).at.av];rfl,rfl⟩,fun cr b5 cu _=>?_,⟨.bad,(fun h=>by cases h),(fun h=>by cases h)⟩,fun cv _=>⟨fun cw b6 cx U J=>?_,⟨_,(fun _=>⟨JO,true,rfl,rfl,rfl⟩),(fun h=>by cases h)⟩,fun cy a9=>?_⟩⟩
 ·rintro q ks v a b e ⟨L,g,F',p,g0,g3,g4,g5⟩;exact ⟨L,g,F',p,g0,g3.ext e,g4,fun y i=>Ext.there e (g5 y i)⟩
 ·rintro q ks v a b x1 ⟨C,p⟩;refine ⟨fun X=>?_,fun X=>?_⟩
  ·obtain ⟨L,d,g,O⟩:=C X;exact ⟨L,d,br.OY g x1.2.1 (by decide) (by decide) (by decide),O⟩
  ·obtain ⟨l',rfl,g,D,nw⟩:=p X;exact ⟨l',rfl,x1.2.1 _ _ _ g (by decide) (by decide) (fun _=>D),D,nw⟩
 ·refine (Jx (W.re.mut b5.1 (A'.ij 3 4 rfl rfl (by decide))) o (by omega) t).mono ?_;rintro v s' ⟨L,d,g,O⟩;exact ⟨g.eL.ext,⟨(fun _=>⟨L,d,g.vq,O⟩),(fun h=>by cases h)⟩,(fun h=>by cases h),(fun h=>by cases h)⟩
 ·obtain ⟨L,d,g,O⟩:=U.1.1 rfl;refine (L7 (dV:=t) (u5:=[]) J.1 J.2 (br.nil.sl bU) (g.sl en) (by simp) (by omega) bi).mono ?_;rintro r s' (⟨F,⟨G,rfl,C,p⟩,e⟩ | ⟨k,⟨G,rfl,C,p⟩,F',K,m,hF,ht,hK⟩)
  ·exact ⟨_,_,rfl,⟨XK.ext e,L,G,Fv,d,by rw [F],by rw [F];exact J.1.ext e,fun y i=>.inl i,fun y i=>Ext.there e (J.2 y i)⟩,⟨(fun h=>by cases h),(fun h=>by cases h)⟩,(fun _=>⟨G,_,rfl,C,p⟩),(fun h=>by cases h)⟩
  ·exact ⟨_,_,rfl,⟨⟨m,hK,fun _=>K.SH⟩,L,G,F',d,by rw [k],by rw [k];exact K,fun y i=>(hF y i).elim .inl fun h=>u9 b6.1 h,ht⟩,⟨(fun h=>by cases h),(fun h=>by cases h)⟩,(fun _=>⟨G,_,rfl,C,p⟩),(fun h=>by cases h)⟩
 obtain ⟨b7,cz,rfl,a',R⟩:=a9.1 rfl;refine ⟨_,_,rfl,fun FZ ba b8 _=>aj.intro b8 rfl fun bb Rz Q=>⟨Q.ext,⟨(fun h=>by cases h),(fun _=>⟨bb,rfl,Q.own,?_,u9 ba.1 Q.no⟩)⟩,(fun h=>by cases h),(fun _=>⟨bb,rfl⟩)⟩,⟨.ptr (some (0,0)),(fun h=>by cases h),(fun _=>⟨0,rfl⟩)⟩,fun cA bc=>?_⟩
 ·rintro rfl;obtain ⟨cs,Y⟩:=ba.2.2 W.rc.SH;have:=Q.no;rw [Y] at this;cases this
 obtain ⟨b9,rfl⟩:=bc.2 rfl;refine ⟨_,rfl,fun cB b' cb U K=>?_⟩;obtain ⟨l',H,bd,ae,al⟩:=U.2.2.1.2 rfl;simp only [AV.ptr.injEq,Option.some.injEq,Prod.mk.injEq,and_true] at H;subst H;refine ⟨⟨a',congrArg some R.symm⟩,bt.own cb bd (vs:=b7) (by rw [R];exact Nat.le_refl _) fun S2 am=>?_⟩;have be:bD Fv mK S2:=b'.1.new am.mut fun y i=>by obtain rfl:=List.mem_singleton.1 i;exact al
 obtain ⟨L2,C,F2,cc,hz,cd,ce,_⟩:=K;simp only [AV.aP.injEq,List.cons.injEq,AV.agg.injEq,AV.bool.injEq,true_and,and_true] at hz;obtain ⟨rfl,rfl⟩:=hz;have MM:bD (Fc++Fv) s S2:=(a2.mono fun y i=>by simp [i]).trans (be.mono fun y i=>by simp [i]);obtain ⟨F0,k1,k2,k3,k4⟩:=cd.JH;have I:b9 ∉ F0:=fun i=>k4 _ i ae (Own.tag bd);obtain ⟨W',cf⟩:=W.WR A' be (k1.mut am.mut (fun y i=>by obtain rfl:=List.mem_singleton.1 i;exact I)) (fun y i=>ce y (k2 y i)) (Hy k3 am.mut fun y i=>by obtain rfl:=List.mem_singleton.1 i;exact I);refine ⟨L,L2,j,F0,hL,cc,?_,?_,cf,MM⟩
 ·congr 2;cases iz (gB c.v t [] L) <;> rfl
 ·rw [b4];exact W'
theorem N6 (h:Wq hd s l pc ps pv pw Fc Fs Fv Fw c x c.v c.log.length x) (A:Ap s0 s ([l]::Fc::Fs::Fv::Fw::Gs)) (o:mV x B) (z:B<=450) (t:List UInt8) (i:∀ L,pR x t L->iz (gB c.v t [] L)=aK t) (e:0<=c.v.getD 0 0/\c.v.getD 0 0<4611686018427387904) (n:c.log.length+1<=2 ^ 29) (j:c.JF.length+1<=2 ^ 29) :
  aa Tryz.prog dw [.ptr (some (l,0)),.str t] s fun r s'=>r=.bool true/\∃ b d c',Wq hd s' l pc ps pv pw b Fs d Fw c' x c'.v c'.log.length x/\Ap s0 s' ([l]::b::Fs::d::Fw::Gs)/\bD (Fc++Fv) s s' /\
   ((aK t=false/\c'=c)\/(aK t=true/\∃ L,pR x t L/\c'=c.apply (gB c.v t [] L))):=by
 refine (Md h A o z t e n j n).mono ?_;rintro r s' ⟨L,C,b,d,p,k,rfl,W,w,m⟩;rw [i L p,i C k] at *;cases y:aK t with
 | true =>
  rw [y] at W;exact ⟨rfl,b,d,c.apply (gB c.v t [] L),by simpa [iM.apply,gB] using W,w,m,.inr ⟨rfl,L,p,rfl⟩⟩
 | false =>
  rw [y] at W;exact ⟨rfl,b,d,c,by simpa using W,w,m,.inl ⟨rfl,rfl⟩⟩
end
end Go.Proofs.YtohgmogbabkkeaaGreat
end

section
namespace Go.Proofs.YtohgmogbabkkeaaGreat
open Go.Am Go.au Go.aC Go.bL
def vN (n:Nat):List Int:=(n:Int)::List.replicate 15 0
theorem Vz (n:Nat):(vN n).length=16:=by simp [vN]
theorem VA (n:Nat):(vN n).getD 0 0=n:=rfl
theorem SJ (n i:Nat) (hi:i<1000000):under (vN n) ⟨1,(i:Int)+1⟩=decide (i<n):=by
 have hm:(⟨1,(i:Int)+1⟩:aJ).may=true:=aJ.gD.2 (by simp only;omega);rw [under,hm,Bool.true_and,show (vN n).getD ((⟨1,(i:Int)+1⟩:aJ).r.toNat - 1) 0=(n:Int) from rfl,decide_eq_decide];simp only;omega
theorem Ug (a b:Nat):mW (vN a) (vN b)=vN (max a b):=by
 have h:mW (vN a) (vN b)=(if (b:Int)>a then (b:Int) else a)::List.replicate 15 0:=rfl;rw [h,vN];congr 1;split <;> omega
theorem SL {n:Nat}:∀ x∈vN n,x=(n:Int)\/x=0:=by
 intro x b;rcases List.mem_cons.1 b with h | h
 ·exact .inl h
 ·exact .inr (List.eq_of_mem_replicate h)
theorem Uh {n:Nat} (h:n<1000000):tQ (vN n)=true:=by
 rw [tQ,List.all_eq_true];intro x b;rcases SL x b with rfl | rfl <;> simp <;> omega
theorem VB {n:Nat} (h:n<1000000):Wm (vN n):=⟨Vz n,fun x b=>by rcases SL x b with rfl | rfl <;> omega⟩
theorem Me:∀ (l:List eC) {x:aH} {B:Nat},mV x B->(∀ i∈l,i.may=true)->∀ d,(x.ew l).2.has d=true↔x.has d=true\/∃ i∈l,i.dot=d
 | [],x,B,_,_,d=>by simp [LB]
 | i::l,x,B,h,hm,d=>by
  have hi:=hm i (by simp);have b:i.dot.may=true:=by simp only [eC.may,Bool.and_eq_true] at hi;exact hi.1
  rw [qs,Me l (uV h hi) (fun j hj=>hm j (by simp [hj])),AR h b];simp only [Bool.or_eq_true,decide_eq_true_eq,List.mem_cons,exists_eq_or_imp];constructor
  ·rintro ((h | rfl) | h)
   ·exact .inl h
   ·exact .inr (.inl rfl)
   ·exact .inr (.inr h)
  ·rintro (h | rfl | h)
   ·exact .inl (.inl h)
   ·exact .inl (.inr rfl)
   ·exact .inr h
theorem HN:∀ (l:List aJ) {x:aH} {B:Nat},mV x B->(∀ d∈l,d.may=true)->∀ d,(x.ew (l.map eZ)).2.live d=if d∈l then none else x.live d
 | [],x,B,_,_,d=>by simp [LB]
 | a::l,x,B,h,hm,d=>by
  have hi:(eZ a).may=true:=xI (hm a (by simp));rw [List.map_cons,qs,HN l (uV h hi) (fun j hj=>hm j (by simp [hj])),qV h];by_cases b:d=a
  ·subst b;simp [eZ]
  ·by_cases h2:d∈l <;> simp [b,h2,eZ]
theorem SF.ok {x x':aH} {t d:List UInt8} {N:Nat} (h:SF x x' t d) (o:mV x N) (w:∀ e,x.has e=true->e.c<=N) (C:N<=1000):mV x' (N+1)/\(∀ e,x'.has e=true->e.c<=(N+1:Nat))/\(aK t=true->aK d=true->∃ d0,x'.live d0=some ⟨t,d⟩)/\∀ e,x.has e=true->x'.has e=true:=by
 rcases h with ⟨n,rfl⟩ | ⟨n,m,l,D,p,z,kd,rfl⟩
 ·exact ⟨o.mono (by omega),fun e j=>by have:=w e j;omega,(fun F h2=>by rw [F,h2] at n;cases n),fun e j=>j⟩
 ·have G:m<=N:=by
   rcases z with rfl | h
   ·omega
   ·exact w _ h
  have hd:(⟨1,m+1⟩:aJ).may=true:=aJ.gD.2 (by simp only;omega);have hi:(⟨⟨1,m+1⟩,⟨t,d⟩,false⟩:eC).may=true:=by simp [eC.may,hd,Key.may,n]
  have y:∀ e∈l,x.has e=true:=fun e j=>kd.has o j;have A:∀ i∈l.map eZ,i.may=true:=Hz fun e j=>aH.uU (y e j);have r:∀ i∈(⟨⟨1,m+1⟩,⟨t,d⟩,false⟩:eC)::l.map eZ,i.may=true:=fun i h=>by
   rcases List.mem_cons.1 h with rfl | h
   ·exact hi
   ·exact A i h
  have k:=Me _ o r;refine ⟨o.add n hd kd,fun e j=>?_,fun _ _=>⟨⟨1,m+1⟩,?_⟩,fun e j=>(k e).2 (.inl j)⟩
  ·rcases (k e).1 j with h | ⟨i,h,rfl⟩
   ·have:=w e h;omega
   ·rcases List.mem_cons.1 h with rfl | h
    ·simp only;omega
    ·obtain ⟨b,hb,rfl⟩:=List.mem_map.1 h;have:=w b (y b hb);simp only [eZ];omega
  ·rw [qs];simp only;rw [HN l (uV o hi) (fun e j=>aH.uU (y e j)),if_neg (fun B=>by have:=y _ B;rw [p] at this;cases this),qV o];simp [p]
theorem pR.cI {x:aH} {t:List UInt8} {L:List Ci} {B:Nat} (h:pR x t L) (o:mV x B):L.length<=B:=by
 obtain ⟨U,c,hm⟩:=o.sz;have:=lz (jN h.Qx) fun d hd=>hm d ?_
 ·simp only [List.length_map] at this;omega
 ·obtain ⟨e,b,rfl⟩:=List.mem_map.1 hd;exact .inr (.inl (by rw [(h.mem e).1 b];rfl))
theorem SM {x:aH} {t:List UInt8} {L:List Ci} {B n:Nat} (o:mV x B) (p:B<=1000) (e:n<1000000) (h:pR x t L):iz (gB (vN n) t [] L)=aK t:=by
 have c:(⟨1,IntKind.wrap .u64 ((n:Int)+1)⟩:aJ)=⟨1,(n:Int)+1⟩:=by rw [gw (by omega)]
 have hm:(⟨1,(n:Int)+1⟩:aJ).may=true:=aJ.gD.2 (by simp only;omega);have hlen:=h.cI o;have i:xp (gB (vN n) t [] L)=true:=by
  rw [xp,decide_eq_true_eq];show (n:Int)=IntKind.wrap .u64 (IntKind.wrap .u64 ((n:Int)+1) - 1);rw [gw (n:=(n:Int)+1) (by omega),gw (by omega)];omega
 have d:xo L=true:=by
  rw [xo,List.all_eq_true];intro j hj;have b:j<L.length:=by simpa using hj
  rw [u7,List.getElem?_eq_getElem b];have k:=(h.mem L[j]).1 (List.getElem_mem b);obtain ⟨l,h2⟩:=o.lv _ _ k;simp only [Key.may,Bool.and_eq_true] at h2;simp only [aH.uU l,h2.2,Bool.true_and,Bool.or_eq_true,decide_eq_true_eq];by_cases m:j=0
  ·exact .inl m
  ·right;rw [List.getElem?_eq_getElem (show j - 1<L.length by omega)];have:=List.pairwise_iff_getElem.1 h.Qx (j - 1) j (by simp;omega) (by simpa using b) (by omega);simpa using this
 have hd:((vN n).drop 3).all (fun z=>decide (z=0))=true:=by simp [vN]
 simp only [iz,sH,i,show (gB (vN n) t [] L).to=L from rfl,d,show (gB (vN n) t [] L).jP=vN n from rfl,Uh e,hd,show (gB (vN n) t [] L).id=(⟨1,(n:Int)+1⟩:aJ) from c,hm,show (gB (vN n) t [] L).dV=t from rfl,show (gB (vN n) t [] L).u5=[] from rfl];simp [show L.length<=1024 by omega]
structure WI (c:iM) (x:aH) (n N:Nat):Prop where
 ok:mV x N
 cnt:∀ d,x.has d=true->d.c<=N
 v:c.v=vN n
 ln:c.log.length=n
 bl:c.JF=(List.range n).map fun i=>vN (i+1)
 ev:∀ (i:Nat) (e:Ev),c.log[i]? = some e->e.id=⟨1,(i:Int)+1⟩/\e.u5=[]/\e.to.length<=1000
theorem WI.zero:WI iM.zero aH.zero 0 0:=⟨mV.zero,(fun d h=>by rw [aH.has,show aH.zero.v=dD from rfl,show aH.zero.ex=[] from rfl,RR] at h;cases h),rfl,rfl,rfl,fun i e h=>by simp [iM.zero] at h⟩
section
variable {c:iM} {x x':aH} {n N:Nat} {t d:List UInt8}
theorem WI.sub (h:WI c x n N) (s:SF x x' t d) (b:N<=1000):WI c x' n (N+1) :=
 let k:=s.ok h.ok h.cnt b
 ⟨k.1,k.2.1,h.v,h.ln,h.bl,h.ev⟩
theorem WI.VC (h:WI c x n N) (l:n<1000000) (m:N<=1000) {L:List Ci} (j:pR x t L):WI (c.apply (gB c.v t [] L)) x (n+1) N:=by
 have d:(gB c.v t [] L).id=(⟨1,(n:Int)+1⟩:aJ):=by
  rw [h.v];show (⟨1,IntKind.wrap .u64 ((n:Int)+1)⟩:aJ)=_;rw [gw (by omega)]
 have hv:c.v.set ((gB c.v t [] L).id.r.toNat - 1) (IntKind.wrap .u64 (c.v.getD ((gB c.v t [] L).id.r.toNat - 1) 0+1))=vN (n+1):=by
  rw [d,h.v];show IntKind.wrap .u64 ((n:Int)+1)::List.replicate 15 0=_;rw [gw (by omega)];rfl
 refine ⟨h.ok,h.cnt,hv,by simp [iM.apply,h.ln],?_,fun i e b=>?_⟩
 ·simp only [iM.apply,hv,h.bl,List.range_succ,List.map_append,List.map_cons,List.map_nil]
 ·simp only [iM.apply] at b;by_cases hi:i<c.log.length
  ·rw [List.getElem?_append_left hi] at b;exact h.ev i e b
  ·rw [List.getElem?_append_right (by omega)] at b;obtain ⟨k,h2⟩:i=c.log.length/\gB c.v t [] L=e:=by
    rcases Nat.eq_or_lt_of_le (show c.log.length<=i by omega) with h | h
    ·subst h;simp at b;exact ⟨rfl,b⟩
    ·rw [List.getElem?_eq_none (by simp;omega)] at b;cases b
   subst k h2;refine ⟨by rw [d,h.ln],rfl,?_⟩;have:=j.cI h.ok;show L.length<=1000;omega
end
end Go.Proofs.YtohgmogbabkkeaaGreat
end

section
namespace Go.Proofs.YtohgmogbabkkeaaGreat
open Go.Am Go.au Go.aC Go.bL
structure Wp where
 l:Nat
 pc:Nat
 ps:Nat
 pv:Nat
 pw:Nat
def Wo (s0 s:AS) (w:Wp) (c:iM) (x:aH) (n N:Nat) (Gs:List (List Nat)):Prop :=
 WI c x n N/\∃ Fc Fs Fv Fw,Wq Wa s w.l w.pc w.ps w.pv w.pw Fc Fs Fv Fw c x c.v c.log.length x/\Ap s0 s ([w.l]::Fc::Fs::Fv::Fw::Gs)
def Kp (Gs:List (List Nat)) (s s':AS):Prop:=∃ M,bD M s s'/\∀ G∈Gs,Dj M G
section
variable {s0 s s':AS} {w:Wp} {n N:Nat} {c:iM} {x:aH} {Gs:List (List Nat)} {G G':List Nat}
theorem Ap.gs {a b c d e:List Nat} (A:Ap s0 s (a::b::c::d::e::Gs)) (i:G∈Gs):Dj a G/\Dj b G/\Dj c G/\Dj d G/\Dj e G:=by
 obtain ⟨j,hj⟩:=List.mem_iff_getElem?.1 i;exact ⟨A.ij 0 (j+5) rfl (by simpa using hj) (by omega),A.ij 1 (j+5) rfl (by simpa using hj) (by omega),A.ij 2 (j+5) rfl (by simpa using hj) (by omega),A.ij 3 (j+5) rfl (by simpa using hj) (by omega),A.ij 4 (j+5) rfl (by simpa using hj) (by omega)⟩
theorem Dj.app {a b g:List Nat} (h:Dj a g) (d:Dj b g):Dj (a++b) g:=fun y c=>by
 rcases List.mem_append.1 c with c | c
 ·exact h y c
 ·exact d y c
theorem Wo.ext (h:Wo s0 s w c x n N Gs) (e:Ext s s'):Wo s0 s' w c x n N Gs:=by
 obtain ⟨hi,Fc,Fs,Fv,Fw,W,A⟩:=h;exact ⟨hi,Fc,Fs,Fv,Fw,W.ext e,A.ext e⟩
theorem Wo.begin (A:Ap s0 s Gs):aa Tryz.prog ki [] s fun r s'=>∃ w:Wp,r=.aP [.ptr (some (w.l,0)),.bool true]/\Wo s0 s' w iM.zero aH.zero 0 0 Gs/\Ext s s':=by
 refine (SD A).mono ?_;rintro r s' ⟨l,pc,ps,pv,pw,Fc,Fs,Fv,Fw,rfl,W,b,e⟩;exact ⟨⟨l,pc,ps,pv,pw⟩,rfl,⟨WI.zero,Fc,Fs,Fv,Fw,W,b⟩,e⟩
theorem Wo.sub (h:Wo s0 s w c x n N Gs) (k:N<=200) (t d:List UInt8):aa Tryz.prog eY [.ptr (some (w.l,0)),.str t,.str d] s fun r s'=>r=.bool true/\∃ x',SF x x' t d/\Wo s0 s' w c x' n (N+1) Gs/\Kp Gs s s':=by
 obtain ⟨hi,Fc,Fs,Fv,Fw,W,A⟩:=h;refine (JJ W A hi.ok (by omega) (fun d hd=>by have:=hi.cnt d hd;omega) t d).mono ?_;rintro r s' ⟨rfl,b,e,x',W',j,hs,m⟩;exact ⟨rfl,x',hs,⟨hi.sub hs (by omega),Fc,b,Fv,e,W',j⟩,_,m,fun G i=>Dj.app (A.gs i).2.2.1 (A.gs i).2.2.2.2⟩
theorem Wo.VC (h:Wo s0 s w c x n N Gs) (z:N<=200) (B:n<=1000) (t:List UInt8):aa Tryz.prog dw [.ptr (some (w.l,0)),.str t] s fun r s'=>r=.bool true/\Kp Gs s s'/\((aK t=false/\Wo s0 s' w c x n N Gs)\/(aK t=true/\∃ L,pR x t L/\Wo s0 s' w (c.apply (gB c.v t [] L)) x (n+1) N Gs)):=by
 obtain ⟨hi,Fc,Fs,Fv,Fw,W,A⟩:=h;refine (N6 W A hi.ok (by omega) t (fun L d=>by rw [hi.v];exact SM hi.ok (by omega) (by omega) d) (by rw [hi.v,VA];omega) (by rw [hi.ln];omega) (by rw [hi.bl];simp;omega)).mono ?_;rintro r s' ⟨rfl,e,i,c',W',o,m,b⟩;refine ⟨rfl,⟨_,m,fun G p=>Dj.app (A.gs p).2.1 (A.gs p).2.2.2.1⟩,?_⟩;rcases b with ⟨k,rfl⟩ | ⟨j,L,y,rfl⟩
 ·exact .inl ⟨k,hi,e,Fs,i,Fw,W',o⟩
 ·exact .inr ⟨j,L,y,hi.VC (by omega) (by omega) y,e,Fs,i,Fw,W',o⟩
theorem Wo.Ws (h:Wo s0 s w c x n N (G::Gs)) (m:bD G s s') (b:∀ y∈G',y∈G\/s.h y=none) (ht:∀ y∈G',s'.h y≠none):Wo s0 s' w c x n N (G'::Gs):=by
 obtain ⟨hi,Fc,Fs,Fv,Fw,W,A⟩:=h;exact ⟨hi,Fc,Fs,Fv,Fw,W.mut m (A.ij 5 0 rfl rfl (by decide)) (A.ij 5 1 rfl rfl (by decide)) (A.ij 5 2 rfl rfl (by decide)) (A.ij 5 3 rfl rfl (by decide)) (A.ij 5 4 rfl rfl (by decide)),Ap.oW (A:=[[w.l],Fc,Fs,Fv,Fw]) A m b ht⟩
theorem Wo.add (h:Wo s0 s w c x n N Gs) (e:Ext s s') (b:∀ y∈G,s.h y=none) (ht:∀ y∈G,s'.h y≠none):Wo s0 s' w c x n N (G::Gs):=by
 obtain ⟨hi,Fc,Fs,Fv,Fw,W,A⟩:=h;refine ⟨hi,Fc,Fs,Fv,Fw,W.ext e,(A.new e b ht).perm ?_⟩;exact (List.perm_middle (l₁:=[[w.l],Fc,Fs,Fv,Fw]) (l₂:=Gs) (a:=G)).symm
theorem Wo.perm {WT:List (List Nat)} (h:Wo s0 s w c x n N Gs) (p:Gs.Perm WT):Wo s0 s w c x n N WT:=by
 obtain ⟨hi,Fc,Fs,Fv,Fw,W,A⟩:=h;exact ⟨hi,Fc,Fs,Fv,Fw,W,A.perm (.cons _ (.cons _ (.cons _ (.cons _ (.cons _ p)))))⟩
theorem Wo.aD (h:Wo s0 s w c x n N Gs):av s w.l 0=some (.ptr (some (w.pc,0)))/\av s w.l (0+1)=some (.ptr (some (w.ps,0))):=by
 obtain ⟨hi,Fc,Fs,Fv,Fw,W,A⟩:=h;exact ⟨by rw [W.own.at.av];rfl,by rw [W.own.at.av];rfl⟩
/-! ### feeds -/
structure FI (G:List Nat) (s:AS) (p:Nat) (f:List UInt8->Option Dv) (k n:Nat):Prop where
 fe:kI G s p Mc f k
 pl:∀ a d,f a=some d->d.place<=n/\d.hand.length<=d.place
variable {p k:Nat} {f:List UInt8->Option Dv}
theorem Wo.WU (h:Wo s0 s w c x n N (G::Gs)) (F:FI G s p f k n) (o:N<=1000) (r:n<=1000):∃ Fc Fs,Vv G Fc Fs s p w.pc w.ps Mc f k c x:=by
 obtain ⟨hi,Fc,Fs,Fv,Fw,W,A⟩:=h;have hb:=W.se.WJ hi.ok;refine ⟨Fc,Fs,F.fe,A.th 5 rfl,W.ca,W.se,A.th 1 rfl,A.th 2 rfl,A.ij 5 1 rfl rfl (by decide),A.ij 5 2 rfl rfl (by decide),by rw [hi.bl,hi.ln];simp,by rw [hi.ln];omega,fun e j=>?_,by omega,fun a d l=>by rw [hi.ln];exact F.pl a d l⟩;obtain ⟨i,b⟩:=List.mem_iff_getElem?.1 j;obtain ⟨_,m,h2⟩:=hi.ev i e b;rw [m];exact ⟨by simp,by omega⟩
theorem Wo.feed (h:Wo s0 s w c x n N Gs):aa Tryz.prog lU [] s fun v s1=>aM s1/\aa Tryz.prog nu [v] s1 fun r s'=>∃ p G,r=.ptr (some (p,0))/\Wo s0 s' w c x n N (G::Gs)/\FI G s' p (fun _=>none) 0 n/\Ext s s':=by
 refine aa.use (Qr s) ?_;rintro v s1 ⟨hv,e1⟩ w1;refine ⟨w1,(O0 hv (by decide)).mono ?_⟩;rintro r s' ⟨p,G,rfl,b,i,ht,e⟩;exact ⟨p,G,rfl,(h.ext e1).add e i ht,⟨b,fun a d j=>by cases j⟩,e1.trans e⟩
theorem Wo.attach (h:Wo s0 s w c x n N (G::Gs)) (F:FI G s p f k n) (name:List UInt8) {bv:AV} {b v:List Int} (hb:gA s bv b) (B:aK name=true) (C:f name=none) (D:k<64) (H:Mb Mc name b v) :
  aa Tryz.prog dL [.ptr (some (p,0)),.str name,bv] s fun r s'=>r=.int .i64 0/\∃ G',Wo s0 s' w c x n N (G'::Gs)/\FI G' s' p (kJ f name (some ⟨v,0,[]⟩)) (k+1) n/\bD G s s':=by
 have j:∀ y∈G,s.h y≠none:=by
  obtain ⟨_,Fc,Fs,Fv,Fw,W,A⟩:=h;exact A.th 5 rfl
 refine (Qo F.fe j (by decide) name hb fun _ _=>H).mono ?_;rintro r s' (⟨l,_⟩ | ⟨_,rfl,G',I,m,o,z⟩)
 ·exact absurd ⟨B,C,D⟩ l
 ·refine ⟨rfl,G',h.Ws m o z,⟨I,fun a d i=>?_⟩,m⟩;by_cases e:a=name
  ·rw [kJ,if_pos e] at i;obtain rfl:=Option.some.inj i;simp
  ·rw [kJ,if_neg e] at i;exact F.pl a d i
theorem JK (P:Ev->Bool) (stop:Nat->Bool):∀ (l:List (Ev×List Int)) (k:Nat),(scan P stop l k).2<=l.length/\(scan P stop l k).1.length<=(scan P stop l k).2
 | [],k=>by simp [scan]
 | a::l,k=>by
  have b:=JK P stop l (k+1);have h2:=JK P stop l k;simp only [scan];split
  ·split
   ·simp
   ·simp;omega
  ·simp;omega
theorem Wo.Wc (h:Wo s0 s w c x n N (G::Gs)) (F:FI G s p f k n) (C:N<=1000) (D:n<=1000) (name:List UInt8) {d:Dv} (i:aK name=true) (o:f name=some d) {most:Int} (hm:1<=most/\most<=16) :
  aa Tryz.prog cZ [.ptr (some (p,0)),.str name,.int .i64 most,.ptr (some (w.pc,0)),.ptr (some (w.ps,0))] s fun r s'=>∃ (out:AV) (j:List nU) (G':List Nat),r=.aP [out,.int .i64 0]/\br iA 21 s' out j/\(∀ m∈j,j9 (JN m) s' m)/\j.map nU.ev=(xu name d c x most).1.map Prod.fst/\Wo s0 s' w c x n N (G'::Gs)/\FI G' s' p (kJ f name (some (HM name d c x most))) k n/\bD G s s':=by
 obtain ⟨Fc,Fs,T⟩:=h.WU F C D;have hi:=h.1;refine (Ue T name most).mono ?_;rintro r s' (⟨b,_⟩ | ⟨_,K,out,j,G',hd,rfl,H,h2,h3,I,A,y,z⟩)
 ·rcases b with b | b
  ·exact absurd ⟨i,hm⟩ b
  ·rw [o] at b;cases b
 ·rw [o] at hd;obtain rfl:=Option.some.inj hd;refine ⟨out,j,G',rfl,H,h2,h3,h.Ws A.mut y z,⟨I,fun a e l=>?_⟩,A.mut⟩;by_cases B:a=name
  ·rw [kJ,if_pos B] at l;obtain rfl:=Option.some.inj l;have J:=F.pl name d o;have:=JK (lH name d.cur x) (fun k=>!decide ((k:Int)<most)) ((vK c).drop d.place) 0;have hlen:(vK c).length=n:=by rw [JI (by rw [hi.bl,hi.ln];simp),hi.ln]
   simp only [List.length_drop,hlen] at this;simp only [HM,xu,List.length_append,List.length_map];omega
  ·rw [kJ,if_neg B] at l;exact F.pl a e l
theorem Wo.Xj (h:Wo s0 s w c x n N (G::Gs)) (F:FI G s p f k n) (M:n<=1000) (name:List UInt8) {d:Dv} (l:aK name=true) (z:f name=some d) (o:∀ j,j<=d.hand.length->tQ (rz d j).cur=true) {j:Nat} (hj:j<=d.hand.length) :
  aa Tryz.prog fQ [.ptr (some (p,0)),.str name,.int .i64 j] s fun r s'=>∃ (bv:AV) (G':List Nat),r=.aP [bv,.int .i64 0]/\br qg 1 s' bv (A9 Mc name (rz d j).cur)/\Wo s0 s' w c x n N (ay bv::G'::Gs)/\FI G' s' p (kJ f name (some (rz d j))) k n:=by
 have C:∀ y∈G,s.h y≠none:=by
  obtain ⟨_,Fc,Fs,Fv,Fw,W,A⟩:=h;exact A.th 5 rfl
 refine (Vy F.fe C (by decide) name j (fun e m i hi=>?_) (fun e m=>?_)).mono ?_
 ·rw [z] at m;obtain rfl:=Option.some.inj m;exact o i hi
 ·have:=F.pl name e m;omega
 ·rintro r s' (⟨b,_⟩ | ⟨_,O,j',bv,G',s1,J,hd,hle,rfl,g,K,L,D,H⟩)
  ·rcases b with b | b | b
   ·rw [l] at b;cases b
   ·omega
   ·have:=b d z;omega
  ·obtain rfl:j=j':=by omega
   rw [z] at hd;obtain rfl:=Option.some.inj hd;refine ⟨bv,G',rfl,g.vq,(h.Ws L.mut D H).add g.eL.ext g.new (br.k7 g.vq),⟨K.ext g.eL.ext,fun a e B=>?_⟩⟩;by_cases m:a=name
   ·rw [kJ,if_pos m] at B;obtain rfl:=Option.some.inj B;have I:=F.pl name d z;rw [rz];split
    ·exact I
    ·simp only [List.length_drop];omega
   ·rw [kJ,if_neg m] at B;exact F.pl a e B
theorem Wo.VD (h:Wo s0 s w c x n N (G::Gs)) (F:FI G s p f k n) (name:List UInt8) {d:Dv} (i:aK name=true) (z:f name=some d) (j:tQ d.cur=true) :
  aa Tryz.prog eF [.ptr (some (p,0)),.str name] s fun r s'=>∃ (bv:AV),r=.aP [bv,.int .i64 0]/\br qg 1 s' bv (A9 Mc name d.cur)/\Wo s0 s' w c x n N (ay bv::G::Gs)/\FI G s' p (kJ f name none) (k - 1) n/\∃ s1,bD G s s1/\Ext s1 s':=by
 have B:∀ y∈G,s.h y≠none:=by
  obtain ⟨_,Fc,Fs,Fv,Fw,W,A⟩:=h;exact A.th 5 rfl
 refine (Qq F.fe B (by decide) name (fun e l=>?_)).mono ?_
 ·rw [z] at l;obtain rfl:=Option.some.inj l;exact j
 ·rintro r s' (⟨b,_⟩ | ⟨_,I,bv,s1,hd,rfl,g,D,m,C⟩)
  ·rcases b with b | b
   ·rw [i] at b;cases b
   ·rw [z] at b;cases b
  ·rw [z] at hd;obtain rfl:=Option.some.inj hd;refine ⟨bv,rfl,g.vq,(h.Ws m (fun y H=>.inl H) C).add g.eL.ext g.new (br.k7 g.vq),⟨D.ext g.eL.ext,fun a e o=>?_⟩,s1,m,g.eL.ext⟩;by_cases l:a=name
   ·rw [kJ,if_pos l] at o;cases o
   ·rw [kJ,if_neg l] at o;exact F.pl a e o
end
end Go.Proofs.YtohgmogbabkkeaaGreat
end

section
namespace Go.Proofs.YtohgmogbabkkeaaGreat
open Go.Am Go.au Go.aC Go.bL
def OW (c:iM) (x:aH) (t d:List UInt8):Prop:=(∃ d0,x.live d0=some ⟨t,d⟩)/\∀ e∈c.log,e.dV=t/\iV e.to d≠[]
section
variable {c:iM} {x x':aH} {n N:Nat} {t d:List UInt8}
theorem OW.VC (h:OW c x t d) {L:List Ci} (j:pR x t L) {v:List Int}:OW (c.apply (gB v t [] L)) x t d:=by
 refine ⟨h.1,fun e b=>?_⟩;rcases List.mem_append.1 (show e∈c.log++[gB v t [] L] from b) with b | b
 ·exact h.2 e b
 ·obtain rfl:=List.mem_singleton.1 b;refine ⟨rfl,fun k=>?_⟩;obtain ⟨d0,l⟩:=h.1;have:(⟨d0,d⟩:Ci)∈L:=(j.mem _).2 l;have:d0∈iV L d:=List.mem_map.2 ⟨⟨d0,d⟩,List.mem_filter.2 ⟨this,by simp⟩,rfl⟩;have i:iV L d=[]:=k;rw [i] at this;cases this
theorem OW.WV (h:OW c x t d) (hi:WI c x n N) (o:n<=1000) {i m:Nat} {e:Ev} (b:c.log[i]? = some e):lH d (vN m) x e=!decide (i<m):=by
 obtain ⟨j,h2⟩:=h.2 e (List.mem_of_getElem? b);have k:i<c.log.length:=by
  rcases Nat.lt_or_ge i c.log.length with h | h
  ·exact h
  ·rw [List.getElem?_eq_none h] at b;cases b
 have l:St x ⟨e.dV,d⟩=true:=Ma.2 (by rw [j];exact h.1);have ht:(iV e.to d).isEmpty=false:=by simpa using h2
 rw [lH,(hi.ev i e b).1,SJ m i (by have:=hi.ln;omega),l,ht];simp
theorem SN (hi:WI c x n N) {i:Nat} {z:Ev×List Int} (h:(vK c)[i]? = some z):c.log[i]? = some z.1/\z.2=vN (i+1):=by
 rw [vK,List.getElem?_zip_eq_some] at h;refine ⟨h.1,?_⟩;have:=h.2;rw [hi.bl,List.getElem?_map] at this;cases b:(List.range n)[i]? with
 | none=>rw [b] at this;cases this
 | some j =>
  rw [b] at this;obtain rfl:i=j:=by
   have:=List.getElem?_eq_some_iff.1 b;obtain ⟨d,h2⟩:=this;simpa using h2
  exact (Option.some.inj this).symm
theorem Uw (hi:WI c x n N):(vK c).length=n:=by rw [JI (by rw [hi.bl,hi.ln];simp),hi.ln]
theorem Mf {P:Ev->Bool} {most:Nat}:∀ (l:List (Ev×List Int)) (k:Nat),(∀ z∈l,P z.1=true)->k<most->scan P (fun k=>!decide ((k:Int)<(most:Int))) l k=(l.take (most - k),min (most - k) l.length)
 | [],k,_,_=>by simp [scan]
 | a::l,k,h,c=>by
  rw [scan,if_pos (h a (by simp))];by_cases hs:k+1<most
  ·have:(!decide (((k+1:Nat):Int)<(most:Int)))=false:=by simp;omega
   rw [if_neg (by rw [this];simp),Mf l (k+1) (fun z b=>h z (by simp [b])) hs];obtain ⟨j,hj⟩:∃ j,most - k=j+1:=⟨most - k - 1,by omega⟩;rw [hj,show most - (k+1)=j by omega];simp
  ·have:(!decide (((k+1:Nat):Int)<(most:Int)))=true:=by simp;omega
   rw [if_pos this,show most - k=1 by omega];simp
theorem HO {P:Ev->Bool} {stop:Nat->Bool}:∀ (l m:List (Ev×List Int)) (k:Nat),(∀ z∈l,P z.1=false)->scan P stop (l++m) k=((scan P stop m k).1,(scan P stop m k).2+l.length)
 | [],m,k,_=>by simp
 | a::l,m,k,h=>by
  rw [List.cons_append,scan,if_neg (by simp [h a]),HO l m k fun z b=>h z (by simp [b])];simp;omega
theorem O2 (hi:WI c x n N) (o:n<=1000) (p:OW c x t d) {m pl most:Nat} {hand:List (List Int)} (hm:m<=n) (r:pl<=n) (w:1<=most):xu d ⟨vN m,pl,hand⟩ c x most=(((vK c).drop (max m pl)).take most,(max m pl - pl)+min most (n - max m pl)):=by
 have e:(vK c).drop pl=((vK c).drop pl).take (max m pl - pl)++(vK c).drop (max m pl):=by
  conv=>lhs;rw [<- List.take_append_drop (max m pl - pl) ((vK c).drop pl)]
  rw [List.drop_drop,show pl+(max m pl - pl)=max m pl by omega]
 have k:=Uw hi;have l:∀ i z,(vK c)[i]? = some z->lH d (vN m) x z.1=!decide (i<m):=fun i z b=>p.WV hi o (SN hi b).1;rw [xu];simp only;rw [e,HO _ _ 0 ?_,Mf _ 0 ?_ (by omega)]
 ·simp only [Nat.sub_zero,List.length_take,List.length_drop,k,Prod.mk.injEq,true_and];omega
 ·intro z b;obtain ⟨j,hj⟩:=List.mem_iff_getElem?.1 b;rw [List.getElem?_drop] at hj;rw [l _ z hj];simp;omega
 ·intro z b;obtain ⟨j,hj⟩:=List.mem_iff_getElem?.1 b;rw [List.getElem?_take] at hj;split at hj
  ·rw [List.getElem?_drop] at hj;rw [l _ z hj];simp;omega
  ·cases hj
end
section
variable {s0 s s':AS} {w:Wp} {n N:Nat} {c:iM} {x:aH} {Gs:List (List Nat)} {G R:List Nat}
theorem Wo.dj (h:Wo s0 s w c x n N (G::Gs)) (b:R∈Gs):Dj G R:=by
 obtain ⟨_,Fc,Fs,Fv,Fw,W,A⟩:=h;obtain ⟨j,hj⟩:=List.mem_iff_getElem?.1 b;exact A.ij 5 (j+6) rfl (by simpa using hj) (by omega)
theorem Bl {α:Type} {f:α->List AV} {sz:Nat} {v:AV} {l:List α} (g:br f sz s v l) (m:bD G s s') (d:Dj G (ay v)):br f sz s' v l:=g.mut m fun y b hm=>d y hm b
theorem xw {f:List UInt8->Option Dv} (a:List UInt8) (d:Option Dv):kJ f a d a=d:=by simp [kJ]
def tT:List UInt8:=[116]
def aA:List UInt8:=[97]
set_option maxRecDepth 20000 in
set_option maxHeartbeats 2000000 in
theorem SO (A:Ap s0 s Gs):aa Tryz.prog r8 [] s fun r s'=>r=.bool true/\Ap s0 s' Gs:=by
 refine Gj _ _ ?_;refine aa.use (Wo.begin A) ?_;rintro v1 s2 ⟨w,rfl,Q,e2⟩ w2;refine ⟨_,_,rfl,af.no rfl ?_⟩;refine aa.use (Q.sub (by omega) tT aA) ?_;rintro v5 s6 ⟨rfl,R,hs,W1,k6⟩ w6;have S:∃ d0,R.live d0=some ⟨tT,aA⟩:=(hs.ok Q.1.ok Q.1.cnt (by omega)).2.2.1 (by decide) (by decide);have U:OW iM.zero R tT aA:=⟨S,fun e he=>by simp [iM.zero] at he⟩;refine ⟨_,rfl,af.no rfl ?_⟩;refine aa.use (W1.VC (by omega) (by omega) tT) ?_;rintro v8 s9 ⟨rfl,k9,(⟨d,_⟩ | ⟨_,L1,W,W2⟩)⟩ w9
 ·exact absurd d (by decide)
 have y:=U.VC W (v:=iM.zero.v);generalize a3:iM.zero.apply (gB iM.zero.v tT [] L1)=X at W2 y;refine ⟨_,rfl,af.no rfl ?_⟩;refine aa.use (W2.VC (by omega) (by omega) tT) ?_;rintro v11 dI ⟨rfl,a4,(⟨d,_⟩ | ⟨_,L2,Y,Z⟩)⟩ a5
 ·exact absurd d (by decide)
 have l:=y.VC Y (v:=X.v);generalize a6:X.apply (gB X.v tT [] L2)=c2 at Z l;have hi:=Z.1;refine ⟨_,rfl,af.no rfl ?_⟩;refine aa.use Z.feed ?_;rintro a7 gu ⟨a8,hN⟩ _;refine aa.use hN ?_;rintro nM lK ⟨p,G1,rfl,W4,F4,a9⟩ a';refine ⟨_,rfl,?_⟩;refine aa.use (W4.attach F4 aA (br.nil.sl bU) (by decide) rfl (by omega) (.inl ⟨rfl,rfl⟩)) ?_;rintro ba gi ⟨rfl,G2,W5,F5,_⟩ bb;refine ⟨_,rfl,_,W5.aD.1,_,W5.aD.2,?_⟩;refine aa.use (W5.Wc F5 (by omega) (by omega) aA (by decide) (xw _ _) (by omega)) ?_;rintro bc bd ⟨out,Lo,G3,rfl,gO,gE,ab,W6,F6,_⟩ be;have hz:(dD:List Int)=vN 0:=rfl;have B:=O2 (hand:=[]) hi (by omega) l (m:=0) (pl:=0) (most:=5) (by omega) (by omega) (by omega);have ad:=Uw hi;have hd:HM aA ⟨dD,0,[]⟩ c2 R 5=⟨vN 0,2,[vN 1,vN 2]⟩:=by
  rw [HM,hz,show (5:Int)=((5:Nat):Int) from rfl,B];have:((vK c2).drop 0).take 5=vK c2:=by rw [List.drop_zero,List.take_of_length_le (by omega)]
  simp only [show max 0 0=0 from rfl,this];have h2:(vK c2).map Prod.snd=c2.JF:=by
   rw [vK,List.map_snd_zip];rw [hi.bl,hi.ln];simp
  rw [h2,hi.bl];rfl
 have ae:Lo.length=2:=by
  have:=congrArg List.length ab;rw [hz,show (5:Int)=((5:Nat):Int) from rfl,B] at this;simp [ad] at this;exact this
 rw [hd] at F6;refine ⟨_,_,rfl,?_⟩;have C:∀ j,j<=2->tQ (rz ⟨vN 0,2,[vN 1,vN 2]⟩ j).cur=true:=by
  intro j hj
  match j,hj with
  | 0,_=>rfl
  | 1,_=>rfl
  | 2,_=>rfl
 refine aa.use (W6.Xj F6 (by omega) aA (by decide) (xw _ _) C (j:=1) (by decide)) ?_;rintro bh bi ⟨kv,G4,rfl,gk,W7,F7⟩ bj;have al:rz ⟨vN 0,2,[vN 1,vN 2]⟩ 1=⟨vN 1,2,[vN 2]⟩:=by
  rw [rz,if_neg (by decide)];show (⟨mW (vN 0) (vN 1),2,[vN 2]⟩:Dv)=_;rw [Ug];rfl
 rw [al] at gk F7;have D:=W7.perm (.swap _ _ _);refine ⟨_,_,rfl,?_⟩;refine aa.use (D.VD F7 aA (by decide) (xw _ _) rfl) ?_;rintro bk mK ⟨mv,rfl,gm,W8,F8,s1,m1,e1⟩ bm;have F:=(Bl gk m1 (D.dj (by simp))).ext e1;have x:=W8.perm (WT:=G4::ay mv::ay kv::Gs) (.swap _ _ _);refine ⟨_,_,rfl,?_⟩;refine aa.use (x.attach F8 aA (F.sl bU) (by decide) (xw _ _) (by omega) (.inr ⟨VB (n:=1) (by omega),rfl,rfl⟩)) ?_;rintro xN bo ⟨rfl,G5,G,F9,m9⟩ bs;have am:=Bl F m9 (x.dj (by simp));have an:=Bl gm m9 (x.dj (by simp));refine ⟨_,rfl,_,G.aD.1,_,G.aD.2,?_⟩;refine aa.use (G.Wc F9 (by omega) (by omega) aA (by decide) (xw _ _) (by omega)) ?_;rintro bx ao ⟨a2,H,G6,rfl,I,b0,J,ap,b1,K⟩ b2;have L:=Bl am K (G.dj (by simp));have M:=Bl an K (G.dj (by simp));have ar:=O2 (hand:=[]) hi (by omega) l (m:=1) (pl:=0) (most:=5) (by omega) (by omega) (by omega);obtain ⟨z,O⟩:∃ z,(vK c2)[1]? = some z:=⟨_,List.getElem?_eq_getElem (by omega)⟩;have b:H.map nU.ev=[z.1]:=by
  rw [J,show (5:Int)=((5:Nat):Int) from rfl,ar];have:((vK c2).drop 1)=[z]:=by
   apply List.ext_getElem?;intro k;rw [List.getElem?_drop]
   match k with
   | 0=>simpa using O
   | k+1=>rw [List.getElem?_eq_none (by omega)];simp
  show (((vK c2).drop 1).take 5).map Prod.fst=_;rw [this];rfl
 obtain ⟨me,rfl⟩:=List.length_eq_one_iff.1 (show H.length=1 by have:=congrArg List.length b;simpa using this);have aw:me.ev=z.1:=by simpa using b
 have a0:me.ev.id=⟨1,((1:Nat):Int)+1⟩:=by rw [aw];exact (hi.ev 1 _ (SN hi O).1).1
 obtain ⟨la,o,k8,a1⟩:=(I.sl bq).ix (i:=0) (by decide) bq eK z5 rfl;have hc:av ao la (o+1)=some (.int .u64 2):=by
  rw [(a1 _ (Ext.refl _)).1 1 (by omega)];show some (AV.int .u64 me.ev.id.c)=_;rw [a0];rfl
 refine ⟨_,_,rfl,af.yes rfl (af.yes rfl (af.yes rfl (af.yes rfl (af.yes rfl (af.yes rfl ⟨_,(gO.sl bq).cI eK _,?_⟩)))))⟩;rw [ae];refine af.yes rfl ⟨_,HI (L.sl bU),_,HI (M.sl bU),af.yes (by simp) ⟨_,(I.sl bq).cI eK _,af.yes rfl ⟨_,_,k8 .i64,_,hc,rfl,?_⟩⟩⟩;obtain ⟨_,Fc,Fs,Fv,Fw,Wf,Af⟩:=ap;exact Af.tail.tail.tail.tail.tail.tail.tail.tail
end
end Go.Proofs.YtohgmogbabkkeaaGreat
end

section
namespace Go.Proofs.YtohgmogbabkkeaaGreat
open Go.Am Go.au Go.aC Go.bL
section
variable {c:iM} {x:aH} {n N:Nat} {t d:List UInt8}
end
section
variable {s0 s s':AS} {w:Wp} {c c':iM} {x:aH} {n n' N p p' lr:Nat} {row:List AV} {at_:AV} {b:List Int}
end
end Go.Proofs.YtohgmogbabkkeaaGreat
end

section
namespace Go.Proofs.YtohgmogbabkkeaaGreat
open Go.Am Go.au Go.aC Go.bL
section
variable {s0 s s':AS} {w:Wp} {c:iM} {x:aH} {n N:Nat} {Gs:List (List Nat)} {G R:List Nat} {p k:Nat} {f:List UInt8->Option Dv}
end
section
variable {s0 s s':AS} {w:Wp} {c c':iM} {x:aH} {n n' N p p' lr q pl:Nat} {row:List AV} {at_:AV} {b:List Int} {R:List Nat}
end
end Go.Proofs.YtohgmogbabkkeaaGreat
end

section
namespace Go.Proofs.YtohgmogbabkkeaaGreat
open Go.Am Go.au Go.aC Go.bL
section
variable {s0 s s':AS} {w:Wp} {n N:Nat} {c:iM} {x:aH} {Gs:List (List Nat)} {G R:List Nat}
theorem Ap.start (s:AS):Ap s s []:=⟨Ext.refl s,List.Pairwise.nil,fun R h=>by cases h⟩
end
end Go.Proofs.YtohgmogbabkkeaaGreat
end

section
namespace Go.Proofs.YtohgmogbabkkeaaGreat
open Go.Am Go.au Go.aC Go.bL
theorem VE (p q:Option (Nat×Nat)):cV T dG 2 [(0,.ptr p),(1,.ptr q)]=some [.ptr p,.ptr q]:=by kernel_rfl
theorem VF (l:Nat):ag T dG (.slc (some (l,0)) 2 2 true) (.int .i64 0)=some (.ptr (some (l,0))):=by kernel_rfl
theorem VG (l:Nat):ag T dG (.slc (some (l,0)) 2 2 true) (.int .i64 1)=some (.ptr (some (l,1))):=by kernel_rfl
theorem Wd (l:Nat) (k:Nat) (b:k<2):ag T dG (.slc (some (l,0)) 2 2 true) (.int .i64 (k:Nat))=some (.ptr (some (l,k))):=by
 rcases (show k=0\/k=1 by omega) with rfl | rfl
 ·exact VF l
 ·exact VG l
end Go.Proofs.YtohgmogbabkkeaaGreat
end

section
namespace Go.Proofs.YtohgmogbabkkeaaGreat
open Go.Am Go.au Go.aC Go.bL
def mJ (s:AS) (p:Option (Nat×Nat)):Prop:=p=none\/∃ l,p=some (l,0)/\At s l [.slc none 0 0 true,.map none]
section
variable {s s':AS} {p:Option (Nat×Nat)}
theorem mJ.ext (h:mJ s p) (e:Ext s s'):mJ s' p:=by
 rcases h with h | ⟨l,b,h2⟩
 ·exact .inl h
 ·exact .inr ⟨l,b,h2.ext e⟩
theorem nX (h:mJ s p):aa Tryz.prog bX [.ptr p] s fun r s'=>r=.bool false/\s'=s:=by
 rcases h with rfl | ⟨l,rfl,h⟩
 ·exact mG _ _ _ ⟨_,dn og _,af.no rfl ⟨rfl,rfl⟩⟩
 ·exact mG _ _ _ ⟨_,dn og _,af.yes rfl ⟨_,by rw [h.av];rfl,_,Cq gr _,rfl,rfl⟩⟩
theorem xx (h:mJ s p) (name:List UInt8) (ok:Bool):aa Tryz.prog di [.ptr p,.str name,.bool ok] s fun r s'=>r=.int .i64 1/\s'=s:=by
 refine rW _ _ _ _ _ ?_;refine aa.use (nX h) ?_;rintro v s2 ⟨rfl,rfl⟩ w2;exact ⟨_,rfl,af.yes rfl ⟨rfl,rfl⟩⟩
theorem SP (h:mJ s p) (name:List UInt8) (most:Int) (a b:Option (Nat×Nat)):aa Tryz.prog cZ [.ptr p,.str name,.int .i64 most,.ptr a,.ptr b] s fun r s'=>r=.aP [.slc none 0 0 true,.int .i64 1]/\Ext s s':=by
 refine aa.pre fun e=>nW _ _ _ _ _ _ _ (aj.intro e rfl fun l1 s2 c=>?_);refine ⟨fun vs s'=>vs=[.bool false]/\s'=s2,?_,?_⟩
 ·rintro b i ⟨hb,rfl⟩;obtain rfl:b=false:=by simpa using hb
  refine af.no rfl ⟨fun vs s'=>vs=[.int .i64 1]/\s'=i,?_,most,by rw [c.own.at.av];rfl,af.mk (fun _=>⟨most,by rw [c.own.at.av];rfl,?_⟩) (fun _=>?_)⟩
  ·rintro n s8 ⟨d,rfl⟩;simp only [List.cons.injEq,AV.int.injEq,true_and,and_true] at d;subst d;exact af.yes rfl ⟨rfl,c.ext⟩
  ·refine aa.use (xx (h.ext c.ext) _ _) ?_;rintro v s2 ⟨rfl,rfl⟩ w2;exact ⟨_,rfl,rfl,rfl⟩
  ·refine aa.use (xx (h.ext c.ext) _ _) ?_;rintro v s2 ⟨rfl,rfl⟩ w2;exact ⟨_,rfl,rfl,rfl⟩
 ·refine aa.use (nX (h.ext c.ext)) ?_;rintro v s2 ⟨rfl,rfl⟩ w2;exact ⟨_,rfl,af.no rfl ⟨rfl,rfl⟩⟩
theorem Ui (h:mJ s p) (name:List UInt8) (n:Int):aa Tryz.prog fQ [.ptr p,.str name,.int .i64 n] s fun r s'=>r=.aP [.slc none 0 0 true,.int .i64 1]/\s'=s:=by
 refine vp _ _ _ _ _ ?_;refine aa.use (xx h _ _) ?_;rintro v s2 ⟨rfl,rfl⟩ w2;exact ⟨_,rfl,af.yes rfl ⟨rfl,rfl⟩⟩
theorem N7 (h:mJ s p) (name:List UInt8):aa Tryz.prog eF [.ptr p,.str name] s fun r s'=>r=.aP [.slc none 0 0 true,.int .i64 1]/\s'=s:=by
 refine qY _ _ _ _ ?_;refine aa.use (xx h _ _) ?_;rintro v s2 ⟨rfl,rfl⟩ w2;exact ⟨_,rfl,af.yes rfl ⟨rfl,rfl⟩⟩
theorem SR (h:mJ s p) (name:List UInt8) (a b:Option (Nat×Nat)):aa Tryz.prog gK [.ptr p,.str name,.ptr a,.ptr b] s fun r s'=>r=.aP [.int .i64 0,.int .i64 1]/\s'=s:=by
 refine tU _ _ _ _ _ _ ⟨fun vs s'=>vs=[.bool false]/\s'=s,?_,?_⟩
 ·rintro b c ⟨hb,rfl⟩;obtain rfl:b=false:=by simpa using hb
  refine af.no rfl ?_;refine aa.use (xx h _ _) ?_;rintro v s2 ⟨rfl,rfl⟩ w2;exact ⟨_,rfl,af.yes rfl ⟨rfl,rfl⟩⟩
 ·refine aa.use (nX h) ?_;rintro v s2 ⟨rfl,rfl⟩ w2;exact ⟨_,rfl,af.no rfl ⟨rfl,rfl⟩⟩
theorem SS:aS T aY []=some (.agg (dD.map (.int .u64))):=by kernel_rfl
theorem N8 (h:mJ s p) (name:List UInt8):aa Tryz.prog kS [.ptr p,.str name] s fun r s'=>r=.aP [.agg (dD.map (.int .u64)),.bool false]/\Ext s s':=by
 refine aa.pre fun d=>zE _ _ _ _ (aj.intro d rfl fun l1 s2 c=>⟨fun vs s'=>vs=[.bool true]/\s'=s2,?_,?_⟩)
 ·rintro b i ⟨hb,rfl⟩;obtain rfl:b=true:=by simpa using hb
  refine af.yes rfl ⟨_,SS,⟨bT _ _,by simp [dD]⟩,bt.own c.wf c.own (by simp [dD]) fun s7 P=>?_⟩;have e:At s7 l1 (dD.map (.int .u64)):=⟨_,_,by rw [P.at,dz (by simp [dD])]⟩;exact ⟨_,e.aD (by simp [dD]),rfl,Ext.wr c.ext c.no P.mut⟩
 ·refine aa.use (nX (h.ext c.ext)) ?_;rintro v s2 ⟨rfl,rfl⟩ w2;exact ⟨_,rfl,af.yes rfl ⟨rfl,rfl⟩⟩
theorem N9 (h:mJ s p) (name:List UInt8) (a:AV):aa Tryz.prog dL [.ptr p,.str name,a] s fun r s'=>r=.int .i64 1/\s'=s:=by
 refine qX _ _ _ _ _ ?_;refine aa.use (nX h) ?_;rintro v s2 ⟨rfl,rfl⟩ w2;exact ⟨_,rfl,af.yes rfl ⟨rfl,rfl⟩⟩
theorem Mg (h:mJ s p):aa Tryz.prog jV [.ptr p] s fun r s'=>r=.slc none 0 0 true/\s'=s:=by
 refine yh _ _ _ ?_;refine aa.use (nX h) ?_;rintro v s2 ⟨rfl,rfl⟩ w2;exact ⟨_,rfl,af.yes rfl ⟨rfl,rfl⟩⟩
theorem SU (h:mJ s p):aa Tryz.prog nv [.ptr p] s fun r s'=>r=.ptr none/\s'=s:=by
 refine Cz _ _ _ ?_;refine aa.use (nX h) ?_;rintro v s2 ⟨rfl,rfl⟩ w2;exact ⟨_,rfl,af.yes rfl ⟨rfl,rfl⟩⟩
theorem N_:aa Tryz.prog dg [.ptr none] s fun r s'=>r=.bool false/\s'=s :=
 pP _ _ _ ⟨_,dn iI _,af.no rfl ⟨rfl,rfl⟩⟩
theorem Qs:aa Tryz.prog eG [.ptr none] s fun r s'=>r=.ptr none/\s'=s:=by
 refine qK _ _ _ ?_;refine aa.use N_ ?_;rintro v s2 ⟨rfl,rfl⟩ w2;exact ⟨_,rfl,af.yes rfl ⟨rfl,rfl⟩⟩
theorem Oa:aa Tryz.prog bY [.ptr none] s fun r s'=>r=.bool false/\s'=s :=
 rT _ _ _ ⟨_,dn yq _,af.no rfl ⟨rfl,rfl⟩⟩
theorem SV:aa Tryz.prog fR [.ptr none] s fun r s'=>r=.ptr none/\s'=s:=by
 refine vo _ _ _ ?_;refine aa.use Oa ?_;rintro v s2 ⟨rfl,rfl⟩ w2;exact ⟨_,rfl,af.yes rfl ⟨rfl,rfl⟩⟩
end
section
variable {s0 s:AS} {w:Wp} {n N:Nat} {c:iM} {x:aH} {Gs:List (List Nat)} {G:List Nat} {p k:Nat} {f:List UInt8->Option Dv}
theorem SW {sec:List Int} (F:kI G s p sec f k) (name:List UInt8) (most:Int) (q:Option (Nat×Nat)):aa Tryz.prog cZ [.ptr (some (p,0)),.str name,.int .i64 most,.ptr none,.ptr q] s fun r s'=>r=.aP [.slc none 0 0 true,.int .i64 1]/\Ext s s':=by
 refine aa.pre fun d=>nW _ _ _ _ _ _ _ (aj.intro d rfl fun l1 s2 c=>?_);refine ⟨fun vs s'=>vs=[.bool true]/\s'=s2,?_,?_⟩
 ·rintro b e ⟨hb,rfl⟩;obtain rfl:b=true:=by simpa using hb
  exact af.yes rfl ⟨rfl,c.ext⟩
 ·refine aa.use (tV (F.ext c.ext)) ?_;rintro v s2 ⟨rfl,rfl⟩ w2;refine ⟨_,rfl,af.yes rfl ?_⟩;refine aa.use Qs ?_;rintro v s2 ⟨rfl,rfl⟩ w2;exact ⟨_,rfl,_,dn iI _,af.yes rfl ⟨rfl,rfl⟩⟩
theorem SX {sec:List Int} (h:Wo s0 s w c x n N Gs) (F:kI G s p sec f k) (name:List UInt8):aa Tryz.prog gK [.ptr (some (p,0)),.str name,.ptr (some (w.pc,0)),.ptr none] s fun r s'=>r=.aP [.int .i64 0,.int .i64 1]/\Ext s s':=by
 refine tU _ _ _ _ _ _ ⟨fun vs s'=>vs=[.bool true]/\Ext s s',?_,?_⟩
 ·rintro b l ⟨hb,e⟩;obtain rfl:b=true:=by simpa using hb
  exact af.yes rfl ⟨rfl,e⟩
 ·refine aa.use (tV F) ?_;rintro v s2 ⟨rfl,rfl⟩ w2;refine ⟨_,rfl,af.yes rfl ?_⟩;obtain ⟨hi,Fc,Fs,Fv,Fw,W,A⟩:=h;refine aa.use (L5 W.ca) ?_;rintro v i ⟨⟨q,rfl⟩,d⟩ j;refine ⟨_,rfl,_,dn iI _,af.no rfl ?_⟩;refine aa.use SV ?_;rintro v s2 ⟨rfl,rfl⟩ w2;exact ⟨_,rfl,_,dn rN _,rfl,d⟩
end
theorem VH (l:Nat) (s:AS):aQ T dG (.slc (some (l,0)) 2 2 true) s=some (.int .i64 2):=by
 simp [aQ,C5]
set_option maxRecDepth 20000 in
set_option maxHeartbeats 2000000 in
theorem JP (s:AS):aa Tryz.prog oT [] s fun r s'=>r=.bool true:=by
 refine aa.pre fun U=>C9 _ _ (aj.intro U rfl fun l1 s2 A=>⟨_,VE _ _,aj.intro A.wf rfl fun M O B=>?_⟩);have W:Ap s O []:=(Ap.start s).ext (A.ext.trans B.ext);refine aa.use (Wo.begin W) ?_;rintro v6 s7 ⟨w,rfl,Q,R⟩ X;refine ⟨_,_,rfl,fun vs s'=>vs=[]/\Ext s7 s'/\aM s',?_,?_⟩
 ·rintro Y ⟨-,C,Z⟩;have D:=Q.ext C;refine aa.use (O0 (br.nil.sl bU) (by decide)) ?_;rintro ab bP ⟨p,G,rfl,S,hn,ht,F⟩ ad;have l:=D.add F hn ht;refine ⟨_,rfl,_,l.aD.2,?_⟩;refine aa.use (SW S _ _ _) ?_;rintro ae gz ⟨rfl,n⟩ al;have e:=l.ext n;refine ⟨_,_,rfl,_,e.aD.1,?_⟩;refine aa.use (SX e (S.ext n) _) ?_;rintro am an ⟨rfl,H⟩ ao;refine ⟨_,_,rfl,af.yes rfl (af.yes rfl (af.yes rfl ?_))⟩;obtain ⟨_,Fc,Fs,Fv,Fw,Wf,Af⟩:=e.ext H;refine aa.use (SO Af) ?_;rintro v O ⟨rfl,_⟩ _;exact ⟨_,rfl,rfl⟩
 ·refine ⟨fun m vs s'=>∃ i:Nat,vs=[.int .i64 (i:Nat)]/\i<=2/\m=2 - i/\Ext s7 s'/\aM s',2,⟨0,rfl,by omega,rfl,Ext.refl _,X⟩,?_⟩;rintro m ap jZ ⟨i,hv,h2,rfl,c,I⟩;simp only [List.cons.injEq,AV.int.injEq,true_and,and_true] at hv;subst hv;refine ⟨_,VH _ _,af.dec (fun ar=>?_) (fun aw=>⟨rfl,c,I⟩)⟩;have j:=Q.ext c;have o:=(B.own.ext R).ext c;obtain ⟨p,hp,b⟩:∃ p,av jZ M i=some (.ptr p)/\mJ jZ p:=by
   rcases (show i=0\/i=1 by omega) with rfl | rfl
   ·exact ⟨none,by rw [o.at.av];rfl,.inl rfl⟩
   ·exact ⟨some (l1,0),by rw [o.at.av];rfl,.inr ⟨l1,rfl,(((A.own.ext B.ext).ext R).ext c).at⟩⟩
  refine ⟨_,_,Wd M i (by omega),_,hp,_,j.aD.1,_,j.aD.2,?_⟩;refine aa.use (SP b _ _ _ _) ?_;rintro a0 a1 ⟨rfl,k⟩ a2;have b:=b.ext k;refine ⟨_,_,rfl,?_⟩;refine aa.use (Ui b _ _) ?_;rintro a3 a4 ⟨rfl,rfl⟩ a5;refine ⟨_,_,rfl,?_⟩;refine aa.use (N7 b _) ?_;rintro a6 a7 ⟨rfl,rfl⟩ a8;have x:=j.ext k;refine ⟨_,_,rfl,_,x.aD.1,_,x.aD.2,?_⟩;refine aa.use (SR b _ _ _) ?_;rintro a9 FZ ⟨rfl,rfl⟩ a';refine ⟨_,_,rfl,?_⟩;refine aa.use (N8 b _) ?_;rintro ba J ⟨rfl,y⟩ K;refine ⟨_,_,rfl,aj.intro K rfl fun bb S2 d=>⟨⟨bT _ _,by simp [dD]⟩,bt.own d.wf d.own (by simp [dD]) fun Ut P=>?_⟩⟩;have z:Ext J Ut:=Ext.wr d.ext d.no P.mut;have b:=(b.ext y).ext z;refine aa.use (N9 b _ _) ?_;rintro bc bd ⟨rfl,rfl⟩ be;refine ⟨_,rfl,af.no rfl (af.no rfl (af.no rfl (af.no rfl (af.no rfl (af.no rfl ?_)))))⟩;refine aa.use (Mg b) ?_;rintro bh bi ⟨rfl,rfl⟩ bj;refine ⟨_,rfl,af.no rfl ?_⟩;refine aa.use (SU b) ?_;rintro bk bl ⟨rfl,rfl⟩ L;exact ⟨_,rfl,_,dn og _,af.no rfl ⟨2 - (i+1),by omega,i+1,by rw [Cj (by omega)],by omega,rfl,c.trans (k.trans (y.trans z)),L⟩⟩
end Go.Proofs.YtohgmogbabkkeaaGreat
end
