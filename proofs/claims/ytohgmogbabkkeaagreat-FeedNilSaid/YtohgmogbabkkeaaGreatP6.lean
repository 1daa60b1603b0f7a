/-
  A part of O4 proof: an abstract machine Bo O4 model, and qi of qj of this program Bo it.
-/
import Derived.KernelRfl
import Derived.Test.YtohgmogbabkkeaaGreatP5
set_option linter.unusedVariables false
set_option linter.unusedSimpArgs false
set_option linter.unusedSectionVars false
section
namespace Go.Proofs.YtohgmogbabkkeaaGreat
open Go.Am Go.au Go.aC Go.bL
theorem NM {s:AS} {l:Nat} {n p:Int} (h:At s l [.int .u64 n]) (b:p≠0):aa Tryz.prog qE [.int .u64 p,.ptr (some (l,0))] s fun r s'=>r=.bool (Int.tmod n p==0)/\Ext s s' :=
 E_ _ _ _ _ ⟨_,by rw [h.av];rfl,b,rfl,Ext.refl _⟩
theorem P8 (s:AS):aa Tryz.prog uD [] s fun v s'=>aU wW 1 [] s s' v xG:=by
 refine aa.pre fun I=>IK _ _ (aj.intro I rfl fun l1 s2 z=>bt.own z.wf z.own (by simp) fun s3 A=>?_);have J:Am.Own s3 l1 [.int .u64 2]:=A.at;refine ⟨fun m vs s'=>∃ (k:Nat) (v:AV) (ln:Nat),vs=[v,.ptr (some (ln,0))]/\k<=310/\m=310 - k/\aU wW 1 [] s s' v (eN k)/\Am.Own s' ln [.int .u64 ((k:Int)+2)]/\aM s',310,⟨0,_,l1,rfl,by omega,rfl,aU.start (Ext.wr z.ext z.no A.mut).mut,by simpa using J,A.wf⟩,?_⟩;rintro m S U W ⟨k,v,ln,d,K,rfl,g,j,X⟩;simp only [List.cons.injEq,AV.ptr.injEq,and_true] at d;obtain ⟨rfl,rfl⟩:=d;have l:=g.sl tO;have hlen:(eN k).length<=64:=by
  have:=yL K;rw [BD] at this;exact this
 refine ⟨_,l.cI jA _,af.dec (fun L=>?_) (fun M=>?_)⟩
 ·have o:k<310:=by
   rcases Nat.lt_or_ge k 310 with h | h
   ·exact h
   ·have B:=yL h;rw [BD] at B;omega
  refine ⟨fun vs s'=>∃ v,vs=[v]/\aU wW 1 [] s s' v (eN (k+1))/\Am.Own s' ln [.int .u64 ((k:Int)+2)]/\aM s',?_,?_⟩
  ·rintro O bP ⟨v,hv,C,D,G⟩;simp only [List.cons.injEq,and_true] at hv;subst hv;refine ⟨_,by rw [D.at.av];rfl,aj.intro G rfl fun r eE F=>bt.own F.wf F.own (by simp) fun gz P=>?_⟩;have x:Am.Own gz r [.int .u64 ((k:Int)+2)]:=P.at;refine ⟨_,by rw [x.at.av];rfl,bt.own P.wf x (by simp) fun fL H=>⟨310 - (k+1),by omega,k+1,_,r,rfl,by omega,rfl,?_,?_,H.wf⟩⟩
   ·exact C.step (Ext.wr (Ext.wr F.ext F.no P.mut) F.no H.mut)
   ·have:=H.at;rw [dz (by simp),gw (by omega)] at this;rw [Am.Own,this];congr 4
  ·refine aa.use (tP l (by omega) fun i hi s' e w=>NM (j.at.ext e) (by have:=wo k i hi;omega)) ?_;rintro Q tW ⟨rfl,b⟩ y;refine ⟨_,rfl,af.mk (fun hb=>?_) (fun hb=>?_)⟩
   ·have c:(eN k).any (fun p=>Int.tmod ((k:Int)+2) p==0)=false:=by simpa using hb
    refine ⟨_,by rw [(j.ext b).at.av];rfl,?_⟩;refine aU.Kv (f:=fun n=>AV.int .u64 n) LN rfl (fun _=>rfl) y (g.step b) (by simp) ((k:Int)+2) (by omega) fun v' s' R w' m'=>⟨v',rfl,?_,?_,w'⟩
    ·rw [eN,c,if_neg (by simp)];exact R
    ·exact (j.ext b).mut m' (fun hm=>br.ne (by decide) (g.vq.ext b) (j.ext b) _ hm (by simp))
   ·have c:(eN k).any (fun p=>Int.tmod ((k:Int)+2) p==0)=true:=by simpa using hb
    refine ⟨_,rfl,?_,j.ext b,y⟩;rw [eN,if_pos c];exact g.step b
 ·have o:k=310:=by
   rcases Nat.lt_or_ge k 310 with h | h
   ·have B:=yL (show k<=309 by omega);rw [Pt] at B;omega
   ·omega
  subst o;exact g
theorem Qy {l o:Nat} {i:Int} (h:0<=i/\i<8):ag T cj (.ptr (some (l,o))) (.int .i64 i)=some (.ptr (some (l,o+i.toNat*1))):=uw CO EY h
theorem GP {l o:Nat} {i:Int} (h:0<=i/\i<64):ag T dH (.ptr (some (l,o))) (.int .i64 i)=some (.ptr (some (l,o+i.toNat*1))):=uw Iw EY h
theorem A1 (k:IntKind) (n:Nat):List.replicate n (AV.int k 0)=(List.replicate n (0:Int)).map (AV.int k):=by simp
set_option maxRecDepth 100000 in
theorem R5 (s:AS):aa Tryz.prog wG [] s fun v s'=>v=.agg (r0.map (.int .u32))/\Ext s s':=by
 refine aa.pre fun hw=>KY _ _ (aj.intro hw rfl fun l1 s2 A=>aj.intro A.wf rfl fun l3 s4 B=>?_);refine aa.use (P8 _) ?_;rintro v5 s6 W w6;have X:Ext s4 s6:=W.eL.ext;have F:=W.sl tO;have ab:xG.length=64:=BD;have ad:s.h l3=none:=A.ext.none B.no;refine ⟨_,F.cI jA _,fun m vs s'=>∃ i:Nat,vs=[.int .i64 (i:Nat)]/\i<=64/\m=64 - i/\Ext s2 s'/\aM s'/\Am.Own s' l3 ((uy i).map (.int .u32))/\Sl wW 1 s' v5 xG,64,⟨0,rfl,by omega,rfl,B.ext.trans X,w6,?_,F⟩,?_⟩
 ·exact (A1 .u32 72) ▸ (B.own.ext X:Am.Own s6 l3 (List.replicate 72 (AV.int .u32 0)))
 rintro m ae dI ⟨i,hi,h6,rfl,n,K,r,e⟩;simp only [List.cons.injEq,AV.int.injEq,true_and,and_true] at hi;subst hi;refine af.dec (fun al=>?_) (fun am=>?_)
 ·obtain ⟨y,Y⟩:=de (l:=xG) (i:=i) (by omega);obtain ⟨la,o,h8,h9⟩:=e.ix (by decide) tO jA jz Y;have G:xG.getD i 0=y:=by rw [List.getD_eq_getElem?_getD,Y];rfl
  refine ⟨la,o,h8 _,y,by simpa [wW] using (h9 _ (Ext.refl _)).1 0 (by decide),?_⟩;refine aa.use (LM _ _) ?_;rintro nM lK ⟨rfl,b⟩ L;refine ⟨_,rfl,_,_,GP (by omega),bt.int L (r.ext b) (i:=8+i) (by rw [qB];omega) (by simp) fun fL w M H=>?_⟩;have Z:∀ {l:List Int} {v:AV} {s s':AS},Sl wW 1 s v l->∀ {C:List Int},Am.Own s l3 (C.map (.int .u32))->bD [l3] s s'->Sl wW 1 s' v l:=by
   intro l v s s' h C ho m;refine h.mut m tO (by decide) ?_;rintro p hp D hD x hx j c hc hj;obtain rfl:=List.mem_singleton.1 hp;rw [ho.at.inj hD |>.symm] at hj;rw [List.getElem?_map] at hj;simp only [wW,List.getElem?_cons_zero,Option.some.injEq] at hc;subst hc;cases hq:C[j]? with
   | none=>rw [hq] at hj;cases hj
   | some z=>rw [hq] at hj;simp at hj
  have k:=Z (e.ext b) (r.ext b) H;have I:Ext s2 fL:=Ext.wr (n.trans b) B.no H;refine af.dec (fun O=>?_) (fun O=>?_)
  ·refine aa.use (R4 _ _) ?_;rintro an tW ⟨rfl,d⟩ Q;refine ⟨_,rfl,_,_,Qy (by omega),bt.int Q (w.ext d) (i:=i) (by simp [qB];omega) (by simp) fun ao R S J=>⟨64 - (i+1),by omega,i+1,by rw [Cj (by omega)],by omega,rfl,Ext.wr (I.trans d) B.no J,S,?_,Z (k.ext d) (w.ext d) J⟩⟩;rw [uy,D4,if_pos (by omega),G];exact R
  ·refine ⟨64 - (i+1),by omega,i+1,by rw [Cj (by omega)],by omega,rfl,I,M,?_,k⟩;rw [uy,D4,if_neg (by omega),G];exact w
 ·obtain rfl:i=64:=by omega
  have o1:=A.own.ext n;have U:((uy 64).map (AV.int .u32)).length=72:=by simp [qB]
  refine ⟨_,r.at.aD (by omega),?_⟩;rw [List.drop_zero,List.take_of_length_le (by omega)];refine ⟨⟨bT _ _,by rw [U]⟩,bt.own K o1 (by simp [U]) fun ap P=>?_⟩;have hP:=P.at;rw [dz (by simp [U])] at hP;refine ⟨_,At.aD ⟨_,_,hP⟩ (by omega),?_,Ext.wr (A.ext.trans n) A.no P.mut⟩;rw [List.drop_zero,List.take_of_length_le (by omega)];rfl
end Go.Proofs.YtohgmogbabkkeaaGreat
end

section
namespace Go.Proofs.YtohgmogbabkkeaaGreat
open Go.Am Go.au Go.aC Go.bL
theorem NO (a b:Int):cV T gG 2 [(0,.int .i64 a),(1,.int .i64 b)]=some [.int .i64 a,.int .i64 b]:=by
 simp only [cV,rM,Hs,Io,Option.bind_some,uk];rfl
theorem R6 (a b c:Int):cV T gG 3 [(0,.int .i64 a),(1,.int .i64 b),(2,.int .i64 c)]=some [.int .i64 a,.int .i64 b,.int .i64 c]:=by
 simp only [cV,rM,Hs,Io,Option.bind_some,uk];rfl
theorem Uu {s:AS} {l:Nat} {a b:Int} (h:At s l [.int .i64 a,.int .i64 b]):Sl LK 1 s (.slc (some (l,0)) 2 2 true) [a,b]:=cq.mk h rfl rfl
theorem Uv {s:AS} {l:Nat} {a b c:Int} (h:At s l [.int .i64 a,.int .i64 b,.int .i64 c]):Sl LK 1 s (.slc (some (l,0)) 3 3 true) [a,b,c]:=cq.mk h rfl rfl
theorem LO (a b c d e f g z:Int):aS T cj [(0,.int .u32 a),(1,.int .u32 b),(2,.int .u32 c),(3,.int .u32 d),(4,.int .u32 e),(5,.int .u32 f),(6,.int .u32 g),(7,.int .u32 z)]=some (.agg [.int .u32 a,.int .u32 b,.int .u32 c,.int .u32 d,.int .u32 e,.int .u32 f,.int .u32 g,.int .u32 z]):=by kernel_rfl
theorem R7 (v:W8) {i:Nat} (hi:i<8):jd T cj (.agg (v.list.map (.int .u32))) (.int .i64 (i:Nat))=some (.int .u32 (v.list.getD i 0)):=by
 simp only [jd,CO,EY,Option.bind_some,By Pz];rcases v with ⟨a,b,c,d,e,f,g,z⟩
 match i,hi with
 | 0,_=>simp [W8.list]
 | 1,_=>simp [W8.list]
 | 2,_=>simp [W8.list]
 | 3,_=>simp [W8.list]
 | 4,_=>simp [W8.list]
 | 5,_=>simp [W8.list]
 | 6,_=>simp [W8.list]
 | 7,_=>simp [W8.list]
def W8.vs (v:W8):List AV:=[.int .u32 v.a,.int .u32 v.b,.int .u32 v.c,.int .u32 v.d,.int .u32 v.e,.int .u32 v.f,.int .u32 v.g,.int .u32 v.z]
theorem W8.inj {v:W8} {a b c d e f g z:Int} (h:[AV.int .u32 a,.int .u32 b,.int .u32 c,.int .u32 d,.int .u32 e,.int .u32 f,.int .u32 g,.int .u32 z]=W8.vs v):v=⟨a,b,c,d,e,f,g,z⟩:=by
 cases v;simp only [W8.vs,List.cons.injEq,AV.int.injEq,true_and,and_true] at h;obtain ⟨rfl,rfl,rfl,rfl,rfl,rfl,rfl,rfl⟩:=h;rfl
set_option maxRecDepth 100000 in
theorem R8 {s:AS} {p:Nat} {st:List Int} {bv:AV} {n:List Int} (ho:Am.Own s p (st.map (.int .u32))) (cv:st.length=72) (hb:gA s bv n) (ba:bv≠.emp) (cw:n.length=64) :
  aa Tryz.prog mh [.ptr (some (p,0)),bv] s fun r s'=>r=.aP []/\bD [p] s s'/\Am.Own s' p ((MX st n).map (.int .u32)):=by
 refine aa.pre fun hw=>Ae _ _ _ _ (aj.intro hw rfl fun l1 s2 W=>?_);have cx:l1≠p:=fun e=>by
  have:=W.no;rw [e,ho] at this;cases this
 have o1:Am.Own s2 l1 ((S1 n 0).map (.int .u32)):=(A1 .u32 64) ▸ (W.own:Am.Own s2 l1 (List.replicate 64 (AV.int .u32 0)));refine ⟨fun vs s'=>Ext s s'/\aM s'/\Am.Own s' l1 ((KG n 0).map (.int .u32)),?_,?_⟩
 ·rintro s4 ⟨e4,w4,o4⟩;refine ⟨fun vs s'=>Ext s s'/\aM s'/\Am.Own s' l1 ((KG n 48).map (.int .u32)),?_,?_⟩
  ·rintro s6 ⟨e6,w6,o6⟩;have Y:=ho.ext e6;have rd:∀ i:Nat,i<8->av s6 p (0+((i:Nat):Int).toNat*1)=some (.int .u32 (st.getD i 0)):=fun i hi=>Y.at.Pu (by omega) (by simp);refine ⟨_,_,Qy (i:=0) (by omega),_,rd 0 (by omega),_,_,Qy (i:=1) (by omega),_,rd 1 (by omega),_,_,Qy (i:=2) (by omega),_,rd 2 (by omega),_,_,Qy (i:=3) (by omega),_,rd 3 (by omega),_,_,Qy (i:=4) (by omega),_,rd 4 (by omega),_,_,Qy (i:=5) (by omega),_,rd 5 (by omega),_,_,Qy (i:=6) (by omega),_,rd 6 (by omega),_,_,Qy (i:=7) (by omega),_,rd 7 (by omega),?_⟩;refine ⟨fun vs s'=>vs=W8.vs (wq st (KG n 48) 64)/\Ext s s'/\aM s',?_,?_⟩
   ·rintro cy cz cA cB cC c0 c1 c2 c3 ⟨hv,Z,bb⟩;have hv:=W8.inj hv;refine ⟨_,LO _ _ _ _ _ _ _ _,fun m vs s'=>∃ i:Nat,vs=[.int .i64 (i:Nat)]/\i<=8/\m=8 - i/\bD [p] s s'/\aM s'/\Am.Own s' p ((KH (wq st (KG n 48) 64).list st i).map (.int .u32)),8,⟨0,rfl,by omega,rfl,Z.mut,bb,ho.ext Z⟩,?_⟩;rintro m c4 bc ⟨i,hi,h6,rfl,ab,bd,R⟩;simp only [List.cons.injEq,AV.int.injEq,true_and,and_true] at hi;subst hi;refine af.dec (fun G=>?_) (fun H=>?_)
    ·have hx:=R7 (wq st (KG n 48) 64) (i:=i) (by omega);have hr:av bc p (0+((i:Nat):Int).toNat*1)=some (.int .u32 ((KH (wq st (KG n 48) 64).list st i).getD i 0)):=R.at.Pu (by rw [z1];omega) (by simp);rw [hv] at hx;refine ⟨_,hx,_,_,Qy (by omega),_,hr,_,_,Qy (by omega),bt.int bd R (i:=i) (by rw [z1];omega) (by simp) fun c5 ad be bh=>⟨8 - (i+1),by omega,i+1,by rw [Cj (by omega)],by omega,rfl,ab.trans bh,be,?_⟩⟩;rw [KH];rw [hv] at ad ⊢;exact ad
    ·obtain rfl:i=8:=by omega
     exact ⟨rfl,ab,R⟩
   ·refine ⟨fun m vs s'=>∃ i:Nat,vs=W8.vs (wq st (KG n 48) i)++[.int .i64 (i:Nat)]/\i<=64/\m=64 - i/\Ext s6 s'/\aM s',64,⟨0,rfl,by omega,rfl,Ext.refl _,w6⟩,?_⟩;rintro m a b c d e f g z bi ae ⟨i,hi,h6,rfl,I,bj⟩;obtain ⟨hv,hi⟩:=List.append_inj' (s₁:=[AV.int .u32 a,.int .u32 b,.int .u32 c,.int .u32 d,.int .u32 e,.int .u32 f,.int .u32 g,.int .u32 z]) (t₁:=[AV.int .i64 bi]) hi rfl;have hv:=W8.inj hv;simp only [List.cons.injEq,AV.int.injEq,true_and,and_true] at hi;subst hi;refine af.dec (fun G=>?_) (fun H=>?_)
    ·have X:av ae p (0+8+((i:Nat):Int).toNat*1)=some (.int .u32 (st.getD (8+i) 0)):=(Y.ext I).at.Pu (by omega) (by simp);have bk:av ae l1 (0+((i:Nat):Int).toNat*1)=some (.int .u32 ((KG n 48).getD i 0)):=(o6.ext I).at.Pu (by rw [D7];omega) (by simp);refine ⟨fun q _ v s=>q=3->Sl LK 1 s v [6,11,25],fun q _ v=>q=4->v=.int .u32 (C3 e [6,11,25]),fun q _ v s s' e h C=>(h C).ext e,fun c6 c7 bl _=>⟨_,R6 _ _ _,aj.intro bl rfl fun c8 c9 F=>⟨F.ext,(fun _=>Uv F.own.at),(fun h=>by cases h)⟩⟩,⟨.bad,fun h=>by cases h⟩,fun c' _=>⟨fun da db dc hS=>?_,⟨_,fun _=>rfl⟩,fun dd al=>?_⟩⟩
     ·refine (JA (hS.1 rfl) (by decide) _).mono ?_;rintro v s' ⟨rfl,rfl⟩;exact ⟨_,rfl,Ext.refl _,(fun h=>by cases h),(fun _=>rfl)⟩
     ·obtain rfl:=al rfl;refine ⟨_,rfl,_,rfl,_,rfl,_,rfl,_,rfl,_,_,GP (by omega),_,X,_,_,GP (by omega),_,bk,fun bs am an _=>⟨_,R6 _ _ _,aj.intro an rfl fun bx b0 F=>?_⟩⟩;refine aa.use (JA (Uv F.own.at) (by decide) _) ?_;rintro v b1 ⟨rfl,rfl⟩ ao;refine ⟨_,rfl,_,rfl,_,rfl,_,rfl,_,rfl,_,rfl,64 - (i+1),by omega,i+1,?_,by omega,rfl,I.trans (am.trans F.ext),ao⟩;rw [Cj (by omega),wq,hv];rfl
    ·obtain rfl:i=64:=by omega
     refine ⟨?_,e6.trans I,bj⟩;rw [hv];rfl
  ·refine ⟨fun m vs s'=>∃ i:Nat,vs=[.int .i64 ((16+i:Nat):Int)]/\i<=48/\m=48 - i/\Ext s s'/\aM s'/\Am.Own s' l1 ((KG n i).map (.int .u32)),48,⟨0,rfl,by omega,rfl,e4,w4,o4⟩,?_⟩;rintro m b2 ap ⟨i,hi,h6,rfl,e7,w7,o7⟩;simp only [List.cons.injEq,AV.int.injEq,true_and,and_true] at hi;subst hi;refine af.dec (fun G=>?_) (fun H=>?_)
   ·have ww:∀ k:Nat,k<=16->IntKind.wrap .i64 (((16+i:Nat):Int) - (k:Int))=((16+i - k:Nat):Int):=fun k X=>by rw [aW (by omega)];omega
    have rd:∀ k:Nat,k<64->av ap l1 (0+(k:Int).toNat*1)=some (.int .u32 ((KG n i).getD k 0)):=fun k X=>o7.at.Pu (by rw [D7];omega) (by simp);have ar:=ww 15 (by omega);have w2:=ww 2 (by omega);have aw:=ww 16 (by omega);have a0:=ww 7 (by omega);rw [show ((15:Nat):Int)=15 from rfl] at ar;rw [show ((2:Nat):Int)=2 from rfl] at w2;rw [show ((16:Nat):Int)=16 from rfl] at aw;rw [show ((7:Nat):Int)=7 from rfl] at a0;rw [ar,w2,aw,a0];refine ⟨_,_,GP (by omega),_,rd _ (by omega),_,_,GP (by omega),_,rd _ (by omega),fun q _ v s=>(q=7->Sl LK 1 s v [7,18])/\(q=20->Sl LK 1 s v [17,19]),fun q _ v=>(q=8->v=.int .u32 (C3 ((KG n i).getD (16+i - 15) 0) [7,18]))/\(q=21->v=.int .u32 (C3 ((KG n i).getD (16+i - 2) 0) [17,19])),fun q _ v s s' e h=>⟨fun C=>(h.1 C).ext e,fun C=>(h.2 C).ext e⟩,_,_,GP (by omega),_,rd _ (by omega),fun b3 b4 a1 _=>⟨_,NO _ _,aj.intro a1 rfl fun b5 b6 F=>⟨F.ext,⟨(fun _=>Uu F.own.at),(fun h=>by cases h)⟩,(fun h=>by cases h),(fun h=>by cases h)⟩⟩,⟨.bad,(fun h=>by cases h),(fun h=>by cases h)⟩,fun b7 _=>⟨fun b8 b9 b' hS=>?_,⟨_,(fun _=>rfl),(fun h=>by cases h)⟩,fun ca S=>?_⟩⟩
    ·refine (JA (hS.1.1 rfl) (by decide) _).mono ?_;rintro v s' ⟨rfl,rfl⟩;exact ⟨_,rfl,Ext.refl _,⟨(fun h=>by cases h),(fun h=>by cases h)⟩,(fun _=>rfl),(fun h=>by cases h)⟩
    ·obtain rfl:=S.1 rfl;refine ⟨_,rfl,by decide,_,rfl,_,_,GP (by omega),_,rd _ (by omega),fun cb cc a2 _=>⟨_,NO _ _,aj.intro a2 rfl fun cd ce F=>⟨F.ext,⟨(fun h=>by cases h),(fun _=>Uu F.own.at)⟩,(fun h=>by cases h),(fun h=>by cases h)⟩⟩,⟨.bad,(fun h=>by cases h),(fun h=>by cases h)⟩,fun cf _=>⟨fun ch ci ck hS=>?_,⟨_,(fun h=>by cases h),(fun _=>rfl)⟩,fun cl U=>?_⟩⟩
     ·refine (JA (hS.2.2.1.2 rfl) (by decide) _).mono ?_;rintro v s' ⟨rfl,rfl⟩;exact ⟨_,rfl,Ext.refl _,⟨(fun h=>by cases h),(fun h=>by cases h)⟩,(fun h=>by cases h),(fun _=>rfl)⟩
     ·obtain rfl:=U.2 rfl;refine ⟨_,rfl,by decide,_,rfl,fun cm J a3 _=>⟨_,_,GP (by omega),bt.int a3 (o7.ext J) (i:=16+i) (by rw [D7];omega) (by simp;omega) fun cn a4 a5 a6=>⟨48 - (i+1),by omega,i+1,by rw [Cj (by omega)];rfl,by omega,rfl,Ext.wr (e7.trans J) W.no a6,a5,?_⟩⟩⟩;rw [KG,MV];exact a4
   ·obtain rfl:i=48:=by omega
    exact ⟨e7,w7,o7⟩
 ·refine ⟨fun m vs s'=>∃ i:Nat,vs=[.int .i64 (i:Nat)]/\i<=16/\m=16 - i/\Ext s s'/\aM s'/\Am.Own s' l1 ((S1 n i).map (.int .u32)),16,⟨0,rfl,by omega,rfl,W.ext,W.wf,o1⟩,?_⟩;rintro m cp cr ⟨i,hi,h6,rfl,A,K,L⟩;simp only [List.cons.injEq,AV.int.injEq,true_and,and_true] at hi;subst hi;refine af.dec (fun G=>?_) (fun H=>?_)
  ·have w4:IntKind.wrap .i64 (4*(i:Int))=((4*i:Nat):Int):=by rw [aW (by omega)];omega
   have w8:IntKind.wrap .i64 (((4*i:Nat):Int)+4)=((4*i+4:Nat):Int):=by rw [aW (by omega)];omega
   obtain ⟨v',oX,a7⟩:=(hb.ext A).mid bU aL ey ba (i:=4*i) (j:=4*i+4) (by omega) (by omega) .i64 .i64;rw [w4,w8];have bm:((n.drop (4*i)).take (4*i+4 - 4*i)).length=4:=by rw [List.length_take,List.length_drop];omega
   refine ⟨_,oX,_,a7.cI aL _,fun m vs s'=>∃ k:Nat,vs=[.int .i64 (k:Nat)]/\k<=4/\m=4 - k/\Ext s s'/\aM s'/\Sl qg 1 s' v' ((n.drop (4*i)).take (4*i+4 - 4*i))/\Am.Own s' l1 ((Ur n i (S1 n i) k).map (.int .u32)),4,⟨0,rfl,by omega,rfl,A,K,a7,L⟩,?_⟩;rintro m cs a8 ⟨k,X,df,rfl,M,O,B,w⟩;simp only [List.cons.injEq,AV.int.injEq,true_and,and_true] at X;subst X;rw [bm];refine af.dec (fun G=>?_) (fun H=>?_)
   ·obtain ⟨y,hy⟩:=de (l:=(n.drop (4*i)).take (4*i+4 - 4*i)) (i:=k) (by omega);have bo:n.getD (4*i+k) 0=y:=by
     rw [List.getElem?_take,if_pos (by omega),List.getElem?_drop] at hy;rw [List.getD_eq_getElem?_getD,hy];rfl
    obtain ⟨la,o,h8,h9⟩:=B.ix (by decide) bU aL ey hy;have hr:av a8 l1 (0+((i:Nat):Int).toNat*1)=some (.int .u32 ((Ur n i (S1 n i) k).getD i 0)):=w.at.Pu (by rw [D5,D6];omega) (by simp);refine ⟨la,o,h8 _,y,by simpa [qg] using (h9 _ (Ext.refl _)).1 0 (by decide),_,_,GP (by omega),_,hr,by decide,_,rfl,_,_,GP (by omega),bt.int O w (i:=i) (by rw [D5,D6];omega) (by simp) fun cu a9 a' Q=>⟨4 - (k+1),by omega,k+1,by rw [Cj (by omega)],by omega,rfl,Ext.wr M W.no Q,a',?_,?_⟩⟩
    ·refine B.mut Q bU (by decide) ?_;rintro q C D hD x hx j c hc hj;obtain rfl:=List.mem_singleton.1 C;rw [<- w.at.inj hD,List.getElem?_map] at hj;simp only [qg,List.getElem?_cons_zero,Option.some.injEq] at hc;subst hc;cases C:(Ur n i (S1 n i) k)[j]? with
     | none=>rw [C] at hj;cases hj
     | some z=>rw [C] at hj;simp at hj
    ·rw [Ur,MU,bo];exact a9
   ·obtain rfl:k=4:=by omega
    refine ⟨16 - (i+1),by omega,i+1,by rw [Cj (by omega)],by omega,rfl,M,O,w⟩
  ·obtain rfl:i=16:=by omega
   exact ⟨A,K,L⟩
end Go.Proofs.YtohgmogbabkkeaaGreat
end

section
namespace Go.Proofs.YtohgmogbabkkeaaGreat
open Go.Am Go.au Go.aC Go.bL
theorem R9 (k:Nat):(List.replicate k (0:Int)).flatMap qg=rep k [AV.int .u8 0]:=by
 induction k with
 | zero=>rfl
 | succ k b=>simp only [List.replicate_succ,List.flatMap_cons,b,rep];rfl
theorem P9 {s0 s:AS} (e:aM s) {v:AV} {l:List Int} (h:ze s0 s v l) (hv:l≠[]) (k:Nat) (hb:l.length+k<=2 ^ 28) {K:AV->AS->Prop} (r:∀ v' s',ze s0 s' v' (l++List.replicate k 0)->aM s'->K v' s'):iD (aI T aq tg v (.int .i64 (k:Nat)) s) K:=by
 rcases h with ⟨⟨rfl,_⟩ | ⟨la,rfl,b⟩,i,w⟩
 ·exact absurd rfl hv
 have c:=sG l;have B:bI (AV.int IntKind.u8 0)=some [AV.int .u8 0]:=rfl;have m:aI T aq tg (.slc (some (la,0)) l.length l.length false) (.int .i64 (k:Nat)) s=if k=0 then some (.slc (some (la,0)) l.length l.length false,s) else
   some (.slc (some (s.nl,0)) (l.length+k) (l.length+k) false,(s.kill la).new (.cells (l.flatMap qg++rep k [.int .u8 0]) 1 false)):=by
  simp only [aI,aL,OA,if_true,sN,ey,Ip,EU,Option.bind_some,B,List.length_cons,List.length_nil,Int.toNat_natCast,Nat.zero_add];rw [if_neg (by omega)];split
  ·rfl
  ·have d:mX 1 l.length s (.slc (some (la,0)) l.length l.length false)=some (l.flatMap qg):=by
    have:l.length≠0:=fun h=>hv (List.length_eq_zero_iff.1 h);simp only [mX,if_neg this];rw [um b (by rw [c];omega),List.drop_zero,List.take_of_length_le (by rw [c];omega)]
   rw [d];simp only [Option.bind_some,b,Nat.zero_add];rw [if_pos ⟨trivial,by omega,by omega⟩]
 by_cases z:k=0
 ·subst z;rw [if_pos rfl] at m;refine ⟨_,_,m,r _ _ ?_ e⟩;simp only [List.replicate_zero,List.append_nil];exact ⟨.inr ⟨la,rfl,b⟩,i,w⟩
 ·rw [if_neg z] at m;have C:aM (s.kill la):=by
   refine ⟨e.1,fun j=>?_⟩;rw [AS.rX,AS.nY,AS.DU];split
   ·rfl
   ·exact e.2 j
  have n:=C.new (o:=.cells (l.flatMap qg++rep k [.int .u8 0]) 1 false) rfl;refine ⟨_,_,m,r _ _ ⟨.inr ⟨s.nl,by simp,?_⟩,⟨fun y o D p=>n.ext.1 y o ?_,Nat.le_trans i.2 n.ext.2⟩,fun x A=>?_⟩ n.wf⟩
  ·rw [List.flatMap_append,R9];exact n.at
  ·rw [AS.rX,if_neg]
   ·exact i.1 y o D p
   ·rintro rfl;rw [w y (by simp [ay])] at p;cases p
  ·simp only [ay,List.mem_singleton] at A;subst A;cases F:s0.h s.nl with
   | none=>rfl
   | some o =>
    have:=i.1 _ _ (by simp) F;rw [e.none] at this;cases this
theorem TV (n:Nat) (c:n<=2 ^ 40):Int.tmod (IntKind.wrap .i64 (120 - Int.tmod ((n+1:Nat):Int) 64)) 64=((Im n:Nat):Int):=by
 have b:Int.tmod ((n+1:Nat):Int) 64=(((n+1) % 64:Nat):Int):=by
  rw [Int.tmod_eq_emod_of_nonneg (by omega)];omega
 rw [b,aW (by omega),Int.tmod_eq_emod_of_nonneg (by omega),Im];omega
theorem TW (f:Nat->Int) {i n:Nat} (h:i<n):((List.range i).map f++List.replicate (n - i) 0).set i (f i)=(List.range (i+1)).map f++List.replicate (n - (i+1)) 0:=by
 have e:n - i=(n - (i+1))+1:=by omega
 rw [e,List.range_succ,List.set_append,if_neg (by simp)];simp [List.replicate_succ]
theorem WM {l:Nat} {i:Int} (h:0<=i/\i<32):ag T sr (.ptr (some (l,0))) (.int .i64 i)=some (.ptr (some (l,0+i.toNat*1))):=uw Ir ey h
theorem P_ {k:IntKind} (e:k≠.u8) {s s':AS} {q:Nat} {C:List Int} {v:AV} {l:List Int} (h:gA s v l) (i:Am.Own s q (C.map (.int k))) (m:bD [q] s s'):gA s' v l:=by
 refine Sl.mut h m bU (by decide) ?_;rintro p n D o x r j c b hj;obtain rfl:=List.mem_singleton.1 n;rw [<- i.at.inj o,List.getElem?_map] at hj;simp only [qg,List.getElem?_cons_zero,Option.some.injEq] at b;subst b;cases d:C[j]? with
 | none=>rw [d] at hj;cases hj
 | some z=>rw [d] at hj;simp at hj;exact e hj.1
set_option maxRecDepth 100000 in
theorem OP {s:AS} {st:List Int} (y:st.length=72) {a:AV} {L:List (AV×List Int)} (ha:Sl VL 1 s a L) (hL:∀ p∈L,gA s p.1 p.2) (hn:L.length<=2 ^ 20) (hb:qh L<=2 ^ 20) :
  aa Tryz.prog ct [.agg (st.map (.int .u32)),a] s fun r s'=>r=.agg ((CN st (L.flatMap Prod.snd)).map (.int .u8))/\Ext s s':=by
 refine aa.pre fun hw=>Al _ _ _ _ ⟨bT _ _,aj.intro hw rfl fun l1 s2 x=>aj.intro x.wf rfl fun l3 s4 z=>?_⟩;have U:=x.ext.trans z.ext;have o1:Am.Own s4 l1 (st.map (.int .u32)):=x.own.ext z.ext;have o3:Am.Own s4 l3 ((List.replicate 32 (0:Int)).map (.int .u8)):=(A1 .u8 32) ▸ (z.own:Am.Own s4 l3 (List.replicate 32 (AV.int .u8 0)));have A:l1≠l3:=fun e=>by
  have:=z.no;rw [<- e,x.own] at this;cases this
 have n3:s.h l3=none:=x.ext.none z.no;refine aa.use (P0 (ha.ext U) (fun p hp=>(hL p hp).ext U) hn (by omega)) ?_;rintro v5 s6 W w6;have X:=xK L;generalize L.flatMap Prod.snd=b at W X ⊢;refine ⟨_,(W.sl bU).cI aL _,?_⟩;refine wU w6 W (by simp) 128 (by omega) fun v11 dI B Y a8=>?_;refine ⟨_,(B.sl bU).cI aL _,by decide,by decide,?_⟩;have a9:Im b.length<64:=by unfold Im;omega
 have Z:(b++[(128:Int)]).length=b.length+1:=by simp
 rw [Z,TV _ (by omega)];refine P9 Y B (by simp) (Im b.length) (by simp;omega) fun a' gu ab ad=>?_;have ba:=KI b;have bb:=Rr b;refine ⟨fun vs s'=>∃ v,vs=[v]/\ze s4 s' v (r7 b)/\aM s',?_,?_⟩
 ·rintro bc eE ⟨v,hv,c,ae⟩;simp only [List.cons.injEq,and_true] at hv;subst hv;refine ⟨fun vs s'=>Ext s s'/\aM s'/\Am.Own s' l1 ((wu st (r7 b) ((r7 b).length / 64)).map (.int .u32))/\Am.Own s' l3 ((List.replicate 32 (0:Int)).map (.int .u8)),?_,?_⟩
  ·rintro gi ⟨al,am,C,an⟩;generalize hS:wu st (r7 b) ((r7 b).length / 64)=S at C;have bd:S.length=72:=by rw [<- hS,yM,y]
   refine ⟨fun m vs s'=>∃ i:Nat,vs=[.int .i64 (i:Nat)]/\i<=32/\m=32 - i/\Ext s s'/\aM s'/\Am.Own s' l1 (S.map (.int .u32))/\Am.Own s' l3 (((List.range i).map (Tq S)++List.replicate (32 - i) 0).map (.int .u8)),32,⟨0,rfl,by omega,rfl,al,am,C,by simpa using an⟩,?_⟩;rintro m be dW ⟨i,hi,h6,rfl,D,F,G,d⟩;simp only [List.cons.injEq,AV.int.injEq,true_and,and_true] at hi;subst hi;refine af.dec (fun ao=>?_) (fun ap=>?_)
   ·have hd:IntKind.wrap .i64 (Int.tdiv (i:Int) 4)=((i / 4:Nat):Int):=by
     rw [Int.tdiv_eq_ediv_of_nonneg (by omega),aW (by omega)];omega
    have ht:Int.tmod (i:Int) 4=((i % 4:Nat):Int):=by rw [Int.tmod_eq_emod_of_nonneg (by omega)];omega
    have hr:av dW l1 (0+((i / 4:Nat):Int).toNat*1)=some (.int .u32 (S.getD (i / 4) 0)):=G.at.Pu (by omega) (by simp;omega);rw [hd];refine ⟨by decide,_,_,Qy (by omega),_,hr,by decide,?_,_,_,WM (by omega),bt.int F d (i:=i) (by simp;omega) (by simp) fun mu ar aw H=>⟨32 - (i+1),by omega,i+1,by rw [Cj (by omega)],by omega,rfl,Ext.wr D n3 H,aw,G.mut H (by simpa using A),?_⟩⟩
    ·rw [ht,aW (n:=8*((i % 4:Nat):Int)) (by omega),aW (by omega)];omega
    ·rw [<- TW (Tq S) (by omega)];exact ar
   ·obtain rfl:i=32:=by omega
    simp only [Nat.sub_self,List.replicate_zero,List.append_nil] at d;have hl:(((List.range 32).map (Tq S)).map (AV.int .u8)).length=32:=by simp
    refine ⟨_,d.at.aD (by omega),?_⟩;rw [List.drop_zero,List.take_of_length_le (by omega)];refine ⟨⟨bT _ _,by rw [hl]⟩,bt.own F d (by omega) fun bh P=>?_⟩;have hP:=P.at;rw [dz (by omega)] at hP;refine ⟨_,At.aD ⟨_,_,hP⟩ (by omega),?_,Ext.wr D n3 P.mut⟩;rw [List.drop_zero,List.take_of_length_le (by omega),CN,hS,UT]
  ·refine ⟨fun m vs s'=>∃ (k:Nat) (v:AV),vs=[v]/\64*k<=(r7 b).length/\m=(r7 b).length / 64 - k/\Ext s s'/\aM s'/\gA s' v ((r7 b).drop (64*k))/\Am.Own s' l1 ((wu st (r7 b) k).map (.int .u32))/\Am.Own s' l3 ((List.replicate 32 (0:Int)).map (.int .u8)),(r7 b).length / 64,⟨0,_,rfl,by omega,rfl,U.trans c.eL.ext,ae,by simpa using c.sl bU,o1.ext c.eL.ext,o3.ext c.eL.ext⟩,?_⟩;rintro m bi bj ⟨k,v,hv,hk,rfl,I,a0,j,l,J⟩;simp only [List.cons.injEq,and_true] at hv;subst hv;have bk:((r7 b).drop (64*k)).length=(r7 b).length - 64*k:=List.length_drop;refine ⟨_,j.cI aL _,af.dec (fun K=>?_) (fun hle=>?_)⟩
   ·have a1:(r7 b).drop (64*k)≠[]:=fun h=>by rw [h] at K;simp at K
    have a2:=j.Rt a1;obtain ⟨v',oX,M⟩:=j.upto bU aL ey a2 (i:=64) (by omega) .i64;refine ⟨_,oX,?_⟩;have o:(((r7 b).drop (64*k)).take 64).length=64:=by rw [List.length_take];omega
    refine aa.use (R8 l (by rw [yM,y]) M (M.Rt fun h=>by rw [h] at o;simp at o) o) ?_;rintro bl bm ⟨rfl,w,a3⟩ a4;have a5:=P_ (by decide) j l w;obtain ⟨v2,a6,O⟩:=a5.rest bU aL ey (i:=64) (by omega) .i64;refine ⟨rfl,_,a6,(r7 b).length / 64 - (k+1),by omega,k+1,v2,rfl,by omega,rfl,Ext.wr I x.no w,a4,?_,?_,J.mut w (by simpa using Ne.symm A)⟩
    ·rw [List.drop_drop] at O;rw [show 64*(k+1)=64*k+64 by omega];exact O
    ·rw [wu];exact a3
   ·have:(r7 b).length / 64=k:=by omega
    exact ⟨I,a0,by rw [this];exact l,J⟩
 ·refine ⟨fun m vs s'=>∃ (i:Nat) (v:AV),vs=[v,.int .i64 (i:Nat)]/\i<=8/\m=8 - i/\aM s'/\ze s4 s' v (b++[128]++List.replicate (Im b.length) 0++(List.range i).map (US b.length)),8,⟨0,_,rfl,by omega,rfl,ad,by simpa using ab⟩,?_⟩;rintro m a7 bo bs ⟨i,v,hi,h6,rfl,Q,R⟩;simp only [List.cons.injEq,AV.int.injEq,true_and,and_true] at hi;obtain ⟨rfl,rfl⟩:=hi;refine af.dec (fun ao=>?_) (fun ap=>?_)
  ·refine ⟨by rw [aW (n:=8*(i:Int)) (by omega),aW (by omega)];omega,?_⟩;refine wU Q R (by simp) (US b.length i) (by simp;omega) fun v' s' g' w' _=>⟨8 - (i+1),by omega,i+1,v',by rw [Cj (by omega)],by omega,rfl,w',?_⟩;rw [List.range_succ,List.map_append,<- List.append_assoc];exact g'
  ·obtain rfl:i=8:=by omega
   exact ⟨a7,rfl,R,Q⟩
end Go.Proofs.YtohgmogbabkkeaaGreat
end

section
namespace Go.Proofs.YtohgmogbabkkeaaGreat
open Go.Am Go.au Go.aC Go.bL
theorem CR:Bx T eJ aq 1 24:=⟨nL,qq,Pw,⟨_,_,EV,rfl,rfl⟩,by decide,by decide⟩
theorem Wr {l:Nat} {i:Int} (h:0<=i/\i<64):ag T fZ (.ptr (some (l,0))) (.int .i64 i)=some (.ptr (some (l,0+i.toNat*1))):=uw rO ey h
def A3 (f:Int->Int) (K:List Int) (i:Nat):List Int:=(K.take i).map f++K.drop i
theorem A4 (f:Int->Int) (K:List Int) (i:Nat):(A3 f K i).length=K.length:=by simp [A3];omega
theorem OQ (f:Int->Int) {K:List Int} {i:Nat} (h:i<K.length):(A3 f K i).getD i 0=K.getD i 0:=by
 rw [A3,List.getD_eq_getElem?_getD,List.getD_eq_getElem?_getD,List.getElem?_append_right (by simp;omega)];simp [Nat.min_eq_left (Nat.le_of_lt h)]
theorem LP (f:Int->Int) {K:List Int} {i:Nat} (h:i<K.length):(A3 f K i).set i (f (K.getD i 0))=A3 f K (i+1):=by
 have hd:=List.drop_eq_getElem_cons h;have b:K.getD i 0=K[i]:=by simp [List.getD_eq_getElem?_getD,List.getElem?_eq_getElem h]
 have c:((K.take i).map f).length=i:=by simp;omega
 rw [A3,A3,List.set_append,if_neg (by omega),c,Nat.sub_self,hd,List.set_cons_zero,List.take_add_one,List.getElem?_eq_getElem h,Option.toList_some,List.map_append,List.append_assoc,b];rfl
theorem R_ (f:Int->Int) (K:List Int):A3 f K K.length=K.map f:=by simp [A3]
theorem TX {k:IntKind} (sec:List Int) (h:sec.length<=64):qk ((List.replicate 64 (0:Int)).map (AV.int k)) 0 (sec.map (AV.int k))=(sec++List.replicate (64 - sec.length) 0).map (AV.int k):=by
 apply List.ext_getElem?;intro j;rw [jH _ _ _ _ (by simp;omega)];simp only [List.length_map,Nat.zero_add,Nat.zero_le,true_and,Nat.sub_zero,List.map_append];by_cases hj:j<sec.length
 ·rw [if_pos hj,List.getElem?_append_left (by simpa using hj)]
 ·rw [if_neg hj,List.getElem?_append_right (by simpa using hj)];simp only [List.getElem?_map,List.getElem?_replicate,List.length_map];by_cases h2:j<64
  ·rw [if_pos h2,if_pos (by omega)]
  ·rw [if_neg h2,if_neg (by omega)]
theorem kG (l:List Int):l.flatMap qg=l.map (AV.int .u8):=by
 induction l with
 | nil=>rfl
 | cons x xs b=>rw [List.flatMap_cons,b];rfl
theorem Sa {s:AS} (c:aM s) {l:Nat} (d:Am.Own s l ((List.replicate 64 (0:Int)).map (.int .u8))) {v:AV} {sec:List Int} (hs:gA s v sec) (i:sec.length<=64) {K:AV->AS->Prop}
  (j:∀ v' s',Am.Own s' l ((sec++List.replicate (64 - sec.length) 0).map (.int .u8))->aM s'->bD [l] s s'->K v' s'):iD (qt T aq (.slc (some (l,0)) 64 64 true) v s) K:=by
 obtain ⟨b,hlen⟩:=cq.src gx hs;have e:qt T aq (.slc (some (l,0)) 64 64 true) v s=if sec.flatMap qg=[] then some (.int .i64 ((min sec.length 64:Nat):Int),s) else (Am.cK s l 0 (sec.flatMap qg)).map fun s'=>(.int .i64 ((min sec.length 64:Nat):Int),s'):=by
  simp only [qt,aL,ey,Option.bind_some,hlen,show CT (AV.slc (some (l,0)) 64 64 true)=some 64 from rfl,Nat.min_eq_left i,b]
 rw [kG] at e;by_cases k:sec=[]
 ·subst k;simp only [List.map_nil,if_true] at e;exact ⟨_,_,e,j _ _ (by simpa using d) c (bD.refl _ _)⟩
 ·rw [if_neg (by simpa using k)] at e;obtain ⟨s',m,h2⟩:=bt.own (K:=fun s'=>Am.Own s' l ((sec++List.replicate (64 - sec.length) 0).map (.int .u8))/\aM s'/\bD [l] s s') (vs:=sec.map (AV.int .u8)) (o:=0) c d (by simp;omega) (fun s' P=>⟨by have:=P.at;rw [TX _ i] at this;exact this,P.wf,P.mut⟩);rw [m] at e;exact ⟨_,_,e,j _ _ h2.1 h2.2.1 h2.2.2⟩
theorem LQ (sec:List Int) (h:sec.length<=64) (m:Int):(wv sec m).length=64:=by simp [wv];omega
theorem OR {a b:AV} (c:a.one=true) (hb:b.one=true):cV T eJ 2 [(0,a),(1,b)]=some [a,b]:=by
 have e1:∀ v:AV,v.one=true->bI v=some [v]:=fun v hv=>by cases v <;> first | rfl | cases hv
 simp only [cV,nL,qq,EV,Option.bind_some,e1 _ c,e1 _ hb,jc,e1 (AV.slc none 0 0 true) rfl];rfl
set_option maxRecDepth 100000 in
theorem TY {s:AS} {sv:AV} {sec:List Int} (hs:gA s sv sec) (hl:sec.length<=64) {a:AV} {L:List (AV×List Int)} (ha:Sl VL 1 s a L) (hL:∀ p∈L,gA s p.1 p.2) (hn:L.length<=2 ^ 10) (hb:qh L<=2 ^ 16) :
  aa Tryz.prog yP [sv,a] s fun r s'=>r=.agg ((z2 sec (L.flatMap Prod.snd)).map (.int .u8))/\Ext s s':=by
 refine aa.pre fun hw=>Ni _ _ _ _ (aj.intro hw rfl fun l1 s2 F2=>?_);refine aa.use (R5 _) ?_;rintro v3 s4 ⟨rfl,e4⟩ w4;have A:r0.length=72:=qB 64;refine ⟨_,rfl,lq w4 (by simp [A]) (by simp) (bT _ _) fun W s8 X=>?_⟩;have e8:=(F2.ext.trans e4).trans X.ext;have o1:=(F2.own.ext e4).ext X.ext;refine ⟨fun vs s'=>vs=[sv]/\s'=s8,?_,⟨_,(hs.ext e8).cI aL _,af.no (by rw [decide_eq_false_iff_not];omega) ⟨rfl,rfl⟩⟩⟩;rintro v10 ca ⟨hv,rfl⟩;simp only [List.cons.injEq,and_true] at hv;subst hv;refine aj.intro X.wf rfl fun qZ bP d=>aj.intro d.wf rfl fun lC gu j=>⟨_,nr rO ey (by decide),?_⟩;have Z:=(e8.trans d.ext).trans j.ext;have a3:Am.Own gu qZ ((List.replicate 64 (0:Int)).map (.int .u8)):=((A1 .u8 64) ▸ (d.own:Am.Own bP qZ (List.replicate 64 (AV.int .u8 0)))).ext j.ext;have a4:Am.Own gu lC ((List.replicate 64 (0:Int)).map (.int .u8)):=(A1 .u8 64) ▸ (j.own:Am.Own gu lC (List.replicate 64 (AV.int .u8 0)));have ab:s.h qZ=none:=e8.none d.no;have ad:s.h lC=none:=(e8.trans d.ext).none j.no;have d1:qZ≠lC:=fun e=>by
  have:=j.no;rw [<- e,d.own] at this;cases this
 have d6:W≠qZ:=fun e=>by
  have:=d.no;rw [<- e,X.own] at this;cases this
 have d7:W≠lC:=fun e=>by
  have:=j.no;rw [<- e,X.own.ext d.ext] at this;cases this
 have d8:l1≠qZ:=fun e=>by
  have:=d.no;rw [<- e,o1] at this;cases this
 have d9:l1≠lC:=fun e=>by
  have:=j.no;rw [<- e,o1.ext d.ext] at this;cases this
 refine Sa j.wf a3 (hs.ext Z) hl fun cb eE I a5 C=>?_;generalize hK:sec++List.replicate (64 - sec.length) 0=K at I;have J:K.length=64:=by rw [<- hK];simp;omega
 have a6:(K.map (AV.int .u8)).length=64:=by simp [J]
 refine ⟨_,I.at.aD (by omega),?_⟩;rw [List.drop_zero,List.take_of_length_le (by omega)];refine ⟨⟨bT _ _,by rw [a6]⟩,bt.own a5 (a4.mut C (by simpa using Ne.symm d1)) (by simp [J]) fun gi y=>?_⟩;have a7:Am.Own gi lC (K.map (.int .u8)):=by
  have:=y.at;rw [dz (by simp [J])] at this;exact this
 have a8:Ext s gi:=Ext.wr (Ext.wr Z ab C) ad y.mut;have a9:Am.Own gi W (r0.map (.int .u32)):=(((X.own.ext d.ext).ext j.ext).mut C (by simpa using d6)).mut y.mut (by simpa using d7);have a':=(((o1.ext d.ext).ext j.ext).mut C (by simpa using d8)).mut y.mut (by simpa using d9);refine ⟨fun vs s'=>Ext s s'/\aM s'/\Am.Own s' qZ ((wv sec 54).map (.int .u8))/\Am.Own s' lC ((wv sec 92).map (.int .u8))/\Am.Own s' W (r0.map (.int .u32))/\Am.Own s' l1 (List.replicate 32 (.int .u8 0)),?_,?_⟩
 ·rintro fP ⟨M,cc,z,B,p6,p1⟩;have k:=LQ sec hl 54;have n:=LQ sec hl 92;have ae:∀ s',Ext fP s'->aD s' W 0 72=some (r0.map (.int .u32)):=fun s' e=>by
   rw [(p6.ext e).at.aD (by simp [A]),List.drop_zero,List.take_of_length_le (by simp [A])]
  have al:∀ s',Ext fP s'->gA s' (.slc (some (qZ,0)) 64 64 true) (wv sec 54):=fun s' e=>cq.mk (z.ext e).at (by rw [kG,k];simp [k]) (by rw [kG,List.drop_zero,List.take_of_length_le (by simp [k])]) |> (k ▸ ·);have am:∀ s',Ext fP s'->gA s' (.slc (some (lC,0)) 64 64 true) (wv sec 92):=fun s' e=>cq.mk (B.ext e).at (by rw [kG,n];simp [n]) (by rw [kG,List.drop_zero,List.take_of_length_le (by simp [n])]) |> (n ▸ ·);refine ⟨fun q _ v s'=>(q=2->∃ l,v=.slc (some (l,0)) 1 1 true/\At s' l [.slc (some (qZ,0)) 64 64 true])/\(q=4->Sl VL 1 s' v ((.slc (some (qZ,0)) 64 64 true,wv sec 54)::L))/\(q=6->∃ l,v=.ptr (some (l,0))/\Am.Own s' l (List.replicate 32 (.int .u8 0))/\fP.h l=none),fun q _ v=>(q=5->v=.agg ((CN r0 (wv sec 54++L.flatMap Prod.snd)).map (.int .u8)))/\(q=6->∃ l,v=.ptr (some (l,0))),?_,_,ae _ (Ext.refl _),_,nr rO ey (by decide),fun dW cd ba _=>⟨_,Ku CR rfl rfl,aj.intro ba rfl fun bb ce F=>⟨F.ext,⟨(fun _=>⟨bb,rfl,F.own.at⟩),(fun h=>by cases h),(fun h=>by cases h)⟩,(fun h=>by cases h),(fun h=>by cases h)⟩⟩,⟨.bad,(fun h=>by cases h),(fun h=>by cases h)⟩,fun cf _=>⟨fun ch bc bd O=>?_,⟨.bad,(fun h=>by cases h),(fun h=>by cases h)⟩,fun ci _=>⟨fun kr an ck O=>?_,⟨_,(fun _=>rfl),(fun h=>by cases h)⟩,fun cl ao=>?_⟩⟩⟩
  ·rintro q ks v s' s'' e ⟨h1,h2,h3⟩;refine ⟨fun Q=>?_,fun Q=>(h2 Q).ext e,fun Q=>?_⟩
   ·obtain ⟨l,a,b⟩:=h1 Q;exact ⟨l,a,b.ext e⟩
   ·obtain ⟨l,a,b,c⟩:=h3 Q;exact ⟨l,a,b.ext e,c⟩
  ·obtain ⟨l,rfl,R⟩:=O.1.1 rfl;refine Ts (f:=VL) CR Jz bd (x:=(.slc (some (qZ,0)) 64 64 true,wv sec 54)) R (ha.ext (M.trans bc)) (by omega) fun cm cn be cp bh=>⟨bh,⟨(fun h=>by cases h),(fun _=>be),(fun h=>by cases h)⟩,(fun h=>by cases h),(fun h=>by cases h)⟩
  ·refine (OP A (O.2.1.2.1 rfl) ?_ (by simp;omega) (by simp [qh,k] at hb ⊢;omega)).mono ?_
   ·intro p Y;rcases List.mem_cons.1 Y with rfl | Y
    ·exact al _ an
    ·exact (hL p Y).ext (M.trans an)
   ·rintro v s' ⟨rfl,e⟩;exact ⟨_,rfl,e,⟨(fun h=>by cases h),(fun h=>by cases h),(fun h=>by cases h)⟩,(fun _=>rfl),(fun h=>by cases h)⟩
  ·obtain rfl:=ao.1 rfl;generalize hH:CN r0 (wv sec 54++L.flatMap Prod.snd)=H1;have w:H1.length=32:=by rw [<- hH,nq]
   refine ⟨_,rfl,fun cr bi bj _=>aj.intro bj rfl fun o cs F=>⟨F.ext,⟨(fun h=>by cases h),(fun h=>by cases h),(fun _=>⟨o,rfl,F.own,bi.none F.no⟩)⟩,(fun h=>by cases h),(fun _=>⟨o,rfl⟩)⟩,⟨.ptr (some (0,0)),(fun h=>by cases h),(fun _=>⟨0,rfl⟩)⟩,fun cu ap=>?_⟩;obtain ⟨o,rfl⟩:=ap.2 rfl;refine ⟨_,rfl,fun cv bk bl O=>?_⟩;obtain ⟨l',ar,bm,bo⟩:=O.2.2.2.1.2.2 rfl;simp only [AV.ptr.injEq,Option.some.injEq,Prod.mk.injEq,and_true] at ar;subst ar;refine ⟨⟨bT _ _,by simp [w]⟩,bt.own bl bm (by simp [w]) fun yY aw=>?_⟩;have bs:Am.Own yY o (H1.map (.int .u8)):=by
    have:=aw.at;rw [dz (by simp [w])] at this;exact this
   have S:Ext fP yY:=Ext.wr bk bo aw.mut;refine ⟨fun q _ v s'=>q=3->∃ l,v=.slc (some (l,0)) 2 2 true/\At s' l [.slc (some (lC,0)) 64 64 true,.slc (some (o,0)) 32 32 true],fun _ _ _=>True,?_,_,ae _ S,_,nr rO ey (by decide),_,nr Ir ey (by decide),fun Ht cw bx _=>⟨_,OR rfl rfl,aj.intro bx rfl fun b0 cx F=>⟨F.ext,(fun _=>⟨b0,rfl,F.own.at⟩),trivial⟩⟩,⟨.bad,trivial⟩,fun cy _ b1 U cz O=>?_⟩
   ·rintro q ks v s' s'' e h Q;obtain ⟨l,a,b⟩:=h Q;exact ⟨l,a,b.ext e⟩
   ·obtain ⟨l,rfl,R⟩:=O.1 rfl;have hh:gA b1 (.slc (some (o,0)) 32 32 true) H1:=cq.mk (bs.ext U).at (by rw [kG];simp [w]) (by rw [kG,List.drop_zero,List.take_of_length_le (by simp [w])]) |> (w ▸ ·);refine aa.use (OP (L:=[(.slc (some (lC,0)) 64 64 true,wv sec 92),(.slc (some (o,0)) 32 32 true,H1)]) A (cq.mk R rfl rfl) ?_ (by simp) (by simp [qh,n,w])) ?_
    ·intro p Y;simp only [List.mem_cons,List.not_mem_nil,or_false] at Y;rcases Y with rfl | rfl
     ·exact am _ (S.trans U)
     ·exact hh
    ·rintro cA cB ⟨rfl,b2⟩ b3;have a0:=(S.trans U).trans b2;have hc:([(AV.slc (some (lC,0)) 64 64 true,wv sec 92),(AV.slc (some (o,0)) 32 32 true,H1)].flatMap Prod.snd)=wv sec 92++H1:=by simp
     rw [hc];refine ⟨_,rfl,⟨bT _ _,by simp [nq]⟩,bt.own b3 (p1.ext a0) (by simp [nq]) fun cC P=>?_⟩;have hP:=P.at;rw [dz (by simp [nq])] at hP;refine ⟨_,At.aD ⟨_,_,hP⟩ (by simp [nq]),?_,Ext.wr (M.trans a0) F2.no P.mut⟩;rw [List.drop_zero,List.take_of_length_le (by simp [nq]),z2,hH]
 ·refine ⟨fun m vs s'=>∃ i:Nat,vs=[.int .i64 (i:Nat)]/\i<=64/\m=64 - i/\Ext s s'/\aM s'/\Am.Own s' qZ ((A3 (fun x=>wm .u8 x 54) K i).map (.int .u8))/\Am.Own s' lC ((A3 (fun x=>wm .u8 x 92) K i).map (.int .u8))/\Am.Own s' W (r0.map (.int .u32))/\Am.Own s' l1 (List.replicate 32 (.int .u8 0)),64,⟨0,rfl,by omega,rfl,a8,y.wf,by simpa [A3] using I.mut y.mut (by simpa using d1),by simpa [A3] using a7,a9,a'⟩,?_⟩;rintro m c0 b4 ⟨i,hi,h6,rfl,a1,a2,z,B,p6,p1⟩;simp only [List.cons.injEq,AV.int.injEq,true_and,and_true] at hi;subst hi;refine af.dec (fun c1=>?_) (fun c2=>?_)
  ·have hr:av b4 qZ (0+((i:Nat):Int).toNat*1)=some (.int .u8 (K.getD i 0)):=by rw [<- OQ (fun x=>wm .u8 x 54) (by omega)];exact z.at.Pu (by rw [A4];omega) (by simp)
   refine ⟨_,_,Wr (by omega),_,hr,_,rfl,_,_,Wr (by omega),bt.int a2 z (i:=i) (by rw [A4];omega) (by simp) fun b5 b6 b7 D=>?_⟩;have H:=B.mut D (by simpa using Ne.symm d1);have b8:av b5 lC (0+((i:Nat):Int).toNat*1)=some (.int .u8 (K.getD i 0)):=by rw [<- OQ (fun x=>wm .u8 x 92) (by omega)];exact H.at.Pu (by rw [A4];omega) (by simp)
   refine ⟨_,_,Wr (by omega),_,b8,_,rfl,_,_,Wr (by omega),bt.int b7 H (i:=i) (by rw [A4];omega) (by simp) fun c3 b9 b' G=>⟨64 - (i+1),by omega,i+1,by rw [Cj (by omega)],by omega,rfl,Ext.wr (Ext.wr a1 ab D) ad G,b',?_,?_,(p6.mut D (by simpa using d6)).mut G (by simpa using d7),(p1.mut D (by simpa using d8)).mut G (by simpa using d9)⟩⟩
   ·rw [<- LP (fun x=>wm .u8 x 54) (by omega)];exact b6.mut G (by simpa using d1)
   ·rw [<- LP (fun x=>wm .u8 x 92) (by omega)];exact b9
  ·obtain rfl:i=K.length:=by omega
   rw [R_] at z B;refine ⟨a1,a2,?_,?_,p6,p1⟩
   ·rw [wv,hK];exact z
   ·rw [wv,hK];exact B
theorem xor_self (n:Int):wm .u8 n n=0:=by
 unfold wm;rw [BitVec.xor_self];rfl
theorem NP {H:List Int} (x:H.length=32) (s:AS):aa Tryz.prog wB [.agg (H.map (.int .u8)),.agg (H.map (.int .u8))] s fun r s'=>r=.bool true/\Ext s s':=by
 refine aa.pre fun d=>K3 _ _ _ _ ⟨bT _ _,aj.intro d rfl fun l1 s2 b=>⟨bT _ _,aj.intro b.wf rfl fun l3 s4 c=>?_⟩⟩;have e:=b.ext.trans c.ext;refine ⟨fun vs s'=>vs=[.int .u8 0]/\s'=s4,?_,fun m vs s'=>∃ i:Nat,vs=[.int .u8 0,.int .i64 (i:Nat)]/\i<=32/\m=32 - i/\s'=s4,32,⟨0,rfl,by omega,rfl,rfl⟩,?_⟩
 ·rintro n s7 ⟨h,rfl⟩;simp only [List.cons.injEq,AV.int.injEq,true_and,and_true] at h;subst h;exact ⟨rfl,e⟩
 ·rintro m j k bP ⟨i,hi,y,rfl,rfl⟩;simp only [List.cons.injEq,AV.int.injEq,true_and,and_true] at hi;obtain ⟨rfl,rfl⟩:=hi;refine af.dec (fun l=>?_) (fun o=>⟨rfl,rfl⟩);have p:av bP l1 (0+((i:Nat):Int).toNat*1)=some (.int .u8 (H.getD i 0)):=(b.own.ext c.ext).at.Pu (by omega) (by simp);have h3:av bP l3 (0+((i:Nat):Int).toNat*1)=some (.int .u8 (H.getD i 0)):=c.own.at.Pu (by omega) (by simp);have w:bA .xor .u8 (H.getD i 0) (H.getD i 0)=some (.int .u8 0):=congrArg (fun n=>some (AV.int .u8 n)) (xor_self _);refine ⟨_,_,WM (by omega),_,p,_,_,WM (by omega),_,h3,_,w,0,rfl,32 - (i+1),by omega,i+1,by rw [Cj (by omega)],by omega,rfl,rfl⟩
end Go.Proofs.YtohgmogbabkkeaaGreat
end

section
namespace Go.Proofs.YtohgmogbabkkeaaGreat
open Go.Am Go.au Go.aC
theorem HG {α:Type} {f:α->List Int} {n:Nat} (h:∀ x,(f x).length=n):∀ l:List α,(l.flatMap f).length=l.length*n
 | []=>by simp
 | a::l=>by rw [List.flatMap_cons,List.length_append,h,HG h l,List.length_cons,Nat.add_mul];omega
theorem NQ {s:AS} (b:aM s) (t:List UInt8) {K:AV->AS->Prop} (d:∀ v s',gA s' v (LH t)->Ext s s'->aM s'->K v s'):iD (cO T cE aq (.str t) s) K:=by
 have Fr:=b.new (o:=.cells (t.map fun c=>.int .u8 c.toNat) 1 false) rfl;refine ⟨.slc (some (s.nl,0)) t.length t.length false,s.new (.cells (t.map fun c=>.int .u8 c.toNat) 1 false),by simp [cO,qI,aL,z4],d _ _ ?_ Fr.ext Fr.wf⟩;have:=cq.mk (s:=s.new (.cells (t.map fun c=>.int .u8 c.toNat) 1 false)) (la:=s.nl) (o:=0) (n:=t.length) (c:=t.length) (e:=false) (sz:=1) (cs:=(LH t).flatMap qg) ⟨_,_,Fr.at⟩ (by rw [sG,wT]) (by rw [PY,List.drop_zero];exact List.take_of_length_le (by simp)) (Nat.le_refl _);show cq _ _ _ _ (LH t).length;rw [wT];exact this
section
variable {F:List Nat} {s:AS} {p:Nat} {x:aH} {B:Nat}
end
end Go.Proofs.YtohgmogbabkkeaaGreat
end

section
namespace Go.Proofs.YtohgmogbabkkeaaGreat
open Go.Am Go.au Go.aC
theorem zf {n:Int} (h:0<=n) {b:Nat} (hs:b<=64):uW n b=n / 2 ^ b % 256:=by
 unfold uW;rw [IntKind.wrap_u8,Nat.min_eq_left (show b<=IntKind.bits .u64 from hs),Int.fdiv_eq_ediv_of_nonneg _ (Int.le_of_lt (Int.pow_pos (by decide)))]
theorem Qa (n:Int) (b:Nat):0<=uW n b/\uW n b<256:=by unfold uW;rw [IntKind.wrap_u8];omega
theorem JB (n:Int) {k i:Nat} (h:i<k):(xJ n k)[i]? = some (uW n (8*(k - 1 - i))):=by
 simp [xJ,h]
theorem Vi (n:Int) (k:Nat):∀ b∈xJ n k,0<=b/\b<256:=by
 intro b hb;obtain ⟨i,_,rfl⟩:=List.mem_map.1 hb;exact Qa _ _
end Go.Proofs.YtohgmogbabkkeaaGreat
end

section
set_option maxRecDepth 100000
set_option maxHeartbeats 4000000
namespace Go.Proofs.YtohgmogbabkkeaaGreat
open Go.Am
def LR (a0:AV) (s:AS) (R:AV->AS->Prop):Prop :=
 aa Tryz.prog aT [a0] s fun c s2=>oS (aS T gq [(0,c),(1,.bool true),(2,.bool true)]) fun b=>cH b (aj (.cells b 0 false) s2 fun d e=>R (.ptr (some (d,0))) e)
def LS:QA:=(.seq .leaf (.seq .leaf .leaf))
theorem LU (a0:AV) (s:AS) (R:AV->AS->Prop) (h:LR a0 s R):aa Tryz.prog rG [a0] s R :=
 aa.q (n:=7) (rs:=[.tmp 2]) (A:=LS) hT bW Tryz.func88 (by kernel_rfl) rfl rfl rfl (by kernel_rfl) (by kernel_rfl) h
def wX (a0:Option (Nat×Nat)) (s:AS) (R:AV->AS->Prop):Prop :=
 aj (.cells [.int .u64 0,.int .u64 0,.int .u64 0,.int .u64 0,.int .u64 0,.int .u64 0,.int .u64 0,.int .u64 0,.int .u64 0,.int .u64 0,.int .u64 0,.int .u64 0,.int .u64 0,.int .u64 0,.int .u64 0,.int .u64 0] 0 false) s fun l1 s2=>aa Tryz.prog h_ [.ptr a0,.int .i64 128] s2 fun w s4=>∃ p:AV,∃ x:Bool,w=.aP [p,.bool x]/\(aa Tryz.prog rG [p] s4 fun y s8=>∃ r:Option (Nat×Nat),y=.ptr r/\(aj (.cells [.ptr none] 0 false) s8 fun mL j=>bt (cK j mL 0 [.ptr r]) fun dI=>bB fun c k=>c k [.int .i64 0] dI /\
 ∀ d:Nat,∀ b:Int,∀ lK:AS,c d [.int .i64 b] lK ->
 af (decide ((b:Int)<16))
 (aa Tryz.prog ic [(.ptr (some (mL,0)))] lK fun l gz=>∃ e:Int,l=.int .u64 e/\(bG (ag T aY (.ptr (some (l1,0))) (.int .i64 b)) fun m n=>bt (cK gz m n [.int .u64 e]) fun tW=>∃ m',m'<d/\c m' [(.int .i64 (IntKind.wrap .i64 (b+1)))] tW))
 (aR (aD lK l1 0 16) fun i=>fh (some 16) i (bt (cK lK l1 0 i) fun dW=>aR (aD dW l1 0 16) fun o=>R (.agg o) dW))))
def wY:QA:=(.seq .leaf (.seq .leaf (.seq .leaf (.seq .leaf (.seq (.seq .leaf (.wrap (.loop [(16,.int .i64)] [(7,7),(16,23)] (.seq .leaf (.seq (.cond .leaf .leaf) (.seq (.wrap (.seq .leaf .leaf)) .leaf)))))) (.seq .leaf .leaf))))))
theorem wZ (a0:Option (Nat×Nat)) (s:AS) (R:AV->AS->Prop) (h:wX a0 s R):aa Tryz.prog jl [.ptr a0] s R :=
 aa.q (n:=25) (rs:=[.cell 2 49]) (A:=wY) hT bW Tryz.func89 (by kernel_rfl) rfl rfl rfl (by kernel_rfl) (by kernel_rfl) h
def w_ (a0:Option (Nat×Nat)) (a1:Int) (s:AS) (R:AV->AS->Prop):Prop :=
 bz fun c =>
 (∀ n2:Int,∀ s3:AS,c [.int .i64 n2] s3 ->
 aa Tryz.prog h_ [.ptr a0,.int .i64 n2] s3 fun i j=>∃ e:AV,∃ k:Bool,i=.aP [e,.bool k]/\(aa Tryz.prog yR [e] j fun l m=>∃ b:Int,∃ d:Int,l=.aP [.int .u64 b,.int .i64 d]/\(R (.int .u64 b) m))) /\
 (af (decide ((a1:Int)<1)) (c [(.int .i64 (-1))] s) (af (decide ((a1:Int)>8))
 (c [(.int .i64 (-1))] s)
 (c [.int .i64 a1] s)))
def xe:QA:=(.seq .leaf (.join [(1,.int .i64)] [(1,1),(9,14)] (.seq .leaf (.cond .leaf .leaf)) (.seq .leaf (.seq .leaf (.seq .leaf .leaf)))))
theorem xg (a0:Option (Nat×Nat)) (a1:Int) (s:AS) (R:AV->AS->Prop) (h:w_ a0 a1 s R):aa Tryz.prog jr [.ptr a0,.int .i64 a1] s R :=
 aa.q (n:=27) (rs:=[.tmp 4]) (A:=xe) hT bW Tryz.func165 (by kernel_rfl) rfl rfl rfl (by kernel_rfl) (by kernel_rfl) h
def xh (a0:Option (Nat×Nat)) (s:AS) (R:AV->AS->Prop):Prop :=
 sJ (iB T 100 vi (.ptr a0) (.ptr none)) fun b=>af b (R (.bool true) s) (ah a0 fun c d=>On (av s c (d+1)) fun e=>R (.bool (!e)) s)
def xj:QA:=(.seq .leaf (.seq .leaf .leaf))
theorem xl (a0:Option (Nat×Nat)) (s:AS) (R:AV->AS->Prop) (h:xh a0 s R):aa Tryz.prog jt [.ptr a0] s R :=
 aa.q (n:=12) (rs:=[.tmp 2]) (A:=xj) hT bW Tryz.func217 (by kernel_rfl) rfl rfl rfl (by kernel_rfl) (by kernel_rfl) h
def zg (a0:Option (Nat×Nat)) (a1:Int) (s:AS) (R:AV->AS->Prop):Prop :=
 aa Tryz.prog jt [.ptr a0] s fun B s2=>∃ y:Bool,B=.bool y/\(af y
 (R (.aP [.slc none 0 0 true,.bool false]) s2)
 (bz fun b =>
 (∀ z:Bool,∀ s6:AS,b [.bool z] s6 ->
 af z
 (oS (aS T gq [(2,.bool true)]) fun A=>ah a0 fun C D=>fh (some 3) A (bt (cK s6 C D A) fun c=>R (.aP [.slc none 0 0 true,.bool false]) c))
 (ah a0 fun d e=>dS (av s6 d e) fun i=>dS (aZ T aq i none (some (.int .i64 a1)) (some (.int .i64 a1))) fun j=>ah a0 fun k l=>dS (av s6 k l) fun m=>dS (aZ T aq m (some (.int .i64 a1)) none none) fun n=>ah a0 fun zF o=>fu T aq s6 zF o n fun fL=>R (.aP [j,.bool true]) fL)) /\
 (af (decide ((a1:Int)<0)) (b [.bool true] s2) (ah a0 fun p r=>dS (av s2 p r) fun w=>aV .i64 (aQ T aq w s2) fun x=>b [(.bool (decide ((a1:Int)>x)))] s2))))
def zh:QA:=(.seq .leaf (.seq (.wrap (.seq .leaf (.cond (.seq .leaf .leaf) (.join [(10,.bool)] [(10,21)] .leaf (.cond (.seq .leaf (.seq .leaf .leaf)) .leaf))))) (.seq .leaf (.seq .leaf (.seq .leaf .leaf)))))
theorem zi (a0:Option (Nat×Nat)) (a1:Int) (s:AS) (R:AV->AS->Prop) (h:zg a0 a1 s R):aa Tryz.prog h_ [.ptr a0,.int .i64 a1] s R :=
 aa.q (n:=42) (rs:=[.tmp 4,.tmp 5]) (A:=zh) hT bW Tryz.func163 (by kernel_rfl) rfl rfl rfl (by kernel_rfl) (by kernel_rfl) h
def uX (c0:Option (Nat×Nat)) (s:AS) (R:AV->AS->Prop):Prop :=
 ah c0 fun l1 o2=>ng (av s l1 o2) fun c=>aa Tryz.prog jr [.ptr c,.int .i64 8] s fun d e=>∃ b:Int,d=.int .u64 b/\(R (.int .u64 b) e)
def uY:QA:=(.seq .leaf (.seq .leaf .leaf))
theorem uZ (c0:Option (Nat×Nat)) (s:AS) (R:AV->AS->Prop) (h:uX c0 s R):aa Tryz.prog ic [.ptr c0] s R :=
 aa.q (n:=4) (rs:=[.tmp 1]) (A:=uY) hT bW Tryz.func164 (by kernel_rfl) rfl rfl rfl (by kernel_rfl) (by kernel_rfl) h
def NR (a0:AV) (s:AS) (R:AV->AS->Prop):Prop :=
 bz fun e =>
 (∀ o:Bool,∀ s3:AS,e [.bool o] s3 ->
 af o
 (R (.aP [.int .u64 0,.int .i64 2]) s3)
 (bz fun p =>
 (∀ r:Int,∀ s6:AS,p [.int .u64 r] s6 ->
 R (.aP [.int .u64 r,.int .i64 0]) s6) /\
 (aV .i64 (aQ T aq a0 s3) fun w=>bB fun i x=>i x [.int .u64 0,.int .i64 0] s3 /\
 ∀ d:Nat,∀ c:Int,∀ b:Int,∀ bP:AS,i d [.int .u64 c,.int .i64 b] bP ->
 af (decide ((b:Int)<w))
 (bG (ag T aq a0 (.int .i64 b)) fun lC j=>aV .u8 (av bP lC j) fun k=>NN 8 (aV .u64 (bA .or .u64 (IntKind.wrap .u64 (c*2 ^ min (Int.toNat 8) (IntKind.bits .u64))) (IntKind.wrap .u64 k)) fun l=>∃ m',m'<d/\i m' [.int .u64 l,(.int .i64 (IntKind.wrap .i64 (b+1)))] bP))
 (p [.int .u64 c] bP)))) /\
 (aV .i64 (aQ T aq a0 s) fun m=>af (decide ((m:Int)<1)) (e [.bool true] s) (aV .i64 (aQ T aq a0 s) fun n=>e [(.bool (decide ((n:Int)>8)))] s))
def NS:QA:=(.seq .leaf (.seq (.join [(14,.bool)] [(7,14)] .leaf (.cond (.seq .leaf .leaf) .leaf)) (.seq .leaf (.join [(4,.int .u64)] [(4,4),(6,6),(15,26)] (.seq .leaf (.wrap (.loop [(4,.int .u64),(17,.int .i64)] [(4,4),(6,6),(17,26)] (.seq .leaf (.seq (.cond .leaf .leaf) (.seq (.wrap (.seq .leaf .leaf)) .leaf)))))) (.seq .leaf .leaf)))))
theorem NT (a0:AV) (s:AS) (R:AV->AS->Prop) (h:NR a0 s R):aa Tryz.prog yR [a0] s R :=
 aa.q (n:=28) (rs:=[.tmp 2,.tmp 3]) (A:=NS) hT bW Tryz.func218 (by kernel_rfl) rfl rfl rfl (by kernel_rfl) (by kernel_rfl) h
end Go.Proofs.YtohgmogbabkkeaaGreat
end

section
namespace Go.Proofs.YtohgmogbabkkeaaGreat
open Go.Am Go.au Go.aC
/-! ### numbers of bytes -/
def JM (l:List Int):Prop:=∀ x∈l,0<=x/\x<256
theorem JM.take {l:List Int} (h:JM l) (n:Nat):JM (l.take n):=fun x b=>h x (List.mem_of_mem_take b)
theorem JM.drop {l:List Int} (h:JM l) (n:Nat):JM (l.drop n):=fun x b=>h x (List.mem_of_mem_drop b)
theorem JM.nil:JM []:=by simp [JM]
def Cl (l:List Int):Int:=l.foldl (fun n x=>n*256+x) 0
theorem Cm (l:List Int) (x:Int):Cl (l++[x])=Cl l*256+x:=by simp [Cl]
theorem TZ:∀ (l:List Int) (n:Nat),JM l->l.length<=n->0<=Cl l/\Cl l<256 ^ n:=by
 intro l
 induction b:l.length generalizing l with
 | zero =>
  intro n _ _;obtain rfl:=List.length_eq_zero_iff.1 b;exact ⟨by simp [Cl],by simp only [Cl,List.foldl_nil];exact Int.pow_pos (by decide)⟩
 | succ k c =>
  intro n h j;obtain ⟨m,x,rfl⟩:∃ m x,l=m++[x]:=⟨l.dropLast,l.getLast (by intro e;subst e;simp at b),(List.dropLast_concat_getLast _).symm⟩;have d:m.length=k:=by simpa using b
  obtain ⟨n',rfl⟩:∃ n',n=n'+1:=⟨n - 1,by omega⟩;have:=c m d n' (fun y i=>h y (by simp [i])) (by omega);have o:=h x (by simp);rw [Cm,Int.pow_succ];exact ⟨by omega,by omega⟩
theorem T0 {a x:Int} (b:0<=a/\a<256 ^ 7) (c:0<=x/\x<256):bA .or .u64 (IntKind.wrap .u64 (a*2 ^ min (Int.toNat 8) (IntKind.bits .u64))) (IntKind.wrap .u64 x)=some (.int .u64 (a*256+x)):=by
 have e1:(2:Int) ^ min (Int.toNat 8) (IntKind.bits .u64)=256:=by decide
 have d:(256:Int) ^ 7=72057594037927936:=by decide
 rw [d] at b;rw [e1,gw (by omega),gw (by omega)];obtain ⟨A,rfl⟩:=Int.eq_ofNat_of_zero_le b.1;obtain ⟨X,rfl⟩:=Int.eq_ofNat_of_zero_le c.1;have e:(BitVec.ofInt (IntKind.bits .u64) ((A:Int)*256)).toNat=2 ^ 8*A:=by
  rw [BitVec.toNat_ofInt];have:((2 ^ (IntKind.bits .u64):Nat):Int)=18446744073709551616:=by decide
  rw [this];omega
 have h2:(BitVec.ofInt (IntKind.bits .u64) (X:Int)).toNat=X:=by
  rw [BitVec.toNat_ofInt];have:((2 ^ (IntKind.bits .u64):Nat):Int)=18446744073709551616:=by decide
  rw [this];omega
 simp only [bA,BitVec.toNat_or,e,h2];rw [<- Nat.two_pow_add_eq_or_of_lt (show X<2 ^ 8 by omega),gw (by omega)];congr 2;omega
def Qb (l:List Int):Int:=if 1<=l.length/\l.length<=8 then Cl l else 0
theorem Vj {s:AS} {v:AV} {l:List Int} (h:gA s v l) (hb:JM l):aa Tryz.prog yR [v] s fun r s'=>s'=s/\∃ c,r=.aP [.int .u64 (Qb l),.int .i64 c]:=by
 refine NT _ _ _ ⟨fun vs s'=>s'=s/\vs=[.bool (decide (¬ (1<=l.length/\l.length<=8)))],?_,_,h.cI aL _,af.dec (fun w=>⟨rfl,?_⟩) (fun w=>⟨_,h.cI aL _,rfl,?_⟩)⟩;rotate_left
 ·rw [decide_eq_true (by omega)]
 ·congr 2;apply decide_eq_decide.2;omega
 rintro b s3 ⟨rfl,j⟩;obtain rfl:b=decide (¬ (1<=l.length/\l.length<=8)):=AV.bool.inj (List.cons.inj j).1;refine af.dec (fun d=>⟨rfl,2,?_⟩) (fun d=>?_)
 ·rw [show Qb l=0 from if_neg d]
 have d:1<=l.length/\l.length<=8:=Classical.not_not.1 d;refine ⟨fun vs s'=>s'=s3/\vs=[.int .u64 (Cl l)],?_,_,h.cI aL _,fun m vs s'=>∃ i:Nat,vs=[.int .u64 (Cl (l.take i)),.int .i64 (i:Nat)]/\i<=l.length/\m=l.length - i/\s'=s3,l.length,⟨0,rfl,by omega,rfl,rfl⟩,?_⟩
 ·rintro n s6 ⟨rfl,k⟩;obtain rfl:n=Cl l:=by simpa using k
  exact ⟨rfl,0,by rw [show Qb l=Cl l from if_pos d]⟩
 rintro m y z bP ⟨i,e,hi,rfl,rfl⟩;simp only [List.cons.injEq,AV.int.injEq,true_and,and_true] at e;obtain ⟨rfl,rfl⟩:=e;refine af.dec (fun A=>?_) (fun B=>?_)
 ·obtain ⟨x,p⟩:=de (l:=l) (i:=i) (by omega);obtain ⟨la,o,C,D⟩:=h.ix (by decide) bU aL ey p;have step:=List.take_add_one (l:=l) (i:=i);rw [p,Option.toList_some] at step;have k:=TZ (l.take i) 7 (hb.take i) (by rw [List.length_take];omega);refine ⟨la,o,C _,x,(D _ (Ext.refl _)).1 0 (by decide),by omega,_,T0 k (hb x (List.mem_of_getElem? p)),l.length - (i+1),by omega,i+1,?_,by omega,rfl,rfl⟩;rw [step,Cm,aW (by omega)];rfl
 ·rw [List.take_of_length_le (by omega)];exact ⟨rfl,rfl⟩
/-! ### readers,plainly: what is left;none: it has failed -/
abbrev RO:=Option (List Int)
def RO.fit (o:RO) (n:Int):Bool:=match o with
 | some B=>decide (0<=n/\n<=B.length)
 | none=>false
def RO.take (o:RO) (n:Int):List Int:=if o.fit n then (o.getD []).take n.toNat else []
def RO.left (o:RO) (n:Int):RO:=if o.fit n then o.map fun B=>B.drop n.toNat else none
def RO.LV (o:RO) (k:Int):Int:=Qb (o.take k)
def yd (B:RO):Nat->List Int
 | 0=>[]
 | n+1=>RO.LV B 8::yd (B.left 8) n
def RO.T1 (o:RO):List Int:=yd (some (o.take 128)) 16
def RO.In (o:RO):Prop:=∀ B,o=some B->JM B
theorem RO.In.getD {o:RO} (h:o.In):JM (o.getD []):=by
 cases o with
 | none=>exact JM.nil
 | some B=>exact h B rfl
theorem RO.In.take {o:RO} (h:o.In) (n:Int):JM (o.take n):=by
 unfold RO.take;split
 ·exact h.getD.take _
 ·exact JM.nil
theorem RO.In.left {o:RO} (h:o.In) (n:Int):(o.left n).In:=by
 intro B b;unfold RO.left at b;split at b
 ·cases o with
  | none=>cases b
  | some A=>obtain rfl:=Option.some.inj b;exact (h A rfl).drop _
 ·cases b
/-! ### a reader in memory -/
structure i_ (s:AS) (p:Nat) (o:RO):Prop where
 Xa:o.In
 mem:∃ v,Am.Own s p [v,.bool o.isSome,.bool true]/\gA s v (o.getD [])
def Qc (s:AS) (q:Nat):Prop:=∀ (C:List AV),At s q C->∀ (k:Nat) (x:Int),C[k]? ≠ some (AV.int .u8 x)
theorem Qc.own {s:AS} {q:Nat} {C:List AV} (h:At s q C) (c:∀ v∈C,∀ x,v≠AV.int .u8 x):Qc s q:=by
 intro e d k x b;rw [d.inj h] at b;exact c _ (List.mem_of_getElem? b) x rfl
theorem cq.Xi {s:AS} {v:AV} {n sz:Nat} {cs:List AV} (h:cq s v sz cs n) (x:Int):v≠AV.int .u8 x:=by
 rcases h with ⟨rfl,_⟩ | ⟨a,c,e,rfl,_⟩ <;> exact fun h=>by cases h
theorem gA.Vk {s s':AS} {v:AV} {l:List Int} {L:List Nat} (h:gA s v l) (m:bD L s s') (b:∀ q∈L,Qc s q):gA s' v l :=
 Sl.mut h m bU (by decide) fun q d C e x _ k c i j=>b q d C e k x (by rw [j,<- i];rfl)
section
variable {s s':AS} {p:Nat} {o:RO}
theorem i_.Xb (h:i_ s p o):Qc s p:=by
 obtain ⟨_,v,c,h2⟩:=h;refine Qc.own c.at fun w b x=>?_;simp only [List.mem_cons,List.not_mem_nil,or_false] at b;rcases b with rfl | rfl | rfl
 ·exact cq.Xi h2 x
 ·exact fun h=>by cases h
 ·exact fun h=>by cases h
theorem i_.there (h:i_ s p o):s.h p≠none:=by
 obtain ⟨_,v,b,_⟩:=h;rw [b];simp
theorem i_.mut {L:List Nat} (h:i_ s p o) (m:bD L s s') (b:p ∉ L) (c:∀ q∈L,Qc s q):i_ s' p o:=by
 obtain ⟨d,v,e,h2⟩:=h;exact ⟨d,v,e.mut m b,h2.Vk m c⟩
theorem i_.ext (h:i_ s p o) (e:Ext s s'):i_ s' p o:=h.mut (L:=[]) e.mut (by simp) (by simp)
theorem Qd (h:i_ s p o):aa Tryz.prog jt [.ptr (some (p,0))] s fun r s'=>r=.bool (!o.isSome)/\s'=s:=by
 obtain ⟨_,v,b,_⟩:=h;exact xl _ _ _ ⟨_,dn C6 _,af.no rfl ⟨o.isSome,by rw [b.at.av];rfl,rfl,rfl⟩⟩
theorem Vl:places T gq=some [(0,1),(1,1),(2,1)]:=by kernel_rfl
theorem Sb:aS T gq [(2,.bool true)]=some (.agg [.slc none 0 0 true,.bool false,.bool true]):=by kernel_rfl
theorem Qe {w:AV} (b:w.one=true):aS T gq [(0,w),(1,.bool true),(2,.bool true)]=some (.agg [w,.bool true,.bool true]):=by
 rw [qp Vl EX rfl];have d:=nj (pl:=fun i=>[(0,1),(1,1),(2,1)][i]?) (pre:=[]) (mid:=[.slc none 0 0 true]) (post:=[.bool false,.bool false]) (c:=[w]) (i:=0) (sz:=1) (v:=w) (rest:=[(1,.bool true),(2,.bool true)]) rfl (Lk b) rfl rfl;have e1:=nj (pl:=fun i=>[(0,1),(1,1),(2,1)][i]?) (pre:=[w]) (mid:=[.bool false]) (post:=[.bool false]) (c:=[.bool true]) (i:=1) (sz:=1) (v:=.bool true) (rest:=[(2,.bool true)]) rfl rfl rfl rfl;have e2:=nj (pl:=fun i=>[(0,1),(1,1),(2,1)][i]?) (pre:=[w,.bool true]) (mid:=[.bool false]) (post:=[]) (c:=[.bool true]) (i:=2) (sz:=1) (v:=.bool true) (rest:=[]) rfl rfl rfl rfl;exact congrArg (Option.map AV.agg) (d.trans (e1.trans e2))
theorem OS (h:i_ s p o) (n:Int):aa Tryz.prog h_ [.ptr (some (p,0)),.int .i64 n] s fun r s'=>bD [p] s s'/\i_ s' p (o.left n)/\∃ v,r=.aP [v,.bool (o.fit n)]/\gA s' v (o.take n):=by
 refine aa.pre fun F=>zi _ _ _ _ ?_;refine aa.use (Qd h) ?_;rintro G s2 ⟨rfl,rfl⟩ w2;obtain ⟨e,v,d,h2⟩:=id h;cases o with
 | none=>exact ⟨_,rfl,af.yes rfl ⟨bD.refl _ _,h,_,rfl,Sl.nil⟩⟩
 | some B =>
  simp only [Option.isSome_some,Option.getD_some] at d h2;refine ⟨_,rfl,af.no rfl ⟨fun vs s'=>s'=s2/\vs=[.bool (!RO.fit (some B) n)],?_,?_⟩⟩;rotate_left
  ·refine af.dec (fun w=>⟨rfl,?_⟩) (fun w=>⟨v,by rw [d.at.av];rfl,_,h2.cI aL _,rfl,?_⟩)
   ·rw [show RO.fit (some B) n=false from decide_eq_false (by omega)];rfl
   ·congr 2;unfold RO.fit;rw [<- decide_not,decide_eq_decide];omega
  rintro b s6 ⟨rfl,hb⟩;obtain rfl:b=!RO.fit (some B) n:=AV.bool.inj (List.cons.inj hb).1;refine af.mk (fun c=>?_) (fun c=>?_)
  ·have c:RO.fit (some B) n=false:=by simpa using c
   refine ⟨_,Sb,⟨rfl,rfl⟩,bt.own w2 d (by simp) fun C P=>⟨P.mut,⟨e.left n,.slc none 0 0 true,?_,?_⟩,_,by rw [c],?_⟩⟩
   ·simp only [RO.left,c,Bool.false_eq_true,if_false];exact P.at
   ·simp only [RO.left,c,Bool.false_eq_true,if_false];exact Sl.nil
   ·simp only [RO.take,c,Bool.false_eq_true,if_false];exact Sl.nil
  ·have c:RO.fit (some B) n=true:=by simpa using c
   have w:0<=n/\n<=B.length:=by simpa [RO.fit] using c
   obtain ⟨k,rfl⟩:=Int.eq_ofNat_of_zero_le w.1;obtain ⟨j,x,y⟩:=Sl.head bU aL ey h2 (i:=k) (by omega) .i64;obtain ⟨l,z,m⟩:=Sl.rest bU aL ey h2 (i:=k) (by omega) .i64;refine ⟨v,by rw [d.at.av];rfl,j,x,v,by rw [d.at.av];rfl,l,z,?_⟩;refine cM (cq.one m) qq (bt.own w2 d (by simp) fun fL P=>?_);have A:∀ q∈[p],Qc s6 q:=by
    intro q D;obtain rfl:=List.mem_singleton.1 D;exact h.Xb
   refine ⟨P.mut,⟨e.left _,l,?_,?_⟩,j,by rw [c],?_⟩
   ·simp only [RO.left,c,if_true];exact P.at
   ·simp only [RO.left,c,if_true,Option.map_some,Option.getD_some,Int.toNat_natCast];exact gA.Vk m P.mut A
   ·simp only [RO.take,c,if_true,Option.getD_some,Int.toNat_natCast];exact gA.Vk y P.mut A
theorem Qf (h:i_ s p o) {k:Int} (j:1<=k/\k<=8):aa Tryz.prog jr [.ptr (some (p,0)),.int .i64 k] s fun r s'=>r=.int .u64 (o.LV k)/\bD [p] s s'/\i_ s' p (o.left k):=by
 refine xg _ _ _ _ ⟨fun vs s'=>s'=s/\vs=[.int .i64 k],?_,af.dec (fun h=>absurd h (by omega)) (fun _=>af.dec (fun h=>absurd h (by omega)) (fun _=>⟨rfl,rfl⟩))⟩;rintro n s3 ⟨rfl,b⟩;obtain rfl:n=k:=by simpa using b
 refine aa.use (OS h n) ?_;rintro l m ⟨d,e,w,rfl,i⟩ x;refine ⟨_,_,rfl,?_⟩;refine aa.use (Vj i (h.Xa.take n)) ?_;rintro y z ⟨rfl,c,rfl⟩ A;exact ⟨_,_,rfl,rfl,d,e⟩
end
theorem Cn {s:AS} {v:AV} {l:List Int} (b:gA s v l) (i:l.length<=2 ^ 30):aa Tryz.prog aT [v] s fun r s'=>ze s s' r l:=by
 refine aa.pre fun j=>qd _ _ _ ?_;have main:aR (cV T aq 0 []) fun k=>aj (.cells k 0 false) s fun l3 s4=>iD (aI T aq aq (.slc (some (l3,0)) 0 0 true) v s4) fun m s6=>ze s s6 m l:=by
  refine ⟨_,zW gx,aj.intro j rfl fun l3 s4 F=>?_⟩;refine aU.kK gx bU Jy F.wf (aU.start (M:=[]) F.ext.mut) (by simp) (b.ext F.ext) (by simpa using i) aL fun v' s' g _ _=>?_;simpa using g
 rcases b with ⟨rfl,_,d⟩ | ⟨a,c,e,rfl,hlen,h3⟩
 ·refine ⟨_,rF aL _ _ _ _,af.no rfl main⟩
 ·refine ⟨_,rE aL _ _ _ _ _ _ _ _,af.mk (fun h=>?_) (fun _=>main)⟩;have:a=none:=by simpa using h
  subst this;have:l=[]:=by
   rcases h3 with h3 | ⟨la,o,C,h,_⟩
   ·exact List.length_eq_zero_iff.1 h3
   ·cases h
  subst this;exact aU.nil
theorem OT {s:AS} {v:AV} {l:List Int} (d:gA s v l) (hb:JM l) (e:l.length<=2 ^ 30):aa Tryz.prog rG [v] s fun r s'=>∃ p,r=.ptr (some (p,0))/\s.h p=none/\i_ s' p (some l)/\Ext s s':=by
 refine LU _ _ _ ?_;refine aa.use (Cn d e) ?_;rintro i s2 g w2;have c:=g.iX.2;refine ⟨_,Qe c,?_,aj.intro w2 rfl fun j m b=>⟨j,rfl,g.eL.ext.none b.no,⟨?_,i,b.own,(g.sl bU).ext b.ext⟩,g.eL.ext.trans b.ext⟩⟩
 ·simp [c]
 ·intro B k;obtain rfl:=Option.some.inj k;exact hb
section
variable {s:AS} {p:Nat} {o:RO}
theorem Vm {n:Nat}:(o.take n).length<=n:=by
 unfold RO.take;split
 ·rw [List.length_take];omega
 ·simp
end
end Go.Proofs.YtohgmogbabkkeaaGreat
end

section
namespace Go.Proofs.YtohgmogbabkkeaaGreat
open Go.Am Go.au Go.aC
def A7:RO->Nat->RO
 | B,0=>B
 | B,n+1=>A7 (B.left 8) n
theorem FL:∀ (n:Nat) (B:RO),A7 B (n+1)=(A7 B n).left 8
 | 0,B=>rfl
 | n+1,B=>by rw [A7,FL n,A7]
theorem HH:∀ (n:Nat) (B:RO),yd B (n+1)=yd B n++[(A7 B n).LV 8]
 | 0,B=>rfl
 | n+1,B=>by rw [yd,HH n,yd,A7];rfl
theorem A8:∀ (n:Nat) (B:RO),(yd B n).length=n
 | 0,_=>rfl
 | n+1,B=>by rw [yd,List.length_cons,A8 n]
theorem T2 (l:List Int) (m:Nat) (x:Int):qk ((l++List.replicate (m+1) 0).map (AV.int .u64)) l.length [.int .u64 x]=((l++[x])++List.replicate m 0).map (AV.int .u64):=by
 rw [fy];simp [List.replicate_succ,List.set_append]
section
variable {s:AS} {p:Nat} {o:RO}
theorem NU {c q:Nat} (b:At s c [.ptr (some (q,0))]) (h:i_ s q o):aa Tryz.prog ic [.ptr (some (c,0))] s fun r s'=>r=.int .u64 (o.LV 8)/\bD [q] s s'/\i_ s' q (o.left 8):=by
 refine uZ _ _ _ ⟨_,by rw [b.av];rfl,?_⟩;refine aa.use (Qf h (k:=8) (by omega)) ?_;rintro v s' ⟨rfl,d,h2⟩ _;exact ⟨_,rfl,rfl,d,h2⟩
theorem NV (h:i_ s p o):aa Tryz.prog jl [.ptr (some (p,0))] s fun r s'=>r=.agg (o.T1.map (.int .u64))/\bD [p] s s'/\i_ s' p (o.left 128):=by
 refine aa.pre fun j=>wZ _ _ _ (aj.intro j rfl fun l1 s2 z=>?_);refine aa.use (OS (h.ext z.ext) 128) ?_;rintro v3 s4 ⟨m4,r4,v5,rfl,b5⟩ w4;have J:l1≠p:=by rintro rfl;exact h.there z.no
 refine ⟨_,_,rfl,?_⟩;have hlen:(o.take 128).length<=128:=Vm (n:=128);refine aa.use (OT b5 (h.Xa.take 128) (by omega)) ?_;rintro v7 s8 ⟨q,rfl,K,rq,L⟩ w8;refine ⟨_,rfl,aj.intro w8 rfl fun mL ad b=>bt.own b.wf b.own (by simp) fun dI d=>?_⟩;have M:p≠q:=by rintro rfl;exact r4.there K
 have O:Am.Own s4 l1 (dD.map (.int .u64)):=z.own.mut m4 (by simpa using J);have Q:l1≠q:=by rintro rfl;rw [O] at K;cases K
 have A:=O.ext L;have B:mL≠l1:=by
  rintro rfl;have:=b.no;rw [A] at this;cases this
 have F:mL≠q:=by rintro rfl;exact rq.there b.no
 have G:mL≠p:=by rintro rfl;exact (r4.ext L).there b.no
 have R:Qc ad mL:=Qc.own b.own.at (by intro w j x;obtain rfl:=List.mem_singleton.1 j;exact fun h=>by cases h);have ae:Am.Own dI l1 (dD.map (.int .u64)):=(A.ext b.ext).mut d.mut (by simpa using Ne.symm B);have S:i_ dI q (some (o.take 128)):=(rq.ext b.ext).mut d.mut (by simpa using Ne.symm F) (by intro x c;obtain rfl:=List.mem_singleton.1 c;exact R);have U:i_ dI p (o.left 128):=((r4.ext L).ext b.ext).mut d.mut (by simpa using Ne.symm G) (by intro x c;obtain rfl:=List.mem_singleton.1 c;exact R);have al:Am.Own dI mL [.ptr (some (q,0))]:=d.at;have am:s.h q=none:=by
  cases hs:s.h q with
  | none=>rfl
  | some ob =>
   have:=m4.1 q ob (by simpa using Ne.symm M) (z.ext.1 _ _ hs);rw [this] at K;cases K
 have W:s.h mL=none:=by
  cases hs:s.h mL with
  | none=>rfl
  | some ob =>
   have:=L.1 _ _ (m4.1 mL ob (by simpa using G) (z.ext.1 _ _ hs));rw [b.no] at this;cases this
 have an:bD [p] s dI:=(((z.ext.mut.trans m4).trans L.mut).trans b.ext.mut).new d.mut (by intro x c;obtain rfl:=List.mem_singleton.1 c;exact .inr W);refine ⟨fun m vs s'=>∃ i:Nat,vs=[.int .i64 (i:Nat)]/\i<=16/\m=16 - i/\aM s'/\bD [p] s s'/\Am.Own s' l1 ((yd (some (o.take 128)) i++List.replicate (16 - i) 0).map (.int .u64))/\Am.Own s' mL [.ptr (some (q,0))]/\i_ s' q (A7 (some (o.take 128)) i)/\i_ s' p (o.left 128),16,⟨0,rfl,by omega,rfl,d.wf,an,ae,al,S,U⟩,?_⟩;rintro m n lK ⟨i,X,hi,rfl,ao,Y,e,Z,H,I⟩;simp only [List.cons.injEq,AV.int.injEq,true_and,and_true] at X;subst X;refine af.dec (fun a0=>?_) (fun a1=>?_)
 ·refine aa.use (NU Z.at H) ?_;rintro a2 gz ⟨rfl,k,ab⟩ ap;have y:=e.mut k (by simpa using Q);have c:=Qw (l:=l1) (o:=0) (i:=(i:Nat)) (by omega);simp only [Int.toNat_natCast,Nat.mul_one,Nat.zero_add] at c;have ar:16 - i=(16 - (i+1))+1:=by omega
  rw [ar] at y;refine ⟨_,rfl,_,_,c,bt.own ap y (by simp [A8]) fun tW P=>⟨16 - (i+1),by omega,i+1,by rw [aW (by omega)];rfl,by omega,rfl,P.wf,?_,?_,?_,?_,?_⟩⟩
  ·exact (Y.new k (by intro x c;obtain rfl:=List.mem_singleton.1 c;exact .inr am)).new P.mut (by intro x c;obtain rfl:=List.mem_singleton.1 c;exact .inr z.no)
  ·have:=P.at;rw [HH];have hv:=T2 (yd (some (o.take 128)) i) (16 - (i+1)) ((A7 (some (o.take 128)) i).LV 8);rw [A8] at hv;rw [hv] at this;exact this
  ·exact (Z.mut k (by simpa using F)).mut P.mut (by simpa using B)
  ·rw [FL];refine ab.mut P.mut (by simpa using Ne.symm Q) ?_;intro x c;obtain rfl:=List.mem_singleton.1 c;exact Qc.own y.at (by intro w j x;obtain ⟨n,_,rfl⟩:=List.mem_map.1 j;exact fun h=>by cases h)
  ·refine (I.mut k (by simpa using M) (by intro x c;obtain rfl:=List.mem_singleton.1 c;exact H.Xb)).mut P.mut (by simpa using Ne.symm J) ?_;intro x c;obtain rfl:=List.mem_singleton.1 c;exact Qc.own y.at (by intro w j x;obtain ⟨n,_,rfl⟩:=List.mem_map.1 j;exact fun h=>by cases h)
 ·obtain rfl:i=16:=by omega
  simp only [Nat.sub_self,List.replicate_zero,List.append_nil] at e;have hl:((yd (some (o.take 128)) 16).map (AV.int .u64)).length=16:=by simp [A8]
  have h1:=bT .u64 (yd (some (o.take 128)) 16);have aw:Qc lK l1:=Qc.own e.at (by intro w j x;obtain ⟨n,_,rfl⟩:=List.mem_map.1 j;exact fun h=>by cases h);have hR:(yd (some (o.take 128)) 16).map (AV.int .u64)=o.T1.map (.int .u64):=rfl;generalize (yd (some (o.take 128)) 16).map (AV.int .u64)=C at e hl h1 hR;have ht:∀ D:List AV,D.length=16->(D.drop 0).take 16=D:=fun D hD=>by rw [List.drop_zero,List.take_of_length_le (by omega)]
  refine ⟨C,by rw [e.at.aD (by omega),ht C hl],⟨h1,by rw [hl]⟩,bt.own ao e (by omega) fun dW P=>?_⟩;have hP:=P.at;rw [Tn rfl] at hP;refine ⟨C,by rw [At.aD ⟨_,_,hP⟩ (by omega),ht C hl],by rw [hR],?_,?_⟩
  ·exact Y.new P.mut (by intro x c;obtain rfl:=List.mem_singleton.1 c;exact .inr z.no)
  ·refine I.mut P.mut (by simpa using Ne.symm J) ?_;intro x c;obtain rfl:=List.mem_singleton.1 c;exact aw
end
/-! ### what is read of what was written -/
theorem Sc (n:Int) (b:0<=n) (k:Nat) (d:k<=7):xJ n (k+1)=xJ (n / 256) k++[n % 256]:=by
 apply List.ext_getElem?;intro i;by_cases c:i<k
 ·rw [JB _ (by omega),List.getElem?_append_left (by rw [jO];exact c),JB _ c,zf b (by omega),zf (by omega) (by omega)];rw [Int.ediv_ediv_of_nonneg (by decide),show (256:Int)*2 ^ (8*(k - 1 - i))=2 ^ (8*(k+1 - 1 - i)) by
   rw [show 8*(k+1 - 1 - i)=8+8*(k - 1 - i) by omega,Int.pow_add];rfl]
 ·by_cases h2:i=k
  ·subst h2;rw [JB _ (by omega),List.getElem?_append_right (by rw [jO];omega),jO,Nat.sub_self,zf b (by omega)];simp
  ·rw [List.getElem?_eq_none (by rw [jO];omega),List.getElem?_eq_none (by simp [jO];omega)]
theorem LW:∀ (k:Nat) (n:Int),k<=8->0<=n->n<256 ^ k->Cl (xJ n k)=n
 | 0,n,_,c,b=>by
  have:n=0:=by simp at b;omega
  subst this;rfl
 | k+1,n,d,c,b=>by
  rw [Int.pow_succ] at b;rw [Sc n c k (by omega),Cm,LW k (n / 256) (by omega) (by omega) (by omega)];omega
theorem Sd {k:Nat} (b:1<=k/\k<=8) {n:Int} (c:0<=n) (d:n<256 ^ k):Qb (xJ n k)=n:=by
 unfold Qb;rw [jO,if_pos b,LW k n b.2 c d]
theorem Vn:(256:Int) ^ 8=18446744073709551616:=by decide
theorem LX {A B:List Int} {n:Int} (h:n=A.length):RO.take (some (A++B)) n=A/\RO.left (some (A++B)) n=some B:=by
 subst h;have b:RO.fit (some (A++B)) A.length=true:=by simp [RO.fit];omega
 constructor
 ·simp [RO.take,b]
 ·simp [RO.left,b]
theorem T3 {k:Nat} (c:1<=k/\k<=8) {n:Int} (d:0<=n) (e:n<256 ^ k) (B:List Int):RO.LV (some (xJ n k++B)) k=n/\RO.left (some (xJ n k++B)) k=some B:=by
 obtain ⟨a,b⟩:=LX (A:=xJ n k) (B:=B) (n:=k) (by rw [jO]);exact ⟨by rw [RO.LV,a,Sd c d e],b⟩
theorem LY:∀ (v:List Int),(∀ x∈v,0<=x/\x<=18446744073709551615)->∀ B,yd (some ((v.flatMap fun n=>xJ n 8)++B)) v.length=v
 | [],_,_=>rfl
 | x::v,h,B=>by
  have e:=h x (by simp);obtain ⟨a,b⟩:=T3 (k:=8) (by omega) (n:=x) (by omega) (by rw [Vn];omega) ((v.flatMap fun n=>xJ n 8)++B);rw [List.flatMap_cons,List.append_assoc,List.length_cons,yd];have a':RO.LV (some (xJ x 8++((v.flatMap fun n=>xJ n 8)++B))) 8=x:=a;have c:RO.left (some (xJ x 8++((v.flatMap fun n=>xJ n 8)++B))) 8=some ((v.flatMap fun n=>xJ n 8)++B):=b;rw [a',c,LY v (fun y d=>h y (by simp [d])) B]
theorem T4 {v:List Int} (h:Wm v) (B:List Int):RO.T1 (some ((v.flatMap fun n=>xJ n 8)++B))=v/\RO.left (some ((v.flatMap fun n=>xJ n 8)++B)) 128=some B:=by
 have c:(v.flatMap fun n=>xJ n 8).length=128:=by rw [HG (f:=fun n=>xJ n 8) (n:=8) (fun n=>jO n 8),h.len]
 obtain ⟨a,b⟩:=LX (A:=v.flatMap fun n=>xJ n 8) (B:=B) (n:=128) (by rw [c];rfl);refine ⟨?_,b⟩;have:=LY v h.Wk [];rw [List.append_nil,h.len] at this;rw [RO.T1,a,this]
theorem HI {s:AS} {v:AV} {l:List Int} (h:gA s v l):(cO T aq cE v s).map (·.1)=some (.str (VK l)):=by
 by_cases b:l=[]
 ·subst b;rcases h with ⟨rfl,h2,h3⟩ | ⟨a,c,e,rfl,⟨d,h2⟩,h3⟩
  ·simp [cO,aL,qI,z4,VK]
  ·rcases a with _ | ⟨la,o⟩ <;> simp [cO,aL,qI,z4,VK]
 ·exact R1 h b
end Go.Proofs.YtohgmogbabkkeaaGreat
end

section
set_option maxRecDepth 100000
set_option maxHeartbeats 4000000
namespace Go.Proofs.YtohgmogbabkkeaaGreat
open Go.Am
def GQ (a0:List AV) (a1:List AV) (s:AS) (R:AV->AS->Prop):Prop :=
 cH a0 (aj (.cells a0 0 false) s fun l1 s2=>cH a1 (aj (.cells a1 0 false) s2 fun l3 s4=>aj (.cells [.int .u64 0,.int .u64 0,.int .u64 0,.int .u64 0,.int .u64 0,.int .u64 0,.int .u64 0,.int .u64 0,.int .u64 0,.int .u64 0,.int .u64 0,.int .u64 0,.int .u64 0,.int .u64 0,.int .u64 0,.int .u64 0] 0 false) s4 fun p s6=>aR (aD s6 l3 0 16) fun r=>bB fun e w=>e w [.int .i64 0] s6 /\
 ∀ c:Nat,∀ b:Int,∀ dI:AS,e c [.int .i64 b] dI ->
 af (decide ((b:Int)<16))
 (aV .u64 (jd T aY (.agg r) (.int .i64 b)) fun i=>bG (ag T aY (.ptr (some (l1,0))) (.int .i64 b)) fun lC j=>aV .u64 (av dI lC j) fun k=>aV .u64 (JT true [.int .u64 k,.int .u64 i]) fun l=>bG (ag T aY (.ptr (some (l1,0))) (.int .i64 b)) fun m n=>bt (cK dI m n [.int .u64 l]) fun gi=>∃ m',m'<c/\e m' [(.int .i64 (IntKind.wrap .i64 (b+1)))] gi)
 (aR (aD dI l1 0 16) fun d=>fh (some 16) d (bt (cK dI p 0 d) fun fP=>aR (aD fP p 0 16) fun o=>R (.agg o) fP))))
def GR:QA:=(.seq .leaf (.seq (.seq .leaf (.wrap (.loop [(8,.int .i64)] [(5,6),(8,19)] (.seq .leaf (.seq (.cond .leaf .leaf) (.seq (.wrap (.seq .leaf .leaf)) .leaf)))))) (.seq .leaf .leaf)))
theorem GS (a0:List AV) (a1:List AV) (s:AS) (R:AV->AS->Prop) (h:GQ a0 a1 s R):aa Tryz.prog r_ [.agg a0,.agg a1] s R :=
 aa.q (n:=21) (rs:=[.cell 4 49]) (A:=GR) hT bW Tryz.func81 (by kernel_rfl) rfl rfl rfl (by kernel_rfl) (by kernel_rfl) h
def zj (a0:List UInt8) (s:AS) (R:AV->AS->Prop):Prop :=
 aV .i64 (aQ T cE (.str a0) s) fun b=>af (decide ((b:Int)>=1)) (aV .i64 (aQ T cE (.str a0) s) fun n2=>R (.bool (decide ((n2:Int)<=32))) s) (R (.bool false) s)
def zk:QA:=(.seq .leaf (.seq .leaf .leaf))
theorem zl (a0:List UInt8) (s:AS) (R:AV->AS->Prop) (h:zj a0 s R):aa Tryz.prog g_ [.str a0] s R :=
 aa.q (n:=11) (rs:=[.tmp 2]) (A:=zk) hT bW Tryz.func87 (by kernel_rfl) rfl rfl rfl (by kernel_rfl) (by kernel_rfl) h
def JC (a0:List AV) (s:AS) (R:AV->AS->Prop):Prop :=
 cH a0 (aj (.cells a0 0 false) s fun l1 s2=>aR (aD s2 l1 0 16) fun k=>bB fun e l=>e l [.bool true,.int .i64 0] s2 /\
 ∀ i:Nat,∀ j:Bool,∀ c:Int,∀ d:AS,e i [.bool j,.int .i64 c] d ->
 af (decide ((c:Int)<16))
 (aV .u64 (jd T aY (.agg k) (.int .i64 c)) fun b=>af (!(decide ((b:Int)<=4611686018427387904)))
 (R (.bool (decide ((b:Int)<=4611686018427387904))) d)
 (∃ m',m'<i/\e m' [(.bool (decide ((b:Int)<=4611686018427387904))),(.int .i64 (IntKind.wrap .i64 (c+1)))] d))
 (R (.bool j) d))
def JD:QA:=(.seq .leaf (.wrap (.seq .leaf (.seq .leaf (.seq (.seq .leaf (.wrap (.loop [(3,.bool),(7,.int .i64)] [(3,3),(5,5),(7,14)] (.seq .leaf (.seq (.cond .leaf .leaf) (.seq (.wrap (.seq .leaf (.seq .leaf (.seq .leaf (.cond .leaf .leaf))))) .leaf)))))) (.seq .leaf .leaf))))))
theorem JE (a0:List AV) (s:AS) (R:AV->AS->Prop) (h:JC a0 s R):aa Tryz.prog dF [.agg a0] s R :=
 aa.q (n:=16) (rs:=[.tmp 2]) (A:=JD) hT bW Tryz.func90 (by kernel_rfl) rfl rfl rfl (by kernel_rfl) (by kernel_rfl) h
def GU (a0:AV) (a1:List UInt8) (a2:AV) (s:AS) (R:AV->AS->Prop):Prop :=
 aj (.cells (List.replicate 32 (.int .u8 0)) 0 false) s fun l1 s2=>iD (cO T cE aq (.str a1) s2) fun j s4=>aa Tryz.prog wD [j] s4 fun k s6=>∃ i:AV,∃ l:Int,k=.aP [i,.int .i64 l]/\(aR (cV T eJ 2 [(0,i),(1,a2)]) fun m=>aj (.cells m 0 false) s6 fun mL c=>aa Tryz.prog yP [a0,(.slc (some (mL,0)) 2 2 true)] c fun d bP=>∃ b:List AV,d=.agg b/\(fh (some 32) b (bt (cK bP l1 0 b) fun gu=>aR (aD gu l1 0 32) fun e=>R (.agg e) gu)))
def GV:QA:=(.seq .leaf (.seq .leaf (.seq .leaf .leaf)))
theorem GW (a0:AV) (a1:List UInt8) (a2:AV) (s:AS) (R:AV->AS->Prop) (h:GU a0 a1 a2 s R):aa Tryz.prog eO [a0,.str a1,a2] s R :=
 aa.q (n:=20) (rs:=[.cell 6 93]) (A:=GV) hT bW Tryz.func92 (by kernel_rfl) rfl rfl rfl (by kernel_rfl) (by kernel_rfl) h
def FM (a0:AV) (a1:List UInt8) (a2:List AV) (s:AS) (R:AV->AS->Prop):Prop :=
 cH a2 (aj (.cells a2 0 false) s fun l1 s2=>bz fun i =>
 (∀ p:Bool,∀ e:AS,i [.bool p] e ->
 af p
 (R (.aP [.slc none 0 0 true,.int .i64 2]) e)
 (aR (aD e l1 0 16) fun w=>aa Tryz.prog sg [.agg w] e fun r s8=>aa Tryz.prog eO [a0,.str a1,r] s8 fun x j=>∃ b:List AV,x=.agg b/\(aj (.cells (List.replicate 32 (.int .u8 0)) 0 false) j fun qZ bP=>fh (some 32) b (bt (cK bP qZ 0 b) fun k=>dS (aZ T sr (.ptr (some (qZ,0))) none none none) fun l=>iD (aI T aq aq r l k) fun nM lK=>R (.aP [nM,.int .i64 0]) lK)))) /\
 (aa Tryz.prog g_ [.str a1] s2 fun m gz=>∃ c:Bool,m=.bool c/\(af (!c) (i [.bool true] gz) (aR (aD gz l1 0 16) fun n=>aa Tryz.prog dF [.agg n] gz fun o tW=>∃ d:Bool,o=.bool d/\(i [(.bool (!d))] tW)))))
def FN:QA:=(.seq .leaf (.seq (.join [(17,.bool)] [(10,17)] .leaf (.cond (.seq .leaf .leaf) .leaf)) (.seq .leaf (.seq .leaf (.seq .leaf .leaf)))))
theorem FO (a0:AV) (a1:List UInt8) (a2:List AV) (s:AS) (R:AV->AS->Prop) (h:FM a0 a1 a2 s R):aa Tryz.prog fI [a0,.str a1,.agg a2] s R :=
 aa.q (n:=27) (rs:=[.tmp 6,.tmp 7]) (A:=FN) hT bW Tryz.func83 (by kernel_rfl) rfl rfl rfl (by kernel_rfl) (by kernel_rfl) h
def LZ (a0:AV) (a1:List UInt8) (a2:AV) (s:AS) (R:AV->AS->Prop):Prop :=
 aj (.cells [.int .u64 0,.int .u64 0,.int .u64 0,.int .u64 0,.int .u64 0,.int .u64 0,.int .u64 0,.int .u64 0,.int .u64 0,.int .u64 0,.int .u64 0,.int .u64 0,.int .u64 0,.int .u64 0,.int .u64 0,.int .u64 0] 0 false) s fun l1 s2=>aa Tryz.prog g_ [.str a1] s2 fun v3 s4=>∃ b5:Bool,v3=.bool b5/\(af (!b5)
 (oS (aS T aY []) fun g6=>fh (some 16) g6 (bt (cK s4 l1 0 g6) fun s7=>aR (aD s7 l1 0 16) fun g8=>R (.aP [.agg g8,.int .i64 2]) s7))
 (aV .i64 (aQ T aq a2 s4) fun n9=>af ((n9:Int)==0)
 (oS (aS T aY []) fun A=>fh (some 16) A (bt (cK s4 l1 0 A) fun B=>aR (aD B l1 0 16) fun X=>R (.aP [.agg X,.int .i64 0]) B))
 (aV .i64 (aQ T aq a2 s4) fun Y=>af ((Y:Int) != 160)
 (oS (aS T aY []) fun C=>fh (some 16) C (bt (cK s4 l1 0 C) fun gu=>aR (aD gu l1 0 16) fun Z=>R (.aP [.agg Z,.int .i64 9]) gu))
 (dS (aZ T aq a2 none (some (.int .i64 128)) (some (.int .i64 128))) fun c=>dS (aZ T aq a2 (some (.int .i64 128)) none none) fun e=>aa Tryz.prog rG [c] s4 fun ab gi=>∃ D:Option (Nat×Nat),ab=.ptr D/\(aa Tryz.prog jl [.ptr D] gi fun ad tW=>∃ o:List AV,ad=.agg o/\(aj (.cells [.int .u64 0,.int .u64 0,.int .u64 0,.int .u64 0,.int .u64 0,.int .u64 0,.int .u64 0,.int .u64 0,.int .u64 0,.int .u64 0,.int .u64 0,.int .u64 0,.int .u64 0,.int .u64 0,.int .u64 0,.int .u64 0] 0 false) tW fun p ae=>fh (some 16) o (bt (cK ae p 0 o) fun d=>bz fun r =>
 (∀ F:Bool,∀ l:AS,r [.bool F] l ->
 af F
 (oS (aS T aY []) fun G=>fh (some 16) G (bt (cK l l1 0 G) fun H=>aR (aD H l1 0 16) fun al=>R (.aP [.agg al,.int .i64 9]) H))
 (aR (aD l p 0 16) fun I=>fh (some 16) I (bt (cK l l1 0 I) fun J=>aR (aD J l1 0 16) fun am=>R (.aP [.agg am,.int .i64 0]) J))) /\
 (gy fun S V=>aR (aD d p 0 16) fun b=>(∀ m:AS,Ext d m->aM m->(True)->aa Tryz.prog dF [.agg b] m fun an K=>∃ w:Bool,an=.bool w/\((Ext m K/\S 1 [(.func dF []),.agg b] (.bool w) K/\V 1 [(.func dF []),.agg b] (.bool w))))/\(∃ v,V 1 [(.func dF []),.agg b] v)/\∀ L:AV,V 1 [(.func dF []),.agg b] L->∃ i:Bool,L=.bool i/\(af (!i) (∀ n:AS,Ext d n->aM n->(S 1 [(.func dF []),.agg b] (.bool i) n/\True)->r [.bool true] n) ((∀ tw:AS,Ext d tw->aM tw->(S 1 [(.func dF []),.agg b] (.bool i) tw/\True)->aa Tryz.prog eO [a0,.str a1,c] tw fun ao M=>∃ x:List AV,ao=.agg x/\((Ext tw M/\S 7 [(.func eO []),a0,.str a1,c] (.agg x) M/\V 7 [(.func eO []),a0,.str a1,c] (.agg x))))/\(∃ v,V 7 [(.func eO []),a0,.str a1,c] v)/\∀ O:AV,V 7 [(.func eO []),a0,.str a1,c] O->∃ y:List AV,O=.agg y/\((∀ j:AS,Ext d j->aM j->(S 1 [(.func dF []),.agg b] (.bool i) j/\True)->ng (O5 T sr e) fun Q=>(Ext j j/\S 9 [e] (.ptr Q) j/\V 9 [e] (.ptr Q)))/\(∃ v,V 9 [e] v)/\∀ U:AV,V 9 [e] U->∃ z:Option (Nat×Nat),U=.ptr z/\(ah z fun ap ar=>aR (aD d ap ar 32) fun aw=>∀ k:AS,Ext d k->aM k->(S 1 [(.func dF []),.agg b] (.bool i) k/\(S 7 [(.func eO []),a0,.str a1,c] (.agg y) k/\(S 9 [e] (.ptr z) k/\True)))->aa Tryz.prog wB [.agg y,.agg aw] k fun a3 a4=>∃ W:Bool,a3=.bool W/\(r [(.bool (!W))] a4)))))))))))))
def L0:QA:=(.seq .leaf (.seq (.wrap (.seq .leaf (.cond (.seq .leaf .leaf) (.seq .leaf (.cond (.seq .leaf .leaf) (.seq .leaf (.cond (.seq .leaf .leaf) .leaf))))))) (.seq (.draw 5) (.seq .leaf (.seq (.join [(46,.bool)] [(33,46)] (.gR 11 [[],[],[],[],[],[],[],[1],[],[1],[]] [1,7,9]) (.cond (.seq .leaf .leaf) .leaf)) (.seq .leaf .leaf))))))
theorem CS (a0:AV) (a1:List UInt8) (a2:AV) (s:AS) (R:AV->AS->Prop) (h:LZ a0 a1 a2 s R):aa Tryz.prog oC [a0,.str a1,a2] s R :=
 aa.q (n:=49) (rs:=[.cell 6 49,.tmp 7]) (A:=L0) hT bW Tryz.func24 (by kernel_rfl) rfl rfl rfl (by kernel_rfl) (by kernel_rfl) h
def mP (a0:AV) (s:AS) (R:AV->AS->Prop):Prop :=
 sJ (Qu T a_ true a0 (.slc none 0 0 true)) fun b=>af b
 (R (.slc none 0 0 true) s)
 (aR (cV T a_ 0 []) fun c=>aj (.cells c 0 false) s fun l3 s4=>iD (aI T a_ a_ (.slc (some (l3,0)) 0 0 true) a0 s4) fun d s6=>R d s6)
def mQ:QA:=(.seq .leaf (.seq (.seq .leaf (.cond (.seq .leaf .leaf) .leaf)) (.seq .leaf .leaf)))
theorem mR (a0:AV) (s:AS) (R:AV->AS->Prop) (h:mP a0 s R):aa Tryz.prog cT [a0] s R :=
 aa.q (n:=8) (rs:=[.tmp 2]) (A:=mQ) hT bW Tryz.func82 (by kernel_rfl) rfl rfl rfl (by kernel_rfl) (by kernel_rfl) h
end Go.Proofs.YtohgmogbabkkeaaGreat
end

section
namespace Go.Proofs.YtohgmogbabkkeaaGreat
open Go.Am Go.au Go.aC Go.bL
def tQ (v:List Int):Bool:=v.all fun n=>decide (n<=4611686018427387904)
def zm (v:List Int):List Int:=v.flatMap fun n=>xJ n 8
def A9 (sec:List Int) (dev:List UInt8) (v:List Int):List Int:=zm v++z2 sec (tN dev++zm v)
theorem FP {v:List Int} (h:v.length=16):(zm v).length=128:=by
 have:∀ l:List Int,(zm l).length=8*l.length:=by
  intro l
  induction l with
  | nil=>rfl
  | cons x xs b=>simp only [zm,List.flatMap_cons,List.length_append,jO] at b ⊢;rw [b];simp;omega
 rw [this,h]
theorem Se (sec:List Int) (dev:List UInt8) {v:List Int} (h:v.length=16):(A9 sec dev v).length=160:=by
 rw [A9,List.length_append,FP h,jK]
def mW (a b:List Int):List Int:=(List.range 16).map fun i=>if b.getD i 0>a.getD i 0 then b.getD i 0 else a.getD i 0
theorem dx (a b:List Int):(mW a b).length=16:=by simp [mW]
theorem Sf {v:List Int} (h:v.length=16) {i:Nat} (hi:i<16):jd T aY (.agg (v.map (.int .u64))) (.int .i64 (i:Nat))=some (.int .u64 (v.getD i 0)):=by
 simp only [jd,wJ,jz,Option.bind_some,By BG];rw [if_pos (by omega),List.getElem?_map,List.getElem?_eq_getElem (by simp;omega),List.getD_eq_getElem?_getD,List.getElem?_eq_getElem (by omega)];simp
theorem S6 {v:List Int} (h:v.length=16) {s:AS} {l:Nat} (b:At s l (v.map (.int .u64))):aD s l 0 16=some (v.map (.int .u64)):=by
 rw [b.aD (by simp [h]),List.drop_zero,List.take_of_length_le (by simp [h])]
theorem Vo (a b:List Int) {i:Nat} (h:i<16) (e:a.length=16):(((mW a b).take i)++a.drop i).set i (if b.getD i 0>a.getD i 0 then b.getD i 0 else a.getD i 0)=((mW a b).take (i+1))++a.drop (i+1):=by
 have hd:=List.drop_eq_getElem_cons (l:=a) (i:=i) (by omega);have c:((mW a b).take i).length=i:=by simp [dx];omega
 have d:(mW a b)[i]? = some (if b.getD i 0>a.getD i 0 then b.getD i 0 else a.getD i 0):=by
  rw [mW,List.getElem?_map,List.getElem?_range h];rfl
 rw [List.set_append,if_neg (by omega),c,Nat.sub_self,hd,List.set_cons_zero,List.take_add_one,d,Option.toList_some,List.append_assoc];rfl
theorem Sg {a b:List Int} (A:a.length=16) (hb:b.length=16) (s:AS):aa Tryz.prog r_ [.agg (a.map (.int .u64)),.agg (b.map (.int .u64))] s fun r s'=>r=.agg ((mW a b).map (.int .u64))/\Ext s s':=by
 refine aa.pre fun B=>GS _ _ _ _ ⟨bT _ _,aj.intro B rfl fun l1 s2 d=>⟨bT _ _,aj.intro d.wf rfl fun l3 s4 j=>aj.intro j.wf rfl fun x s6 c=>?_⟩⟩;have C:=(d.ext.trans j.ext).trans c.ext;have D:=d.no;have d5:x≠l1:=fun e=>by
  have:=c.no;rw [e,d.own.ext j.ext] at this;cases this
 refine ⟨_,S6 hb (j.own.ext c.ext).at,fun m vs s'=>∃ i:Nat,vs=[.int .i64 (i:Nat)]/\i<=16/\m=16 - i/\Ext s s'/\aM s'/\Am.Own s' l1 (((mW a b).take i++a.drop i).map (.int .u64))/\Am.Own s' x (dD.map (.int .u64)),16,⟨0,rfl,by omega,rfl,C,c.wf,by simpa using (d.own.ext j.ext).ext c.ext,c.own⟩,?_⟩;rintro m n dI ⟨i,hi,J,rfl,k,l,p1,y⟩;simp only [List.cons.injEq,AV.int.injEq,true_and,and_true] at hi;subst hi;refine af.dec (fun F=>?_) (fun G=>?_)
 ·have H:((mW a b).take i++a.drop i).getD i 0=a.getD i 0:=by
   rw [List.getD_eq_getElem?_getD,List.getD_eq_getElem?_getD,List.getElem?_append_right (by simp [dx];omega)];simp [dx,Nat.min_eq_left (show i<=16 by omega)]
  have hr:av dI l1 (0+((i:Nat):Int).toNat*1)=some (.int .u64 (a.getD i 0)):=by rw [<- H];exact p1.at.Pu (by simp [dx];omega) (by simp)
  refine ⟨_,Sf hb (by omega),_,_,Qw (by omega),_,hr,_,Od _ _,_,_,Qw (by omega),bt.int l p1 (i:=i) (by simp [dx];omega) (by simp) fun gi I p o=>⟨16 - (i+1),by omega,i+1,by rw [Cj (by omega)],by omega,rfl,Ext.wr k D o,p,?_,y.mut o (by simpa using d5)⟩⟩;rw [<- Vo a b (by omega) A];exact I
 ·obtain rfl:i=16:=by omega
  have w:(mW a b).take 16++a.drop 16=mW a b:=by rw [List.take_of_length_le (by simp [dx]),List.drop_eq_nil_of_le (by omega),List.append_nil]
  rw [w] at p1;refine ⟨_,S6 (dx a b) p1.at,⟨bT _ _,by simp [dx]⟩,bt.own l y (by simp [dx,dD]) fun fP P=>?_⟩;have z:=P.at;rw [dz (by simp [dx,dD])] at z;exact ⟨_,S6 (dx a b) ⟨_,_,z⟩,rfl,Ext.wr k ((d.ext.trans j.ext).none c.no) P.mut⟩
theorem u0 (t:List UInt8) (s:AS):aa Tryz.prog g_ [.str t] s fun v s'=>v=.bool (aK t)/\s'=s:=by
 refine zl _ _ _ ⟨_,kF t s,af.dec (fun h=>⟨_,kF t s,?_,rfl⟩) (fun h=>⟨?_,rfl⟩)⟩
 ·congr 1;rw [aK,decide_eq_decide];omega
 ·congr 1;symm;rw [aK,decide_eq_false_iff_not];omega
theorem OU {v:List Int} (h:v.length=16) (s:AS):aa Tryz.prog dF [.agg (v.map (.int .u64))] s fun r s'=>r=.bool (tQ v)/\Ext s s':=by
 refine aa.pre fun j=>JE _ _ _ ⟨bT _ _,aj.intro j rfl fun l1 s2 e=>⟨_,S6 h e.own.at,fun m vs s'=>∃ i:Nat,vs=[.bool true,.int .i64 (i:Nat)]/\i<=16/\m=16 - i/\s'=s2/\(v.take i).all (fun n=>decide (n<=4611686018427387904))=true,16,⟨0,rfl,by omega,rfl,rfl,rfl⟩,?_⟩⟩;rintro m b n o ⟨i,hi,p,rfl,rfl,d⟩;simp only [List.cons.injEq,AV.int.injEq,AV.bool.injEq,true_and,and_true] at hi;obtain ⟨rfl,rfl⟩:=hi;refine af.dec (fun k=>⟨_,Sf h (by omega),af.mk (fun hb=>⟨?_,e.ext⟩) (fun hb=>⟨16 - (i+1),by omega,i+1,?_,by omega,rfl,rfl,?_⟩)⟩) (fun l=>⟨?_,e.ext⟩)
 ·have c:decide (v.getD i 0<=4611686018427387904)=false:=by simpa using hb
  rw [c];congr 1;symm;rw [tQ,List.all_eq_false];refine ⟨v.getD i 0,?_,by simpa using c⟩;rw [List.getD_eq_getElem?_getD,List.getElem?_eq_getElem (by omega)];exact List.getElem_mem _
 ·have c:decide (v.getD i 0<=4611686018427387904)=true:=by simpa using hb
  rw [c,Cj (by omega)]
 ·have c:decide (v.getD i 0<=4611686018427387904)=true:=by simpa using hb
  rw [List.take_add_one,List.all_append,d];rw [List.getD_eq_getElem?_getD] at c;rw [List.getElem?_eq_getElem (by omega)] at c ⊢;simpa using c
 ·rw [List.take_of_length_le (by omega)] at d;rw [tQ,d]
theorem OV {s:AS} {sv e:AV} {sec vb:List Int} (hs:gA s sv sec) (y:sec.length<=64) (hv:gA s e vb) (z:vb.length<=1000) (dev:List UInt8) (hd:dev.length<=1000) :
  aa Tryz.prog eO [sv,.str dev,e] s fun r s'=>r=.agg ((z2 sec (tN dev++vb)).map (.int .u8))/\Ext s s':=by
 refine aa.pre fun A=>GW _ _ _ _ _ (aj.intro A rfl fun l1 s2 i=>?_);refine NQ i.wf dev fun J s4 B m K=>?_;refine aa.use (TR B (by rw [wT];omega)) ?_;rintro v s6 ⟨n,rfl,j⟩ C;have o:=(i.ext.trans m).trans j.eL.ext;have k:=hv.ext o;have D:=j.sl bU;refine ⟨_,_,rfl,_,OR j.iX.2 k.one,aj.intro C rfl fun mL F b=>?_⟩;have c:=o.trans b.ext;refine aa.use (TY (L:=[(n,tN dev),(e,vb)]) (hs.ext c) y (cq.mk b.own.at rfl rfl) ?_ (by simp) ?_) ?_
 ·intro p w;simp only [List.mem_cons,List.not_mem_nil,or_false] at w;rcases w with rfl | rfl
  ·have:=D.ext b.ext;rw [wT] at this;exact this
  ·exact hv.ext c
 ·simp [qh,PZ];omega
 ·rintro G bP ⟨rfl,d⟩ l;have H:([(n,tN dev),(e,vb)].flatMap Prod.snd)=tN dev++vb:=by simp
  rw [H];have I:=(((i.own.ext m).ext j.eL.ext).ext b.ext).ext d;refine ⟨_,rfl,⟨bT _ _,by simp [jK]⟩,bt.own l I (by simp [jK]) fun gu P=>?_⟩;have x:=P.at;rw [dz (by simp [jK])] at x;refine ⟨_,At.aD ⟨_,_,x⟩ (by simp [jK]),?_,Ext.wr (c.trans d) i.no P.mut⟩;rw [List.drop_zero,List.take_of_length_le (by simp [jK])]
theorem L3 {s:AS} {sv:AV} {sec:List Int} (hs:gA s sv sec) (A:sec.length<=64) (dev:List UInt8) {v:List Int} (hv:v.length=16) (z:aK dev=true) (hm:tQ v=true) :
  aa Tryz.prog fI [sv,.str dev,.agg (v.map (.int .u64))] s fun r s'=>∃ w,r=.aP [w,.int .i64 0]/\ze s s' w (A9 sec dev v):=by
 refine aa.pre fun B=>FO _ _ _ _ _ ⟨bT _ _,aj.intro B rfl fun l1 s2 e=>⟨fun vs s'=>vs=[.bool false]/\Ext s2 s'/\aM s',?_,?_⟩⟩
 ·rintro b C ⟨hb,j,L⟩;obtain rfl:b=false:=by simpa using hb
  refine af.no rfl ⟨_,S6 hv (e.own.ext j).at,?_⟩;refine aa.use (P1 v hv _) ?_;rintro D s8 (k:ze C s8 D (zm v)) M;have F:=(e.ext.trans j).trans k.eL.ext;have hd:dev.length<=32:=by
   simp only [aK,decide_eq_true_eq] at z;omega
  have i:=FP hv;refine aa.use (OV (hs.ext F) A (k.sl bU) (by rw [i];omega) dev (by omega)) ?_;rintro O G ⟨rfl,l⟩ m;refine ⟨_,rfl,lq m (by simp [jK]) (by simp) (bT _ _) fun qZ n d=>⟨_,nr Ir ey (by decide),?_⟩⟩;have c:=jK sec (tN dev++zm v);have H:gA n (.slc (some (qZ,0)) 32 32 true) (z2 sec (tN dev++zm v)):=cq.mk d.own.at (by rw [kG];simp [c]) (by rw [kG,List.drop_zero,List.take_of_length_le (by simp [c])]) |> (c ▸ ·);refine wV d.wf (k.step (l.trans d.ext)) (by simp) H (by rw [i,c];omega) fun v' s' o w' _=>⟨v',rfl,?_⟩;exact ⟨o.vq,(e.ext.trans j).mut.trans o.eL,fun la p=>(e.ext.trans j).none (o.new la p)⟩
 ·refine aa.use (u0 dev _) ?_;rintro I gz ⟨rfl,rfl⟩ J;refine ⟨_,rfl,af.no (by simp [z]) ⟨_,S6 hv e.own.at,?_⟩⟩;refine aa.use (OU hv _) ?_;rintro K tW ⟨rfl,x⟩ y;exact ⟨_,rfl,by simp [hm],x,y⟩
theorem FQ:aS T aY []=some (.agg (dD.map (.int .u64))):=by kernel_rfl
theorem Sl.WN {s:AS} {v:AV} {l:List Int} (h:gA s v l) (d:l.length=32):∃ la o,O5 T sr v=some (.ptr (some (la,o)))/\∀ s',Ext s s'->aD s' la o 32=some (l.map (.int .u8)):=by
 rcases h with ⟨_,m,_⟩ | ⟨a,c,e,rfl,⟨i,n⟩,h3⟩
 ·omega
 ·rcases h3 with h3 | ⟨la,o,C,rfl,j,b⟩
  ·omega
  ·refine ⟨la,o,by simp [O5,Ir,d],fun s' k=>?_⟩;have hlen:=congrArg List.length b;rw [List.length_take,List.length_drop,sG,d] at hlen;rw [(j.ext k).aD (by omega),<- kG,<- b,d]
theorem NW {s s4:AS} {l1:Nat} {v:List Int} (hv:v.length=16) (d:Ext s s4) (e:aM s4) (i:s.h l1=none) (j:Am.Own s4 l1 (dD.map (.int .u64))) {c c':Int} (k:c=c') :
  fh (some 16) (v.map (AV.int .u64)) (bt (Am.cK s4 l1 0 (v.map (.int .u64))) fun s7=>aR (aD s7 l1 0 16) fun l=>(fun r s'=>r=AV.aP [.agg (v.map (.int .u64)),.int .i64 c']/\Ext s s') (.aP [.agg l,.int .i64 c]) s7):=by
 refine ⟨⟨bT _ _,by simp [hv]⟩,bt.own e j (by simp [hv,dD]) fun s7 P=>?_⟩;have b:=P.at;rw [dz (by simp [hv,dD])] at b;exact ⟨_,S6 hv ⟨_,_,b⟩,by rw [k],Ext.wr d i P.mut⟩
theorem T5 (v:List Int):JM (zm v):=by
 intro x b;obtain ⟨n,_,b⟩:=List.mem_flatMap.1 b;exact Vi n 8 x b
theorem Vp {s:AS} {sv bv:AV} {b:List Int} (hb:gA s bv b) (dev:List UInt8) (d:aK dev=false\/b=[]) :
  aa Tryz.prog oC [sv,.str dev,bv] s fun r s'=>r=.aP [.agg (dD.map (.int .u64)),.int .i64 (if aK dev then 0 else 2)]/\Ext s s':=by
 refine aa.pre fun j=>CS _ _ _ _ _ (aj.intro j rfl fun l1 s2 c=>?_);refine aa.use (u0 dev _) ?_;rintro k s4 ⟨rfl,rfl⟩ e;refine ⟨_,rfl,af.mk (fun h=>⟨_,FQ,NW rfl c.ext e c.no c.own (by rw [if_neg (by simpa using h)])⟩) (fun h=>?_)⟩
 ·have i:aK dev=true:=by simpa using h
  rcases d with d | rfl
  ·rw [i] at d;cases d
  ·refine ⟨_,(hb.ext c.ext).cI aL _,af.yes (by simp) ⟨_,FQ,NW rfl c.ext e c.no c.own (by rw [if_pos i])⟩⟩
theorem Vq {s:AS} {sv bv:AV} {sec:List Int} (hs:gA s sv sec) (hl:sec.length<=64) (dev:List UInt8) (Z:aK dev=true) {v:List Int} (hv:Wm v) (hm:tQ v=true) (hb:gA s bv (A9 sec dev v)) :
  aa Tryz.prog oC [sv,.str dev,bv] s fun r s'=>r=.aP [.agg (v.map (.int .u64)),.int .i64 0]/\Ext s s':=by
 have c:=hv.len;have hd:dev.length<=32:=by
  simp only [aK,decide_eq_true_eq] at Z;omega
 have z:=Se sec dev c;have ad:=FP c;have A:=jK sec (tN dev++zm v);refine aa.pre fun hw=>CS _ _ _ _ _ (aj.intro hw rfl fun l1 s2 B=>?_);refine aa.use (u0 dev _) ?_;rintro v3 s4 ⟨rfl,rfl⟩ w4;have k:=hb.ext B.ext;refine ⟨_,rfl,af.no (by simp [Z]) ⟨_,k.cI aL _,af.no (by simp [z]) ⟨_,k.cI aL _,af.no (by simp [z]) ?_⟩⟩⟩;obtain ⟨ae,J,d⟩:=k.head bU aL ey (i:=128) (by omega) .i64;obtain ⟨al,K,l⟩:=k.rest bU aL ey (i:=128) (by omega) .i64;have t1:(A9 sec dev v).take 128=zm v:=by rw [A9,List.take_append_of_le_length (by omega),List.take_of_length_le (by omega)]
 have t2:(A9 sec dev v).drop 128=z2 sec (tN dev++zm v):=by rw [A9,List.drop_append_of_le_length (by omega),List.drop_eq_nil_of_le (by omega),List.nil_append]
 rw [t1] at d;rw [t2] at l;refine ⟨_,J,_,K,?_⟩;refine aa.use (OT d (T5 v) (by omega)) ?_;rintro am gi ⟨p,rfl,hp,rp,L⟩ an;refine ⟨_,rfl,?_⟩;refine aa.use (NV rp) ?_;rintro ao tW ⟨rfl,M,ab⟩ O;have m:=T4 hv [];rw [List.append_nil] at m;rw [show (v.flatMap fun n=>xJ n 8)=zm v from rfl] at m;rw [m.1];have Q:Ext s4 tW:=Ext.wr L hp M;refine ⟨_,rfl,lq O (by simp [c]) rfl (bT _ _) fun ap C x=>?_⟩;have j:=Q.trans x.ext;have R:=B.own.ext j;refine ⟨fun vs s'=>vs=[.bool false]/\Ext C s'/\aM s',?_,fun q _ v s'=>q=9->∃ la o,v=.ptr (some (la,o)),fun q _ w=>(q=1->w=.bool true)/\(q=7->w=.agg ((z2 sec (tN dev++zm v)).map (.int .u8)))/\(q=9->∃ la o,w=.ptr (some (la,o))/\aD C la o 32=some ((z2 sec (tN dev++zm v)).map (.int .u8))),fun q _ w s s' e h=>h,?_⟩
 ·rintro b ar ⟨hb,y,S⟩;obtain rfl:b=false:=by simpa using hb
  refine af.no rfl ⟨_,S6 c (x.own.ext y).at,NW c ((B.ext.trans j).trans y) S B.no (R.ext y) rfl⟩
 ·refine ⟨_,S6 c x.own.at,fun aw a0 a1 _=>?_,⟨_,(fun _=>rfl),(fun h=>by cases h),(fun h=>by cases h)⟩,fun a2 D=>?_⟩
  ·refine (OU c _).mono ?_;rintro w s' ⟨rfl,e⟩;exact ⟨_,rfl,e,(fun h=>by cases h),(fun _=>by rw [hm]),(fun h=>by cases h),(fun h=>by cases h)⟩
  ·obtain rfl:=D.1 rfl;obtain ⟨la,o,U,F⟩:=Sl.WN (l.ext j) A;refine ⟨_,rfl,af.no rfl ⟨fun tw G a3 _=>?_,⟨_,(fun h=>by cases h),(fun _=>rfl),(fun h=>by cases h)⟩,fun a4 H=>?_⟩⟩
   ·refine (OV (hs.ext ((B.ext.trans j).trans G)) hl (d.ext (j.trans G)) (by omega) dev (by omega)).mono ?_;rintro w s' ⟨rfl,e⟩;exact ⟨_,rfl,e,(fun h=>by cases h),(fun h=>by cases h),(fun _=>rfl),(fun h=>by cases h)⟩
   ·obtain rfl:=H.2.1 rfl;refine ⟨_,rfl,fun a5 a6 a7 _=>⟨_,U,Ext.refl _,(fun _=>⟨la,o,rfl⟩),(fun h=>by cases h),(fun h=>by cases h),(fun _=>⟨la,o,rfl,F _ (Ext.refl _)⟩)⟩,⟨_,(fun h=>by cases h),(fun h=>by cases h),(fun _=>⟨la,o,rfl,F _ (Ext.refl _)⟩)⟩,fun a8 I=>?_⟩;obtain ⟨a9,o',rfl,hr'⟩:=I.2.2 rfl;refine ⟨_,rfl,_,hr',fun a' W ba _=>?_⟩;refine aa.use (NP A _) ?_;rintro w bb ⟨rfl,X⟩ Y;exact ⟨_,rfl,rfl,W.trans X,Y⟩
end Go.Proofs.YtohgmogbabkkeaaGreat
end

section
namespace Go.Proofs.YtohgmogbabkkeaaGreat
open Go.Am Go.au Go.aC Go.bL
structure Ev where
 id:aJ
 dV:List UInt8
 u5:List Int
 jP:List Int
 to:List Ci
structure nU where
 ev:Ev
 pv:AV
 tv:AV
 len:ev.jP.length=16
 p1:pv.one=true
 t1:tv.one=true
def iA (m:nU):List AV:=[.int .i64 m.ev.id.r,.int .u64 m.ev.id.c,.str m.ev.dV,m.pv]++(m.ev.jP.map (.int .u64)++[m.tv])
theorem bq (m:nU):(iA m).length=21:=by simp [iA,m.len]
theorem dU (m:nU):(iA m).all AV.one=true:=by
 have b:=m.p1;have h2:=m.t1;have h3:=bT .u64 m.ev.jP;rw [iA,List.all_append,List.all_append,h3];simp [b,h2]
theorem A_ (m:nU) {i:Nat} (h:i<16):(iA m)[4+i]? = some (.int .u64 (m.ev.jP.getD i 0)):=by
 have b:=m.len;rw [iA,List.getElem?_append_right (by simp),List.getElem?_append_left (by simp;omega),List.getElem?_map,List.getElem?_eq_getElem (by simp;omega),List.getD_eq_getElem?_getD];simp [List.getElem?_eq_getElem (show i<m.ev.jP.length by omega)]
theorem qW (m:nU):(iA m)[20]? = some m.tv:=by
 have b:=m.len;rw [iA,List.getElem?_append_right (by simp),List.getElem?_append_right (by simp;omega)];simp [b]
theorem NX (m:nU):((iA m).drop 0).take 2=aN m.ev.id:=rfl
theorem OX (m:nU):((iA m).drop 4).take 16=m.ev.jP.map (.int .u64):=by
 have b:=m.len;rw [iA,List.drop_append_of_le_length (by simp)];simp [List.take_append_of_le_length,b]
theorem gJ (m:nU):((iA m).drop 0).take 21=iA m:=by rw [List.drop_zero,List.take_of_length_le (by rw [bq];exact Nat.le_refl _)]
def Bc (s:AS) (m:nU):Prop:=gA s m.pv m.ev.u5/\Sl ru 3 s m.tv m.ev.to
theorem Bc.ext {s s':AS} {m:nU} (h:Bc s m) (e:Ext s s'):Bc s' m:=⟨h.1.ext e,h.2.ext e⟩
theorem Co (d:aJ) (s:AS):aa Tryz.prog ju [.agg (aN d)] s fun v s'=>v=.bool d.may/\Ext s s':=by
 refine aa.pre fun b=>Fh _ _ _ ⟨rfl,aj.intro b rfl fun l s1 F=>?_⟩;simp only [F.own.at.av,aN,List.getElem?_cons_zero,List.getElem?_cons_succ,go_sem,gl,F.ext,and_true,aJ.may]
 grind
theorem u6 (t:List UInt8) (s:AS):aa Tryz.prog fS [.str t] s fun v s'=>v=.bool (aK t)/\s'=s:=by
 refine Db _ _ _ ⟨_,kF t s,af.dec (fun h=>⟨_,kF t s,?_,rfl⟩) (fun h=>⟨?_,rfl⟩)⟩
 ·congr 1;rw [aK,decide_eq_decide];omega
 ·congr 1;symm;rw [aK,decide_eq_false_iff_not];omega
theorem Sh (a b:aJ) (s:AS):aa Tryz.prog uC [.agg (aN a),.agg (aN b)] s fun v s'=>v=.bool (a.lt b)/\Ext s s':=by
 refine aa.pre fun k=>IS _ _ _ _ ⟨rfl,aj.intro k rfl fun l s1 F=>⟨rfl,aj.intro F.wf rfl fun m s2 c=>?_⟩⟩;have e:=F.ext.trans c.ext;refine ⟨fun _ _ _ _=>True,fun _ _ v=>v=.int .i64 (sX a.r b.r),fun _ _ _ _ _ _ _=>trivial,?_⟩;simp only [(F.own.ext c.ext).at.av,c.own.at.av,aN,List.getElem?_cons_zero,List.getElem?_cons_succ,go_sem];refine ⟨fun s7 _ _ _=>?_,⟨_,rfl⟩,?_⟩
 ·refine (j8 _ _ _).mono ?_;rintro v s' ⟨rfl,rfl⟩;exact ⟨_,rfl,Ext.refl _,trivial,rfl⟩
 ·rintro v rfl;refine ⟨_,rfl,fun gu d _ _=>?_⟩;refine aa.use (iy _ _ _) ?_;rintro v s' ⟨rfl,rfl⟩ i;refine ⟨_,rfl,_,NO _ _,aj.intro i rfl fun l3 s3 j=>?_⟩;refine (pI _ _ j.own.at).mono ?_;rintro v s' ⟨rfl,rfl⟩;refine ⟨_,rfl,?_,e.trans (d.trans j.ext)⟩;congr 1;rw [Bool.eq_iff_iff,decide_eq_true_eq,<- aJ.fO,aJ.cmp]
theorem Vr {s:AS} {l o:Nat} {C:List AV} {v:List Int} (hv:v.length=16) (h:At s l C) (b:(C.drop o).take 16=v.map (.int .u64)):Sl wW 1 s (.slc (some (l,o)) 16 16 true) v:=by
 have d:v.flatMap wW=v.map (.int .u64):=by
  clear hv b
  induction v with
  | nil=>rfl
  | cons x xs e=>rw [List.flatMap_cons,e];rfl
 exact (cq.mk (n:=16) (c:=16) h (by rw [d];simp [hv]) (by rw [d];exact b)) |> (hv ▸ ·)
theorem Qg {v:List Int} (hv:v.length=16) (s:AS):aa Tryz.prog mb [.agg (v.map (.int .u64))] s fun r s'=>r=.bool (tQ v)/\Ext s s':=by
 refine aa.pre fun c=>Aq _ _ _ ⟨bT _ _,aj.intro c rfl fun l1 s2 b=>⟨_,nr wJ jz (by decide),?_⟩⟩;have hs:=Vr hv b.own.at (by rw [List.drop_zero,List.take_of_length_le (by simp [hv])]);refine aa.use (tP (P:=fun n=>decide (n>4611686018427387904)) hs (by omega) fun i _ s' e w=>xY _ _ _ ⟨rfl,Ext.refl _⟩) ?_;rintro w j ⟨rfl,d⟩ k;refine ⟨_,rfl,?_,b.ext.trans d⟩;congr 1;rw [tQ,Bool.eq_iff_iff];simp only [Bool.not_eq_true',List.any_eq_false,decide_eq_true_eq,List.all_eq_true,Int.not_lt,gt_iff_lt]
def u7 (l:List Ci) (j:Nat):Bool:=match l[j]? with
 | none=>true
 | some t=>t.dot.may&&aK t.dev&&(decide (j=0)||match l[j - 1]? with
  | none=>true
  | some u=>u.dot.lt t.dot)
def xo (l:List Ci):Bool:=(List.range l.length).all (u7 l)
def xp (e:Ev):Bool:=decide (e.jP.getD (e.id.r.toNat - 1) 0=IntKind.wrap .u64 (e.id.c - 1))
def sH (e:Ev):Bool:=e.id.may&&tQ e.jP&&xp e&&aK e.dV&&decide (e.u5.length<=512)&&decide (e.to.length<=1024)&&xo e.to
theorem Cp {d:aJ} (h:d.may=true):IntKind.wrap .i64 (d.r - 1)=((d.r.toNat - 1:Nat):Int)/\d.r.toNat - 1<16:=by
 have:=aJ.gD.1 h;rw [aW (by omega)];omega
set_option maxRecDepth 20000 in
theorem T6 {s:AS} {m:nU} (h:Bc s m):aa Tryz.prog wE [.agg (iA m)] s fun r s'=>r=.bool (sH m.ev)/\Ext s s':=by
 refine aa.pre fun hw=>K6 _ _ _ ⟨dU m,aj.intro hw rfl fun l1 s2 M=>?_⟩;have c2:=M.own.at;have ev:=bq m;refine ⟨_,c2.aD (by omega),?_⟩;rw [NX];refine aa.use (Co _ _) ?_;rintro v4 s5 ⟨rfl,O⟩ w5;have c5:=c2.ext O;refine ⟨_,rfl,af.mk (fun hb=>⟨?_,M.ext.trans O⟩) (fun hb=>⟨_,c5.aD (by omega),?_⟩)⟩
 ·simp only [Bool.not_eq_true'] at hb;simp [sH,hb]
 have C:m.ev.id.may=true:=by simpa using hb
 rw [OX];refine aa.use (Qg m.len _) ?_;rintro v8 s9 ⟨rfl,e9⟩ w9;have p:=c5.ext e9;have w:=(M.ext.trans O).trans e9;refine ⟨_,rfl,af.mk (fun hb=>⟨?_,w⟩) (fun hb=>⟨m.ev.id.r,by rw [p.av];rfl,?_⟩)⟩
 ·simp only [Bool.not_eq_true'] at hb;simp [sH,hb]
 have hv:tQ m.ev.jP=true:=by simpa using hb
 obtain ⟨hr,D⟩:=Cp C;dsimp only;rw [hr];have hx:ag T aY (.ptr (some (l1,4))) (.int .i64 ((m.ev.id.r.toNat - 1:Nat):Int))=some (.ptr (some (l1,4+(m.ev.id.r.toNat - 1)))):=by
  rw [Qw (by omega)];simp
 refine ⟨_,_,hx,_,by rw [p.av,A_ m D],m.ev.id.c,by rw [p.av];rfl,af.mk (fun hb=>⟨?_,w⟩) (fun hb=>?_)⟩
 ·have:xp m.ev=false:=decide_eq_false (bne_iff_ne.1 hb);simp [sH,this]
 have hp:xp m.ev=true:=decide_eq_true (by rw [bne_eq_false_iff_eq] at hb;exact hb);refine ⟨m.ev.dV,by rw [p.av];rfl,?_⟩;refine aa.use (u6 _ _) ?_;rintro ab eE ⟨rfl,rfl⟩ Q;have e:=h.ext w;refine ⟨_,rfl,af.mk (fun hb=>⟨?_,w⟩) (fun hb=>⟨m.pv,by rw [p.av];rfl,_,e.1.cI aL _,af.dec (fun F=>⟨?_,w⟩) (fun F=>⟨m.tv,by rw [p.av,qW],_,e.2.cI fK _,af.dec (fun z=>⟨?_,w⟩) (fun z=>⟨m.tv,by rw [p.av,qW],_,e.2.cI fK _,?_⟩)⟩)⟩)⟩
 ·have:aK m.ev.dV=false:=by simpa using hb
  simp [sH,this]
 ·simp [sH,show ¬ m.ev.u5.length<=512 by omega]
 ·simp [sH,show ¬ m.ev.to.length<=1024 by omega]
 have hn:aK m.ev.dV=true:=by simpa using hb
 have G:sH m.ev=xo m.ev.to:=by
  simp [sH,C,hv,hp,hn,show m.ev.u5.length<=512 by omega,show m.ev.to.length<=1024 by omega]
 rw [G];refine ⟨fun m' vs s'=>∃ i:Nat,vs=[.bool true,.int .i64 (i:Nat)]/\i<=m.ev.to.length/\m'=m.ev.to.length - i/\Ext eE s'/\aM s'/\(List.range i).all (u7 m.ev.to)=true,m.ev.to.length,⟨0,rfl,by omega,rfl,Ext.refl _,Q,rfl⟩,?_⟩;rintro m' b n mu ⟨i,hi,h6,rfl,A,R,x⟩;simp only [List.cons.injEq,AV.int.injEq,AV.bool.injEq,true_and,and_true] at hi;obtain ⟨rfl,rfl⟩:=hi;refine af.dec (fun ad=>?_) (fun ae=>?_)
 ·obtain ⟨y,H⟩:=de (l:=m.ev.to) (i:=i) (by omega);obtain ⟨la,o,h8,h9⟩:=e.2.ix (by decide) en fK BH H;refine ⟨la,o,h8 _,_,(h9 _ A).2,lq R (en y) rfl (tK y) fun al mK B=>?_⟩;have k:=A.trans B.ext;refine ⟨fun vs s'=>vs=[.bool (u7 m.ev.to i)]/\Ext mK s'/\aM s',?_,?_⟩
  ·rintro b am ⟨hb,I,S⟩;simp only [List.cons.injEq,AV.bool.injEq,and_true] at hb;subst hb;refine af.mk (fun hb=>⟨?_,w.trans (k.trans I)⟩) (fun hb=>?_)
   ·have j:u7 m.ev.to i=false:=by simpa using hb
    rw [j];congr 1;symm;rw [xo,List.all_eq_false];exact ⟨i,by simp;omega,by simp [j]⟩
   ·have j:u7 m.ev.to i=true:=by simpa using hb
    refine ⟨m.ev.to.length - (i+1),by omega,i+1,by rw [j,Cj (by omega)],by omega,rfl,k.trans I,S,?_⟩;rw [List.range_succ,List.all_append,x];simp [j]
  ·refine ⟨_,B.own.at.aD (by rw [en];omega),?_⟩;rw [show ((ru y).drop 0).take 2=aN y.dot from rfl];refine aa.use (Co _ _) ?_;rintro an ao ⟨rfl,d⟩ U;have J:=(B.own.ext d).at;refine ⟨_,rfl,af.mk (fun K=>⟨y.dev,by rw [J.av];rfl,?_⟩) (fun K=>⟨by simp [u7,H,K],d,U⟩)⟩;refine aa.use (u6 _ _) ?_;rintro ap ar ⟨rfl,rfl⟩ L;refine ⟨_,rfl,af.mk (fun h2=>af.mk (fun h3=>⟨?_,d,L⟩) (fun h3=>?_)) (fun h2=>⟨by simp [u7,H,K,h2],d,L⟩)⟩
   ·obtain rfl:i=0:=by simp at h3;omega
    simp [u7,H,K,h2]
   ·have W:i≠0:=by simp at h3;omega
    obtain ⟨u,hu⟩:=de (l:=m.ev.to) (i:=i - 1) (by omega);obtain ⟨lu,ou,k8,k9⟩:=e.2.ix (by decide) en fK BH hu;have X:IntKind.wrap .i64 ((i:Int) - 1)=((i - 1:Nat):Int):=by rw [aW (by omega)];omega
    rw [X];refine ⟨m.tv,by rw [((p.ext (k.trans d))).av,qW],lu,ou,k8 _,aN u.dot,?_,_,J.aD (by rw [en];omega),?_⟩
    ·exact rU (k9 _ (k.trans d)).2 (by omega)
    ·rw [show ((ru y).drop 0).take 2=aN y.dot from rfl];refine aa.use (Sh _ _ _) ?_;rintro aw a0 ⟨rfl,Y⟩ Z;exact ⟨_,rfl,by simp [u7,H,K,h2,W,hu],d.trans Y,Z⟩
 ·obtain rfl:i=m.ev.to.length:=by omega
  exact ⟨by rw [xo,x],w.trans A⟩
def under (v:List Int) (d:aJ):Bool:=d.may&&decide (v.getD (d.r.toNat - 1) 0>=d.c)
theorem Si {v:List Int} (hv:v.length=16) (d:aJ) (s:AS):aa Tryz.prog si [.agg (v.map (.int .u64)),.agg (aN d)] s fun r s'=>r=.bool (under v d)/\Ext s s':=by
 refine aa.pre fun n=>Gu _ _ _ _ ⟨bT _ _,aj.intro n rfl fun l1 s2 e=>⟨rfl,aj.intro e.wf rfl fun l3 s4 b=>⟨_,b.own.at.aD (by simp [aN]),?_⟩⟩⟩;refine aa.use (Co _ _) ?_;rintro p s7 ⟨rfl,j⟩ w;have k:=(e.ext.trans b.ext).trans j;have l:=(b.own.ext j).at;have o:=((e.own.ext b.ext).ext j).at;refine ⟨_,rfl,af.mk (fun hb=>⟨d.r,by rw [l.av];rfl,?_⟩) (fun hb=>⟨by simp [under,hb],k⟩)⟩;obtain ⟨hr,m⟩:=Cp hb;dsimp only;rw [hr];exact ⟨_,_,Qw (by omega),_,o.Pu (i:=d.r.toNat - 1) (by omega) (by simp),d.c,by rw [l.av];rfl,by simp [under,hb],k⟩
def iV (l:List Ci) (dev:List UInt8):List aJ:=(l.filter fun t=>t.dev==dev).map Ci.dot
theorem V9 {s:AS} {m:nU} (h:Bc s m) (D:m.ev.to.length<=2 ^ 29) (dev:List UInt8):aa Tryz.prog yQ [.agg (iA m),.str dev] s fun r s'=>aU aN 2 [] s s' r (iV m.ev.to dev):=by
 refine aa.pre fun k=>Nl _ _ _ _ ⟨dU m,aj.intro k rfl fun l1 s2 d=>?_⟩;have h2:=h.ext d.ext;refine ⟨m.tv,by rw [d.own.at.av,qW],_,h2.2.cI fK _,fun m' vs s'=>∃ (i:Nat) (v:AV),vs=[v,.int .i64 (i:Nat)]/\i<=m.ev.to.length/\m'=m.ev.to.length - i/\aM s'/\aU aN 2 [] s s' v (iV (m.ev.to.take i) dev),m.ev.to.length,⟨0,_,rfl,by omega,rfl,d.wf,aU.start d.ext.mut⟩,?_⟩;rintro m' n F p ⟨i,v,hi,G,rfl,e,c⟩;simp only [List.cons.injEq,AV.int.injEq,true_and,and_true] at hi;obtain ⟨rfl,rfl⟩:=hi;refine af.dec (fun w=>?_) (fun x=>?_)
 ·obtain ⟨y,j⟩:=de (l:=m.ev.to) (i:=i) (by omega);obtain ⟨la,o,z,A⟩:=h.2.ix (by decide) en fK BH j;have ht:m.ev.to.take (i+1)=m.ev.to.take i++[y]:=by rw [List.take_add_one,j];rfl
  have hlen:(iV (m.ev.to.take i) dev).length<=i:=by
   simp only [iV,List.length_map];exact Nat.le_trans (List.length_filter_le _ _) (by rw [List.length_take];omega)
  refine ⟨la,o,z _,_,(A _ c.eL.ext).2,lq e (en y) rfl (tK y) fun lC B b=>⟨y.dev,by rw [b.own.at.av];rfl,af.mk (fun hb=>?_) (fun hb=>?_)⟩⟩
  ·refine ⟨_,b.own.at.aD (by rw [en];omega),?_⟩;rw [show ((ru y).drop 0).take 2=aN y.dot from rfl];refine aU.iY iK bn mE b.wf (c.step b.ext) (by simp) y.dot (by omega) fun v' s' C w' _=>⟨m.ev.to.length - (i+1),by omega,i+1,v',by rw [Cj (by omega)],by omega,rfl,w',?_⟩;rw [ht,iV,List.filter_append,List.map_append];simp only [List.filter_cons,hb,if_true,List.filter_nil,List.map_cons,List.map_nil];exact C
  ·refine ⟨m.ev.to.length - (i+1),by omega,i+1,n,by rw [Cj (by omega)],by omega,rfl,b.wf,?_⟩;rw [ht,iV,List.filter_append];simp only [List.filter_cons,hb,List.filter_nil,Bool.false_eq_true,if_false,List.append_nil];exact c.step b.ext
 ·rw [List.take_of_length_le (by omega)] at c;exact c
end Go.Proofs.YtohgmogbabkkeaaGreat
end

section
namespace Go.Proofs.YtohgmogbabkkeaaGreat
open Go.Am Go.au Go.aC Go.bL
/-! ### marks of objects -/
def Tag (s:AS) (y g:Nat):Prop:=∃ cs,s.h y=some (.cells cs g false)
theorem Tag.uniq {s:AS} {y a b:Nat} (h:Tag s y a) (c:Tag s y b):a=b:=by
 obtain ⟨cs,h⟩:=h;obtain ⟨cs',c⟩:=c;rw [h] at c;simp only [Option.some.injEq,AO.cells.injEq] at c;exact c.2.1
theorem br.tag {α:Type} {f:α->List AV} {sz:Nat} {s:AS} {v:AV} {l:List α} (h:br f sz s v l):∀ y∈ay v,Tag s y sz:=by
 intro y b;rcases h with ⟨_,a,rfl⟩ | ⟨la,rfl,h⟩
 ·simp [ay] at b
 ·obtain rfl:y=la:=by simpa [ay] using b
  exact ⟨_,h⟩
theorem Own.tag {s:AS} {l:Nat} {cs:List AV} (h:Am.Own s l cs):Tag s l 0:=⟨cs,h⟩
theorem Tag.there {s:AS} {y g:Nat} (h:Tag s y g):s.h y≠none:=by
 obtain ⟨cs,h⟩:=h;rw [h];simp
theorem br.e_ {α:Type} {f:α->List AV} {sz:Nat} {s s':AS} {v:AV} {l:List α} {L:List Nat} (h:br f sz s v l) (m:bD L s s') (b:∀ y∈L,∀ g,Tag s y g->g≠sz):br f sz s' v l :=
 h.mut m fun y c hm=>b y hm sz (br.tag h y c) rfl
theorem br.k7 {α:Type} {f:α->List AV} {sz:Nat} {s:AS} {v:AV} {l:List α} (h:br f sz s v l):∀ y∈ay v,s.h y≠none:=fun y b=>(br.tag h y b).there
/-! ### events in memory of one's own -/
def j9 (F:List Nat) (s:AS) (m:nU):Prop:=br qg 1 s m.pv m.ev.u5/\br ru 3 s m.tv m.ev.to/\∀ y,y∈ay m.pv\/y∈ay m.tv->y∈F
theorem j9.at {F:List Nat} {s:AS} {m:nU} (h:j9 F s m):Bc s m:=⟨h.1.sl bU,h.2.1.sl en⟩
theorem j9.mut {F:List Nat} {s s':AS} {m:nU} {L:List Nat} (h:j9 F s m) (e:bD L s s') (c:∀ y∈L,y ∉ F):j9 F s' m :=
 ⟨h.1.mut e fun y b hm=>c y hm (h.2.2 y (.inl b)),h.2.1.mut e fun y b hm=>c y hm (h.2.2 y (.inr b)),h.2.2⟩
theorem j9.ext {F:List Nat} {s s':AS} {m:nU} (h:j9 F s m) (e:Ext s s'):j9 F s' m:=h.mut (L:=[]) e.mut (by simp)
theorem j9.sub {F F':List Nat} {s:AS} {m:nU} (h:j9 F s m) (b:∀ y∈F,y∈F'):j9 F' s m:=⟨h.1,h.2.1,fun y c=>b y (h.2.2 y c)⟩
theorem j9.e_ {F:List Nat} {s s':AS} {m:nU} {L:List Nat} (h:j9 F s m) (e:bD L s s') (c:∀ y∈L,∀ g,Tag s y g->g≠1/\g≠3):j9 F s' m :=
 ⟨br.e_ h.1 e fun y b g t=>(c y b g t).1,br.e_ h.2.1 e fun y b g t=>(c y b g t).2,h.2.2⟩
def nU.set (m:nU) (v w:AV) (b:v.one=true) (h2:w.one=true):nU:=⟨m.ev,v,w,m.len,b,h2⟩
theorem T7 (m:nU) (v w:AV) (b:v.one=true) (h2:w.one=true):((iA m).set 3 v).set 20 w=iA (m.set v w b h2):=by
 have c:=m.len;simp only [iA,nU.set];rw [List.set_append,if_pos (by simp),List.set_append,if_neg (by simp)];simp [List.set_append,c]
theorem nV:Bx T bS ig 21 208:=⟨eK,z5,Tt,⟨_,_,KJ,rfl,rfl⟩,by decide,by decide⟩
theorem gU:Bx T a_ aY 16 128:=⟨dN,tj,Rw,⟨_,_,Py,rfl,rfl⟩,by decide,by decide⟩
theorem Qh {s:AS} {v:AV} {l:List Ci} (b:Sl ru 3 s v l) (i:l.length<=2 ^ 30):aa Tryz.prog bC [v] s fun r s'=>aU ru 3 [] s s' r l:=by
 refine aa.pre fun j=>qa _ _ _ ?_;have main:aR (cV T bR 0 []) fun k=>aj (.cells k 0 false) s fun l3 s4=>iD (aI T bR bR (.slc (some (l3,0)) 0 0 true) v s4) fun m s6=>aU ru 3 [] s s6 m l:=by
  refine ⟨_,zW tM,aj.intro j rfl fun l3 s4 F=>?_⟩;refine aU.kK tM en tK F.wf (aU.start (M:=[]) F.ext.mut) (by simp) (b.ext F.ext) (by simpa using i) fK fun v' s' g _ _=>?_;simpa using g
 rcases b with ⟨rfl,_,d⟩ | ⟨a,c,e,rfl,hlen,h3⟩
 ·refine ⟨_,rF fK _ _ _ _,af.no rfl main⟩
 ·refine ⟨_,rE fK _ _ _ _ _ _ _ _,af.mk (fun h=>?_) (fun _=>main)⟩;have:a=none:=by simpa using h
  subst this;have:l=[]:=by
   rcases h3 with h3 | ⟨la,o,C,h,_⟩
   ·exact List.length_eq_zero_iff.1 h3
   ·cases h
  subst this;exact aU.nil
set_option maxRecDepth 20000 in
theorem FR {s:AS} {m:nU} (h:Bc s m) (R:m.ev.u5.length<=2 ^ 30) (h2:m.ev.to.length<=2 ^ 30):aa Tryz.prog ee [.agg (iA m)] s fun r s'=>∃ (m':nU) (F:List Nat),m'.ev=m.ev/\r=.agg (iA m')/\j9 F s' m'/\(∀ y∈F,s.h y=none)/\(∀ y∈F,s'.h y≠none)/\Ext s s':=by
 refine aa.pre fun S=>IG _ _ _ ⟨dU m,aj.intro S rfl fun l1 s2 w=>aj.intro w.wf rfl fun l3 s4 A=>?_⟩;have D:=w.ext.trans A.ext;have ev:=bq m;have G:=w.own.ext A.ext;have h4:=h.ext D;have d13:l1≠l3:=fun e=>by
  have:=A.no;rw [<- e,w.own] at this;cases this
 refine ⟨fun q _ v s'=>(q=2->aU qg 1 [] s4 s' v m.ev.u5)/\(q=5->aU ru 3 [] s4 s' v m.ev.to),fun q _ v=>v.one=true,fun q _ v s s' e g=>⟨fun I=>(g.1 I).step e,fun I=>(g.2 I).step e⟩,m.pv,by rw [G.at.av];rfl,fun s6 M Y _=>?_,⟨_,m.p1⟩,fun B l=>⟨m.tv,by rw [G.at.av,qW],fun U C W _=>?_,⟨_,m.t1⟩,fun n c gu x J O=>?_⟩⟩
 ·refine (Cn (h4.1.ext M) R).mono ?_;intro v s' g;exact ⟨g.eL.ext,⟨(fun _=>aU.back g M),(fun h=>by cases h)⟩,g.iX.2⟩
 ·refine (Qh (h4.2.ext C) h2).mono ?_;intro v s' g;exact ⟨g.eL.ext,⟨(fun h=>by cases h),(fun _=>aU.back g C)⟩,g.iX.2⟩
 have o:=O.1.1 rfl;have b:=O.2.1.2 rfl;have p:∀ {v:AV} {f:Nat},(∀ la∈ay v,s4.h la=none)->∀ y∈ay v,y ∉ [l1]:=fun h y d hm=>by
  obtain rfl:=List.mem_singleton.1 hm;have:=h y d;rw [G] at this;cases this
 have H:∀ {v:AV} {f:Nat},(∀ la∈ay v,s4.h la=none)->∀ y∈ay v,y ∉ [l3]:=fun h y d hm=>by
  obtain rfl:=List.mem_singleton.1 hm;have:=h y d;rw [A.own] at this;cases this
 refine cM l qq (bt.own J (G.ext x) (by simp [ev]) fun lK i=>?_);have K:Am.Own lK l1 ((iA m).set 3 B):=i.at;refine cM c Rx (bt.own i.wf K (by simp [ev]) fun eE j=>?_);have L:Am.Own eE l1 (iA (m.set B n l c)):=by
  have:=j.at;rw [fy,T7 m B n l c] at this;exact this
 have z:=bq (m.set B n l c);have X:=((A.own.ext x).mut i.mut (by simpa using Ne.symm d13)).mut j.mut (by simpa using Ne.symm d13);refine ⟨_,L.at.aD (by omega),?_⟩;rw [gJ];refine ⟨⟨dU _,by rw [z]⟩,bt.own j.wf X (by rw [z];simp) fun gi k=>?_⟩;have Q:=k.at;rw [dz (by rw [z];simp)] at Q;refine ⟨_,At.aD ⟨_,_,Q⟩ (by omega),m.set B n l c,ay B++ay n,rfl,by rw [gJ],⟨?_,?_,fun y d=>List.mem_append.2 d⟩,?_,?_,Ext.wr (Ext.wr (Ext.wr (D.trans x) w.no i.mut) w.no j.mut) (w.ext.none A.no) k.mut⟩
 ·exact ((o.vq.mut i.mut (p (f:=0) o.new)).mut j.mut (p (f:=0) o.new)).mut k.mut (H (f:=0) o.new)
 ·exact ((b.vq.mut i.mut (p (f:=0) b.new)).mut j.mut (p (f:=0) b.new)).mut k.mut (H (f:=0) b.new)
 ·intro y d;rcases List.mem_append.1 d with d | d
  ·exact D.none (o.new y d)
  ·exact D.none (b.new y d)
 ·intro y d;rcases List.mem_append.1 d with d | d
  ·exact br.k7 (((o.vq.mut i.mut (p (f:=0) o.new)).mut j.mut (p (f:=0) o.new)).mut k.mut (H (f:=0) o.new)) y d
  ·exact br.k7 (((b.vq.mut i.mut (p (f:=0) b.new)).mut j.mut (p (f:=0) b.new)).mut k.mut (H (f:=0) b.new)) y d
/-! ### the caster -/
structure iM where
 v:List Int
 log:List Ev
 JF:List (List Int)
 held:aJ->Option Ev
 nh:Nat
def iM.zero:iM:=⟨dD,[],[],fun _=>none,0⟩
structure F_ where
 v:List Int
 len:v.length=16
def ry (m:F_):List AV:=m.v.map (.int .u64)
theorem cG (m:F_):(ry m).length=16:=by simp [ry,m.len]
theorem oh (m:F_):(ry m).all AV.one=true:=bT _ _
def gh (v:List Int) (lg bh hd:AV):List AV:=[.int .i64 3,.int .i64 1]++(v.map (.int .u64)++[lg,bh,hd])
def Xc (m:nU):AV:=.agg (iA m)
structure kH (F:List Nat) (s:AS) (p:Nat) (c:iM):Prop where
 len:c.v.length=16
 mem:∃ (lg bh:AV) (hm:Nat) (L:List nU) (B:List F_) (es:List (aJ×nU×Nat)) (k:Nat),
  Am.Own s p (gh c.v lg bh (.map (some hm)))/\p∈F/\hm∈F /\
  (br iA 21 s lg L/\(∀ y∈ay lg,y∈F)/\L.map nU.ev=c.log/\∀ m∈L,j9 F s m) /\
  (br ry 16 s bh B/\(∀ y∈ay bh,y∈F)/\B.map F_.v=c.JF) /\
  eM dK Xc s hm es k false/\(∀ d,(ec es d).map nU.ev=c.held d)/\es.length=c.nh/\∀ e∈es,j9 F s e.2.1
section
variable {F F':List Nat} {s s':AS} {p:Nat} {c:iM}
theorem kH.mut {L:List Nat} (h:kH F s p c) (m:bD L s s') (d:∀ y∈L,y ∉ F):kH F s' p c:=by
 obtain ⟨l,lg,bh,hm,n,B,es,k,o,h2,h3,⟨a1,a2,a3,a4⟩,⟨r,j,w⟩,z,c2,A,C⟩:=h;exact ⟨l,lg,bh,hm,n,B,es,k,o.mut m (fun b=>d p b h2),h2,h3,⟨a1.mut m (fun y i b=>d y b (a2 y i)),a2,a3,fun x b=>(a4 x b).mut m d⟩,⟨r.mut m (fun y i b=>d y b (j y i)),j,w⟩,z.mut m (fun b=>d hm b h3),c2,A,fun e D=>(C e D).mut m d⟩
theorem kH.ext (h:kH F s p c) (e:Ext s s'):kH F s' p c:=h.mut (L:=[]) e.mut (by simp)
end
theorem oR {v:List Int} (h:v.length=16) (lg bh hd:AV):(gh v lg bh hd).length=21:=by simp [gh,h]
theorem JG {v:List Int} (h:v.length=16) (lg bh hd:AV) {i:Nat} (hi:i<16):(gh v lg bh hd)[2+i]? = some (.int .u64 (v.getD i 0)):=by
 rw [gh,List.getElem?_append_right (by simp),List.getElem?_append_left (by simp;omega),List.getElem?_map,List.getElem?_eq_getElem (by simp;omega),List.getD_eq_getElem?_getD];simp [List.getElem?_eq_getElem (show i<v.length by omega)]
theorem zn {v:List Int} (h:v.length=16) (lg bh hd:AV):(gh v lg bh hd)[18]? = some lg/\(gh v lg bh hd)[19]? = some bh/\(gh v lg bh hd)[20]? = some hd:=by
 refine ⟨?_,?_,?_⟩ <;>
 ·rw [gh,List.getElem?_append_right (by simp),List.getElem?_append_right (by simp;omega)];simp [h]
theorem Bd {v:List Int} (h:v.length=16) (lg bh hd:AV):((gh v lg bh hd).drop 2).take 16=v.map (.int .u64):=by
 rw [gh,List.drop_append_of_le_length (by simp)];simp [List.take_append_of_le_length,h]
theorem HJ {v:List Int} (h:v.length=16) (lg bh hd:AV) {i:Nat} (hi:i<16) (x:Int):(gh v lg bh hd).set (2+i) (.int .u64 x)=gh (v.set i x) lg bh hd:=by
 rw [gh,gh,List.set_append,if_neg (by simp),List.set_append,if_pos (by simp;omega),List.map_set];simp
theorem Qi {v:List Int} (h:v.length=16) (lg bh hd b c:AV):((gh v lg bh hd).set 18 b).set 19 c=gh v b c hd:=by
 simp [gh,List.set_append,h]
theorem Cq {t k e:TypeId} (hu:T.cR t=some (.map k e)) (r:Option Nat):iB T 100 t (.map r) (.map none)=some r.isNone:=by
 cases r <;> simp [iB,hu]
section
variable {F:List Nat} {s:AS} {p:Nat} {c:iM}
theorem xL (h:kH F s p c):aa Tryz.prog dg [.ptr (some (p,0))] s fun r s'=>r=.bool true/\s'=s:=by
 obtain ⟨b,lg,bh,hm,e,B,es,k,d,_⟩:=h;exact pP _ _ _ ⟨_,dn iI _,af.yes rfl ⟨_,by rw [d.at.av,(zn b lg bh _).2.2],_,Cq yu _,rfl,rfl⟩⟩
theorem T8 (h:kH F s p c):aa Tryz.prog lV [.ptr (some (p,0))] s fun r s'=>r=.int .i64 (c.log.length:Nat)/\s'=s:=by
 refine z9 _ _ _ ?_;refine aa.use (xL h) ?_;rintro v s2 ⟨rfl,rfl⟩ _;obtain ⟨b,lg,bh,hm,e,B,es,k,d,_,_,⟨a1,_,a3,_⟩,_⟩:=h;refine ⟨_,rfl,af.no rfl ⟨lg,by rw [d.at.av,(zn b lg bh _).1],_,(a1.sl bq).cI eK _,?_,rfl⟩⟩;rw [<- a3,List.length_map]
def iz (e:Ev):Bool:=sH e&&decide (e.id.r<=3)&&(e.jP.drop 3).all fun n=>decide (n=0)
set_option maxRecDepth 20000 in
theorem Vs (h:kH F s p c) {m:nU} (hm:Bc s m):aa Tryz.prog lX [.ptr (some (p,0)),.agg (iA m)] s fun r s'=>r=.bool (iz m.ev)/\Ext s s':=by
 have ev:=bq m;refine aa.pre fun U=>Ab _ _ _ _ ⟨dU m,aj.intro U rfl fun l1 s2 G=>⟨_,G.own.at.aD (by omega),?_⟩⟩;rw [gJ];refine aa.use (T6 (hm.ext G.ext)) ?_;rintro v4 M ⟨rfl,O⟩ w5;have z:=G.ext.trans O;obtain ⟨hl,lg,bh,vS,L',B,es,k,Q,_⟩:=h.ext z;have A:=(G.own.ext O).at;refine ⟨_,rfl,af.mk (fun hb=>⟨?_,z⟩) (fun hb=>⟨m.ev.id.r,by rw [A.av];rfl,3,by rw [Q.at.av];rfl,af.dec (fun H=>⟨?_,z⟩) (fun H=>⟨m.ev.id.r,by rw [A.av];rfl,?_⟩)⟩)⟩
 ·simp only [Bool.not_eq_true'] at hb;simp [iz,hb]
 ·simp [iz,show ¬ m.ev.id.r<=3 by omega]
 have C:sH m.ev=true:=by simpa using hb
 have b:=C;simp only [sH,Bool.and_eq_true] at b;have I:m.ev.id.may=true:=b.1.1.1.1.1.1;have j:xp m.ev=true:=b.1.1.1.1.2;obtain ⟨hr,D⟩:=Cp I;dsimp only;rw [hr];have W:ag T aY (.ptr (some (l1,4))) (.int .i64 ((m.ev.id.r.toNat - 1:Nat):Int))=some (.ptr (some (l1,4+(m.ev.id.r.toNat - 1)))):=by
  rw [Qw (by omega)];simp
 have d:(m.ev.jP.drop 3).all (fun n=>decide (n=0))=iz m.ev:=by simp [iz,C,show m.ev.id.r<=3 by omega]
 refine ⟨_,_,W,_,by rw [A.av,A_ m D],m.ev.id.c,by rw [A.av];rfl,af.no (bne_eq_false_iff_eq.2 (of_decide_eq_true j)) ⟨3,by rw [Q.at.av];rfl,?_⟩⟩;have X:=m.len;have e:(m.ev.jP.drop 3).length=13:=by rw [List.length_drop];omega
 have J:aZ T aY (.ptr (some (l1,4))) (some (.int .i64 3)) none none=some (.slc (some (l1,7)) 13 13 true):=by
  simp only [aZ,wJ,jz,Option.bind_some];rfl
 have R:Sl wW 1 M (.slc (some (l1,7)) 13 13 true) (m.ev.jP.drop 3):=by
  have S:∀ v:List Int,v.flatMap wW=v.map (.int .u64):=fun v=>by
   induction v with
   | nil=>rfl
   | cons x xs Y=>rw [List.flatMap_cons,Y];rfl
  refine (cq.mk (n:=13) (c:=13) A (by rw [S,List.length_map,e]) ?_) |> (e ▸ ·);have:=OX m;rw [S,List.map_drop,<- this,List.drop_take,List.drop_drop]
 refine ⟨_,J,_,R.cI jA _,fun m' vs s'=>∃ i:Nat,vs=[.int .i64 (i:Nat)]/\i<=(m.ev.jP.drop 3).length/\m'=(m.ev.jP.drop 3).length - i/\s'=M/\((m.ev.jP.drop 3).take i).all (fun n=>decide (n=0))=true,(m.ev.jP.drop 3).length,⟨0,rfl,by omega,rfl,rfl,rfl⟩,?_⟩;rintro m' n dW ⟨i,hi,h6,rfl,rfl,w⟩;simp only [List.cons.injEq,AV.int.injEq,true_and,and_true] at hi;subst hi;refine af.dec (fun Z=>?_) (fun ab=>⟨?_,z⟩)
 ·obtain ⟨y,K⟩:=de (l:=m.ev.jP.drop 3) (i:=i) (by omega);obtain ⟨la,o,h8,h9⟩:=R.ix (by decide) tO jA jz K;refine ⟨la,o,h8 _,y,by simpa [wW] using (h9 _ (Ext.refl _)).1 0 (by decide),af.mk (fun L=>⟨?_,z⟩) (fun L=>⟨(m.ev.jP.drop 3).length - (i+1),by omega,i+1,by rw [Cj (by omega)],by omega,rfl,rfl,?_⟩)⟩
  ·rw [<- d];congr 1;symm;rw [List.all_eq_false];exact ⟨y,List.mem_of_getElem? K,by simpa using L⟩
  ·rw [List.take_add_one,K,List.all_append,w];simpa using L
 ·rw [List.take_of_length_le (by omega)] at w;rw [<- d,w]
end
end Go.Proofs.YtohgmogbabkkeaaGreat
end

section
namespace Go.Proofs.YtohgmogbabkkeaaGreat
open Go.Am Go.au Go.aC Go.bL
def xq (p:Nat) (s s':AS):Prop:=∀ l cs g,s.h l=some (.cells cs g false)->g≠21->g≠16->(g=0->l≠p)->s'.h l=some (.cells cs g false)
theorem xq.trans {p:Nat} {a b c:AS} (h:xq p a b) (i:xq p b c):xq p a c:=fun l cs g e d h2 h3=>i l cs g (h l cs g e d h2 h3) d h2 h3
theorem Ext.e_ {p:Nat} {a b:AS} (h:Ext a b):xq p a b:=fun l cs g e _ _ _=>h.1 l _ e
theorem br.OY {α:Type} {f:α->List AV} {sz p:Nat} {s s':AS} {v:AV} {l:List α} (h:br f sz s v l) (k:xq p s s') (b:sz≠21) (h2:sz≠16) (h3:sz≠0):br f sz s' v l:=by
 rcases h with ⟨h,a,rfl⟩ | ⟨la,rfl,h⟩
 ·exact .inl ⟨h,a,rfl⟩
 ·exact .inr ⟨la,rfl,k _ _ _ h b h2 (fun e=>absurd e h3)⟩
def JN (m:nU):List Nat:=ay m.pv++ay m.tv
theorem j9.JN {F:List Nat} {s:AS} {m:nU} (h:j9 F s m):∀ y∈JN m,s.h y≠none:=fun y b=>by
 rcases List.mem_append.1 b with b | b
 ·exact br.k7 h.1 y b
 ·exact br.k7 h.2.1 y b
theorem kH.JH {F:List Nat} {s:AS} {p:Nat} {c:iM} (h:kH F s p c):∃ F0,kH F0 s p c/\(∀ y∈F0,y∈F)/\(∀ y∈F0,s.h y≠none)/\∀ y∈F0,y≠p->¬ Tag s y 0:=by
 obtain ⟨w,lg,bh,hm,L,B,es,k,r,h2,h3,⟨a1,a2,a3,a4⟩,⟨l,x,z⟩,n,c2,A,i⟩:=h;refine ⟨p::hm::(ay lg++(ay bh++(L.flatMap JN++es.flatMap fun e=>JN e.2.1))),⟨w,lg,bh,hm,L,B,es,k,r,by simp,by simp,⟨a1,fun y b=>by simp [b],a3,fun m hm=>⟨(a4 m hm).1,(a4 m hm).2.1,fun y b=>?_⟩⟩,⟨l,fun y b=>by simp [b],z⟩,n,c2,A,fun e d=>⟨(i e d).1,(i e d).2.1,fun y b=>?_⟩⟩,?_,?_,?_⟩
 ·have:y∈L.flatMap JN:=List.mem_flatMap.2 ⟨m,hm,List.mem_append.2 b⟩;simp [this]
 ·have:y∈es.flatMap fun e=>JN e.2.1:=List.mem_flatMap.2 ⟨e,d,List.mem_append.2 b⟩;simp only [List.mem_cons,List.mem_append,this,or_true]
 ·intro y b;simp only [List.mem_cons,List.mem_append] at b;rcases b with rfl | rfl | b | b | b | b
  ·exact h2
  ·exact h3
  ·exact a2 y b
  ·exact x y b
  ·obtain ⟨m,hm,b⟩:=List.mem_flatMap.1 b;exact (a4 m hm).2.2 y (List.mem_append.1 b)
  ·obtain ⟨e,d,b⟩:=List.mem_flatMap.1 b;exact (i e d).2.2 y (List.mem_append.1 b)
 ·intro y b;simp only [List.mem_cons,List.mem_append] at b;rcases b with rfl | rfl | b | b | b | b
  ·rw [r];simp
  ·rw [n.obj];simp
  ·exact br.k7 a1 y b
  ·exact br.k7 l y b
  ·obtain ⟨m,hm,b⟩:=List.mem_flatMap.1 b;exact (a4 m hm).JN y b
  ·obtain ⟨e,d,b⟩:=List.mem_flatMap.1 b;exact (i e d).JN y b
 ·intro y b o ht;have j:∀ {F:List Nat} {m:nU},j9 F s m->y∈JN m->False:=fun h b=>by
   rcases List.mem_append.1 b with b | b
   ·have:=ht.uniq (br.tag h.1 y b);omega
   ·have:=ht.uniq (br.tag h.2.1 y b);omega
  simp only [List.mem_cons,List.mem_append] at b;rcases b with rfl | rfl | b | b | b | b
  ·exact o rfl
  ·obtain ⟨cs,ht⟩:=ht;rw [n.obj] at ht;cases ht
  ·have:=ht.uniq (br.tag a1 y b);omega
  ·have:=ht.uniq (br.tag l y b);omega
  ·obtain ⟨m,hm,b⟩:=List.mem_flatMap.1 b;exact j (a4 m hm) b
  ·obtain ⟨e,d,b⟩:=List.mem_flatMap.1 b;exact j (i e d) b
theorem kH.tight {F:List Nat} {s:AS} {p:Nat} {c:iM} (h:kH F s p c):∃ F0,kH F0 s p c/\(∀ y∈F0,y∈F)/\∀ y∈F0,s.h y≠none:=by
 obtain ⟨F0,b,h2,h3,_⟩:=h.JH;exact ⟨F0,b,h2,h3⟩
theorem Qj (hm:Nat):aS T sx [(0,.int .i64 3),(1,.int .i64 1),(5,.map (some hm))]=some (.agg (gh dD (.slc none 0 0 true) (.slc none 0 0 true) (.map (some hm)))):=by kernel_rfl
theorem T9 (s:AS):aa Tryz.prog yN [.int .i64 3,.int .i64 1] s fun r s'=>∃ p F,r=.aP [.ptr (some (p,0)),.int .i64 0]/\kH F s' p iM.zero/\(∀ y∈F,s.h y=none)/\(∀ y∈F,s'.h y≠none)/\Ext s s':=by
 refine aa.pre fun l=>M9 _ _ _ _ ⟨fun vs s'=>vs=[.bool false]/\s'=s,?_,af.no rfl (af.no rfl (af.no rfl ⟨rfl,rfl⟩))⟩;rintro b s3 ⟨hb,rfl⟩;obtain rfl:b=false:=by simpa using hb
 refine af.no rfl (aj.intro l rfl fun j m c=>⟨_,Qj j,rfl,aj.intro c.wf rfl fun k s8 e=>⟨k,[k,j],rfl,⟨rfl,_,_,j,[],[],[],0,e.own,by simp,by simp,⟨br.nil,by simp [ay],rfl,by simp⟩,⟨br.nil,by simp [ay],rfl⟩,eM.new (e.ext.1 _ _ c.at),fun d=>rfl,rfl,by simp⟩,?_,?_,c.ext.trans e.ext⟩⟩)
 ·intro y i;simp only [List.mem_cons,List.not_mem_nil,or_false] at i;rcases i with rfl | rfl
  ·exact c.ext.none e.no
  ·exact c.no
 ·intro y i;simp only [List.mem_cons,List.not_mem_nil,or_false] at i;rcases i with rfl | rfl
  ·rw [e.at];simp
  ·rw [e.ext.1 _ _ c.at];simp
theorem br.FT {α:Type} {f:α->List AV} {sz:Nat} (e:∀ x,(f x).length=sz) (i:0<sz) {s:AS} {v v':AV} {l l':List α} (h:br f sz s v l) (c:br f sz s v' l') (j:l.length≠l'.length):∀ y∈ay v,y ∉ ay v':=by
 intro y d b;rcases h with ⟨_,a,rfl⟩ | ⟨la,rfl,h⟩
 ·simp [ay] at d
 rcases c with ⟨_,a,rfl⟩ | ⟨lb,rfl,c⟩
 ·simp [ay] at b
 simp only [ay,List.mem_singleton] at d b;subst d;subst b;rw [h] at c;simp only [Option.some.injEq,AO.cells.injEq] at c;have:=congrArg List.length c.1;rw [d_ e,d_ e] at this;exact j (Nat.eq_of_mul_eq_mul_right i this)
theorem br.one {α:Type} {f:α->List AV} {sz:Nat} {s:AS} {v:AV} {l:List α} (h:br f sz s v l):v.one=true:=by
 rcases h with ⟨_,a,rfl⟩ | ⟨la,rfl,_⟩ <;> rfl
def iM.apply (c:iM) (e:Ev):iM:={ c with
 v:=c.v.set (e.id.r.toNat - 1) (IntKind.wrap .u64 (c.v.getD (e.id.r.toNat - 1) 0+1))
 log:=c.log++[e]
 JF:=c.JF++[c.v.set (e.id.r.toNat - 1) (IntKind.wrap .u64 (c.v.getD (e.id.r.toNat - 1) 0+1))] }
theorem Cr {α:Type} {f:α->List AV} {sz:Nat} (b:∀ x,(f x).length=sz) {s:AS} {l:Nat} {x:α} (h:At s l (f x)):Sl f sz s (.slc (some (l,0)) 1 1 true) [x] :=
 cq.mk h (by simp [b]) (by simp [List.take_of_length_le,b])
set_option maxRecDepth 20000 in
theorem Sj {F G:List Nat} {s:AS} {p:Nat} {c:iM} {m:nU} (h:kH F s p c) (hm:j9 G s m) (a9:m.ev.id.may=true) (hn:c.log.length+1<=2 ^ 29) (cb:c.JF.length+1<=2 ^ 29) :
  aa Tryz.prog jW [.ptr (some (p,0)),.agg (iA m)] s fun r s'=>r=.aP []/\∃ F',kH F' s' p (c.apply m.ev)/\bD F s s'/\(∀ y∈F',y∈F\/y∈G\/s.h y=none)/\(∀ y∈F',s'.h y≠none)/\xq p s s':=by
 have ev:=bq m;refine aa.pre fun hw=>xS _ _ _ _ ⟨dU m,aj.intro hw rfl fun l1 s2 U=>⟨m.ev.id.r,by rw [U.own.at.av];rfl,?_⟩⟩;obtain ⟨D,lg,bh,vS,L,B,es,k,W,h2,h3,⟨a1,a2,a3,a4⟩,⟨b1,b2,b3⟩,c1,c2,c3,c4⟩:=id h;obtain ⟨hr,z⟩:=Cp a9;have cc:L.length=c.log.length:=by rw [<- a3,List.length_map]
 have cd:B.length=c.JF.length:=by rw [<- b3,List.length_map]
 dsimp only;rw [hr];generalize hi:m.ev.id.r.toNat - 1=i at z ⊢;have o2:=W.ext U.ext;have n:ag T aY (.ptr (some (p,0+2))) (.int .i64 ((i:Nat):Int))=some (.ptr (some (p,2+i))):=by
  rw [Qw (by omega)];simp
 have a':=oR D lg bh (.map (some vS));refine ⟨_,_,n,_,by rw [o2.at.av,JG D lg bh _ z],_,_,n,bt.own U.wf o2 (by rw [a'];simp;omega) fun bP K=>?_⟩;generalize oX:c.v.set i (IntKind.wrap .u64 (c.v.getD i 0+1))=v';have A:v'.length=16:=by rw [<- oX,List.length_set,D]
 have j:Am.Own bP p (gh v' lg bh (.map (some vS))):=by
  have:=K.at;rw [fy,HJ D lg bh _ z,oX] at this;exact this
 have C:=oR A lg bh (.map (some vS));have H:bD [p] s bP:=U.ext.mut.trans K.mut;have d1:l1≠p:=fun e=>by
  have:=U.no;rw [e,W] at this;cases this
 have Z:Am.Own bP l1 (iA m):=U.own.mut K.mut (by simpa using d1);have t0:∀ y∈[p],∀ g,Tag s y g->g=0:=fun y d g t=>by
  obtain rfl:=List.mem_singleton.1 d;exact t.uniq (Own.tag W)
 have ab:br iA 21 bP lg L:=br.e_ a1 H fun y d g t=>by rw [t0 y d g t];decide
 have ad:br ry 16 bP bh B:=br.e_ b1 H fun y d g t=>by rw [t0 y d g t];decide
 have ta:=br.tag ab;have tb:=br.tag ad;have tL:∀ y∈ay lg++ay bh,∃ g,Tag bP y g/\(g=21\/g=16):=fun y d=>by
  rcases List.mem_append.1 d with d | d
  ·exact ⟨21,ta y d,.inl rfl⟩
  ·exact ⟨16,tb y d,.inr rfl⟩
 have hs:=zn A lg bh (.map (some vS))
 let Y:F_:=⟨v',A⟩
 refine ⟨fun a b=>(∀ l cs,Am.Own a l cs->Am.Own b l cs)/\(∀ v,br iA 21 a v (L++[m])->br iA 21 b v (L++[m]))/\bD (ay lg++ay bh) a b,fun q _ v s'=>(q=8->br ry 16 s' bh B)/\(q=18->br ry 16 s' v (B++[Y])),fun s'=>br iA 21 s' lg L/\br ry 16 s' bh B,
  fun q _ v s'=>(q=7->∃ l,v=.slc (some (l,0)) 1 1 true/\Am.Own s' l (iA m))/\(q=8->br iA 21 s' v (L++[m])/\∀ y∈ay v,y∈ay lg++ay bh\/bP.h y=none)/\(q=17->∃ l,v=.slc (some (l,0)) 1 1 true/\Am.Own s' l (ry Y))/\(q=18->∀ y∈ay v,y∈ay lg++ay bh\/bP.h y=none),
  fun q _ v=>(q=8\/q=18->v.one=true),fun a b e=>⟨fun l cs o=>o.ext e,fun v g=>g.ext e,e.mut⟩,fun a b c x y=>⟨fun l cs o=>y.1 l cs (x.1 l cs o),fun v g=>y.2.1 v (x.2.1 v g),x.2.2.trans y.2.2⟩,fun q _ v a b e g=>⟨fun w=>(g.1 w).ext e,fun w=>(g.2 w).ext e⟩,?_,fun a b e g=>⟨g.1.ext e,g.2.ext e⟩,⟨ab,ad⟩,?_⟩
 ·rintro q ks v a b ⟨x1,x2,_⟩ ⟨M,g2,g3,g4⟩;refine ⟨fun w=>?_,fun w=>⟨x2 v (g2 w).1,(g2 w).2⟩,fun w=>?_,g4⟩
  ·obtain ⟨l,e,O⟩:=M w;exact ⟨l,e,x1 _ _ O⟩
  ·obtain ⟨l,e,O⟩:=g3 w;exact ⟨l,e,x1 _ _ O⟩
 have ae:∀ s',Am.Own s' p (gh v' lg bh (.map (some vS)))->av s' p (0+18)=some lg:=fun s' o=>by rw [o.at.av];exact hs.1
 have al:∀ s',Am.Own s' p (gh v' lg bh (.map (some vS)))->av s' p (0+19)=some bh:=fun s' o=>by rw [o.at.av];exact hs.2.1
 have rl:∀ s',Am.Own s' l1 (iA m)->aD s' l1 0 21=some (iA m):=fun s' o=>by rw [o.at.aD (by omega),gJ]
 have rv:∀ s',Am.Own s' p (gh v' lg bh (.map (some vS)))->aD s' p (0+2) 16=some (ry Y):=fun s' o=>by rw [o.at.aD (by rw [C];omega),Bd A];rfl
 have new:∀ {s':AS} {y:Nat},bD (ay lg++ay bh) bP s'->s'.h y=none->y∈ay lg++ay bh\/bP.h y=none:=fun {s' y} mm hn=>by
  by_cases d:y∈ay lg++ay bh
  ·exact .inl d
  ·right;cases w:bP.h y with
   | none=>rfl
   | some o=>rw [mm.1 y o d w] at hn;cases hn
 refine ⟨fun s' _ _=>rfl,_,ae _ j,fun s' x _=>⟨_,ae _ (x.1 _ _ j),rfl⟩,_,rl _ Z,fun s' x _=>⟨_,rl _ (x.1 _ _ Z),rfl⟩,fun dW ce ba _=>⟨_,kh nV (bq m) (dU m),aj.intro ba rfl fun bb cf am=>⟨am.ext,⟨(fun _=>⟨bb,rfl,am.own⟩),(fun h=>by cases h),(fun h=>by cases h),(fun h=>by cases h)⟩,(fun h=>by rcases h with h | h <;> cases h)⟩⟩,⟨.bad,(fun h=>by rcases h with h | h <;> cases h)⟩,fun ch _=>⟨fun ci bc bd hS hc=>?_,⟨.nilFunc,fun _=>rfl⟩,fun I an=>⟨fun s' _ _=>rfl,_,al _ j,fun s' x _=>⟨_,al _ (x.1 _ _ j),rfl⟩,fun s' _ _=>rfl,_,rv _ j,fun s' x _=>⟨_,rv _ (x.1 _ _ j),rfl⟩,fun ck cl be _=>⟨_,kh gU (cG Y) (oh Y),aj.intro be rfl fun bi Ht ao=>⟨ao.ext,⟨(fun h=>by cases h),(fun h=>by cases h),(fun _=>⟨bi,rfl,ao.own⟩),(fun h=>by cases h)⟩,(fun h=>by rcases h with h | h <;> cases h)⟩⟩,⟨.bad,(fun h=>by rcases h with h | h <;> cases h)⟩,fun cm _=>⟨fun cn bj bk hS hc=>?_,⟨.nilFunc,fun _=>rfl⟩,fun Q ap=>⟨fun s' _ _=>rfl,fun ar aw bl hS hC=>?_⟩⟩⟩⟩⟩
 ·obtain ⟨l,rfl,O⟩:=hS.1.1 rfl;obtain ⟨ga,gb⟩:=hc;obtain ⟨v',s',e1,M,J,_,n1⟩:=br.append nV bq dU bd ga (Cr bq O.at) (by simp;omega) eK;have t1:=br.tag ga;refine ⟨v',s',e1,⟨⟨fun l cs o=>o.mut J fun d=>?_,fun v g=>g.mut J (br.FT bq (by decide) g ga (by simp)),J.mono fun y d=>List.mem_append_left _ d⟩,(fun _=>gb.mut J fun y d n=>?_),(fun h=>by cases h)⟩,⟨(fun h=>by cases h),(fun _=>⟨M,fun y d=>?_⟩),(fun h=>by cases h),(fun h=>by cases h)⟩,fun _=>br.one M⟩
  ·have:=(t1 _ d).uniq (Own.tag o);omega
  ·have:=(t1 _ n).uniq (br.tag gb y d);omega
  ·rcases n1 y d with h | h
   ·exact .inl (List.mem_append_left _ h)
   ·exact new bc.2.2 h
 ·obtain ⟨l,rfl,O⟩:=hS.2.2.1.2.2.1 rfl;have gb:=hc.1 rfl;obtain ⟨v',s',e1,M,J,_,n1⟩:=br.append gU cG oh bk gb (Cr cG O.at) (by simp;omega) dN;have t1:=br.tag gb;refine ⟨v',s',e1,⟨⟨fun l cs o=>o.mut J fun d=>?_,fun v g=>g.mut J fun y d n=>?_,J.mono fun y d=>List.mem_append_right _ d⟩,(fun h=>by cases h),(fun _=>M)⟩,⟨(fun h=>by cases h),(fun h=>by cases h),(fun h=>by cases h),(fun _ y d=>?_)⟩,fun _=>br.one M⟩
  ·have:=(t1 _ d).uniq (Own.tag o);omega
  ·have:=(t1 _ n).uniq (br.tag g y d);omega
  ·rcases n1 y d with h | h
   ·exact .inl (List.mem_append_right _ h)
   ·exact new bj.2.2 h
 ·obtain ⟨_,⟨_,h8,_⟩,_,⟨_,_,_,bm⟩,_⟩:=hS;obtain ⟨bo,bs⟩:=h8 rfl;have bx:=bm rfl;have b0:=hC.2 rfl;have a0:=aw.1 _ _ j;refine cM (an (.inl rfl)) xH (bt.own bl a0 (by simp [C]) fun b4 R=>?_);have b5:Am.Own b4 p ((gh v' lg bh (.map (some vS))).set 18 I):=R.at;refine cM (ap (.inr rfl)) qJ (bt.own R.wf b5 (by simp [C]) fun Rz a5=>⟨rfl,?_⟩);have b6:Am.Own Rz p (gh v' I Q (.map (some vS))):=by
   have:=a5.at;rw [fy,Qi A] at this;exact this
  have S:bD [p] ar Rz:=R.mut.trans a5.mut;have t64:∀ y∈[p],∀ g,Tag ar y g->g=0:=fun y d g t=>by
   obtain rfl:=List.mem_singleton.1 d;exact t.uniq (Own.tag a0)
  have MA:bD (p::(ay lg++ay bh)) s Rz:=((H.mono (by simp)).trans (aw.2.2.mono (fun y d=>List.mem_cons_of_mem _ d))).trans (S.mono (by simp));have tA:∀ y∈p::(ay lg++ay bh),∀ g,Tag s y g->g=0\/g=21\/g=16:=fun y d g t=>by
   rcases List.mem_cons.1 d with rfl | d
   ·exact .inl (t.uniq (Own.tag W))
   ·rcases List.mem_append.1 d with d | d
    ·exact .inr (.inl (t.uniq (br.tag a1 y d)))
    ·exact .inr (.inr (t.uniq (br.tag b1 y d)))
  have kE:∀ {X:List Nat} {x:nU},j9 X s x->j9 X Rz x:=fun n=>n.e_ MA fun y d g t=>by rcases tA y d g t with h | h | h <;> omega
  have a6:∀ y,y∈ay lg++ay bh\/bP.h y=none->y∈F\/s.h y=none:=fun y d=>by
   rcases d with d | d
   ·rcases List.mem_append.1 d with d | d
    ·exact .inl (a2 y d)
    ·exact .inl (b2 y d)
   ·right;cases w:s.h y with
    | none=>rfl
    | some o =>
     by_cases a7:y=p
     ·subst a7;rw [j] at d;cases d
     ·rw [H.1 y o (by simpa using a7) w] at d;cases d
  have b7:kH (ay I++(ay Q++(F++G))) Rz p (c.apply m.ev):=by
   refine ⟨by simp [iM.apply,D],I,Q,vS,L++[m],B++[Y],es,k,?_,by simp [h2],by simp [h3],⟨br.e_ bo S fun y d g t=>by rw [t64 y d g t];decide,fun y d=>by simp [d],by simp [iM.apply,a3],fun x n=>?_⟩,⟨br.e_ b0 S fun y d g t=>by rw [t64 y d g t];decide,fun y d=>by simp [d],?_⟩,c1.mut MA ?_,c2,c3,fun e he=>(kE (c4 e he)).sub fun y d=>by simp [d]⟩
   ·simp only [iM.apply,hi,oX];exact b6
   ·rcases List.mem_append.1 n with n | n
    ·exact (kE (a4 x n)).sub fun y d=>by simp [d]
    ·obtain rfl:=List.mem_singleton.1 n;exact (kE hm).sub fun y d=>by simp [d]
   ·simp only [iM.apply,hi,oX,List.map_append,b3];rfl
   ·intro d;have:∀ g,¬ Tag s vS g:=fun g ⟨cs,t⟩=>by rw [c1.obj] at t;cases t
    rcases List.mem_cons.1 d with rfl | d
    ·exact this _ (Own.tag W)
    ·rcases List.mem_append.1 d with d | d
     ·exact this _ (br.tag a1 _ d)
     ·exact this _ (br.tag b1 _ d)
  obtain ⟨F0,b8,a8,b9⟩:=b7.tight;refine ⟨F0,b8,MA.mono fun y d=>?_,fun y d=>?_,b9,fun l cs g D b' ca g0=>MA.1 l _ (fun hm=>?_) D⟩
  rotate_right
  ·rcases List.mem_cons.1 hm with rfl | hm
   ·exact g0 (Tag.uniq ⟨cs,D⟩ (Own.tag W)) rfl
   ·rcases List.mem_append.1 hm with hm | hm
    ·exact b' (Tag.uniq ⟨cs,D⟩ (br.tag a1 _ hm))
    ·exact ca (Tag.uniq ⟨cs,D⟩ (br.tag b1 _ hm))
  ·rcases List.mem_cons.1 d with rfl | d
   ·exact h2
   ·rcases List.mem_append.1 d with d | d
    ·exact a2 y d
    ·exact b2 y d
  ·have:=a8 y d;simp only [List.mem_append] at this;rcases this with h | h | h | h
   ·rcases a6 y (bs y h) with h | h
    ·exact .inl h
    ·exact .inr (.inr h)
   ·rcases a6 y (bx y h) with h | h
    ·exact .inl h
    ·exact .inr (.inr h)
   ·exact .inl h
   ·exact .inr (.inl h)
end Go.Proofs.YtohgmogbabkkeaaGreat
end

section
namespace Go.Proofs.YtohgmogbabkkeaaGreat
open Go.Am Go.au Go.aC Go.bL
theorem Sk {v:List Int} (h:v.length=16):∃ a b c d e f g i j k l m n o p q:Int,v=[a,b,c,d,e,f,g,i,j,k,l,m,n,o,p,q]:=by
 match v,h with
 | [a,b,c,d,e,f,g,i,j,k,l,m,n,o,p,q],_=>exact ⟨a,b,c,d,e,f,g,i,j,k,l,m,n,o,p,q,rfl⟩
theorem L4 {id:aJ} {dV:List UInt8} {pv tv:AV} {jP:List Int} (x:jP.length=16) (y:pv.one=true) (h2:tv.one=true):aS T ig [(0,.agg (aN id)),(1,.str dV),(2,pv),(3,.agg (jP.map (.int .u64))),(4,tv)]=some (.agg ([.int .i64 id.r,.int .u64 id.c,.str dV,pv]++(jP.map (.int .u64)++[tv]))):=by
 obtain ⟨a,b,c,d,e,f,g,i,j,k,l,m,n,o,p,q,rfl⟩:=Sk x;have e1:∀ v:AV,v.one=true->bI v=some [v]:=fun v hv=>by cases v <;> first | rfl | cases hv
 rw [qp (pl:=[(0,2),(2,1),(3,1),(4,16),(20,1)]) (by kernel_rfl) KJ rfl];have z:bI (.agg (aN id))=some [.int .i64 id.r,.int .u64 id.c]:=rfl;have A:bI (.str dV)=some [.str dV]:=rfl;have w:bI (.agg ([a,b,c,d,e,f,g,i,j,k,l,m,n,o,p,q].map (AV.int .u64)))=some ([a,b,c,d,e,f,g,i,j,k,l,m,n,o,p,q].map (AV.int .u64)):=rfl;simp only [List.map_cons,List.map_nil] at w ⊢;simp only [jc,AV.cells,e1 _ y,e1 _ h2,z,A,w,List.getElem?_cons_zero,List.getElem?_cons_succ,List.length_cons,List.length_nil,List.length_map,Nat.zero_add,Nat.reduceAdd,Nat.reduceLeDiff,and_self,if_true,qk,List.set_cons_zero,List.set_cons_succ,List.map_cons,List.map_nil,Option.map_some,List.cons_append,List.nil_append]
def JO:List AV:=[.int .i64 0,.int .u64 0,.str [],.slc none 0 0 true,.int .u64 0,.int .u64 0,.int .u64 0,.int .u64 0,.int .u64 0,.int .u64 0,.int .u64 0,.int .u64 0,.int .u64 0,.int .u64 0,.int .u64 0,.int .u64 0,.int .u64 0,.int .u64 0,.int .u64 0,.int .u64 0,.slc none 0 0 true]
theorem HK:aS T ig []=some (.agg JO):=by kernel_rfl
theorem FU {s4 s7:AS} {l1:Nat} {g C:List AV} (c:g.length=21) (d:C.length=21) (P:Up s4 s7 l1 (.cells (qk C 0 g) 0 false)):Am.Own s7 l1 g/\aD s7 l1 0 21=some g:=by
 have b:=P.at;rw [dz (by omega)] at b;exact ⟨b,by rw [At.aD ⟨_,_,b⟩ (by omega),List.drop_zero,List.take_of_length_le (by omega)]⟩
def NY (c:iM) (dV:List UInt8) (u5:List Int) (to:List Ci):Ev:=⟨⟨1,IntKind.wrap .u64 (c.v.getD 0 0+1)⟩,dV,u5,c.v,to⟩
set_option maxRecDepth 20000 in
theorem N0 {F:List Nat} {s:AS} {p:Nat} {c:iM} (h:kH F s p c) (a2:∀ y∈F,s.h y≠none) {dV:List UInt8} {pv tv:AV} {u5:List Int} {to:List Ci} (gp:br qg 1 s pv u5) (gt:br ru 3 s tv to) (a3:0<=c.v.getD 0 0/\c.v.getD 0 0<4611686018427387904) (hn:c.log.length+1<=2 ^ 29) (a4:c.JF.length+1<=2 ^ 29) :
  aa Tryz.prog bH [.ptr (some (p,0)),.str dV,pv,tv] s fun r s' =>
   (iz (NY c dV u5 to)=false/\(∃ g,r=.aP [.agg g,.int .i64 2]/\g.all AV.one=true/\g.length=21)/\Ext s s') \/
   (iz (NY c dV u5 to)=true/\(∃ g,r=.aP [.agg g,.int .i64 0]/\g.all AV.one=true/\g.length=21)/\∃ F',kH F' s' p (c.apply (NY c dV u5 to))/\bD F s s'/\(∀ y∈F',y∈F\/s.h y=none)/\(∀ y∈F',s'.h y≠none)/\xq p s s'):=by
 have hp:=gp.sl bU;have ht:=gt.sl en;have h1:=hp.one;have h2:=ht.one;refine aa.pre fun hw=>vB _ _ _ _ _ _ (aj.intro hw rfl fun l1 s2 A=>?_);have o2:Am.Own s2 l1 JO:=A.own;refine aa.use (xL (h.ext A.ext)) ?_;rintro v3 s4 ⟨rfl,rfl⟩ w4;obtain ⟨X,lg,bh,vS,L,B,es,k,I,_⟩:=id (h.ext A.ext);have a5:=oR X lg bh (.map (some vS))
 let m:nU:=⟨NY c dV u5 to,pv,tv,X,h1,h2⟩
 have ev:=bq m;have hx:ag T aY (.ptr (some (p,0+2))) (.int .i64 (IntKind.wrap .i64 (1 - 1)))=some (.ptr (some (p,2+0))):=by
  rw [aW (by omega),Qw (by omega)];rfl
 refine ⟨_,rfl,af.no rfl ⟨fun q _ v s'=>q=24->∃ l,v=.ptr (some (l,0))/\Am.Own s' l JO/\s4.h l=none,fun q _ v=>q=24->∃ l,v=.ptr (some (l,0)),fun q _ v a b e g hq=>by obtain ⟨l,x,y,z⟩:=g hq;exact ⟨l,x,y.ext e,z⟩,1,by rw [I.at.av];rfl,1,by rw [I.at.av];rfl,_,_,hx,_,by rw [I.at.av,JG X lg bh _ (by omega)],_,zb _ _,_,I.at.aD (by rw [a5];omega),?_⟩⟩;rw [Bd X];refine ⟨_,L4 X h1 h2,fun dW a6 a7 _=>aj.intro a7 rfl fun Y bm R=>⟨R.ext,(fun _=>⟨Y,rfl,R.own,a6.none R.no⟩),(fun _=>⟨Y,rfl⟩)⟩,⟨.ptr (some (0,0)),fun _=>⟨0,rfl⟩⟩,fun bo Z=>?_⟩;obtain ⟨l,rfl⟩:=Z rfl;refine ⟨_,rfl,fun bs ab a8 hS=>?_⟩;obtain ⟨l',ad,a9,J⟩:=hS.1 rfl;simp only [AV.ptr.injEq,Option.some.injEq,Prod.mk.injEq,and_true] at ad;subst ad;refine ⟨⟨dU m,congrArg some ev.symm⟩,bt.own a8 a9 (vs:=iA m) (by rw [ev];exact Nat.le_refl _) fun kr S=>?_⟩;have U:Am.Own kr l (iA m):=by
  have:=S.at;rw [dz (by rw [show JO.length=21 from rfl];exact ev)] at this;exact this
 have C:Ext s kr:=Ext.wr (A.ext.trans ab) (A.ext.none J) S.mut;have d1:l1≠l:=fun e=>by rw [<- e,o2] at J;cases J
 have K:Am.Own kr l1 JO:=(o2.ext ab).mut S.mut (by simpa using d1);have ae:IntKind.wrap .u64 (c.v.getD 0 0+1)=c.v.getD 0 0+1:=gw (by omega);refine ⟨IntKind.wrap .u64 (c.v.getD 0 0+1),by rw [U.at.av];rfl,fun vs s'=>s'=kr,?_,af.no (by rw [decide_eq_false_iff_not,ae];omega) rfl⟩;rintro a' rfl;refine ⟨_,U.at.aD (by omega),?_⟩;rw [gJ];have hE:Bc a' m:=⟨hp.ext C,ht.ext C⟩;have hC:=h.ext C;refine aa.use (Vs hC hE) ?_;rintro bx b0 ⟨rfl,d⟩ ba;refine ⟨_,rfl,af.mk (fun hb=>⟨_,HK,?_⟩) (fun hb=>af.no (by rw [decide_eq_false_iff_not,ae];omega) ?_)⟩
 ·have bb:iz (NY c dV u5 to)=false:=by simpa using hb
  refine ⟨⟨rfl,rfl⟩,bt.own ba (K.ext d) (Nat.le_refl _) fun s7 P=>⟨JO,(FU rfl rfl P).2,.inl ⟨bb,⟨_,rfl,rfl,rfl⟩,Ext.wr (C.trans d) A.no P.mut⟩⟩⟩
 have al:iz (NY c dV u5 to)=true:=by simpa using hb
 have n:=al;simp only [iz,sH,Bool.and_eq_true,decide_eq_true_eq] at n;have bc:m.ev.id.may=true:=n.1.1.1.1.1.1.1.1;have b1:m.ev.u5.length<=512:=n.1.1.1.1.2;have b2:m.ev.to.length<=1024:=n.1.1.1.2;have am:=C.trans d;have an:=U.ext d;refine ⟨_,an.at.aD (by omega),?_⟩;rw [gJ];refine aa.use (FR (hE.ext d) (by omega) (by omega)) ?_;rintro b3 b4 ⟨m',G,ao,rfl,gE,nG,tG,M⟩ b5;have j:=am.trans M;refine ⟨_,rfl,?_⟩;refine aa.use (Sj (h.ext j) gE (by rw [ao];exact bc) hn a4) ?_;rintro b6 O ⟨rfl,F',ap,Q,D,ar,W⟩ b7;rw [ao] at ap;have nF:∀ y,s.h y=none->y ∉ F:=fun y hn i=>a2 y i hn;have aw:s.h l=none:=A.ext.none J;have bd:Am.Own O l (iA m):=(an.ext M).mut Q (nF _ aw);have be:Am.Own O l1 JO:=((K.ext d).ext M).mut Q (nF _ A.no);have a0:Bc O m:=⟨(br.OY (gp.ext j) W (by decide) (by decide) (by decide)).sl bU,(br.OY (gt.ext j) W (by decide) (by decide) (by decide)).sl en⟩;refine ⟨rfl,_,bd.at.aD (by omega),?_⟩;rw [gJ];refine aa.use (FR a0 (by omega) (by omega)) ?_;rintro b8 b9 ⟨m2,G2,b',rfl,ca,cb,cc,w⟩ bi;refine ⟨_,rfl,⟨dU m2,by rw [bq]⟩,bt.own bi (be.ext w) (by rw [bq];exact Nat.le_refl _) fun s7 P=>?_⟩;obtain ⟨_,bj⟩:=FU (bq m2) rfl P;have a1:l1 ∉ F':=fun i=>by
  rcases D l1 i with h | h | h
  ·exact nF _ A.no h
  ·have:=nG l1 h;rw [K.ext d] at this;cases this
  ·rw [(K.ext d).ext M] at h;cases h
 refine ⟨_,bj,.inr ⟨al,⟨_,rfl,dU m2,bq m2⟩,F',(ap.ext w).mut P.mut (fun y i=>by obtain rfl:=List.mem_singleton.1 i;exact a1),?_,?_,?_,fun y cs g i bk bl h0=>?_⟩⟩
 ·refine ⟨fun y o i ho=>?_,Nat.le_trans j.2 (Nat.le_trans Q.2 (Nat.le_trans w.2 (by rw [P.nl];exact Nat.le_refl _)))⟩;have H:y≠l1:=fun e=>by rw [e,A.no] at ho;cases ho
  rw [P.eq y H];exact w.1 _ _ (Q.1 y o i (j.1 _ _ ho))
 ·intro y i;rcases D y i with h | h | h
  ·exact .inl h
  ·exact .inr (am.none (nG y h))
  ·exact .inr (j.none h)
 ·intro y i;have H:y≠l1:=fun e=>a1 (e ▸ i);rw [P.eq y H];cases hq:O.h y with
  | none=>exact absurd hq (ar y i)
  | some ob=>rw [w.1 y ob hq];simp
 ·have H:y≠l1:=fun e=>by rw [e,A.no] at i;cases i
  rw [P.eq y H];exact w.1 _ _ (W y cs g (j.1 _ _ i) bk bl h0)
end Go.Proofs.YtohgmogbabkkeaaGreat
end

section
namespace Go.Proofs.YtohgmogbabkkeaaGreat
open Go.Am Go.au Go.aC Go.bL
theorem Vt {F:List Nat} {s:AS} {p:Nat} {c:iM} (h:kH F s p c) (hb:c.JF.length=c.log.length) {i:Nat} (hi:i<c.log.length) (hp:∀ e∈c.log,e.u5.length<=2 ^ 30/\e.to.length<=2 ^ 30) (a':i<=2 ^ 40) :
  aa Tryz.prog nC [.ptr (some (p,0)),.int .i64 (i:Nat)] s fun r s'=>∃ (m:nU) (v:F_) (G:List Nat),c.log[i]? = some m.ev/\c.JF[i]? = some v.v/\r=.aP [.agg (iA m),.agg (ry v),.bool true]/\j9 G s' m/\(∀ y∈G,s.h y=none)/\(∀ y∈G,s'.h y≠none)/\Ext s s':=by
 refine aa.pre fun hw=>BO _ _ _ _ (aj.intro hw rfl fun l1 s2 C=>aj.intro C.wf rfl fun l3 s4 J=>?_);have e4:=C.ext.trans J.ext;have o1:Am.Own s4 l1 JO:=C.own.ext J.ext;have o3:Am.Own s4 l3 (dD.map (.int .u64)):=J.own;have d13:l1≠l3:=fun e=>by
  have:=J.no;rw [<- e,C.own] at this;cases this
 obtain ⟨hl,lg,bh,vS,L,B,es,k,h1,h2,h3,⟨a1,a2,a3,a4⟩,⟨b1,b2,b3⟩,c1,c2,c3,c4⟩:=id (h.ext e4);have hs:=zn hl lg bh (.map (some vS));have ba:L.length=c.log.length:=by rw [<- a3,List.length_map]
 have bb:B.length=c.JF.length:=by rw [<- b3,List.length_map]
 have al:l1≠p:=fun e=>by
  obtain ⟨_,_,_,_,_,_,_,_,am,_⟩:=h;have:=C.no;rw [e,am] at this;cases this
 refine ⟨fun vs s'=>vs=[.bool false]/\s'=s4,?_,?_⟩
 ·rintro b s7 ⟨an,rfl⟩;obtain rfl:b=false:=by simpa using an
  obtain ⟨m,hm⟩:=de (l:=L) (i:=i) (by omega);obtain ⟨v,hv⟩:=de (l:=B) (i:=i) (by omega);have j:c.log[i]? = some m.ev:=by rw [<- a3,List.getElem?_map,hm];rfl
  have K:c.JF[i]? = some v.v:=by rw [<- b3,List.getElem?_map,hv];rfl
  have ta:=br.tag a1;have tb:=br.tag b1;have key:∀ s',bD [l1] s7 s'->Am.Own s' p (gh c.v lg bh (.map (some vS)))/\br iA 21 s' lg L/\br ry 16 s' bh B/\Bc s' m:=fun s' x=>by
   have t0:∀ y∈[l1],∀ g,Tag s7 y g->g=0:=fun y d g t=>by
    obtain rfl:=List.mem_singleton.1 d;exact t.uniq (Own.tag o1)
   refine ⟨h1.mut x (by simpa using Ne.symm al),br.e_ a1 x fun y d g t=>by rw [t0 y d g t];decide,br.e_ b1 x fun y d g t=>by rw [t0 y d g t];decide,j9.at ((a4 m (List.mem_of_getElem? hm)).e_ x fun y d g t=>by rw [t0 y d g t];decide)⟩
  have M0:bD [l1] s7 s7:=bD.refl _ _;obtain ⟨la,oa,k8,k9⟩:=(a1.sl bq).ix (by decide) bq eK z5 hm;obtain ⟨lb,ob,m8,m9⟩:=(b1.sl cG).ix (by decide) cG dN tj hv;have M:∀ s',bD [l1] s7 s'->aD s' la oa 21=some (iA m):=fun s' x=>by
   obtain ⟨ao,ap,D,H⟩:=((key s' x).2.1.sl bq).ix (by decide) bq eK z5 hm;have:=(k8 .i64).symm.trans (D .i64);simp only [Option.some.injEq,AV.ptr.injEq,Prod.mk.injEq] at this;rw [this.1,this.2];exact (H _ (Ext.refl _)).2
  have O:∀ s',bD [l1] s7 s'->aD s' lb ob 16=some (ry v):=fun s' x=>by
   obtain ⟨ao,ap,D,H⟩:=((key s' x).2.2.1.sl cG).ix (by decide) cG dN tj hv;have:=(m8 .i64).symm.trans (D .i64);simp only [Option.some.injEq,AV.ptr.injEq,Prod.mk.injEq] at this;rw [this.1,this.2];exact (H _ (Ext.refl _)).2
  have Q:∀ s',bD [l1] s7 s'->av s' p (0+18)=some lg:=fun s' x=>by rw [(key s' x).1.at.av];exact hs.1
  have R:∀ s',bD [l1] s7 s'->av s' p (0+19)=some bh:=fun s' x=>by rw [(key s' x).1.at.av];exact hs.2.1
  have S:=hp m.ev (List.mem_of_getElem? j);refine af.no rfl ⟨fun a b=>bD [l1] a b/\(a.h l1≠none->b.h l1≠none),fun q ks _ s'=>q=15->∃ g cs,ks=[.ptr (some (l1,0)),.agg g]/\Am.Own s' l1 cs/\cs=g,fun s'=>∃ cs,Am.Own s' l1 cs/\cs.length=21/\l1≠l3,fun q _ v s'=>q=7->∃ m' G,v=.agg (iA m')/\j9 G s' m'/\(∀ y∈G,s7.h y=none)/\m'.ev=m.ev,fun q _ v=>(q=7->∃ m',v=.agg (iA m'))/\(q=15->v=.aP []),fun a b e=>⟨e.mut,fun hn=>by cases A:a.h l1 with | none=>exact absurd A hn | some o=>rw [e.1 _ _ A];simp⟩,fun a b c x y=>⟨x.1.trans y.1,fun hn=>y.2 (x.2 hn)⟩,fun q ks v a b e g A=>by obtain ⟨g',cs,x,y,z⟩:=g A;exact ⟨g',cs,x,y.ext e,z⟩,fun q _ v a b x g A=>?_,fun a b e g=>by obtain ⟨cs,x,y⟩:=g;exact ⟨cs,x.ext e,y⟩,⟨_,o1,rfl,d13⟩,?_⟩
  ·obtain ⟨m',G,e1,e2,e3,e5⟩:=g A;refine ⟨m',G,e1,e2.mut x.1 fun y d hG=>?_,e3,e5⟩;obtain rfl:=List.mem_singleton.1 d;have:=e3 y hG;rw [o1] at this;cases this
  refine ⟨fun s' _ _=>rfl,_,Q _ M0,fun s' x _=>⟨_,Q _ x.1,rfl⟩,la,oa,k8 _,_,M _ M0,fun s' x _=>⟨_,M _ x.1,rfl⟩,fun ar I bc _=>?_,⟨.agg (iA m),(fun _=>⟨m,rfl⟩),(fun h=>by cases h)⟩,fun bd U=>?_⟩
  ·refine (FR (key ar I.1).2.2.2 S.1 S.2).mono ?_;rintro w s' ⟨m',G,aw,rfl,gE,nG,tG,e⟩;refine ⟨_,rfl,e,(fun _=>⟨m',G,rfl,gE,fun y d=>?_,aw⟩),(fun _=>⟨m',rfl⟩),(fun h=>by cases h)⟩;have:=nG y d;cases A:s7.h y with
   | none=>rfl
   | some o =>
    by_cases W:y=l1
    ·subst W;exact absurd this (I.2 (by rw [o1];simp))
    ·rw [I.1.1 y o (by simpa using W) A] at this;cases this
  obtain ⟨m',rfl⟩:=U.1 rfl;refine ⟨_,rfl,fun s' _ _=>rfl,_,R _ M0,fun s' x _=>⟨_,R _ x.1,rfl⟩,lb,ob,m8 _,_,O _ M0,fun s' x _=>⟨_,O _ x.1,rfl⟩,fun tw be a0 _ hc=>?_,⟨.aP [],(fun h=>by cases h),(fun _=>rfl)⟩,fun bi X=>?_⟩
  ·obtain ⟨cs,oc,a5,_⟩:=hc;refine ⟨⟨dU m',by rw [bq]⟩,bt.own a0 oc (by rw [bq];omega) fun bj P=>?_⟩;obtain ⟨ho,_⟩:=FU (bq m') a5 P;exact ⟨⟨⟨P.mut,fun _=>by rw [ho];simp⟩,(fun _=>⟨_,_,rfl,ho,rfl⟩)⟩,(fun h=>by cases h),(fun h=>by cases h),(fun _=>rfl)⟩
  ·refine ⟨X.2 rfl,fun yY Y a6 hS hC=>?_⟩;obtain ⟨m2,G,e1,gE,nG,a7⟩:=hS.1 rfl;obtain ⟨g',cs,hk,oc,rfl⟩:=hC rfl;simp only [List.cons.injEq,AV.agg.injEq,true_and,and_true] at hk e1;subst hk;have a8:=o3.mut Y.1 (by simpa using Ne.symm d13);have n3:l3 ∉ G:=fun d=>by
    have:=nG _ d;rw [o3] at this;cases this
   refine ⟨⟨oh v,by rw [cG]⟩,bt.own a6 a8 (by rw [cG];simp [dD]) fun a9 P=>?_⟩;have hP:=P.at;rw [dz (by rw [cG];simp [dD])] at hP;have Z:=oc.mut P.mut (by simpa using d13);have ab:=gE.mut P.mut (fun y d hG=>by obtain rfl:=List.mem_singleton.1 d;exact n3 hG);have ad:j9 (JN m2) a9 m2:=⟨ab.1,ab.2.1,fun y d=>List.mem_append.2 d⟩;have ae:=Z.at.aD (o:=0) (n:=21) (by rw [bq];omega);rw [gJ] at ae;refine ⟨_,ae,_,by rw [At.aD ⟨_,_,hP⟩ (by rw [cG];omega),List.drop_zero,List.take_of_length_le (by rw [cG];omega)],m2,v,JN m2,by rw [a7];exact j,K,by rw [e1],ad,fun y d=>e4.none (nG y (gE.2.2 y (List.mem_append.1 d))),ad.JN,?_⟩
   ·exact Ext.wr (Ext.Wn e4 (fun y d=>by obtain rfl:=List.mem_singleton.1 d;exact C.no) Y.1) (C.ext.none J.no) P.mut
 ·refine aa.use (xL (h.ext e4)) ?_;rintro xN bk ⟨rfl,rfl⟩ bl;refine ⟨_,rfl,af.no rfl (af.no (by rw [decide_eq_false_iff_not];omega) ⟨lg,by rw [h1.at.av];exact hs.1,_,(a1.sl bq).cI eK _,?_,rfl⟩)⟩;rw [show decide ((i:Int)>=(L.length:Int))=false by rw [decide_eq_false_iff_not];omega]
theorem Qk {s:AS} {m c:Nat} {ro:Bool} {es:List (aJ×nU×Nat)} (hm:eM dK Xc s m es c ro):aa Tryz.prog fE [.map (some m)] s fun v s'=>∃ m',v=.map (some m')/\Ext s s':=by
 refine (wk hT Tryz.func158 (tm:=su) (ti:=sq) (tb:=vM) (cl:=uA) (by kernel_rfl) (by kernel_rfl) (by kernel_rfl) (by kernel_rfl) yu Tryz.func210 Jr Jt Jq Jp hm.obj).mono ?_;rintro v s' ⟨m',rfl,F⟩;exact ⟨m',rfl,F.ext⟩
theorem Sm {s:AS} {v:AV} {l:List nU} (h:Sl iA 21 s v l):aa Tryz.prog bf [v] s fun r s'=>r.one=true/\s'=s:=by
 obtain ⟨v',b,h2⟩:=h.head bq eK z5 (i:=l.length) (Nat.le_refl _) .i64;exact pD _ _ _ ⟨_,h.cI eK _,_,h.cI eK _,_,b,h2.one,rfl⟩
theorem Sn {s:AS} {v:AV} {l:List F_} (h:Sl ry 16 s v l):aa Tryz.prog bp [v] s fun r s'=>r.one=true/\s'=s:=by
 obtain ⟨v',b,h2⟩:=h.head cG dN tj (i:=l.length) (Nat.le_refl _) .i64;exact nP _ _ _ ⟨_,h.cI dN _,_,h.cI dN _,_,b,h2.one,rfl⟩
set_option maxRecDepth 20000 in
theorem L5 {F:List Nat} {s:AS} {p:Nat} {c:iM} (h:kH F s p c):aa Tryz.prog eG [.ptr (some (p,0))] s fun r s'=>(∃ q,r=.ptr (some q))/\Ext s s':=by
 refine qK _ _ _ ?_;refine aa.use (xL h) ?_;rintro v s2 ⟨rfl,rfl⟩ w2;obtain ⟨O,lg,bh,vS,L,B,es,k,l,h2,h3,⟨a1,a2,a3,a4⟩,⟨x,b2,b3⟩,R,_⟩:=id h;have b:=oR O lg bh (.map (some vS));have hs:=zn O lg bh (.map (some vS));have m:(gh c.v lg bh (.map (some vS))).all AV.one=true:=by
  have S:=br.one a1;have U:=br.one x;rw [gh,List.all_append,List.all_append,bT];simp [S,U]
 refine ⟨_,rfl,af.no rfl ⟨_,by rw [l.at.aD (by omega),List.drop_zero,List.take_of_length_le (by omega)],lq w2 b rfl m fun Q s9 d=>?_⟩⟩;have y:=l.ext d.ext;refine ⟨fun _ _ _ _=>True,fun _ _ v=>v.one=true,fun _ _ _ _ _ _ h=>h,lg,by rw [y.at.av];exact hs.1,fun bP z W _=>?_,⟨_,br.one a1⟩,fun nM n=>⟨bh,by rw [y.at.av];exact hs.2.1,fun gi A X _=>?_,⟨_,br.one x⟩,fun C o=>⟨_,by rw [y.at.av];exact hs.2.2,fun Y e Z _=>?_⟩⟩⟩
 ·refine (Sm ((a1.ext (d.ext.trans z)).sl bq)).mono ?_;rintro v s' ⟨l,rfl⟩;exact ⟨Ext.refl _,trivial,l⟩
 ·refine (Sn ((x.ext (d.ext.trans A)).sl cG)).mono ?_;rintro v s' ⟨l,rfl⟩;exact ⟨Ext.refl _,trivial,l⟩
 ·refine aa.use (Qk (R.ext (d.ext.trans e))) ?_;rintro ab ad ⟨m',rfl,w⟩ D;have G:=(d.own.ext e).ext w;refine ⟨_,rfl,cM n xH (bt.own D G (by simp [b]) fun H i=>?_)⟩;have I:Am.Own H Q ((gh c.v lg bh (.map (some vS))).set 18 nM):=i.at;refine cM o qJ (bt.own i.wf I (by simp [b]) fun J j=>?_);have K:Am.Own J Q (((gh c.v lg bh (.map (some vS))).set 18 nM).set 19 C):=j.at;refine bt.own j.wf K (by simp [b]) fun kr M=>⟨⟨_,rfl⟩,Ext.wr (Ext.wr (Ext.wr ((d.ext.trans e).trans w) d.no i.mut) d.no j.mut) d.no M.mut⟩
end Go.Proofs.YtohgmogbabkkeaaGreat
end

section
namespace Go.Proofs.YtohgmogbabkkeaaGreat
open Go.Am Go.au Go.aC Go.bL
theorem OZ (d:aJ) (s:AS):aa Tryz.prog rH [.agg (aN d)] s fun v s'=>v=.bool d.may/\Ext s s':=by
 refine aa.pre fun b=>KO _ _ _ ⟨rfl,aj.intro b rfl fun l s1 F=>?_⟩;simp only [F.own.at.av,aN,List.getElem?_cons_zero,List.getElem?_cons_succ,go_sem,gl,F.ext,and_true,aJ.may]
 grind
theorem L6 (t:List UInt8) (s:AS):aa Tryz.prog pV [.str t] s fun v s'=>v=.bool (aK t)/\s'=s:=by
 refine IA _ _ _ ⟨_,kF t s,af.dec (fun h=>⟨_,kF t s,?_,rfl⟩) (fun h=>⟨?_,rfl⟩)⟩
 ·congr 1;rw [aK,decide_eq_decide];omega
 ·congr 1;symm;rw [aK,decide_eq_false_iff_not];omega
theorem So (a b:aJ) (s:AS):aa Tryz.prog uz [.agg (aN a),.agg (aN b)] s fun v s'=>v=.bool (a.lt b)/\Ext s s':=by
 refine aa.pre fun d=>ID _ _ _ _ ⟨rfl,aj.intro d rfl fun l s1 F=>⟨rfl,aj.intro F.wf rfl fun i s2 c=>?_⟩⟩;have e:=F.ext.trans c.ext;simp only [(F.own.ext c.ext).at.av,c.own.at.av,aN,List.getElem?_cons_zero,List.getElem?_cons_succ,go_sem,gl,e,and_true,aJ.lt]
 grind
def pJ (l:List Int) (i:Nat):Bool:=decide (l.getD i 0<=4611686018427387904)&&(decide (i<3)||decide (l.getD i 0=0))
theorem Vu {l:List Int} (h:l.length=16):(List.range 16).all (pJ l)=(tQ l&&(l.drop 3).all fun n=>decide (n=0)):=by
 obtain ⟨a,b,c,d,e,f,g,i,j,k,l,m,n,o,p,q,rfl⟩:=Sk h;rw [Bool.eq_iff_iff];simp [List.range,List.range.loop,pJ,tQ]
 grind
structure HL (hd:AV) (F:List Nat) (s:AS) (p:Nat) (v:List Int) (n:Nat):Prop where
 len:v.length=16
 mem:∃ (lg bh:AV) (L:List nU) (B:List F_),Am.Own s p (gh v lg bh hd)/\p∈F /\
  (br iA 21 s lg L/\(∀ y∈ay lg,y∈F)/\L.length=n)/\(br ry 16 s bh B/\(∀ y∈ay bh,y∈F)/\B.length=n)
section
variable {hd:AV} {F F':List Nat} {s s':AS} {p n:Nat} {v:List Int}
theorem HL.mut {L:List Nat} (h:HL hd F s p v n) (m:bD L s s') (c:∀ y∈L,y ∉ F):HL hd F s' p v n:=by
 obtain ⟨i,lg,bh,j,B,k,h2,⟨a1,a2,a3⟩,⟨l,e,o⟩⟩:=h;exact ⟨i,lg,bh,j,B,k.mut m (fun b=>c p b h2),h2,⟨a1.mut m (fun y d b=>c y b (a2 y d)),a2,a3⟩,⟨l.mut m (fun y d b=>c y b (e y d)),e,o⟩⟩
theorem HL.ext (h:HL hd F s p v n) (e:Ext s s'):HL hd F s' p v n:=h.mut (L:=[]) e.mut (by simp)
set_option maxRecDepth 20000 in
theorem T_ (h:HL hd F s p v n) {m:nU} (hm:Bc s m):aa Tryz.prog kR [.ptr (some (p,0)),.agg (iA m)] s fun r s'=>r=.bool (iz m.ev)/\Ext s s':=by
 refine aa.pre fun hw=>yV _ _ _ _ ⟨dU m,aj.intro hw rfl fun l1 s2 F2=>?_⟩;have c2:=F2.own.at;have ev:=bq m;refine ⟨_,c2.aD (by omega),?_⟩;rw [NX];refine aa.use (OZ _ _) ?_;rintro v4 s5 ⟨rfl,e5⟩ w5;have A:=c2.ext e5;have d:=F2.ext.trans e5;obtain ⟨hl,lg,bh,L',B,K,_⟩:=h.ext d;refine ⟨_,rfl,af.mk (fun hb=>⟨?_,d⟩) (fun hb=>⟨m.ev.id.r,by rw [A.av];rfl,3,by rw [K.at.av];rfl,af.dec (fun ab=>⟨?_,d⟩) (fun ab=>⟨m.ev.dV,by rw [A.av];rfl,?_⟩)⟩)⟩
 ·simp only [Bool.not_eq_true'] at hb;simp [iz,sH,hb]
 ·simp [iz,show ¬ m.ev.id.r<=3 by omega]
 have L:m.ev.id.may=true:=by simpa using hb
 have ad:m.ev.id.r<=3:=by omega
 refine aa.use (L6 _ _) ?_;rintro a6 bP ⟨rfl,rfl⟩ ae;have j:=hm.ext d;refine ⟨_,rfl,af.mk (fun hb=>⟨?_,d⟩) (fun hb=>⟨m.pv,by rw [A.av];rfl,_,j.1.cI aL _,af.dec (fun M=>⟨?_,d⟩) (fun M=>⟨m.tv,by rw [A.av,qW],_,j.2.cI fK _,af.dec (fun C=>⟨?_,d⟩) (fun C=>⟨m.ev.id.r,by rw [A.av];rfl,?_⟩)⟩)⟩)⟩
 ·have:aK m.ev.dV=false:=by simpa using hb
  simp [iz,sH,this]
 ·simp [iz,sH,show ¬ m.ev.u5.length<=512 by omega]
 ·simp [iz,sH,show ¬ m.ev.to.length<=1024 by omega]
 have hn:aK m.ev.dV=true:=by simpa using hb
 obtain ⟨hr,O⟩:=Cp L;dsimp only;rw [hr];have Z:ag T aY (.ptr (some (l1,4))) (.int .i64 ((m.ev.id.r.toNat - 1:Nat):Int))=some (.ptr (some (l1,4+(m.ev.id.r.toNat - 1)))):=by
  rw [Qw (by omega)];simp
 refine ⟨_,_,Z,_,by rw [A.av,A_ m O],m.ev.id.c,by rw [A.av];rfl,af.mk (fun hb=>⟨?_,d⟩) (fun hb=>?_)⟩
 ·have:xp m.ev=false:=decide_eq_false (bne_iff_ne.1 hb);simp [iz,sH,this]
 have hp:xp m.ev=true:=decide_eq_true (by rw [bne_eq_false_iff_eq] at hb;exact hb);have Q:iz m.ev=((List.range 16).all (pJ m.ev.jP)&&xo m.ev.to):=by
  rw [Vu m.len];simp only [iz,sH,L,hp,hn,ad,show m.ev.u5.length<=512 by omega,show m.ev.to.length<=1024 by omega,decide_true,Bool.true_and,Bool.and_true];cases tQ m.ev.jP <;> cases xo m.ev.to <;> simp
 rw [Q];refine ⟨fun vs s'=>vs=[]/\Ext bP s'/\aM s'/\(List.range 16).all (pJ m.ev.jP)=true,?_,?_⟩
 ·rintro dW ⟨_,al,am,R⟩;rw [R,Bool.true_and];refine ⟨fun m' vs s'=>∃ i:Nat,vs=[.int .i64 (i:Nat)]/\i<=m.ev.to.length/\m'=m.ev.to.length - i/\Ext bP s'/\aM s'/\(List.range i).all (u7 m.ev.to)=true,m.ev.to.length,⟨0,rfl,by omega,rfl,al,am,rfl⟩,?_⟩;rintro m' a7 a8 ⟨i,hi,h6,rfl,x,a9,z⟩;simp only [List.cons.injEq,AV.int.injEq,true_and,and_true] at hi;subst hi;have S:=A.ext x;refine ⟨m.tv,by rw [S.av,qW],_,(j.2.ext x).cI fK _,af.dec (fun an=>?_) (fun ao=>?_)⟩
  ·obtain ⟨y,U⟩:=de (l:=m.ev.to) (i:=i) (by omega);obtain ⟨la,o,h8,h9⟩:=j.2.ix (by decide) en fK BH U;refine ⟨m.tv,by rw [S.av,qW],la,o,h8 _,aN y.dot,rU (h9 _ x).2 (by omega),?_⟩;have next:∀ {s':AS},Ext bP s'->aM s'->u7 m.ev.to i=true->∃ m',m'<m.ev.to.length - i/\∃ k:Nat,[AV.int .i64 (IntKind.wrap .i64 ((i:Int)+1))]=[.int .i64 (k:Nat)]/\k<=m.ev.to.length/\m'=m.ev.to.length - k/\Ext bP s'/\aM s'/\(List.range k).all (u7 m.ev.to)=true:=fun e w ht=>by
    refine ⟨m.ev.to.length - (i+1),by omega,i+1,by rw [Cj (by omega)],by omega,rfl,e,w,?_⟩;rw [List.range_succ,List.all_append,z];simp [ht]
   have bad:u7 m.ev.to i=false->xo m.ev.to=false:=fun D=>by
    rw [xo,List.all_eq_false];exact ⟨i,by simp;omega,by simp [D]⟩
   refine aa.use (OZ _ _) ?_;rintro a' ap ⟨rfl,ar⟩ ba;have b:=x.trans ar;have G:=A.ext b;have W:av ap la (o+2)=some (.str y.dev):=by rw [(h9 _ b).1 2 (by omega)];rfl
   refine ⟨_,rfl,af.mk (fun K=>⟨by rw [bad (by simpa [u7,U] using fun h=>by simp [h] at K)],d.trans b⟩) (fun K=>⟨m.tv,by rw [G.av,qW],la,o,h8 _,y.dev,W,?_⟩)⟩;have H:y.dot.may=true:=by simpa using K
   refine aa.use (L6 _ _) ?_;rintro bb bc ⟨rfl,rfl⟩ aw;refine ⟨_,rfl,af.mk (fun h2=>⟨by rw [bad (by simp only [Bool.not_eq_true'] at h2;simp [u7,U,H,h2])],d.trans b⟩) (fun h2=>af.dec (fun a4=>?_) (fun hz=>?_))⟩
   ·have I:aK y.dev=true:=by simpa using h2
    have a0:i≠0:=by omega
    obtain ⟨u,hu⟩:=de (l:=m.ev.to) (i:=i - 1) (by omega);obtain ⟨lu,ou,k8,k9⟩:=j.2.ix (by decide) en fK BH hu;have a1:IntKind.wrap .i64 ((i:Int) - 1)=((i - 1:Nat):Int):=by rw [aW (by omega)];omega
    rw [a1];refine ⟨m.tv,by rw [G.av,qW],lu,ou,k8 _,aN u.dot,rU (k9 _ b).2 (by omega),m.tv,by rw [G.av,qW],la,o,h8 _,aN y.dot,rU (h9 _ b).2 (by omega),?_⟩;refine aa.use (So _ _ _) ?_;rintro bd be ⟨rfl,X⟩ a2;have ht:u7 m.ev.to i=u.dot.lt y.dot:=by simp [u7,U,H,I,a0,hu]
    refine ⟨_,rfl,af.mk (fun h3=>⟨by rw [bad (by rw [ht];simpa using h3)],d.trans (b.trans X)⟩) (fun h3=>next (b.trans X) a2 (by rw [ht];simpa using h3))⟩
   ·have I:aK y.dev=true:=by simpa using h2
    obtain rfl:i=0:=by omega
    exact next b aw (by simp [u7,U,H,I])
  ·obtain rfl:i=m.ev.to.length:=by omega
   exact ⟨by rw [xo,z],d.trans x⟩
 ·refine ⟨fun m' vs s'=>∃ i:Nat,vs=[.int .i64 (i:Nat)]/\i<=16/\m'=16 - i/\s'=bP/\(List.range i).all (pJ m.ev.jP)=true,16,⟨0,rfl,by omega,rfl,rfl,rfl⟩,?_⟩;rintro m' bi J ⟨i,hi,h6,rfl,rfl,z⟩;simp only [List.cons.injEq,AV.int.injEq,true_and,and_true] at hi;subst hi;refine af.dec (fun an=>?_) (fun ao=>?_)
  ·have Z:ag T aY (.ptr (some (l1,4))) (.int .i64 (i:Nat))=some (.ptr (some (l1,4+i))):=by
    rw [Qw (by omega)];simp
   have Y:av J l1 (4+i)=some (.int .u64 (m.ev.jP.getD i 0)):=by rw [A.av,A_ m (by omega)]
   have next:pJ m.ev.jP i=true->∃ m',m'<16 - i/\∃ k:Nat,[AV.int .i64 (IntKind.wrap .i64 ((i:Int)+1))]=[.int .i64 (k:Nat)]/\k<=16/\m'=16 - k/\J=J/\(List.range k).all (pJ m.ev.jP)=true:=fun ht=>by
    refine ⟨16 - (i+1),by omega,i+1,by rw [Cj (by omega)],by omega,rfl,rfl,?_⟩;rw [List.range_succ,List.all_append,z];simp [ht]
   have bad:pJ m.ev.jP i=false->(List.range 16).all (pJ m.ev.jP)=false:=fun D=>by
    rw [List.all_eq_false];exact ⟨i,by simp;omega,by simp [D]⟩
   refine ⟨_,_,Z,_,Y,af.dec (fun a5=>⟨by rw [bad (by rw [pJ,decide_eq_false (by omega)];rfl)];simp,d⟩) (fun bj=>⟨3,by rw [K.at.av];rfl,af.dec (fun h3=>⟨_,_,Z,_,Y,af.mk (fun a3=>⟨?_,d⟩) (fun he=>next ?_)⟩) (fun h3=>next ?_)⟩)⟩
   ·rw [bad (by rw [pJ,decide_eq_false (show ¬ i<3 by omega),decide_eq_false (bne_iff_ne.1 a3)];simp)];simp
   ·rw [bne_eq_false_iff_eq] at he;rw [pJ,he];simp
   ·rw [pJ,decide_eq_true (show i<3 by omega),decide_eq_true (show m.ev.jP.getD i 0<=4611686018427387904 by omega)];rfl
  ·obtain rfl:i=16:=by omega
   exact ⟨rfl,Ext.refl _,ae,z⟩
end
end Go.Proofs.YtohgmogbabkkeaaGreat
end

section
namespace Go.Proofs.YtohgmogbabkkeaaGreat
open Go.Am Go.au Go.aC Go.bL
theorem Sq {v:List Int} (h:v.length=16) (lg bh hd b:AV):(gh v lg bh hd).set 18 b=gh v b bh hd:=by
 simp [gh,List.set_append,h]
theorem Sr {v:List Int} (h:v.length=16) (lg bh hd b:AV):(gh v lg bh hd).set 19 b=gh v lg b hd:=by
 simp [gh,List.set_append,h]
section
variable {hd:AV} {F:List Nat} {s:AS} {p n:Nat} {v:List Int}
theorem u9 {L:List Nat} {s s':AS} {y:Nat} (d:bD L s s') (b:s'.h y=none):y∈L\/s.h y=none:=by
 by_cases c:y∈L
 ·exact .inl c
 ·right;cases e:s.h y with
  | none=>rfl
  | some o=>rw [d.1 y o c e] at b;cases b
set_option maxRecDepth 20000 in
theorem Ql {m:nU} (h:HL hd F s p v n) (a6:m.ev.id.may=true) (hn:n+1<=2 ^ 29) :
  aa Tryz.prog jq [.ptr (some (p,0)),.agg (iA m)] s fun r s'=>r=.aP []/\∃ F',HL hd F' s' p (v.set (m.ev.id.r.toNat - 1) (IntKind.wrap .u64 (v.getD (m.ev.id.r.toNat - 1) 0+1))) (n+1)/\bD F s s'/\(∀ y∈F',y∈F\/s.h y=none)/\(∀ y∈F',s'.h y≠none)/\xq p s s':=by
 have ev:=bq m;refine aa.pre fun hw=>wO _ _ _ _ ⟨dU m,aj.intro hw rfl fun l1 s2 Z=>⟨m.ev.id.r,by rw [Z.own.at.av];rfl,?_⟩⟩;obtain ⟨H,lg,bh,L,B,h1,h2,⟨a1,a2,a3⟩,⟨b1,b2,b3⟩⟩:=id h;obtain ⟨hr,w⟩:=Cp a6;dsimp only;rw [hr];generalize hi:m.ev.id.r.toNat - 1=i at w ⊢;have o2:=h1.ext Z.ext;have hx:ag T c_ (.ptr (some (p,0+2))) (.int .i64 ((i:Nat):Int))=some (.ptr (some (p,2+i))):=by
  rw [Nz (by omega)];simp
 have a7:=oR H lg bh hd;refine ⟨_,_,hx,_,by rw [o2.at.av,JG H lg bh _ w],_,_,hx,bt.own Z.wf o2 (by rw [a7];simp;omega) fun bP Q=>?_⟩;generalize oX:v.set i (IntKind.wrap .u64 (v.getD i 0+1))=v';have k:v'.length=16:=by rw [<- oX,List.length_set,H]
 have R:Am.Own bP p (gh v' lg bh hd):=by
  have:=Q.at;rw [fy,HJ H lg bh _ w,oX] at this;exact this
 have ab:=oR k lg bh hd;have z:bD [p] s bP:=Z.ext.mut.trans Q.mut;have d1:l1≠p:=fun e=>by
  have:=Z.no;rw [e,h1] at this;cases this
 have ad:Am.Own bP l1 (iA m):=Z.own.mut Q.mut (by simpa using d1);have t0:∀ y∈[p],∀ g,Tag s y g->g=0:=fun y d g t=>by
  obtain rfl:=List.mem_singleton.1 d;exact t.uniq (Own.tag h1)
 have ae:br iA 21 bP lg L:=br.e_ a1 z fun y d g t=>by rw [t0 y d g t];decide
 have a8:br ry 16 bP bh B:=br.e_ b1 z fun y d g t=>by rw [t0 y d g t];decide
 have hs:=zn k lg bh hd
 let M:F_:=⟨v',k⟩
 have al:∀ s',Am.Own s' p (gh v' lg bh hd)->av s' p (0+18)=some lg:=fun s' o=>by rw [o.at.av];exact hs.1
 have rl:∀ s',Am.Own s' l1 (iA m)->aD s' l1 0 21=some (iA m):=fun s' o=>by rw [o.at.aD (by omega),gJ]
 refine ⟨fun a b=>(∀ l cs,Am.Own a l cs->Am.Own b l cs)/\bD (ay lg) a b,fun q _ v s'=>br iA 21 s' v (L++[m]),fun s'=>br iA 21 s' lg L,
  fun q _ v s'=>(q=6->∃ l,v=.slc (some (l,0)) 1 1 true/\Am.Own s' l (iA m))/\(q=7->∀ y∈ay v,y∈ay lg\/bP.h y=none),
  fun q _ v=>(q=7->v.one=true),fun a b e=>⟨fun l cs o=>o.ext e,e.mut⟩,fun a b c x y=>⟨fun l cs o=>y.1 l cs (x.1 l cs o),x.2.trans y.2⟩,fun q _ v a b e g=>g.ext e,?_,fun a b e g=>g.ext e,ae,?_⟩
 ·rintro q ks v a b ⟨x1,_⟩ ⟨I,g2⟩;refine ⟨fun hq=>?_,g2⟩;obtain ⟨l,e,S⟩:=I hq;exact ⟨l,e,x1 _ _ S⟩
 refine ⟨fun s' _ _=>rfl,_,al _ R,fun s' x _=>⟨_,al _ (x.1 _ _ R),rfl⟩,_,rl _ ad,fun s' x _=>⟨_,rl _ (x.1 _ _ ad),rfl⟩,fun dW b9 a9 _=>⟨_,kh nV (bq m) (dU m),aj.intro a9 rfl fun U a' A=>⟨A.ext,⟨(fun _=>⟨U,rfl,A.own⟩),(fun h=>by cases h)⟩,(fun h=>by cases h)⟩⟩,⟨.bad,(fun h=>by cases h)⟩,fun b' _=>⟨fun ca ba bb W hc=>?_,⟨.nilFunc,fun _=>rfl⟩,fun j am kr J bc W hC=>?_⟩⟩
 ·obtain ⟨l,rfl,S⟩:=W.1.1 rfl;obtain ⟨v',s',e1,I,m1,_,n1⟩:=br.append nV bq dU bb hc (Cr bq S.at) (by simp;omega) eK;have t1:=br.tag hc;refine ⟨v',s',e1,⟨⟨fun l cs o=>o.mut m1 fun d=>?_,m1⟩,I⟩,⟨(fun h=>by cases h),(fun _ y d=>?_)⟩,fun _=>br.one I⟩
  ·have:=(t1 _ d).uniq (Own.tag o);omega
  ·rcases n1 y d with h | h
   ·exact .inl h
   ·exact u9 ba.2 h
 have bd:=W.2.1.2 rfl;have be:br iA 21 kr j (L++[m]):=hC;have an:=J.1 _ _ R;have bi:br ry 16 kr bh B:=br.e_ a8 J.2 fun y d g t=>by
  have:=t.uniq (br.tag ae y d);omega
 refine cM (am rfl) xH (bt.own bc an (by simp [ab]) fun mK C=>?_);have D:Am.Own mK p (gh v' j bh hd):=by
  have:=C.at;rw [fy,Nat.zero_add,Sq k] at this;exact this
 have t34:∀ y∈[p],∀ g,Tag kr y g->g=0:=fun y d g t=>by
  obtain rfl:=List.mem_singleton.1 d;exact t.uniq (Own.tag an)
 have bj:br iA 21 mK j (L++[m]):=br.e_ be C.mut fun y d g t=>by rw [t34 y d g t];decide
 have ao:br ry 16 mK bh B:=br.e_ bi C.mut fun y d g t=>by rw [t34 y d g t];decide
 have bk:=zn k j bh hd;have O:=oR k j bh hd;have ap:∀ s',Am.Own s' p (gh v' j bh hd)->av s' p (0+19)=some bh:=fun s' o=>by rw [o.at.av];exact bk.2.1
 have rv:∀ s',Am.Own s' p (gh v' j bh hd)->aD s' p (0+2) 16=some (ry M):=fun s' o=>by rw [o.at.aD (by rw [O];omega),Bd k];rfl
 refine ⟨fun a b=>(∀ l cs,Am.Own a l cs->Am.Own b l cs)/\bD (ay bh) a b,fun q _ v s'=>br ry 16 s' v (B++[M]),fun s'=>br ry 16 s' bh B,
  fun q _ v s'=>(q=9->∃ l,v=.slc (some (l,0)) 1 1 true/\Am.Own s' l (ry M))/\(q=10->∀ y∈ay v,y∈ay bh\/mK.h y=none),
  fun q _ v=>(q=10->v.one=true),fun a b e=>⟨fun l cs o=>o.ext e,e.mut⟩,fun a b c x y=>⟨fun l cs o=>y.1 l cs (x.1 l cs o),x.2.trans y.2⟩,fun q _ v a b e g=>g.ext e,?_,fun a b e g=>g.ext e,ao,?_⟩
 ·rintro q ks v a b ⟨x1,_⟩ ⟨I,g2⟩;refine ⟨fun hq=>?_,g2⟩;obtain ⟨l,e,S⟩:=I hq;exact ⟨l,e,x1 _ _ S⟩
 refine ⟨fun s' _ _=>rfl,_,ap _ D,fun s' x _=>⟨_,ap _ (x.1 _ _ D),rfl⟩,fun s' _ _=>rfl,_,rv _ D,fun s' x _=>⟨_,rv _ (x.1 _ _ D),rfl⟩,fun cb cc bl _=>⟨_,kh gU (cG M) (oh M),aj.intro bl rfl fun U a' A=>⟨A.ext,⟨(fun _=>⟨U,rfl,A.own⟩),(fun h=>by cases h)⟩,(fun h=>by cases h)⟩⟩,⟨.bad,(fun h=>by cases h)⟩,fun cd _=>⟨fun ce bm bo W hc=>?_,⟨.nilFunc,fun _=>rfl⟩,fun G ar X Y bs W hC=>?_⟩⟩
 ·obtain ⟨l,rfl,S⟩:=W.1.1 rfl;obtain ⟨v',s',e1,I,m1,_,n1⟩:=br.append gU cG oh bo hc (Cr cG S.at) (by simp;omega) dN;have t1:=br.tag hc;refine ⟨v',s',e1,⟨⟨fun l cs o=>o.mut m1 fun d=>?_,m1⟩,I⟩,⟨(fun h=>by cases h),(fun _ y d=>?_)⟩,fun _=>br.one I⟩
  ·have:=(t1 _ d).uniq (Own.tag o);omega
  ·rcases n1 y d with h | h
   ·exact .inl h
   ·exact u9 bm.2 h
 have bx:=W.2.1.2 rfl;have b0:br ry 16 X G (B++[M]):=hC;have aw:=Y.1 _ _ D;have b4:br iA 21 X j (L++[m]):=br.e_ bj Y.2 fun y d g t=>by
  have:=t.uniq (br.tag ao y d);omega
 refine cM (ar rfl) qJ (bt.own bs aw (by simp [O]) fun FZ K=>⟨rfl,?_⟩);have a0:Am.Own FZ p (gh v' j G hd):=by
  have:=K.at;rw [fy,Nat.zero_add,Sr k] at this;exact this
 have t63:∀ y∈[p],∀ g,Tag X y g->g=0:=fun y d g t=>by
  obtain rfl:=List.mem_singleton.1 d;exact t.uniq (Own.tag aw)
 have a4:br iA 21 FZ j (L++[m]):=br.e_ b4 K.mut fun y d g t=>by rw [t63 y d g t];decide
 have a5:br ry 16 FZ G (B++[M]):=br.e_ b0 K.mut fun y d g t=>by rw [t63 y d g t];decide
 have MA:bD (p::(ay lg++ay bh)) s FZ:=(((z.mono (by simp)).trans (J.2.mono (fun y d=>List.mem_cons_of_mem _ (List.mem_append_left _ d)))).trans (C.mut.mono (by simp))).trans ((Y.2.mono (fun y d=>List.mem_cons_of_mem _ (List.mem_append_right _ d))).trans (K.mut.mono (by simp)));have b5:∀ y∈p::(ay lg++ay bh),y∈F:=fun y d=>by
  rcases List.mem_cons.1 d with rfl | d
  ·exact h2
  ·rcases List.mem_append.1 d with d | d
   ·exact a2 y d
   ·exact b2 y d
 refine ⟨p::(ay j++ay G),⟨k,j,G,L++[m],B++[M],a0,by simp,⟨a4,fun y d=>by simp [d],by simp [a3]⟩,⟨a5,fun y d=>by simp [d],by simp [b3]⟩⟩,MA.mono b5,fun y d=>?_,fun y d=>?_,fun l cs g H b6 b7 g0=>MA.1 l _ (fun hm=>?_) H⟩
 ·rcases List.mem_cons.1 d with rfl | d
  ·exact .inl h2
  ·rcases List.mem_append.1 d with d | d
   ·rcases bd y d with h | h
    ·exact .inl (a2 y h)
    ·rcases u9 z h with h | h
     ·obtain rfl:=List.mem_singleton.1 h;exact .inl h2
     ·exact .inr h
   ·rcases bx y d with h | h
    ·exact .inl (b2 y h)
    ·have b8:bD (p::ay lg) s mK:=((z.mono (by simp)).trans (J.2.mono (fun y d=>List.mem_cons_of_mem _ d))).trans (C.mut.mono (by simp));rcases u9 b8 h with h | h
     ·rcases List.mem_cons.1 h with rfl | h
      ·exact .inl h2
      ·exact .inl (a2 y h)
     ·exact .inr h
 ·rcases List.mem_cons.1 d with rfl | d
  ·rw [a0];simp
  ·rcases List.mem_append.1 d with d | d
   ·exact br.k7 a4 y d
   ·exact br.k7 a5 y d
 ·rcases List.mem_cons.1 hm with rfl | hm
  ·exact g0 (Tag.uniq ⟨cs,H⟩ (Own.tag h1)) rfl
  ·rcases List.mem_append.1 hm with hm | hm
   ·exact b6 (Tag.uniq ⟨cs,H⟩ (br.tag a1 _ hm))
   ·exact b7 (Tag.uniq ⟨cs,H⟩ (br.tag b1 _ hm))
end
end Go.Proofs.YtohgmogbabkkeaaGreat
end

section
namespace Go.Proofs.YtohgmogbabkkeaaGreat
open Go.Am Go.au Go.aC Go.bL
def gB (v:List Int) (dV:List UInt8) (u5:List Int) (to:List Ci):Ev:=⟨⟨1,IntKind.wrap .u64 (v.getD 0 0+1)⟩,dV,u5,v,to⟩
section
variable {hd:AV} {F:List Nat} {s:AS} {p n:Nat} {v:List Int}
set_option maxRecDepth 20000 in
theorem L7 (h:HL hd F s p v n) (a0:∀ y∈F,s.h y≠none) {dV:List UInt8} {pv tv:AV} {u5:List Int} {to:List Ci} (gp:Sl qg 1 s pv u5) (gt:Sl ru 3 s tv to) (hp:u5.length<=2 ^ 29) (ht:to.length<=2 ^ 29) (hn:n+1<=2 ^ 29) :
  aa Tryz.prog bE [.ptr (some (p,0)),.str dV,pv,tv] s fun r s' =>
   (iz (gB v dV u5 to)=false/\(∃ g,r=.aP [.agg g,.bool false]/\g.all AV.one=true/\g.length=21)/\Ext s s') \/
   (iz (gB v dV u5 to)=true/\(∃ g,r=.aP [.agg g,.bool true]/\g.all AV.one=true/\g.length=21)/\∃ F',HL hd F' s' p (v.set 0 (IntKind.wrap .u64 (v.getD 0 0+1))) (n+1)/\bD F s s'/\(∀ y∈F',y∈F\/s.h y=none)/\(∀ y∈F',s'.h y≠none)/\xq p s s'):=by
 refine aa.pre fun hw=>uH _ _ _ _ _ _ (aj.intro hw rfl fun l1 s2 i=>?_);have o2:Am.Own s2 l1 JO:=i.own;obtain ⟨K,lg,bh,L,B,C,_⟩:=id (h.ext i.ext);have a1:=oR K lg bh hd;have hx:ag T c_ (.ptr (some (p,0+2))) (.int .i64 (IntKind.wrap .i64 (1 - 1)))=some (.ptr (some (p,2+0))):=by
  rw [aW (by omega),Nz (by omega)];rfl
 refine ⟨fun q _ v s'=>(q=18->aU qg 1 [] s2 s' v u5)/\(q=24->aU ru 3 [] s2 s' v to)/\(q=26->∃ l,v=.ptr (some (l,0))/\Am.Own s' l JO/\s2.h l=none),fun q _ v=>(q=18\/q=24->v.one=true)/\(q=26->∃ l,v=.ptr (some (l,0))),fun q _ v a b e g=>⟨fun O=>(g.1 O).step e,fun O=>(g.2.1 O).step e,fun O=>by obtain ⟨l,x,y,z⟩:=g.2.2 O;exact ⟨l,x,y.ext e,z⟩⟩,1,by rw [C.at.av];rfl,1,by rw [C.at.av];rfl,_,_,hx,_,by rw [C.at.av,JG K lg bh _ (by omega)],_,zb _ _,fun gu Q a2 _=>?_,⟨.slc none 0 0 true,(fun _=>rfl),(fun h=>by cases h)⟩,fun R S=>⟨_,C.at.aD (by rw [a1];omega),fun fP U a3 _=>?_,⟨.slc none 0 0 true,(fun _=>rfl),(fun h=>by cases h)⟩,fun W X=>?_⟩⟩
 ·refine aU.kK gx bU Jy a2 (aU.start (M:=[]) Q.mut) (by simp) (gp.ext (i.ext.trans Q)) (by simp;omega) aL fun v' s' g w' m=>?_;exact ⟨(show bD [] gu s' from m).ext,⟨(fun _=>by simpa using g),(fun h=>by cases h),(fun h=>by cases h)⟩,(fun _=>g.iX.2),(fun h=>by cases h)⟩
 ·refine aU.kK tM en tK a3 (aU.start (M:=[]) U.mut) (by simp) (gt.ext (i.ext.trans U)) (by simp;omega) fK fun v' s' g w' m=>?_;exact ⟨(show bD [] fP s' from m).ext,⟨(fun h=>by cases h),(fun _=>by simpa using g),(fun h=>by cases h)⟩,(fun _=>g.iX.2),(fun h=>by cases h)⟩
 rw [Bd K];have k1:=S.1 (.inl rfl);have k2:=X.1 (.inr rfl)
 let m:nU:=⟨gB v dV u5 to,R,W,K,k1,k2⟩
 have ev:=bq m;refine ⟨_,L4 K k1 k2,fun bs a4 a5 _=>aj.intro a5 rfl fun Y bx I=>⟨I.ext,⟨(fun h=>by cases h),(fun h=>by cases h),(fun _=>⟨Y,rfl,I.own,a4.none I.no⟩)⟩,(fun h=>by rcases h with h | h <;> cases h),(fun _=>⟨Y,rfl⟩)⟩,⟨.ptr (some (0,0)),(fun h=>by rcases h with h | h <;> cases h),(fun _=>⟨0,rfl⟩)⟩,fun v30 Z=>?_⟩;obtain ⟨l,rfl⟩:=Z.2 rfl;refine ⟨_,rfl,fun a6 ab a7 hS=>?_⟩;have a8:=hS.1.1 rfl;have a9:=hS.2.1.2.1 rfl;obtain ⟨l',ad,ae,D⟩:=hS.2.2.1.2.2 rfl;simp only [AV.ptr.injEq,Option.some.injEq,Prod.mk.injEq,and_true] at ad;subst ad;refine ⟨⟨dU m,congrArg some ev.symm⟩,bt.own a7 ae (vs:=iA m) (by rw [ev];exact Nat.le_refl _) fun jZ j=>?_⟩;have al:Am.Own jZ l (iA m):=by
  have:=j.at;rw [dz (by rw [show JO.length=21 from rfl];exact ev)] at this;exact this
 have am:Ext s jZ:=Ext.wr (i.ext.trans ab) (i.ext.none D) j.mut;have d1:l1≠l:=fun e=>by rw [<- e,o2] at D;cases D
 have J:Am.Own jZ l1 JO:=(o2.ext ab).mut j.mut (by simpa using d1);have t32:∀ y∈[l],∀ g,Tag a6 y g->g=0:=fun y c g t=>by
  obtain rfl:=List.mem_singleton.1 c;exact t.uniq (Own.tag ae)
 have a':br qg 1 jZ R u5:=br.e_ a8.vq j.mut fun y c g t=>by rw [t32 y c g t];decide
 have d36:br ru 3 jZ W to:=br.e_ a9.vq j.mut fun y c g t=>by rw [t32 y c g t];decide
 have hE:Bc jZ m:=⟨a'.sl bU,d36.sl en⟩;refine ⟨_,al.at.aD (by omega),?_⟩;rw [gJ];refine aa.use (T_ (h.ext am) hE) ?_;rintro xN b0 ⟨rfl,k⟩ ba;have d:=am.trans k;refine ⟨_,rfl,af.mk (fun hb=>⟨_,HK,?_⟩) (fun hb=>?_)⟩
 ·have bb:iz (gB v dV u5 to)=false:=by simpa using hb
  exact ⟨⟨rfl,rfl⟩,bt.own ba (J.ext k) (Nat.le_refl _) fun s7 P=>⟨JO,(FU rfl rfl P).2,.inl ⟨bb,⟨_,rfl,rfl,rfl⟩,Ext.wr d i.no P.mut⟩⟩⟩
 have an:iz (gB v dV u5 to)=true:=by simpa using hb
 have H:=an;simp only [iz,sH,Bool.and_eq_true,decide_eq_true_eq] at H;have bc:m.ev.id.may=true:=H.1.1.1.1.1.1.1.1;have ao:=al.ext k;refine ⟨_,ao.at.aD (by omega),?_⟩;rw [gJ];refine aa.use (Ql (h.ext d) bc hn) ?_;rintro b1 ap ⟨rfl,F',bd,G,w,ar,be⟩ bi;have nF:∀ y,s.h y=none->y ∉ F:=fun y hn c=>a0 y c hn;have bj:Am.Own ap l (iA m):=ao.mut G (nF _ (i.ext.none D));have bk:Am.Own ap l1 JO:=(J.ext k).mut G (nF _ i.no);refine ⟨rfl,_,bj.at.aD (by omega),?_⟩;rw [gJ];refine ⟨⟨dU m,by rw [ev]⟩,bt.own bi bk (by rw [ev];exact Nat.le_refl _) fun s7 P=>?_⟩;obtain ⟨_,bl⟩:=FU ev rfl P;have aw:l1 ∉ F':=fun c=>by
  rcases w l1 c with h | h
  ·exact nF _ i.no h
  ·rw [J.ext k] at h;cases h
 refine ⟨_,bl,.inr ⟨an,⟨_,rfl,dU m,bq m⟩,F',bd.mut P.mut (fun y c=>by obtain rfl:=List.mem_singleton.1 c;exact aw),?_,?_,?_,fun y cs g c bm bo h0=>?_⟩⟩
 ·refine ⟨fun y o c ho=>?_,Nat.le_trans d.2 (Nat.le_trans G.2 (by rw [P.nl];exact Nat.le_refl _))⟩;have A:y≠l1:=fun e=>by rw [e,i.no] at ho;cases ho
  rw [P.eq y A];exact G.1 y o c (d.1 _ _ ho)
 ·intro y c;rcases w y c with h | h
  ·exact .inl h
  ·exact .inr (d.none h)
 ·intro y c;have A:y≠l1:=fun e=>aw (e ▸ c);rw [P.eq y A];exact ar y c
 ·have A:y≠l1:=fun e=>by rw [e,i.no] at c;cases c
  rw [P.eq y A];exact be y cs g (d.1 _ _ c) bm bo h0
end
section
variable {F:List Nat} {s:AS} {q:Nat} {x:aH}
theorem Ua (h:pK F s q x) (X:x.ex.length<=2 ^ 40):aa Tryz.prog ny [.ptr (some (q,0)),.int .i64 1] s fun r s'=>s'=s/\∃ m:Int,r=.int .u64 m/\0<=m/\x.has ⟨1,m+1⟩=false/\(m=0\/x.has ⟨1,m⟩=true):=by
 obtain ⟨⟨z,hr,hm⟩,_,w,iw,I,a,⟨Y,Z,J⟩,_⟩:=h;have hv:=z.len;have K:ag T c_ (.ptr (some (q,0))) (.int .i64 (IntKind.wrap .i64 (1 - 1)))=some (.ptr (some (q,0))):=by
  rw [aW (by omega),Nz (by omega)];rfl
 have d:av s q (0+16)=some w:=by
  rw [a.at.av,List.getElem?_append_right (by simp [hv])];simp [hv]
 have L:av s q 0=some (.int .u64 (x.v.getD 0 0)):=by
  rw [a.at.av,List.getElem?_append_left (by simp;omega),List.getElem?_map,List.getElem?_eq_getElem (by omega),List.getD_eq_getElem?_getD,List.getElem?_eq_getElem (show 0<x.v.length by omega)];rfl
 have hs:=J.sl bn;refine BL _ _ _ _ ⟨_,_,K,_,L,fun m' vs s'=>∃ (i:Nat) (m:Int),vs=[.int .u64 m,.int .i64 (i:Nat)]/\i<=x.ex.length/\m'=x.ex.length - i/\s'=s/\x.v.getD 0 0<=m/\(∀ e∈x.ex.take i,e.r=1->e.c<=m)/\(m=x.v.getD 0 0\/∃ e∈x.ex,e.r=1/\e.c=m),x.ex.length,⟨0,_,rfl,by omega,rfl,rfl,Int.le_refl _,by simp,.inl rfl⟩,?_⟩;rintro m' C M n ⟨i,m,hi,h6,rfl,rfl,O,h2,h3⟩;simp only [List.cons.injEq,AV.int.injEq,true_and,and_true] at hi;obtain ⟨rfl,rfl⟩:=hi;refine ⟨w,d,_,hs.cI bF _,af.dec (fun Q=>?_) (fun R=>?_)⟩
 ·obtain ⟨e,p⟩:=de (l:=x.ex) (i:=i) (by omega);obtain ⟨la,o,D,H⟩:=hs.ix (by decide) bn bF jR p;have G:av n la o=some (.int .i64 e.r):=by have:=(H _ (Ext.refl _)).1 0 (by omega);simpa [aN] using this
  have A:av n la (o+1)=some (.int .u64 e.c):=by rw [(H _ (Ext.refl _)).1 1 (by omega)];rfl
  have ht:x.ex.take (i+1)=x.ex.take i++[e]:=by rw [List.take_add_one,p];rfl
  refine ⟨fun vs s'=>s'=n/\vs=[.bool (decide (e.r=1)&&decide (e.c>C))],?_,w,d,la,o,D _,e.r,G,af.mk (fun hb=>⟨w,d,la,o,D _,e.c,A,rfl,?_⟩) (fun hb=>⟨rfl,?_⟩)⟩
  ·rintro b eE ⟨rfl,hb⟩;simp only [List.cons.injEq,AV.bool.injEq,and_true] at hb;subst hb;refine af.mk (fun hb=>⟨w,d,la,o,D _,e.c,A,x.ex.length - (i+1),by omega,i+1,e.c,by rw [Cj (by omega)],by omega,rfl,rfl,?_,?_,.inr ⟨e,List.mem_of_getElem? p,?_⟩⟩) (fun hb=>⟨x.ex.length - (i+1),by omega,i+1,C,by rw [Cj (by omega)],by omega,rfl,rfl,O,?_,h3⟩)
   ·simp at hb;omega
   ·simp at hb;rw [ht];intro y j k;rcases List.mem_append.1 j with j | j
    ·have:=h2 y j k;omega
    ·obtain rfl:=List.mem_singleton.1 j;omega
   ·simp at hb;exact ⟨hb.1,rfl⟩
   ·simp at hb;rw [ht];intro y j k;rcases List.mem_append.1 j with j | j
    ·exact h2 y j k
    ·obtain rfl:=List.mem_singleton.1 j;exact hb k
  ·simp at hb;simp [hb]
  ·simp at hb;simp [hb]
 ·obtain rfl:i=x.ex.length:=by omega
  rw [List.take_of_length_le (Nat.le_refl _)] at h2;have S:=z.get 0;refine ⟨rfl,C,rfl,by omega,?_,?_⟩
  ·cases U:x.has ⟨1,C+1⟩ with
   | false=>rfl
   | true =>
    rcases (tJ.1 U).2 with h | h
    ·have:=h2 _ h rfl;simp only at this;omega
    ·simp only [show ((1:Int) - 1).toNat=0 from rfl] at h;omega
  ·rcases h3 with rfl | ⟨e,p,B,rfl⟩
   ·by_cases W:x.v.getD 0 0=0
    ·exact .inl W
    ·exact .inr (tJ.2 ⟨aJ.gD.2 (by simp only;omega),.inr (Int.le_refl _)⟩)
   ·have e2:(⟨1,e.c⟩:aJ)=e:=by cases e;simp only at B;subst B;rfl
    rw [e2];exact .inr (tJ.2 ⟨hm e p,.inl p⟩)
end
end Go.Proofs.YtohgmogbabkkeaaGreat
end

section
set_option maxRecDepth 100000
set_option maxHeartbeats 4000000
namespace Go.Proofs.YtohgmogbabkkeaaGreat
open Go.Am
def N1 (a0:AV) (s:AS) (R:AV->AS->Prop):Prop :=
 aa Tryz.prog aT [a0] s fun c s2=>aj (.map [] 0 false) s2 fun l3 s4=>oS (aS T rL [(0,c),(1,(.map (some l3)))]) fun b=>cH b (aj (.cells b 0 false) s4 fun d s7=>R (.ptr (some (d,0))) s7)
def N2:QA:=(.seq .leaf (.seq .leaf .leaf))
theorem N3 (a0:AV) (s:AS) (R:AV->AS->Prop) (h:N1 a0 s R):aa Tryz.prog nu [a0] s R :=
 aa.q (n:=8) (rs:=[.tmp 2]) (A:=N2) hT bW Tryz.func15 (by kernel_rfl) rfl rfl rfl (by kernel_rfl) (by kernel_rfl) h
def Be (a0:Option (Nat×Nat)) (s:AS) (R:AV->AS->Prop):Prop :=
 sJ (iB T 100 nZ (.ptr a0) (.ptr none)) fun b=>af (!b) (ah a0 fun c d=>vL (av s c (d+1)) fun e=>sJ (iB T 100 aB (.map e) (.map none)) fun i=>R (.bool (!i)) s) (R (.bool false) s)
def Bf:QA:=(.seq .leaf (.seq .leaf .leaf))
theorem mG (a0:Option (Nat×Nat)) (s:AS) (R:AV->AS->Prop) (h:Be a0 s R):aa Tryz.prog bX [.ptr a0] s R :=
 aa.q (n:=12) (rs:=[.tmp 2]) (A:=Bf) hT bW Tryz.func75 (by kernel_rfl) rfl rfl rfl (by kernel_rfl) (by kernel_rfl) h
def Bg (a0:Option (Nat×Nat)) (a1:List UInt8) (a2:Bool) (s:AS) (R:AV->AS->Prop):Prop :=
 aa Tryz.prog bX [.ptr a0] s fun l s2=>∃ j:Bool,l=.bool j/\(af (!j)
 (R (.int .i64 1) s2)
 (bz fun c =>
 (∀ k:Bool,∀ s6:AS,c [.bool k] s6 ->
 af k
 (R (.int .i64 2) s6)
 (ah a0 fun m n=>vL (av s6 m (n+1)) fun o=>ng (dh T aB (.map o) (.str a1) false s6) fun d=>sJ (iB T 100 fl (.ptr d) (.ptr none)) fun e=>af e
 (R (.int .i64 7) s6)
 (R (.int .i64 0) s6))) /\
 (aa Tryz.prog fS [.str a1] s2 fun i bP=>∃ b:Bool,i=.bool b/\(af (!b) (c [.bool true] bP) (c [(.bool (!a2))] bP)))))
def Bh:QA:=(.seq .leaf (.seq (.wrap (.seq .leaf (.cond (.seq .leaf .leaf) (.join [(11,.bool)] [(11,18)] .leaf (.cond (.seq .leaf .leaf) (.seq .leaf (.cond (.seq .leaf .leaf) .leaf))))))) (.seq .leaf .leaf)))
theorem rW (a0:Option (Nat×Nat)) (a1:List UInt8) (a2:Bool) (s:AS) (R:AV->AS->Prop) (h:Bg a0 a1 a2 s R):aa Tryz.prog di [.ptr a0,.str a1,.bool a2] s R :=
 aa.q (n:=27) (rs:=[.tmp 6]) (A:=Bh) hT bW Tryz.func78 (by kernel_rfl) rfl rfl rfl (by kernel_rfl) (by kernel_rfl) h
def zo (a0:Option (Nat×Nat)) (a1:List UInt8) (a2:AV) (s:AS) (R:AV->AS->Prop):Prop :=
 aa Tryz.prog bX [.ptr a0] s fun J s2=>∃ H:Bool,J=.bool H/\(af (!H)
 (R (.int .i64 1) s2)
 (aa Tryz.prog fS [.str a1] s2 fun K i=>∃ I:Bool,K=.bool I/\(af (!I)
 (R (.int .i64 2) i)
 (ah a0 fun L M=>vL (av i L (M+1)) fun O=>ng (dh T aB (.map O) (.str a1) false i) fun m=>sJ (iB T 100 fl (.ptr m) (.ptr none)) fun n=>af (!n)
 (R (.int .i64 7) i)
 (ah a0 fun qZ o=>dS (av i qZ o) fun p=>aa Tryz.prog oC [p,.str a1,a2] i fun r w=>∃ c:List AV,∃ d:Int,r=.aP [.agg c,.int .i64 d]/\(aj (.cells [.int .u64 0,.int .u64 0,.int .u64 0,.int .u64 0,.int .u64 0,.int .u64 0,.int .u64 0,.int .u64 0,.int .u64 0,.int .u64 0,.int .u64 0,.int .u64 0,.int .u64 0,.int .u64 0,.int .u64 0,.int .u64 0] 0 false) w fun zF gi=>fh (some 16) c (bt (cK gi zF 0 c) fun fL=>af ((d:Int) != 0)
 (R (.int .i64 d) fL)
 (ah a0 fun x y=>vL (av fL x (y+1)) fun z=>aV .i64 (aQ T aB (.map z) fL) fun A=>af (decide ((A:Int)>=64))
 (R (.int .i64 5) fL)
 (gy fun S V=>ah a0 fun B C=>vL (av fL B (C+1)) fun D=>aR (aD fL zF 0 16) fun F=>oS (aS T n_ [(0,.agg F)]) fun b=>(∀ mu:AS,Ext fL mu->aM mu->(True)->cH b (aj (.cells b 0 false) mu fun j k=>(Ext mu k/\S 7 [.agg b] (.ptr (some (j,0))) k/\V 7 [.agg b] (.ptr (some (j,0))))))/\(∃ v,V 7 [.agg b] v)/\∀ l:AV,V 7 [.agg b] l->∃ e:Option (Nat×Nat),l=.ptr e/\(∀ jZ:AS,Ext fL jZ->aM jZ->(S 7 [.agg b] (.ptr e) jZ/\True)->bt (dJ T aB (.map D) (.str a1) (.ptr e) jZ) fun G=>R (.int .i64 0) G))))))))))
def zq:QA:=(.seq .leaf (.seq (.wrap (.seq .leaf (.cond (.seq .leaf .leaf) (.seq .leaf (.cond (.seq .leaf .leaf) (.seq .leaf (.cond (.seq .leaf .leaf) .leaf))))))) (.seq .leaf (.seq (.wrap (.seq .leaf (.cond (.seq .leaf .leaf) (.seq .leaf (.cond (.seq .leaf .leaf) .leaf))))) (.seq (.gR 8 [[],[],[],[],[],[],[],[]] [7]) (.seq .leaf .leaf))))))
theorem qX (a0:Option (Nat×Nat)) (a1:List UInt8) (a2:AV) (s:AS) (R:AV->AS->Prop) (h:zo a0 a1 a2 s R):aa Tryz.prog dL [.ptr a0,.str a1,a2] s R :=
 aa.q (n:=54) (rs:=[.tmp 6]) (A:=zq) hT bW Tryz.func18 (by kernel_rfl) rfl rfl rfl (by kernel_rfl) (by kernel_rfl) h
def L8 (a0:List UInt8) (a1:Option (Nat×Nat)) (a2:List AV) (a3:Option (Nat×Nat)) (s:AS) (R:AV->AS->Prop):Prop :=
 cH a2 (aj (.cells a2 0 false) s fun l1 s2=>aj (.cells [.ptr a3] 0 false) s2 fun l3 s4=>aR (aD s4 l1 0 21) fun w=>aa Tryz.prog yQ [.agg w,.str a0] s4 fun r s7=>ah a1 fun x y=>aR (aD s7 x y 16) fun e=>aR (aD s7 l1 0 2) fun i=>aa Tryz.prog si [.agg e,.agg i] s7 fun j bP=>∃ b:Bool,j=.bool b/\(af b (R (.bool false) bP) (aV .i64 (aQ T az r bP) fun k=>af ((k:Int)==0)
 (R (.bool false) bP)
 (ng (av bP l3 0) fun l=>FY (av bP l1 2) fun m=>oS (aS T oH [(0,.str m),(1,.str a0)]) fun n=>aa Tryz.prog oZ [.ptr l,.agg n] bP fun o gi=>∃ c:Bool,o=.bool c/\(af c (R (.bool true) gi) (aa Tryz.prog ef [r,(.func sj [(.ptr (some (l3,0)))])] gi fun p tW=>∃ d:Bool,p=.bool d/\(R (.bool d) tW)))))))
def L9:QA:=(.seq .leaf (.seq .leaf (.seq (.seq (.draw 6) (.cond (.seq .leaf .leaf) .leaf)) (.seq .leaf .leaf))))
theorem L_ (a0:List UInt8) (a1:Option (Nat×Nat)) (a2:List AV) (a3:Option (Nat×Nat)) (s:AS) (R:AV->AS->Prop) (h:L8 a0 a1 a2 a3 s R):aa Tryz.prog wC [.str a0,.ptr a1,.agg a2,.ptr a3] s R :=
 aa.q (n:=36) (rs:=[.tmp 8]) (A:=L9) hT bW Tryz.func160 (by kernel_rfl) rfl rfl rfl (by kernel_rfl) (by kernel_rfl) h
def GX (a0:List AV) (c0:Option (Nat×Nat)) (s:AS) (R:AV->AS->Prop):Prop :=
 cH a0 (aj (.cells a0 0 false) s fun l1 s2=>ah c0 fun l3 c=>ng (av s2 l3 c) fun d=>aR (aD s2 l1 0 2) fun e=>aa Tryz.prog nE [.ptr d,.agg e] s2 fun i s8=>∃ b:Bool,i=.bool b/\(R (.bool (!b)) s8))
def GY:QA:=(.seq .leaf (.seq .leaf .leaf))
theorem GZ (a0:List AV) (c0:Option (Nat×Nat)) (s:AS) (R:AV->AS->Prop) (h:GX a0 c0 s R):aa Tryz.prog sj [.agg a0,.ptr c0] s R :=
 aa.q (n:=8) (rs:=[.tmp 3]) (A:=GY) hT bW Tryz.func214 (by kernel_rfl) rfl rfl rfl (by kernel_rfl) (by kernel_rfl) h
def zu (a0:Option (Nat×Nat)) (a1:List UInt8) (a2:Option (Nat×Nat)) (a3:Option (Nat×Nat)) (a4:AV) (s:AS) (R:AV->AS->Prop):Prop :=
 ah a0 fun l1 o2=>aV .i64 (av s l1 (o2+16)) fun F=>bB fun p G=>p G [.int .i64 F] s /\
 ∀ D:Nat,∀ j:Int,∀ s8:AS,p D [.int .i64 j] s8 ->
 aa Tryz.prog lV [.ptr a2] s8 fun H k=>∃ l:Int,H=.int .i64 l/\(af (decide ((j:Int)<l))
 (aa Tryz.prog nC [.ptr a2,.int .i64 j] k fun r bP=>∃ c:List AV,∃ d:List AV,∃ w:Bool,r=.aP [.agg c,.agg d,.bool w]/\(aj (.cells [.int .i64 0,.int .u64 0,.str [],.slc none 0 0 true,.int .u64 0,.int .u64 0,.int .u64 0,.int .u64 0,.int .u64 0,.int .u64 0,.int .u64 0,.int .u64 0,.int .u64 0,.int .u64 0,.int .u64 0,.int .u64 0,.int .u64 0,.int .u64 0,.int .u64 0,.int .u64 0,.slc none 0 0 true] 0 false) bP fun e eE=>aj (.cells [.int .u64 0,.int .u64 0,.int .u64 0,.int .u64 0,.int .u64 0,.int .u64 0,.int .u64 0,.int .u64 0,.int .u64 0,.int .u64 0,.int .u64 0,.int .u64 0,.int .u64 0,.int .u64 0,.int .u64 0,.int .u64 0] 0 false) eE fun zF gi=>fh (some 21) c (bt (cK gi e 0 c) fun fL=>fh (some 16) d (bt (cK fL zF 0 d) fun fP=>bz fun i =>
 (∀ m:Bool,∀ dW:AS,i [.bool m] dW ->
 af m
 (R (.int .i64 (IntKind.wrap .i64 (j+1))) dW)
 (∃ m',m'<D/\p m' [(.int .i64 (IntKind.wrap .i64 (j+1)))] dW)) /\
 (aR (aD fP e 0 21) fun x=>aa Tryz.prog wC [.str a1,.ptr a0,.agg x,.ptr a3] fP fun y b=>∃ n:Bool,y=.bool n/\(af n (aR (aD b e 0 21) fun z=>aR (aD b zF 0 16) fun A=>er Tryz.prog a4 [.agg z,.agg A] b fun B C=>∃ o:Bool,B=.bool o/\(i [(.bool (!o))] C)) (i [.bool false] b)))))))
 (R (.int .i64 j) k))
def zv:QA:=(.seq .leaf (.seq .leaf (.seq (.wrap (.loop [(11,.int .i64)] [(10,14),(19,45)] (.seq (.seq .leaf (.cond .leaf .leaf)) (.seq (.wrap (.seq .leaf (.join [(43,.bool)] [(32,43)] .leaf (.cond (.seq .leaf .leaf) .leaf)))) .leaf)))) (.seq .leaf .leaf))))
theorem zw (a0:Option (Nat×Nat)) (a1:List UInt8) (a2:Option (Nat×Nat)) (a3:Option (Nat×Nat)) (a4:AV) (s:AS) (R:AV->AS->Prop) (h:zu a0 a1 a2 a3 a4 s R):aa Tryz.prog bQ [.ptr a0,.str a1,.ptr a2,.ptr a3,a4] s R :=
 aa.q (n:=47) (rs:=[.tmp 10]) (A:=zv) hT bW Tryz.func79 (by kernel_rfl) rfl rfl rfl (by kernel_rfl) (by kernel_rfl) h
def Cs (a0:Option (Nat×Nat)) (a1:List UInt8) (a2:Int) (a3:Option (Nat×Nat)) (a4:Option (Nat×Nat)) (s:AS) (R:AV->AS->Prop):Prop :=
 aj (.cells [.int .i64 a2] 0 false) s fun l1 s2=>bz fun A =>
 (∀ b4:Bool,∀ k:AS,A [.bool b4] k ->
 af b4
 (R (.aP [.slc none 0 0 true,.int .i64 1]) k)
 (bz fun B =>
 (∀ D:Int,∀ s8:AS,B [.int .i64 D] s8 ->
 af ((D:Int) != 0)
 (R (.aP [.slc none 0 0 true,.int .i64 D]) s8)
 (ah a0 fun l9 F=>vL (av s8 l9 (F+1)) fun G=>ng (dh T aB (.map G) (.str a1) false s8) fun H=>aj (.cells [.ptr none] 0 false) s8 fun b I=>bt (cK I b 0 [.ptr H]) fun gu=>aj (.cells [.slc none 0 0 true] 0 false) gu fun q_ lK=>sR lK fun X C c S V=>ng (av lK b 0) fun l=>(∀ eE:AS,X lK eE->aM eE->ng (av eE b 0) fun J=>(((.ptr J):AV)=(.ptr l)))/\(ng (av lK b 0) fun d=>(∀ fL:AS,X lK fL->aM fL->ng (av fL b 0) fun K=>(((.ptr K):AV)=(.ptr d)))/\((∀ m:AS,X lK m->aM m->(((.func bJ [(.ptr (some (q_,0))),(.ptr (some (b,0))),(.ptr (some (l1,0)))]):AV)=(.func bJ [(.ptr (some (q_,0))),(.ptr (some (b,0))),(.ptr (some (l1,0)))])))/\((∀ dW:AS,X lK dW->aM dW->(True)->c dW->aa Tryz.prog bQ [.ptr d,.str a1,.ptr a3,.ptr a4,(.func bJ [(.ptr (some (q_,0))),(.ptr (some (b,0))),(.ptr (some (l1,0)))])] dW fun L j=>∃ e:Int,L=.int .i64 e/\(((X dW j/\C 6 [(.func bQ []),.ptr d,.str a1,.ptr a3,.ptr a4,(.func bJ [(.ptr (some (q_,0))),(.ptr (some (b,0))),(.ptr (some (l1,0)))])] (.int .i64 e) j)/\S 6 [(.func bQ []),.ptr d,.str a1,.ptr a3,.ptr a4,(.func bJ [(.ptr (some (q_,0))),(.ptr (some (b,0))),(.ptr (some (l1,0)))])] (.int .i64 e) j/\V 6 [(.func bQ []),.ptr d,.str a1,.ptr a3,.ptr a4,(.func bJ [(.ptr (some (q_,0))),(.ptr (some (b,0))),(.ptr (some (l1,0)))])] (.int .i64 e))))/\(∃ v,V 6 [(.func bQ []),.ptr d,.str a1,.ptr a3,.ptr a4,(.func bJ [(.ptr (some (q_,0))),(.ptr (some (b,0))),(.ptr (some (l1,0)))])] v)/\∀ n:AV,V 6 [(.func bQ []),.ptr d,.str a1,.ptr a3,.ptr a4,(.func bJ [(.ptr (some (q_,0))),(.ptr (some (b,0))),(.ptr (some (l1,0)))])] n->∃ i:Int,n=.int .i64 i/\(∀ mu:AS,X lK mu->aM mu->(S 6 [(.func bQ []),.ptr d,.str a1,.ptr a3,.ptr a4,(.func bJ [(.ptr (some (q_,0))),(.ptr (some (b,0))),(.ptr (some (l1,0)))])] (.int .i64 i) mu/\True)->C 6 [(.func bQ []),.ptr d,.str a1,.ptr a3,.ptr a4,(.func bJ [(.ptr (some (q_,0))),(.ptr (some (b,0))),(.ptr (some (l1,0)))])] (.int .i64 i) mu->ah l fun M O=>bt (cK mu M (O+16) [.int .i64 i]) fun kr=>dS (av kr q_ 0) fun Q=>R (.aP [Q,.int .i64 0]) kr)))))) /\
 (aV .i64 (av k l1 0) fun U=>af (decide ((U:Int)>=1)) (aV .i64 (av k l1 0) fun W=>aa Tryz.prog di [.ptr a0,.str a1,(.bool (decide ((W:Int)<=16)))] k fun Y Z=>∃ o:Int,Y=.int .i64 o/\(B [.int .i64 o] Z)) (aa Tryz.prog di [.ptr a0,.str a1,.bool false] k fun ab ad=>∃ p:Int,ab=.int .i64 p/\(B [.int .i64 p] ad))))) /\
 (aa Tryz.prog bX [.ptr a0] s2 fun ae r=>∃ w:Bool,ae=.bool w/\(af w (aa Tryz.prog eG [.ptr a3] r fun al x=>∃ y:Option (Nat×Nat),al=.ptr y/\(sJ (iB T 100 iG (.ptr y) (.ptr none)) fun am=>af am (A [.bool true] x) (aa Tryz.prog fR [.ptr a4] x fun an ao=>∃ z:Option (Nat×Nat),an=.ptr z/\(sJ (iB T 100 lA (.ptr z) (.ptr none)) fun ap=>A [.bool ap] ao)))) (A [.bool false] r)))
def Cu:QA:=(.seq .leaf (.seq (.join [(26,.bool)] [(15,26)] .leaf (.cond (.seq .leaf .leaf) .leaf)) (.seq (.join [(12,.int .i64)] [(12,12),(27,35)] .leaf (.seq .leaf (.cond (.seq .leaf .leaf) .leaf))) (.seq .leaf (.seq .leaf (.seq (.ve [0,1,2,3,4,5,6] [7,8,9] [[],[],[],[],[],[],[]] [6] [6]) (.seq .leaf .leaf)))))))
theorem nW (a0:Option (Nat×Nat)) (a1:List UInt8) (a2:Int) (a3:Option (Nat×Nat)) (a4:Option (Nat×Nat)) (s:AS) (R:AV->AS->Prop) (h:Cs a0 a1 a2 a3 a4 s R):aa Tryz.prog cZ [.ptr a0,.str a1,.int .i64 a2,.ptr a3,.ptr a4] s R :=
 aa.q (n:=55) (rs:=[.tmp 10,.tmp 11]) (A:=Cu) hT bW Tryz.func19 (by kernel_rfl) rfl rfl rfl (by kernel_rfl) (by kernel_rfl) h
def zx (a0:List AV) (a1:List AV) (c0:Option (Nat×Nat)) (Q:Option (Nat×Nat)) (c2:Option (Nat×Nat)) (s:AS) (R:AV->AS->Prop):Prop :=
 cH a0 (aj (.cells a0 0 false) s fun l1 s2=>cH a1 (aj (.cells a1 0 false) s2 fun l3 s4=>sR s4 fun X C c S V=>ah Q fun l6 o7=>ng (av s4 l6 o7) fun p8=>(∀ U:AS,X s4 U->aM U->ah Q fun l9 W=>ng (av U l9 W) fun Y=>(((.ptr Y):AV)=(.ptr p8)))/\((∀ dI:AS,X s4 dI->aM dI->(True)->c dI->ah c0 fun Z ab=>dS (av dI Z ab) fun w=>((X dI dI/\C 1 [.ptr c0] w dI)/\S 1 [.ptr c0] w dI/\V 1 [.ptr c0] w))/\(∃ v,V 1 [.ptr c0] v)/\∀ nM:AV,V 1 [.ptr c0] nM->aR (aD s4 l1 0 21) fun i=>(∀ lK:AS,X s4 lK->aM lK->aR (aD lK l1 0 21) fun ad=>(((.agg ad):AV)=(.agg i)))/\((∀ gi:AS,X s4 gi->aM gi->(True)->aR (cV T bS 1 [(0,.agg i)]) fun ae=>aj (.cells ae 0 false) gi fun K tW=>(Ext gi tW/\S 3 [.agg i] (.slc (some (K,0)) 1 1 true) tW/\V 3 [.agg i] (.slc (some (K,0)) 1 1 true)))/\(∃ v,V 3 [.agg i] v)/\∀ b:AV,V 3 [.agg i] b->(∀ dW:AS,X s4 dW->aM dW->(S 1 [.ptr c0] nM dW/\(S 3 [.agg i] b dW/\True))->C 1 [.ptr c0] nM dW->iD (aI T bS bS nM b dW) fun x y=>((X dW y/\C 4 [nM,b] x y)/\S 4 [nM,b] x y/\V 4 [nM,b] x))/\(∃ v,V 4 [nM,b] v)/\∀ d:AV,V 4 [nM,b] d->ah Q fun al am=>ng (av s4 al am) fun z=>(∀ A:AS,X s4 A->aM A->ah Q fun an ao=>ng (av A an ao) fun ap=>(((.ptr ap):AV)=(.ptr z)))/\(ah z fun B D=>(∀ jZ:AS,X s4 jZ->aM jZ->ah z fun ar aw=>(((.ptr (some (ar,aw))):AV)=(.ptr (some (B,D)))))/\(dS (av s4 B (D+17)) fun j=>(∀ F:AS,X s4 F->aM F->dS (av F B (D+17)) fun a2=>((a2:AV)=j))/\(aR (aD s4 l3 0 16) fun m=>(∀ G:AS,X s4 G->aM G->aR (aD G l3 0 16) fun a3=>(((.agg a3):AV)=(.agg m)))/\((∀ p:AS,X s4 p->aM p->(True)->aR (cV T a_ 1 [(0,.agg m)]) fun a4=>aj (.cells a4 0 false) p fun L M=>(Ext p M/\S 10 [.agg m] (.slc (some (L,0)) 1 1 true) M/\V 10 [.agg m] (.slc (some (L,0)) 1 1 true)))/\(∃ v,V 10 [.agg m] v)/\∀ e:AV,V 10 [.agg m] e->(∀ n:AS,X s4 n->aM n->(S 1 [.ptr c0] nM n/\(S 3 [.agg i] b n/\(S 4 [nM,b] d n/\(S 10 [.agg m] e n/\True))))->C 4 [nM,b] d n->iD (aI T a_ a_ j e n) fun H I=>((X n I/\C 11 [j,e] H I)/\S 11 [j,e] H I/\V 11 [j,e] H))/\(∃ v,V 11 [j,e] v)/\∀ o:AV,V 11 [j,e] o->(∀ k:AS,X s4 k->aM k->(S 1 [.ptr c0] nM k/\(S 3 [.agg i] b k/\(S 4 [nM,b] d k/\(S 10 [.agg m] e k/\(S 11 [j,e] o k/\True)))))->C 11 [j,e] o k->ah c0 fun a5 a6=>fu T bS k a5 a6 d fun J=>((X k J/\C 12 [.ptr c0,d] (.aP []) J)/\S 12 [.ptr c0,d] (.aP []) J/\V 12 [.ptr c0,d] (.aP [])))/\(∃ v,V 12 [.ptr c0,d] v)/\∀ O:AV,V 12 [.ptr c0,d] O->O=.aP []/\(∀ l:AS,X s4 l->aM l->(S 1 [.ptr c0] nM l/\(S 3 [.agg i] b l/\(S 4 [nM,b] d l/\(S 10 [.agg m] e l/\(S 11 [j,e] o l/\(S 12 [.ptr c0,d] (.aP []) l/\True))))))->C 12 [.ptr c0,d] (.aP []) l->ah p8 fun a7 a8=>fu T a_ l a7 (a8+17) o fun r=>ah c0 fun a9 a'=>dS (av r a9 a') fun ba=>aV .i64 (aQ T bS ba r) fun bb=>ah c2 fun bc bd=>aV .i64 (av r bc bd) fun be=>R (.bool (decide ((bb:Int)<be))) r)))))))))
def zy:QA:=(.seq .leaf (.seq (.ve [0,1,2,3,4,5,6,7,8,9,10,11,12] [13,14,15] [[],[],[],[],[1,3],[],[],[],[],[],[],[1,3,4,10],[1,3,4,10,11],[],[],[]] [1,3,4,10,11,12] [1,4,11,12]) (.seq .leaf .leaf)))
theorem zz (a0:List AV) (a1:List AV) (c0:Option (Nat×Nat)) (b:Option (Nat×Nat)) (c2:Option (Nat×Nat)) (s:AS) (R:AV->AS->Prop) (h:zx a0 a1 c0 b c2 s R):aa Tryz.prog bJ [.agg a0,.agg a1,.ptr c0,.ptr b,.ptr c2] s R :=
 aa.q (n:=26) (rs:=[.tmp 7]) (A:=zy) hT bW Tryz.func80 (by kernel_rfl) rfl rfl rfl (by kernel_rfl) (by kernel_rfl) h
def DS (a0:Option (Nat×Nat)) (a1:List UInt8) (a2:Int) (s:AS) (R:AV->AS->Prop):Prop :=
 aa Tryz.prog di [.ptr a0,.str a1,(.bool (decide ((a2:Int)>=0)))] s fun W s2=>∃ k:Int,W=.int .i64 k/\(af ((k:Int) != 0)
 (R (.aP [.slc none 0 0 true,.int .i64 k]) s2)
 (ah a0 fun X Y=>vL (av s2 X (Y+1)) fun Z=>ng (dh T aB (.map Z) (.str a1) false s2) fun b=>ah b fun l8 o9=>dS (av s2 l8 (o9+17)) fun v10=>aV .i64 (aQ T a_ v10 s2) fun l=>af (decide ((a2:Int)>l))
 (R (.aP [.slc none 0 0 true,.int .i64 6]) s2)
 (bz fun c =>
 (∀ bP:AS,c [] bP ->
 ah a0 fun lC m=>dS (av bP lC m) fun nM=>ah b fun n o=>aR (aD bP n o 16) fun p=>aa Tryz.prog fI [nM,.str a1,.agg p] bP fun v20 fL=>∃ e:AV,∃ i:Int,v20=.aP [e,.int .i64 i]/\(R (.aP [e,.int .i64 i]) fL)) /\
 (af (decide ((a2:Int)>0))
 (ah b fun r w=>aR (aD s2 r w 16) fun x=>ah b fun y z=>dS (av s2 y (z+17)) fun A=>bG (ag T a_ A (.int .i64 (IntKind.wrap .i64 (a2 - 1)))) fun B C=>aR (aD s2 B C 16) fun D=>aa Tryz.prog r_ [.agg x,.agg D] s2 fun F kr=>∃ d:List AV,F=.agg d/\(ah b fun G H=>fh (some 16) d (bt (cK kr G H d) fun j=>ah b fun I J=>dS (av j I (J+17)) fun K=>dS (aZ T a_ K (some (.int .i64 a2)) none none) fun L=>aa Tryz.prog cT [L] j fun M O=>ah b fun Q S=>fu T a_ O Q (S+17) M fun U=>c [] U)))
 (c [] s2)))))
def DT:QA:=(.seq .leaf (.seq (.seq .leaf (.seq .leaf (.cond (.seq .leaf .leaf) .leaf))) (.seq .leaf (.seq (.seq .leaf (.cond (.seq .leaf .leaf) .leaf)) (.join [] [(31,58)] (.seq .leaf (.cond (.seq .calm .leaf) .leaf)) (.seq .calm .leaf))))))
theorem vp (a0:Option (Nat×Nat)) (a1:List UInt8) (a2:Int) (s:AS) (R:AV->AS->Prop) (h:DS a0 a1 a2 s R):aa Tryz.prog fQ [.ptr a0,.str a1,.int .i64 a2] s R :=
 aa.q (n:=71) (rs:=[.tmp 6,.tmp 7]) (A:=DT) hT bW Tryz.func20 (by kernel_rfl) rfl rfl rfl (by kernel_rfl) (by kernel_rfl) h
def zA (a0:Option (Nat×Nat)) (a1:List UInt8) (s:AS) (R:AV->AS->Prop):Prop :=
 aa Tryz.prog di [.ptr a0,.str a1,.bool true] s fun o s2=>∃ d:Int,o=.int .i64 d/\(af ((d:Int) != 0)
 (R (.aP [.slc none 0 0 true,.int .i64 d]) s2)
 (ah a0 fun p r=>vL (av s2 p (r+1)) fun w=>ng (dh T aB (.map w) (.str a1) false s2) fun x=>ah a0 fun y z=>vL (av s2 y (z+1)) fun e=>bt (pS T aB (.map e) (.str a1) s2) fun b=>ah a0 fun qZ i=>dS (av b qZ i) fun j=>ah x fun k l=>aR (aD b k l 16) fun m=>aa Tryz.prog fI [j,.str a1,.agg m] b fun n gz=>∃ v20:AV,∃ c:Int,n=.aP [v20,.int .i64 c]/\(R (.aP [v20,.int .i64 c]) gz)))
def zB:QA:=(.seq .leaf (.seq (.seq .leaf (.seq .leaf (.cond (.seq .leaf .leaf) .leaf))) (.seq .leaf (.seq .leaf (.seq .calm .leaf)))))
theorem qY (a0:Option (Nat×Nat)) (a1:List UInt8) (s:AS) (R:AV->AS->Prop) (h:zA a0 a1 s R):aa Tryz.prog eF [.ptr a0,.str a1] s R :=
 aa.q (n:=37) (rs:=[.tmp 4,.tmp 5]) (A:=zB) hT bW Tryz.func21 (by kernel_rfl) rfl rfl rfl (by kernel_rfl) (by kernel_rfl) h
def Cv (a0:Option (Nat×Nat)) (a1:List UInt8) (a2:Option (Nat×Nat)) (a3:Option (Nat×Nat)) (s:AS) (R:AV->AS->Prop):Prop :=
 bz fun e =>
 (∀ C:Bool,∀ s3:AS,e [.bool C] s3 ->
 af C
 (R (.aP [.int .i64 0,.int .i64 1]) s3)
 (aa Tryz.prog di [.ptr a0,.str a1,.bool true] s3 fun F D=>∃ i:Int,F=.int .i64 i/\(af ((i:Int) != 0)
 (R (.aP [.int .i64 0,.int .i64 i]) D)
 (aj (.cells [.int .i64 0] 0 false) D fun j s8=>bt (cK s8 j 0 [.int .i64 0]) fun k=>ah a0 fun mL l=>vL (av k mL (l+1)) fun m=>ng (dh T aB (.map m) (.str a1) false k) fun n=>aa Tryz.prog bQ [.ptr n,.str a1,.ptr a2,.ptr a3,(.func yO [(.ptr (some (j,0)))])] k fun o gu=>∃ p:Int,o=.int .i64 p/\(aV .i64 (av gu j 0) fun r=>R (.aP [.int .i64 r,.int .i64 0]) gu))))) /\
 (aa Tryz.prog bX [.ptr a0] s fun w gz=>∃ b:Bool,w=.bool b/\(af b (aa Tryz.prog eG [.ptr a2] gz fun x fP=>∃ c:Option (Nat×Nat),x=.ptr c/\(sJ (iB T 100 iG (.ptr c) (.ptr none)) fun y=>af y (e [.bool true] fP) (aa Tryz.prog fR [.ptr a3] fP fun z A=>∃ d:Option (Nat×Nat),z=.ptr d/\(sJ (iB T 100 lA (.ptr d) (.ptr none)) fun B=>e [.bool B] A)))) (e [.bool false] gz)))
def Cw:QA:=(.seq .leaf (.seq (.join [(23,.bool)] [(12,23)] .leaf (.cond (.seq .leaf .leaf) .leaf)) (.seq (.seq .leaf (.seq .leaf (.cond (.seq .leaf .leaf) .leaf))) (.seq .leaf (.seq .leaf (.seq .leaf .leaf))))))
theorem tU (a0:Option (Nat×Nat)) (a1:List UInt8) (a2:Option (Nat×Nat)) (a3:Option (Nat×Nat)) (s:AS) (R:AV->AS->Prop) (h:Cv a0 a1 a2 a3 s R):aa Tryz.prog gK [.ptr a0,.str a1,.ptr a2,.ptr a3] s R :=
 aa.q (n:=42) (rs:=[.tmp 8,.tmp 9]) (A:=Cw) hT bW Tryz.func28 (by kernel_rfl) rfl rfl rfl (by kernel_rfl) (by kernel_rfl) h
def yf (a0:Option (Nat×Nat)) (s:AS) (R:AV->AS->Prop):Prop :=
 aa Tryz.prog bX [.ptr a0] s fun d s2=>∃ c:Bool,d=.bool c/\(af (!c)
 (R (.slc none 0 0 true) s2)
 (ah a0 fun e i=>vL (av s2 e (i+1)) fun j=>aa Tryz.prog eR [.map j] s2 fun k s8=>aa Tryz.prog s_ [k] s8 fun l b=>R l b))
def yg:QA:=(.seq .leaf (.seq (.seq .leaf (.cond (.seq .leaf .leaf) .leaf)) (.seq .leaf .leaf)))
theorem yh (a0:Option (Nat×Nat)) (s:AS) (R:AV->AS->Prop) (h:yf a0 s R):aa Tryz.prog jV [.ptr a0] s R :=
 aa.q (n:=12) (rs:=[.tmp 2]) (A:=yg) hT bW Tryz.func64 (by kernel_rfl) rfl rfl rfl (by kernel_rfl) (by kernel_rfl) h
def zC (a0:Option (Nat×Nat)) (a1:List UInt8) (s:AS) (R:AV->AS->Prop):Prop :=
 aj (.cells [.int .u64 0,.int .u64 0,.int .u64 0,.int .u64 0,.int .u64 0,.int .u64 0,.int .u64 0,.int .u64 0,.int .u64 0,.int .u64 0,.int .u64 0,.int .u64 0,.int .u64 0,.int .u64 0,.int .u64 0,.int .u64 0] 0 false) s fun l1 s2=>bz fun i =>
 (∀ A:Bool,∀ b:AS,i [.bool A] b ->
 af A
 (oS (aS T aY []) fun B=>fh (some 16) B (bt (cK b l1 0 B) fun s7=>aR (aD s7 l1 0 16) fun C=>R (.aP [.agg C,.bool false]) s7))
 (ah a0 fun D j=>vL (av b D (j+1)) fun k=>ng (dh T aB (.map k) (.str a1) false b) fun l=>ah l fun m n=>aR (aD b m n 16) fun c=>fh (some 16) c (bt (cK b l1 0 c) fun d=>aR (aD d l1 0 16) fun o=>R (.aP [.agg o,.bool true]) d))) /\
 (aa Tryz.prog bX [.ptr a0] s2 fun p gz=>∃ e:Bool,p=.bool e/\(af (!e) (i [.bool true] gz) (ah a0 fun r w=>vL (av gz r (w+1)) fun x=>ng (dh T aB (.map x) (.str a1) false gz) fun y=>sJ (iB T 100 fl (.ptr y) (.ptr none)) fun z=>i [.bool z] gz)))
def zD:QA:=(.seq .leaf (.seq (.join [(17,.bool)] [(6,17)] .leaf (.cond (.seq .leaf .leaf) .leaf)) (.seq .leaf .leaf)))
theorem zE (a0:Option (Nat×Nat)) (a1:List UInt8) (s:AS) (R:AV->AS->Prop) (h:zC a0 a1 s R):aa Tryz.prog kS [.ptr a0,.str a1] s R :=
 aa.q (n:=28) (rs:=[.cell 4 49,.tmp 5]) (A:=zD) hT bW Tryz.func63 (by kernel_rfl) rfl rfl rfl (by kernel_rfl) (by kernel_rfl) h
def Cx (a0:Option (Nat×Nat)) (s:AS) (R:AV->AS->Prop):Prop :=
 aa Tryz.prog bX [.ptr a0] s fun O s2=>∃ M:Bool,O=.bool M/\(af (!M)
 (R (.ptr none) s2)
 (ah a0 fun Q S=>dS (av s2 Q S) fun U=>aa Tryz.prog nu [U] s2 fun W s8=>∃ n:Option (Nat×Nat),W=.ptr n/\(ah a0 fun mL o=>vL (av s8 mL (o+1)) fun p=>iD (QN T aB (.map p) s8) fun i r=>bB fun b w=>b w [] r /\
 ∀ j:Nat,∀ eE:AS,b j [] eE ->
 bz fun c =>
 (∀ k:Bool,∀ fL:AS,c [.bool k] fL ->
 af k
 (Wv (uc i fL) fun x y=>∃ l:List UInt8,x=.str l/\(∃ d:Option (Nat×Nat),y=.ptr d/\(ah d fun z A=>aR (aD fL z A 18) fun m=>aj (.cells [.int .u64 0,.int .u64 0,.int .u64 0,.int .u64 0,.int .u64 0,.int .u64 0,.int .u64 0,.int .u64 0,.int .u64 0,.int .u64 0,.int .u64 0,.int .u64 0,.int .u64 0,.int .u64 0,.int .u64 0,.int .u64 0,.int .i64 0,.slc none 0 0 true] 0 false) fL fun e B=>fh (some 18) m (bt (cK B e 0 m) fun mu=>ah d fun C D=>dS (av mu C (D+17)) fun F=>aa Tryz.prog cT [F] mu fun G jZ=>fu T a_ jZ e 17 G fun mK=>ah n fun H I=>vL (av mK H (I+1)) fun J=>bt (dJ T aB (.map J) (.str l) (.ptr (some (e,0))) mK) fun K=>∃ m',m'<j/\b m' [] K))))
 (R (.ptr n) fL)) /\
 (QO (we i eE)
 (c [.bool false] eE)
 fun X Y L=>c [.bool true] L))))
def Cy:QA:=(.seq .leaf (.seq (.seq .leaf (.cond (.seq .leaf .leaf) .leaf)) (.seq .leaf (.seq (.seq .leaf (.wrap (.loop [] [(4,6),(20,38)] (.join [(21,.bool)] [(20,21)] .leaf (.seq (.cond .leaf .leaf) (.wrap (.seq .leaf (.seq .leaf (.seq .leaf .leaf))))))))) (.seq .leaf .leaf)))))
theorem Cz (a0:Option (Nat×Nat)) (s:AS) (R:AV->AS->Prop) (h:Cx a0 s R):aa Tryz.prog nv [.ptr a0] s R :=
 aa.q (n:=40) (rs:=[.tmp 2]) (A:=Cy) hT bW Tryz.func65 (by kernel_rfl) rfl rfl rfl (by kernel_rfl) (by kernel_rfl) h
end Go.Proofs.YtohgmogbabkkeaaGreat
end

section
namespace Go.Proofs.YtohgmogbabkkeaaGreat
open Go.Am Go.au Go.aC Go.bL
structure Dv where
 cur:List Int
 place:Nat
 hand:List (List Int)
structure Qm where
 l:Nat
 hv:AV
 d:Dv
 H:List F_
 len:d.cur.length=16
def mH (cur:List Int) (place:Int) (hv:AV):List AV:=cur.map (.int .u64)++[.int .i64 place,hv]
def fC (m:Qm):List Nat:=m.l::ay m.hv
def FV (F:List Nat) (s:AS) (m:Qm):Prop:=Am.Own s m.l (mH m.d.cur m.d.place m.hv)/\br ry 16 s m.hv m.H/\m.H.map F_.v=m.d.hand/\∀ y∈fC m,y∈F
theorem mI {cur:List Int} (h:cur.length=16) (pl:Int) (hv:AV):(mH cur pl hv).length=18:=by simp [mH,h]
theorem Bi {cur:List Int} (h:cur.length=16) (pl:Int) (hv:AV):((mH cur pl hv).drop 0).take 16=cur.map (.int .u64):=by
 rw [mH,List.drop_zero,List.take_append_of_le_length (by simp [h]),List.take_of_length_le (by simp [h])]
theorem D_ {cur:List Int} (h:cur.length=16) (pl:Int) (hv:AV):(mH cur pl hv)[16]? = some (.int .i64 pl)/\(mH cur pl hv)[17]? = some hv:=by
 constructor <;>
 ·rw [mH,List.getElem?_append_right (by simp [h])];simp [h]
theorem FW {cur:List Int} (h:cur.length=16) (pl b:Int) (hv oX:AV):(mH cur pl hv).set 16 (.int .i64 b)=mH cur b hv/\(mH cur pl hv).set 17 oX=mH cur pl oX:=by
 simp [mH,List.set_append,h]
abbrev sK (t:List UInt8):AV:=.str t
def dP (m:Qm):AV:=.ptr (some (m.l,0))
theorem u_:Rk (K:=List UInt8) T aB cE fl sK (.ptr none) :=
 ⟨gr,fun a b=>by rw [Ri qI];simp only [Option.some.injEq];by_cases h:a=b <;> simp [h],fun a=>by kernel_rfl,fun a=>by simp [yj],BI⟩
structure kI (F:List Nat) (s:AS) (p:Nat) (sec:List Int) (f:List UInt8->Option Dv) (n:Nat):Prop where
 mem:∃ (sv:AV) (hm:Nat) (es:List (List UInt8×Qm×Nat)) (k:Nat),Am.Own s p [sv,.map (some hm)]/\p∈F/\hm∈F/\(br qg 1 s sv sec/\∀ y∈ay sv,y∈F)/\eM sK dP s hm es k false/\es.length=n /\
  (∀ a m,ec es a=some m->FV F s m/\f a=some m.d)/\(∀ a,ec es a=none->f a=none) /\
  ∀ a b x y,ec es a=some x->ec es b=some y->a≠b->∀ z∈fC x,z ∉ fC y
section
variable {F F':List Nat} {s s':AS} {p n:Nat} {sec:List Int} {f:List UInt8->Option Dv}
theorem FV.mut {m:Qm} {L:List Nat} (h:FV F s m) (e:bD L s s') (b:∀ y∈L,y ∉ fC m):FV F s' m :=
 ⟨h.1.mut e fun hm=>b _ hm (by simp [fC]),h.2.1.mut e fun y c hm=>b y hm (by simp [fC,c]),h.2.2⟩
theorem kI.mut {L:List Nat} (h:kI F s p sec f n) (m:bD L s s') (c:∀ y∈L,y ∉ F):kI F s' p sec f n:=by
 obtain ⟨sv,hm,es,k,i,h2,h3,⟨a1,a2⟩,j,c2,d,l,o⟩:=h;exact ⟨sv,hm,es,k,i.mut m (fun b=>c p b h2),h2,h3,⟨a1.mut m (fun y e b=>c y b (a2 y e)),a2⟩,j.mut m (fun b=>c hm b h3),c2,fun a x b=>⟨(d a x b).1.mut m fun y e hd=>c y e ((d a x b).1.2.2.2 y hd),(d a x b).2⟩,l,o⟩
theorem kI.ext (h:kI F s p sec f n) (e:Ext s s'):kI F s' p sec f n:=h.mut (L:=[]) e.mut (by simp)
theorem tV (h:kI F s p sec f n):aa Tryz.prog bX [.ptr (some (p,0))] s fun r s'=>r=.bool true/\s'=s:=by
 obtain ⟨sv,hm,es,k,b,_⟩:=h;exact mG _ _ _ ⟨_,dn og _,af.yes rfl ⟨_,by rw [b.at.av];rfl,_,Cq gr _,rfl,rfl⟩⟩
theorem N4 (sv:AV) (h:sv.one=true) (hm:Nat):aS T rL [(0,sv),(1,.map (some hm))]=some (.agg [sv,.map (some hm)]):=by
 have e1:∀ v:AV,v.one=true->bI v=some [v]:=fun v hv=>by cases v <;> first | rfl | cases hv
 rw [qp (pl:=[(0,1),(1,1)]) (by kernel_rfl) Is rfl];simp only [jc,e1 _ h,e1 (.map (some hm)) rfl,List.getElem?_cons_zero,List.getElem?_cons_succ,List.length_cons,List.length_nil];rfl
theorem O0 {s:AS} {v:AV} {sec:List Int} (hv:gA s v sec) (n:sec.length<=2 ^ 30):aa Tryz.prog nu [v] s fun r s'=>∃ p F,r=.ptr (some (p,0))/\kI F s' p sec (fun _=>none) 0/\(∀ y∈F,s.h y=none)/\(∀ y∈F,s'.h y≠none)/\Ext s s':=by
 refine N3 _ _ _ ?_;refine aa.use (Cn hv n) ?_;rintro j s2 g w2;have k:=g.iX.2;have i:∀ l3:Nat,([j,AV.map (some l3)]).all AV.one=true:=fun l3=>by simp [k]
 refine aj.intro w2 rfl fun l3 s4 d=>⟨_,N4 j k l3,i l3,aj.intro d.wf rfl fun l s7 e=>⟨l,l::l3::ay j,rfl,⟨j,l3,[],0,e.own,by simp,by simp,⟨(g.vq.ext d.ext).ext e.ext,fun y c=>by simp [c]⟩,eM.new (e.ext.1 _ _ d.at),rfl,fun a m hm=>by simp [sZ] at hm,fun a _=>rfl,fun a b x y o=>by simp [sZ] at o⟩,?_,?_,(g.eL.ext.trans d.ext).trans e.ext⟩⟩
 ·intro y c;simp only [List.mem_cons] at c;rcases c with rfl | rfl | c
  ·exact (g.eL.ext.trans d.ext).none e.no
  ·exact g.eL.ext.none d.no
  ·exact g.new y c
 ·intro y c;simp only [List.mem_cons] at c;rcases c with rfl | rfl | c
  ·rw [e.at];simp
  ·rw [e.ext.1 _ _ d.at];simp
  ·exact br.k7 ((g.vq.ext d.ext).ext e.ext) y c
theorem Ss (h:kI F s p sec f n):∃ (sv:AV) (hm:Nat) (es:List (List UInt8×Qm×Nat)) (k:Nat),Am.Own s p [sv,.map (some hm)]/\eM sK dP s hm es k false/\es.length=n/\(∀ a m,ec es a=some m->FV F s m/\f a=some m.d)/\(∀ a,ec es a=none->f a=none)/\∀ a,dh T aB (.map (some hm)) (.str a) false s=some (.ptr ((ec es a).map fun m=>(m.l,0))):=by
 obtain ⟨sv,hm,es,k,c,h2,h3,⟨a1,a2⟩,b,c2,e,i,j⟩:=h;refine ⟨sv,hm,es,k,c,b,c2,e,i,fun a=>?_⟩;have:=b.find u_ a false;refine this.trans ?_;cases ec es a <;> rfl
theorem Bj (h:kI F s p sec f n) (name:List UInt8) (ok:Bool):aa Tryz.prog di [.ptr (some (p,0)),.str name,.bool ok] s fun r s'=>r=.int .i64 (if (!aK name||!ok)=true then 2 else if (f name).isNone=true then 7 else 0)/\s'=s:=by
 refine rW _ _ _ _ _ ?_;refine aa.use (tV h) ?_;rintro v s2 ⟨rfl,rfl⟩ w2;obtain ⟨sv,hm,es,k,j,_,_,o,w,c⟩:=Ss h;refine ⟨_,rfl,af.no rfl ⟨fun vs s'=>vs=[.bool (!aK name||!ok)]/\s'=s2,?_,?_⟩⟩
 ·rintro b s6 ⟨hb,rfl⟩;simp only [List.cons.injEq,AV.bool.injEq,and_true] at hb;subst hb;refine af.mk (fun hb=>⟨by simp only [hb,if_true],rfl⟩) (fun hb=>⟨_,by rw [j.at.av];rfl,_,c name,_,dn vj _,?_⟩);have e:(f name).isNone=((ec es name).map fun m=>(m.l,0)).isNone:=by
   cases i:ec es name with
   | none=>rw [w _ i];rfl
   | some m=>rw [(o _ _ i).2];rfl
  rw [<- e];refine af.mk (fun d=>⟨?_,rfl⟩) (fun d=>⟨?_,rfl⟩)
  ·rw [hb,d];rfl
  ·rw [hb,d];rfl
 ·refine aa.use (u6 _ _) ?_;rintro x bP ⟨rfl,rfl⟩ y;refine ⟨_,rfl,af.mk (fun hb=>⟨by simp [hb],rfl⟩) (fun hb=>⟨by simp [hb],rfl⟩)⟩
end
/-! ### what is owed -/
noncomputable def St (x:aH) (k:Key):Bool:=@decide (∃ d,x.live d=some k) (Classical.propDecidable _)
theorem Ma {x:aH} {k:Key}:St x k=true↔∃ d,x.live d=some k:=by
 unfold St;exact @decide_eq_true_iff _ (Classical.propDecidable _)
def Su (x:aH) (d:aJ):Bool:=!(x.live d).isSome&&x.has d
noncomputable def lH (name:List UInt8) (cur:List Int) (x:aH) (e:Ev):Bool :=
 !under cur e.id&&!(iV e.to name).isEmpty&&(St x ⟨e.dV,name⟩||(iV e.to name).any fun d=>!Su x d)
theorem Sv {F:List Nat} {s:AS} {p c:Nat} {x:aH} (e:At s c [.ptr (some (p,0))]) (h:gP F s p x) (d:aJ):aa Tryz.prog sj [.agg (aN d),.ptr (some (c,0))] s fun r s'=>r=.bool (!Su x d)/\Ext s s':=by
 refine aa.pre fun i=>GZ _ _ _ _ ⟨rfl,aj.intro i rfl fun l1 s2 b=>⟨_,by rw [(e.ext b.ext).av];rfl,_,b.own.at.aD (by simp [aN]),?_⟩⟩;refine aa.use (TD (h.ext b.ext) d) ?_;rintro v s8 ⟨rfl,j⟩ k;exact ⟨_,rfl,rfl,b.ext.trans j⟩
set_option maxRecDepth 20000 in
theorem Ub {F:List Nat} {s:AS} {p l:Nat} {x:aH} {m:nU} {cur:List Int} {cs:List AV} (hm:Bc s m) (J:m.ev.to.length<=2 ^ 29) (h:gP F s p x) (D:x.nl<65536) (k:cur.length=16) (hd:At s l cs) (G:(cs.drop 0).take 16=cur.map (.int .u64)) (O:16<=cs.length) (name:List UInt8) :
  aa Tryz.prog wC [.str name,.ptr (some (l,0)),.agg (iA m),.ptr (some (p,0))] s fun r s'=>r=.bool (lH name cur x m.ev)/\Ext s s':=by
 have ev:=bq m;refine aa.pre fun Q=>L_ _ _ _ _ _ _ ⟨dU m,aj.intro Q rfl fun l1 s2 B=>aj.intro B.wf rfl fun l3 s4 n=>?_⟩;have K:=B.ext.trans n.ext;refine ⟨_,(B.own.ext n.ext).at.aD (by omega),?_⟩;rw [gJ];refine aa.use (V9 (hm.ext K) J name) ?_;rintro v6 s7 o w7;have L:=K.trans o.eL.ext;have M:=((B.own.ext n.ext).ext o.eL.ext).at;have R:(iV m.ev.to name).length<=2 ^ 29:=by
  simp only [iV,List.length_map];exact Nat.le_trans (List.length_filter_le _ _) J
 refine ⟨_,(hd.ext L).aD (by omega),_,M.aD (by rw [ev];omega),?_⟩;rw [G,NX];refine aa.use (Si k _ _) ?_;rintro S bP ⟨rfl,i⟩ U;have c:=L.trans i;have y:=(o.sl bn).ext i;refine ⟨_,rfl,af.mk (fun hu=>⟨by simp [lH,hu],c⟩) (fun hu=>⟨_,y.cI bF _,af.mk (fun C=>⟨?_,c⟩) (fun C=>⟨_,by rw [((n.own.ext o.eL.ext).ext i).at.av];rfl,m.ev.dV,by rw [(M.ext i).av];rfl,_,Cb _ _,?_⟩)⟩)⟩
 ·have W:(((iV m.ev.to name).length:Nat):Int)=0:=beq_iff_eq.1 C;have:iV m.ev.to name=[]:=List.length_eq_zero_iff.1 (by omega);simp [lH,this]
 have z:(iV m.ev.to name).isEmpty=false:=by
  cases X:iV m.ev.to name with
  | nil=>rw [X] at C;simp at C
  | cons a b=>rfl
 refine aa.use (Vd (h.ext c) D _) ?_;rintro Y gi ⟨⟨b,rfl,hb⟩,j⟩ Z;have A:b=St x ⟨m.ev.dV,name⟩:=by
  rw [Bool.eq_iff_iff,hb,Ma]
 refine ⟨_,rfl,af.mk (fun H=>⟨?_,c.trans j⟩) (fun H=>?_)⟩
 ·simp [lH,hu,z,<- A,H]
 ·refine aa.use (Ck (P:=fun d=>!Su x d) (y.ext j) (by omega) fun d hd s' e w=>Sv (((n.own.ext o.eL.ext).ext i).ext (j.trans e)).at (h.ext ((c.trans j).trans e)) d) ?_;rintro ab tW ⟨rfl,I⟩ ad;refine ⟨_,rfl,?_,(c.trans j).trans I⟩;simp [lH,hu,z,<- A,H]
end Go.Proofs.YtohgmogbabkkeaaGreat
end

section
namespace Go.Proofs.YtohgmogbabkkeaaGreat
open Go.Am Go.au Go.aC Go.bL
set_option maxRecDepth 20000 in
theorem Sx {s:AS} {lo lp lm l:Nat} {out hv:AV} {D:List nU} {H:List F_} {cur:List Int} {pl most:Int} (n:cur.length=16) (oo:Am.Own s lo [out]) (op:Am.Own s lp [.ptr (some (l,0))]) (om:Am.Own s lm [.int .i64 most]) (od:Am.Own s l (mH cur pl hv))
  (gO:br iA 21 s out D) (gH:br ry 16 s hv H) (aw:lo≠lp) (a0:lo≠lm) (K:lo≠l) (b5:lp≠l) (a1:lm≠l) (A:D.length+1<=2 ^ 29) (b6:H.length+1<=2 ^ 29) (m:nU) (v:F_) :
  aa Tryz.prog bJ [.agg (iA m),.agg (ry v),.ptr (some (lo,0)),.ptr (some (lp,0)),.ptr (some (lm,0))] s fun r s'=>r=.bool (decide (((D.length+1:Nat):Int)<most))/\∃ p oX,Am.Own s' lo [p]/\Am.Own s' l (mH cur pl oX)/\br iA 21 s' p (D++[m])/\br ry 16 s' oX (H++[v]) /\
   bD (lo::l::(ay out++ay hv)) s s'/\(∀ y∈ay p++ay oX,y∈ay out++ay hv\/s.h y=none):=by
 have ev:=bq m;have vv:=cG v;refine aa.pre fun hw=>zz _ _ _ _ _ _ _ ⟨dU m,aj.intro hw rfl fun l1 s2 F2=>⟨oh v,aj.intro F2.wf rfl fun l3 s4 F4=>?_⟩⟩;have G:=F2.ext.trans F4.ext;have o1:=F2.own.ext F4.ext;have o3:=F4.own;have ab:=oo.ext G;have a2:=op.ext G;have a3:=om.ext G;have ad:=od.ext G;have a4:=gO.ext G;have a5:=gH.ext G;have d1:lo≠l1:=fun e=>by
  have:=F2.no;rw [<- e,oo] at this;cases this
 have d3:lo≠l3:=fun e=>by
  have:=F4.no;rw [<- e,oo.ext F2.ext] at this;cases this
 have a6:=mI n pl hv;have a7:=D_ n pl hv
 let X:AS->AS->Prop:=fun a b=>(∀ y cs,y≠lo->Am.Own a y cs->Am.Own b y cs)/\(∀ v,br iA 21 a v (D++[m])->br iA 21 b v (D++[m]))/\(∀ w,br ry 16 a w (H++[v])->br ry 16 b w (H++[v]))/\(a.h lo≠none->b.h lo≠none)/\bD (lo::(ay out++ay hv)) a b
 have rp:∀ s',X s4 s'->av s' lp 0=some (.ptr (some (l,0))):=fun s' x=>by rw [(x.1 _ _ (Ne.symm aw) a2).at.av];rfl
 have r1:∀ s',X s4 s'->aD s' l1 0 21=some (iA m):=fun s' x=>by rw [(x.1 _ _ (Ne.symm d1) o1).at.aD (by omega),gJ]
 have r3:∀ s',X s4 s'->aD s' l3 0 16=some (ry v):=fun s' x=>by rw [(x.1 _ _ (Ne.symm d3) o3).at.aD (by omega),List.drop_zero,List.take_of_length_le (by omega)]
 have rd:∀ s',X s4 s'->av s' l (0+17)=some hv:=fun s' x=>by rw [(x.1 _ _ (Ne.symm K) ad).at.av];exact a7.2
 have X0:X s4 s4:=⟨fun _ _ _ h=>h,fun _ h=>h,fun _ h=>h,id,bD.refl _ _⟩;have L:∀ {s':AS},X s4 s'->s'.h lo≠none:=fun x=>x.2.2.2.1 (by rw [ab];simp);have new:∀ {s':AS} {y:Nat},X s4 s'->s'.h y=none->y∈ay out++ay hv\/s.h y=none:=fun {s' y} x A=>by
  by_cases d:y∈ay out++ay hv
  ·exact .inl d
  ·right;refine G.none ?_;cases i:s4.h y with
   | none=>rfl
   | some o =>
    have M:y≠lo:=fun e=>L x (e ▸ A);rw [x.2.2.2.2.1 y o (by simp only [List.mem_cons,not_or];exact ⟨M,d⟩) i] at A;cases A
 refine ⟨X,fun q ks w s'=>(q=1->w=out/\Am.Own s' lo [out]/\br iA 21 s' out D/\br ry 16 s' hv H)/\(q=4->Am.Own s' lo [out]/\br ry 16 s' hv H)/\(q=11->Am.Own s' lo [out])/\(q=12->∃ k x,ks=[k,x]/\Am.Own s' lo [x]),fun s'=>Am.Own s' lo [out]/\br iA 21 s' out D/\br ry 16 s' hv H,
  fun q _ w s'=>(q=3->∃ a,w=.slc (some (a,0)) 1 1 true/\Am.Own s' a (iA m)/\a≠lo)/\(q=10->∃ a,w=.slc (some (a,0)) 1 1 true/\Am.Own s' a (ry v)/\a≠lo)/\(q=4->br iA 21 s' w (D++[m])/\∀ y∈ay w,y∈ay out++ay hv\/s.h y=none)/\(q=11->br ry 16 s' w (H++[v])/\∀ y∈ay w,y∈ay out++ay hv\/s.h y=none),
  fun q _ w=>(q=1->w=out)/\(q=4\/q=11->w.one=true)/\(q=12->w=.aP []),fun a b e=>⟨fun _ _ _ h=>h.ext e,fun _ h=>h.ext e,fun _ h=>h.ext e,fun A=>(by cases i:a.h lo with | none=>exact absurd i A | some o=>rw [e.1 _ _ i];simp),e.mut⟩,fun a b c x y=>⟨fun z cs hz h=>y.1 z cs hz (x.1 z cs hz h),fun w h=>y.2.1 w (x.2.1 w h),fun w h=>y.2.2.1 w (x.2.2.1 w h),fun A=>y.2.2.2.1 (x.2.2.2.1 A),x.2.2.2.2.trans y.2.2.2.2⟩,?_,?_,fun a b e h=>⟨h.1.ext e,h.2.1.ext e,h.2.2.ext e⟩,⟨ab,a4,a5⟩,?_⟩
 ·rintro q ks w a b e ⟨W,h2,h3,h4⟩;exact ⟨fun i=>⟨(W i).1,(W i).2.1.ext e,(W i).2.2.1.ext e,(W i).2.2.2.ext e⟩,fun i=>⟨(h2 i).1.ext e,(h2 i).2.ext e⟩,fun i=>(h3 i).ext e,fun i=>by obtain ⟨k,x,y,z⟩:=h4 i;exact ⟨k,x,y,z.ext e⟩⟩
 ·rintro q ks w a b x ⟨W,h2,h3,h4⟩;refine ⟨fun i=>?_,fun i=>?_,fun i=>⟨x.2.1 _ (h3 i).1,(h3 i).2⟩,fun i=>⟨x.2.2.1 _ (h4 i).1,(h4 i).2⟩⟩
  ·obtain ⟨y,e1,e2,e3⟩:=W i;exact ⟨y,e1,x.1 _ _ e3 e2,e3⟩
  ·obtain ⟨y,e1,e2,e3⟩:=h2 i;exact ⟨y,e1,x.1 _ _ e3 e2,e3⟩
 have cx:∀ {q:Nat} {P:Prop},(q≠q->P):=fun h=>absurd rfl h;refine ⟨_,rp _ X0,fun s' x _=>⟨_,rp _ x,rfl⟩,fun dI b7 b8 _ B=>⟨out,by rw [B.1.at.av];rfl,⟨⟨fun _ _ _ h=>h,fun _ h=>h,fun _ h=>h,id,bD.refl _ _⟩,(fun _=>⟨rfl,B⟩),(fun h=>by cases h),(fun h=>by cases h),(fun h=>by cases h)⟩,⟨(fun h=>by cases h),(fun h=>by cases h),(fun h=>by cases h),(fun h=>by cases h)⟩,(fun _=>rfl),(fun h=>by rcases h with h | h <;> cases h),(fun h=>by cases h)⟩,⟨out,(fun _=>rfl),(fun h=>by rcases h with h | h <;> cases h),(fun h=>by cases h)⟩,fun nM ae=>?_⟩;obtain rfl:=ae.1 rfl;refine ⟨_,r1 _ X0,fun s' x _=>⟨_,r1 _ x,rfl⟩,fun gi a8 a9 _=>⟨_,kh nV ev (dU m),aj.intro a9 rfl fun a' tW O=>⟨O.ext,⟨(fun _=>⟨a',rfl,O.own,?_⟩),(fun h=>by cases h),(fun h=>by cases h),(fun h=>by cases h)⟩,(fun h=>by cases h),(fun h=>by rcases h with h | h <;> cases h),(fun h=>by cases h)⟩⟩,⟨.bad,(fun h=>by cases h),(fun h=>by rcases h with h | h <;> cases h),(fun h=>by cases h)⟩,fun b9 _=>⟨fun dW ba bb Y B=>?_,⟨.nilFunc,(fun h=>by cases h),(fun _=>rfl),(fun h=>by cases h)⟩,fun Q al=>?_⟩⟩
 ·exact fun e=>L a8 (e ▸ O.no)
 ·obtain ⟨a,rfl,hA,M⟩:=Y.2.1.1 rfl;obtain ⟨_,C,c2,Z⟩:=B.1 rfl;obtain ⟨v',s',e1,g1,j,_,n1⟩:=br.append nV bq dU bb c2 (Cr bq hA.at) (by simp;omega) eK;have t1:=br.tag c2;have VJ:lo ∉ ay nM:=fun d=>by have:=(t1 _ d).uniq (Own.tag C);omega
  refine ⟨v',s',e1,⟨⟨fun y cs d o=>o.mut j fun F=>?_,fun w g=>g.mut j (br.FT bq (by decide) g c2 (by simp)),fun w g=>g.mut j fun y d F=>?_,fun A=>?_,j.mono fun y d=>by simp [d]⟩,(fun h=>by cases h),(fun _=>⟨C.mut j VJ,Z.mut j fun y d F=>?_⟩),(fun h=>by cases h),(fun h=>by cases h)⟩,⟨(fun h=>by cases h),(fun h=>by cases h),(fun _=>⟨g1,fun y d=>?_⟩),(fun h=>by cases h)⟩,(fun h=>by cases h),(fun _=>br.one g1),(fun h=>by cases h)⟩
  ·have:=(t1 _ F).uniq (Own.tag o);omega
  ·have:=(t1 _ F).uniq (br.tag g y d);omega
  ·rw [j.1 lo _ VJ C];simp
  ·have:=(t1 _ F).uniq (br.tag Z y d);omega
  ·rcases n1 y d with h | h
   ·exact .inl (List.mem_append_left _ h)
   ·exact new ba h
 refine ⟨_,rp _ X0,fun s' x _=>⟨_,rp _ x,rfl⟩,fun s' _ _=>rfl,_,rd _ X0,fun s' x _=>⟨_,rd _ x,rfl⟩,_,r3 _ X0,fun s' x _=>⟨_,r3 _ x,rfl⟩,fun b' bc bd _=>⟨_,kh gU vv (oh v),aj.intro bd rfl fun be ca R=>⟨R.ext,⟨(fun h=>by cases h),(fun _=>⟨be,rfl,R.own,?_⟩),(fun h=>by cases h),(fun h=>by cases h)⟩,(fun h=>by cases h),(fun h=>by rcases h with h | h <;> cases h),(fun h=>by cases h)⟩⟩,⟨.bad,(fun h=>by cases h),(fun h=>by rcases h with h | h <;> cases h),(fun h=>by cases h)⟩,fun cb _=>⟨fun cc bh bi Y B=>?_,⟨.nilFunc,(fun h=>by cases h),(fun _=>rfl),(fun h=>by cases h)⟩,fun S am=>⟨fun bj cd bk Y B=>?_,⟨.aP [],(fun h=>by cases h),(fun h=>by rcases h with h | h <;> cases h),(fun _=>rfl)⟩,fun ce an=>⟨an.2.2 rfl,fun bl U bm Y B=>?_⟩⟩⟩⟩
 ·exact fun e=>L bc (e ▸ R.no)
 ·obtain ⟨a,rfl,hA,M⟩:=Y.2.2.2.1.2.1 rfl;obtain ⟨C,Z⟩:=B.2.1 rfl;obtain ⟨v',s',e1,g1,j,_,n1⟩:=br.append gU cG oh bi Z (Cr cG hA.at) (by simp;omega) dN;have t1:=br.tag Z;have VJ:lo ∉ ay hv:=fun d=>by have:=(t1 _ d).uniq (Own.tag C);omega
  refine ⟨v',s',e1,⟨⟨fun y cs d o=>o.mut j fun F=>?_,fun w g=>g.mut j fun y d F=>?_,fun w g=>g.mut j (br.FT cG (by decide) g Z (by simp)),fun A=>?_,j.mono fun y d=>by simp [d]⟩,(fun h=>by cases h),(fun h=>by cases h),(fun _=>C.mut j VJ),(fun h=>by cases h)⟩,⟨(fun h=>by cases h),(fun h=>by cases h),(fun h=>by cases h),(fun _=>⟨g1,fun y d=>?_⟩)⟩,(fun h=>by cases h),(fun _=>br.one g1),(fun h=>by cases h)⟩
  ·have:=(t1 _ F).uniq (Own.tag o);omega
  ·have:=(t1 _ F).uniq (br.tag g y d);omega
  ·rw [j.1 lo _ VJ C];simp
  ·rcases n1 y d with h | h
   ·exact .inl (List.mem_append_right _ h)
   ·exact new bh h
 ·have C:=B.2.2.1 rfl;refine cM (al.2.1 (.inl rfl)) xH (bt.own bk C (by simp) fun bo P=>?_);have oP:Am.Own bo lo [Q]:=P.at;have tl:∀ y∈[lo],∀ g,Tag bj y g->g=0:=fun y d g t=>by
   obtain rfl:=List.mem_singleton.1 d;exact t.uniq (Own.tag C)
  refine ⟨⟨⟨fun y cs d o=>o.mut P.mut (by simpa using d),fun w g=>br.e_ g P.mut fun y d g t=>by rw [tl y d g t];decide,fun w g=>br.e_ g P.mut fun y d g t=>by rw [tl y d g t];decide,fun _=>by rw [oP];simp,P.mut.mono (by simp)⟩,(fun h=>by cases h),(fun h=>by cases h),(fun h=>by cases h),(fun _=>⟨_,_,rfl,oP⟩)⟩,⟨(fun h=>by cases h),(fun h=>by cases h),(fun h=>by cases h),(fun h=>by cases h)⟩,(fun h=>by cases h),(fun h=>by rcases h with h | h <;> cases h),(fun _=>rfl)⟩
 ·obtain ⟨_,_,⟨_,_,h4,_⟩,_,⟨_,_,_,bs⟩,_⟩:=Y;obtain ⟨bx,b0⟩:=h4 rfl;obtain ⟨b1,b2⟩:=bs rfl;obtain ⟨k,x,hk,b3⟩:=B.2.2.2 rfl;simp only [List.cons.injEq,and_true] at hk;obtain ⟨_,rfl⟩:=hk;have I:=U.1 _ _ (Ne.symm K) ad;have ao:=U.1 _ _ (Ne.symm a0) a3;refine cM (am.2.1 (.inr rfl)) qJ (bt.own bm I (by simp [a6]) fun b4 P=>?_);have oP:Am.Own b4 l (mH cur pl S):=by
   have:=P.at;rw [fy,Nat.zero_add,(FW n pl pl hv S).2] at this;exact this
  have tl:∀ y∈[l],∀ g,Tag bl y g->g=0:=fun y d g t=>by
   obtain rfl:=List.mem_singleton.1 d;exact t.uniq (Own.tag I)
  have J:=br.e_ bx P.mut fun y d g t=>by rw [tl y d g t];decide
  have ap:=br.e_ b1 P.mut fun y d g t=>by rw [tl y d g t];decide
  have ar:=b3.mut P.mut (by simpa using K);refine ⟨Q,by rw [ar.at.av];rfl,_,(J.sl bq).cI eK _,most,by rw [(ao.mut P.mut (by simpa using a1)).at.av];rfl,?_,Q,S,ar,oP,J,ap,?_,?_⟩
  ·rw [List.length_append];rfl
  ·exact (G.mut.trans (U.2.2.2.2.mono fun y d=>by
    simp only [List.mem_cons,List.mem_append] at d ⊢;rcases d with h | h | h <;> simp [h])).trans (P.mut.mono (by simp))
  ·intro y d;rcases List.mem_append.1 d with d | d
   ·exact b0 y d
   ·exact b2 y d
end Go.Proofs.YtohgmogbabkkeaaGreat
end

section
namespace Go.Proofs.YtohgmogbabkkeaaGreat
open Go.Am Go.au Go.aC Go.bL
def scan (P:Ev->Bool) (stop:Nat->Bool):List (Ev×List Int)->Nat->List (Ev×List Int)×Nat
 | [],_=>([],0)
 | x::xs,k=>if P x.1 then (if stop (k+1) then ([x],1) else (x::(scan P stop xs (k+1)).1,(scan P stop xs (k+1)).2+1)) else ((scan P stop xs k).1,(scan P stop xs k).2+1)
def vK (c:iM):List (Ev×List Int):=c.log.zip c.JF
theorem JI {c:iM} (h:c.JF.length=c.log.length):(vK c).length=c.log.length:=by simp [vK,h]
theorem Uc {c:iM} {i:Nat} {e:Ev} {v:List Int} (b:c.log[i]? = some e) (h2:c.JF[i]? = some v):(vK c)[i]? = some (e,v):=by
 rw [vK,List.getElem?_zip_eq_some];exact ⟨b,h2⟩
set_option maxRecDepth 20000 in
theorem Ud {Fc Fs:List Nat} {s0:AS} {l pc ps:Nat} {c:iM} {x:aH} {cur:List Int} {pl:Nat} {name:List UInt8} {g:FuncId} {cap:List AV} {stop:Nat->Bool} {J:List (nU×F_)->AS->Prop}
  (j:cur.length=16) (hb:c.JF.length=c.log.length) (a6:c.log.length<=2 ^ 28) (Z:∀ e∈c.log,e.u5.length<=2 ^ 29/\e.to.length<=2 ^ 29) (ab:x.nl<65536) (ad:pl<=c.log.length)
  (Jw:∀ d s,J d s->aM s) (Je:∀ d s s',J d s->Ext s s'->aM s'->J d s') (Jd:∀ d s,J d s->∃ hv,Am.Own s l (mH cur pl hv)) (Jc:∀ d s,J d s->kH Fc s pc c) (Js:∀ d s,J d s->gP Fs s ps x)
  (step:∀ d s m v,J d s->j9 (JN m) s m->d.length<=2 ^ 28->aa Tryz.prog g ([.agg (iA m),.agg (ry v)]++cap) s fun r s'=>r=.bool (!stop (d.length+1))/\(aM s'->J (d++[(m,v)]) s')) (h0:J [] s0) :
  aa Tryz.prog bQ [.ptr (some (l,0)),.str name,.ptr (some (pc,0)),.ptr (some (ps,0)),.func g cap] s0 fun r s'=>∃ d,r=.int .i64 ((pl+(scan (lH name cur x) stop ((vK c).drop pl) 0).2:Nat):Int)/\d.map (fun z=>(z.1.ev,z.2.v))=(scan (lH name cur x) stop ((vK c).drop pl) 0).1/\J d s':=by
 have a7:=JI hb;obtain ⟨ae,o0⟩:=Jd _ _ h0;refine zw _ _ _ _ _ _ _ ⟨_,by rw [o0.at.av];exact (D_ j _ ae).1,?_⟩;refine ⟨fun m vs s'=>∃ (i:Nat) (d:List (nU×F_)),vs=[.int .i64 (i:Nat)]/\pl<=i/\i<=c.log.length/\m=c.log.length - i/\d.length<=i/\J d s'/\(scan (lH name cur x) stop ((vK c).drop pl) 0).1=d.map (fun z=>(z.1.ev,z.2.v))++(scan (lH name cur x) stop ((vK c).drop i) d.length).1/\pl+(scan (lH name cur x) stop ((vK c).drop pl) 0).2=i+(scan (lH name cur x) stop ((vK c).drop i) d.length).2,c.log.length - pl,⟨pl,[],rfl,by omega,ad,rfl,by simp,h0,by simp,by simp⟩,?_⟩;rintro m n s8 ⟨i,d,hi,h5,h6,rfl,a8,Y,k,o⟩;simp only [List.cons.injEq,AV.int.injEq,true_and,and_true] at hi;subst hi;refine aa.use (T8 (Jc _ _ Y)) ?_;rintro v9 a9 ⟨rfl,rfl⟩ a';refine ⟨_,rfl,af.dec (fun ba=>?_) (fun bb=>?_)⟩
 ·refine aa.use (Vt (Jc _ _ Y) hb (i:=i) (by omega) (fun e he=>⟨by have:=(Z e he).1;omega,by have:=(Z e he).2;omega⟩) (by omega)) ?_;rintro bc bP ⟨m,v,G,F,M,rfl,gE,nG,tG,al⟩ am;have an:j9 (JN m) bP m:=⟨gE.1,gE.2.1,fun y hy=>List.mem_append.2 hy⟩;refine ⟨_,_,_,rfl,?_⟩;refine aj.intro am rfl fun O eE p=>aj.intro p.wf rfl fun zF gi w=>⟨⟨dU m,by rw [bq]⟩,bt.own w.wf (p.own.ext w.ext) (by rw [bq];exact Nat.le_refl _) fun fL A=>?_⟩;have d79:O≠zF:=fun e=>by
   have:=w.no;rw [<- e,p.own] at this;cases this
  have ao:Am.Own fL O (iA m):=by
   have:=A.at;rw [dz (by rw [bq];rfl)] at this;exact this
  have ap:Am.Own fL zF (dD.map (.int .u64)):=w.own.mut A.mut (by simpa using Ne.symm d79);refine ⟨⟨oh v,by rw [cG]⟩,bt.own A.wf ap (by rw [cG];simp [dD]) fun fP B=>?_⟩;have ar:Am.Own fP zF (ry v):=by
   have:=B.at;rw [dz (by rw [cG];simp [dD])] at this;exact this
  have Q:=ao.mut B.mut (by simpa using d79);have R:Ext bP fP:=Ext.wr (Ext.wr (p.ext.trans w.ext) p.no A.mut) (p.ext.none w.no) B.mut;have I:=Je _ _ _ Y (al.trans R) B.wf;have S:=an.ext R;have aw:=Uc F M;have K:(vK c).drop i=(m.ev,v.v)::(vK c).drop (i+1):=by
   have h:=List.drop_eq_getElem_cons (l:=vK c) (i:=i) (by omega);rw [h,(List.getElem?_eq_some_iff.1 aw).2]
  rw [K] at k o;have a0:=Z m.ev (List.mem_of_getElem? F);refine ⟨fun vs s'=>∃ H b,vs=[.bool b]/\J H s'/\H.length<=i+1/\(scan (lH name cur x) stop ((vK c).drop pl) 0).1=H.map (fun z=>(z.1.ev,z.2.v))++(if b then [] else (scan (lH name cur x) stop ((vK c).drop (i+1)) H.length).1)/\pl+(scan (lH name cur x) stop ((vK c).drop pl) 0).2=i+1+(if b then 0 else (scan (lH name cur x) stop ((vK c).drop (i+1)) H.length).2),?_,?_⟩
  ·rintro b dW ⟨H,b',U,C,a1,L,h2⟩;simp only [List.cons.injEq,AV.bool.injEq,and_true] at U;subst U;refine af.mk (fun hb=>?_) (fun hb=>?_)
   ·rw [hb] at L h2;simp only [if_true,List.append_nil,Nat.add_zero] at L h2;exact ⟨H,by rw [Cj (by omega),h2],L.symm,C⟩
   ·rw [hb] at L h2;simp only [Bool.false_eq_true,if_false] at L h2;exact ⟨c.log.length - (i+1),by omega,i+1,H,by rw [Cj (by omega)],by omega,by omega,rfl,a1,C,L,h2⟩
  ·refine ⟨_,Q.at.aD (by rw [bq];omega),?_⟩;rw [gJ];obtain ⟨hv,od⟩:=Jd _ _ I;refine aa.use (Ub S.at a0.2 (Js _ _ I) ab j od.at (Bi j _ hv) (by rw [mI j];omega) name) ?_;rintro bd a2 ⟨rfl,D⟩ a3;have W:=Je _ _ _ I D a3;refine ⟨_,rfl,af.mk (fun X=>?_) (fun X=>?_)⟩
   ·refine ⟨_,(Q.ext D).at.aD (by rw [bq];omega),_,(ar.ext D).at.aD (by rw [cG];omega),?_⟩;rw [gJ,List.drop_zero,List.take_of_length_le (by rw [cG];omega)];show aa _ _ _ _ _;refine aa.use (step d a2 m v W (S.ext D) (by omega)) ?_;rintro be bh ⟨rfl,C⟩ a4;refine ⟨_,rfl,d++[(m,v)],_,rfl,C a4,by simp;omega,?_,?_⟩
    ·rw [k,scan,if_pos X];cases a5:stop (d.length+1) <;> simp
    ·rw [o,scan,if_pos X];cases a5:stop (d.length+1) <;> simp <;> omega
   ·refine ⟨d,false,rfl,W,by omega,?_,?_⟩
    ·rw [k,scan,if_neg (by rw [X];simp)];simp
    ·rw [o,scan,if_neg (by rw [X];simp)];simp;omega
 ·have:(vK c).drop i=[]:=List.drop_eq_nil_of_le (by omega);rw [this] at k o;simp only [scan,List.append_nil,Nat.add_zero] at k o;exact ⟨d,by rw [o],k.symm,Y⟩
end Go.Proofs.YtohgmogbabkkeaaGreat
end

section
namespace Go.Proofs.YtohgmogbabkkeaaGreat
open Go.Am Go.au Go.aC Go.bL
theorem Tag.O1 {s:AS} {y g:Nat} {es:List (AV×AV×Nat)} {k:Nat} {ro:Bool} (h:s.h y=some (.map es k ro)):¬ Tag s y g:=fun ⟨cs,t⟩=>by rw [h] at t;cases t
theorem Own.V_ {s:AS} {a b:Nat} {x y:List AV} (h:Am.Own s a x) (c:Am.Own s b y) (d:x.length≠y.length):a≠b:=fun e=>by
 subst e;have:x=y:=At.inj h.at c.at;exact d (by rw [this])
section
variable {F:List Nat} {s:AS} {p n:Nat} {sec:List Int} {f:List UInt8->Option Dv}
theorem kI.tight (h:kI F s p sec f n):∃ F0,kI F0 s p sec f n/\(∀ y∈F0,y∈F)/\∀ y∈F0,s.h y≠none:=by
 obtain ⟨sv,hm,es,k,w,h2,h3,⟨a1,a2⟩,r,c2,l,x,z⟩:=h;have o:∀ a m,ec es a=some m->∃ e∈es,e.2.1=m:=fun a m d=>by
  obtain ⟨j,k,hj⟩:=BB d;exact ⟨_,List.mem_of_getElem? hj,rfl⟩
 have c:∀ e∈es,ec es e.1=some e.2.1:=fun e i=>EN r.nd i;refine ⟨p::hm::(ay sv++es.flatMap fun e=>fC e.2.1),⟨sv,hm,es,k,w,by simp,by simp,⟨a1,fun y b=>by simp [b]⟩,r,c2,fun a m d=>⟨⟨(l a m d).1.1,(l a m d).1.2.1,(l a m d).1.2.2.1,fun y b=>?_⟩,(l a m d).2⟩,x,z⟩,?_,?_⟩
 ·obtain ⟨e,i,rfl⟩:=o a m d;have:y∈es.flatMap fun e=>fC e.2.1:=List.mem_flatMap.2 ⟨e,i,b⟩;simp only [List.mem_cons,List.mem_append,this,or_true]
 ·intro y b;simp only [List.mem_cons,List.mem_append] at b;rcases b with rfl | rfl | b | b
  ·exact h2
  ·exact h3
  ·exact a2 y b
  ·obtain ⟨e,i,b⟩:=List.mem_flatMap.1 b;exact (l _ _ (c e i)).1.2.2.2 y b
 ·intro y b;simp only [List.mem_cons,List.mem_append] at b;rcases b with rfl | rfl | b | b
  ·rw [w];simp
  ·rw [r.obj];simp
  ·exact br.k7 a1 y b
  ·obtain ⟨e,i,b⟩:=List.mem_flatMap.1 b;obtain ⟨d1,d2,_⟩:=(l _ _ (c e i)).1;rcases List.mem_cons.1 b with rfl | b
   ·rw [d1];simp
   ·exact br.k7 d2 y b
def kJ (f:List UInt8->Option Dv) (a:List UInt8) (d:Option Dv):List UInt8->Option Dv:=fun b=>if b=a then d else f b
theorem Bk (a:List UInt8) (m':Qm):∀ (es:List (List UInt8×Qm×Nat)) (b:List UInt8),ec (es.map fun e=>if e.1=a then (e.1,m',e.2.2) else e) b=if b=a then (ec es a).map (fun _=>m') else ec es b
 | [],b=>by simp [sZ]
 | e::es,b=>by
  rw [List.map_cons,dO,Bk a m' es b,dO,dO];by_cases c:e.1=a
  ·by_cases h2:b=a
   ·subst h2;simp [c]
   ·have:¬ a=b:=fun h=>h2 h.symm;simp [c,h2,this]
  ·by_cases h2:b=a
   ·subst h2;simp [c]
   ·simp [c,h2]
theorem kI.dev (h:kI F s p sec f n) (S:∀ y∈F,s.h y≠none) {name:List UInt8} {d:Dv} (hd:f name=some d):∃ (m:Qm) (sv:AV) (hm:Nat),m.d=d/\FV F s m/\Am.Own s p [sv,.map (some hm)]/\(br qg 1 s sv sec/\∀ y∈ay sv,y∈F)/\(∀ s',Ext s s'->dh T aB (.map (some hm)) (.str name) false s'=some (.ptr (some (m.l,0))))/\p ∉ fC m/\(∀ y∈ay sv,y ∉ fC m) /\
  ∀ (s':AS) (m':Qm),m'.l=m.l->bD (fC m) s s'->Am.Own s' m.l (mH m'.d.cur m'.d.place m'.hv)->br ry 16 s' m'.hv m'.H->m'.H.map F_.v=m'.d.hand->(∀ y∈ay m'.hv,y∈fC m\/s.h y=none) ->
   ∃ F',kI F' s' p sec (kJ f name (some m'.d)) n/\(∀ y∈F',y∈F\/s.h y=none)/\∀ y∈F',s'.h y≠none:=by
 obtain ⟨sv,hm,es,k,O,h2,h3,⟨a1,a2⟩,B,c2,U,c4,Q⟩:=id h;cases r:ec es name with
 | none=>rw [c4 _ r] at hd;cases hd
 | some m =>
  obtain ⟨w,I⟩:=U _ _ r;rw [hd] at I;have tm:∀ y∈fC m,∀ g,Tag s y g->g=0\/g=16:=fun y c g t=>by
   rcases List.mem_cons.1 c with rfl | c
   ·exact .inl (t.uniq (Own.tag w.1))
   ·exact .inr (t.uniq (br.tag w.2.1 y c))
  have J:p ∉ fC m:=fun c=>by
   rcases List.mem_cons.1 c with e | c
   ·exact Own.V_ O w.1 (by rw [mI m.len];simp) e
   ·have:=(br.tag w.2.1 _ c).uniq (Own.tag O);omega
  have K:∀ y∈ay sv,y ∉ fC m:=fun y c W=>by rcases tm y W 1 (br.tag a1 y c) with h | h <;> omega
  have X:hm ∉ fC m:=fun c=>by
   rcases List.mem_cons.1 c with e | c
   ·exact Tag.O1 B.obj (e ▸ Own.tag w.1)
   ·exact Tag.O1 B.obj (br.tag w.2.1 _ c)
  refine ⟨m,sv,hm,(Option.some.inj I).symm,w,O,⟨a1,a2⟩,fun s' e=>?_,J,K,fun s' m' Y R ho hg hH C=>?_⟩
  ·have:=(B.ext e).find u_ name false;rw [r] at this;exact this
  have L:fC m'=m.l::ay m'.hv:=by rw [fC,Y]
  have hC:kI (ay m'.hv++F) s' p sec (kJ f name (some m'.d)) n:=by
   refine ⟨sv,hm,es.map fun e=>if e.1=name then (e.1,m',e.2.2) else e,k,O.mut R J,by simp [h2],by simp [h3],⟨a1.mut R K,fun y c=>by simp [a2 y c]⟩,?_,by rw [List.length_map,c2],fun a x o=>?_,fun a i=>?_,fun a b x y o c j=>?_⟩
   ·have Z:=B.mut R X;refine ⟨?_,?_,?_,?_⟩
    ·rw [Z.obj];congr 2;simp only [lI,List.map_map];apply List.map_congr_left;intro e he;simp only [Function.comp];split
     ·rename_i M;have:=EN B.nd he;rw [M,r] at this;have:=Option.some.inj this;simp only [dP,<- this,Y]
     ·rfl
    ·rw [List.pairwise_map];refine B.st.imp fun {a b} j=>?_;split <;> split <;> exact j
    ·intro e he;obtain ⟨e0,ab,rfl⟩:=List.mem_map.1 he;have:=B.lt e0 ab;split <;> exact this
    ·rw [List.pairwise_map];refine B.nd.imp fun {a b} j=>?_;split <;> split <;> exact j
   ·rw [Bk] at o;by_cases i:a=name
    ·rw [if_pos i,r] at o;obtain rfl:=Option.some.inj o;refine ⟨⟨by rw [Y];exact ho,hg,hH,fun y c=>?_⟩,by rw [kJ,if_pos i]⟩;rw [L] at c;rcases List.mem_cons.1 c with rfl | c
     ·exact List.mem_append_right _ (w.2.2.2 _ (by simp [fC]))
     ·exact List.mem_append_left _ c
    ·rw [if_neg i] at o;obtain ⟨hE,ad⟩:=U a x o;have A:=hE.mut R (Q name a m x r o (Ne.symm i));exact ⟨⟨A.1,A.2.1,A.2.2.1,fun y c=>List.mem_append_right _ (A.2.2.2 y c)⟩,by rw [kJ,if_neg i];exact ad⟩
   ·rw [Bk] at i;by_cases M:a=name
    ·rw [if_pos M,r] at i;cases i
    ·rw [if_neg M] at i;rw [kJ,if_neg M];exact c4 a i
   ·have old:∀ (b:List UInt8) (y:Qm),ec es b=some y->b≠name->∀ z,z∈fC m'->z ∉ fC y:=fun b y c hb z G D=>by
     rw [L] at G;rcases List.mem_cons.1 G with rfl | G
     ·exact Q name b m y r c (Ne.symm hb) _ (by simp [fC]) D
     ·rcases C z G with h | h
      ·exact Q name b m y r c (Ne.symm hb) _ h D
      ·exact S z ((U b y c).1.2.2.2 z D) h
    rw [Bk] at o c;by_cases i:a=name
    ·rw [if_pos i,r] at o;obtain rfl:=Option.some.inj o;rw [if_neg (by rw [<- i];exact Ne.symm j)] at c;exact old b y c (by rw [<- i];exact Ne.symm j)
    ·rw [if_neg i] at o;by_cases hb:b=name
     ·rw [if_pos hb,r] at c;obtain rfl:=Option.some.inj c;exact fun z G ae=>old a x o i z ae G
     ·rw [if_neg hb] at c;exact Q a b x y o c j
  obtain ⟨F0,al,am,an⟩:=hC.tight;refine ⟨F0,al,fun y c=>?_,an⟩;rcases List.mem_append.1 (am y c) with h | h
  ·rcases C y h with h | h
   ·exact .inl (w.2.2.2 y h)
   ·exact .inr h
  ·exact .inl h
end
end Go.Proofs.YtohgmogbabkkeaaGreat
end

section
namespace Go.Proofs.YtohgmogbabkkeaaGreat
open Go.Am Go.au Go.aC Go.bL
def Sy (F:List Nat) (s s':AS):Prop:=∃ L,bD L s s'/\∀ y∈L,y∈F/\∀ g,Tag s y g->g=0\/g=16
theorem Sy.mut {F:List Nat} {s s':AS} (h:Sy F s s'):bD F s s':=by
 obtain ⟨L,m,b⟩:=h;exact m.mono fun y c=>(b y c).1
structure Vv (F Fc Fs:List Nat) (s:AS) (p pc ps:Nat) (sec:List Int) (f:List UInt8->Option Dv) (n:Nat) (c:iM) (x:aH):Prop where
 fe:kI F s p sec f n
 th:∀ y∈F,s.h y≠none
 ca:kH Fc s pc c
 se:gP Fs s ps x
 tc:∀ y∈Fc,s.h y≠none
 ts:∀ y∈Fs,s.h y≠none
 dc:Dj F Fc
 ds:Dj F Fs
 bl:c.JF.length=c.log.length
 ln:c.log.length<=2 ^ 27
 sz:∀ e∈c.log,e.u5.length<=2 ^ 29/\e.to.length<=2 ^ 29
 nl:x.nl<65536
 pl:∀ a d,f a=some d->d.place<=c.log.length/\d.hand.length<=d.place
noncomputable def xu (name:List UInt8) (d:Dv) (c:iM) (x:aH) (most:Int):List (Ev×List Int)×Nat:=scan (lH name d.cur x) (fun k=>!decide ((k:Int)<most)) ((vK c).drop d.place) 0
noncomputable def HM (name:List UInt8) (d:Dv) (c:iM) (x:aH) (most:Int):Dv:=⟨d.cur,d.place+(xu name d c x most).2,d.hand++(xu name d c x most).1.map Prod.snd⟩
section
variable {F Fc Fs:List Nat} {s:AS} {p pc ps n:Nat} {sec:List Int} {f:List UInt8->Option Dv} {c:iM} {x:aH}
theorem N5 (h:Vv F Fc Fs s p pc ps sec f n c x) {s2:AS} (e2:Ext s s2) :
  aa Tryz.prog bX [.ptr (some (p,0))] s2 fun xN b=>∃ e:Bool,xN=.bool e/\(af e (aa Tryz.prog eG [(.ptr (some (pc,0)))] b fun m d=>∃ i:Option (Nat×Nat),m=.ptr i/\(sJ (iB T 100 iG (.ptr i) (.ptr none)) fun o=>af o ((fun vs s'=>vs=[AV.bool false]/\Ext s2 s'/\aM s') [.bool true] d) (aa Tryz.prog fR [(.ptr (some (ps,0)))] d fun r j=>∃ k:Option (Nat×Nat),r=.ptr k/\(sJ (iB T 100 lA (.ptr k) (.ptr none)) fun w=>(fun vs s'=>vs=[AV.bool false]/\Ext s2 s'/\aM s') [.bool w] j)))) ((fun vs s'=>vs=[AV.bool false]/\Ext s2 s'/\aM s') [.bool false] b)):=by
 refine aa.use (tV (h.fe.ext e2)) ?_;rintro v b ⟨rfl,rfl⟩ A;refine ⟨_,rfl,af.yes rfl ?_⟩;refine aa.use (L5 (h.ca.ext e2)) ?_;rintro v d ⟨⟨q,rfl⟩,l⟩ B;refine ⟨_,rfl,_,dn iI _,af.no rfl ?_⟩;refine aa.use (Ve (h.se.ext (e2.trans l))) ?_;rintro v j ⟨C,rfl,_,_,y⟩ z;exact ⟨_,rfl,_,dn rN _,rfl,l.trans y,z⟩
set_option maxRecDepth 20000 in
theorem Ue (h:Vv F Fc Fs s p pc ps sec f n c x) (name:List UInt8) (most:Int) :
  aa Tryz.prog cZ [.ptr (some (p,0)),.str name,.int .i64 most,.ptr (some (pc,0)),.ptr (some (ps,0))] s fun r s' =>
   ((¬ (aK name=true/\1<=most/\most<=16)\/f name=none)/\(∃ e:Int,e≠0/\r=.aP [.slc none 0 0 true,.int .i64 e])/\Ext s s') \/
   ((aK name=true/\1<=most/\most<=16)/\∃ (d:Dv) (out:AV) (Lo:List nU) (F':List Nat),f name=some d/\r=.aP [out,.int .i64 0]/\br iA 21 s' out Lo/\(∀ m∈Lo,j9 (JN m) s' m)/\Lo.map nU.ev=(xu name d c x most).1.map Prod.fst /\
    kI F' s' p sec (kJ f name (some (HM name d c x most))) n/\Sy F s s'/\(∀ y∈F',y∈F\/s.h y=none)/\∀ y∈F',s'.h y≠none):=by
 refine aa.pre fun hw=>nW _ _ _ _ _ _ _ (aj.intro hw rfl fun l1 s2 F2=>?_);refine ⟨fun vs s'=>vs=[.bool false]/\Ext s2 s'/\aM s',?_,N5 h F2.ext⟩;rintro b s5 ⟨hb,e5,w5⟩;obtain rfl:b=false:=by simpa using hb
 have B:=F2.ext.trans e5;have o5:=F2.own.ext e5;refine af.no rfl ⟨fun vs s'=>vs=[.int .i64 (if ¬ (aK name=true/\1<=most/\most<=16) then 2 else if (f name).isNone=true then 7 else 0)]/\s'=s5,?_,most,by rw [o5.at.av];rfl,af.dec (fun h1=>⟨most,by rw [o5.at.av];rfl,?_⟩) (fun h1=>?_)⟩
 ·rintro n7 s8 ⟨hn,rfl⟩;simp only [List.cons.injEq,AV.int.injEq,true_and,and_true] at hn;subst hn;by_cases hg:aK name=true/\1<=most/\most<=16
  ·rw [if_neg (fun h=>h hg)];cases hf:f name with
   | none =>
    rw [if_pos (show (none:Option Dv).isNone=true from rfl)];exact af.yes (by decide) (.inl ⟨.inr rfl,⟨7,by decide,rfl⟩,B⟩)
   | some d =>
    rw [if_neg (by simp)];refine af.no (by decide) ?_;have a5:=h.fe.ext B;have Z:∀ y∈F,s8.h y≠none:=fun y i=>by
     cases hq:s.h y with
     | none=>exact absurd hq (h.th y i)
     | some o=>rw [B.1 _ _ hq];simp
    obtain ⟨m,sv,hm,rfl,R,op,⟨bs,_⟩,ae,bx,b0,an⟩:=a5.dev Z hf;obtain ⟨bo,ao⟩:=h.pl _ _ hf;refine ⟨_,by rw [op.at.av];rfl,_,ae _ (Ext.refl _),aj.intro w5 rfl fun U b1 K=>bt.own K.wf K.own (by simp) fun gu al=>aj.intro al.wf rfl fun q_ lK C=>?_⟩;have ap:Am.Own gu U [.ptr (some (m.l,0))]:=al.at;have am:Ext s8 gu:=Ext.wr K.ext K.no al.mut;have D:=am.trans C.ext;have ar:=ap.ext C.ext;have aw:Am.Own lK l1 [.int .i64 most]:=o5.ext D;have a6:Am.Own lK q_ [.slc none 0 0 true]:=C.own;have ab:=R.mut (L:=[]) D.mut (by simp);have a7:s8.h U=none:=K.no;have W:s8.h q_=none:=am.none C.no;have a0:∀ y∈fC m,s8.h y≠none:=fun y i=>Z y (R.2.2.2 y i);have X:U ∉ q_::fC m:=fun i=>by
     rcases List.mem_cons.1 i with e | i
     ·have:=C.no;rw [<- e,ap] at this;cases this
     ·exact a0 _ i a7
    have a1:q_ ∉ fC m:=fun i=>a0 _ i W;have k1:l1 ∉ q_::fC m:=fun i=>by
     rcases List.mem_cons.1 i with e | i
     ·have:=C.no;rw [<- e,o5.ext am] at this;cases this
     ·exact h.th _ (R.2.2.2 _ i) F2.no
    have kl:m.l∈fC m:=by simp [fC]
    have M:∀ y∈q_::fC m,y ∉ Fc/\y ∉ Fs:=fun y i=>by
     rcases List.mem_cons.1 i with rfl | i
     ·exact ⟨fun O=>h.tc _ O (B.none W),fun O=>h.ts _ O (B.none W)⟩
     ·exact ⟨h.dc y (R.2.2.2 y i),h.ds y (R.2.2.2 y i)⟩
    have b2:m.H.length<=m.d.place:=by rw [<- List.length_map (f:=F_.v),R.2.2.1];exact ao
    have b3:=h.ln
    let Jb:AS->List (nU×F_)->AS->Prop:=fun sb d s'=>∃ out oX,Am.Own s' q_ [out]/\Am.Own s' m.l (mH m.d.cur m.d.place oX)/\br iA 21 s' out (d.map Prod.fst)/\br ry 16 s' oX (m.H++d.map Prod.snd)/\bD (q_::fC m) sb s'/\(∀ y∈ay out++ay oX,y∈fC m\/sb.h y=none)/\∀ z∈d,j9 (JN z.1) s' z.1
    have ad:∀ sb d a b,Jb sb d a->Ext a b->Jb sb d b:=fun sb d a b ⟨out,oX,I,G,j3,S,A,j6,j7⟩ e=>⟨out,oX,I.ext e,G.ext e,j3.ext e,S.ext e,A.trans e.mut,j6,fun z Q=>(j7 z Q).ext e⟩;have J0:∀ sb,Ext lK sb->Jb sb [] sb:=fun sb e=>⟨_,m.hv,a6.ext e,ab.1.ext e,br.nil,by simpa using ab.2.1.ext e,bD.refl _ _,fun y i=>.inl (by simpa [ay,fC] using Or.inr (by simpa [ay] using i)),by simp⟩;have Y:∀ s',bD (q_::fC m) lK s'->av s' U 0=some (.ptr (some (m.l,0))):=fun s' mm=>by rw [(ar.mut mm X).at.av];rfl
    have M0:bD (q_::fC m) lK lK:=bD.refl _ _;refine ⟨fun a b=>bD (q_::fC m) a b,fun q _ v s'=>q=6->∃ d,v=.int .i64 ((m.d.place+(xu name m.d c x most).2:Nat):Int)/\d.map (fun z=>(z.1.ev,z.2.v))=(xu name m.d c x most).1/\Jb lK d s',fun s'=>Ext lK s',fun _ _ _ _=>True,fun q _ v=>q=6->∃ k,v=.int .i64 k,fun a b e=>e.mut,fun a b c x y=>x.trans y,fun q _ v a b e g hq=>by obtain ⟨d,x,y,z⟩:=g hq;exact ⟨d,x,y,ad _ _ _ _ z e⟩,fun _ _ _ _ _ _ _=>trivial,fun a b e g=>g.trans e,Ext.refl _,?_⟩;refine ⟨_,Y _ M0,fun s' x _=>⟨_,Y _ x,rfl⟩,_,Y _ M0,fun s' x _=>⟨_,Y _ x,rfl⟩,fun s' _ _=>rfl,fun dW b4 a8 _ O=>?_,⟨.int .i64 0,fun _=>⟨_,rfl⟩⟩,fun b5 a2=>?_⟩
    ·refine aa.use (Ud (s0:=dW) (l:=m.l) (pl:=m.d.place) (cur:=m.d.cur) (stop:=fun k=>!decide ((k:Int)<most)) (J:=fun d s'=>Jb dW d s'/\aM s') m.len h.bl (by omega) h.sz h.nl (by omega) (fun d s' j=>j.2) (fun d a b j e w=>⟨ad _ _ _ _ j.1 e,w⟩) (fun d s' j=>by obtain ⟨⟨out,oX,I,G,_⟩,_⟩:=j;exact ⟨oX,G⟩) (fun d s' j=>by obtain ⟨⟨out,oX,I,G,j3,S,A,_⟩,_⟩:=j;exact (h.ca.ext ((B.trans D).trans O)).mut A fun y i=>(M y i).1) (fun d s' j=>by obtain ⟨⟨out,oX,I,G,j3,S,A,_⟩,_⟩:=j;exact (h.se.ext ((B.trans D).trans O)).mut A fun y i=>(M y i).2) ?_ ⟨J0 _ O,a8⟩) ?_
     ·rintro d s' m' v ⟨⟨out,oX,I,G,j3,S,A,j6,j7⟩,w'⟩ gE b6;have t1:=br.tag j3;have t2:=br.tag S;refine (Sx (pl:=m.d.place) m.len I ((ar.ext O).mut A X) ((aw.ext O).mut A k1) G j3 S (fun e=>X (by simp [<- e])) (fun e=>k1 (by simp [<- e])) (fun e=>a1 (by rw [e];exact kl)) (fun e=>X (by rw [e];simp [kl])) (fun e=>k1 (by rw [e];simp [kl])) (by simp;omega) (by simp;omega) m' v).mono ?_;rintro r b7 ⟨rfl,a3,a9,g1,g2,g3,g4,g5,g6⟩;refine ⟨by simp,fun w=>⟨⟨a3,a9,g1,g2,by simpa using g3,by rw [List.map_append,<- List.append_assoc];exact g4,A.new g5 fun y i=>?_,fun y i=>?_,fun z Q=>?_⟩,w⟩⟩
      ·rcases List.mem_cons.1 i with rfl | i
       ·exact .inl (by simp)
       ·rcases List.mem_cons.1 i with rfl | i
        ·exact .inl (by simp [kl])
        ·rcases j6 y i with h | h
         ·exact .inl (by simp [h])
         ·exact .inr h
      ·rcases g6 y i with h | h
       ·exact j6 y h
       ·by_cases a4:y∈fC m
        ·exact .inl a4
        ·right;cases hq:dW.h y with
         | none=>rfl
         | some o =>
          have a':y≠q_:=fun e=>by
           subst e;rw [I] at h;cases h
          rw [A.1 y o (by simp only [List.mem_cons,not_or];exact ⟨a',a4⟩) hq] at h;cases h
      ·have hT:∀ y∈q_::m.l::(ay out++ay oX),∀ g,Tag s' y g->g≠1/\g≠3:=fun y i g t=>by
        rcases List.mem_cons.1 i with rfl | i
        ·have:=t.uniq (Own.tag I);omega
        ·rcases List.mem_cons.1 i with rfl | i
         ·have:=t.uniq (Own.tag G);omega
         ·rcases List.mem_append.1 i with i | i
          ·have:=t.uniq (t1 y i);omega
          ·have:=t.uniq (t2 y i);omega
       rcases List.mem_append.1 Q with Q | Q
       ·exact (j7 z Q).e_ g5 hT
       ·obtain rfl:=List.mem_singleton.1 Q;exact gE.e_ g5 hT
     ·rintro b8 b9 ⟨d,rfl,hd,⟨jj,_⟩⟩ b';obtain ⟨out,oX,I,G,j3,S,A,j6,j7⟩:=jj;exact ⟨_,rfl,⟨A,(fun _=>⟨d,rfl,hd,out,oX,I,G,j3,S,O.mut.trans A,fun y i=>(j6 y i).imp id O.none,j7⟩)⟩,trivial,(fun _=>⟨_,rfl⟩)⟩
    ·obtain ⟨k,rfl⟩:=a2 rfl;refine ⟨_,rfl,fun mu cb ba _ hC=>?_⟩;obtain ⟨d,hk,hd,out,oX,I,G,j3,S,A,j6,j7⟩:=hC rfl;simp only [AV.int.injEq,true_and] at hk;subst hk;refine bt.own ba G (by rw [mI m.len];simp) fun kr P=>?_;have oP:Am.Own kr m.l (mH m.d.cur ((m.d.place+(xu name m.d c x most).2:Nat):Int) oX):=by
      have:=P.at;rw [fy,Nat.zero_add,(FW m.len _ _ _ oX).1] at this;exact this
     have tl:∀ y∈[m.l],∀ g,Tag mu y g->g=0:=fun y i g t=>by
      obtain rfl:=List.mem_singleton.1 i;exact t.uniq (Own.tag G)
     have g3:=br.e_ j3 P.mut fun y i g t=>by rw [tl y i g t];decide
     have g4:=br.e_ S P.mut fun y i g t=>by rw [tl y i g t];decide
     have g7:∀ z∈d,j9 (JN z.1) kr z.1:=fun z Q=>(j7 z Q).e_ P.mut fun y i g t=>by rw [tl y i g t];decide
     have bb:q_≠m.l:=fun e=>a1 (e ▸ kl);have MA:bD (fC m) s8 kr:=by
      have m1:bD (q_::fC m) s8 kr:=(D.mut.trans A).trans (P.mut.mono (by simp [kl]));refine ⟨fun y o i ho=>m1.1 y o (fun hm=>?_) ho,m1.2⟩;rcases List.mem_cons.1 hm with rfl | hm
      ·rw [W] at ho;cases ho
      ·exact i hm
     refine ⟨out,by rw [(I.mut P.mut (by simpa using bb)).at.av];rfl,.inr ⟨hg,m.d,out,d.map Prod.fst,?_⟩⟩;obtain ⟨F',bc,bd,be⟩:=an kr ⟨m.l,oX,HM name m.d c x most,m.H++d.map Prod.snd,m.len⟩ rfl MA oP g4 (by
      show _=m.d.hand++(xu name m.d c x most).1.map Prod.snd;rw [List.map_append,R.2.2.1,<- hd];simp) (fun y i=>(j6 y (List.mem_append_right _ i)).imp id D.none)
     refine ⟨F',rfl,rfl,g3,fun z Q=>?_,?_,bc,⟨fC m,B.mut.trans MA,fun y i=>⟨R.2.2.2 y i,fun g t=>?_⟩⟩,fun y i=>(bd y i).imp id B.none,be⟩
     ·obtain ⟨w,bh,rfl⟩:=List.mem_map.1 Q;exact g7 w bh
     ·rw [<- hd];simp
     ·obtain ⟨cs,bi⟩:=t;have t8:Tag s8 y g:=⟨cs,B.1 _ _ bi⟩;rcases List.mem_cons.1 i with rfl | i
      ·exact .inl (t8.uniq (Own.tag R.1))
      ·exact .inr (t8.uniq (br.tag R.2.1 y i))
  ·rw [if_pos hg];exact af.yes (by decide) (.inl ⟨.inl hg,⟨2,by decide,rfl⟩,B⟩)
 ·refine aa.use (Bj (h.fe.ext B) name _) ?_;rintro bj bk ⟨rfl,rfl⟩ bm;refine ⟨_,rfl,?_,rfl⟩;congr 3;by_cases h2:aK name=true <;> by_cases h3:most<=16 <;> simp [h2,h3,show 1<=most from h1]
 ·refine aa.use (Bj (h.fe.ext B) name _) ?_;rintro bj bk ⟨rfl,rfl⟩ bm;refine ⟨_,rfl,?_,rfl⟩;congr 3;exact propext ⟨fun _ h=>h1 h.2.1,fun _=>by simp⟩
end
end Go.Proofs.YtohgmogbabkkeaaGreat
end
