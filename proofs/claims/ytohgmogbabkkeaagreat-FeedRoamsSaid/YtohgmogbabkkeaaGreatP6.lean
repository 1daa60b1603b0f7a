/-
  A part of OQ proof: an abstract machine Be OQ model, and qc of qd of this program Be it.
-/
import Derived.KernelRfl
import Derived.Test.YtohgmogbabkkeaaGreatP5
set_option linter.unusedVariables false
set_option linter.unusedSimpArgs false
set_option linter.unusedSectionVars false
section
namespace Go.Proofs.YtohgmogbabkkeaaGreat
open Go.Am Go.au
def wI (n:Int):List AV:=[.int .u64 n]
theorem tr (n:Int):(wI n).length=1:=rfl
theorem LS:Bn T fj jt 1 8:=⟨jx,ju,Ri,⟨_,_,Pk,rfl,rfl⟩,by decide,by decide⟩
section
variable {s:AS} {a:AV} {l:List Int} {g:FuncId} {cap:List AV} {P:Int->Bool}
theorem GF (w:Sl wI 1 s a l) (I:l.length<=2 ^ 40) (z:∀ i∈l,∀ s',Ext s s'->aM s'->aa Tryz.prog g ([.int .u64 i]++cap) s' fun v s''=>v=.bool (P i)/\Ext s' s'') :
  aa Tryz.prog dh [a,.func g cap] s fun v s'=>Ext s s'/\∃ n:Int,v=.int .i64 n/\((n = -1/\l.any P=false)\/∃ k:Nat,n=k/\k<l.length/\(∃ x,l[k]? = some x/\P x=true)/\∀ j x,j<k->l[j]? = some x->P x=false):=by
 refine aa.pre fun A=>kC _ _ _ _ ⟨_,w.cj jx _,fun m vs s'=>∃ i:Nat,vs=[.int .i64 (i:Nat)]/\i<=l.length/\m=l.length - i/\Ext s s'/\aM s'/\(∀ j x,j<i->l[j]? = some x->P x=false),l.length,⟨0,rfl,by omega,rfl,Ext.refl _,A,by omega⟩,?_⟩;rintro m n s6 ⟨i,hi,J,rfl,d,B,b⟩;simp only [List.cons.injEq,AV.int.injEq,true_and,and_true] at hi;subst hi;refine af.dec (fun C=>?_) (fun D=>⟨d,-1,rfl,.inl ⟨rfl,?_⟩⟩)
 ·obtain ⟨x,c⟩:=cS (l:=l) (i:=i) (by omega);obtain ⟨la,o,F,G⟩:=w.ix (by decide) tr jx ju c;refine ⟨la,o,F _,x,by simpa [wI] using (G _ d).1 0 (by decide),?_⟩;refine aa.use (z x (List.mem_of_getElem? c) s6 d B) ?_;rintro v H ⟨rfl,e⟩ p;refine ⟨_,rfl,af.mk (fun hb=>⟨d.trans e,_,rfl,.inr ⟨i,rfl,by omega,⟨x,c,hb⟩,b⟩⟩) (fun hb=>⟨l.length - (i+1),by omega,i+1,by rw [aW (by omega)];rfl,by omega,rfl,d.trans e,p,fun j y hj r=>?_⟩)⟩;rcases Nat.lt_or_ge j i with h | h
  ·exact b j y h r
  ·obtain rfl:j=i:=by omega
   rw [c] at r;obtain rfl:=Option.some.inj r;exact hb
 ·rw [List.any_eq_false];intro x c;obtain ⟨j,hj⟩:=List.mem_iff_getElem?.1 c;have:j<l.length:=by
   rcases Nat.lt_or_ge j l.length with h | h
   ·exact h
   ·rw [List.getElem?_eq_none h] at hj;cases hj
  rw [b j x (by omega) hj];simp
theorem tu (b:Sl wI 1 s a l) (c:l.length<=2 ^ 40) (d:∀ i∈l,∀ s',Ext s s'->aM s'->aa Tryz.prog g ([.int .u64 i]++cap) s' fun v s''=>v=.bool (P i)/\Ext s' s'') :
  aa Tryz.prog bT [a,.func g cap] s fun v s'=>v=.bool (l.any P)/\Ext s s':=by
 refine jB _ _ _ _ ?_;refine aa.use (GF b c d) ?_;rintro v s2 ⟨e,n,rfl,h⟩ _;refine ⟨_,rfl,?_,e⟩;congr 1;rcases h with ⟨rfl,h⟩ | ⟨k,rfl,o,⟨x,j,m⟩,_⟩
 ·rw [h];decide
 ·rw [List.any_eq_true.2 ⟨x,List.mem_of_getElem? j,m⟩,decide_eq_true_eq];omega
end
section
variable {s:AS} {a:AV} {l:List aK} {g:FuncId} {cap:List AV} {P:aK->Bool}
theorem GG (w:Sl aN 2 s a l) (I:l.length<=2 ^ 40) (z:∀ i∈l,∀ s',Ext s s'->aM s'->aa Tryz.prog g ([.agg (aN i)]++cap) s' fun v s''=>v=.bool (P i)/\Ext s' s'') :
  aa Tryz.prog eN [a,.func g cap] s fun v s'=>Ext s s'/\∃ n:Int,v=.int .i64 n/\((n = -1/\l.any P=false)\/∃ k:Nat,n=k/\k<l.length/\(∃ x,l[k]? = some x/\P x=true)/\∀ j x,j<k->l[j]? = some x->P x=false):=by
 refine aa.pre fun A=>oG _ _ _ _ ⟨_,w.cj bF _,fun m vs s'=>∃ i:Nat,vs=[.int .i64 (i:Nat)]/\i<=l.length/\m=l.length - i/\Ext s s'/\aM s'/\(∀ j x,j<i->l[j]? = some x->P x=false),l.length,⟨0,rfl,by omega,rfl,Ext.refl _,A,by omega⟩,?_⟩;rintro m n s6 ⟨i,hi,J,rfl,d,B,b⟩;simp only [List.cons.injEq,AV.int.injEq,true_and,and_true] at hi;subst hi;refine af.dec (fun C=>?_) (fun D=>⟨d,-1,rfl,.inl ⟨rfl,?_⟩⟩)
 ·obtain ⟨x,c⟩:=cS (l:=l) (i:=i) (by omega);obtain ⟨la,o,F,G⟩:=w.ix (by decide) bn bF jR c;refine ⟨la,o,F _,_,(G _ d).2,?_⟩;refine aa.use (z x (List.mem_of_getElem? c) s6 d B) ?_;rintro v H ⟨rfl,e⟩ p;refine ⟨_,rfl,af.mk (fun hb=>⟨d.trans e,_,rfl,.inr ⟨i,rfl,by omega,⟨x,c,hb⟩,b⟩⟩) (fun hb=>⟨l.length - (i+1),by omega,i+1,by rw [aW (by omega)];rfl,by omega,rfl,d.trans e,p,fun j y hj r=>?_⟩)⟩;rcases Nat.lt_or_ge j i with h | h
  ·exact b j y h r
  ·obtain rfl:j=i:=by omega
   rw [c] at r;obtain rfl:=Option.some.inj r;exact hb
 ·rw [List.any_eq_false];intro x c;obtain ⟨j,hj⟩:=List.mem_iff_getElem?.1 c;have:j<l.length:=by
   rcases Nat.lt_or_ge j l.length with h | h
   ·exact h
   ·rw [List.getElem?_eq_none h] at hj;cases hj
  rw [b j x (by omega) hj];simp
theorem B9 (b:Sl aN 2 s a l) (c:l.length<=2 ^ 40) (d:∀ i∈l,∀ s',Ext s s'->aM s'->aa Tryz.prog g ([.agg (aN i)]++cap) s' fun v s''=>v=.bool (P i)/\Ext s' s'') :
  aa Tryz.prog dX [a,.func g cap] s fun v s'=>v=.bool (l.any P)/\Ext s s':=by
 refine mq _ _ _ _ ?_;refine aa.use (GG b c d) ?_;rintro v s2 ⟨e,n,rfl,h⟩ _;refine ⟨_,rfl,?_,e⟩;congr 1;rcases h with ⟨rfl,h⟩ | ⟨k,rfl,o,⟨x,j,m⟩,_⟩
 ·rw [h];decide
 ·rw [List.any_eq_true.2 ⟨x,List.mem_of_getElem? j,m⟩,decide_eq_true_eq];omega
end
end Go.Proofs.YtohgmogbabkkeaaGreat
end

section
namespace Go.Proofs.YtohgmogbabkkeaaGreat
open Go.Am Go.au Go.aB Go.bM
theorem NG {s:AS} {l:Nat} {n p:Int} (h:At s l [.int .u64 n]) (b:p≠0):aa Tryz.prog qy [.int .u64 p,.ptr (some (l,0))] s fun r s'=>r=.bool (Int.tmod n p==0)/\Ext s s' :=
 ES _ _ _ _ ⟨_,by rw [h.av];rfl,b,rfl,Ext.refl _⟩
theorem PU (s:AS):aa Tryz.prog uj [] s fun v s'=>aT wI 1 [] s s' v xj:=by
 refine aa.pre fun I=>IK _ _ (ak.intro I rfl fun l1 s2 z=>bz.own z.wf z.own (by simp) fun s3 A=>?_);have J:Am.Own s3 l1 [.int .u64 2]:=A.at;refine ⟨fun m vs s'=>∃ (k:Nat) (v:AV) (ln:Nat),vs=[v,.ptr (some (ln,0))]/\k<=310/\m=310 - k/\aT wI 1 [] s s' v (eK k)/\Am.Own s' ln [.int .u64 ((k:Int)+2)]/\aM s',310,⟨0,_,l1,rfl,by omega,rfl,aT.start (Ext.wr z.ext z.no A.mut).mut,by simpa using J,A.wf⟩,?_⟩;rintro m S U W ⟨k,v,ln,d,K,rfl,g,j,X⟩;simp only [List.cons.injEq,AV.ptr.injEq,and_true] at d;obtain ⟨rfl,rfl⟩:=d;have l:=g.sl tr;have hlen:(eK k).length<=64:=by
  have:=yu K;rw [Bt] at this;exact this
 refine ⟨_,l.cj jx _,af.dec (fun L=>?_) (fun M=>?_)⟩
 ·have o:k<310:=by
   rcases Nat.lt_or_ge k 310 with h | h
   ·exact h
   ·have B:=yu h;rw [Bt] at B;omega
  refine ⟨fun vs s'=>∃ v,vs=[v]/\aT wI 1 [] s s' v (eK (k+1))/\Am.Own s' ln [.int .u64 ((k:Int)+2)]/\aM s',?_,?_⟩
  ·rintro O bQ ⟨v,hv,C,D,G⟩;simp only [List.cons.injEq,and_true] at hv;subst hv;refine ⟨_,by rw [D.at.av];rfl,ak.intro G rfl fun r eC F=>bz.own F.wf F.own (by simp) fun iV P=>?_⟩;have x:Am.Own iV r [.int .u64 ((k:Int)+2)]:=P.at;refine ⟨_,by rw [x.at.av];rfl,bz.own P.wf x (by simp) fun gu H=>⟨310 - (k+1),by omega,k+1,_,r,rfl,by omega,rfl,?_,?_,H.wf⟩⟩
   ·exact C.step (Ext.wr (Ext.wr F.ext F.no P.mut) F.no H.mut)
   ·have:=H.at;rw [dB (by simp),fy (by omega)] at this;rw [Am.Own,this];congr 4
  ·refine aa.use (tu l (by omega) fun i hi s' e w=>NG (j.at.ext e) (by have:=vR k i hi;omega)) ?_;rintro Q tD ⟨rfl,b⟩ y;refine ⟨_,rfl,af.mk (fun hb=>?_) (fun hb=>?_)⟩
   ·have c:(eK k).any (fun p=>Int.tmod ((k:Int)+2) p==0)=false:=by simpa using hb
    refine ⟨_,by rw [(j.ext b).at.av];rfl,?_⟩;refine aT.Ky (f:=fun n=>AV.int .u64 n) LS rfl (fun _=>rfl) y (g.step b) (by simp) ((k:Int)+2) (by omega) fun v' s' R w' m'=>⟨v',rfl,?_,?_,w'⟩
    ·rw [eK,c,if_neg (by simp)];exact R
    ·exact (j.ext b).mut m' (fun hm=>br.ne (by decide) (g.u6.ext b) (j.ext b) _ hm (by simp))
   ·have c:(eK k).any (fun p=>Int.tmod ((k:Int)+2) p==0)=true:=by simpa using hb
    refine ⟨_,rfl,?_,j.ext b,y⟩;rw [eK,if_pos c];exact g.step b
 ·have o:k=310:=by
   rcases Nat.lt_or_ge k 310 with h | h
   ·have B:=yu (show k<=309 by omega);rw [Pf] at B;omega
   ·omega
  subst o;exact g
theorem Qm {l o:Nat} {i:Int} (h:0<=i/\i<8):ag T cg (.ptr (some (l,o))) (.int .i64 i)=some (.ptr (some (l,o+i.toNat*1))):=ua Cz EL h
theorem GH {l o:Nat} {i:Int} (h:0<=i/\i<64):ag T dn (.ptr (some (l,o))) (.int .i64 i)=some (.ptr (some (l,o+i.toNat*1))):=ua Iu EL h
theorem AM (k:IntKind) (n:Nat):List.replicate n (AV.int k 0)=(List.replicate n (0:Int)).map (AV.int k):=by simp
set_option maxRecDepth 100000 in
theorem RT (s:AS):aa Tryz.prog wg [] s fun v s'=>v=.agg (rQ.map (.int .u32))/\Ext s s':=by
 refine aa.pre fun hw=>K4 _ _ (ak.intro hw rfl fun l1 s2 A=>ak.intro A.wf rfl fun l3 s4 B=>?_);refine aa.use (PU _) ?_;rintro v5 s6 W w6;have X:Ext s4 s6:=W.ew.ext;have F:=W.sl tr;have ab:xj.length=64:=Bt;have ad:s.h l3=none:=A.ext.none B.no;refine ⟨_,F.cj jx _,fun m vs s'=>∃ i:Nat,vs=[.int .i64 (i:Nat)]/\i<=64/\m=64 - i/\Ext s2 s'/\aM s'/\Am.Own s' l3 ((ud i).map (.int .u32))/\Sl wI 1 s' v5 xj,64,⟨0,rfl,by omega,rfl,B.ext.trans X,w6,?_,F⟩,?_⟩
 ·exact (AM .u32 72) ▸ (B.own.ext X:Am.Own s6 l3 (List.replicate 72 (AV.int .u32 0)))
 rintro m ae dw ⟨i,hi,h6,rfl,n,K,r,e⟩;simp only [List.cons.injEq,AV.int.injEq,true_and,and_true] at hi;subst hi;refine af.dec (fun al=>?_) (fun am=>?_)
 ·obtain ⟨y,Y⟩:=cS (l:=xj) (i:=i) (by omega);obtain ⟨la,o,h8,h9⟩:=e.ix (by decide) tr jx ju Y;have G:xj.getD i 0=y:=by rw [List.getD_eq_getElem?_getD,Y];rfl
  refine ⟨la,o,h8 _,y,by simpa [wI] using (h9 _ (Ext.refl _)).1 0 (by decide),?_⟩;refine aa.use (LR _ _) ?_;rintro nD lH ⟨rfl,b⟩ L;refine ⟨_,rfl,_,_,GH (by omega),bz.int L (r.ext b) (i:=8+i) (by rw [qv];omega) (by simp) fun gu w M H=>?_⟩;have Z:∀ {l:List Int} {v:AV} {s s':AS},Sl wI 1 s v l->∀ {C:List Int},Am.Own s l3 (C.map (.int .u32))->bD [l3] s s'->Sl wI 1 s' v l:=by
   intro l v s s' h C ho m;refine h.mut m tr (by decide) ?_;rintro p hp D hD x hx j c hc hj;obtain rfl:=List.mem_singleton.1 hp;rw [ho.at.inj hD |>.symm] at hj;rw [List.getElem?_map] at hj;simp only [wI,List.getElem?_cons_zero,Option.some.injEq] at hc;subst hc;cases hq:C[j]? with
   | none=>rw [hq] at hj;cases hj
   | some z=>rw [hq] at hj;simp at hj
  have k:=Z (e.ext b) (r.ext b) H;have I:Ext s2 gu:=Ext.wr (n.trans b) B.no H;refine af.dec (fun O=>?_) (fun O=>?_)
  ·refine aa.use (RS _ _) ?_;rintro an tD ⟨rfl,d⟩ Q;refine ⟨_,rfl,_,_,Qm (by omega),bz.int Q (w.ext d) (i:=i) (by simp [qv];omega) (by simp) fun ao R S J=>⟨64 - (i+1),by omega,i+1,by rw [AL (by omega)],by omega,rfl,Ext.wr (I.trans d) B.no J,S,?_,Z (k.ext d) (w.ext d) J⟩⟩;rw [ud,DR,if_pos (by omega),G];exact R
  ·refine ⟨64 - (i+1),by omega,i+1,by rw [AL (by omega)],by omega,rfl,I,M,?_,k⟩;rw [ud,DR,if_neg (by omega),G];exact w
 ·obtain rfl:i=64:=by omega
  have o1:=A.own.ext n;have U:((ud 64).map (AV.int .u32)).length=72:=by simp [qv]
  refine ⟨_,r.at.aC (by omega),?_⟩;rw [List.drop_zero,List.take_of_length_le (by omega)];refine ⟨⟨b_ _ _,by rw [U]⟩,bz.own K o1 (by simp [U]) fun ar P=>?_⟩;have hP:=P.at;rw [dB (by simp [U])] at hP;refine ⟨_,At.aC ⟨_,_,hP⟩ (by omega),?_,Ext.wr (A.ext.trans n) A.no P.mut⟩;rw [List.drop_zero,List.take_of_length_le (by omega)];rfl
end Go.Proofs.YtohgmogbabkkeaaGreat
end

section
namespace Go.Proofs.YtohgmogbabkkeaaGreat
open Go.Am Go.au Go.aB Go.bM
theorem NH (a b:Int):cV T dZ 2 [(0,.int .i64 a),(1,.int .i64 b)]=some [.int .i64 a,.int .i64 b]:=by
 simp only [cV,iU,EG,Im,Option.bind_some,tU];rfl
theorem RU (a b c:Int):cV T dZ 3 [(0,.int .i64 a),(1,.int .i64 b),(2,.int .i64 c)]=some [.int .i64 a,.int .i64 b,.int .i64 c]:=by
 simp only [cV,iU,EG,Im,Option.bind_some,tU];rfl
theorem Uo {s:AS} {l:Nat} {a b:Int} (h:At s l [.int .i64 a,.int .i64 b]):Sl LP 1 s (.slc (some (l,0)) 2 2 true) [a,b]:=bX.mk h rfl rfl
theorem Up {s:AS} {l:Nat} {a b c:Int} (h:At s l [.int .i64 a,.int .i64 b,.int .i64 c]):Sl LP 1 s (.slc (some (l,0)) 3 3 true) [a,b,c]:=bX.mk h rfl rfl
theorem LU (a b c d e f g z:Int):aV T cg [(0,.int .u32 a),(1,.int .u32 b),(2,.int .u32 c),(3,.int .u32 d),(4,.int .u32 e),(5,.int .u32 f),(6,.int .u32 g),(7,.int .u32 z)]=some (.agg [.int .u32 a,.int .u32 b,.int .u32 c,.int .u32 d,.int .u32 e,.int .u32 f,.int .u32 g,.int .u32 z]):=by kernel_rfl
theorem RV (v:W8) {i:Nat} (hi:i<8):i_ T cg (.agg (v.list.map (.int .u32))) (.int .i64 (i:Nat))=some (.int .u32 (v.list.getD i 0)):=by
 simp only [i_,Cz,EL,Option.bind_some,Bo Pn];rcases v with ⟨a,b,c,d,e,f,g,z⟩
 match i,hi with
 | 0,_=>simp [W8.list]
 | 1,_=>simp [W8.list]
 | 2,_=>simp [W8.list]
 | 3,_=>simp [W8.list]
 | 4,_=>simp [W8.list]
 | 5,_=>simp [W8.list]
 | 6,_=>simp [W8.list]
 | 7,_=>simp [W8.list]
def W8.vs (v:W8):List AV:=[.int .u32 v.a,.int .u32 v.b,.int .u32 v.c,.int .u32 v.d,.int .u32 v.e,.int .u32 v.f,.int .u32 v.g,.int .u32 v.z]
theorem W8.inj {v:W8} {a b c d e f g z:Int} (h:[AV.int .u32 a,.int .u32 b,.int .u32 c,.int .u32 d,.int .u32 e,.int .u32 f,.int .u32 g,.int .u32 z]=W8.vs v):v=⟨a,b,c,d,e,f,g,z⟩:=by
 cases v;simp only [W8.vs,List.cons.injEq,AV.int.injEq,true_and,and_true] at h;obtain ⟨rfl,rfl,rfl,rfl,rfl,rfl,rfl,rfl⟩:=h;rfl
set_option maxRecDepth 100000 in
theorem RW {s:AS} {p:Nat} {st:List Int} {bv:AV} {n:List Int} (ho:Am.Own s p (st.map (.int .u32))) (cw:st.length=72) (hb:gy s bv n) (bb:bv≠.emp) (cx:n.length=64) :
  aa Tryz.prog lZ [.ptr (some (p,0)),bv] s fun r s'=>r=.aQ []/\bD [p] s s'/\Am.Own s' p ((MR st n).map (.int .u32)):=by
 refine aa.pre fun hw=>z1 _ _ _ _ (ak.intro hw rfl fun l1 s2 W=>?_);have cy:l1≠p:=fun e=>by
  have:=W.no;rw [e,ho] at this;cases this
 have o1:Am.Own s2 l1 ((SN n 0).map (.int .u32)):=(AM .u32 64) ▸ (W.own:Am.Own s2 l1 (List.replicate 64 (AV.int .u32 0)));refine ⟨fun vs s'=>Ext s s'/\aM s'/\Am.Own s' l1 ((KK n 0).map (.int .u32)),?_,?_⟩
 ·rintro s4 ⟨e4,w4,o4⟩;refine ⟨fun vs s'=>Ext s s'/\aM s'/\Am.Own s' l1 ((KK n 48).map (.int .u32)),?_,?_⟩
  ·rintro s6 ⟨e6,w6,o6⟩;have Y:=ho.ext e6;have rd:∀ i:Nat,i<8->av s6 p (0+((i:Nat):Int).toNat*1)=some (.int .u32 (st.getD i 0)):=fun i hi=>Y.at.Pg (by omega) (by simp);refine ⟨_,_,Qm (i:=0) (by omega),_,rd 0 (by omega),_,_,Qm (i:=1) (by omega),_,rd 1 (by omega),_,_,Qm (i:=2) (by omega),_,rd 2 (by omega),_,_,Qm (i:=3) (by omega),_,rd 3 (by omega),_,_,Qm (i:=4) (by omega),_,rd 4 (by omega),_,_,Qm (i:=5) (by omega),_,rd 5 (by omega),_,_,Qm (i:=6) (by omega),_,rd 6 (by omega),_,_,Qm (i:=7) (by omega),_,rd 7 (by omega),?_⟩;refine ⟨fun vs s'=>vs=W8.vs (vS st (KK n 48) 64)/\Ext s s'/\aM s',?_,?_⟩
   ·rintro cz cA cB cC c0 c1 c2 c3 c4 ⟨hv,Z,bc⟩;have hv:=W8.inj hv;refine ⟨_,LU _ _ _ _ _ _ _ _,fun m vs s'=>∃ i:Nat,vs=[.int .i64 (i:Nat)]/\i<=8/\m=8 - i/\bD [p] s s'/\aM s'/\Am.Own s' p ((KL (vS st (KK n 48) 64).list st i).map (.int .u32)),8,⟨0,rfl,by omega,rfl,Z.mut,bc,ho.ext Z⟩,?_⟩;rintro m c5 bd ⟨i,hi,h6,rfl,ab,be,R⟩;simp only [List.cons.injEq,AV.int.injEq,true_and,and_true] at hi;subst hi;refine af.dec (fun G=>?_) (fun H=>?_)
    ·have hx:=RV (vS st (KK n 48) 64) (i:=i) (by omega);have hr:av bd p (0+((i:Nat):Int).toNat*1)=some (.int .u32 ((KL (vS st (KK n 48) 64).list st i).getD i 0)):=R.at.Pg (by rw [zL];omega) (by simp);rw [hv] at hx;refine ⟨_,hx,_,_,Qm (by omega),_,hr,_,_,Qm (by omega),bz.int be R (i:=i) (by rw [zL];omega) (by simp) fun c6 ad bh bi=>⟨8 - (i+1),by omega,i+1,by rw [AL (by omega)],by omega,rfl,ab.trans bi,bh,?_⟩⟩;rw [KL];rw [hv] at ad ⊢;exact ad
    ·obtain rfl:i=8:=by omega
     exact ⟨rfl,ab,R⟩
   ·refine ⟨fun m vs s'=>∃ i:Nat,vs=W8.vs (vS st (KK n 48) i)++[.int .i64 (i:Nat)]/\i<=64/\m=64 - i/\Ext s6 s'/\aM s',64,⟨0,rfl,by omega,rfl,Ext.refl _,w6⟩,?_⟩;rintro m a b c d e f g z bj ae ⟨i,hi,h6,rfl,I,bk⟩;obtain ⟨hv,hi⟩:=List.append_inj' (s₁:=[AV.int .u32 a,.int .u32 b,.int .u32 c,.int .u32 d,.int .u32 e,.int .u32 f,.int .u32 g,.int .u32 z]) (t₁:=[AV.int .i64 bj]) hi rfl;have hv:=W8.inj hv;simp only [List.cons.injEq,AV.int.injEq,true_and,and_true] at hi;subst hi;refine af.dec (fun G=>?_) (fun H=>?_)
    ·have X:av ae p (0+8+((i:Nat):Int).toNat*1)=some (.int .u32 (st.getD (8+i) 0)):=(Y.ext I).at.Pg (by omega) (by simp);have bl:av ae l1 (0+((i:Nat):Int).toNat*1)=some (.int .u32 ((KK n 48).getD i 0)):=(o6.ext I).at.Pg (by rw [DU];omega) (by simp);refine ⟨fun q _ v s=>q=3->Sl LP 1 s v [6,11,25],fun q _ v=>q=4->v=.int .u32 (CR e [6,11,25]),fun q _ v s s' e h C=>(h C).ext e,fun c7 c8 bm _=>⟨_,RU _ _ _,ak.intro bm rfl fun c9 c' F=>⟨F.ext,(fun _=>Up F.own.at),(fun h=>by cases h)⟩⟩,⟨.bad,fun h=>by cases h⟩,fun da _=>⟨fun db dc dd hS=>?_,⟨_,fun _=>rfl⟩,fun df al=>?_⟩⟩
     ·refine (JA (hS.1 rfl) (by decide) _).mono ?_;rintro v s' ⟨rfl,rfl⟩;exact ⟨_,rfl,Ext.refl _,(fun h=>by cases h),(fun _=>rfl)⟩
     ·obtain rfl:=al rfl;refine ⟨_,rfl,_,rfl,_,rfl,_,rfl,_,rfl,_,_,GH (by omega),_,X,_,_,GH (by omega),_,bl,fun bx am an _=>⟨_,RU _ _ _,ak.intro an rfl fun b0 b1 F=>?_⟩⟩;refine aa.use (JA (Up F.own.at) (by decide) _) ?_;rintro v b2 ⟨rfl,rfl⟩ ao;refine ⟨_,rfl,_,rfl,_,rfl,_,rfl,_,rfl,_,rfl,64 - (i+1),by omega,i+1,?_,by omega,rfl,I.trans (am.trans F.ext),ao⟩;rw [AL (by omega),vS,hv];rfl
    ·obtain rfl:i=64:=by omega
     refine ⟨?_,e6.trans I,bk⟩;rw [hv];rfl
  ·refine ⟨fun m vs s'=>∃ i:Nat,vs=[.int .i64 ((16+i:Nat):Int)]/\i<=48/\m=48 - i/\Ext s s'/\aM s'/\Am.Own s' l1 ((KK n i).map (.int .u32)),48,⟨0,rfl,by omega,rfl,e4,w4,o4⟩,?_⟩;rintro m b3 ar ⟨i,hi,h6,rfl,e7,w7,o7⟩;simp only [List.cons.injEq,AV.int.injEq,true_and,and_true] at hi;subst hi;refine af.dec (fun G=>?_) (fun H=>?_)
   ·have ww:∀ k:Nat,k<=16->IntKind.wrap .i64 (((16+i:Nat):Int) - (k:Int))=((16+i - k:Nat):Int):=fun k X=>by rw [aW (by omega)];omega
    have rd:∀ k:Nat,k<64->av ar l1 (0+(k:Int).toNat*1)=some (.int .u32 ((KK n i).getD k 0)):=fun k X=>o7.at.Pg (by rw [DU];omega) (by simp);have aw:=ww 15 (by omega);have w2:=ww 2 (by omega);have a0:=ww 16 (by omega);have a1:=ww 7 (by omega);rw [show ((15:Nat):Int)=15 from rfl] at aw;rw [show ((2:Nat):Int)=2 from rfl] at w2;rw [show ((16:Nat):Int)=16 from rfl] at a0;rw [show ((7:Nat):Int)=7 from rfl] at a1;rw [aw,w2,a0,a1];refine ⟨_,_,GH (by omega),_,rd _ (by omega),_,_,GH (by omega),_,rd _ (by omega),fun q _ v s=>(q=7->Sl LP 1 s v [7,18])/\(q=20->Sl LP 1 s v [17,19]),fun q _ v=>(q=8->v=.int .u32 (CR ((KK n i).getD (16+i - 15) 0) [7,18]))/\(q=21->v=.int .u32 (CR ((KK n i).getD (16+i - 2) 0) [17,19])),fun q _ v s s' e h=>⟨fun C=>(h.1 C).ext e,fun C=>(h.2 C).ext e⟩,_,_,GH (by omega),_,rd _ (by omega),fun b4 b5 a2 _=>⟨_,NH _ _,ak.intro a2 rfl fun b6 b7 F=>⟨F.ext,⟨(fun _=>Uo F.own.at),(fun h=>by cases h)⟩,(fun h=>by cases h),(fun h=>by cases h)⟩⟩,⟨.bad,(fun h=>by cases h),(fun h=>by cases h)⟩,fun b8 _=>⟨fun b9 b' ca hS=>?_,⟨_,(fun _=>rfl),(fun h=>by cases h)⟩,fun cb S=>?_⟩⟩
    ·refine (JA (hS.1.1 rfl) (by decide) _).mono ?_;rintro v s' ⟨rfl,rfl⟩;exact ⟨_,rfl,Ext.refl _,⟨(fun h=>by cases h),(fun h=>by cases h)⟩,(fun _=>rfl),(fun h=>by cases h)⟩
    ·obtain rfl:=S.1 rfl;refine ⟨_,rfl,by decide,_,rfl,_,_,GH (by omega),_,rd _ (by omega),fun cc cd a3 _=>⟨_,NH _ _,ak.intro a3 rfl fun ce cf F=>⟨F.ext,⟨(fun h=>by cases h),(fun _=>Uo F.own.at)⟩,(fun h=>by cases h),(fun h=>by cases h)⟩⟩,⟨.bad,(fun h=>by cases h),(fun h=>by cases h)⟩,fun ch _=>⟨fun ci ck cl hS=>?_,⟨_,(fun h=>by cases h),(fun _=>rfl)⟩,fun cm U=>?_⟩⟩
     ·refine (JA (hS.2.2.1.2 rfl) (by decide) _).mono ?_;rintro v s' ⟨rfl,rfl⟩;exact ⟨_,rfl,Ext.refl _,⟨(fun h=>by cases h),(fun h=>by cases h)⟩,(fun h=>by cases h),(fun _=>rfl)⟩
     ·obtain rfl:=U.2 rfl;refine ⟨_,rfl,by decide,_,rfl,fun cn J a4 _=>⟨_,_,GH (by omega),bz.int a4 (o7.ext J) (i:=16+i) (by rw [DU];omega) (by simp;omega) fun cp a5 a6 a7=>⟨48 - (i+1),by omega,i+1,by rw [AL (by omega)];rfl,by omega,rfl,Ext.wr (e7.trans J) W.no a7,a6,?_⟩⟩⟩;rw [KK,MQ];exact a5
   ·obtain rfl:i=48:=by omega
    exact ⟨e7,w7,o7⟩
 ·refine ⟨fun m vs s'=>∃ i:Nat,vs=[.int .i64 (i:Nat)]/\i<=16/\m=16 - i/\Ext s s'/\aM s'/\Am.Own s' l1 ((SN n i).map (.int .u32)),16,⟨0,rfl,by omega,rfl,W.ext,W.wf,o1⟩,?_⟩;rintro m cr cs ⟨i,hi,h6,rfl,A,K,L⟩;simp only [List.cons.injEq,AV.int.injEq,true_and,and_true] at hi;subst hi;refine af.dec (fun G=>?_) (fun H=>?_)
  ·have w4:IntKind.wrap .i64 (4*(i:Int))=((4*i:Nat):Int):=by rw [aW (by omega)];omega
   have w8:IntKind.wrap .i64 (((4*i:Nat):Int)+4)=((4*i+4:Nat):Int):=by rw [aW (by omega)];omega
   obtain ⟨v',oQ,a8⟩:=(hb.ext A).mid bS aL er bb (i:=4*i) (j:=4*i+4) (by omega) (by omega) .i64 .i64;rw [w4,w8];have bo:((n.drop (4*i)).take (4*i+4 - 4*i)).length=4:=by rw [List.length_take,List.length_drop];omega
   refine ⟨_,oQ,_,a8.cj aL _,fun m vs s'=>∃ k:Nat,vs=[.int .i64 (k:Nat)]/\k<=4/\m=4 - k/\Ext s s'/\aM s'/\Sl pK 1 s' v' ((n.drop (4*i)).take (4*i+4 - 4*i))/\Am.Own s' l1 ((Um n i (SN n i) k).map (.int .u32)),4,⟨0,rfl,by omega,rfl,A,K,a8,L⟩,?_⟩;rintro m cu a9 ⟨k,X,dk,rfl,M,O,B,w⟩;simp only [List.cons.injEq,AV.int.injEq,true_and,and_true] at X;subst X;rw [bo];refine af.dec (fun G=>?_) (fun H=>?_)
   ·obtain ⟨y,hy⟩:=cS (l:=(n.drop (4*i)).take (4*i+4 - 4*i)) (i:=k) (by omega);have bs:n.getD (4*i+k) 0=y:=by
     rw [List.getElem?_take,if_pos (by omega),List.getElem?_drop] at hy;rw [List.getD_eq_getElem?_getD,hy];rfl
    obtain ⟨la,o,h8,h9⟩:=B.ix (by decide) bS aL er hy;have hr:av a9 l1 (0+((i:Nat):Int).toNat*1)=some (.int .u32 ((Um n i (SN n i) k).getD i 0)):=w.at.Pg (by rw [DS,DT];omega) (by simp);refine ⟨la,o,h8 _,y,by simpa [pK] using (h9 _ (Ext.refl _)).1 0 (by decide),_,_,GH (by omega),_,hr,by decide,_,rfl,_,_,GH (by omega),bz.int O w (i:=i) (by rw [DS,DT];omega) (by simp) fun cv a' ba Q=>⟨4 - (k+1),by omega,k+1,by rw [AL (by omega)],by omega,rfl,Ext.wr M W.no Q,ba,?_,?_⟩⟩
    ·refine B.mut Q bS (by decide) ?_;rintro q C D hD x hx j c hc hj;obtain rfl:=List.mem_singleton.1 C;rw [<- w.at.inj hD,List.getElem?_map] at hj;simp only [pK,List.getElem?_cons_zero,Option.some.injEq] at hc;subst hc;cases C:(Um n i (SN n i) k)[j]? with
     | none=>rw [C] at hj;cases hj
     | some z=>rw [C] at hj;simp at hj
    ·rw [Um,MP,bs];exact a'
   ·obtain rfl:k=4:=by omega
    refine ⟨16 - (i+1),by omega,i+1,by rw [AL (by omega)],by omega,rfl,M,O,w⟩
  ·obtain rfl:i=16:=by omega
   exact ⟨A,K,L⟩
end Go.Proofs.YtohgmogbabkkeaaGreat
end

section
namespace Go.Proofs.YtohgmogbabkkeaaGreat
open Go.Am Go.au Go.aB Go.bM
theorem RX (k:Nat):(List.replicate k (0:Int)).flatMap pK=rep k [AV.int .u8 0]:=by
 induction k with
 | zero=>rfl
 | succ k b=>simp only [List.replicate_succ,List.flatMap_cons,b,rep];rfl
theorem PV {s0 s:AS} (e:aM s) {v:AV} {l:List Int} (h:yS s0 s v l) (hv:l≠[]) (k:Nat) (hb:l.length+k<=2 ^ 28) {K:AV->AS->Prop} (r:∀ v' s',yS s0 s' v' (l++List.replicate k 0)->aM s'->K v' s'):iF (aI T aq rC v (.int .i64 (k:Nat)) s) K:=by
 rcases h with ⟨⟨rfl,_⟩ | ⟨la,rfl,b⟩,i,w⟩
 ·exact absurd rfl hv
 have c:=sq l;have B:bJ (AV.int IntKind.u8 0)=some [AV.int .u8 0]:=rfl;have m:aI T aq rC (.slc (some (la,0)) l.length l.length false) (.int .i64 (k:Nat)) s=if k=0 then some (.slc (some (la,0)) l.length l.length false,s) else
   some (.slc (some (s.nl,0)) (l.length+k) (l.length+k) false,(s.kill la).new (.cells (l.flatMap pK++rep k [.int .u8 0]) 1 false)):=by
  simp only [aI,aL,Ol,if_true,sy,er,Io,EH,Option.bind_some,B,List.length_cons,List.length_nil,Int.toNat_natCast,Nat.zero_add];rw [if_neg (by omega)];split
  ·rfl
  ·have d:mT 1 l.length s (.slc (some (la,0)) l.length l.length false)=some (l.flatMap pK):=by
    have:l.length≠0:=fun h=>hv (List.length_eq_zero_iff.1 h);simp only [mT,if_neg this];rw [tV b (by rw [c];omega),List.drop_zero,List.take_of_length_le (by rw [c];omega)]
   rw [d];simp only [Option.bind_some,b,Nat.zero_add];rw [if_pos ⟨trivial,by omega,by omega⟩]
 by_cases z:k=0
 ·subst z;rw [if_pos rfl] at m;refine ⟨_,_,m,r _ _ ?_ e⟩;simp only [List.replicate_zero,List.append_nil];exact ⟨.inr ⟨la,rfl,b⟩,i,w⟩
 ·rw [if_neg z] at m;have C:aM (s.kill la):=by
   refine ⟨e.1,fun j=>?_⟩;rw [AS.rN,AS.nR,AS.DG];split
   ·rfl
   ·exact e.2 j
  have n:=C.new (o:=.cells (l.flatMap pK++rep k [.int .u8 0]) 1 false) rfl;refine ⟨_,_,m,r _ _ ⟨.inr ⟨s.nl,by simp,?_⟩,⟨fun y o D p=>n.ext.1 y o ?_,Nat.le_trans i.2 n.ext.2⟩,fun x A=>?_⟩ n.wf⟩
  ·rw [List.flatMap_append,RX];exact n.at
  ·rw [AS.rN,if_neg]
   ·exact i.1 y o D p
   ·rintro rfl;rw [w y (by simp [ay])] at p;cases p
  ·simp only [ay,List.mem_singleton] at A;subst A;cases F:s0.h s.nl with
   | none=>rfl
   | some o =>
    have:=i.1 _ _ (by simp) F;rw [e.none] at this;cases this
theorem TM (n:Nat) (c:n<=2 ^ 40):Int.tmod (IntKind.wrap .i64 (120 - Int.tmod ((n+1:Nat):Int) 64)) 64=((Il n:Nat):Int):=by
 have b:Int.tmod ((n+1:Nat):Int) 64=(((n+1) % 64:Nat):Int):=by
  rw [Int.tmod_eq_emod_of_nonneg (by omega)];omega
 rw [b,aW (by omega),Int.tmod_eq_emod_of_nonneg (by omega),Il];omega
theorem TN (f:Nat->Int) {i n:Nat} (h:i<n):((List.range i).map f++List.replicate (n - i) 0).set i (f i)=(List.range (i+1)).map f++List.replicate (n - (i+1)) 0:=by
 have e:n - i=(n - (i+1))+1:=by omega
 rw [e,List.range_succ,List.set_append,if_neg (by simp)];simp [List.replicate_succ]
theorem WB {l:Nat} {i:Int} (h:0<=i/\i<32):ag T rZ (.ptr (some (l,0))) (.int .i64 i)=some (.ptr (some (l,0+i.toNat*1))):=ua Iq er h
theorem PW {k:IntKind} (e:k≠.u8) {s s':AS} {q:Nat} {C:List Int} {v:AV} {l:List Int} (h:gy s v l) (i:Am.Own s q (C.map (.int k))) (m:bD [q] s s'):gy s' v l:=by
 refine Sl.mut h m bS (by decide) ?_;rintro p n D o x r j c b hj;obtain rfl:=List.mem_singleton.1 n;rw [<- i.at.inj o,List.getElem?_map] at hj;simp only [pK,List.getElem?_cons_zero,Option.some.injEq] at b;subst b;cases d:C[j]? with
 | none=>rw [d] at hj;cases hj
 | some z=>rw [d] at hj;simp at hj;exact e hj.1
set_option maxRecDepth 100000 in
theorem OC {s:AS} {st:List Int} (y:st.length=72) {a:AV} {L:List (AV×List Int)} (ha:Sl VE 1 s a L) (hL:∀ p∈L,gy s p.1 p.2) (hn:L.length<=2 ^ 20) (hb:qb L<=2 ^ 20) :
  aa Tryz.prog ct [.agg (st.map (.int .u32)),a] s fun r s'=>r=.agg ((Cy st (L.flatMap Prod.snd)).map (.int .u8))/\Ext s s':=by
 refine aa.pre fun hw=>z7 _ _ _ _ ⟨b_ _ _,ak.intro hw rfl fun l1 s2 x=>ak.intro x.wf rfl fun l3 s4 z=>?_⟩;have U:=x.ext.trans z.ext;have o1:Am.Own s4 l1 (st.map (.int .u32)):=x.own.ext z.ext;have o3:Am.Own s4 l3 ((List.replicate 32 (0:Int)).map (.int .u8)):=(AM .u8 32) ▸ (z.own:Am.Own s4 l3 (List.replicate 32 (AV.int .u8 0)));have A:l1≠l3:=fun e=>by
  have:=z.no;rw [<- e,x.own] at this;cases this
 have n3:s.h l3=none:=x.ext.none z.no;refine aa.use (PN (ha.ext U) (fun p hp=>(hL p hp).ext U) hn (by omega)) ?_;rintro v5 s6 W w6;have X:=xu L;generalize L.flatMap Prod.snd=b at W X ⊢;refine ⟨_,(W.sl bS).cj aL _,?_⟩;refine wG w6 W (by simp) 128 (by omega) fun v11 dw B Y a9=>?_;refine ⟨_,(B.sl bS).cj aL _,by decide,by decide,?_⟩;have a':Il b.length<64:=by unfold Il;omega
 have Z:(b++[(128:Int)]).length=b.length+1:=by simp
 rw [Z,TM _ (by omega)];refine PV Y B (by simp) (Il b.length) (by simp;omega) fun ba gr ab ad=>?_;have bb:=KM b;have bc:=Rf b;refine ⟨fun vs s'=>∃ v,vs=[v]/\yS s4 s' v (rR b)/\aM s',?_,?_⟩
 ·rintro bd eC ⟨v,hv,c,ae⟩;simp only [List.cons.injEq,and_true] at hv;subst hv;refine ⟨fun vs s'=>Ext s s'/\aM s'/\Am.Own s' l1 ((vT st (rR b) ((rR b).length / 64)).map (.int .u32))/\Am.Own s' l3 ((List.replicate 32 (0:Int)).map (.int .u8)),?_,?_⟩
  ·rintro fN ⟨al,am,C,an⟩;generalize hS:vT st (rR b) ((rR b).length / 64)=S at C;have be:S.length=72:=by rw [<- hS,yw,y]
   refine ⟨fun m vs s'=>∃ i:Nat,vs=[.int .i64 (i:Nat)]/\i<=32/\m=32 - i/\Ext s s'/\aM s'/\Am.Own s' l1 (S.map (.int .u32))/\Am.Own s' l3 (((List.range i).map (Te S)++List.replicate (32 - i) 0).map (.int .u8)),32,⟨0,rfl,by omega,rfl,al,am,C,by simpa using an⟩,?_⟩;rintro m bh dM ⟨i,hi,h6,rfl,D,F,G,d⟩;simp only [List.cons.injEq,AV.int.injEq,true_and,and_true] at hi;subst hi;refine af.dec (fun ao=>?_) (fun ar=>?_)
   ·have hd:IntKind.wrap .i64 (Int.tdiv (i:Int) 4)=((i / 4:Nat):Int):=by
     rw [Int.tdiv_eq_ediv_of_nonneg (by omega),aW (by omega)];omega
    have ht:Int.tmod (i:Int) 4=((i % 4:Nat):Int):=by rw [Int.tmod_eq_emod_of_nonneg (by omega)];omega
    have hr:av dM l1 (0+((i / 4:Nat):Int).toNat*1)=some (.int .u32 (S.getD (i / 4) 0)):=G.at.Pg (by omega) (by simp;omega);rw [hd];refine ⟨by decide,_,_,Qm (by omega),_,hr,by decide,?_,_,_,WB (by omega),bz.int F d (i:=i) (by simp;omega) (by simp) fun mP aw a0 H=>⟨32 - (i+1),by omega,i+1,by rw [AL (by omega)],by omega,rfl,Ext.wr D n3 H,a0,G.mut H (by simpa using A),?_⟩⟩
    ·rw [ht,aW (n:=8*((i % 4:Nat):Int)) (by omega),aW (by omega)];omega
    ·rw [<- TN (Te S) (by omega)];exact aw
   ·obtain rfl:i=32:=by omega
    simp only [Nat.sub_self,List.replicate_zero,List.append_nil] at d;have hl:(((List.range 32).map (Te S)).map (AV.int .u8)).length=32:=by simp
    refine ⟨_,d.at.aC (by omega),?_⟩;rw [List.drop_zero,List.take_of_length_le (by omega)];refine ⟨⟨b_ _ _,by rw [hl]⟩,bz.own F d (by omega) fun bi P=>?_⟩;have hP:=P.at;rw [dB (by omega)] at hP;refine ⟨_,At.aC ⟨_,_,hP⟩ (by omega),?_,Ext.wr D n3 P.mut⟩;rw [List.drop_zero,List.take_of_length_le (by omega),Cy,hS,UP]
  ·refine ⟨fun m vs s'=>∃ (k:Nat) (v:AV),vs=[v]/\64*k<=(rR b).length/\m=(rR b).length / 64 - k/\Ext s s'/\aM s'/\gy s' v ((rR b).drop (64*k))/\Am.Own s' l1 ((vT st (rR b) k).map (.int .u32))/\Am.Own s' l3 ((List.replicate 32 (0:Int)).map (.int .u8)),(rR b).length / 64,⟨0,_,rfl,by omega,rfl,U.trans c.ew.ext,ae,by simpa using c.sl bS,o1.ext c.ew.ext,o3.ext c.ew.ext⟩,?_⟩;rintro m bj bk ⟨k,v,hv,hk,rfl,I,a1,j,l,J⟩;simp only [List.cons.injEq,and_true] at hv;subst hv;have bl:((rR b).drop (64*k)).length=(rR b).length - 64*k:=List.length_drop;refine ⟨_,j.cj aL _,af.dec (fun K=>?_) (fun hle=>?_)⟩
   ·have a2:(rR b).drop (64*k)≠[]:=fun h=>by rw [h] at K;simp at K
    have a3:=j.Rg a2;obtain ⟨v',oQ,M⟩:=j.upto bS aL er a3 (i:=64) (by omega) .i64;refine ⟨_,oQ,?_⟩;have o:(((rR b).drop (64*k)).take 64).length=64:=by rw [List.length_take];omega
    refine aa.use (RW l (by rw [yw,y]) M (M.Rg fun h=>by rw [h] at o;simp at o) o) ?_;rintro bm bo ⟨rfl,w,a4⟩ a5;have a6:=PW (by decide) j l w;obtain ⟨v2,a7,O⟩:=a6.rest bS aL er (i:=64) (by omega) .i64;refine ⟨rfl,_,a7,(rR b).length / 64 - (k+1),by omega,k+1,v2,rfl,by omega,rfl,Ext.wr I x.no w,a5,?_,?_,J.mut w (by simpa using Ne.symm A)⟩
    ·rw [List.drop_drop] at O;rw [show 64*(k+1)=64*k+64 by omega];exact O
    ·rw [vT];exact a4
   ·have:(rR b).length / 64=k:=by omega
    exact ⟨I,a1,by rw [this];exact l,J⟩
 ·refine ⟨fun m vs s'=>∃ (i:Nat) (v:AV),vs=[v,.int .i64 (i:Nat)]/\i<=8/\m=8 - i/\aM s'/\yS s4 s' v (b++[128]++List.replicate (Il b.length) 0++(List.range i).map (UO b.length)),8,⟨0,_,rfl,by omega,rfl,ad,by simpa using ab⟩,?_⟩;rintro m a8 bs bx ⟨i,v,hi,h6,rfl,Q,R⟩;simp only [List.cons.injEq,AV.int.injEq,true_and,and_true] at hi;obtain ⟨rfl,rfl⟩:=hi;refine af.dec (fun ao=>?_) (fun ar=>?_)
  ·refine ⟨by rw [aW (n:=8*(i:Int)) (by omega),aW (by omega)];omega,?_⟩;refine wG Q R (by simp) (UO b.length i) (by simp;omega) fun v' s' g' w' _=>⟨8 - (i+1),by omega,i+1,v',by rw [AL (by omega)],by omega,rfl,w',?_⟩;rw [List.range_succ,List.map_append,<- List.append_assoc];exact g'
  ·obtain rfl:i=8:=by omega
   exact ⟨a8,rfl,R,Q⟩
end Go.Proofs.YtohgmogbabkkeaaGreat
end

section
namespace Go.Proofs.YtohgmogbabkkeaaGreat
open Go.Am Go.au Go.aB Go.bM
theorem CC:Bn T eG aq 1 24:=⟨nC,qk,Pj,⟨_,_,EI,rfl,rfl⟩,by decide,by decide⟩
theorem We {l:Nat} {i:Int} (h:0<=i/\i<64):ag T fY (.ptr (some (l,0))) (.int .i64 i)=some (.ptr (some (l,0+i.toNat*1))):=ua rF er h
def AN (f:Int->Int) (K:List Int) (i:Nat):List Int:=(K.take i).map f++K.drop i
theorem AP (f:Int->Int) (K:List Int) (i:Nat):(AN f K i).length=K.length:=by simp [AN];omega
theorem OD (f:Int->Int) {K:List Int} {i:Nat} (h:i<K.length):(AN f K i).getD i 0=K.getD i 0:=by
 rw [AN,List.getD_eq_getElem?_getD,List.getD_eq_getElem?_getD,List.getElem?_append_right (by simp;omega)];simp [Nat.min_eq_left (Nat.le_of_lt h)]
theorem LV (f:Int->Int) {K:List Int} {i:Nat} (h:i<K.length):(AN f K i).set i (f (K.getD i 0))=AN f K (i+1):=by
 have hd:=List.drop_eq_getElem_cons h;have b:K.getD i 0=K[i]:=by simp [List.getD_eq_getElem?_getD,List.getElem?_eq_getElem h]
 have c:((K.take i).map f).length=i:=by simp;omega
 rw [AN,AN,List.set_append,if_neg (by omega),c,Nat.sub_self,hd,List.set_cons_zero,List.take_add_one,List.getElem?_eq_getElem h,Option.toList_some,List.map_append,List.append_assoc,b];rfl
theorem RY (f:Int->Int) (K:List Int):AN f K K.length=K.map f:=by simp [AN]
theorem TO {k:IntKind} (sec:List Int) (h:sec.length<=64):qe ((List.replicate 64 (0:Int)).map (AV.int k)) 0 (sec.map (AV.int k))=(sec++List.replicate (64 - sec.length) 0).map (AV.int k):=by
 apply List.ext_getElem?;intro j;rw [jH _ _ _ _ (by simp;omega)];simp only [List.length_map,Nat.zero_add,Nat.zero_le,true_and,Nat.sub_zero,List.map_append];by_cases hj:j<sec.length
 ·rw [if_pos hj,List.getElem?_append_left (by simpa using hj)]
 ·rw [if_neg hj,List.getElem?_append_right (by simpa using hj)];simp only [List.getElem?_map,List.getElem?_replicate,List.length_map];by_cases h2:j<64
  ·rw [if_pos h2,if_pos (by omega)]
  ·rw [if_neg h2,if_neg (by omega)]
theorem kG (l:List Int):l.flatMap pK=l.map (AV.int .u8):=by
 induction l with
 | nil=>rfl
 | cons x xs b=>rw [List.flatMap_cons,b];rfl
theorem RZ {s:AS} (c:aM s) {l:Nat} (d:Am.Own s l ((List.replicate 64 (0:Int)).map (.int .u8))) {v:AV} {sec:List Int} (hs:gy s v sec) (i:sec.length<=64) {K:AV->AS->Prop}
  (j:∀ v' s',Am.Own s' l ((sec++List.replicate (64 - sec.length) 0).map (.int .u8))->aM s'->bD [l] s s'->K v' s'):iF (qm T aq (.slc (some (l,0)) 64 64 true) v s) K:=by
 obtain ⟨b,hlen⟩:=bX.src gw hs;have e:qm T aq (.slc (some (l,0)) 64 64 true) v s=if sec.flatMap pK=[] then some (.int .i64 ((min sec.length 64:Nat):Int),s) else (Am.cR s l 0 (sec.flatMap pK)).map fun s'=>(.int .i64 ((min sec.length 64:Nat):Int),s'):=by
  simp only [qm,aL,er,Option.bind_some,hlen,show CG (AV.slc (some (l,0)) 64 64 true)=some 64 from rfl,Nat.min_eq_left i,b]
 rw [kG] at e;by_cases k:sec=[]
 ·subst k;simp only [List.map_nil,if_true] at e;exact ⟨_,_,e,j _ _ (by simpa using d) c (bD.refl _ _)⟩
 ·rw [if_neg (by simpa using k)] at e;obtain ⟨s',m,h2⟩:=bz.own (K:=fun s'=>Am.Own s' l ((sec++List.replicate (64 - sec.length) 0).map (.int .u8))/\aM s'/\bD [l] s s') (vs:=sec.map (AV.int .u8)) (o:=0) c d (by simp;omega) (fun s' P=>⟨by have:=P.at;rw [TO _ i] at this;exact this,P.wf,P.mut⟩);rw [m] at e;exact ⟨_,_,e,j _ _ h2.1 h2.2.1 h2.2.2⟩
theorem LW (sec:List Int) (h:sec.length<=64) (m:Int):(vU sec m).length=64:=by simp [vU];omega
theorem OF {a b:AV} (c:a.one=true) (hb:b.one=true):cV T eG 2 [(0,a),(1,b)]=some [a,b]:=by
 have e1:∀ v:AV,v.one=true->bJ v=some [v]:=fun v hv=>by cases v <;> first | rfl | cases hv
 simp only [cV,nC,qk,EI,Option.bind_some,e1 _ c,e1 _ hb,iZ,e1 (AV.slc none 0 0 true) rfl];rfl
set_option maxRecDepth 100000 in
theorem TP {s:AS} {sv:AV} {sec:List Int} (hs:gy s sv sec) (hl:sec.length<=64) {a:AV} {L:List (AV×List Int)} (ha:Sl VE 1 s a L) (hL:∀ p∈L,gy s p.1 p.2) (hn:L.length<=2 ^ 10) (hb:qb L<=2 ^ 16) :
  aa Tryz.prog yy [sv,a] s fun r s'=>r=.agg ((zM sec (L.flatMap Prod.snd)).map (.int .u8))/\Ext s s':=by
 refine aa.pre fun hw=>Nb _ _ _ _ (ak.intro hw rfl fun l1 s2 F2=>?_);refine aa.use (RT _) ?_;rintro v3 s4 ⟨rfl,e4⟩ w4;have A:rQ.length=72:=qv 64;refine ⟨_,rfl,k_ w4 (by simp [A]) (by simp) (b_ _ _) fun W s8 X=>?_⟩;have e8:=(F2.ext.trans e4).trans X.ext;have o1:=(F2.own.ext e4).ext X.ext;refine ⟨fun vs s'=>vs=[sv]/\s'=s8,?_,⟨_,(hs.ext e8).cj aL _,af.no (by rw [decide_eq_false_iff_not];omega) ⟨rfl,rfl⟩⟩⟩;rintro v10 cb ⟨hv,rfl⟩;simp only [List.cons.injEq,and_true] at hv;subst hv;refine ak.intro X.wf rfl fun qQ bQ d=>ak.intro d.wf rfl fun lq gr j=>⟨_,m_ rF er (by decide),?_⟩;have Z:=(e8.trans d.ext).trans j.ext;have a4:Am.Own gr qQ ((List.replicate 64 (0:Int)).map (.int .u8)):=((AM .u8 64) ▸ (d.own:Am.Own bQ qQ (List.replicate 64 (AV.int .u8 0)))).ext j.ext;have a5:Am.Own gr lq ((List.replicate 64 (0:Int)).map (.int .u8)):=(AM .u8 64) ▸ (j.own:Am.Own gr lq (List.replicate 64 (AV.int .u8 0)));have ab:s.h qQ=none:=e8.none d.no;have ad:s.h lq=none:=(e8.trans d.ext).none j.no;have d1:qQ≠lq:=fun e=>by
  have:=j.no;rw [<- e,d.own] at this;cases this
 have d6:W≠qQ:=fun e=>by
  have:=d.no;rw [<- e,X.own] at this;cases this
 have d7:W≠lq:=fun e=>by
  have:=j.no;rw [<- e,X.own.ext d.ext] at this;cases this
 have d8:l1≠qQ:=fun e=>by
  have:=d.no;rw [<- e,o1] at this;cases this
 have d9:l1≠lq:=fun e=>by
  have:=j.no;rw [<- e,o1.ext d.ext] at this;cases this
 refine RZ j.wf a4 (hs.ext Z) hl fun cc eC I a6 C=>?_;generalize hK:sec++List.replicate (64 - sec.length) 0=K at I;have J:K.length=64:=by rw [<- hK];simp;omega
 have a7:(K.map (AV.int .u8)).length=64:=by simp [J]
 refine ⟨_,I.at.aC (by omega),?_⟩;rw [List.drop_zero,List.take_of_length_le (by omega)];refine ⟨⟨b_ _ _,by rw [a7]⟩,bz.own a6 (a5.mut C (by simpa using Ne.symm d1)) (by simp [J]) fun fN y=>?_⟩;have a8:Am.Own fN lq (K.map (.int .u8)):=by
  have:=y.at;rw [dB (by simp [J])] at this;exact this
 have a9:Ext s fN:=Ext.wr (Ext.wr Z ab C) ad y.mut;have a':Am.Own fN W (rQ.map (.int .u32)):=(((X.own.ext d.ext).ext j.ext).mut C (by simpa using d6)).mut y.mut (by simpa using d7);have ba:=(((o1.ext d.ext).ext j.ext).mut C (by simpa using d8)).mut y.mut (by simpa using d9);refine ⟨fun vs s'=>Ext s s'/\aM s'/\Am.Own s' qQ ((vU sec 54).map (.int .u8))/\Am.Own s' lq ((vU sec 92).map (.int .u8))/\Am.Own s' W (rQ.map (.int .u32))/\Am.Own s' l1 (List.replicate 32 (.int .u8 0)),?_,?_⟩
 ·rintro gh ⟨M,cd,z,B,p6,p1⟩;have k:=LW sec hl 54;have n:=LW sec hl 92;have ae:∀ s',Ext gh s'->aC s' W 0 72=some (rQ.map (.int .u32)):=fun s' e=>by
   rw [(p6.ext e).at.aC (by simp [A]),List.drop_zero,List.take_of_length_le (by simp [A])]
  have al:∀ s',Ext gh s'->gy s' (.slc (some (qQ,0)) 64 64 true) (vU sec 54):=fun s' e=>bX.mk (z.ext e).at (by rw [kG,k];simp [k]) (by rw [kG,List.drop_zero,List.take_of_length_le (by simp [k])]) |> (k ▸ ·);have am:∀ s',Ext gh s'->gy s' (.slc (some (lq,0)) 64 64 true) (vU sec 92):=fun s' e=>bX.mk (B.ext e).at (by rw [kG,n];simp [n]) (by rw [kG,List.drop_zero,List.take_of_length_le (by simp [n])]) |> (n ▸ ·);refine ⟨fun q _ v s'=>(q=2->∃ l,v=.slc (some (l,0)) 1 1 true/\At s' l [.slc (some (qQ,0)) 64 64 true])/\(q=4->Sl VE 1 s' v ((.slc (some (qQ,0)) 64 64 true,vU sec 54)::L))/\(q=6->∃ l,v=.ptr (some (l,0))/\Am.Own s' l (List.replicate 32 (.int .u8 0))/\gh.h l=none),fun q _ v=>(q=5->v=.agg ((Cy rQ (vU sec 54++L.flatMap Prod.snd)).map (.int .u8)))/\(q=6->∃ l,v=.ptr (some (l,0))),?_,_,ae _ (Ext.refl _),_,m_ rF er (by decide),fun dM ce bb _=>⟨_,Kx CC rfl rfl,ak.intro bb rfl fun bc cf F=>⟨F.ext,⟨(fun _=>⟨bc,rfl,F.own.at⟩),(fun h=>by cases h),(fun h=>by cases h)⟩,(fun h=>by cases h),(fun h=>by cases h)⟩⟩,⟨.bad,(fun h=>by cases h),(fun h=>by cases h)⟩,fun ch _=>⟨fun ci bd be O=>?_,⟨.bad,(fun h=>by cases h),(fun h=>by cases h)⟩,fun ck _=>⟨fun j8 an cl O=>?_,⟨_,(fun _=>rfl),(fun h=>by cases h)⟩,fun cm ao=>?_⟩⟩⟩
  ·rintro q ks v s' s'' e ⟨h1,h2,h3⟩;refine ⟨fun Q=>?_,fun Q=>(h2 Q).ext e,fun Q=>?_⟩
   ·obtain ⟨l,a,b⟩:=h1 Q;exact ⟨l,a,b.ext e⟩
   ·obtain ⟨l,a,b,c⟩:=h3 Q;exact ⟨l,a,b.ext e,c⟩
  ·obtain ⟨l,rfl,R⟩:=O.1.1 rfl;refine Tf (f:=VE) CC Jz be (x:=(.slc (some (qQ,0)) 64 64 true,vU sec 54)) R (ha.ext (M.trans bd)) (by omega) fun cn cp bh cr bi=>⟨bi,⟨(fun h=>by cases h),(fun _=>bh),(fun h=>by cases h)⟩,(fun h=>by cases h),(fun h=>by cases h)⟩
  ·refine (OC A (O.2.1.2.1 rfl) ?_ (by simp;omega) (by simp [qb,k] at hb ⊢;omega)).mono ?_
   ·intro p Y;rcases List.mem_cons.1 Y with rfl | Y
    ·exact al _ an
    ·exact (hL p Y).ext (M.trans an)
   ·rintro v s' ⟨rfl,e⟩;exact ⟨_,rfl,e,⟨(fun h=>by cases h),(fun h=>by cases h),(fun h=>by cases h)⟩,(fun _=>rfl),(fun h=>by cases h)⟩
  ·obtain rfl:=ao.1 rfl;generalize hH:Cy rQ (vU sec 54++L.flatMap Prod.snd)=H1;have w:H1.length=32:=by rw [<- hH,mZ]
   refine ⟨_,rfl,fun cs bj bk _=>ak.intro bk rfl fun o cu F=>⟨F.ext,⟨(fun h=>by cases h),(fun h=>by cases h),(fun _=>⟨o,rfl,F.own,bj.none F.no⟩)⟩,(fun h=>by cases h),(fun _=>⟨o,rfl⟩)⟩,⟨.ptr (some (0,0)),(fun h=>by cases h),(fun _=>⟨0,rfl⟩)⟩,fun cv ar=>?_⟩;obtain ⟨o,rfl⟩:=ar.2 rfl;refine ⟨_,rfl,fun cw bl bm O=>?_⟩;obtain ⟨l',aw,bo,bs⟩:=O.2.2.2.1.2.2 rfl;simp only [AV.ptr.injEq,Option.some.injEq,Prod.mk.injEq,and_true] at aw;subst aw;refine ⟨⟨b_ _ _,by simp [w]⟩,bz.own bm bo (by simp [w]) fun wu a0=>?_⟩;have bx:Am.Own wu o (H1.map (.int .u8)):=by
    have:=a0.at;rw [dB (by simp [w])] at this;exact this
   have S:Ext gh wu:=Ext.wr bl bs a0.mut;refine ⟨fun q _ v s'=>q=3->∃ l,v=.slc (some (l,0)) 2 2 true/\At s' l [.slc (some (lq,0)) 64 64 true,.slc (some (o,0)) 32 32 true],fun _ _ _=>True,?_,_,ae _ S,_,m_ rF er (by decide),_,m_ Iq er (by decide),fun Hj cx b0 _=>⟨_,OF rfl rfl,ak.intro b0 rfl fun b1 cy F=>⟨F.ext,(fun _=>⟨b1,rfl,F.own.at⟩),trivial⟩⟩,⟨.bad,trivial⟩,fun cz _ b2 U cA O=>?_⟩
   ·rintro q ks v s' s'' e h Q;obtain ⟨l,a,b⟩:=h Q;exact ⟨l,a,b.ext e⟩
   ·obtain ⟨l,rfl,R⟩:=O.1 rfl;have hh:gy b2 (.slc (some (o,0)) 32 32 true) H1:=bX.mk (bx.ext U).at (by rw [kG];simp [w]) (by rw [kG,List.drop_zero,List.take_of_length_le (by simp [w])]) |> (w ▸ ·);refine aa.use (OC (L:=[(.slc (some (lq,0)) 64 64 true,vU sec 92),(.slc (some (o,0)) 32 32 true,H1)]) A (bX.mk R rfl rfl) ?_ (by simp) (by simp [qb,n,w])) ?_
    ·intro p Y;simp only [List.mem_cons,List.not_mem_nil,or_false] at Y;rcases Y with rfl | rfl
     ·exact am _ (S.trans U)
     ·exact hh
    ·rintro cB cC ⟨rfl,b3⟩ b4;have a1:=(S.trans U).trans b3;have hc:([(AV.slc (some (lq,0)) 64 64 true,vU sec 92),(AV.slc (some (o,0)) 32 32 true,H1)].flatMap Prod.snd)=vU sec 92++H1:=by simp
     rw [hc];refine ⟨_,rfl,⟨b_ _ _,by simp [mZ]⟩,bz.own b4 (p1.ext a1) (by simp [mZ]) fun c0 P=>?_⟩;have hP:=P.at;rw [dB (by simp [mZ])] at hP;refine ⟨_,At.aC ⟨_,_,hP⟩ (by simp [mZ]),?_,Ext.wr (M.trans a1) F2.no P.mut⟩;rw [List.drop_zero,List.take_of_length_le (by simp [mZ]),zM,hH]
 ·refine ⟨fun m vs s'=>∃ i:Nat,vs=[.int .i64 (i:Nat)]/\i<=64/\m=64 - i/\Ext s s'/\aM s'/\Am.Own s' qQ ((AN (fun x=>vQ .u8 x 54) K i).map (.int .u8))/\Am.Own s' lq ((AN (fun x=>vQ .u8 x 92) K i).map (.int .u8))/\Am.Own s' W (rQ.map (.int .u32))/\Am.Own s' l1 (List.replicate 32 (.int .u8 0)),64,⟨0,rfl,by omega,rfl,a9,y.wf,by simpa [AN] using I.mut y.mut (by simpa using d1),by simpa [AN] using a8,a',ba⟩,?_⟩;rintro m c1 b5 ⟨i,hi,h6,rfl,a2,a3,z,B,p6,p1⟩;simp only [List.cons.injEq,AV.int.injEq,true_and,and_true] at hi;subst hi;refine af.dec (fun c2=>?_) (fun c3=>?_)
  ·have hr:av b5 qQ (0+((i:Nat):Int).toNat*1)=some (.int .u8 (K.getD i 0)):=by rw [<- OD (fun x=>vQ .u8 x 54) (by omega)];exact z.at.Pg (by rw [AP];omega) (by simp)
   refine ⟨_,_,We (by omega),_,hr,_,rfl,_,_,We (by omega),bz.int a3 z (i:=i) (by rw [AP];omega) (by simp) fun b6 b7 b8 D=>?_⟩;have H:=B.mut D (by simpa using Ne.symm d1);have b9:av b6 lq (0+((i:Nat):Int).toNat*1)=some (.int .u8 (K.getD i 0)):=by rw [<- OD (fun x=>vQ .u8 x 92) (by omega)];exact H.at.Pg (by rw [AP];omega) (by simp)
   refine ⟨_,_,We (by omega),_,b9,_,rfl,_,_,We (by omega),bz.int b8 H (i:=i) (by rw [AP];omega) (by simp) fun c4 b' ca G=>⟨64 - (i+1),by omega,i+1,by rw [AL (by omega)],by omega,rfl,Ext.wr (Ext.wr a2 ab D) ad G,ca,?_,?_,(p6.mut D (by simpa using d6)).mut G (by simpa using d7),(p1.mut D (by simpa using d8)).mut G (by simpa using d9)⟩⟩
   ·rw [<- LV (fun x=>vQ .u8 x 54) (by omega)];exact b7.mut G (by simpa using d1)
   ·rw [<- LV (fun x=>vQ .u8 x 92) (by omega)];exact b'
  ·obtain rfl:i=K.length:=by omega
   rw [RY] at z B;refine ⟨a2,a3,?_,?_,p6,p1⟩
   ·rw [vU,hK];exact z
   ·rw [vU,hK];exact B
theorem xor_self (n:Int):vQ .u8 n n=0:=by
 unfold vQ;rw [BitVec.xor_self];rfl
theorem NI {H:List Int} (x:H.length=32) (s:AS):aa Tryz.prog vX [.agg (H.map (.int .u8)),.agg (H.map (.int .u8))] s fun r s'=>r=.bool true/\Ext s s':=by
 refine aa.pre fun d=>K7 _ _ _ _ ⟨b_ _ _,ak.intro d rfl fun l1 s2 b=>⟨b_ _ _,ak.intro b.wf rfl fun l3 s4 c=>?_⟩⟩;have e:=b.ext.trans c.ext;refine ⟨fun vs s'=>vs=[.int .u8 0]/\s'=s4,?_,fun m vs s'=>∃ i:Nat,vs=[.int .u8 0,.int .i64 (i:Nat)]/\i<=32/\m=32 - i/\s'=s4,32,⟨0,rfl,by omega,rfl,rfl⟩,?_⟩
 ·rintro n s7 ⟨h,rfl⟩;simp only [List.cons.injEq,AV.int.injEq,true_and,and_true] at h;subst h;exact ⟨rfl,e⟩
 ·rintro m j k bQ ⟨i,hi,y,rfl,rfl⟩;simp only [List.cons.injEq,AV.int.injEq,true_and,and_true] at hi;obtain ⟨rfl,rfl⟩:=hi;refine af.dec (fun l=>?_) (fun o=>⟨rfl,rfl⟩);have p:av bQ l1 (0+((i:Nat):Int).toNat*1)=some (.int .u8 (H.getD i 0)):=(b.own.ext c.ext).at.Pg (by omega) (by simp);have h3:av bQ l3 (0+((i:Nat):Int).toNat*1)=some (.int .u8 (H.getD i 0)):=c.own.at.Pg (by omega) (by simp);have w:bB .xor .u8 (H.getD i 0) (H.getD i 0)=some (.int .u8 0):=congrArg (fun n=>some (AV.int .u8 n)) (xor_self _);refine ⟨_,_,WB (by omega),_,p,_,_,WB (by omega),_,h3,_,w,0,rfl,32 - (i+1),by omega,i+1,by rw [AL (by omega)],by omega,rfl,rfl⟩
end Go.Proofs.YtohgmogbabkkeaaGreat
end

section
namespace Go.Proofs.YtohgmogbabkkeaaGreat
open Go.Am Go.au Go.aB
theorem Hz {α:Type} {f:α->List Int} {n:Nat} (h:∀ x,(f x).length=n):∀ l:List α,(l.flatMap f).length=l.length*n
 | []=>by simp
 | a::l=>by rw [List.flatMap_cons,List.length_append,h,Hz h l,List.length_cons,Nat.add_mul];omega
theorem NJ {s:AS} (b:aM s) (t:List UInt8) {K:AV->AS->Prop} (d:∀ v s',gy s' v (LM t)->Ext s s'->aM s'->K v s'):iF (cN T cE aq (.str t) s) K:=by
 have Fr:=b.new (o:=.cells (t.map fun c=>.int .u8 c.toNat) 1 false) rfl;refine ⟨.slc (some (s.nl,0)) t.length t.length false,s.new (.cells (t.map fun c=>.int .u8 c.toNat) 1 false),by simp [cN,qB,aL,zO],d _ _ ?_ Fr.ext Fr.wf⟩;have:=bX.mk (s:=s.new (.cells (t.map fun c=>.int .u8 c.toNat) 1 false)) (la:=s.nl) (o:=0) (n:=t.length) (c:=t.length) (e:=false) (sz:=1) (cs:=(LM t).flatMap pK) ⟨_,_,Fr.at⟩ (by rw [sq,wF]) (by rw [PL,List.drop_zero];exact List.take_of_length_le (by simp)) (Nat.le_refl _);show bX _ _ _ _ (LM t).length;rw [wF];exact this
section
variable {F:List Nat} {s:AS} {p:Nat} {x:aH} {B:Nat}
end
end Go.Proofs.YtohgmogbabkkeaaGreat
end

section
namespace Go.Proofs.YtohgmogbabkkeaaGreat
open Go.Am Go.au Go.aB
theorem yT {n:Int} (h:0<=n) {b:Nat} (hs:b<=64):uH n b=n / 2 ^ b % 256:=by
 unfold uH;rw [IntKind.wrap_u8,Nat.min_eq_left (show b<=IntKind.bits .u64 from hs),Int.fdiv_eq_ediv_of_nonneg _ (Int.le_of_lt (Int.pow_pos (by decide)))]
theorem PX (n:Int) (b:Nat):0<=uH n b/\uH n b<256:=by unfold uH;rw [IntKind.wrap_u8];omega
theorem JB (n:Int) {k i:Nat} (h:i<k):(xq n k)[i]? = some (uH n (8*(k - 1 - i))):=by
 simp [xq,h]
theorem Vf (n:Int) (k:Nat):∀ b∈xq n k,0<=b/\b<256:=by
 intro b hb;obtain ⟨i,_,rfl⟩:=List.mem_map.1 hb;exact PX _ _
end Go.Proofs.YtohgmogbabkkeaaGreat
end

section
set_option maxRecDepth 100000
set_option maxHeartbeats 4000000
namespace Go.Proofs.YtohgmogbabkkeaaGreat
open Go.Am
def LX (a0:AV) (s:AS) (R:AV->AS->Prop):Prop :=
 aa Tryz.prog aS [a0] s fun c s2=>oR (aV T gq [(0,c),(1,.bool true),(2,.bool true)]) fun b=>cH b (ak (.cells b 0 false) s2 fun d e=>R (.ptr (some (d,0))) e)
def LY:QA:=(.seq .leaf (.seq .leaf .leaf))
theorem LZ (a0:AV) (s:AS) (R:AV->AS->Prop) (h:LX a0 s R):aa Tryz.prog ry [a0] s R :=
 aa.q (n:=7) (rs:=[.tmp 2]) (A:=LY) hT bW Tryz.func88 (by kernel_rfl) rfl rfl rfl (by kernel_rfl) (by kernel_rfl) h
def wJ (a0:Option (Nat×Nat)) (s:AS) (R:AV->AS->Prop):Prop :=
 ak (.cells [.int .u64 0,.int .u64 0,.int .u64 0,.int .u64 0,.int .u64 0,.int .u64 0,.int .u64 0,.int .u64 0,.int .u64 0,.int .u64 0,.int .u64 0,.int .u64 0,.int .u64 0,.int .u64 0,.int .u64 0,.int .u64 0] 0 false) s fun l1 s2=>aa Tryz.prog gZ [.ptr a0,.int .i64 128] s2 fun w s4=>∃ p:AV,∃ x:Bool,w=.aQ [p,.bool x]/\(aa Tryz.prog ry [p] s4 fun y s8=>∃ r:Option (Nat×Nat),y=.ptr r/\(ak (.cells [.ptr none] 0 false) s8 fun nU j=>bz (cR j nU 0 [.ptr r]) fun dw=>bA fun c k=>c k [.int .i64 0] dw /\
 ∀ d:Nat,∀ b:Int,∀ lH:AS,c d [.int .i64 b] lH ->
 af (decide ((b:Int)<16))
 (aa Tryz.prog g_ [(.ptr (some (nU,0)))] lH fun l iV=>∃ e:Int,l=.int .u64 e/\(bG (ag T bg (.ptr (some (l1,0))) (.int .i64 b)) fun m n=>bz (cR iV m n [.int .u64 e]) fun tD=>∃ m',m'<d/\c m' [(.int .i64 (IntKind.wrap .i64 (b+1)))] tD))
 (aR (aC lH l1 0 16) fun i=>fm (some 16) i (bz (cR lH l1 0 i) fun dM=>aR (aC dM l1 0 16) fun o=>R (.agg o) dM))))
def wK:QA:=(.seq .leaf (.seq .leaf (.seq .leaf (.seq .leaf (.seq (.seq .leaf (.wrap (.loop [(16,.int .i64)] [(7,7),(16,23)] (.seq .leaf (.seq (.cond .leaf .leaf) (.seq (.wrap (.seq .leaf .leaf)) .leaf)))))) (.seq .leaf .leaf))))))
theorem wL (a0:Option (Nat×Nat)) (s:AS) (R:AV->AS->Prop) (h:wJ a0 s R):aa Tryz.prog ji [.ptr a0] s R :=
 aa.q (n:=25) (rs:=[.cell 2 49]) (A:=wK) hT bW Tryz.func89 (by kernel_rfl) rfl rfl rfl (by kernel_rfl) (by kernel_rfl) h
def wM (a0:Option (Nat×Nat)) (a1:Int) (s:AS) (R:AV->AS->Prop):Prop :=
 bt fun c =>
 (∀ n2:Int,∀ s3:AS,c [.int .i64 n2] s3 ->
 aa Tryz.prog gZ [.ptr a0,.int .i64 n2] s3 fun i j=>∃ e:AV,∃ k:Bool,i=.aQ [e,.bool k]/\(aa Tryz.prog yA [e] j fun l m=>∃ b:Int,∃ d:Int,l=.aQ [.int .u64 b,.int .i64 d]/\(R (.int .u64 b) m))) /\
 (af (decide ((a1:Int)<1)) (c [(.int .i64 (-1))] s) (af (decide ((a1:Int)>8))
 (c [(.int .i64 (-1))] s)
 (c [.int .i64 a1] s)))
def wN:QA:=(.seq .leaf (.join [(1,.int .i64)] [(1,1),(9,14)] (.seq .leaf (.cond .leaf .leaf)) (.seq .leaf (.seq .leaf (.seq .leaf .leaf)))))
theorem wO (a0:Option (Nat×Nat)) (a1:Int) (s:AS) (R:AV->AS->Prop) (h:wM a0 a1 s R):aa Tryz.prog jl [.ptr a0,.int .i64 a1] s R :=
 aa.q (n:=27) (rs:=[.tmp 4]) (A:=wN) hT bW Tryz.func165 (by kernel_rfl) rfl rfl rfl (by kernel_rfl) (by kernel_rfl) h
def wP (a0:Option (Nat×Nat)) (s:AS) (R:AV->AS->Prop):Prop :=
 uT (iY T 100 uW (.ptr a0) (.ptr none)) fun b=>af b (R (.bool true) s) (ai a0 fun c d=>Oc (av s c (d+1)) fun e=>R (.bool (!e)) s)
def wQ:QA:=(.seq .leaf (.seq .leaf .leaf))
theorem wR (a0:Option (Nat×Nat)) (s:AS) (R:AV->AS->Prop) (h:wP a0 s R):aa Tryz.prog jq [.ptr a0] s R :=
 aa.q (n:=12) (rs:=[.tmp 2]) (A:=wQ) hT bW Tryz.func217 (by kernel_rfl) rfl rfl rfl (by kernel_rfl) (by kernel_rfl) h
def yU (a0:Option (Nat×Nat)) (a1:Int) (s:AS) (R:AV->AS->Prop):Prop :=
 aa Tryz.prog jq [.ptr a0] s fun B s2=>∃ y:Bool,B=.bool y/\(af y
 (R (.aQ [.slc none 0 0 true,.bool false]) s2)
 (bt fun b =>
 (∀ z:Bool,∀ s6:AS,b [.bool z] s6 ->
 af z
 (oR (aV T gq [(2,.bool true)]) fun A=>ai a0 fun C D=>fm (some 3) A (bz (cR s6 C D A) fun c=>R (.aQ [.slc none 0 0 true,.bool false]) c))
 (ai a0 fun d e=>dJ (av s6 d e) fun i=>dJ (aZ T aq i none (some (.int .i64 a1)) (some (.int .i64 a1))) fun j=>ai a0 fun k l=>dJ (av s6 k l) fun m=>dJ (aZ T aq m (some (.int .i64 a1)) none none) fun n=>ai a0 fun zl o=>fG T aq s6 zl o n fun gu=>R (.aQ [j,.bool true]) gu)) /\
 (af (decide ((a1:Int)<0)) (b [.bool true] s2) (ai a0 fun p r=>dJ (av s2 p r) fun w=>aU .i64 (aO T aq w s2) fun x=>b [(.bool (decide ((a1:Int)>x)))] s2))))
def yV:QA:=(.seq .leaf (.seq (.wrap (.seq .leaf (.cond (.seq .leaf .leaf) (.join [(10,.bool)] [(10,21)] .leaf (.cond (.seq .leaf (.seq .leaf .leaf)) .leaf))))) (.seq .leaf (.seq .leaf (.seq .leaf .leaf)))))
theorem yW (a0:Option (Nat×Nat)) (a1:Int) (s:AS) (R:AV->AS->Prop) (h:yU a0 a1 s R):aa Tryz.prog gZ [.ptr a0,.int .i64 a1] s R :=
 aa.q (n:=42) (rs:=[.tmp 4,.tmp 5]) (A:=yV) hT bW Tryz.func163 (by kernel_rfl) rfl rfl rfl (by kernel_rfl) (by kernel_rfl) h
def uI (c0:Option (Nat×Nat)) (s:AS) (R:AV->AS->Prop):Prop :=
 ai c0 fun l1 o2=>pM (av s l1 o2) fun c=>aa Tryz.prog jl [.ptr c,.int .i64 8] s fun d e=>∃ b:Int,d=.int .u64 b/\(R (.int .u64 b) e)
def uJ:QA:=(.seq .leaf (.seq .leaf .leaf))
theorem uK (c0:Option (Nat×Nat)) (s:AS) (R:AV->AS->Prop) (h:uI c0 s R):aa Tryz.prog g_ [.ptr c0] s R :=
 aa.q (n:=4) (rs:=[.tmp 1]) (A:=uJ) hT bW Tryz.func164 (by kernel_rfl) rfl rfl rfl (by kernel_rfl) (by kernel_rfl) h
def NK (a0:AV) (s:AS) (R:AV->AS->Prop):Prop :=
 bt fun e =>
 (∀ o:Bool,∀ s3:AS,e [.bool o] s3 ->
 af o
 (R (.aQ [.int .u64 0,.int .i64 2]) s3)
 (bt fun p =>
 (∀ r:Int,∀ s6:AS,p [.int .u64 r] s6 ->
 R (.aQ [.int .u64 r,.int .i64 0]) s6) /\
 (aU .i64 (aO T aq a0 s3) fun w=>bA fun i x=>i x [.int .u64 0,.int .i64 0] s3 /\
 ∀ d:Nat,∀ c:Int,∀ b:Int,∀ bQ:AS,i d [.int .u64 c,.int .i64 b] bQ ->
 af (decide ((b:Int)<w))
 (bG (ag T aq a0 (.int .i64 b)) fun lq j=>aU .u8 (av bQ lq j) fun k=>NN 8 (aU .u64 (bB .or .u64 (IntKind.wrap .u64 (c*2 ^ min (Int.toNat 8) (IntKind.bits .u64))) (IntKind.wrap .u64 k)) fun l=>∃ m',m'<d/\i m' [.int .u64 l,(.int .i64 (IntKind.wrap .i64 (b+1)))] bQ))
 (p [.int .u64 c] bQ)))) /\
 (aU .i64 (aO T aq a0 s) fun m=>af (decide ((m:Int)<1)) (e [.bool true] s) (aU .i64 (aO T aq a0 s) fun n=>e [(.bool (decide ((n:Int)>8)))] s))
def NL:QA:=(.seq .leaf (.seq (.join [(14,.bool)] [(7,14)] .leaf (.cond (.seq .leaf .leaf) .leaf)) (.seq .leaf (.join [(4,.int .u64)] [(4,4),(6,6),(15,26)] (.seq .leaf (.wrap (.loop [(4,.int .u64),(17,.int .i64)] [(4,4),(6,6),(17,26)] (.seq .leaf (.seq (.cond .leaf .leaf) (.seq (.wrap (.seq .leaf .leaf)) .leaf)))))) (.seq .leaf .leaf)))))
theorem NM (a0:AV) (s:AS) (R:AV->AS->Prop) (h:NK a0 s R):aa Tryz.prog yA [a0] s R :=
 aa.q (n:=28) (rs:=[.tmp 2,.tmp 3]) (A:=NL) hT bW Tryz.func218 (by kernel_rfl) rfl rfl rfl (by kernel_rfl) (by kernel_rfl) h
end Go.Proofs.YtohgmogbabkkeaaGreat
end

section
namespace Go.Proofs.YtohgmogbabkkeaaGreat
open Go.Am Go.au Go.aB
/-! ### numbers of bytes -/
def JP (l:List Int):Prop:=∀ x∈l,0<=x/\x<256
theorem JP.take {l:List Int} (h:JP l) (n:Nat):JP (l.take n):=fun x b=>h x (List.mem_of_mem_take b)
theorem JP.drop {l:List Int} (h:JP l) (n:Nat):JP (l.drop n):=fun x b=>h x (List.mem_of_mem_drop b)
theorem JP.nil:JP []:=by simp [JP]
def B_ (l:List Int):Int:=l.foldl (fun n x=>n*256+x) 0
theorem Ca (l:List Int) (x:Int):B_ (l++[x])=B_ l*256+x:=by simp [B_]
theorem TQ:∀ (l:List Int) (n:Nat),JP l->l.length<=n->0<=B_ l/\B_ l<256 ^ n:=by
 intro l
 induction b:l.length generalizing l with
 | zero =>
  intro n _ _;obtain rfl:=List.length_eq_zero_iff.1 b;exact ⟨by simp [B_],by simp only [B_,List.foldl_nil];exact Int.pow_pos (by decide)⟩
 | succ k c =>
  intro n h j;obtain ⟨m,x,rfl⟩:∃ m x,l=m++[x]:=⟨l.dropLast,l.getLast (by intro e;subst e;simp at b),(List.dropLast_concat_getLast _).symm⟩;have d:m.length=k:=by simpa using b
  obtain ⟨n',rfl⟩:∃ n',n=n'+1:=⟨n - 1,by omega⟩;have:=c m d n' (fun y i=>h y (by simp [i])) (by omega);have o:=h x (by simp);rw [Ca,Int.pow_succ];exact ⟨by omega,by omega⟩
theorem TR {a x:Int} (b:0<=a/\a<256 ^ 7) (c:0<=x/\x<256):bB .or .u64 (IntKind.wrap .u64 (a*2 ^ min (Int.toNat 8) (IntKind.bits .u64))) (IntKind.wrap .u64 x)=some (.int .u64 (a*256+x)):=by
 have e1:(2:Int) ^ min (Int.toNat 8) (IntKind.bits .u64)=256:=by decide
 have d:(256:Int) ^ 7=72057594037927936:=by decide
 rw [d] at b;rw [e1,fy (by omega),fy (by omega)];obtain ⟨A,rfl⟩:=Int.eq_ofNat_of_zero_le b.1;obtain ⟨X,rfl⟩:=Int.eq_ofNat_of_zero_le c.1;have e:(BitVec.ofInt (IntKind.bits .u64) ((A:Int)*256)).toNat=2 ^ 8*A:=by
  rw [BitVec.toNat_ofInt];have:((2 ^ (IntKind.bits .u64):Nat):Int)=18446744073709551616:=by decide
  rw [this];omega
 have h2:(BitVec.ofInt (IntKind.bits .u64) (X:Int)).toNat=X:=by
  rw [BitVec.toNat_ofInt];have:((2 ^ (IntKind.bits .u64):Nat):Int)=18446744073709551616:=by decide
  rw [this];omega
 simp only [bB,BitVec.toNat_or,e,h2];rw [<- Nat.two_pow_add_eq_or_of_lt (show X<2 ^ 8 by omega),fy (by omega)];congr 2;omega
def PY (l:List Int):Int:=if 1<=l.length/\l.length<=8 then B_ l else 0
theorem Vg {s:AS} {v:AV} {l:List Int} (h:gy s v l) (hb:JP l):aa Tryz.prog yA [v] s fun r s'=>s'=s/\∃ c,r=.aQ [.int .u64 (PY l),.int .i64 c]:=by
 refine NM _ _ _ ⟨fun vs s'=>s'=s/\vs=[.bool (decide (¬ (1<=l.length/\l.length<=8)))],?_,_,h.cj aL _,af.dec (fun w=>⟨rfl,?_⟩) (fun w=>⟨_,h.cj aL _,rfl,?_⟩)⟩;rotate_left
 ·rw [decide_eq_true (by omega)]
 ·congr 2;apply decide_eq_decide.2;omega
 rintro b s3 ⟨rfl,j⟩;obtain rfl:b=decide (¬ (1<=l.length/\l.length<=8)):=AV.bool.inj (List.cons.inj j).1;refine af.dec (fun d=>⟨rfl,2,?_⟩) (fun d=>?_)
 ·rw [show PY l=0 from if_neg d]
 have d:1<=l.length/\l.length<=8:=Classical.not_not.1 d;refine ⟨fun vs s'=>s'=s3/\vs=[.int .u64 (B_ l)],?_,_,h.cj aL _,fun m vs s'=>∃ i:Nat,vs=[.int .u64 (B_ (l.take i)),.int .i64 (i:Nat)]/\i<=l.length/\m=l.length - i/\s'=s3,l.length,⟨0,rfl,by omega,rfl,rfl⟩,?_⟩
 ·rintro n s6 ⟨rfl,k⟩;obtain rfl:n=B_ l:=by simpa using k
  exact ⟨rfl,0,by rw [show PY l=B_ l from if_pos d]⟩
 rintro m y z bQ ⟨i,e,hi,rfl,rfl⟩;simp only [List.cons.injEq,AV.int.injEq,true_and,and_true] at e;obtain ⟨rfl,rfl⟩:=e;refine af.dec (fun A=>?_) (fun B=>?_)
 ·obtain ⟨x,p⟩:=cS (l:=l) (i:=i) (by omega);obtain ⟨la,o,C,D⟩:=h.ix (by decide) bS aL er p;have step:=List.take_add_one (l:=l) (i:=i);rw [p,Option.toList_some] at step;have k:=TQ (l.take i) 7 (hb.take i) (by rw [List.length_take];omega);refine ⟨la,o,C _,x,(D _ (Ext.refl _)).1 0 (by decide),by omega,_,TR k (hb x (List.mem_of_getElem? p)),l.length - (i+1),by omega,i+1,?_,by omega,rfl,rfl⟩;rw [step,Ca,aW (by omega)];rfl
 ·rw [List.take_of_length_le (by omega)];exact ⟨rfl,rfl⟩
/-! ### readers,plainly: what is left;none: it has failed -/
abbrev RO:=Option (List Int)
def RO.fit (o:RO) (n:Int):Bool:=match o with
 | some B=>decide (0<=n/\n<=B.length)
 | none=>false
def RO.take (o:RO) (n:Int):List Int:=if o.fit n then (o.getD []).take n.toNat else []
def RO.left (o:RO) (n:Int):RO:=if o.fit n then o.map fun B=>B.drop n.toNat else none
def RO.L0 (o:RO) (k:Int):Int:=PY (o.take k)
def xT (B:RO):Nat->List Int
 | 0=>[]
 | n+1=>RO.L0 B 8::xT (B.left 8) n
def RO.TS (o:RO):List Int:=xT (some (o.take 128)) 16
def RO.In (o:RO):Prop:=∀ B,o=some B->JP B
theorem RO.In.getD {o:RO} (h:o.In):JP (o.getD []):=by
 cases o with
 | none=>exact JP.nil
 | some B=>exact h B rfl
theorem RO.In.take {o:RO} (h:o.In) (n:Int):JP (o.take n):=by
 unfold RO.take;split
 ·exact h.getD.take _
 ·exact JP.nil
theorem RO.In.left {o:RO} (h:o.In) (n:Int):(o.left n).In:=by
 intro B b;unfold RO.left at b;split at b
 ·cases o with
  | none=>cases b
  | some A=>obtain rfl:=Option.some.inj b;exact (h A rfl).drop _
 ·cases b
/-! ### a reader in memory -/
structure iX (s:AS) (p:Nat) (o:RO):Prop where
 WS:o.In
 mem:∃ v,Am.Own s p [v,.bool o.isSome,.bool true]/\gy s v (o.getD [])
def PZ (s:AS) (q:Nat):Prop:=∀ (C:List AV),At s q C->∀ (k:Nat) (x:Int),C[k]? ≠ some (AV.int .u8 x)
theorem PZ.own {s:AS} {q:Nat} {C:List AV} (h:At s q C) (c:∀ v∈C,∀ x,v≠AV.int .u8 x):PZ s q:=by
 intro e d k x b;rw [d.inj h] at b;exact c _ (List.mem_of_getElem? b) x rfl
theorem bX.Xa {s:AS} {v:AV} {n sz:Nat} {cs:List AV} (h:bX s v sz cs n) (x:Int):v≠AV.int .u8 x:=by
 rcases h with ⟨rfl,_⟩ | ⟨a,c,e,rfl,_⟩ <;> exact fun h=>by cases h
theorem gy.Vh {s s':AS} {v:AV} {l:List Int} {L:List Nat} (h:gy s v l) (m:bD L s s') (b:∀ q∈L,PZ s q):gy s' v l :=
 Sl.mut h m bS (by decide) fun q d C e x _ k c i j=>b q d C e k x (by rw [j,<- i];rfl)
section
variable {s s':AS} {p:Nat} {o:RO}
theorem iX.WT (h:iX s p o):PZ s p:=by
 obtain ⟨_,v,c,h2⟩:=h;refine PZ.own c.at fun w b x=>?_;simp only [List.mem_cons,List.not_mem_nil,or_false] at b;rcases b with rfl | rfl | rfl
 ·exact bX.Xa h2 x
 ·exact fun h=>by cases h
 ·exact fun h=>by cases h
theorem iX.there (h:iX s p o):s.h p≠none:=by
 obtain ⟨_,v,b,_⟩:=h;rw [b];simp
theorem iX.mut {L:List Nat} (h:iX s p o) (m:bD L s s') (b:p ∉ L) (c:∀ q∈L,PZ s q):iX s' p o:=by
 obtain ⟨d,v,e,h2⟩:=h;exact ⟨d,v,e.mut m b,h2.Vh m c⟩
theorem iX.ext (h:iX s p o) (e:Ext s s'):iX s' p o:=h.mut (L:=[]) e.mut (by simp) (by simp)
theorem P0 (h:iX s p o):aa Tryz.prog jq [.ptr (some (p,0))] s fun r s'=>r=.bool (!o.isSome)/\s'=s:=by
 obtain ⟨_,v,b,_⟩:=h;exact wR _ _ _ ⟨_,iG CT _,af.no rfl ⟨o.isSome,by rw [b.at.av];rfl,rfl,rfl⟩⟩
theorem Vi:places T gq=some [(0,1),(1,1),(2,1)]:=by kernel_rfl
theorem R1:aV T gq [(2,.bool true)]=some (.agg [.slc none 0 0 true,.bool false,.bool true]):=by kernel_rfl
theorem P1 {w:AV} (b:w.one=true):aV T gq [(0,w),(1,.bool true),(2,.bool true)]=some (.agg [w,.bool true,.bool true]):=by
 rw [qj Vi EK rfl];have d:=mY (pl:=fun i=>[(0,1),(1,1),(2,1)][i]?) (pre:=[]) (mid:=[.slc none 0 0 true]) (post:=[.bool false,.bool false]) (c:=[w]) (i:=0) (sz:=1) (v:=w) (rest:=[(1,.bool true),(2,.bool true)]) rfl (Lp b) rfl rfl;have e1:=mY (pl:=fun i=>[(0,1),(1,1),(2,1)][i]?) (pre:=[w]) (mid:=[.bool false]) (post:=[.bool false]) (c:=[.bool true]) (i:=1) (sz:=1) (v:=.bool true) (rest:=[(2,.bool true)]) rfl rfl rfl rfl;have e2:=mY (pl:=fun i=>[(0,1),(1,1),(2,1)][i]?) (pre:=[w,.bool true]) (mid:=[.bool false]) (post:=[]) (c:=[.bool true]) (i:=2) (sz:=1) (v:=.bool true) (rest:=[]) rfl rfl rfl rfl;exact congrArg (Option.map AV.agg) (d.trans (e1.trans e2))
theorem OG (h:iX s p o) (n:Int):aa Tryz.prog gZ [.ptr (some (p,0)),.int .i64 n] s fun r s'=>bD [p] s s'/\iX s' p (o.left n)/\∃ v,r=.aQ [v,.bool (o.fit n)]/\gy s' v (o.take n):=by
 refine aa.pre fun F=>yW _ _ _ _ ?_;refine aa.use (P0 h) ?_;rintro G s2 ⟨rfl,rfl⟩ w2;obtain ⟨e,v,d,h2⟩:=id h;cases o with
 | none=>exact ⟨_,rfl,af.yes rfl ⟨bD.refl _ _,h,_,rfl,Sl.nil⟩⟩
 | some B =>
  simp only [Option.isSome_some,Option.getD_some] at d h2;refine ⟨_,rfl,af.no rfl ⟨fun vs s'=>s'=s2/\vs=[.bool (!RO.fit (some B) n)],?_,?_⟩⟩;rotate_left
  ·refine af.dec (fun w=>⟨rfl,?_⟩) (fun w=>⟨v,by rw [d.at.av];rfl,_,h2.cj aL _,rfl,?_⟩)
   ·rw [show RO.fit (some B) n=false from decide_eq_false (by omega)];rfl
   ·congr 2;unfold RO.fit;rw [<- decide_not,decide_eq_decide];omega
  rintro b s6 ⟨rfl,hb⟩;obtain rfl:b=!RO.fit (some B) n:=AV.bool.inj (List.cons.inj hb).1;refine af.mk (fun c=>?_) (fun c=>?_)
  ·have c:RO.fit (some B) n=false:=by simpa using c
   refine ⟨_,R1,⟨rfl,rfl⟩,bz.own w2 d (by simp) fun C P=>⟨P.mut,⟨e.left n,.slc none 0 0 true,?_,?_⟩,_,by rw [c],?_⟩⟩
   ·simp only [RO.left,c,Bool.false_eq_true,if_false];exact P.at
   ·simp only [RO.left,c,Bool.false_eq_true,if_false];exact Sl.nil
   ·simp only [RO.take,c,Bool.false_eq_true,if_false];exact Sl.nil
  ·have c:RO.fit (some B) n=true:=by simpa using c
   have w:0<=n/\n<=B.length:=by simpa [RO.fit] using c
   obtain ⟨k,rfl⟩:=Int.eq_ofNat_of_zero_le w.1;obtain ⟨j,x,y⟩:=Sl.head bS aL er h2 (i:=k) (by omega) .i64;obtain ⟨l,z,m⟩:=Sl.rest bS aL er h2 (i:=k) (by omega) .i64;refine ⟨v,by rw [d.at.av];rfl,j,x,v,by rw [d.at.av];rfl,l,z,?_⟩;refine cK (bX.one m) qk (bz.own w2 d (by simp) fun gu P=>?_);have A:∀ q∈[p],PZ s6 q:=by
    intro q D;obtain rfl:=List.mem_singleton.1 D;exact h.WT
   refine ⟨P.mut,⟨e.left _,l,?_,?_⟩,j,by rw [c],?_⟩
   ·simp only [RO.left,c,if_true];exact P.at
   ·simp only [RO.left,c,if_true,Option.map_some,Option.getD_some,Int.toNat_natCast];exact gy.Vh m P.mut A
   ·simp only [RO.take,c,if_true,Option.getD_some,Int.toNat_natCast];exact gy.Vh y P.mut A
theorem P4 (h:iX s p o) {k:Int} (j:1<=k/\k<=8):aa Tryz.prog jl [.ptr (some (p,0)),.int .i64 k] s fun r s'=>r=.int .u64 (o.L0 k)/\bD [p] s s'/\iX s' p (o.left k):=by
 refine wO _ _ _ _ ⟨fun vs s'=>s'=s/\vs=[.int .i64 k],?_,af.dec (fun h=>absurd h (by omega)) (fun _=>af.dec (fun h=>absurd h (by omega)) (fun _=>⟨rfl,rfl⟩))⟩;rintro n s3 ⟨rfl,b⟩;obtain rfl:n=k:=by simpa using b
 refine aa.use (OG h n) ?_;rintro l m ⟨d,e,w,rfl,i⟩ x;refine ⟨_,_,rfl,?_⟩;refine aa.use (Vg i (h.WS.take n)) ?_;rintro y z ⟨rfl,c,rfl⟩ A;exact ⟨_,_,rfl,rfl,d,e⟩
end
theorem Cb {s:AS} {v:AV} {l:List Int} (b:gy s v l) (i:l.length<=2 ^ 30):aa Tryz.prog aS [v] s fun r s'=>yS s s' r l:=by
 refine aa.pre fun j=>pZ _ _ _ ?_;have main:aR (cV T aq 0 []) fun k=>ak (.cells k 0 false) s fun l3 s4=>iF (aI T aq aq (.slc (some (l3,0)) 0 0 true) v s4) fun m s6=>yS s s6 m l:=by
  refine ⟨_,zG gw,ak.intro j rfl fun l3 s4 F=>?_⟩;refine aT.kH gw bS Jy F.wf (aT.start (M:=[]) F.ext.mut) (by simp) (b.ext F.ext) (by simpa using i) aL fun v' s' g _ _=>?_;simpa using g
 rcases b with ⟨rfl,_,d⟩ | ⟨a,c,e,rfl,hlen,h3⟩
 ·refine ⟨_,ru aL _ _ _ _,af.no rfl main⟩
 ·refine ⟨_,rm aL _ _ _ _ _ _ _ _,af.mk (fun h=>?_) (fun _=>main)⟩;have:a=none:=by simpa using h
  subst this;have:l=[]:=by
   rcases h3 with h3 | ⟨la,o,C,h,_⟩
   ·exact List.length_eq_zero_iff.1 h3
   ·cases h
  subst this;exact aT.nil
theorem OH {s:AS} {v:AV} {l:List Int} (d:gy s v l) (hb:JP l) (e:l.length<=2 ^ 30):aa Tryz.prog ry [v] s fun r s'=>∃ p,r=.ptr (some (p,0))/\s.h p=none/\iX s' p (some l)/\Ext s s':=by
 refine LZ _ _ _ ?_;refine aa.use (Cb d e) ?_;rintro i s2 g w2;have c:=g.iS.2;refine ⟨_,P1 c,?_,ak.intro w2 rfl fun j m b=>⟨j,rfl,g.ew.ext.none b.no,⟨?_,i,b.own,(g.sl bS).ext b.ext⟩,g.ew.ext.trans b.ext⟩⟩
 ·simp [c]
 ·intro B k;obtain rfl:=Option.some.inj k;exact hb
section
variable {s:AS} {p:Nat} {o:RO}
theorem Vj {n:Nat}:(o.take n).length<=n:=by
 unfold RO.take;split
 ·rw [List.length_take];omega
 ·simp
end
end Go.Proofs.YtohgmogbabkkeaaGreat
end

section
namespace Go.Proofs.YtohgmogbabkkeaaGreat
open Go.Am Go.au Go.aB
def AQ:RO->Nat->RO
 | B,0=>B
 | B,n+1=>AQ (B.left 8) n
theorem Fx:∀ (n:Nat) (B:RO),AQ B (n+1)=(AQ B n).left 8
 | 0,B=>rfl
 | n+1,B=>by rw [AQ,Fx n,AQ]
theorem HA:∀ (n:Nat) (B:RO),xT B (n+1)=xT B n++[(AQ B n).L0 8]
 | 0,B=>rfl
 | n+1,B=>by rw [xT,HA n,xT,AQ];rfl
theorem AR:∀ (n:Nat) (B:RO),(xT B n).length=n
 | 0,_=>rfl
 | n+1,B=>by rw [xT,List.length_cons,AR n]
theorem TU (l:List Int) (m:Nat) (x:Int):qe ((l++List.replicate (m+1) 0).map (AV.int .u64)) l.length [.int .u64 x]=((l++[x])++List.replicate m 0).map (AV.int .u64):=by
 rw [fo];simp [List.replicate_succ,List.set_append]
section
variable {s:AS} {p:Nat} {o:RO}
theorem NO {c q:Nat} (b:At s c [.ptr (some (q,0))]) (h:iX s q o):aa Tryz.prog g_ [.ptr (some (c,0))] s fun r s'=>r=.int .u64 (o.L0 8)/\bD [q] s s'/\iX s' q (o.left 8):=by
 refine uK _ _ _ ⟨_,by rw [b.av];rfl,?_⟩;refine aa.use (P4 h (k:=8) (by omega)) ?_;rintro v s' ⟨rfl,d,h2⟩ _;exact ⟨_,rfl,rfl,d,h2⟩
theorem NP (h:iX s p o):aa Tryz.prog ji [.ptr (some (p,0))] s fun r s'=>r=.agg (o.TS.map (.int .u64))/\bD [p] s s'/\iX s' p (o.left 128):=by
 refine aa.pre fun j=>wL _ _ _ (ak.intro j rfl fun l1 s2 z=>?_);refine aa.use (OG (h.ext z.ext) 128) ?_;rintro v3 s4 ⟨m4,r4,v5,rfl,b5⟩ w4;have J:l1≠p:=by rintro rfl;exact h.there z.no
 refine ⟨_,_,rfl,?_⟩;have hlen:(o.take 128).length<=128:=Vj (n:=128);refine aa.use (OH b5 (h.WS.take 128) (by omega)) ?_;rintro v7 s8 ⟨q,rfl,K,rq,L⟩ w8;refine ⟨_,rfl,ak.intro w8 rfl fun nU ad b=>bz.own b.wf b.own (by simp) fun dw d=>?_⟩;have M:p≠q:=by rintro rfl;exact r4.there K
 have O:Am.Own s4 l1 (eW.map (.int .u64)):=z.own.mut m4 (by simpa using J);have Q:l1≠q:=by rintro rfl;rw [O] at K;cases K
 have A:=O.ext L;have B:nU≠l1:=by
  rintro rfl;have:=b.no;rw [A] at this;cases this
 have F:nU≠q:=by rintro rfl;exact rq.there b.no
 have G:nU≠p:=by rintro rfl;exact (r4.ext L).there b.no
 have R:PZ ad nU:=PZ.own b.own.at (by intro w j x;obtain rfl:=List.mem_singleton.1 j;exact fun h=>by cases h);have ae:Am.Own dw l1 (eW.map (.int .u64)):=(A.ext b.ext).mut d.mut (by simpa using Ne.symm B);have S:iX dw q (some (o.take 128)):=(rq.ext b.ext).mut d.mut (by simpa using Ne.symm F) (by intro x c;obtain rfl:=List.mem_singleton.1 c;exact R);have U:iX dw p (o.left 128):=((r4.ext L).ext b.ext).mut d.mut (by simpa using Ne.symm G) (by intro x c;obtain rfl:=List.mem_singleton.1 c;exact R);have al:Am.Own dw nU [.ptr (some (q,0))]:=d.at;have am:s.h q=none:=by
  cases hs:s.h q with
  | none=>rfl
  | some ob =>
   have:=m4.1 q ob (by simpa using Ne.symm M) (z.ext.1 _ _ hs);rw [this] at K;cases K
 have W:s.h nU=none:=by
  cases hs:s.h nU with
  | none=>rfl
  | some ob =>
   have:=L.1 _ _ (m4.1 nU ob (by simpa using G) (z.ext.1 _ _ hs));rw [b.no] at this;cases this
 have an:bD [p] s dw:=(((z.ext.mut.trans m4).trans L.mut).trans b.ext.mut).new d.mut (by intro x c;obtain rfl:=List.mem_singleton.1 c;exact .inr W);refine ⟨fun m vs s'=>∃ i:Nat,vs=[.int .i64 (i:Nat)]/\i<=16/\m=16 - i/\aM s'/\bD [p] s s'/\Am.Own s' l1 ((xT (some (o.take 128)) i++List.replicate (16 - i) 0).map (.int .u64))/\Am.Own s' nU [.ptr (some (q,0))]/\iX s' q (AQ (some (o.take 128)) i)/\iX s' p (o.left 128),16,⟨0,rfl,by omega,rfl,d.wf,an,ae,al,S,U⟩,?_⟩;rintro m n lH ⟨i,X,hi,rfl,ao,Y,e,Z,H,I⟩;simp only [List.cons.injEq,AV.int.injEq,true_and,and_true] at X;subst X;refine af.dec (fun a1=>?_) (fun a2=>?_)
 ·refine aa.use (NO Z.at H) ?_;rintro a3 iV ⟨rfl,k,ab⟩ ar;have y:=e.mut k (by simpa using Q);have c:=Qk (l:=l1) (o:=0) (i:=(i:Nat)) (by omega);simp only [Int.toNat_natCast,Nat.mul_one,Nat.zero_add] at c;have aw:16 - i=(16 - (i+1))+1:=by omega
  rw [aw] at y;refine ⟨_,rfl,_,_,c,bz.own ar y (by simp [AR]) fun tD P=>⟨16 - (i+1),by omega,i+1,by rw [aW (by omega)];rfl,by omega,rfl,P.wf,?_,?_,?_,?_,?_⟩⟩
  ·exact (Y.new k (by intro x c;obtain rfl:=List.mem_singleton.1 c;exact .inr am)).new P.mut (by intro x c;obtain rfl:=List.mem_singleton.1 c;exact .inr z.no)
  ·have:=P.at;rw [HA];have hv:=TU (xT (some (o.take 128)) i) (16 - (i+1)) ((AQ (some (o.take 128)) i).L0 8);rw [AR] at hv;rw [hv] at this;exact this
  ·exact (Z.mut k (by simpa using F)).mut P.mut (by simpa using B)
  ·rw [Fx];refine ab.mut P.mut (by simpa using Ne.symm Q) ?_;intro x c;obtain rfl:=List.mem_singleton.1 c;exact PZ.own y.at (by intro w j x;obtain ⟨n,_,rfl⟩:=List.mem_map.1 j;exact fun h=>by cases h)
  ·refine (I.mut k (by simpa using M) (by intro x c;obtain rfl:=List.mem_singleton.1 c;exact H.WT)).mut P.mut (by simpa using Ne.symm J) ?_;intro x c;obtain rfl:=List.mem_singleton.1 c;exact PZ.own y.at (by intro w j x;obtain ⟨n,_,rfl⟩:=List.mem_map.1 j;exact fun h=>by cases h)
 ·obtain rfl:i=16:=by omega
  simp only [Nat.sub_self,List.replicate_zero,List.append_nil] at e;have hl:((xT (some (o.take 128)) 16).map (AV.int .u64)).length=16:=by simp [AR]
  have h1:=b_ .u64 (xT (some (o.take 128)) 16);have a0:PZ lH l1:=PZ.own e.at (by intro w j x;obtain ⟨n,_,rfl⟩:=List.mem_map.1 j;exact fun h=>by cases h);have hR:(xT (some (o.take 128)) 16).map (AV.int .u64)=o.TS.map (.int .u64):=rfl;generalize (xT (some (o.take 128)) 16).map (AV.int .u64)=C at e hl h1 hR;have ht:∀ D:List AV,D.length=16->(D.drop 0).take 16=D:=fun D hD=>by rw [List.drop_zero,List.take_of_length_le (by omega)]
  refine ⟨C,by rw [e.at.aC (by omega),ht C hl],⟨h1,by rw [hl]⟩,bz.own ao e (by omega) fun dM P=>?_⟩;have hP:=P.at;rw [S_ rfl] at hP;refine ⟨C,by rw [At.aC ⟨_,_,hP⟩ (by omega),ht C hl],by rw [hR],?_,?_⟩
  ·exact Y.new P.mut (by intro x c;obtain rfl:=List.mem_singleton.1 c;exact .inr z.no)
  ·refine I.mut P.mut (by simpa using Ne.symm J) ?_;intro x c;obtain rfl:=List.mem_singleton.1 c;exact a0
end
/-! ### what is read of what was written -/
theorem R3 (n:Int) (b:0<=n) (k:Nat) (d:k<=7):xq n (k+1)=xq (n / 256) k++[n % 256]:=by
 apply List.ext_getElem?;intro i;by_cases c:i<k
 ·rw [JB _ (by omega),List.getElem?_append_left (by rw [jO];exact c),JB _ c,yT b (by omega),yT (by omega) (by omega)];rw [Int.ediv_ediv_of_nonneg (by decide),show (256:Int)*2 ^ (8*(k - 1 - i))=2 ^ (8*(k+1 - 1 - i)) by
   rw [show 8*(k+1 - 1 - i)=8+8*(k - 1 - i) by omega,Int.pow_add];rfl]
 ·by_cases h2:i=k
  ·subst h2;rw [JB _ (by omega),List.getElem?_append_right (by rw [jO];omega),jO,Nat.sub_self,yT b (by omega)];simp
  ·rw [List.getElem?_eq_none (by rw [jO];omega),List.getElem?_eq_none (by simp [jO];omega)]
theorem L3:∀ (k:Nat) (n:Int),k<=8->0<=n->n<256 ^ k->B_ (xq n k)=n
 | 0,n,_,c,b=>by
  have:n=0:=by simp at b;omega
  subst this;rfl
 | k+1,n,d,c,b=>by
  rw [Int.pow_succ] at b;rw [R3 n c k (by omega),Ca,L3 k (n / 256) (by omega) (by omega) (by omega)];omega
theorem R4 {k:Nat} (b:1<=k/\k<=8) {n:Int} (c:0<=n) (d:n<256 ^ k):PY (xq n k)=n:=by
 unfold PY;rw [jO,if_pos b,L3 k n b.2 c d]
theorem Vk:(256:Int) ^ 8=18446744073709551616:=by decide
theorem L4 {A B:List Int} {n:Int} (h:n=A.length):RO.take (some (A++B)) n=A/\RO.left (some (A++B)) n=some B:=by
 subst h;have b:RO.fit (some (A++B)) A.length=true:=by simp [RO.fit];omega
 constructor
 ·simp [RO.take,b]
 ·simp [RO.left,b]
theorem TV {k:Nat} (c:1<=k/\k<=8) {n:Int} (d:0<=n) (e:n<256 ^ k) (B:List Int):RO.L0 (some (xq n k++B)) k=n/\RO.left (some (xq n k++B)) k=some B:=by
 obtain ⟨a,b⟩:=L4 (A:=xq n k) (B:=B) (n:=k) (by rw [jO]);exact ⟨by rw [RO.L0,a,R4 c d e],b⟩
theorem L5:∀ (v:List Int),(∀ x∈v,0<=x/\x<=18446744073709551615)->∀ B,xT (some ((v.flatMap fun n=>xq n 8)++B)) v.length=v
 | [],_,_=>rfl
 | x::v,h,B=>by
  have e:=h x (by simp);obtain ⟨a,b⟩:=TV (k:=8) (by omega) (n:=x) (by omega) (by rw [Vk];omega) ((v.flatMap fun n=>xq n 8)++B);rw [List.flatMap_cons,List.append_assoc,List.length_cons,xT];have a':RO.L0 (some (xq x 8++((v.flatMap fun n=>xq n 8)++B))) 8=x:=a;have c:RO.left (some (xq x 8++((v.flatMap fun n=>xq n 8)++B))) 8=some ((v.flatMap fun n=>xq n 8)++B):=b;rw [a',c,L5 v (fun y d=>h y (by simp [d])) B]
theorem TW {v:List Int} (h:Wc v) (B:List Int):RO.TS (some ((v.flatMap fun n=>xq n 8)++B))=v/\RO.left (some ((v.flatMap fun n=>xq n 8)++B)) 128=some B:=by
 have c:(v.flatMap fun n=>xq n 8).length=128:=by rw [Hz (f:=fun n=>xq n 8) (n:=8) (fun n=>jO n 8),h.len]
 obtain ⟨a,b⟩:=L4 (A:=v.flatMap fun n=>xq n 8) (B:=B) (n:=128) (by rw [c];rfl);refine ⟨?_,b⟩;have:=L5 v h.Wa [];rw [List.append_nil,h.len] at this;rw [RO.TS,a,this]
theorem HB {s:AS} {v:AV} {l:List Int} (h:gy s v l):(cN T aq cE v s).map (·.1)=some (.str (VD l)):=by
 by_cases b:l=[]
 ·subst b;rcases h with ⟨rfl,h2,h3⟩ | ⟨a,c,e,rfl,⟨d,h2⟩,h3⟩
  ·simp [cN,aL,qB,zO,VD]
  ·rcases a with _ | ⟨la,o⟩ <;> simp [cN,aL,qB,zO,VD]
 ·exact RP h b
end Go.Proofs.YtohgmogbabkkeaaGreat
end

section
set_option maxRecDepth 100000
set_option maxHeartbeats 4000000
namespace Go.Proofs.YtohgmogbabkkeaaGreat
open Go.Am
def GI (a0:List AV) (a1:List AV) (s:AS) (R:AV->AS->Prop):Prop :=
 cH a0 (ak (.cells a0 0 false) s fun l1 s2=>cH a1 (ak (.cells a1 0 false) s2 fun l3 s4=>ak (.cells [.int .u64 0,.int .u64 0,.int .u64 0,.int .u64 0,.int .u64 0,.int .u64 0,.int .u64 0,.int .u64 0,.int .u64 0,.int .u64 0,.int .u64 0,.int .u64 0,.int .u64 0,.int .u64 0,.int .u64 0,.int .u64 0] 0 false) s4 fun p s6=>aR (aC s6 l3 0 16) fun r=>bA fun e w=>e w [.int .i64 0] s6 /\
 ∀ c:Nat,∀ b:Int,∀ dw:AS,e c [.int .i64 b] dw ->
 af (decide ((b:Int)<16))
 (aU .u64 (i_ T bg (.agg r) (.int .i64 b)) fun i=>bG (ag T bg (.ptr (some (l1,0))) (.int .i64 b)) fun lq j=>aU .u64 (av dw lq j) fun k=>aU .u64 (JV true [.int .u64 k,.int .u64 i]) fun l=>bG (ag T bg (.ptr (some (l1,0))) (.int .i64 b)) fun m n=>bz (cR dw m n [.int .u64 l]) fun fN=>∃ m',m'<c/\e m' [(.int .i64 (IntKind.wrap .i64 (b+1)))] fN)
 (aR (aC dw l1 0 16) fun d=>fm (some 16) d (bz (cR dw p 0 d) fun gh=>aR (aC gh p 0 16) fun o=>R (.agg o) gh))))
def GJ:QA:=(.seq .leaf (.seq (.seq .leaf (.wrap (.loop [(8,.int .i64)] [(5,6),(8,19)] (.seq .leaf (.seq (.cond .leaf .leaf) (.seq (.wrap (.seq .leaf .leaf)) .leaf)))))) (.seq .leaf .leaf)))
theorem GK (a0:List AV) (a1:List AV) (s:AS) (R:AV->AS->Prop) (h:GI a0 a1 s R):aa Tryz.prog rS [.agg a0,.agg a1] s R :=
 aa.q (n:=21) (rs:=[.cell 4 49]) (A:=GJ) hT bW Tryz.func81 (by kernel_rfl) rfl rfl rfl (by kernel_rfl) (by kernel_rfl) h
def yX (a0:List UInt8) (s:AS) (R:AV->AS->Prop):Prop :=
 aU .i64 (aO T cE (.str a0) s) fun b=>af (decide ((b:Int)>=1)) (aU .i64 (aO T cE (.str a0) s) fun n2=>R (.bool (decide ((n2:Int)<=32))) s) (R (.bool false) s)
def yY:QA:=(.seq .leaf (.seq .leaf .leaf))
theorem yZ (a0:List UInt8) (s:AS) (R:AV->AS->Prop) (h:yX a0 s R):aa Tryz.prog gY [.str a0] s R :=
 aa.q (n:=11) (rs:=[.tmp 2]) (A:=yY) hT bW Tryz.func87 (by kernel_rfl) rfl rfl rfl (by kernel_rfl) (by kernel_rfl) h
def JC (a0:List AV) (s:AS) (R:AV->AS->Prop):Prop :=
 cH a0 (ak (.cells a0 0 false) s fun l1 s2=>aR (aC s2 l1 0 16) fun k=>bA fun e l=>e l [.bool true,.int .i64 0] s2 /\
 ∀ i:Nat,∀ j:Bool,∀ c:Int,∀ d:AS,e i [.bool j,.int .i64 c] d ->
 af (decide ((c:Int)<16))
 (aU .u64 (i_ T bg (.agg k) (.int .i64 c)) fun b=>af (!(decide ((b:Int)<=4611686018427387904)))
 (R (.bool (decide ((b:Int)<=4611686018427387904))) d)
 (∃ m',m'<i/\e m' [(.bool (decide ((b:Int)<=4611686018427387904))),(.int .i64 (IntKind.wrap .i64 (c+1)))] d))
 (R (.bool j) d))
def JD:QA:=(.seq .leaf (.wrap (.seq .leaf (.seq .leaf (.seq (.seq .leaf (.wrap (.loop [(3,.bool),(7,.int .i64)] [(3,3),(5,5),(7,14)] (.seq .leaf (.seq (.cond .leaf .leaf) (.seq (.wrap (.seq .leaf (.seq .leaf (.seq .leaf (.cond .leaf .leaf))))) .leaf)))))) (.seq .leaf .leaf))))))
theorem JE (a0:List AV) (s:AS) (R:AV->AS->Prop) (h:JC a0 s R):aa Tryz.prog di [.agg a0] s R :=
 aa.q (n:=16) (rs:=[.tmp 2]) (A:=JD) hT bW Tryz.func90 (by kernel_rfl) rfl rfl rfl (by kernel_rfl) (by kernel_rfl) h
def GL (a0:AV) (a1:List UInt8) (a2:AV) (s:AS) (R:AV->AS->Prop):Prop :=
 ak (.cells (List.replicate 32 (.int .u8 0)) 0 false) s fun l1 s2=>iF (cN T cE aq (.str a1) s2) fun j s4=>aa Tryz.prog vZ [j] s4 fun k s6=>∃ i:AV,∃ l:Int,k=.aQ [i,.int .i64 l]/\(aR (cV T eG 2 [(0,i),(1,a2)]) fun m=>ak (.cells m 0 false) s6 fun nU c=>aa Tryz.prog yy [a0,(.slc (some (nU,0)) 2 2 true)] c fun d bQ=>∃ b:List AV,d=.agg b/\(fm (some 32) b (bz (cR bQ l1 0 b) fun gr=>aR (aC gr l1 0 32) fun e=>R (.agg e) gr)))
def GM:QA:=(.seq .leaf (.seq .leaf (.seq .leaf .leaf)))
theorem GN (a0:AV) (a1:List UInt8) (a2:AV) (s:AS) (R:AV->AS->Prop) (h:GL a0 a1 a2 s R):aa Tryz.prog eL [a0,.str a1,a2] s R :=
 aa.q (n:=20) (rs:=[.cell 6 93]) (A:=GM) hT bW Tryz.func92 (by kernel_rfl) rfl rfl rfl (by kernel_rfl) (by kernel_rfl) h
def Fy (a0:AV) (a1:List UInt8) (a2:List AV) (s:AS) (R:AV->AS->Prop):Prop :=
 cH a2 (ak (.cells a2 0 false) s fun l1 s2=>bt fun i =>
 (∀ p:Bool,∀ e:AS,i [.bool p] e ->
 af p
 (R (.aQ [.slc none 0 0 true,.int .i64 2]) e)
 (aR (aC e l1 0 16) fun w=>aa Tryz.prog rT [.agg w] e fun r s8=>aa Tryz.prog eL [a0,.str a1,r] s8 fun x j=>∃ b:List AV,x=.agg b/\(ak (.cells (List.replicate 32 (.int .u8 0)) 0 false) j fun qQ bQ=>fm (some 32) b (bz (cR bQ qQ 0 b) fun k=>dJ (aZ T rZ (.ptr (some (qQ,0))) none none none) fun l=>iF (aI T aq aq r l k) fun nD lH=>R (.aQ [nD,.int .i64 0]) lH)))) /\
 (aa Tryz.prog gY [.str a1] s2 fun m iV=>∃ c:Bool,m=.bool c/\(af (!c) (i [.bool true] iV) (aR (aC iV l1 0 16) fun n=>aa Tryz.prog di [.agg n] iV fun o tD=>∃ d:Bool,o=.bool d/\(i [(.bool (!d))] tD)))))
def FA:QA:=(.seq .leaf (.seq (.join [(17,.bool)] [(10,17)] .leaf (.cond (.seq .leaf .leaf) .leaf)) (.seq .leaf (.seq .leaf (.seq .leaf .leaf)))))
theorem FB (a0:AV) (a1:List UInt8) (a2:List AV) (s:AS) (R:AV->AS->Prop) (h:Fy a0 a1 a2 s R):aa Tryz.prog fH [a0,.str a1,.agg a2] s R :=
 aa.q (n:=27) (rs:=[.tmp 6,.tmp 7]) (A:=FA) hT bW Tryz.func83 (by kernel_rfl) rfl rfl rfl (by kernel_rfl) (by kernel_rfl) h
def L6 (a0:AV) (a1:List UInt8) (a2:AV) (s:AS) (R:AV->AS->Prop):Prop :=
 ak (.cells [.int .u64 0,.int .u64 0,.int .u64 0,.int .u64 0,.int .u64 0,.int .u64 0,.int .u64 0,.int .u64 0,.int .u64 0,.int .u64 0,.int .u64 0,.int .u64 0,.int .u64 0,.int .u64 0,.int .u64 0,.int .u64 0] 0 false) s fun l1 s2=>aa Tryz.prog gY [.str a1] s2 fun v3 s4=>∃ b5:Bool,v3=.bool b5/\(af (!b5)
 (oR (aV T bg []) fun g6=>fm (some 16) g6 (bz (cR s4 l1 0 g6) fun s7=>aR (aC s7 l1 0 16) fun g8=>R (.aQ [.agg g8,.int .i64 2]) s7))
 (aU .i64 (aO T aq a2 s4) fun n9=>af ((n9:Int)==0)
 (oR (aV T bg []) fun A=>fm (some 16) A (bz (cR s4 l1 0 A) fun B=>aR (aC B l1 0 16) fun X=>R (.aQ [.agg X,.int .i64 0]) B))
 (aU .i64 (aO T aq a2 s4) fun Y=>af ((Y:Int) != 160)
 (oR (aV T bg []) fun C=>fm (some 16) C (bz (cR s4 l1 0 C) fun gr=>aR (aC gr l1 0 16) fun Z=>R (.aQ [.agg Z,.int .i64 9]) gr))
 (dJ (aZ T aq a2 none (some (.int .i64 128)) (some (.int .i64 128))) fun c=>dJ (aZ T aq a2 (some (.int .i64 128)) none none) fun e=>aa Tryz.prog ry [c] s4 fun ab fN=>∃ D:Option (Nat×Nat),ab=.ptr D/\(aa Tryz.prog ji [.ptr D] fN fun ad tD=>∃ o:List AV,ad=.agg o/\(ak (.cells [.int .u64 0,.int .u64 0,.int .u64 0,.int .u64 0,.int .u64 0,.int .u64 0,.int .u64 0,.int .u64 0,.int .u64 0,.int .u64 0,.int .u64 0,.int .u64 0,.int .u64 0,.int .u64 0,.int .u64 0,.int .u64 0] 0 false) tD fun p ae=>fm (some 16) o (bz (cR ae p 0 o) fun d=>bt fun r =>
 (∀ F:Bool,∀ l:AS,r [.bool F] l ->
 af F
 (oR (aV T bg []) fun G=>fm (some 16) G (bz (cR l l1 0 G) fun H=>aR (aC H l1 0 16) fun al=>R (.aQ [.agg al,.int .i64 9]) H))
 (aR (aC l p 0 16) fun I=>fm (some 16) I (bz (cR l l1 0 I) fun J=>aR (aC J l1 0 16) fun am=>R (.aQ [.agg am,.int .i64 0]) J))) /\
 (gx fun S V=>aR (aC d p 0 16) fun b=>(∀ m:AS,Ext d m->aM m->(True)->aa Tryz.prog di [.agg b] m fun an K=>∃ w:Bool,an=.bool w/\((Ext m K/\S 1 [(.func di []),.agg b] (.bool w) K/\V 1 [(.func di []),.agg b] (.bool w))))/\(∃ v,V 1 [(.func di []),.agg b] v)/\∀ L:AV,V 1 [(.func di []),.agg b] L->∃ i:Bool,L=.bool i/\(af (!i) (∀ n:AS,Ext d n->aM n->(S 1 [(.func di []),.agg b] (.bool i) n/\True)->r [.bool true] n) ((∀ sR:AS,Ext d sR->aM sR->(S 1 [(.func di []),.agg b] (.bool i) sR/\True)->aa Tryz.prog eL [a0,.str a1,c] sR fun ao M=>∃ x:List AV,ao=.agg x/\((Ext sR M/\S 7 [(.func eL []),a0,.str a1,c] (.agg x) M/\V 7 [(.func eL []),a0,.str a1,c] (.agg x))))/\(∃ v,V 7 [(.func eL []),a0,.str a1,c] v)/\∀ O:AV,V 7 [(.func eL []),a0,.str a1,c] O->∃ y:List AV,O=.agg y/\((∀ j:AS,Ext d j->aM j->(S 1 [(.func di []),.agg b] (.bool i) j/\True)->pM (OR T rZ e) fun Q=>(Ext j j/\S 9 [e] (.ptr Q) j/\V 9 [e] (.ptr Q)))/\(∃ v,V 9 [e] v)/\∀ U:AV,V 9 [e] U->∃ z:Option (Nat×Nat),U=.ptr z/\(ai z fun ar aw=>aR (aC d ar aw 32) fun a3=>∀ k:AS,Ext d k->aM k->(S 1 [(.func di []),.agg b] (.bool i) k/\(S 7 [(.func eL []),a0,.str a1,c] (.agg y) k/\(S 9 [e] (.ptr z) k/\True)))->aa Tryz.prog vX [.agg y,.agg a3] k fun a4 a5=>∃ W:Bool,a4=.bool W/\(r [(.bool (!W))] a5)))))))))))))
def L7:QA:=(.seq .leaf (.seq (.wrap (.seq .leaf (.cond (.seq .leaf .leaf) (.seq .leaf (.cond (.seq .leaf .leaf) (.seq .leaf (.cond (.seq .leaf .leaf) .leaf))))))) (.seq (.draw 5) (.seq .leaf (.seq (.join [(46,.bool)] [(33,46)] (.gN 11 [[],[],[],[],[],[],[],[1],[],[1],[]] [1,7,9]) (.cond (.seq .leaf .leaf) .leaf)) (.seq .leaf .leaf))))))
theorem CD (a0:AV) (a1:List UInt8) (a2:AV) (s:AS) (R:AV->AS->Prop) (h:L6 a0 a1 a2 s R):aa Tryz.prog ot [a0,.str a1,a2] s R :=
 aa.q (n:=49) (rs:=[.cell 6 49,.tmp 7]) (A:=L7) hT bW Tryz.func24 (by kernel_rfl) rfl rfl rfl (by kernel_rfl) (by kernel_rfl) h
def mK (a0:AV) (s:AS) (R:AV->AS->Prop):Prop :=
 uT (Qi T bp true a0 (.slc none 0 0 true)) fun b=>af b
 (R (.slc none 0 0 true) s)
 (aR (cV T bp 0 []) fun c=>ak (.cells c 0 false) s fun l3 s4=>iF (aI T bp bp (.slc (some (l3,0)) 0 0 true) a0 s4) fun d s6=>R d s6)
def mL:QA:=(.seq .leaf (.seq (.seq .leaf (.cond (.seq .leaf .leaf) .leaf)) (.seq .leaf .leaf)))
theorem mM (a0:AV) (s:AS) (R:AV->AS->Prop) (h:mK a0 s R):aa Tryz.prog en [a0] s R :=
 aa.q (n:=8) (rs:=[.tmp 2]) (A:=mL) hT bW Tryz.func82 (by kernel_rfl) rfl rfl rfl (by kernel_rfl) (by kernel_rfl) h
end Go.Proofs.YtohgmogbabkkeaaGreat
end

section
namespace Go.Proofs.YtohgmogbabkkeaaGreat
open Go.Am Go.au Go.aB Go.bM
def q7 (v:List Int):Bool:=v.all fun n=>decide (n<=4611686018427387904)
def y4 (v:List Int):List Int:=v.flatMap fun n=>xq n 8
def y5 (sec:List Int) (dev:List UInt8) (v:List Int):List Int:=y4 v++zM sec (tn dev++y4 v)
theorem FC {v:List Int} (h:v.length=16):(y4 v).length=128:=by
 have:∀ l:List Int,(y4 l).length=8*l.length:=by
  intro l
  induction l with
  | nil=>rfl
  | cons x xs b=>simp only [y4,List.flatMap_cons,List.length_append,jO] at b ⊢;rw [b];simp;omega
 rw [this,h]
theorem R5 (sec:List Int) (dev:List UInt8) {v:List Int} (h:v.length=16):(y5 sec dev v).length=160:=by
 rw [y5,List.length_append,FC h,jK]
def mR (a b:List Int):List Int:=(List.range 16).map fun i=>if b.getD i 0>a.getD i 0 then b.getD i 0 else a.getD i 0
theorem de (a b:List Int):(mR a b).length=16:=by simp [mR]
theorem R6 {v:List Int} (h:v.length=16) {i:Nat} (hi:i<16):i_ T bg (.agg (v.map (.int .u64))) (.int .i64 (i:Nat))=some (.int .u64 (v.getD i 0)):=by
 simp only [i_,wk,ju,Option.bind_some,Bo Bw];rw [if_pos (by omega),List.getElem?_map,List.getElem?_eq_getElem (by simp;omega),List.getD_eq_getElem?_getD,List.getElem?_eq_getElem (by omega)];simp
theorem SO {v:List Int} (h:v.length=16) {s:AS} {l:Nat} (b:At s l (v.map (.int .u64))):aC s l 0 16=some (v.map (.int .u64)):=by
 rw [b.aC (by simp [h]),List.drop_zero,List.take_of_length_le (by simp [h])]
theorem Vl (a b:List Int) {i:Nat} (h:i<16) (e:a.length=16):(((mR a b).take i)++a.drop i).set i (if b.getD i 0>a.getD i 0 then b.getD i 0 else a.getD i 0)=((mR a b).take (i+1))++a.drop (i+1):=by
 have hd:=List.drop_eq_getElem_cons (l:=a) (i:=i) (by omega);have c:((mR a b).take i).length=i:=by simp [de];omega
 have d:(mR a b)[i]? = some (if b.getD i 0>a.getD i 0 then b.getD i 0 else a.getD i 0):=by
  rw [mR,List.getElem?_map,List.getElem?_range h];rfl
 rw [List.set_append,if_neg (by omega),c,Nat.sub_self,hd,List.set_cons_zero,List.take_add_one,d,Option.toList_some,List.append_assoc];rfl
theorem R7 {a b:List Int} (A:a.length=16) (hb:b.length=16) (s:AS):aa Tryz.prog rS [.agg (a.map (.int .u64)),.agg (b.map (.int .u64))] s fun r s'=>r=.agg ((mR a b).map (.int .u64))/\Ext s s':=by
 refine aa.pre fun B=>GK _ _ _ _ ⟨b_ _ _,ak.intro B rfl fun l1 s2 d=>⟨b_ _ _,ak.intro d.wf rfl fun l3 s4 j=>ak.intro j.wf rfl fun x s6 c=>?_⟩⟩;have C:=(d.ext.trans j.ext).trans c.ext;have D:=d.no;have d5:x≠l1:=fun e=>by
  have:=c.no;rw [e,d.own.ext j.ext] at this;cases this
 refine ⟨_,SO hb (j.own.ext c.ext).at,fun m vs s'=>∃ i:Nat,vs=[.int .i64 (i:Nat)]/\i<=16/\m=16 - i/\Ext s s'/\aM s'/\Am.Own s' l1 (((mR a b).take i++a.drop i).map (.int .u64))/\Am.Own s' x (eW.map (.int .u64)),16,⟨0,rfl,by omega,rfl,C,c.wf,by simpa using (d.own.ext j.ext).ext c.ext,c.own⟩,?_⟩;rintro m n dw ⟨i,hi,J,rfl,k,l,p1,y⟩;simp only [List.cons.injEq,AV.int.injEq,true_and,and_true] at hi;subst hi;refine af.dec (fun F=>?_) (fun G=>?_)
 ·have H:((mR a b).take i++a.drop i).getD i 0=a.getD i 0:=by
   rw [List.getD_eq_getElem?_getD,List.getD_eq_getElem?_getD,List.getElem?_append_right (by simp [de];omega)];simp [de,Nat.min_eq_left (show i<=16 by omega)]
  have hr:av dw l1 (0+((i:Nat):Int).toNat*1)=some (.int .u64 (a.getD i 0)):=by rw [<- H];exact p1.at.Pg (by simp [de];omega) (by simp)
  refine ⟨_,R6 hb (by omega),_,_,Qk (by omega),_,hr,_,N4 _ _,_,_,Qk (by omega),bz.int l p1 (i:=i) (by simp [de];omega) (by simp) fun fN I p o=>⟨16 - (i+1),by omega,i+1,by rw [AL (by omega)],by omega,rfl,Ext.wr k D o,p,?_,y.mut o (by simpa using d5)⟩⟩;rw [<- Vl a b (by omega) A];exact I
 ·obtain rfl:i=16:=by omega
  have w:(mR a b).take 16++a.drop 16=mR a b:=by rw [List.take_of_length_le (by simp [de]),List.drop_eq_nil_of_le (by omega),List.append_nil]
  rw [w] at p1;refine ⟨_,SO (de a b) p1.at,⟨b_ _ _,by simp [de]⟩,bz.own l y (by simp [de,eW]) fun gh P=>?_⟩;have z:=P.at;rw [dB (by simp [de,eW])] at z;exact ⟨_,SO (de a b) ⟨_,_,z⟩,rfl,Ext.wr k ((d.ext.trans j.ext).none c.no) P.mut⟩
theorem uL (t:List UInt8) (s:AS):aa Tryz.prog gY [.str t] s fun v s'=>v=.bool (aE t)/\s'=s:=by
 refine yZ _ _ _ ⟨_,kF t s,af.dec (fun h=>⟨_,kF t s,?_,rfl⟩) (fun h=>⟨?_,rfl⟩)⟩
 ·congr 1;rw [aE,decide_eq_decide];omega
 ·congr 1;symm;rw [aE,decide_eq_false_iff_not];omega
theorem OI {v:List Int} (h:v.length=16) (s:AS):aa Tryz.prog di [.agg (v.map (.int .u64))] s fun r s'=>r=.bool (q7 v)/\Ext s s':=by
 refine aa.pre fun j=>JE _ _ _ ⟨b_ _ _,ak.intro j rfl fun l1 s2 e=>⟨_,SO h e.own.at,fun m vs s'=>∃ i:Nat,vs=[.bool true,.int .i64 (i:Nat)]/\i<=16/\m=16 - i/\s'=s2/\(v.take i).all (fun n=>decide (n<=4611686018427387904))=true,16,⟨0,rfl,by omega,rfl,rfl,rfl⟩,?_⟩⟩;rintro m b n o ⟨i,hi,p,rfl,rfl,d⟩;simp only [List.cons.injEq,AV.int.injEq,AV.bool.injEq,true_and,and_true] at hi;obtain ⟨rfl,rfl⟩:=hi;refine af.dec (fun k=>⟨_,R6 h (by omega),af.mk (fun hb=>⟨?_,e.ext⟩) (fun hb=>⟨16 - (i+1),by omega,i+1,?_,by omega,rfl,rfl,?_⟩)⟩) (fun l=>⟨?_,e.ext⟩)
 ·have c:decide (v.getD i 0<=4611686018427387904)=false:=by simpa using hb
  rw [c];congr 1;symm;rw [q7,List.all_eq_false];refine ⟨v.getD i 0,?_,by simpa using c⟩;rw [List.getD_eq_getElem?_getD,List.getElem?_eq_getElem (by omega)];exact List.getElem_mem _
 ·have c:decide (v.getD i 0<=4611686018427387904)=true:=by simpa using hb
  rw [c,AL (by omega)]
 ·have c:decide (v.getD i 0<=4611686018427387904)=true:=by simpa using hb
  rw [List.take_add_one,List.all_append,d];rw [List.getD_eq_getElem?_getD] at c;rw [List.getElem?_eq_getElem (by omega)] at c ⊢;simpa using c
 ·rw [List.take_of_length_le (by omega)] at d;rw [q7,d]
theorem OJ {s:AS} {sv e:AV} {sec vb:List Int} (hs:gy s sv sec) (y:sec.length<=64) (hv:gy s e vb) (z:vb.length<=1000) (dev:List UInt8) (hd:dev.length<=1000) :
  aa Tryz.prog eL [sv,.str dev,e] s fun r s'=>r=.agg ((zM sec (tn dev++vb)).map (.int .u8))/\Ext s s':=by
 refine aa.pre fun A=>GN _ _ _ _ _ (ak.intro A rfl fun l1 s2 i=>?_);refine NJ i.wf dev fun J s4 B m K=>?_;refine aa.use (TI B (by rw [wF];omega)) ?_;rintro v s6 ⟨n,rfl,j⟩ C;have o:=(i.ext.trans m).trans j.ew.ext;have k:=hv.ext o;have D:=j.sl bS;refine ⟨_,_,rfl,_,OF j.iS.2 k.one,ak.intro C rfl fun nU F b=>?_⟩;have c:=o.trans b.ext;refine aa.use (TP (L:=[(n,tn dev),(e,vb)]) (hs.ext c) y (bX.mk b.own.at rfl rfl) ?_ (by simp) ?_) ?_
 ·intro p w;simp only [List.mem_cons,List.not_mem_nil,or_false] at w;rcases w with rfl | rfl
  ·have:=D.ext b.ext;rw [wF] at this;exact this
  ·exact hv.ext c
 ·simp [qb,PM];omega
 ·rintro G bQ ⟨rfl,d⟩ l;have H:([(n,tn dev),(e,vb)].flatMap Prod.snd)=tn dev++vb:=by simp
  rw [H];have I:=(((i.own.ext m).ext j.ew.ext).ext b.ext).ext d;refine ⟨_,rfl,⟨b_ _ _,by simp [jK]⟩,bz.own l I (by simp [jK]) fun gr P=>?_⟩;have x:=P.at;rw [dB (by simp [jK])] at x;refine ⟨_,At.aC ⟨_,_,x⟩ (by simp [jK]),?_,Ext.wr (c.trans d) i.no P.mut⟩;rw [List.drop_zero,List.take_of_length_le (by simp [jK])]
theorem L8 {s:AS} {sv:AV} {sec:List Int} (hs:gy s sv sec) (A:sec.length<=64) (dev:List UInt8) {v:List Int} (hv:v.length=16) (z:aE dev=true) (hm:q7 v=true) :
  aa Tryz.prog fH [sv,.str dev,.agg (v.map (.int .u64))] s fun r s'=>∃ w,r=.aQ [w,.int .i64 0]/\yS s s' w (y5 sec dev v):=by
 refine aa.pre fun B=>FB _ _ _ _ _ ⟨b_ _ _,ak.intro B rfl fun l1 s2 e=>⟨fun vs s'=>vs=[.bool false]/\Ext s2 s'/\aM s',?_,?_⟩⟩
 ·rintro b C ⟨hb,j,L⟩;obtain rfl:b=false:=by simpa using hb
  refine af.no rfl ⟨_,SO hv (e.own.ext j).at,?_⟩;refine aa.use (PO v hv _) ?_;rintro D s8 (k:yS C s8 D (y4 v)) M;have F:=(e.ext.trans j).trans k.ew.ext;have hd:dev.length<=32:=by
   simp only [aE,decide_eq_true_eq] at z;omega
  have i:=FC hv;refine aa.use (OJ (hs.ext F) A (k.sl bS) (by rw [i];omega) dev (by omega)) ?_;rintro O G ⟨rfl,l⟩ m;refine ⟨_,rfl,k_ m (by simp [jK]) (by simp) (b_ _ _) fun qQ n d=>⟨_,m_ Iq er (by decide),?_⟩⟩;have c:=jK sec (tn dev++y4 v);have H:gy n (.slc (some (qQ,0)) 32 32 true) (zM sec (tn dev++y4 v)):=bX.mk d.own.at (by rw [kG];simp [c]) (by rw [kG,List.drop_zero,List.take_of_length_le (by simp [c])]) |> (c ▸ ·);refine wH d.wf (k.step (l.trans d.ext)) (by simp) H (by rw [i,c];omega) fun v' s' o w' _=>⟨v',rfl,?_⟩;exact ⟨o.u6,(e.ext.trans j).mut.trans o.ew,fun la p=>(e.ext.trans j).none (o.new la p)⟩
 ·refine aa.use (uL dev _) ?_;rintro I iV ⟨rfl,rfl⟩ J;refine ⟨_,rfl,af.no (by simp [z]) ⟨_,SO hv e.own.at,?_⟩⟩;refine aa.use (OI hv _) ?_;rintro K tD ⟨rfl,x⟩ y;exact ⟨_,rfl,by simp [hm],x,y⟩
theorem FD:aV T bg []=some (.agg (eW.map (.int .u64))):=by kernel_rfl
theorem Sl.WC {s:AS} {v:AV} {l:List Int} (h:gy s v l) (d:l.length=32):∃ la o,OR T rZ v=some (.ptr (some (la,o)))/\∀ s',Ext s s'->aC s' la o 32=some (l.map (.int .u8)):=by
 rcases h with ⟨_,m,_⟩ | ⟨a,c,e,rfl,⟨i,n⟩,h3⟩
 ·omega
 ·rcases h3 with h3 | ⟨la,o,C,rfl,j,b⟩
  ·omega
  ·refine ⟨la,o,by simp [OR,Iq,d],fun s' k=>?_⟩;have hlen:=congrArg List.length b;rw [List.length_take,List.length_drop,sq,d] at hlen;rw [(j.ext k).aC (by omega),<- kG,<- b,d]
theorem NQ {s s4:AS} {l1:Nat} {v:List Int} (hv:v.length=16) (d:Ext s s4) (e:aM s4) (i:s.h l1=none) (j:Am.Own s4 l1 (eW.map (.int .u64))) {c c':Int} (k:c=c') :
  fm (some 16) (v.map (AV.int .u64)) (bz (Am.cR s4 l1 0 (v.map (.int .u64))) fun s7=>aR (aC s7 l1 0 16) fun l=>(fun r s'=>r=AV.aQ [.agg (v.map (.int .u64)),.int .i64 c']/\Ext s s') (.aQ [.agg l,.int .i64 c]) s7):=by
 refine ⟨⟨b_ _ _,by simp [hv]⟩,bz.own e j (by simp [hv,eW]) fun s7 P=>?_⟩;have b:=P.at;rw [dB (by simp [hv,eW])] at b;exact ⟨_,SO hv ⟨_,_,b⟩,by rw [k],Ext.wr d i P.mut⟩
theorem TX (v:List Int):JP (y4 v):=by
 intro x b;obtain ⟨n,_,b⟩:=List.mem_flatMap.1 b;exact Vf n 8 x b
theorem Vm {s:AS} {sv bv:AV} {b:List Int} (hb:gy s bv b) (dev:List UInt8) (d:aE dev=false\/b=[]) :
  aa Tryz.prog ot [sv,.str dev,bv] s fun r s'=>r=.aQ [.agg (eW.map (.int .u64)),.int .i64 (if aE dev then 0 else 2)]/\Ext s s':=by
 refine aa.pre fun j=>CD _ _ _ _ _ (ak.intro j rfl fun l1 s2 c=>?_);refine aa.use (uL dev _) ?_;rintro k s4 ⟨rfl,rfl⟩ e;refine ⟨_,rfl,af.mk (fun h=>⟨_,FD,NQ rfl c.ext e c.no c.own (by rw [if_neg (by simpa using h)])⟩) (fun h=>?_)⟩
 ·have i:aE dev=true:=by simpa using h
  rcases d with d | rfl
  ·rw [i] at d;cases d
  ·refine ⟨_,(hb.ext c.ext).cj aL _,af.yes (by simp) ⟨_,FD,NQ rfl c.ext e c.no c.own (by rw [if_pos i])⟩⟩
theorem Vn {s:AS} {sv bv:AV} {sec:List Int} (hs:gy s sv sec) (hl:sec.length<=64) (dev:List UInt8) (Z:aE dev=true) {v:List Int} (hv:Wc v) (hm:q7 v=true) (hb:gy s bv (y5 sec dev v)) :
  aa Tryz.prog ot [sv,.str dev,bv] s fun r s'=>r=.aQ [.agg (v.map (.int .u64)),.int .i64 0]/\Ext s s':=by
 have c:=hv.len;have hd:dev.length<=32:=by
  simp only [aE,decide_eq_true_eq] at Z;omega
 have z:=R5 sec dev c;have ad:=FC c;have A:=jK sec (tn dev++y4 v);refine aa.pre fun hw=>CD _ _ _ _ _ (ak.intro hw rfl fun l1 s2 B=>?_);refine aa.use (uL dev _) ?_;rintro v3 s4 ⟨rfl,rfl⟩ w4;have k:=hb.ext B.ext;refine ⟨_,rfl,af.no (by simp [Z]) ⟨_,k.cj aL _,af.no (by simp [z]) ⟨_,k.cj aL _,af.no (by simp [z]) ?_⟩⟩⟩;obtain ⟨ae,J,d⟩:=k.head bS aL er (i:=128) (by omega) .i64;obtain ⟨al,K,l⟩:=k.rest bS aL er (i:=128) (by omega) .i64;have t1:(y5 sec dev v).take 128=y4 v:=by rw [y5,List.take_append_of_le_length (by omega),List.take_of_length_le (by omega)]
 have t2:(y5 sec dev v).drop 128=zM sec (tn dev++y4 v):=by rw [y5,List.drop_append_of_le_length (by omega),List.drop_eq_nil_of_le (by omega),List.nil_append]
 rw [t1] at d;rw [t2] at l;refine ⟨_,J,_,K,?_⟩;refine aa.use (OH d (TX v) (by omega)) ?_;rintro am fN ⟨p,rfl,hp,rp,L⟩ an;refine ⟨_,rfl,?_⟩;refine aa.use (NP rp) ?_;rintro ao tD ⟨rfl,M,ab⟩ O;have m:=TW hv [];rw [List.append_nil] at m;rw [show (v.flatMap fun n=>xq n 8)=y4 v from rfl] at m;rw [m.1];have Q:Ext s4 tD:=Ext.wr L hp M;refine ⟨_,rfl,k_ O (by simp [c]) rfl (b_ _ _) fun ar C x=>?_⟩;have j:=Q.trans x.ext;have R:=B.own.ext j;refine ⟨fun vs s'=>vs=[.bool false]/\Ext C s'/\aM s',?_,fun q _ v s'=>q=9->∃ la o,v=.ptr (some (la,o)),fun q _ w=>(q=1->w=.bool true)/\(q=7->w=.agg ((zM sec (tn dev++y4 v)).map (.int .u8)))/\(q=9->∃ la o,w=.ptr (some (la,o))/\aC C la o 32=some ((zM sec (tn dev++y4 v)).map (.int .u8))),fun q _ w s s' e h=>h,?_⟩
 ·rintro b aw ⟨hb,y,S⟩;obtain rfl:b=false:=by simpa using hb
  refine af.no rfl ⟨_,SO c (x.own.ext y).at,NQ c ((B.ext.trans j).trans y) S B.no (R.ext y) rfl⟩
 ·refine ⟨_,SO c x.own.at,fun a0 a1 a2 _=>?_,⟨_,(fun _=>rfl),(fun h=>by cases h),(fun h=>by cases h)⟩,fun a3 D=>?_⟩
  ·refine (OI c _).mono ?_;rintro w s' ⟨rfl,e⟩;exact ⟨_,rfl,e,(fun h=>by cases h),(fun _=>by rw [hm]),(fun h=>by cases h),(fun h=>by cases h)⟩
  ·obtain rfl:=D.1 rfl;obtain ⟨la,o,U,F⟩:=Sl.WC (l.ext j) A;refine ⟨_,rfl,af.no rfl ⟨fun sR G a4 _=>?_,⟨_,(fun h=>by cases h),(fun _=>rfl),(fun h=>by cases h)⟩,fun a5 H=>?_⟩⟩
   ·refine (OJ (hs.ext ((B.ext.trans j).trans G)) hl (d.ext (j.trans G)) (by omega) dev (by omega)).mono ?_;rintro w s' ⟨rfl,e⟩;exact ⟨_,rfl,e,(fun h=>by cases h),(fun h=>by cases h),(fun _=>rfl),(fun h=>by cases h)⟩
   ·obtain rfl:=H.2.1 rfl;refine ⟨_,rfl,fun a6 a7 a8 _=>⟨_,U,Ext.refl _,(fun _=>⟨la,o,rfl⟩),(fun h=>by cases h),(fun h=>by cases h),(fun _=>⟨la,o,rfl,F _ (Ext.refl _)⟩)⟩,⟨_,(fun h=>by cases h),(fun h=>by cases h),(fun _=>⟨la,o,rfl,F _ (Ext.refl _)⟩)⟩,fun a9 I=>?_⟩;obtain ⟨a',o',rfl,hr'⟩:=I.2.2 rfl;refine ⟨_,rfl,_,hr',fun ba W bb _=>?_⟩;refine aa.use (NI A _) ?_;rintro w bc ⟨rfl,X⟩ Y;exact ⟨_,rfl,rfl,W.trans X,Y⟩
end Go.Proofs.YtohgmogbabkkeaaGreat
end

section
namespace Go.Proofs.YtohgmogbabkkeaaGreat
open Go.Am Go.au Go.aB Go.bM
structure Ev where
 id:aK
 dL:List UInt8
 uM:List Int
 jP:List Int
 to:List DX
structure mS where
 ev:Ev
 pv:AV
 tv:AV
 len:ev.jP.length=16
 p1:pv.one=true
 t1:tv.one=true
def iu (m:mS):List AV:=[.int .i64 m.ev.id.r,.int .u64 m.ev.id.c,.str m.ev.dL,m.pv]++(m.ev.jP.map (.int .u64)++[m.tv])
theorem aY (m:mS):(iu m).length=21:=by simp [iu,m.len]
theorem dI (m:mS):(iu m).all AV.one=true:=by
 have b:=m.p1;have h2:=m.t1;have h3:=b_ .u64 m.ev.jP;rw [iu,List.all_append,List.all_append,h3];simp [b,h2]
theorem AT (m:mS) {i:Nat} (h:i<16):(iu m)[4+i]? = some (.int .u64 (m.ev.jP.getD i 0)):=by
 have b:=m.len;rw [iu,List.getElem?_append_right (by simp),List.getElem?_append_left (by simp;omega),List.getElem?_map,List.getElem?_eq_getElem (by simp;omega),List.getD_eq_getElem?_getD];simp [List.getElem?_eq_getElem (show i<m.ev.jP.length by omega)]
theorem qP (m:mS):(iu m)[20]? = some m.tv:=by
 have b:=m.len;rw [iu,List.getElem?_append_right (by simp),List.getElem?_append_right (by simp;omega)];simp [b]
theorem NR (m:mS):((iu m).drop 0).take 2=aN m.ev.id:=rfl
theorem OK (m:mS):((iu m).drop 4).take 16=m.ev.jP.map (.int .u64):=by
 have b:=m.len;rw [iu,List.drop_append_of_le_length (by simp)];simp [List.take_append_of_le_length,b]
theorem gD (m:mS):((iu m).drop 0).take 21=iu m:=by rw [List.drop_zero,List.take_of_length_le (by rw [aY];exact Nat.le_refl _)]
def AU (s:AS) (m:mS):Prop:=gy s m.pv m.ev.uM/\Sl qZ 3 s m.tv m.ev.to
theorem AU.ext {s s':AS} {m:mS} (h:AU s m) (e:Ext s s'):AU s' m:=⟨h.1.ext e,h.2.ext e⟩
theorem Cc (d:aK) (s:AS):aa Tryz.prog jr [.agg (aN d)] s fun v s'=>v=.bool d.may/\Ext s s':=by
 refine aa.pre fun b=>EY _ _ _ ⟨rfl,ak.intro b rfl fun l s1 F=>?_⟩;simp only [F.own.at.av,aN,List.getElem?_cons_zero,List.getElem?_cons_succ,go_sem,gj,F.ext,and_true,aK.may]
 grind
theorem uN (t:List UInt8) (s:AS):aa Tryz.prog fO [.str t] s fun v s'=>v=.bool (aE t)/\s'=s:=by
 refine CW _ _ _ ⟨_,kF t s,af.dec (fun h=>⟨_,kF t s,?_,rfl⟩) (fun h=>⟨?_,rfl⟩)⟩
 ·congr 1;rw [aE,decide_eq_decide];omega
 ·congr 1;symm;rw [aE,decide_eq_false_iff_not];omega
theorem R8 (a b:aK) (s:AS):aa Tryz.prog uh [.agg (aN a),.agg (aN b)] s fun v s'=>v=.bool (a.lt b)/\Ext s s':=by
 refine aa.pre fun k=>IS _ _ _ _ ⟨rfl,ak.intro k rfl fun l s1 F=>⟨rfl,ak.intro F.wf rfl fun m s2 c=>?_⟩⟩;have e:=F.ext.trans c.ext;refine ⟨fun _ _ _ _=>True,fun _ _ v=>v=.int .i64 (sJ a.r b.r),fun _ _ _ _ _ _ _=>trivial,?_⟩;simp only [(F.own.ext c.ext).at.av,c.own.at.av,aN,List.getElem?_cons_zero,List.getElem?_cons_succ,go_sem];refine ⟨fun s7 _ _ _=>?_,⟨_,rfl⟩,?_⟩
 ·refine (jY _ _ _).mono ?_;rintro v s' ⟨rfl,rfl⟩;exact ⟨_,rfl,Ext.refl _,trivial,rfl⟩
 ·rintro v rfl;refine ⟨_,rfl,fun gr d _ _=>?_⟩;refine aa.use (iq _ _ _) ?_;rintro v s' ⟨rfl,rfl⟩ i;refine ⟨_,rfl,_,NH _ _,ak.intro i rfl fun l3 s3 j=>?_⟩;refine (pB _ _ j.own.at).mono ?_;rintro v s' ⟨rfl,rfl⟩;refine ⟨_,rfl,?_,e.trans (d.trans j.ext)⟩;congr 1;rw [Bool.eq_iff_iff,decide_eq_true_eq,<- aK.fM,aK.cmp]
theorem Vo {s:AS} {l o:Nat} {C:List AV} {v:List Int} (hv:v.length=16) (h:At s l C) (b:(C.drop o).take 16=v.map (.int .u64)):Sl wI 1 s (.slc (some (l,o)) 16 16 true) v:=by
 have d:v.flatMap wI=v.map (.int .u64):=by
  clear hv b
  induction v with
  | nil=>rfl
  | cons x xs e=>rw [List.flatMap_cons,e];rfl
 exact (bX.mk (n:=16) (c:=16) h (by rw [d];simp [hv]) (by rw [d];exact b)) |> (hv ▸ ·)
theorem P6 {v:List Int} (hv:v.length=16) (s:AS):aa Tryz.prog lX [.agg (v.map (.int .u64))] s fun r s'=>r=.bool (q7 v)/\Ext s s':=by
 refine aa.pre fun c=>z_ _ _ _ ⟨b_ _ _,ak.intro c rfl fun l1 s2 b=>⟨_,m_ wk ju (by decide),?_⟩⟩;have hs:=Vo hv b.own.at (by rw [List.drop_zero,List.take_of_length_le (by simp [hv])]);refine aa.use (tu (P:=fun n=>decide (n>4611686018427387904)) hs (by omega) fun i _ s' e w=>xK _ _ _ ⟨rfl,Ext.refl _⟩) ?_;rintro w j ⟨rfl,d⟩ k;refine ⟨_,rfl,?_,b.ext.trans d⟩;congr 1;rw [q7,Bool.eq_iff_iff];simp only [Bool.not_eq_true',List.any_eq_false,decide_eq_true_eq,List.all_eq_true,Int.not_lt,gt_iff_lt]
def uO (l:List DX) (j:Nat):Bool:=match l[j]? with
 | none=>true
 | some t=>t.dot.may&&aE t.dev&&(decide (j=0)||match l[j - 1]? with
  | none=>true
  | some u=>u.dot.lt t.dot)
def wS (l:List DX):Bool:=(List.range l.length).all (uO l)
def wT (e:Ev):Bool:=decide (e.jP.getD (e.id.r.toNat - 1) 0=IntKind.wrap .u64 (e.id.c - 1))
def sr (e:Ev):Bool:=e.id.may&&q7 e.jP&&wT e&&aE e.dL&&decide (e.uM.length<=512)&&decide (e.to.length<=1024)&&wS e.to
theorem Cd {d:aK} (h:d.may=true):IntKind.wrap .i64 (d.r - 1)=((d.r.toNat - 1:Nat):Int)/\d.r.toNat - 1<16:=by
 have:=aK.gB.1 h;rw [aW (by omega)];omega
set_option maxRecDepth 20000 in
theorem TY {s:AS} {m:mS} (h:AU s m):aa Tryz.prog v_ [.agg (iu m)] s fun r s'=>r=.bool (sr m.ev)/\Ext s s':=by
 refine aa.pre fun hw=>K_ _ _ _ ⟨dI m,ak.intro hw rfl fun l1 s2 M=>?_⟩;have c2:=M.own.at;have ev:=aY m;refine ⟨_,c2.aC (by omega),?_⟩;rw [NR];refine aa.use (Cc _ _) ?_;rintro v4 s5 ⟨rfl,O⟩ w5;have c5:=c2.ext O;refine ⟨_,rfl,af.mk (fun hb=>⟨?_,M.ext.trans O⟩) (fun hb=>⟨_,c5.aC (by omega),?_⟩)⟩
 ·simp only [Bool.not_eq_true'] at hb;simp [sr,hb]
 have C:m.ev.id.may=true:=by simpa using hb
 rw [OK];refine aa.use (P6 m.len _) ?_;rintro v8 s9 ⟨rfl,e9⟩ w9;have p:=c5.ext e9;have w:=(M.ext.trans O).trans e9;refine ⟨_,rfl,af.mk (fun hb=>⟨?_,w⟩) (fun hb=>⟨m.ev.id.r,by rw [p.av];rfl,?_⟩)⟩
 ·simp only [Bool.not_eq_true'] at hb;simp [sr,hb]
 have hv:q7 m.ev.jP=true:=by simpa using hb
 obtain ⟨hr,D⟩:=Cd C;dsimp only;rw [hr];have hx:ag T bg (.ptr (some (l1,4))) (.int .i64 ((m.ev.id.r.toNat - 1:Nat):Int))=some (.ptr (some (l1,4+(m.ev.id.r.toNat - 1)))):=by
  rw [Qk (by omega)];simp
 refine ⟨_,_,hx,_,by rw [p.av,AT m D],m.ev.id.c,by rw [p.av];rfl,af.mk (fun hb=>⟨?_,w⟩) (fun hb=>?_)⟩
 ·have:wT m.ev=false:=decide_eq_false (bne_iff_ne.1 hb);simp [sr,this]
 have hp:wT m.ev=true:=decide_eq_true (by rw [bne_eq_false_iff_eq] at hb;exact hb);refine ⟨m.ev.dL,by rw [p.av];rfl,?_⟩;refine aa.use (uN _ _) ?_;rintro ab eC ⟨rfl,rfl⟩ Q;have e:=h.ext w;refine ⟨_,rfl,af.mk (fun hb=>⟨?_,w⟩) (fun hb=>⟨m.pv,by rw [p.av];rfl,_,e.1.cj aL _,af.dec (fun F=>⟨?_,w⟩) (fun F=>⟨m.tv,by rw [p.av,qP],_,e.2.cj fJ _,af.dec (fun z=>⟨?_,w⟩) (fun z=>⟨m.tv,by rw [p.av,qP],_,e.2.cj fJ _,?_⟩)⟩)⟩)⟩
 ·have:aE m.ev.dL=false:=by simpa using hb
  simp [sr,this]
 ·simp [sr,show ¬ m.ev.uM.length<=512 by omega]
 ·simp [sr,show ¬ m.ev.to.length<=1024 by omega]
 have hn:aE m.ev.dL=true:=by simpa using hb
 have G:sr m.ev=wS m.ev.to:=by
  simp [sr,C,hv,hp,hn,show m.ev.uM.length<=512 by omega,show m.ev.to.length<=1024 by omega]
 rw [G];refine ⟨fun m' vs s'=>∃ i:Nat,vs=[.bool true,.int .i64 (i:Nat)]/\i<=m.ev.to.length/\m'=m.ev.to.length - i/\Ext eC s'/\aM s'/\(List.range i).all (uO m.ev.to)=true,m.ev.to.length,⟨0,rfl,by omega,rfl,Ext.refl _,Q,rfl⟩,?_⟩;rintro m' b n mP ⟨i,hi,h6,rfl,A,R,x⟩;simp only [List.cons.injEq,AV.int.injEq,AV.bool.injEq,true_and,and_true] at hi;obtain ⟨rfl,rfl⟩:=hi;refine af.dec (fun ad=>?_) (fun ae=>?_)
 ·obtain ⟨y,H⟩:=cS (l:=m.ev.to) (i:=i) (by omega);obtain ⟨la,o,h8,h9⟩:=e.2.ix (by decide) d_ fJ Bx H;refine ⟨la,o,h8 _,_,(h9 _ A).2,k_ R (d_ y) rfl (tg y) fun al mG B=>?_⟩;have k:=A.trans B.ext;refine ⟨fun vs s'=>vs=[.bool (uO m.ev.to i)]/\Ext mG s'/\aM s',?_,?_⟩
  ·rintro b am ⟨hb,I,S⟩;simp only [List.cons.injEq,AV.bool.injEq,and_true] at hb;subst hb;refine af.mk (fun hb=>⟨?_,w.trans (k.trans I)⟩) (fun hb=>?_)
   ·have j:uO m.ev.to i=false:=by simpa using hb
    rw [j];congr 1;symm;rw [wS,List.all_eq_false];exact ⟨i,by simp;omega,by simp [j]⟩
   ·have j:uO m.ev.to i=true:=by simpa using hb
    refine ⟨m.ev.to.length - (i+1),by omega,i+1,by rw [j,AL (by omega)],by omega,rfl,k.trans I,S,?_⟩;rw [List.range_succ,List.all_append,x];simp [j]
  ·refine ⟨_,B.own.at.aC (by rw [d_];omega),?_⟩;rw [show ((qZ y).drop 0).take 2=aN y.dot from rfl];refine aa.use (Cc _ _) ?_;rintro an ao ⟨rfl,d⟩ U;have J:=(B.own.ext d).at;refine ⟨_,rfl,af.mk (fun K=>⟨y.dev,by rw [J.av];rfl,?_⟩) (fun K=>⟨by simp [uO,H,K],d,U⟩)⟩;refine aa.use (uN _ _) ?_;rintro ar aw ⟨rfl,rfl⟩ L;refine ⟨_,rfl,af.mk (fun h2=>af.mk (fun h3=>⟨?_,d,L⟩) (fun h3=>?_)) (fun h2=>⟨by simp [uO,H,K,h2],d,L⟩)⟩
   ·obtain rfl:i=0:=by simp at h3;omega
    simp [uO,H,K,h2]
   ·have W:i≠0:=by simp at h3;omega
    obtain ⟨u,hu⟩:=cS (l:=m.ev.to) (i:=i - 1) (by omega);obtain ⟨lu,ou,k8,k9⟩:=e.2.ix (by decide) d_ fJ Bx hu;have X:IntKind.wrap .i64 ((i:Int) - 1)=((i - 1:Nat):Int):=by rw [aW (by omega)];omega
    rw [X];refine ⟨m.tv,by rw [((p.ext (k.trans d))).av,qP],lu,ou,k8 _,aN u.dot,?_,_,J.aC (by rw [d_];omega),?_⟩
    ·exact rK (k9 _ (k.trans d)).2 (by omega)
    ·rw [show ((qZ y).drop 0).take 2=aN y.dot from rfl];refine aa.use (R8 _ _ _) ?_;rintro a0 a1 ⟨rfl,Y⟩ Z;exact ⟨_,rfl,by simp [uO,H,K,h2,W,hu],d.trans Y,Z⟩
 ·obtain rfl:i=m.ev.to.length:=by omega
  exact ⟨by rw [wS,x],w.trans A⟩
def under (v:List Int) (d:aK):Bool:=d.may&&decide (v.getD (d.r.toNat - 1) 0>=d.c)
theorem R9 {v:List Int} (hv:v.length=16) (d:aK) (s:AS):aa Tryz.prog rU [.agg (v.map (.int .u64)),.agg (aN d)] s fun r s'=>r=.bool (under v d)/\Ext s s':=by
 refine aa.pre fun n=>Gk _ _ _ _ ⟨b_ _ _,ak.intro n rfl fun l1 s2 e=>⟨rfl,ak.intro e.wf rfl fun l3 s4 b=>⟨_,b.own.at.aC (by simp [aN]),?_⟩⟩⟩;refine aa.use (Cc _ _) ?_;rintro p s7 ⟨rfl,j⟩ w;have k:=(e.ext.trans b.ext).trans j;have l:=(b.own.ext j).at;have o:=((e.own.ext b.ext).ext j).at;refine ⟨_,rfl,af.mk (fun hb=>⟨d.r,by rw [l.av];rfl,?_⟩) (fun hb=>⟨by simp [under,hb],k⟩)⟩;obtain ⟨hr,m⟩:=Cd hb;dsimp only;rw [hr];exact ⟨_,_,Qk (by omega),_,o.Pg (i:=d.r.toNat - 1) (by omega) (by simp),d.c,by rw [l.av];rfl,by simp [under,hb],k⟩
def iP (l:List DX) (dev:List UInt8):List aK:=(l.filter fun t=>t.dev==dev).map DX.dot
theorem V0 {s:AS} {m:mS} (h:AU s m) (D:m.ev.to.length<=2 ^ 29) (dev:List UInt8):aa Tryz.prog yz [.agg (iu m),.str dev] s fun r s'=>aT aN 2 [] s s' r (iP m.ev.to dev):=by
 refine aa.pre fun k=>Nf _ _ _ _ ⟨dI m,ak.intro k rfl fun l1 s2 d=>?_⟩;have h2:=h.ext d.ext;refine ⟨m.tv,by rw [d.own.at.av,qP],_,h2.2.cj fJ _,fun m' vs s'=>∃ (i:Nat) (v:AV),vs=[v,.int .i64 (i:Nat)]/\i<=m.ev.to.length/\m'=m.ev.to.length - i/\aM s'/\aT aN 2 [] s s' v (iP (m.ev.to.take i) dev),m.ev.to.length,⟨0,_,rfl,by omega,rfl,d.wf,aT.start d.ext.mut⟩,?_⟩;rintro m' n F p ⟨i,v,hi,G,rfl,e,c⟩;simp only [List.cons.injEq,AV.int.injEq,true_and,and_true] at hi;obtain ⟨rfl,rfl⟩:=hi;refine af.dec (fun w=>?_) (fun x=>?_)
 ·obtain ⟨y,j⟩:=cS (l:=m.ev.to) (i:=i) (by omega);obtain ⟨la,o,z,A⟩:=h.2.ix (by decide) d_ fJ Bx j;have ht:m.ev.to.take (i+1)=m.ev.to.take i++[y]:=by rw [List.take_add_one,j];rfl
  have hlen:(iP (m.ev.to.take i) dev).length<=i:=by
   simp only [iP,List.length_map];exact Nat.le_trans (List.length_filter_le _ _) (by rw [List.length_take];omega)
  refine ⟨la,o,z _,_,(A _ c.ew.ext).2,k_ e (d_ y) rfl (tg y) fun lq B b=>⟨y.dev,by rw [b.own.at.av];rfl,af.mk (fun hb=>?_) (fun hb=>?_)⟩⟩
  ·refine ⟨_,b.own.at.aC (by rw [d_];omega),?_⟩;rw [show ((qZ y).drop 0).take 2=aN y.dot from rfl];refine aT.iT iD bn mA b.wf (c.step b.ext) (by simp) y.dot (by omega) fun v' s' C w' _=>⟨m.ev.to.length - (i+1),by omega,i+1,v',by rw [AL (by omega)],by omega,rfl,w',?_⟩;rw [ht,iP,List.filter_append,List.map_append];simp only [List.filter_cons,hb,if_true,List.filter_nil,List.map_cons,List.map_nil];exact C
  ·refine ⟨m.ev.to.length - (i+1),by omega,i+1,n,by rw [AL (by omega)],by omega,rfl,b.wf,?_⟩;rw [ht,iP,List.filter_append];simp only [List.filter_cons,hb,List.filter_nil,Bool.false_eq_true,if_false,List.append_nil];exact c.step b.ext
 ·rw [List.take_of_length_le (by omega)] at c;exact c
end Go.Proofs.YtohgmogbabkkeaaGreat
end

section
namespace Go.Proofs.YtohgmogbabkkeaaGreat
open Go.Am Go.au Go.aB Go.bM
/-! ### marks of objects -/
def Tag (s:AS) (y g:Nat):Prop:=∃ cs,s.h y=some (.cells cs g false)
theorem Tag.uniq {s:AS} {y a b:Nat} (h:Tag s y a) (c:Tag s y b):a=b:=by
 obtain ⟨cs,h⟩:=h;obtain ⟨cs',c⟩:=c;rw [h] at c;simp only [Option.some.injEq,AO.cells.injEq] at c;exact c.2.1
theorem br.tag {α:Type} {f:α->List AV} {sz:Nat} {s:AS} {v:AV} {l:List α} (h:br f sz s v l):∀ y∈ay v,Tag s y sz:=by
 intro y b;rcases h with ⟨_,a,rfl⟩ | ⟨la,rfl,h⟩
 ·simp [ay] at b
 ·obtain rfl:y=la:=by simpa [ay] using b
  exact ⟨_,h⟩
theorem Own.tag {s:AS} {l:Nat} {cs:List AV} (h:Am.Own s l cs):Tag s l 0:=⟨cs,h⟩
theorem Tag.there {s:AS} {y g:Nat} (h:Tag s y g):s.h y≠none:=by
 obtain ⟨cs,h⟩:=h;rw [h];simp
theorem br.eY {α:Type} {f:α->List AV} {sz:Nat} {s s':AS} {v:AV} {l:List α} {L:List Nat} (h:br f sz s v l) (m:bD L s s') (b:∀ y∈L,∀ g,Tag s y g->g≠sz):br f sz s' v l :=
 h.mut m fun y c hm=>b y hm sz (br.tag h y c) rfl
theorem br.kZ {α:Type} {f:α->List AV} {sz:Nat} {s:AS} {v:AV} {l:List α} (h:br f sz s v l):∀ y∈ay v,s.h y≠none:=fun y b=>(br.tag h y b).there
/-! ### events in memory of one's own -/
def jZ (F:List Nat) (s:AS) (m:mS):Prop:=br pK 1 s m.pv m.ev.uM/\br qZ 3 s m.tv m.ev.to/\∀ y,y∈ay m.pv\/y∈ay m.tv->y∈F
theorem jZ.at {F:List Nat} {s:AS} {m:mS} (h:jZ F s m):AU s m:=⟨h.1.sl bS,h.2.1.sl d_⟩
theorem jZ.mut {F:List Nat} {s s':AS} {m:mS} {L:List Nat} (h:jZ F s m) (e:bD L s s') (c:∀ y∈L,y ∉ F):jZ F s' m :=
 ⟨h.1.mut e fun y b hm=>c y hm (h.2.2 y (.inl b)),h.2.1.mut e fun y b hm=>c y hm (h.2.2 y (.inr b)),h.2.2⟩
theorem jZ.ext {F:List Nat} {s s':AS} {m:mS} (h:jZ F s m) (e:Ext s s'):jZ F s' m:=h.mut (L:=[]) e.mut (by simp)
theorem jZ.sub {F F':List Nat} {s:AS} {m:mS} (h:jZ F s m) (b:∀ y∈F,y∈F'):jZ F' s m:=⟨h.1,h.2.1,fun y c=>b y (h.2.2 y c)⟩
theorem jZ.eY {F:List Nat} {s s':AS} {m:mS} {L:List Nat} (h:jZ F s m) (e:bD L s s') (c:∀ y∈L,∀ g,Tag s y g->g≠1/\g≠3):jZ F s' m :=
 ⟨br.eY h.1 e fun y b g t=>(c y b g t).1,br.eY h.2.1 e fun y b g t=>(c y b g t).2,h.2.2⟩
def mS.set (m:mS) (v w:AV) (b:v.one=true) (h2:w.one=true):mS:=⟨m.ev,v,w,m.len,b,h2⟩
theorem TZ (m:mS) (v w:AV) (b:v.one=true) (h2:w.one=true):((iu m).set 3 v).set 20 w=iu (m.set v w b h2):=by
 have c:=m.len;simp only [iu,mS.set];rw [List.set_append,if_pos (by simp),List.set_append,if_neg (by simp)];simp [List.set_append,c]
theorem nO:Bn T bH ic 21 208:=⟨c_,xo,Tg,⟨_,_,KN,rfl,rfl⟩,by decide,by decide⟩
theorem gR:Bn T bp bg 16 128:=⟨dA,sN,Rj,⟨_,_,Pm,rfl,rfl⟩,by decide,by decide⟩
theorem P7 {s:AS} {v:AV} {l:List DX} (b:Sl qZ 3 s v l) (i:l.length<=2 ^ 30):aa Tryz.prog bC [v] s fun r s'=>aT qZ 3 [] s s' r l:=by
 refine aa.pre fun j=>pW _ _ _ ?_;have main:aR (cV T bR 0 []) fun k=>ak (.cells k 0 false) s fun l3 s4=>iF (aI T bR bR (.slc (some (l3,0)) 0 0 true) v s4) fun m s6=>aT qZ 3 [] s s6 m l:=by
  refine ⟨_,zG tj,ak.intro j rfl fun l3 s4 F=>?_⟩;refine aT.kH tj d_ tg F.wf (aT.start (M:=[]) F.ext.mut) (by simp) (b.ext F.ext) (by simpa using i) fJ fun v' s' g _ _=>?_;simpa using g
 rcases b with ⟨rfl,_,d⟩ | ⟨a,c,e,rfl,hlen,h3⟩
 ·refine ⟨_,ru fJ _ _ _ _,af.no rfl main⟩
 ·refine ⟨_,rm fJ _ _ _ _ _ _ _ _,af.mk (fun h=>?_) (fun _=>main)⟩;have:a=none:=by simpa using h
  subst this;have:l=[]:=by
   rcases h3 with h3 | ⟨la,o,C,h,_⟩
   ·exact List.length_eq_zero_iff.1 h3
   ·cases h
  subst this;exact aT.nil
set_option maxRecDepth 20000 in
theorem FE {s:AS} {m:mS} (h:AU s m) (R:m.ev.uM.length<=2 ^ 30) (h2:m.ev.to.length<=2 ^ 30):aa Tryz.prog dW [.agg (iu m)] s fun r s'=>∃ (m':mS) (F:List Nat),m'.ev=m.ev/\r=.agg (iu m')/\jZ F s' m'/\(∀ y∈F,s.h y=none)/\(∀ y∈F,s'.h y≠none)/\Ext s s':=by
 refine aa.pre fun S=>IG _ _ _ ⟨dI m,ak.intro S rfl fun l1 s2 w=>ak.intro w.wf rfl fun l3 s4 A=>?_⟩;have D:=w.ext.trans A.ext;have ev:=aY m;have G:=w.own.ext A.ext;have h4:=h.ext D;have d13:l1≠l3:=fun e=>by
  have:=A.no;rw [<- e,w.own] at this;cases this
 refine ⟨fun q _ v s'=>(q=2->aT pK 1 [] s4 s' v m.ev.uM)/\(q=5->aT qZ 3 [] s4 s' v m.ev.to),fun q _ v=>v.one=true,fun q _ v s s' e g=>⟨fun I=>(g.1 I).step e,fun I=>(g.2 I).step e⟩,m.pv,by rw [G.at.av];rfl,fun s6 M Y _=>?_,⟨_,m.p1⟩,fun B l=>⟨m.tv,by rw [G.at.av,qP],fun U C W _=>?_,⟨_,m.t1⟩,fun n c gr x J O=>?_⟩⟩
 ·refine (Cb (h4.1.ext M) R).mono ?_;intro v s' g;exact ⟨g.ew.ext,⟨(fun _=>aT.back g M),(fun h=>by cases h)⟩,g.iS.2⟩
 ·refine (P7 (h4.2.ext C) h2).mono ?_;intro v s' g;exact ⟨g.ew.ext,⟨(fun h=>by cases h),(fun _=>aT.back g C)⟩,g.iS.2⟩
 have o:=O.1.1 rfl;have b:=O.2.1.2 rfl;have p:∀ {v:AV} {f:Nat},(∀ la∈ay v,s4.h la=none)->∀ y∈ay v,y ∉ [l1]:=fun h y d hm=>by
  obtain rfl:=List.mem_singleton.1 hm;have:=h y d;rw [G] at this;cases this
 have H:∀ {v:AV} {f:Nat},(∀ la∈ay v,s4.h la=none)->∀ y∈ay v,y ∉ [l3]:=fun h y d hm=>by
  obtain rfl:=List.mem_singleton.1 hm;have:=h y d;rw [A.own] at this;cases this
 refine cK l qk (bz.own J (G.ext x) (by simp [ev]) fun lH i=>?_);have K:Am.Own lH l1 ((iu m).set 3 B):=i.at;refine cK c Rk (bz.own i.wf K (by simp [ev]) fun eC j=>?_);have L:Am.Own eC l1 (iu (m.set B n l c)):=by
  have:=j.at;rw [fo,TZ m B n l c] at this;exact this
 have z:=aY (m.set B n l c);have X:=((A.own.ext x).mut i.mut (by simpa using Ne.symm d13)).mut j.mut (by simpa using Ne.symm d13);refine ⟨_,L.at.aC (by omega),?_⟩;rw [gD];refine ⟨⟨dI _,by rw [z]⟩,bz.own j.wf X (by rw [z];simp) fun fN k=>?_⟩;have Q:=k.at;rw [dB (by rw [z];simp)] at Q;refine ⟨_,At.aC ⟨_,_,Q⟩ (by omega),m.set B n l c,ay B++ay n,rfl,by rw [gD],⟨?_,?_,fun y d=>List.mem_append.2 d⟩,?_,?_,Ext.wr (Ext.wr (Ext.wr (D.trans x) w.no i.mut) w.no j.mut) (w.ext.none A.no) k.mut⟩
 ·exact ((o.u6.mut i.mut (p (f:=0) o.new)).mut j.mut (p (f:=0) o.new)).mut k.mut (H (f:=0) o.new)
 ·exact ((b.u6.mut i.mut (p (f:=0) b.new)).mut j.mut (p (f:=0) b.new)).mut k.mut (H (f:=0) b.new)
 ·intro y d;rcases List.mem_append.1 d with d | d
  ·exact D.none (o.new y d)
  ·exact D.none (b.new y d)
 ·intro y d;rcases List.mem_append.1 d with d | d
  ·exact br.kZ (((o.u6.mut i.mut (p (f:=0) o.new)).mut j.mut (p (f:=0) o.new)).mut k.mut (H (f:=0) o.new)) y d
  ·exact br.kZ (((b.u6.mut i.mut (p (f:=0) b.new)).mut j.mut (p (f:=0) b.new)).mut k.mut (H (f:=0) b.new)) y d
/-! ### the caster -/
structure gA where
 v:List Int
 log:List Ev
 JF:List (List Int)
 held:aK->Option Ev
 nh:Nat
def gA.zero:gA:=⟨eW,[],[],fun _=>none,0⟩
structure FO where
 v:List Int
 len:v.length=16
def q8 (m:FO):List AV:=m.v.map (.int .u64)
theorem cG (m:FO):(q8 m).length=16:=by simp [q8,m.len]
theorem nW (m:FO):(q8 m).all AV.one=true:=b_ _ _
def f_ (v:List Int) (lg bh hd:AV):List AV:=[.int .i64 3,.int .i64 1]++(v.map (.int .u64)++[lg,bh,hd])
def WU (m:mS):AV:=.agg (iu m)
structure jE (F:List Nat) (s:AS) (p:Nat) (c:gA):Prop where
 len:c.v.length=16
 mem:∃ (lg bh:AV) (hm:Nat) (L:List mS) (B:List FO) (es:List (aK×mS×Nat)) (k:Nat),
  Am.Own s p (f_ c.v lg bh (.map (some hm)))/\p∈F/\hm∈F /\
  (br iu 21 s lg L/\(∀ y∈ay lg,y∈F)/\L.map mS.ev=c.log/\∀ m∈L,jZ F s m) /\
  (br q8 16 s bh B/\(∀ y∈ay bh,y∈F)/\B.map FO.v=c.JF) /\
  eJ dK WU s hm es k false/\(∀ d,(dV es d).map mS.ev=c.held d)/\es.length=c.nh/\∀ e∈es,jZ F s e.2.1
section
variable {F F':List Nat} {s s':AS} {p:Nat} {c:gA}
theorem jE.mut {L:List Nat} (h:jE F s p c) (m:bD L s s') (d:∀ y∈L,y ∉ F):jE F s' p c:=by
 obtain ⟨l,lg,bh,hm,n,B,es,k,o,h2,h3,⟨a1,a2,a3,a4⟩,⟨r,j,w⟩,z,c2,A,C⟩:=h;exact ⟨l,lg,bh,hm,n,B,es,k,o.mut m (fun b=>d p b h2),h2,h3,⟨a1.mut m (fun y i b=>d y b (a2 y i)),a2,a3,fun x b=>(a4 x b).mut m d⟩,⟨r.mut m (fun y i b=>d y b (j y i)),j,w⟩,z.mut m (fun b=>d hm b h3),c2,A,fun e D=>(C e D).mut m d⟩
theorem jE.ext (h:jE F s p c) (e:Ext s s'):jE F s' p c:=h.mut (L:=[]) e.mut (by simp)
end
theorem oL {v:List Int} (h:v.length=16) (lg bh hd:AV):(f_ v lg bh hd).length=21:=by simp [f_,h]
theorem JG {v:List Int} (h:v.length=16) (lg bh hd:AV) {i:Nat} (hi:i<16):(f_ v lg bh hd)[2+i]? = some (.int .u64 (v.getD i 0)):=by
 rw [f_,List.getElem?_append_right (by simp),List.getElem?_append_left (by simp;omega),List.getElem?_map,List.getElem?_eq_getElem (by simp;omega),List.getD_eq_getElem?_getD];simp [List.getElem?_eq_getElem (show i<v.length by omega)]
theorem y6 {v:List Int} (h:v.length=16) (lg bh hd:AV):(f_ v lg bh hd)[18]? = some lg/\(f_ v lg bh hd)[19]? = some bh/\(f_ v lg bh hd)[20]? = some hd:=by
 refine ⟨?_,?_,?_⟩ <;>
 ·rw [f_,List.getElem?_append_right (by simp),List.getElem?_append_right (by simp;omega)];simp [h]
theorem AW {v:List Int} (h:v.length=16) (lg bh hd:AV):((f_ v lg bh hd).drop 2).take 16=v.map (.int .u64):=by
 rw [f_,List.drop_append_of_le_length (by simp)];simp [List.take_append_of_le_length,h]
theorem HC {v:List Int} (h:v.length=16) (lg bh hd:AV) {i:Nat} (hi:i<16) (x:Int):(f_ v lg bh hd).set (2+i) (.int .u64 x)=f_ (v.set i x) lg bh hd:=by
 rw [f_,f_,List.set_append,if_neg (by simp),List.set_append,if_pos (by simp;omega),List.map_set];simp
theorem P8 {v:List Int} (h:v.length=16) (lg bh hd b c:AV):((f_ v lg bh hd).set 18 b).set 19 c=f_ v b c hd:=by
 simp [f_,List.set_append,h]
theorem HD {t k e:TypeId} (hu:T.cQ t=some (.map k e)) (r:Option Nat):iY T 100 t (.map r) (.map none)=some r.isNone:=by
 cases r <;> simp [iY,hu]
section
variable {F:List Nat} {s:AS} {p:Nat} {c:gA}
theorem xw (h:jE F s p c):aa Tryz.prog ec [.ptr (some (p,0))] s fun r s'=>r=.bool true/\s'=s:=by
 obtain ⟨b,lg,bh,hm,e,B,es,k,d,_⟩:=h;exact xB _ _ _ ⟨_,iG uX _,af.yes rfl ⟨_,by rw [d.at.av,(y6 b lg bh _).2.2],_,HD x4 _,rfl,rfl⟩⟩
theorem OL (h:jE F s p c):aa Tryz.prog fU [.ptr (some (p,0))] s fun r s'=>r=.int .i64 (c.log.length:Nat)/\s'=s:=by
 refine zV _ _ _ ?_;refine aa.use (xw h) ?_;rintro v s2 ⟨rfl,rfl⟩ _;obtain ⟨b,lg,bh,hm,e,B,es,k,d,_,_,⟨a1,_,a3,_⟩,_⟩:=h;refine ⟨_,rfl,af.no rfl ⟨lg,by rw [d.at.av,(y6 b lg bh _).1],_,(a1.sl aY).cj c_ _,?_,rfl⟩⟩;rw [<- a3,List.length_map]
def nP (e:Ev):Bool:=sr e&&decide (e.id.r<=3)&&(e.jP.drop 3).all fun n=>decide (n=0)
set_option maxRecDepth 20000 in
theorem Vp (h:jE F s p c) {m:mS} (hm:AU s m):aa Tryz.prog lT [.ptr (some (p,0)),.agg (iu m)] s fun r s'=>r=.bool (nP m.ev)/\Ext s s':=by
 have ev:=aY m;refine aa.pre fun U=>zY _ _ _ _ ⟨dI m,ak.intro U rfl fun l1 s2 G=>⟨_,G.own.at.aC (by omega),?_⟩⟩;rw [gD];refine aa.use (TY (hm.ext G.ext)) ?_;rintro v4 M ⟨rfl,O⟩ w5;have z:=G.ext.trans O;obtain ⟨hl,lg,bh,uR,L',B,es,k,Q,_⟩:=h.ext z;have A:=(G.own.ext O).at;refine ⟨_,rfl,af.mk (fun hb=>⟨?_,z⟩) (fun hb=>⟨m.ev.id.r,by rw [A.av];rfl,3,by rw [Q.at.av];rfl,af.dec (fun H=>⟨?_,z⟩) (fun H=>⟨m.ev.id.r,by rw [A.av];rfl,?_⟩)⟩)⟩
 ·simp only [Bool.not_eq_true'] at hb;simp [nP,hb]
 ·simp [nP,show ¬ m.ev.id.r<=3 by omega]
 have C:sr m.ev=true:=by simpa using hb
 have b:=C;simp only [sr,Bool.and_eq_true] at b;have I:m.ev.id.may=true:=b.1.1.1.1.1.1;have j:wT m.ev=true:=b.1.1.1.1.2;obtain ⟨hr,D⟩:=Cd I;dsimp only;rw [hr];have W:ag T bg (.ptr (some (l1,4))) (.int .i64 ((m.ev.id.r.toNat - 1:Nat):Int))=some (.ptr (some (l1,4+(m.ev.id.r.toNat - 1)))):=by
  rw [Qk (by omega)];simp
 have d:(m.ev.jP.drop 3).all (fun n=>decide (n=0))=nP m.ev:=by simp [nP,C,show m.ev.id.r<=3 by omega]
 refine ⟨_,_,W,_,by rw [A.av,AT m D],m.ev.id.c,by rw [A.av];rfl,af.no (bne_eq_false_iff_eq.2 (of_decide_eq_true j)) ⟨3,by rw [Q.at.av];rfl,?_⟩⟩;have X:=m.len;have e:(m.ev.jP.drop 3).length=13:=by rw [List.length_drop];omega
 have J:aZ T bg (.ptr (some (l1,4))) (some (.int .i64 3)) none none=some (.slc (some (l1,7)) 13 13 true):=by
  simp only [aZ,wk,ju,Option.bind_some];rfl
 have R:Sl wI 1 M (.slc (some (l1,7)) 13 13 true) (m.ev.jP.drop 3):=by
  have S:∀ v:List Int,v.flatMap wI=v.map (.int .u64):=fun v=>by
   induction v with
   | nil=>rfl
   | cons x xs Y=>rw [List.flatMap_cons,Y];rfl
  refine (bX.mk (n:=13) (c:=13) A (by rw [S,List.length_map,e]) ?_) |> (e ▸ ·);have:=OK m;rw [S,List.map_drop,<- this,List.drop_take,List.drop_drop]
 refine ⟨_,J,_,R.cj jx _,fun m' vs s'=>∃ i:Nat,vs=[.int .i64 (i:Nat)]/\i<=(m.ev.jP.drop 3).length/\m'=(m.ev.jP.drop 3).length - i/\s'=M/\((m.ev.jP.drop 3).take i).all (fun n=>decide (n=0))=true,(m.ev.jP.drop 3).length,⟨0,rfl,by omega,rfl,rfl,rfl⟩,?_⟩;rintro m' n dM ⟨i,hi,h6,rfl,rfl,w⟩;simp only [List.cons.injEq,AV.int.injEq,true_and,and_true] at hi;subst hi;refine af.dec (fun Z=>?_) (fun ab=>⟨?_,z⟩)
 ·obtain ⟨y,K⟩:=cS (l:=m.ev.jP.drop 3) (i:=i) (by omega);obtain ⟨la,o,h8,h9⟩:=R.ix (by decide) tr jx ju K;refine ⟨la,o,h8 _,y,by simpa [wI] using (h9 _ (Ext.refl _)).1 0 (by decide),af.mk (fun L=>⟨?_,z⟩) (fun L=>⟨(m.ev.jP.drop 3).length - (i+1),by omega,i+1,by rw [AL (by omega)],by omega,rfl,rfl,?_⟩)⟩
  ·rw [<- d];congr 1;symm;rw [List.all_eq_false];exact ⟨y,List.mem_of_getElem? K,by simpa using L⟩
  ·rw [List.take_add_one,K,List.all_append,w];simpa using L
 ·rw [List.take_of_length_le (by omega)] at w;rw [<- d,w]
end
end Go.Proofs.YtohgmogbabkkeaaGreat
end

section
namespace Go.Proofs.YtohgmogbabkkeaaGreat
open Go.Am Go.au Go.aB Go.bM
def wU (p:Nat) (s s':AS):Prop:=∀ l cs g,s.h l=some (.cells cs g false)->g≠21->g≠16->(g=0->l≠p)->s'.h l=some (.cells cs g false)
theorem wU.trans {p:Nat} {a b c:AS} (h:wU p a b) (i:wU p b c):wU p a c:=fun l cs g e d h2 h3=>i l cs g (h l cs g e d h2 h3) d h2 h3
theorem Ext.eY {p:Nat} {a b:AS} (h:Ext a b):wU p a b:=fun l cs g e _ _ _=>h.1 l _ e
theorem br.OM {α:Type} {f:α->List AV} {sz p:Nat} {s s':AS} {v:AV} {l:List α} (h:br f sz s v l) (k:wU p s s') (b:sz≠21) (h2:sz≠16) (h3:sz≠0):br f sz s' v l:=by
 rcases h with ⟨h,a,rfl⟩ | ⟨la,rfl,h⟩
 ·exact .inl ⟨h,a,rfl⟩
 ·exact .inr ⟨la,rfl,k _ _ _ h b h2 (fun e=>absurd e h3)⟩
def JQ (m:mS):List Nat:=ay m.pv++ay m.tv
theorem jZ.JQ {F:List Nat} {s:AS} {m:mS} (h:jZ F s m):∀ y∈JQ m,s.h y≠none:=fun y b=>by
 rcases List.mem_append.1 b with b | b
 ·exact br.kZ h.1 y b
 ·exact br.kZ h.2.1 y b
theorem jE.JH {F:List Nat} {s:AS} {p:Nat} {c:gA} (h:jE F s p c):∃ F0,jE F0 s p c/\(∀ y∈F0,y∈F)/\(∀ y∈F0,s.h y≠none)/\∀ y∈F0,y≠p->¬ Tag s y 0:=by
 obtain ⟨w,lg,bh,hm,L,B,es,k,r,h2,h3,⟨a1,a2,a3,a4⟩,⟨l,x,z⟩,n,c2,A,i⟩:=h;refine ⟨p::hm::(ay lg++(ay bh++(L.flatMap JQ++es.flatMap fun e=>JQ e.2.1))),⟨w,lg,bh,hm,L,B,es,k,r,by simp,by simp,⟨a1,fun y b=>by simp [b],a3,fun m hm=>⟨(a4 m hm).1,(a4 m hm).2.1,fun y b=>?_⟩⟩,⟨l,fun y b=>by simp [b],z⟩,n,c2,A,fun e d=>⟨(i e d).1,(i e d).2.1,fun y b=>?_⟩⟩,?_,?_,?_⟩
 ·have:y∈L.flatMap JQ:=List.mem_flatMap.2 ⟨m,hm,List.mem_append.2 b⟩;simp [this]
 ·have:y∈es.flatMap fun e=>JQ e.2.1:=List.mem_flatMap.2 ⟨e,d,List.mem_append.2 b⟩;simp only [List.mem_cons,List.mem_append,this,or_true]
 ·intro y b;simp only [List.mem_cons,List.mem_append] at b;rcases b with rfl | rfl | b | b | b | b
  ·exact h2
  ·exact h3
  ·exact a2 y b
  ·exact x y b
  ·obtain ⟨m,hm,b⟩:=List.mem_flatMap.1 b;exact (a4 m hm).2.2 y (List.mem_append.1 b)
  ·obtain ⟨e,d,b⟩:=List.mem_flatMap.1 b;exact (i e d).2.2 y (List.mem_append.1 b)
 ·intro y b;simp only [List.mem_cons,List.mem_append] at b;rcases b with rfl | rfl | b | b | b | b
  ·rw [r];simp
  ·rw [n.obj];simp
  ·exact br.kZ a1 y b
  ·exact br.kZ l y b
  ·obtain ⟨m,hm,b⟩:=List.mem_flatMap.1 b;exact (a4 m hm).JQ y b
  ·obtain ⟨e,d,b⟩:=List.mem_flatMap.1 b;exact (i e d).JQ y b
 ·intro y b o ht;have j:∀ {F:List Nat} {m:mS},jZ F s m->y∈JQ m->False:=fun h b=>by
   rcases List.mem_append.1 b with b | b
   ·have:=ht.uniq (br.tag h.1 y b);omega
   ·have:=ht.uniq (br.tag h.2.1 y b);omega
  simp only [List.mem_cons,List.mem_append] at b;rcases b with rfl | rfl | b | b | b | b
  ·exact o rfl
  ·obtain ⟨cs,ht⟩:=ht;rw [n.obj] at ht;cases ht
  ·have:=ht.uniq (br.tag a1 y b);omega
  ·have:=ht.uniq (br.tag l y b);omega
  ·obtain ⟨m,hm,b⟩:=List.mem_flatMap.1 b;exact j (a4 m hm) b
  ·obtain ⟨e,d,b⟩:=List.mem_flatMap.1 b;exact j (i e d) b
theorem jE.tight {F:List Nat} {s:AS} {p:Nat} {c:gA} (h:jE F s p c):∃ F0,jE F0 s p c/\(∀ y∈F0,y∈F)/\∀ y∈F0,s.h y≠none:=by
 obtain ⟨F0,b,h2,h3,_⟩:=h.JH;exact ⟨F0,b,h2,h3⟩
theorem P9 (hm:Nat):aV T r8 [(0,.int .i64 3),(1,.int .i64 1),(5,.map (some hm))]=some (.agg (f_ eW (.slc none 0 0 true) (.slc none 0 0 true) (.map (some hm)))):=by kernel_rfl
theorem T1 (s:AS):aa Tryz.prog yx [.int .i64 3,.int .i64 1] s fun r s'=>∃ p F,r=.aQ [.ptr (some (p,0)),.int .i64 0]/\jE F s' p gA.zero/\(∀ y∈F,s.h y=none)/\(∀ y∈F,s'.h y≠none)/\Ext s s':=by
 refine aa.pre fun l=>MY _ _ _ _ ⟨fun vs s'=>vs=[.bool false]/\s'=s,?_,af.no rfl (af.no rfl (af.no rfl ⟨rfl,rfl⟩))⟩;rintro b s3 ⟨hb,rfl⟩;obtain rfl:b=false:=by simpa using hb
 refine af.no rfl (ak.intro l rfl fun j m c=>⟨_,P9 j,rfl,ak.intro c.wf rfl fun k s8 e=>⟨k,[k,j],rfl,⟨rfl,_,_,j,[],[],[],0,e.own,by simp,by simp,⟨br.nil,by simp [ay],rfl,by simp⟩,⟨br.nil,by simp [ay],rfl⟩,eJ.new (e.ext.1 _ _ c.at),fun d=>rfl,rfl,by simp⟩,?_,?_,c.ext.trans e.ext⟩⟩)
 ·intro y i;simp only [List.mem_cons,List.not_mem_nil,or_false] at i;rcases i with rfl | rfl
  ·exact c.ext.none e.no
  ·exact c.no
 ·intro y i;simp only [List.mem_cons,List.not_mem_nil,or_false] at i;rcases i with rfl | rfl
  ·rw [e.at];simp
  ·rw [e.ext.1 _ _ c.at];simp
theorem br.FF {α:Type} {f:α->List AV} {sz:Nat} (e:∀ x,(f x).length=sz) (i:0<sz) {s:AS} {v v':AV} {l l':List α} (h:br f sz s v l) (c:br f sz s v' l') (j:l.length≠l'.length):∀ y∈ay v,y ∉ ay v':=by
 intro y d b;rcases h with ⟨_,a,rfl⟩ | ⟨la,rfl,h⟩
 ·simp [ay] at d
 rcases c with ⟨_,a,rfl⟩ | ⟨lb,rfl,c⟩
 ·simp [ay] at b
 simp only [ay,List.mem_singleton] at d b;subst d;subst b;rw [h] at c;simp only [Option.some.injEq,AO.cells.injEq] at c;have:=congrArg List.length c.1;rw [dU e,dU e] at this;exact j (Nat.eq_of_mul_eq_mul_right i this)
theorem br.one {α:Type} {f:α->List AV} {sz:Nat} {s:AS} {v:AV} {l:List α} (h:br f sz s v l):v.one=true:=by
 rcases h with ⟨_,a,rfl⟩ | ⟨la,rfl,_⟩ <;> rfl
def gA.apply (c:gA) (e:Ev):gA:={ c with
 v:=c.v.set (e.id.r.toNat - 1) (IntKind.wrap .u64 (c.v.getD (e.id.r.toNat - 1) 0+1))
 log:=c.log++[e]
 JF:=c.JF++[c.v.set (e.id.r.toNat - 1) (IntKind.wrap .u64 (c.v.getD (e.id.r.toNat - 1) 0+1))] }
theorem Ce {α:Type} {f:α->List AV} {sz:Nat} (b:∀ x,(f x).length=sz) {s:AS} {l:Nat} {x:α} (h:At s l (f x)):Sl f sz s (.slc (some (l,0)) 1 1 true) [x] :=
 bX.mk h (by simp [b]) (by simp [List.take_of_length_le,b])
set_option maxRecDepth 20000 in
theorem R_ {F G:List Nat} {s:AS} {p:Nat} {c:gA} {m:mS} (h:jE F s p c) (hm:jZ G s m) (a':m.ev.id.may=true) (hn:c.log.length+1<=2 ^ 29) (cc:c.JF.length+1<=2 ^ 29) :
  aa Tryz.prog jV [.ptr (some (p,0)),.agg (iu m)] s fun r s'=>r=.aQ []/\∃ F',jE F' s' p (c.apply m.ev)/\bD F s s'/\(∀ y∈F',y∈F\/y∈G\/s.h y=none)/\(∀ y∈F',s'.h y≠none)/\wU p s s':=by
 have ev:=aY m;refine aa.pre fun hw=>xE _ _ _ _ ⟨dI m,ak.intro hw rfl fun l1 s2 U=>⟨m.ev.id.r,by rw [U.own.at.av];rfl,?_⟩⟩;obtain ⟨D,lg,bh,uR,L,B,es,k,W,h2,h3,⟨a1,a2,a3,a4⟩,⟨b1,b2,b3⟩,c1,c2,c3,c4⟩:=id h;obtain ⟨hr,z⟩:=Cd a';have cd:L.length=c.log.length:=by rw [<- a3,List.length_map]
 have ce:B.length=c.JF.length:=by rw [<- b3,List.length_map]
 dsimp only;rw [hr];generalize hi:m.ev.id.r.toNat - 1=i at z ⊢;have o2:=W.ext U.ext;have n:ag T bg (.ptr (some (p,0+2))) (.int .i64 ((i:Nat):Int))=some (.ptr (some (p,2+i))):=by
  rw [Qk (by omega)];simp
 have ba:=oL D lg bh (.map (some uR));refine ⟨_,_,n,_,by rw [o2.at.av,JG D lg bh _ z],_,_,n,bz.own U.wf o2 (by rw [ba];simp;omega) fun bQ K=>?_⟩;generalize oQ:c.v.set i (IntKind.wrap .u64 (c.v.getD i 0+1))=v';have A:v'.length=16:=by rw [<- oQ,List.length_set,D]
 have j:Am.Own bQ p (f_ v' lg bh (.map (some uR))):=by
  have:=K.at;rw [fo,HC D lg bh _ z,oQ] at this;exact this
 have C:=oL A lg bh (.map (some uR));have H:bD [p] s bQ:=U.ext.mut.trans K.mut;have d1:l1≠p:=fun e=>by
  have:=U.no;rw [e,W] at this;cases this
 have Z:Am.Own bQ l1 (iu m):=U.own.mut K.mut (by simpa using d1);have t0:∀ y∈[p],∀ g,Tag s y g->g=0:=fun y d g t=>by
  obtain rfl:=List.mem_singleton.1 d;exact t.uniq (Own.tag W)
 have ab:br iu 21 bQ lg L:=br.eY a1 H fun y d g t=>by rw [t0 y d g t];decide
 have ad:br q8 16 bQ bh B:=br.eY b1 H fun y d g t=>by rw [t0 y d g t];decide
 have ta:=br.tag ab;have tb:=br.tag ad;have tL:∀ y∈ay lg++ay bh,∃ g,Tag bQ y g/\(g=21\/g=16):=fun y d=>by
  rcases List.mem_append.1 d with d | d
  ·exact ⟨21,ta y d,.inl rfl⟩
  ·exact ⟨16,tb y d,.inr rfl⟩
 have hs:=y6 A lg bh (.map (some uR))
 let Y:FO:=⟨v',A⟩
 refine ⟨fun a b=>(∀ l cs,Am.Own a l cs->Am.Own b l cs)/\(∀ v,br iu 21 a v (L++[m])->br iu 21 b v (L++[m]))/\bD (ay lg++ay bh) a b,fun q _ v s'=>(q=8->br q8 16 s' bh B)/\(q=18->br q8 16 s' v (B++[Y])),fun s'=>br iu 21 s' lg L/\br q8 16 s' bh B,
  fun q _ v s'=>(q=7->∃ l,v=.slc (some (l,0)) 1 1 true/\Am.Own s' l (iu m))/\(q=8->br iu 21 s' v (L++[m])/\∀ y∈ay v,y∈ay lg++ay bh\/bQ.h y=none)/\(q=17->∃ l,v=.slc (some (l,0)) 1 1 true/\Am.Own s' l (q8 Y))/\(q=18->∀ y∈ay v,y∈ay lg++ay bh\/bQ.h y=none),
  fun q _ v=>(q=8\/q=18->v.one=true),fun a b e=>⟨fun l cs o=>o.ext e,fun v g=>g.ext e,e.mut⟩,fun a b c x y=>⟨fun l cs o=>y.1 l cs (x.1 l cs o),fun v g=>y.2.1 v (x.2.1 v g),x.2.2.trans y.2.2⟩,fun q _ v a b e g=>⟨fun w=>(g.1 w).ext e,fun w=>(g.2 w).ext e⟩,?_,fun a b e g=>⟨g.1.ext e,g.2.ext e⟩,⟨ab,ad⟩,?_⟩
 ·rintro q ks v a b ⟨x1,x2,_⟩ ⟨M,g2,g3,g4⟩;refine ⟨fun w=>?_,fun w=>⟨x2 v (g2 w).1,(g2 w).2⟩,fun w=>?_,g4⟩
  ·obtain ⟨l,e,O⟩:=M w;exact ⟨l,e,x1 _ _ O⟩
  ·obtain ⟨l,e,O⟩:=g3 w;exact ⟨l,e,x1 _ _ O⟩
 have ae:∀ s',Am.Own s' p (f_ v' lg bh (.map (some uR)))->av s' p (0+18)=some lg:=fun s' o=>by rw [o.at.av];exact hs.1
 have al:∀ s',Am.Own s' p (f_ v' lg bh (.map (some uR)))->av s' p (0+19)=some bh:=fun s' o=>by rw [o.at.av];exact hs.2.1
 have rl:∀ s',Am.Own s' l1 (iu m)->aC s' l1 0 21=some (iu m):=fun s' o=>by rw [o.at.aC (by omega),gD]
 have rv:∀ s',Am.Own s' p (f_ v' lg bh (.map (some uR)))->aC s' p (0+2) 16=some (q8 Y):=fun s' o=>by rw [o.at.aC (by rw [C];omega),AW A];rfl
 have new:∀ {s':AS} {y:Nat},bD (ay lg++ay bh) bQ s'->s'.h y=none->y∈ay lg++ay bh\/bQ.h y=none:=fun {s' y} mm hn=>by
  by_cases d:y∈ay lg++ay bh
  ·exact .inl d
  ·right;cases w:bQ.h y with
   | none=>rfl
   | some o=>rw [mm.1 y o d w] at hn;cases hn
 refine ⟨fun s' _ _=>rfl,_,ae _ j,fun s' x _=>⟨_,ae _ (x.1 _ _ j),rfl⟩,_,rl _ Z,fun s' x _=>⟨_,rl _ (x.1 _ _ Z),rfl⟩,fun dM cf bb _=>⟨_,ke nO (aY m) (dI m),ak.intro bb rfl fun bc ch am=>⟨am.ext,⟨(fun _=>⟨bc,rfl,am.own⟩),(fun h=>by cases h),(fun h=>by cases h),(fun h=>by cases h)⟩,(fun h=>by rcases h with h | h <;> cases h)⟩⟩,⟨.bad,(fun h=>by rcases h with h | h <;> cases h)⟩,fun ci _=>⟨fun ck bd be hS hc=>?_,⟨.nilFunc,fun _=>rfl⟩,fun I an=>⟨fun s' _ _=>rfl,_,al _ j,fun s' x _=>⟨_,al _ (x.1 _ _ j),rfl⟩,fun s' _ _=>rfl,_,rv _ j,fun s' x _=>⟨_,rv _ (x.1 _ _ j),rfl⟩,fun cl cm bi _=>⟨_,ke gR (cG Y) (nW Y),ak.intro bi rfl fun bj Hj ao=>⟨ao.ext,⟨(fun h=>by cases h),(fun h=>by cases h),(fun _=>⟨bj,rfl,ao.own⟩),(fun h=>by cases h)⟩,(fun h=>by rcases h with h | h <;> cases h)⟩⟩,⟨.bad,(fun h=>by rcases h with h | h <;> cases h)⟩,fun cn _=>⟨fun cp bk bl hS hc=>?_,⟨.nilFunc,fun _=>rfl⟩,fun Q ar=>⟨fun s' _ _=>rfl,fun aw a0 bm hS hC=>?_⟩⟩⟩⟩⟩
 ·obtain ⟨l,rfl,O⟩:=hS.1.1 rfl;obtain ⟨ga,gb⟩:=hc;obtain ⟨v',s',e1,M,J,_,n1⟩:=br.append nO aY dI be ga (Ce aY O.at) (by simp;omega) c_;have t1:=br.tag ga;refine ⟨v',s',e1,⟨⟨fun l cs o=>o.mut J fun d=>?_,fun v g=>g.mut J (br.FF aY (by decide) g ga (by simp)),J.mono fun y d=>List.mem_append_left _ d⟩,(fun _=>gb.mut J fun y d n=>?_),(fun h=>by cases h)⟩,⟨(fun h=>by cases h),(fun _=>⟨M,fun y d=>?_⟩),(fun h=>by cases h),(fun h=>by cases h)⟩,fun _=>br.one M⟩
  ·have:=(t1 _ d).uniq (Own.tag o);omega
  ·have:=(t1 _ n).uniq (br.tag gb y d);omega
  ·rcases n1 y d with h | h
   ·exact .inl (List.mem_append_left _ h)
   ·exact new bd.2.2 h
 ·obtain ⟨l,rfl,O⟩:=hS.2.2.1.2.2.1 rfl;have gb:=hc.1 rfl;obtain ⟨v',s',e1,M,J,_,n1⟩:=br.append gR cG nW bl gb (Ce cG O.at) (by simp;omega) dA;have t1:=br.tag gb;refine ⟨v',s',e1,⟨⟨fun l cs o=>o.mut J fun d=>?_,fun v g=>g.mut J fun y d n=>?_,J.mono fun y d=>List.mem_append_right _ d⟩,(fun h=>by cases h),(fun _=>M)⟩,⟨(fun h=>by cases h),(fun h=>by cases h),(fun h=>by cases h),(fun _ y d=>?_)⟩,fun _=>br.one M⟩
  ·have:=(t1 _ d).uniq (Own.tag o);omega
  ·have:=(t1 _ n).uniq (br.tag g y d);omega
  ·rcases n1 y d with h | h
   ·exact .inl (List.mem_append_right _ h)
   ·exact new bk.2.2 h
 ·obtain ⟨_,⟨_,h8,_⟩,_,⟨_,_,_,bo⟩,_⟩:=hS;obtain ⟨bs,bx⟩:=h8 rfl;have b0:=bo rfl;have b4:=hC.2 rfl;have a5:=a0.1 _ _ j;refine cK (an (.inl rfl)) xl (bz.own bm a5 (by simp [C]) fun b5 R=>?_);have b6:Am.Own b5 p ((f_ v' lg bh (.map (some uR))).set 18 I):=R.at;refine cK (ar (.inr rfl)) qC (bz.own R.wf b6 (by simp [C]) fun Rm a6=>⟨rfl,?_⟩);have b7:Am.Own Rm p (f_ v' I Q (.map (some uR))):=by
   have:=a6.at;rw [fo,P8 A] at this;exact this
  have S:bD [p] aw Rm:=R.mut.trans a6.mut;have t64:∀ y∈[p],∀ g,Tag aw y g->g=0:=fun y d g t=>by
   obtain rfl:=List.mem_singleton.1 d;exact t.uniq (Own.tag a5)
  have MA:bD (p::(ay lg++ay bh)) s Rm:=((H.mono (by simp)).trans (a0.2.2.mono (fun y d=>List.mem_cons_of_mem _ d))).trans (S.mono (by simp));have tA:∀ y∈p::(ay lg++ay bh),∀ g,Tag s y g->g=0\/g=21\/g=16:=fun y d g t=>by
   rcases List.mem_cons.1 d with rfl | d
   ·exact .inl (t.uniq (Own.tag W))
   ·rcases List.mem_append.1 d with d | d
    ·exact .inr (.inl (t.uniq (br.tag a1 y d)))
    ·exact .inr (.inr (t.uniq (br.tag b1 y d)))
  have kE:∀ {X:List Nat} {x:mS},jZ X s x->jZ X Rm x:=fun n=>n.eY MA fun y d g t=>by rcases tA y d g t with h | h | h <;> omega
  have a7:∀ y,y∈ay lg++ay bh\/bQ.h y=none->y∈F\/s.h y=none:=fun y d=>by
   rcases d with d | d
   ·rcases List.mem_append.1 d with d | d
    ·exact .inl (a2 y d)
    ·exact .inl (b2 y d)
   ·right;cases w:s.h y with
    | none=>rfl
    | some o =>
     by_cases a8:y=p
     ·subst a8;rw [j] at d;cases d
     ·rw [H.1 y o (by simpa using a8) w] at d;cases d
  have b8:jE (ay I++(ay Q++(F++G))) Rm p (c.apply m.ev):=by
   refine ⟨by simp [gA.apply,D],I,Q,uR,L++[m],B++[Y],es,k,?_,by simp [h2],by simp [h3],⟨br.eY bs S fun y d g t=>by rw [t64 y d g t];decide,fun y d=>by simp [d],by simp [gA.apply,a3],fun x n=>?_⟩,⟨br.eY b4 S fun y d g t=>by rw [t64 y d g t];decide,fun y d=>by simp [d],?_⟩,c1.mut MA ?_,c2,c3,fun e he=>(kE (c4 e he)).sub fun y d=>by simp [d]⟩
   ·simp only [gA.apply,hi,oQ];exact b7
   ·rcases List.mem_append.1 n with n | n
    ·exact (kE (a4 x n)).sub fun y d=>by simp [d]
    ·obtain rfl:=List.mem_singleton.1 n;exact (kE hm).sub fun y d=>by simp [d]
   ·simp only [gA.apply,hi,oQ,List.map_append,b3];rfl
   ·intro d;have:∀ g,¬ Tag s uR g:=fun g ⟨cs,t⟩=>by rw [c1.obj] at t;cases t
    rcases List.mem_cons.1 d with rfl | d
    ·exact this _ (Own.tag W)
    ·rcases List.mem_append.1 d with d | d
     ·exact this _ (br.tag a1 _ d)
     ·exact this _ (br.tag b1 _ d)
  obtain ⟨F0,b9,a9,b'⟩:=b8.tight;refine ⟨F0,b9,MA.mono fun y d=>?_,fun y d=>?_,b',fun l cs g D ca cb g0=>MA.1 l _ (fun hm=>?_) D⟩
  rotate_right
  ·rcases List.mem_cons.1 hm with rfl | hm
   ·exact g0 (Tag.uniq ⟨cs,D⟩ (Own.tag W)) rfl
   ·rcases List.mem_append.1 hm with hm | hm
    ·exact ca (Tag.uniq ⟨cs,D⟩ (br.tag a1 _ hm))
    ·exact cb (Tag.uniq ⟨cs,D⟩ (br.tag b1 _ hm))
  ·rcases List.mem_cons.1 d with rfl | d
   ·exact h2
   ·rcases List.mem_append.1 d with d | d
    ·exact a2 y d
    ·exact b2 y d
  ·have:=a9 y d;simp only [List.mem_append] at this;rcases this with h | h | h | h
   ·rcases a7 y (bx y h) with h | h
    ·exact .inl h
    ·exact .inr (.inr h)
   ·rcases a7 y (b0 y h) with h | h
    ·exact .inl h
    ·exact .inr (.inr h)
   ·exact .inl h
   ·exact .inr (.inl h)
end Go.Proofs.YtohgmogbabkkeaaGreat
end

section
namespace Go.Proofs.YtohgmogbabkkeaaGreat
open Go.Am Go.au Go.aB Go.bM
theorem Sa {v:List Int} (h:v.length=16):∃ a b c d e f g i j k l m n o p q:Int,v=[a,b,c,d,e,f,g,i,j,k,l,m,n,o,p,q]:=by
 match v,h with
 | [a,b,c,d,e,f,g,i,j,k,l,m,n,o,p,q],_=>exact ⟨a,b,c,d,e,f,g,i,j,k,l,m,n,o,p,q,rfl⟩
theorem L9 {id:aK} {dL:List UInt8} {pv tv:AV} {jP:List Int} (x:jP.length=16) (y:pv.one=true) (h2:tv.one=true):aV T ic [(0,.agg (aN id)),(1,.str dL),(2,pv),(3,.agg (jP.map (.int .u64))),(4,tv)]=some (.agg ([.int .i64 id.r,.int .u64 id.c,.str dL,pv]++(jP.map (.int .u64)++[tv]))):=by
 obtain ⟨a,b,c,d,e,f,g,i,j,k,l,m,n,o,p,q,rfl⟩:=Sa x;have e1:∀ v:AV,v.one=true->bJ v=some [v]:=fun v hv=>by cases v <;> first | rfl | cases hv
 rw [qj (pl:=[(0,2),(2,1),(3,1),(4,16),(20,1)]) (by kernel_rfl) KN rfl];have z:bJ (.agg (aN id))=some [.int .i64 id.r,.int .u64 id.c]:=rfl;have A:bJ (.str dL)=some [.str dL]:=rfl;have w:bJ (.agg ([a,b,c,d,e,f,g,i,j,k,l,m,n,o,p,q].map (AV.int .u64)))=some ([a,b,c,d,e,f,g,i,j,k,l,m,n,o,p,q].map (AV.int .u64)):=rfl;simp only [List.map_cons,List.map_nil] at w ⊢;simp only [iZ,AV.cells,e1 _ y,e1 _ h2,z,A,w,List.getElem?_cons_zero,List.getElem?_cons_succ,List.length_cons,List.length_nil,List.length_map,Nat.zero_add,Nat.reduceAdd,Nat.reduceLeDiff,and_self,if_true,qe,List.set_cons_zero,List.set_cons_succ,List.map_cons,List.map_nil,Option.map_some,List.cons_append,List.nil_append]
def JR:List AV:=[.int .i64 0,.int .u64 0,.str [],.slc none 0 0 true,.int .u64 0,.int .u64 0,.int .u64 0,.int .u64 0,.int .u64 0,.int .u64 0,.int .u64 0,.int .u64 0,.int .u64 0,.int .u64 0,.int .u64 0,.int .u64 0,.int .u64 0,.int .u64 0,.int .u64 0,.int .u64 0,.slc none 0 0 true]
theorem HE:aV T ic []=some (.agg JR):=by kernel_rfl
theorem FG {s4 s7:AS} {l1:Nat} {g C:List AV} (c:g.length=21) (d:C.length=21) (P:Uj s4 s7 l1 (.cells (qe C 0 g) 0 false)):Am.Own s7 l1 g/\aC s7 l1 0 21=some g:=by
 have b:=P.at;rw [dB (by omega)] at b;exact ⟨b,by rw [At.aC ⟨_,_,b⟩ (by omega),List.drop_zero,List.take_of_length_le (by omega)]⟩
def NS (c:gA) (dL:List UInt8) (uM:List Int) (to:List DX):Ev:=⟨⟨1,IntKind.wrap .u64 (c.v.getD 0 0+1)⟩,dL,uM,c.v,to⟩
set_option maxRecDepth 20000 in
theorem NT {F:List Nat} {s:AS} {p:Nat} {c:gA} (h:jE F s p c) (a3:∀ y∈F,s.h y≠none) {dL:List UInt8} {pv tv:AV} {uM:List Int} {to:List DX} (gp:br pK 1 s pv uM) (gt:br qZ 3 s tv to) (a4:0<=c.v.getD 0 0/\c.v.getD 0 0<4611686018427387904) (hn:c.log.length+1<=2 ^ 29) (a5:c.JF.length+1<=2 ^ 29) :
  aa Tryz.prog bI [.ptr (some (p,0)),.str dL,pv,tv] s fun r s' =>
   (nP (NS c dL uM to)=false/\(∃ g,r=.aQ [.agg g,.int .i64 2]/\g.all AV.one=true/\g.length=21)/\Ext s s') \/
   (nP (NS c dL uM to)=true/\(∃ g,r=.aQ [.agg g,.int .i64 0]/\g.all AV.one=true/\g.length=21)/\∃ F',jE F' s' p (c.apply (NS c dL uM to))/\bD F s s'/\(∀ y∈F',y∈F\/s.h y=none)/\(∀ y∈F',s'.h y≠none)/\wU p s s'):=by
 have hp:=gp.sl bS;have ht:=gt.sl d_;have h1:=hp.one;have h2:=ht.one;refine aa.pre fun hw=>vg _ _ _ _ _ _ (ak.intro hw rfl fun l1 s2 A=>?_);have o2:Am.Own s2 l1 JR:=A.own;refine aa.use (xw (h.ext A.ext)) ?_;rintro v3 s4 ⟨rfl,rfl⟩ w4;obtain ⟨X,lg,bh,uR,L,B,es,k,I,_⟩:=id (h.ext A.ext);have a6:=oL X lg bh (.map (some uR))
 let m:mS:=⟨NS c dL uM to,pv,tv,X,h1,h2⟩
 have ev:=aY m;have hx:ag T bg (.ptr (some (p,0+2))) (.int .i64 (IntKind.wrap .i64 (1 - 1)))=some (.ptr (some (p,2+0))):=by
  rw [aW (by omega),Qk (by omega)];rfl
 refine ⟨_,rfl,af.no rfl ⟨fun q _ v s'=>q=24->∃ l,v=.ptr (some (l,0))/\Am.Own s' l JR/\s4.h l=none,fun q _ v=>q=24->∃ l,v=.ptr (some (l,0)),fun q _ v a b e g hq=>by obtain ⟨l,x,y,z⟩:=g hq;exact ⟨l,x,y.ext e,z⟩,1,by rw [I.at.av];rfl,1,by rw [I.at.av];rfl,_,_,hx,_,by rw [I.at.av,JG X lg bh _ (by omega)],_,yR _ _,_,I.at.aC (by rw [a6];omega),?_⟩⟩;rw [AW X];refine ⟨_,L9 X h1 h2,fun dM a7 a8 _=>ak.intro a8 rfl fun Y bo R=>⟨R.ext,(fun _=>⟨Y,rfl,R.own,a7.none R.no⟩),(fun _=>⟨Y,rfl⟩)⟩,⟨.ptr (some (0,0)),fun _=>⟨0,rfl⟩⟩,fun bs Z=>?_⟩;obtain ⟨l,rfl⟩:=Z rfl;refine ⟨_,rfl,fun bx ab a9 hS=>?_⟩;obtain ⟨l',ad,a',J⟩:=hS.1 rfl;simp only [AV.ptr.injEq,Option.some.injEq,Prod.mk.injEq,and_true] at ad;subst ad;refine ⟨⟨dI m,congrArg some ev.symm⟩,bz.own a9 a' (vs:=iu m) (by rw [ev];exact Nat.le_refl _) fun j8 S=>?_⟩;have U:Am.Own j8 l (iu m):=by
  have:=S.at;rw [dB (by rw [show JR.length=21 from rfl];exact ev)] at this;exact this
 have C:Ext s j8:=Ext.wr (A.ext.trans ab) (A.ext.none J) S.mut;have d1:l1≠l:=fun e=>by rw [<- e,o2] at J;cases J
 have K:Am.Own j8 l1 JR:=(o2.ext ab).mut S.mut (by simpa using d1);have ae:IntKind.wrap .u64 (c.v.getD 0 0+1)=c.v.getD 0 0+1:=fy (by omega);refine ⟨IntKind.wrap .u64 (c.v.getD 0 0+1),by rw [U.at.av];rfl,fun vs s'=>s'=j8,?_,af.no (by rw [decide_eq_false_iff_not,ae];omega) rfl⟩;rintro ba rfl;refine ⟨_,U.at.aC (by omega),?_⟩;rw [gD];have hE:AU ba m:=⟨hp.ext C,ht.ext C⟩;have hC:=h.ext C;refine aa.use (Vp hC hE) ?_;rintro b0 b1 ⟨rfl,d⟩ bb;refine ⟨_,rfl,af.mk (fun hb=>⟨_,HE,?_⟩) (fun hb=>af.no (by rw [decide_eq_false_iff_not,ae];omega) ?_)⟩
 ·have bc:nP (NS c dL uM to)=false:=by simpa using hb
  refine ⟨⟨rfl,rfl⟩,bz.own bb (K.ext d) (Nat.le_refl _) fun s7 P=>⟨JR,(FG rfl rfl P).2,.inl ⟨bc,⟨_,rfl,rfl,rfl⟩,Ext.wr (C.trans d) A.no P.mut⟩⟩⟩
 have al:nP (NS c dL uM to)=true:=by simpa using hb
 have n:=al;simp only [nP,sr,Bool.and_eq_true,decide_eq_true_eq] at n;have bd:m.ev.id.may=true:=n.1.1.1.1.1.1.1.1;have b2:m.ev.uM.length<=512:=n.1.1.1.1.2;have b3:m.ev.to.length<=1024:=n.1.1.1.2;have am:=C.trans d;have an:=U.ext d;refine ⟨_,an.at.aC (by omega),?_⟩;rw [gD];refine aa.use (FE (hE.ext d) (by omega) (by omega)) ?_;rintro b4 b5 ⟨m',G,ao,rfl,gE,nG,tG,M⟩ b6;have j:=am.trans M;refine ⟨_,rfl,?_⟩;refine aa.use (R_ (h.ext j) gE (by rw [ao];exact bd) hn a5) ?_;rintro b7 O ⟨rfl,F',ar,Q,D,aw,W⟩ b8;rw [ao] at ar;have nF:∀ y,s.h y=none->y ∉ F:=fun y hn i=>a3 y i hn;have a0:s.h l=none:=A.ext.none J;have be:Am.Own O l (iu m):=(an.ext M).mut Q (nF _ a0);have bi:Am.Own O l1 JR:=((K.ext d).ext M).mut Q (nF _ A.no);have a1:AU O m:=⟨(br.OM (gp.ext j) W (by decide) (by decide) (by decide)).sl bS,(br.OM (gt.ext j) W (by decide) (by decide) (by decide)).sl d_⟩;refine ⟨rfl,_,be.at.aC (by omega),?_⟩;rw [gD];refine aa.use (FE a1 (by omega) (by omega)) ?_;rintro b9 b' ⟨m2,G2,ca,rfl,cb,cc,cd,w⟩ bj;refine ⟨_,rfl,⟨dI m2,by rw [aY]⟩,bz.own bj (bi.ext w) (by rw [aY];exact Nat.le_refl _) fun s7 P=>?_⟩;obtain ⟨_,bk⟩:=FG (aY m2) rfl P;have a2:l1 ∉ F':=fun i=>by
  rcases D l1 i with h | h | h
  ·exact nF _ A.no h
  ·have:=nG l1 h;rw [K.ext d] at this;cases this
  ·rw [(K.ext d).ext M] at h;cases h
 refine ⟨_,bk,.inr ⟨al,⟨_,rfl,dI m2,aY m2⟩,F',(ar.ext w).mut P.mut (fun y i=>by obtain rfl:=List.mem_singleton.1 i;exact a2),?_,?_,?_,fun y cs g i bl bm h0=>?_⟩⟩
 ·refine ⟨fun y o i ho=>?_,Nat.le_trans j.2 (Nat.le_trans Q.2 (Nat.le_trans w.2 (by rw [P.nl];exact Nat.le_refl _)))⟩;have H:y≠l1:=fun e=>by rw [e,A.no] at ho;cases ho
  rw [P.eq y H];exact w.1 _ _ (Q.1 y o i (j.1 _ _ ho))
 ·intro y i;rcases D y i with h | h | h
  ·exact .inl h
  ·exact .inr (am.none (nG y h))
  ·exact .inr (j.none h)
 ·intro y i;have H:y≠l1:=fun e=>a2 (e ▸ i);rw [P.eq y H];cases hq:O.h y with
  | none=>exact absurd hq (aw y i)
  | some ob=>rw [w.1 y ob hq];simp
 ·have H:y≠l1:=fun e=>by rw [e,A.no] at i;cases i
  rw [P.eq y H];exact w.1 _ _ (W y cs g (j.1 _ _ i) bl bm h0)
end Go.Proofs.YtohgmogbabkkeaaGreat
end

section
namespace Go.Proofs.YtohgmogbabkkeaaGreat
open Go.Am Go.au Go.aB Go.bM
theorem Vq {F:List Nat} {s:AS} {p:Nat} {c:gA} (h:jE F s p c) (hb:c.JF.length=c.log.length) {i:Nat} (hi:i<c.log.length) (hp:∀ e∈c.log,e.uM.length<=2 ^ 30/\e.to.length<=2 ^ 30) (ba:i<=2 ^ 40) :
  aa Tryz.prog nq [.ptr (some (p,0)),.int .i64 (i:Nat)] s fun r s'=>∃ (m:mS) (v:FO) (G:List Nat),c.log[i]? = some m.ev/\c.JF[i]? = some v.v/\r=.aQ [.agg (iu m),.agg (q8 v),.bool true]/\jZ G s' m/\(∀ y∈G,s.h y=none)/\(∀ y∈G,s'.h y≠none)/\Ext s s':=by
 refine aa.pre fun hw=>BE _ _ _ _ (ak.intro hw rfl fun l1 s2 C=>ak.intro C.wf rfl fun l3 s4 J=>?_);have e4:=C.ext.trans J.ext;have o1:Am.Own s4 l1 JR:=C.own.ext J.ext;have o3:Am.Own s4 l3 (eW.map (.int .u64)):=J.own;have d13:l1≠l3:=fun e=>by
  have:=J.no;rw [<- e,C.own] at this;cases this
 obtain ⟨hl,lg,bh,uR,L,B,es,k,h1,h2,h3,⟨a1,a2,a3,a4⟩,⟨b1,b2,b3⟩,c1,c2,c3,c4⟩:=id (h.ext e4);have hs:=y6 hl lg bh (.map (some uR));have bb:L.length=c.log.length:=by rw [<- a3,List.length_map]
 have bc:B.length=c.JF.length:=by rw [<- b3,List.length_map]
 have al:l1≠p:=fun e=>by
  obtain ⟨_,_,_,_,_,_,_,_,am,_⟩:=h;have:=C.no;rw [e,am] at this;cases this
 refine ⟨fun vs s'=>vs=[.bool false]/\s'=s4,?_,?_⟩
 ·rintro b s7 ⟨an,rfl⟩;obtain rfl:b=false:=by simpa using an
  obtain ⟨m,hm⟩:=cS (l:=L) (i:=i) (by omega);obtain ⟨v,hv⟩:=cS (l:=B) (i:=i) (by omega);have j:c.log[i]? = some m.ev:=by rw [<- a3,List.getElem?_map,hm];rfl
  have K:c.JF[i]? = some v.v:=by rw [<- b3,List.getElem?_map,hv];rfl
  have ta:=br.tag a1;have tb:=br.tag b1;have key:∀ s',bD [l1] s7 s'->Am.Own s' p (f_ c.v lg bh (.map (some uR)))/\br iu 21 s' lg L/\br q8 16 s' bh B/\AU s' m:=fun s' x=>by
   have t0:∀ y∈[l1],∀ g,Tag s7 y g->g=0:=fun y d g t=>by
    obtain rfl:=List.mem_singleton.1 d;exact t.uniq (Own.tag o1)
   refine ⟨h1.mut x (by simpa using Ne.symm al),br.eY a1 x fun y d g t=>by rw [t0 y d g t];decide,br.eY b1 x fun y d g t=>by rw [t0 y d g t];decide,jZ.at ((a4 m (List.mem_of_getElem? hm)).eY x fun y d g t=>by rw [t0 y d g t];decide)⟩
  have M0:bD [l1] s7 s7:=bD.refl _ _;obtain ⟨la,oa,k8,k9⟩:=(a1.sl aY).ix (by decide) aY c_ xo hm;obtain ⟨lb,ob,m8,m9⟩:=(b1.sl cG).ix (by decide) cG dA sN hv;have M:∀ s',bD [l1] s7 s'->aC s' la oa 21=some (iu m):=fun s' x=>by
   obtain ⟨ao,ar,D,H⟩:=((key s' x).2.1.sl aY).ix (by decide) aY c_ xo hm;have:=(k8 .i64).symm.trans (D .i64);simp only [Option.some.injEq,AV.ptr.injEq,Prod.mk.injEq] at this;rw [this.1,this.2];exact (H _ (Ext.refl _)).2
  have O:∀ s',bD [l1] s7 s'->aC s' lb ob 16=some (q8 v):=fun s' x=>by
   obtain ⟨ao,ar,D,H⟩:=((key s' x).2.2.1.sl cG).ix (by decide) cG dA sN hv;have:=(m8 .i64).symm.trans (D .i64);simp only [Option.some.injEq,AV.ptr.injEq,Prod.mk.injEq] at this;rw [this.1,this.2];exact (H _ (Ext.refl _)).2
  have Q:∀ s',bD [l1] s7 s'->av s' p (0+18)=some lg:=fun s' x=>by rw [(key s' x).1.at.av];exact hs.1
  have R:∀ s',bD [l1] s7 s'->av s' p (0+19)=some bh:=fun s' x=>by rw [(key s' x).1.at.av];exact hs.2.1
  have S:=hp m.ev (List.mem_of_getElem? j);refine af.no rfl ⟨fun a b=>bD [l1] a b/\(a.h l1≠none->b.h l1≠none),fun q ks _ s'=>q=15->∃ g cs,ks=[.ptr (some (l1,0)),.agg g]/\Am.Own s' l1 cs/\cs=g,fun s'=>∃ cs,Am.Own s' l1 cs/\cs.length=21/\l1≠l3,fun q _ v s'=>q=7->∃ m' G,v=.agg (iu m')/\jZ G s' m'/\(∀ y∈G,s7.h y=none)/\m'.ev=m.ev,fun q _ v=>(q=7->∃ m',v=.agg (iu m'))/\(q=15->v=.aQ []),fun a b e=>⟨e.mut,fun hn=>by cases A:a.h l1 with | none=>exact absurd A hn | some o=>rw [e.1 _ _ A];simp⟩,fun a b c x y=>⟨x.1.trans y.1,fun hn=>y.2 (x.2 hn)⟩,fun q ks v a b e g A=>by obtain ⟨g',cs,x,y,z⟩:=g A;exact ⟨g',cs,x,y.ext e,z⟩,fun q _ v a b x g A=>?_,fun a b e g=>by obtain ⟨cs,x,y⟩:=g;exact ⟨cs,x.ext e,y⟩,⟨_,o1,rfl,d13⟩,?_⟩
  ·obtain ⟨m',G,e1,e2,e3,e5⟩:=g A;refine ⟨m',G,e1,e2.mut x.1 fun y d hG=>?_,e3,e5⟩;obtain rfl:=List.mem_singleton.1 d;have:=e3 y hG;rw [o1] at this;cases this
  refine ⟨fun s' _ _=>rfl,_,Q _ M0,fun s' x _=>⟨_,Q _ x.1,rfl⟩,la,oa,k8 _,_,M _ M0,fun s' x _=>⟨_,M _ x.1,rfl⟩,fun aw I bd _=>?_,⟨.agg (iu m),(fun _=>⟨m,rfl⟩),(fun h=>by cases h)⟩,fun be U=>?_⟩
  ·refine (FE (key aw I.1).2.2.2 S.1 S.2).mono ?_;rintro w s' ⟨m',G,a0,rfl,gE,nG,tG,e⟩;refine ⟨_,rfl,e,(fun _=>⟨m',G,rfl,gE,fun y d=>?_,a0⟩),(fun _=>⟨m',rfl⟩),(fun h=>by cases h)⟩;have:=nG y d;cases A:s7.h y with
   | none=>rfl
   | some o =>
    by_cases W:y=l1
    ·subst W;exact absurd this (I.2 (by rw [o1];simp))
    ·rw [I.1.1 y o (by simpa using W) A] at this;cases this
  obtain ⟨m',rfl⟩:=U.1 rfl;refine ⟨_,rfl,fun s' _ _=>rfl,_,R _ M0,fun s' x _=>⟨_,R _ x.1,rfl⟩,lb,ob,m8 _,_,O _ M0,fun s' x _=>⟨_,O _ x.1,rfl⟩,fun sR bi a5 _ hc=>?_,⟨.aQ [],(fun h=>by cases h),(fun _=>rfl)⟩,fun bj X=>?_⟩
  ·obtain ⟨cs,oc,a6,_⟩:=hc;refine ⟨⟨dI m',by rw [aY]⟩,bz.own a5 oc (by rw [aY];omega) fun bk P=>?_⟩;obtain ⟨ho,_⟩:=FG (aY m') a6 P;exact ⟨⟨⟨P.mut,fun _=>by rw [ho];simp⟩,(fun _=>⟨_,_,rfl,ho,rfl⟩)⟩,(fun h=>by cases h),(fun h=>by cases h),(fun _=>rfl)⟩
  ·refine ⟨X.2 rfl,fun wu Y a7 hS hC=>?_⟩;obtain ⟨m2,G,e1,gE,nG,a8⟩:=hS.1 rfl;obtain ⟨g',cs,hk,oc,rfl⟩:=hC rfl;simp only [List.cons.injEq,AV.agg.injEq,true_and,and_true] at hk e1;subst hk;have a9:=o3.mut Y.1 (by simpa using Ne.symm d13);have n3:l3 ∉ G:=fun d=>by
    have:=nG _ d;rw [o3] at this;cases this
   refine ⟨⟨nW v,by rw [cG]⟩,bz.own a7 a9 (by rw [cG];simp [eW]) fun a' P=>?_⟩;have hP:=P.at;rw [dB (by rw [cG];simp [eW])] at hP;have Z:=oc.mut P.mut (by simpa using d13);have ab:=gE.mut P.mut (fun y d hG=>by obtain rfl:=List.mem_singleton.1 d;exact n3 hG);have ad:jZ (JQ m2) a' m2:=⟨ab.1,ab.2.1,fun y d=>List.mem_append.2 d⟩;have ae:=Z.at.aC (o:=0) (n:=21) (by rw [aY];omega);rw [gD] at ae;refine ⟨_,ae,_,by rw [At.aC ⟨_,_,hP⟩ (by rw [cG];omega),List.drop_zero,List.take_of_length_le (by rw [cG];omega)],m2,v,JQ m2,by rw [a8];exact j,K,by rw [e1],ad,fun y d=>e4.none (nG y (gE.2.2 y (List.mem_append.1 d))),ad.JQ,?_⟩
   ·exact Ext.wr (Ext.Wd e4 (fun y d=>by obtain rfl:=List.mem_singleton.1 d;exact C.no) Y.1) (C.ext.none J.no) P.mut
 ·refine aa.use (xw (h.ext e4)) ?_;rintro qU bl ⟨rfl,rfl⟩ bm;refine ⟨_,rfl,af.no rfl (af.no (by rw [decide_eq_false_iff_not];omega) ⟨lg,by rw [h1.at.av];exact hs.1,_,(a1.sl aY).cj c_ _,?_,rfl⟩)⟩;rw [show decide ((i:Int)>=(L.length:Int))=false by rw [decide_eq_false_iff_not];omega]
theorem P_ {s:AS} {m c:Nat} {ro:Bool} {es:List (aK×mS×Nat)} (hm:eJ dK WU s m es c ro):aa Tryz.prog fC [.map (some m)] s fun v s'=>∃ m',v=.map (some m')/\Ext s s':=by
 refine (vP hT Tryz.func158 (tm:=r7) (ti:=rY) (tb:=vr) (cl:=uf) (by kernel_rfl) (by kernel_rfl) (by kernel_rfl) (by kernel_rfl) x4 Tryz.func210 Jr Jt Jq Jp hm.obj).mono ?_;rintro v s' ⟨m',rfl,F⟩;exact ⟨m',rfl,F.ext⟩
theorem Sb {s:AS} {v:AV} {l:List mS} (h:Sl iu 21 s v l):aa Tryz.prog a_ [v] s fun r s'=>r.one=true/\s'=s:=by
 obtain ⟨v',b,h2⟩:=h.head aY c_ xo (i:=l.length) (Nat.le_refl _) .i64;exact pn _ _ _ ⟨_,h.cj c_ _,_,h.cj c_ _,_,b,h2.one,rfl⟩
theorem Sc {s:AS} {v:AV} {l:List FO} (h:Sl q8 16 s v l):aa Tryz.prog bq [v] s fun r s'=>r.one=true/\s'=s:=by
 obtain ⟨v',b,h2⟩:=h.head cG dA sN (i:=l.length) (Nat.le_refl _) .i64;exact nI _ _ _ ⟨_,h.cj dA _,_,h.cj dA _,_,b,h2.one,rfl⟩
set_option maxRecDepth 20000 in
theorem Sd {F:List Nat} {s:AS} {p:Nat} {c:gA} (h:jE F s p c):aa Tryz.prog gX [.ptr (some (p,0))] s fun r s'=>(∃ q,r=.ptr (some q))/\Ext s s':=by
 refine yH _ _ _ ?_;refine aa.use (xw h) ?_;rintro v s2 ⟨rfl,rfl⟩ w2;obtain ⟨O,lg,bh,uR,L,B,es,k,l,h2,h3,⟨a1,a2,a3,a4⟩,⟨x,b2,b3⟩,R,_⟩:=id h;have b:=oL O lg bh (.map (some uR));have hs:=y6 O lg bh (.map (some uR));have m:(f_ c.v lg bh (.map (some uR))).all AV.one=true:=by
  have S:=br.one a1;have U:=br.one x;rw [f_,List.all_append,List.all_append,b_];simp [S,U]
 refine ⟨_,rfl,af.no rfl ⟨_,by rw [l.at.aC (by omega),List.drop_zero,List.take_of_length_le (by omega)],k_ w2 b rfl m fun Q s9 d=>?_⟩⟩;have y:=l.ext d.ext;refine ⟨fun _ _ _ _=>True,fun _ _ v=>v.one=true,fun _ _ _ _ _ _ h=>h,lg,by rw [y.at.av];exact hs.1,fun bQ z W _=>?_,⟨_,br.one a1⟩,fun nD n=>⟨bh,by rw [y.at.av];exact hs.2.1,fun fN A X _=>?_,⟨_,br.one x⟩,fun C o=>⟨_,by rw [y.at.av];exact hs.2.2,fun Y e Z _=>?_⟩⟩⟩
 ·refine (Sb ((a1.ext (d.ext.trans z)).sl aY)).mono ?_;rintro v s' ⟨l,rfl⟩;exact ⟨Ext.refl _,trivial,l⟩
 ·refine (Sc ((x.ext (d.ext.trans A)).sl cG)).mono ?_;rintro v s' ⟨l,rfl⟩;exact ⟨Ext.refl _,trivial,l⟩
 ·refine aa.use (P_ (R.ext (d.ext.trans e))) ?_;rintro ab ad ⟨m',rfl,w⟩ D;have G:=(d.own.ext e).ext w;refine ⟨_,rfl,cK n xl (bz.own D G (by simp [b]) fun H i=>?_)⟩;have I:Am.Own H Q ((f_ c.v lg bh (.map (some uR))).set 18 nD):=i.at;refine cK o qC (bz.own i.wf I (by simp [b]) fun J j=>?_);have K:Am.Own J Q (((f_ c.v lg bh (.map (some uR))).set 18 nD).set 19 C):=j.at;refine bz.own j.wf K (by simp [b]) fun j8 M=>⟨⟨_,rfl⟩,Ext.wr (Ext.wr (Ext.wr ((d.ext.trans e).trans w) d.no i.mut) d.no j.mut) d.no M.mut⟩
end Go.Proofs.YtohgmogbabkkeaaGreat
end

section
namespace Go.Proofs.YtohgmogbabkkeaaGreat
open Go.Am Go.au Go.aB Go.bM
theorem ON (d:aK) (s:AS):aa Tryz.prog rz [.agg (aN d)] s fun v s'=>v=.bool d.may/\Ext s s':=by
 refine aa.pre fun b=>KS _ _ _ ⟨rfl,ak.intro b rfl fun l s1 F=>?_⟩;simp only [F.own.at.av,aN,List.getElem?_cons_zero,List.getElem?_cons_succ,go_sem,gj,F.ext,and_true,aK.may]
 grind
theorem L_ (t:List UInt8) (s:AS):aa Tryz.prog pP [.str t] s fun v s'=>v=.bool (aE t)/\s'=s:=by
 refine IA _ _ _ ⟨_,kF t s,af.dec (fun h=>⟨_,kF t s,?_,rfl⟩) (fun h=>⟨?_,rfl⟩)⟩
 ·congr 1;rw [aE,decide_eq_decide];omega
 ·congr 1;symm;rw [aE,decide_eq_false_iff_not];omega
theorem Se (a b:aK) (s:AS):aa Tryz.prog ue [.agg (aN a),.agg (aN b)] s fun v s'=>v=.bool (a.lt b)/\Ext s s':=by
 refine aa.pre fun d=>ID _ _ _ _ ⟨rfl,ak.intro d rfl fun l s1 F=>⟨rfl,ak.intro F.wf rfl fun i s2 c=>?_⟩⟩;have e:=F.ext.trans c.ext;simp only [(F.own.ext c.ext).at.av,c.own.at.av,aN,List.getElem?_cons_zero,List.getElem?_cons_succ,go_sem,gj,e,and_true,aK.lt]
 grind
def pJ (l:List Int) (i:Nat):Bool:=decide (l.getD i 0<=4611686018427387904)&&(decide (i<3)||decide (l.getD i 0=0))
theorem Vr {l:List Int} (h:l.length=16):(List.range 16).all (pJ l)=(q7 l&&(l.drop 3).all fun n=>decide (n=0)):=by
 obtain ⟨a,b,c,d,e,f,g,i,j,k,l,m,n,o,p,q,rfl⟩:=Sa h;rw [Bool.eq_iff_iff];simp [List.range,List.range.loop,pJ,q7]
 grind
structure FH (F:List Nat) (s:AS) (p:Nat) (v:List Int) (n:Nat):Prop where
 len:v.length=16
 mem:∃ (lg bh hd:AV) (L:List mS) (B:List FO),Am.Own s p (f_ v lg bh hd)/\p∈F /\
  (br iu 21 s lg L/\(∀ y∈ay lg,y∈F)/\L.length=n)/\(br q8 16 s bh B/\(∀ y∈ay bh,y∈F)/\B.length=n)
section
variable {F F':List Nat} {s s':AS} {p n:Nat} {v:List Int}
theorem FH.mut {L:List Nat} (h:FH F s p v n) (m:bD L s s') (c:∀ y∈L,y ∉ F):FH F s' p v n:=by
 obtain ⟨i,lg,bh,hd,j,B,k,h2,⟨a1,a2,a3⟩,⟨l,e,o⟩⟩:=h;exact ⟨i,lg,bh,hd,j,B,k.mut m (fun b=>c p b h2),h2,⟨a1.mut m (fun y d b=>c y b (a2 y d)),a2,a3⟩,⟨l.mut m (fun y d b=>c y b (e y d)),e,o⟩⟩
theorem FH.ext (h:FH F s p v n) (e:Ext s s'):FH F s' p v n:=h.mut (L:=[]) e.mut (by simp)
set_option maxRecDepth 20000 in
theorem T3 (h:FH F s p v n) {m:mS} (hm:AU s m):aa Tryz.prog kQ [.ptr (some (p,0)),.agg (iu m)] s fun r s'=>r=.bool (nP m.ev)/\Ext s s':=by
 refine aa.pre fun hw=>yE _ _ _ _ ⟨dI m,ak.intro hw rfl fun l1 s2 F2=>?_⟩;have c2:=F2.own.at;have ev:=aY m;refine ⟨_,c2.aC (by omega),?_⟩;rw [NR];refine aa.use (ON _ _) ?_;rintro v4 s5 ⟨rfl,e5⟩ w5;have A:=c2.ext e5;have d:=F2.ext.trans e5;obtain ⟨hl,lg,bh,hd,L',B,K,_⟩:=h.ext d;refine ⟨_,rfl,af.mk (fun hb=>⟨?_,d⟩) (fun hb=>⟨m.ev.id.r,by rw [A.av];rfl,3,by rw [K.at.av];rfl,af.dec (fun ab=>⟨?_,d⟩) (fun ab=>⟨m.ev.dL,by rw [A.av];rfl,?_⟩)⟩)⟩
 ·simp only [Bool.not_eq_true'] at hb;simp [nP,sr,hb]
 ·simp [nP,show ¬ m.ev.id.r<=3 by omega]
 have L:m.ev.id.may=true:=by simpa using hb
 have ad:m.ev.id.r<=3:=by omega
 refine aa.use (L_ _ _) ?_;rintro a7 bQ ⟨rfl,rfl⟩ ae;have j:=hm.ext d;refine ⟨_,rfl,af.mk (fun hb=>⟨?_,d⟩) (fun hb=>⟨m.pv,by rw [A.av];rfl,_,j.1.cj aL _,af.dec (fun M=>⟨?_,d⟩) (fun M=>⟨m.tv,by rw [A.av,qP],_,j.2.cj fJ _,af.dec (fun C=>⟨?_,d⟩) (fun C=>⟨m.ev.id.r,by rw [A.av];rfl,?_⟩)⟩)⟩)⟩
 ·have:aE m.ev.dL=false:=by simpa using hb
  simp [nP,sr,this]
 ·simp [nP,sr,show ¬ m.ev.uM.length<=512 by omega]
 ·simp [nP,sr,show ¬ m.ev.to.length<=1024 by omega]
 have hn:aE m.ev.dL=true:=by simpa using hb
 obtain ⟨hr,O⟩:=Cd L;dsimp only;rw [hr];have Z:ag T bg (.ptr (some (l1,4))) (.int .i64 ((m.ev.id.r.toNat - 1:Nat):Int))=some (.ptr (some (l1,4+(m.ev.id.r.toNat - 1)))):=by
  rw [Qk (by omega)];simp
 refine ⟨_,_,Z,_,by rw [A.av,AT m O],m.ev.id.c,by rw [A.av];rfl,af.mk (fun hb=>⟨?_,d⟩) (fun hb=>?_)⟩
 ·have:wT m.ev=false:=decide_eq_false (bne_iff_ne.1 hb);simp [nP,sr,this]
 have hp:wT m.ev=true:=decide_eq_true (by rw [bne_eq_false_iff_eq] at hb;exact hb);have Q:nP m.ev=((List.range 16).all (pJ m.ev.jP)&&wS m.ev.to):=by
  rw [Vr m.len];simp only [nP,sr,L,hp,hn,ad,show m.ev.uM.length<=512 by omega,show m.ev.to.length<=1024 by omega,decide_true,Bool.true_and,Bool.and_true];cases q7 m.ev.jP <;> cases wS m.ev.to <;> simp
 rw [Q];refine ⟨fun vs s'=>vs=[]/\Ext bQ s'/\aM s'/\(List.range 16).all (pJ m.ev.jP)=true,?_,?_⟩
 ·rintro dM ⟨_,al,am,R⟩;rw [R,Bool.true_and];refine ⟨fun m' vs s'=>∃ i:Nat,vs=[.int .i64 (i:Nat)]/\i<=m.ev.to.length/\m'=m.ev.to.length - i/\Ext bQ s'/\aM s'/\(List.range i).all (uO m.ev.to)=true,m.ev.to.length,⟨0,rfl,by omega,rfl,al,am,rfl⟩,?_⟩;rintro m' a8 a9 ⟨i,hi,h6,rfl,x,a',z⟩;simp only [List.cons.injEq,AV.int.injEq,true_and,and_true] at hi;subst hi;have S:=A.ext x;refine ⟨m.tv,by rw [S.av,qP],_,(j.2.ext x).cj fJ _,af.dec (fun an=>?_) (fun ao=>?_)⟩
  ·obtain ⟨y,U⟩:=cS (l:=m.ev.to) (i:=i) (by omega);obtain ⟨la,o,h8,h9⟩:=j.2.ix (by decide) d_ fJ Bx U;refine ⟨m.tv,by rw [S.av,qP],la,o,h8 _,aN y.dot,rK (h9 _ x).2 (by omega),?_⟩;have next:∀ {s':AS},Ext bQ s'->aM s'->uO m.ev.to i=true->∃ m',m'<m.ev.to.length - i/\∃ k:Nat,[AV.int .i64 (IntKind.wrap .i64 ((i:Int)+1))]=[.int .i64 (k:Nat)]/\k<=m.ev.to.length/\m'=m.ev.to.length - k/\Ext bQ s'/\aM s'/\(List.range k).all (uO m.ev.to)=true:=fun e w ht=>by
    refine ⟨m.ev.to.length - (i+1),by omega,i+1,by rw [AL (by omega)],by omega,rfl,e,w,?_⟩;rw [List.range_succ,List.all_append,z];simp [ht]
   have bad:uO m.ev.to i=false->wS m.ev.to=false:=fun D=>by
    rw [wS,List.all_eq_false];exact ⟨i,by simp;omega,by simp [D]⟩
   refine aa.use (ON _ _) ?_;rintro ba ar ⟨rfl,aw⟩ bb;have b:=x.trans aw;have G:=A.ext b;have W:av ar la (o+2)=some (.str y.dev):=by rw [(h9 _ b).1 2 (by omega)];rfl
   refine ⟨_,rfl,af.mk (fun K=>⟨by rw [bad (by simpa [uO,U] using fun h=>by simp [h] at K)],d.trans b⟩) (fun K=>⟨m.tv,by rw [G.av,qP],la,o,h8 _,y.dev,W,?_⟩)⟩;have H:y.dot.may=true:=by simpa using K
   refine aa.use (L_ _ _) ?_;rintro bc bd ⟨rfl,rfl⟩ a0;refine ⟨_,rfl,af.mk (fun h2=>⟨by rw [bad (by simp only [Bool.not_eq_true'] at h2;simp [uO,U,H,h2])],d.trans b⟩) (fun h2=>af.dec (fun a5=>?_) (fun hz=>?_))⟩
   ·have I:aE y.dev=true:=by simpa using h2
    have a1:i≠0:=by omega
    obtain ⟨u,hu⟩:=cS (l:=m.ev.to) (i:=i - 1) (by omega);obtain ⟨lu,ou,k8,k9⟩:=j.2.ix (by decide) d_ fJ Bx hu;have a2:IntKind.wrap .i64 ((i:Int) - 1)=((i - 1:Nat):Int):=by rw [aW (by omega)];omega
    rw [a2];refine ⟨m.tv,by rw [G.av,qP],lu,ou,k8 _,aN u.dot,rK (k9 _ b).2 (by omega),m.tv,by rw [G.av,qP],la,o,h8 _,aN y.dot,rK (h9 _ b).2 (by omega),?_⟩;refine aa.use (Se _ _ _) ?_;rintro be bi ⟨rfl,X⟩ a3;have ht:uO m.ev.to i=u.dot.lt y.dot:=by simp [uO,U,H,I,a1,hu]
    refine ⟨_,rfl,af.mk (fun h3=>⟨by rw [bad (by rw [ht];simpa using h3)],d.trans (b.trans X)⟩) (fun h3=>next (b.trans X) a3 (by rw [ht];simpa using h3))⟩
   ·have I:aE y.dev=true:=by simpa using h2
    obtain rfl:i=0:=by omega
    exact next b a0 (by simp [uO,U,H,I])
  ·obtain rfl:i=m.ev.to.length:=by omega
   exact ⟨by rw [wS,z],d.trans x⟩
 ·refine ⟨fun m' vs s'=>∃ i:Nat,vs=[.int .i64 (i:Nat)]/\i<=16/\m'=16 - i/\s'=bQ/\(List.range i).all (pJ m.ev.jP)=true,16,⟨0,rfl,by omega,rfl,rfl,rfl⟩,?_⟩;rintro m' bj J ⟨i,hi,h6,rfl,rfl,z⟩;simp only [List.cons.injEq,AV.int.injEq,true_and,and_true] at hi;subst hi;refine af.dec (fun an=>?_) (fun ao=>?_)
  ·have Z:ag T bg (.ptr (some (l1,4))) (.int .i64 (i:Nat))=some (.ptr (some (l1,4+i))):=by
    rw [Qk (by omega)];simp
   have Y:av J l1 (4+i)=some (.int .u64 (m.ev.jP.getD i 0)):=by rw [A.av,AT m (by omega)]
   have next:pJ m.ev.jP i=true->∃ m',m'<16 - i/\∃ k:Nat,[AV.int .i64 (IntKind.wrap .i64 ((i:Int)+1))]=[.int .i64 (k:Nat)]/\k<=16/\m'=16 - k/\J=J/\(List.range k).all (pJ m.ev.jP)=true:=fun ht=>by
    refine ⟨16 - (i+1),by omega,i+1,by rw [AL (by omega)],by omega,rfl,rfl,?_⟩;rw [List.range_succ,List.all_append,z];simp [ht]
   have bad:pJ m.ev.jP i=false->(List.range 16).all (pJ m.ev.jP)=false:=fun D=>by
    rw [List.all_eq_false];exact ⟨i,by simp;omega,by simp [D]⟩
   refine ⟨_,_,Z,_,Y,af.dec (fun a6=>⟨by rw [bad (by rw [pJ,decide_eq_false (by omega)];rfl)];simp,d⟩) (fun bk=>⟨3,by rw [K.at.av];rfl,af.dec (fun h3=>⟨_,_,Z,_,Y,af.mk (fun a4=>⟨?_,d⟩) (fun he=>next ?_)⟩) (fun h3=>next ?_)⟩)⟩
   ·rw [bad (by rw [pJ,decide_eq_false (show ¬ i<3 by omega),decide_eq_false (bne_iff_ne.1 a4)];simp)];simp
   ·rw [bne_eq_false_iff_eq] at he;rw [pJ,he];simp
   ·rw [pJ,decide_eq_true (show i<3 by omega),decide_eq_true (show m.ev.jP.getD i 0<=4611686018427387904 by omega)];rfl
  ·obtain rfl:i=16:=by omega
   exact ⟨rfl,Ext.refl _,ae,z⟩
end
end Go.Proofs.YtohgmogbabkkeaaGreat
end

section
namespace Go.Proofs.YtohgmogbabkkeaaGreat
open Go.Am Go.au Go.aB Go.bM
theorem Sf {v:List Int} (h:v.length=16) (lg bh hd b:AV):(f_ v lg bh hd).set 18 b=f_ v b bh hd:=by
 simp [f_,List.set_append,h]
theorem Sg {v:List Int} (h:v.length=16) (lg bh hd b:AV):(f_ v lg bh hd).set 19 b=f_ v lg b hd:=by
 simp [f_,List.set_append,h]
section
variable {F:List Nat} {s:AS} {p n:Nat} {v:List Int}
theorem uP {L:List Nat} {s s':AS} {y:Nat} (d:bD L s s') (b:s'.h y=none):y∈L\/s.h y=none:=by
 by_cases c:y∈L
 ·exact .inl c
 ·right;cases e:s.h y with
  | none=>rfl
  | some o=>rw [d.1 y o c e] at b;cases b
set_option maxRecDepth 20000 in
theorem Qa {m:mS} (h:FH F s p v n) (a7:m.ev.id.may=true) (hn:n+1<=2 ^ 29) :
  aa Tryz.prog jk [.ptr (some (p,0)),.agg (iu m)] s fun r s'=>r=.aQ []/\∃ F',FH F' s' p (v.set (m.ev.id.r.toNat - 1) (IntKind.wrap .u64 (v.getD (m.ev.id.r.toNat - 1) 0+1))) (n+1)/\bD F s s'/\(∀ y∈F',y∈F\/s.h y=none)/\(∀ y∈F',s'.h y≠none)/\wU p s s':=by
 have ev:=aY m;refine aa.pre fun hw=>wA _ _ _ _ ⟨dI m,ak.intro hw rfl fun l1 s2 Z=>⟨m.ev.id.r,by rw [Z.own.at.av];rfl,?_⟩⟩;obtain ⟨H,lg,bh,hd,L,B,h1,h2,⟨a1,a2,a3⟩,⟨b1,b2,b3⟩⟩:=id h;obtain ⟨hr,w⟩:=Cd a7;dsimp only;rw [hr];generalize hi:m.ev.id.r.toNat - 1=i at w ⊢;have o2:=h1.ext Z.ext;have hx:ag T cZ (.ptr (some (p,0+2))) (.int .i64 ((i:Nat):Int))=some (.ptr (some (p,2+i))):=by
  rw [Nt (by omega)];simp
 have a8:=oL H lg bh hd;refine ⟨_,_,hx,_,by rw [o2.at.av,JG H lg bh _ w],_,_,hx,bz.own Z.wf o2 (by rw [a8];simp;omega) fun bQ Q=>?_⟩;generalize oQ:v.set i (IntKind.wrap .u64 (v.getD i 0+1))=v';have k:v'.length=16:=by rw [<- oQ,List.length_set,H]
 have R:Am.Own bQ p (f_ v' lg bh hd):=by
  have:=Q.at;rw [fo,HC H lg bh _ w,oQ] at this;exact this
 have ab:=oL k lg bh hd;have z:bD [p] s bQ:=Z.ext.mut.trans Q.mut;have d1:l1≠p:=fun e=>by
  have:=Z.no;rw [e,h1] at this;cases this
 have ad:Am.Own bQ l1 (iu m):=Z.own.mut Q.mut (by simpa using d1);have t0:∀ y∈[p],∀ g,Tag s y g->g=0:=fun y d g t=>by
  obtain rfl:=List.mem_singleton.1 d;exact t.uniq (Own.tag h1)
 have ae:br iu 21 bQ lg L:=br.eY a1 z fun y d g t=>by rw [t0 y d g t];decide
 have a9:br q8 16 bQ bh B:=br.eY b1 z fun y d g t=>by rw [t0 y d g t];decide
 have hs:=y6 k lg bh hd
 let M:FO:=⟨v',k⟩
 have al:∀ s',Am.Own s' p (f_ v' lg bh hd)->av s' p (0+18)=some lg:=fun s' o=>by rw [o.at.av];exact hs.1
 have rl:∀ s',Am.Own s' l1 (iu m)->aC s' l1 0 21=some (iu m):=fun s' o=>by rw [o.at.aC (by omega),gD]
 refine ⟨fun a b=>(∀ l cs,Am.Own a l cs->Am.Own b l cs)/\bD (ay lg) a b,fun q _ v s'=>br iu 21 s' v (L++[m]),fun s'=>br iu 21 s' lg L,
  fun q _ v s'=>(q=6->∃ l,v=.slc (some (l,0)) 1 1 true/\Am.Own s' l (iu m))/\(q=7->∀ y∈ay v,y∈ay lg\/bQ.h y=none),
  fun q _ v=>(q=7->v.one=true),fun a b e=>⟨fun l cs o=>o.ext e,e.mut⟩,fun a b c x y=>⟨fun l cs o=>y.1 l cs (x.1 l cs o),x.2.trans y.2⟩,fun q _ v a b e g=>g.ext e,?_,fun a b e g=>g.ext e,ae,?_⟩
 ·rintro q ks v a b ⟨x1,_⟩ ⟨I,g2⟩;refine ⟨fun hq=>?_,g2⟩;obtain ⟨l,e,S⟩:=I hq;exact ⟨l,e,x1 _ _ S⟩
 refine ⟨fun s' _ _=>rfl,_,al _ R,fun s' x _=>⟨_,al _ (x.1 _ _ R),rfl⟩,_,rl _ ad,fun s' x _=>⟨_,rl _ (x.1 _ _ ad),rfl⟩,fun dM b' a' _=>⟨_,ke nO (aY m) (dI m),ak.intro a' rfl fun U ba A=>⟨A.ext,⟨(fun _=>⟨U,rfl,A.own⟩),(fun h=>by cases h)⟩,(fun h=>by cases h)⟩⟩,⟨.bad,(fun h=>by cases h)⟩,fun ca _=>⟨fun cb bb bc W hc=>?_,⟨.nilFunc,fun _=>rfl⟩,fun j am j8 J bd W hC=>?_⟩⟩
 ·obtain ⟨l,rfl,S⟩:=W.1.1 rfl;obtain ⟨v',s',e1,I,m1,_,n1⟩:=br.append nO aY dI bc hc (Ce aY S.at) (by simp;omega) c_;have t1:=br.tag hc;refine ⟨v',s',e1,⟨⟨fun l cs o=>o.mut m1 fun d=>?_,m1⟩,I⟩,⟨(fun h=>by cases h),(fun _ y d=>?_)⟩,fun _=>br.one I⟩
  ·have:=(t1 _ d).uniq (Own.tag o);omega
  ·rcases n1 y d with h | h
   ·exact .inl h
   ·exact uP bb.2 h
 have be:=W.2.1.2 rfl;have bi:br iu 21 j8 j (L++[m]):=hC;have an:=J.1 _ _ R;have bj:br q8 16 j8 bh B:=br.eY a9 J.2 fun y d g t=>by
  have:=t.uniq (br.tag ae y d);omega
 refine cK (am rfl) xl (bz.own bd an (by simp [ab]) fun mG C=>?_);have D:Am.Own mG p (f_ v' j bh hd):=by
  have:=C.at;rw [fo,Nat.zero_add,Sf k] at this;exact this
 have t34:∀ y∈[p],∀ g,Tag j8 y g->g=0:=fun y d g t=>by
  obtain rfl:=List.mem_singleton.1 d;exact t.uniq (Own.tag an)
 have bk:br iu 21 mG j (L++[m]):=br.eY bi C.mut fun y d g t=>by rw [t34 y d g t];decide
 have ao:br q8 16 mG bh B:=br.eY bj C.mut fun y d g t=>by rw [t34 y d g t];decide
 have bl:=y6 k j bh hd;have O:=oL k j bh hd;have ar:∀ s',Am.Own s' p (f_ v' j bh hd)->av s' p (0+19)=some bh:=fun s' o=>by rw [o.at.av];exact bl.2.1
 have rv:∀ s',Am.Own s' p (f_ v' j bh hd)->aC s' p (0+2) 16=some (q8 M):=fun s' o=>by rw [o.at.aC (by rw [O];omega),AW k];rfl
 refine ⟨fun a b=>(∀ l cs,Am.Own a l cs->Am.Own b l cs)/\bD (ay bh) a b,fun q _ v s'=>br q8 16 s' v (B++[M]),fun s'=>br q8 16 s' bh B,
  fun q _ v s'=>(q=9->∃ l,v=.slc (some (l,0)) 1 1 true/\Am.Own s' l (q8 M))/\(q=10->∀ y∈ay v,y∈ay bh\/mG.h y=none),
  fun q _ v=>(q=10->v.one=true),fun a b e=>⟨fun l cs o=>o.ext e,e.mut⟩,fun a b c x y=>⟨fun l cs o=>y.1 l cs (x.1 l cs o),x.2.trans y.2⟩,fun q _ v a b e g=>g.ext e,?_,fun a b e g=>g.ext e,ao,?_⟩
 ·rintro q ks v a b ⟨x1,_⟩ ⟨I,g2⟩;refine ⟨fun hq=>?_,g2⟩;obtain ⟨l,e,S⟩:=I hq;exact ⟨l,e,x1 _ _ S⟩
 refine ⟨fun s' _ _=>rfl,_,ar _ D,fun s' x _=>⟨_,ar _ (x.1 _ _ D),rfl⟩,fun s' _ _=>rfl,_,rv _ D,fun s' x _=>⟨_,rv _ (x.1 _ _ D),rfl⟩,fun cc cd bm _=>⟨_,ke gR (cG M) (nW M),ak.intro bm rfl fun U ba A=>⟨A.ext,⟨(fun _=>⟨U,rfl,A.own⟩),(fun h=>by cases h)⟩,(fun h=>by cases h)⟩⟩,⟨.bad,(fun h=>by cases h)⟩,fun ce _=>⟨fun cf bo bs W hc=>?_,⟨.nilFunc,fun _=>rfl⟩,fun G aw X Y bx W hC=>?_⟩⟩
 ·obtain ⟨l,rfl,S⟩:=W.1.1 rfl;obtain ⟨v',s',e1,I,m1,_,n1⟩:=br.append gR cG nW bs hc (Ce cG S.at) (by simp;omega) dA;have t1:=br.tag hc;refine ⟨v',s',e1,⟨⟨fun l cs o=>o.mut m1 fun d=>?_,m1⟩,I⟩,⟨(fun h=>by cases h),(fun _ y d=>?_)⟩,fun _=>br.one I⟩
  ·have:=(t1 _ d).uniq (Own.tag o);omega
  ·rcases n1 y d with h | h
   ·exact .inl h
   ·exact uP bo.2 h
 have b0:=W.2.1.2 rfl;have b4:br q8 16 X G (B++[M]):=hC;have a0:=Y.1 _ _ D;have b5:br iu 21 X j (L++[m]):=br.eY bk Y.2 fun y d g t=>by
  have:=t.uniq (br.tag ao y d);omega
 refine cK (aw rfl) qC (bz.own bx a0 (by simp [O]) fun Iw K=>⟨rfl,?_⟩);have a4:Am.Own Iw p (f_ v' j G hd):=by
  have:=K.at;rw [fo,Nat.zero_add,Sg k] at this;exact this
 have t63:∀ y∈[p],∀ g,Tag X y g->g=0:=fun y d g t=>by
  obtain rfl:=List.mem_singleton.1 d;exact t.uniq (Own.tag a0)
 have a5:br iu 21 Iw j (L++[m]):=br.eY b5 K.mut fun y d g t=>by rw [t63 y d g t];decide
 have a6:br q8 16 Iw G (B++[M]):=br.eY b4 K.mut fun y d g t=>by rw [t63 y d g t];decide
 have MA:bD (p::(ay lg++ay bh)) s Iw:=(((z.mono (by simp)).trans (J.2.mono (fun y d=>List.mem_cons_of_mem _ (List.mem_append_left _ d)))).trans (C.mut.mono (by simp))).trans ((Y.2.mono (fun y d=>List.mem_cons_of_mem _ (List.mem_append_right _ d))).trans (K.mut.mono (by simp)));have b6:∀ y∈p::(ay lg++ay bh),y∈F:=fun y d=>by
  rcases List.mem_cons.1 d with rfl | d
  ·exact h2
  ·rcases List.mem_append.1 d with d | d
   ·exact a2 y d
   ·exact b2 y d
 refine ⟨p::(ay j++ay G),⟨k,j,G,hd,L++[m],B++[M],a4,by simp,⟨a5,fun y d=>by simp [d],by simp [a3]⟩,⟨a6,fun y d=>by simp [d],by simp [b3]⟩⟩,MA.mono b6,fun y d=>?_,fun y d=>?_,fun l cs g H b7 b8 g0=>MA.1 l _ (fun hm=>?_) H⟩
 ·rcases List.mem_cons.1 d with rfl | d
  ·exact .inl h2
  ·rcases List.mem_append.1 d with d | d
   ·rcases be y d with h | h
    ·exact .inl (a2 y h)
    ·rcases uP z h with h | h
     ·obtain rfl:=List.mem_singleton.1 h;exact .inl h2
     ·exact .inr h
   ·rcases b0 y d with h | h
    ·exact .inl (b2 y h)
    ·have b9:bD (p::ay lg) s mG:=((z.mono (by simp)).trans (J.2.mono (fun y d=>List.mem_cons_of_mem _ d))).trans (C.mut.mono (by simp));rcases uP b9 h with h | h
     ·rcases List.mem_cons.1 h with rfl | h
      ·exact .inl h2
      ·exact .inl (a2 y h)
     ·exact .inr h
 ·rcases List.mem_cons.1 d with rfl | d
  ·rw [a4];simp
  ·rcases List.mem_append.1 d with d | d
   ·exact br.kZ a5 y d
   ·exact br.kZ a6 y d
 ·rcases List.mem_cons.1 hm with rfl | hm
  ·exact g0 (Tag.uniq ⟨cs,H⟩ (Own.tag h1)) rfl
  ·rcases List.mem_append.1 hm with hm | hm
   ·exact b7 (Tag.uniq ⟨cs,H⟩ (br.tag a1 _ hm))
   ·exact b8 (Tag.uniq ⟨cs,H⟩ (br.tag b1 _ hm))
end
end Go.Proofs.YtohgmogbabkkeaaGreat
end

section
namespace Go.Proofs.YtohgmogbabkkeaaGreat
open Go.Am Go.au Go.aB Go.bM
def nQ (v:List Int) (dL:List UInt8) (uM:List Int) (to:List DX):Ev:=⟨⟨1,IntKind.wrap .u64 (v.getD 0 0+1)⟩,dL,uM,v,to⟩
section
variable {F:List Nat} {s:AS} {p n:Nat} {v:List Int}
set_option maxRecDepth 20000 in
theorem Ma (h:FH F s p v n) (a1:∀ y∈F,s.h y≠none) {dL:List UInt8} {pv tv:AV} {uM:List Int} {to:List DX} (gp:Sl pK 1 s pv uM) (gt:Sl qZ 3 s tv to) (hp:uM.length<=2 ^ 29) (ht:to.length<=2 ^ 29) (hn:n+1<=2 ^ 29) :
  aa Tryz.prog bE [.ptr (some (p,0)),.str dL,pv,tv] s fun r s' =>
   (nP (nQ v dL uM to)=false/\(∃ g,r=.aQ [.agg g,.bool false]/\g.all AV.one=true/\g.length=21)/\Ext s s') \/
   (nP (nQ v dL uM to)=true/\(∃ g,r=.aQ [.agg g,.bool true]/\g.all AV.one=true/\g.length=21)/\∃ F',FH F' s' p (v.set 0 (IntKind.wrap .u64 (v.getD 0 0+1))) (n+1)/\bD F s s'/\(∀ y∈F',y∈F\/s.h y=none)/\(∀ y∈F',s'.h y≠none)/\wU p s s'):=by
 refine aa.pre fun hw=>uq _ _ _ _ _ _ (ak.intro hw rfl fun l1 s2 i=>?_);have o2:Am.Own s2 l1 JR:=i.own;obtain ⟨K,lg,bh,hd,L,B,C,_⟩:=id (h.ext i.ext);have a2:=oL K lg bh hd;have hx:ag T cZ (.ptr (some (p,0+2))) (.int .i64 (IntKind.wrap .i64 (1 - 1)))=some (.ptr (some (p,2+0))):=by
  rw [aW (by omega),Nt (by omega)];rfl
 refine ⟨fun q _ v s'=>(q=18->aT pK 1 [] s2 s' v uM)/\(q=24->aT qZ 3 [] s2 s' v to)/\(q=26->∃ l,v=.ptr (some (l,0))/\Am.Own s' l JR/\s2.h l=none),fun q _ v=>(q=18\/q=24->v.one=true)/\(q=26->∃ l,v=.ptr (some (l,0))),fun q _ v a b e g=>⟨fun O=>(g.1 O).step e,fun O=>(g.2.1 O).step e,fun O=>by obtain ⟨l,x,y,z⟩:=g.2.2 O;exact ⟨l,x,y.ext e,z⟩⟩,1,by rw [C.at.av];rfl,1,by rw [C.at.av];rfl,_,_,hx,_,by rw [C.at.av,JG K lg bh _ (by omega)],_,yR _ _,fun gr Q a3 _=>?_,⟨.slc none 0 0 true,(fun _=>rfl),(fun h=>by cases h)⟩,fun R S=>⟨_,C.at.aC (by rw [a2];omega),fun gh U a4 _=>?_,⟨.slc none 0 0 true,(fun _=>rfl),(fun h=>by cases h)⟩,fun W X=>?_⟩⟩
 ·refine aT.kH gw bS Jy a3 (aT.start (M:=[]) Q.mut) (by simp) (gp.ext (i.ext.trans Q)) (by simp;omega) aL fun v' s' g w' m=>?_;exact ⟨(show bD [] gr s' from m).ext,⟨(fun _=>by simpa using g),(fun h=>by cases h),(fun h=>by cases h)⟩,(fun _=>g.iS.2),(fun h=>by cases h)⟩
 ·refine aT.kH tj d_ tg a4 (aT.start (M:=[]) U.mut) (by simp) (gt.ext (i.ext.trans U)) (by simp;omega) fJ fun v' s' g w' m=>?_;exact ⟨(show bD [] gh s' from m).ext,⟨(fun h=>by cases h),(fun _=>by simpa using g),(fun h=>by cases h)⟩,(fun _=>g.iS.2),(fun h=>by cases h)⟩
 rw [AW K];have k1:=S.1 (.inl rfl);have k2:=X.1 (.inr rfl)
 let m:mS:=⟨nQ v dL uM to,R,W,K,k1,k2⟩
 have ev:=aY m;refine ⟨_,L9 K k1 k2,fun bx a5 a6 _=>ak.intro a6 rfl fun Y b0 I=>⟨I.ext,⟨(fun h=>by cases h),(fun h=>by cases h),(fun _=>⟨Y,rfl,I.own,a5.none I.no⟩)⟩,(fun h=>by rcases h with h | h <;> cases h),(fun _=>⟨Y,rfl⟩)⟩,⟨.ptr (some (0,0)),(fun h=>by rcases h with h | h <;> cases h),(fun _=>⟨0,rfl⟩)⟩,fun v30 Z=>?_⟩;obtain ⟨l,rfl⟩:=Z.2 rfl;refine ⟨_,rfl,fun a7 ab a8 hS=>?_⟩;have a9:=hS.1.1 rfl;have a':=hS.2.1.2.1 rfl;obtain ⟨l',ad,ae,D⟩:=hS.2.2.1.2.2 rfl;simp only [AV.ptr.injEq,Option.some.injEq,Prod.mk.injEq,and_true] at ad;subst ad;refine ⟨⟨dI m,congrArg some ev.symm⟩,bz.own a8 ae (vs:=iu m) (by rw [ev];exact Nat.le_refl _) fun nV j=>?_⟩;have al:Am.Own nV l (iu m):=by
  have:=j.at;rw [dB (by rw [show JR.length=21 from rfl];exact ev)] at this;exact this
 have am:Ext s nV:=Ext.wr (i.ext.trans ab) (i.ext.none D) j.mut;have d1:l1≠l:=fun e=>by rw [<- e,o2] at D;cases D
 have J:Am.Own nV l1 JR:=(o2.ext ab).mut j.mut (by simpa using d1);have t32:∀ y∈[l],∀ g,Tag a7 y g->g=0:=fun y c g t=>by
  obtain rfl:=List.mem_singleton.1 c;exact t.uniq (Own.tag ae)
 have ba:br pK 1 nV R uM:=br.eY a9.u6 j.mut fun y c g t=>by rw [t32 y c g t];decide
 have d36:br qZ 3 nV W to:=br.eY a'.u6 j.mut fun y c g t=>by rw [t32 y c g t];decide
 have hE:AU nV m:=⟨ba.sl bS,d36.sl d_⟩;refine ⟨_,al.at.aC (by omega),?_⟩;rw [gD];refine aa.use (T3 (h.ext am) hE) ?_;rintro qU b1 ⟨rfl,k⟩ bb;have d:=am.trans k;refine ⟨_,rfl,af.mk (fun hb=>⟨_,HE,?_⟩) (fun hb=>?_)⟩
 ·have bc:nP (nQ v dL uM to)=false:=by simpa using hb
  exact ⟨⟨rfl,rfl⟩,bz.own bb (J.ext k) (Nat.le_refl _) fun s7 P=>⟨JR,(FG rfl rfl P).2,.inl ⟨bc,⟨_,rfl,rfl,rfl⟩,Ext.wr d i.no P.mut⟩⟩⟩
 have an:nP (nQ v dL uM to)=true:=by simpa using hb
 have H:=an;simp only [nP,sr,Bool.and_eq_true,decide_eq_true_eq] at H;have bd:m.ev.id.may=true:=H.1.1.1.1.1.1.1.1;have ao:=al.ext k;refine ⟨_,ao.at.aC (by omega),?_⟩;rw [gD];refine aa.use (Qa (h.ext d) bd hn) ?_;rintro b2 ar ⟨rfl,F',be,G,w,aw,bi⟩ bj;have nF:∀ y,s.h y=none->y ∉ F:=fun y hn c=>a1 y c hn;have bk:Am.Own ar l (iu m):=ao.mut G (nF _ (i.ext.none D));have bl:Am.Own ar l1 JR:=(J.ext k).mut G (nF _ i.no);refine ⟨rfl,_,bk.at.aC (by omega),?_⟩;rw [gD];refine ⟨⟨dI m,by rw [ev]⟩,bz.own bj bl (by rw [ev];exact Nat.le_refl _) fun s7 P=>?_⟩;obtain ⟨_,bm⟩:=FG ev rfl P;have a0:l1 ∉ F':=fun c=>by
  rcases w l1 c with h | h
  ·exact nF _ i.no h
  ·rw [J.ext k] at h;cases h
 refine ⟨_,bm,.inr ⟨an,⟨_,rfl,dI m,aY m⟩,F',be.mut P.mut (fun y c=>by obtain rfl:=List.mem_singleton.1 c;exact a0),?_,?_,?_,fun y cs g c bo bs h0=>?_⟩⟩
 ·refine ⟨fun y o c ho=>?_,Nat.le_trans d.2 (Nat.le_trans G.2 (by rw [P.nl];exact Nat.le_refl _))⟩;have A:y≠l1:=fun e=>by rw [e,i.no] at ho;cases ho
  rw [P.eq y A];exact G.1 y o c (d.1 _ _ ho)
 ·intro y c;rcases w y c with h | h
  ·exact .inl h
  ·exact .inr (d.none h)
 ·intro y c;have A:y≠l1:=fun e=>a0 (e ▸ c);rw [P.eq y A];exact aw y c
 ·have A:y≠l1:=fun e=>by rw [e,i.no] at c;cases c
  rw [P.eq y A];exact bi y cs g (d.1 _ _ c) bo bs h0
end
section
variable {F:List Nat} {s:AS} {q:Nat} {x:aH}
theorem T4 (h:pC F s q x) (X:x.ex.length<=2 ^ 40):aa Tryz.prog ni [.ptr (some (q,0)),.int .i64 1] s fun r s'=>s'=s/\∃ m:Int,r=.int .u64 m/\0<=m/\x.has ⟨1,m+1⟩=false/\(m=0\/x.has ⟨1,m⟩=true):=by
 obtain ⟨⟨z,hr,hm⟩,_,w,iw,I,a,⟨Y,Z,J⟩,_⟩:=h;have hv:=z.len;have K:ag T cZ (.ptr (some (q,0))) (.int .i64 (IntKind.wrap .i64 (1 - 1)))=some (.ptr (some (q,0))):=by
  rw [aW (by omega),Nt (by omega)];rfl
 have d:av s q (0+16)=some w:=by
  rw [a.at.av,List.getElem?_append_right (by simp [hv])];simp [hv]
 have L:av s q 0=some (.int .u64 (x.v.getD 0 0)):=by
  rw [a.at.av,List.getElem?_append_left (by simp;omega),List.getElem?_map,List.getElem?_eq_getElem (by omega),List.getD_eq_getElem?_getD,List.getElem?_eq_getElem (show 0<x.v.length by omega)];rfl
 have hs:=J.sl bn;refine BB _ _ _ _ ⟨_,_,K,_,L,fun m' vs s'=>∃ (i:Nat) (m:Int),vs=[.int .u64 m,.int .i64 (i:Nat)]/\i<=x.ex.length/\m'=x.ex.length - i/\s'=s/\x.v.getD 0 0<=m/\(∀ e∈x.ex.take i,e.r=1->e.c<=m)/\(m=x.v.getD 0 0\/∃ e∈x.ex,e.r=1/\e.c=m),x.ex.length,⟨0,_,rfl,by omega,rfl,rfl,Int.le_refl _,by simp,.inl rfl⟩,?_⟩;rintro m' C M n ⟨i,m,hi,h6,rfl,rfl,O,h2,h3⟩;simp only [List.cons.injEq,AV.int.injEq,true_and,and_true] at hi;obtain ⟨rfl,rfl⟩:=hi;refine ⟨w,d,_,hs.cj bF _,af.dec (fun Q=>?_) (fun R=>?_)⟩
 ·obtain ⟨e,p⟩:=cS (l:=x.ex) (i:=i) (by omega);obtain ⟨la,o,D,H⟩:=hs.ix (by decide) bn bF jR p;have G:av n la o=some (.int .i64 e.r):=by have:=(H _ (Ext.refl _)).1 0 (by omega);simpa [aN] using this
  have A:av n la (o+1)=some (.int .u64 e.c):=by rw [(H _ (Ext.refl _)).1 1 (by omega)];rfl
  have ht:x.ex.take (i+1)=x.ex.take i++[e]:=by rw [List.take_add_one,p];rfl
  refine ⟨fun vs s'=>s'=n/\vs=[.bool (decide (e.r=1)&&decide (e.c>C))],?_,w,d,la,o,D _,e.r,G,af.mk (fun hb=>⟨w,d,la,o,D _,e.c,A,rfl,?_⟩) (fun hb=>⟨rfl,?_⟩)⟩
  ·rintro b eC ⟨rfl,hb⟩;simp only [List.cons.injEq,AV.bool.injEq,and_true] at hb;subst hb;refine af.mk (fun hb=>⟨w,d,la,o,D _,e.c,A,x.ex.length - (i+1),by omega,i+1,e.c,by rw [AL (by omega)],by omega,rfl,rfl,?_,?_,.inr ⟨e,List.mem_of_getElem? p,?_⟩⟩) (fun hb=>⟨x.ex.length - (i+1),by omega,i+1,C,by rw [AL (by omega)],by omega,rfl,rfl,O,?_,h3⟩)
   ·simp at hb;omega
   ·simp at hb;rw [ht];intro y j k;rcases List.mem_append.1 j with j | j
    ·have:=h2 y j k;omega
    ·obtain rfl:=List.mem_singleton.1 j;omega
   ·simp at hb;exact ⟨hb.1,rfl⟩
   ·simp at hb;rw [ht];intro y j k;rcases List.mem_append.1 j with j | j
    ·exact h2 y j k
    ·obtain rfl:=List.mem_singleton.1 j;exact hb k
  ·simp at hb;simp [hb]
  ·simp at hb;simp [hb]
 ·obtain rfl:i=x.ex.length:=by omega
  rw [List.take_of_length_le (Nat.le_refl _)] at h2;have S:=z.get 0;refine ⟨rfl,C,rfl,by omega,?_,?_⟩
  ·cases U:x.has ⟨1,C+1⟩ with
   | false=>rfl
   | true =>
    rcases (s_.1 U).2 with h | h
    ·have:=h2 _ h rfl;simp only at this;omega
    ·simp only [show ((1:Int) - 1).toNat=0 from rfl] at h;omega
  ·rcases h3 with rfl | ⟨e,p,B,rfl⟩
   ·by_cases W:x.v.getD 0 0=0
    ·exact .inl W
    ·exact .inr (s_.2 ⟨aK.gB.2 (by simp only;omega),.inr (Int.le_refl _)⟩)
   ·have e2:(⟨1,e.c⟩:aK)=e:=by cases e;simp only at B;subst B;rfl
    rw [e2];exact .inr (s_.2 ⟨hm e p,.inl p⟩)
end
end Go.Proofs.YtohgmogbabkkeaaGreat
end

section
set_option maxRecDepth 100000
set_option maxHeartbeats 4000000
namespace Go.Proofs.YtohgmogbabkkeaaGreat
open Go.Am
def NU (a0:AV) (s:AS) (R:AV->AS->Prop):Prop :=
 aa Tryz.prog aS [a0] s fun c s2=>ak (.map [] 0 false) s2 fun l3 s4=>oR (aV T rE [(0,c),(1,(.map (some l3)))]) fun b=>cH b (ak (.cells b 0 false) s4 fun d s7=>R (.ptr (some (d,0))) s7)
def NV:QA:=(.seq .leaf (.seq .leaf .leaf))
theorem NW (a0:AV) (s:AS) (R:AV->AS->Prop) (h:NU a0 s R):aa Tryz.prog ng [a0] s R :=
 aa.q (n:=8) (rs:=[.tmp 2]) (A:=NV) hT bW Tryz.func15 (by kernel_rfl) rfl rfl rfl (by kernel_rfl) (by kernel_rfl) h
def AX (a0:Option (Nat×Nat)) (s:AS) (R:AV->AS->Prop):Prop :=
 uT (iY T 100 xY (.ptr a0) (.ptr none)) fun b=>af (!b) (ai a0 fun c d=>zk (av s c (d+1)) fun e=>uT (iY T 100 aJ (.map e) (.map none)) fun i=>R (.bool (!i)) s) (R (.bool false) s)
def AY:QA:=(.seq .leaf (.seq .leaf .leaf))
theorem AZ (a0:Option (Nat×Nat)) (s:AS) (R:AV->AS->Prop) (h:AX a0 s R):aa Tryz.prog eU [.ptr a0] s R :=
 aa.q (n:=12) (rs:=[.tmp 2]) (A:=AY) hT bW Tryz.func75 (by kernel_rfl) rfl rfl rfl (by kernel_rfl) (by kernel_rfl) h
def A0 (a0:Option (Nat×Nat)) (a1:List UInt8) (a2:Bool) (s:AS) (R:AV->AS->Prop):Prop :=
 aa Tryz.prog eU [.ptr a0] s fun l s2=>∃ j:Bool,l=.bool j/\(af (!j)
 (R (.int .i64 1) s2)
 (bt fun c =>
 (∀ k:Bool,∀ s6:AS,c [.bool k] s6 ->
 af k
 (R (.int .i64 2) s6)
 (ai a0 fun m n=>zk (av s6 m (n+1)) fun o=>pM (dN T aJ (.map o) (.str a1) false s6) fun d=>uT (iY T 100 fQ (.ptr d) (.ptr none)) fun e=>af e
 (R (.int .i64 7) s6)
 (R (.int .i64 0) s6))) /\
 (aa Tryz.prog fO [.str a1] s2 fun i bQ=>∃ b:Bool,i=.bool b/\(af (!b) (c [.bool true] bQ) (c [(.bool (!a2))] bQ)))))
def A1:QA:=(.seq .leaf (.seq (.wrap (.seq .leaf (.cond (.seq .leaf .leaf) (.join [(11,.bool)] [(11,18)] .leaf (.cond (.seq .leaf .leaf) (.seq .leaf (.cond (.seq .leaf .leaf) .leaf))))))) (.seq .leaf .leaf)))
theorem A3 (a0:Option (Nat×Nat)) (a1:List UInt8) (a2:Bool) (s:AS) (R:AV->AS->Prop) (h:A0 a0 a1 a2 s R):aa Tryz.prog eV [.ptr a0,.str a1,.bool a2] s R :=
 aa.q (n:=27) (rs:=[.tmp 6]) (A:=A1) hT bW Tryz.func78 (by kernel_rfl) rfl rfl rfl (by kernel_rfl) (by kernel_rfl) h
def y7 (a0:Option (Nat×Nat)) (a1:List UInt8) (a2:AV) (s:AS) (R:AV->AS->Prop):Prop :=
 aa Tryz.prog eU [.ptr a0] s fun J s2=>∃ H:Bool,J=.bool H/\(af (!H)
 (R (.int .i64 1) s2)
 (aa Tryz.prog fO [.str a1] s2 fun K i=>∃ I:Bool,K=.bool I/\(af (!I)
 (R (.int .i64 2) i)
 (ai a0 fun L M=>zk (av i L (M+1)) fun O=>pM (dN T aJ (.map O) (.str a1) false i) fun m=>uT (iY T 100 fQ (.ptr m) (.ptr none)) fun n=>af (!n)
 (R (.int .i64 7) i)
 (ai a0 fun qQ o=>dJ (av i qQ o) fun p=>aa Tryz.prog ot [p,.str a1,a2] i fun r w=>∃ c:List AV,∃ d:Int,r=.aQ [.agg c,.int .i64 d]/\(ak (.cells [.int .u64 0,.int .u64 0,.int .u64 0,.int .u64 0,.int .u64 0,.int .u64 0,.int .u64 0,.int .u64 0,.int .u64 0,.int .u64 0,.int .u64 0,.int .u64 0,.int .u64 0,.int .u64 0,.int .u64 0,.int .u64 0] 0 false) w fun zl fN=>fm (some 16) c (bz (cR fN zl 0 c) fun gu=>af ((d:Int) != 0)
 (R (.int .i64 d) gu)
 (ai a0 fun x y=>zk (av gu x (y+1)) fun z=>aU .i64 (aO T aJ (.map z) gu) fun A=>af (decide ((A:Int)>=64))
 (R (.int .i64 5) gu)
 (gx fun S V=>ai a0 fun B C=>zk (av gu B (C+1)) fun D=>aR (aC gu zl 0 16) fun F=>oR (aV T nT [(0,.agg F)]) fun b=>(∀ mP:AS,Ext gu mP->aM mP->(True)->cH b (ak (.cells b 0 false) mP fun j k=>(Ext mP k/\S 7 [.agg b] (.ptr (some (j,0))) k/\V 7 [.agg b] (.ptr (some (j,0))))))/\(∃ v,V 7 [.agg b] v)/\∀ l:AV,V 7 [.agg b] l->∃ e:Option (Nat×Nat),l=.ptr e/\(∀ nV:AS,Ext gu nV->aM nV->(S 7 [.agg b] (.ptr e) nV/\True)->bz (dO T aJ (.map D) (.str a1) (.ptr e) nV) fun G=>R (.int .i64 0) G))))))))))
def y8:QA:=(.seq .leaf (.seq (.wrap (.seq .leaf (.cond (.seq .leaf .leaf) (.seq .leaf (.cond (.seq .leaf .leaf) (.seq .leaf (.cond (.seq .leaf .leaf) .leaf))))))) (.seq .leaf (.seq (.wrap (.seq .leaf (.cond (.seq .leaf .leaf) (.seq .leaf (.cond (.seq .leaf .leaf) .leaf))))) (.seq (.gN 8 [[],[],[],[],[],[],[],[]] [7]) (.seq .leaf .leaf))))))
theorem y9 (a0:Option (Nat×Nat)) (a1:List UInt8) (a2:AV) (s:AS) (R:AV->AS->Prop) (h:y7 a0 a1 a2 s R):aa Tryz.prog dx [.ptr a0,.str a1,a2] s R :=
 aa.q (n:=54) (rs:=[.tmp 6]) (A:=y8) hT bW Tryz.func18 (by kernel_rfl) rfl rfl rfl (by kernel_rfl) (by kernel_rfl) h
def Mb (a0:List UInt8) (a1:Option (Nat×Nat)) (a2:List AV) (a3:Option (Nat×Nat)) (s:AS) (R:AV->AS->Prop):Prop :=
 cH a2 (ak (.cells a2 0 false) s fun l1 s2=>ak (.cells [.ptr a3] 0 false) s2 fun l3 s4=>aR (aC s4 l1 0 21) fun w=>aa Tryz.prog yz [.agg w,.str a0] s4 fun r s7=>ai a1 fun x y=>aR (aC s7 x y 16) fun e=>aR (aC s7 l1 0 2) fun i=>aa Tryz.prog rU [.agg e,.agg i] s7 fun j bQ=>∃ b:Bool,j=.bool b/\(af b (R (.bool false) bQ) (aU .i64 (aO T az r bQ) fun k=>af ((k:Int)==0)
 (R (.bool false) bQ)
 (pM (av bQ l3 0) fun l=>FN (av bQ l1 2) fun m=>oR (aV T oB [(0,.str m),(1,.str a0)]) fun n=>aa Tryz.prog oT [.ptr l,.agg n] bQ fun o fN=>∃ c:Bool,o=.bool c/\(af c (R (.bool true) fN) (aa Tryz.prog dX [r,(.func rV [(.ptr (some (l3,0)))])] fN fun p tD=>∃ d:Bool,p=.bool d/\(R (.bool d) tD)))))))
def Mc:QA:=(.seq .leaf (.seq .leaf (.seq (.seq (.draw 6) (.cond (.seq .leaf .leaf) .leaf)) (.seq .leaf .leaf))))
theorem Md (a0:List UInt8) (a1:Option (Nat×Nat)) (a2:List AV) (a3:Option (Nat×Nat)) (s:AS) (R:AV->AS->Prop) (h:Mb a0 a1 a2 a3 s R):aa Tryz.prog vY [.str a0,.ptr a1,.agg a2,.ptr a3] s R :=
 aa.q (n:=36) (rs:=[.tmp 8]) (A:=Mc) hT bW Tryz.func160 (by kernel_rfl) rfl rfl rfl (by kernel_rfl) (by kernel_rfl) h
def GO (a0:List AV) (c0:Option (Nat×Nat)) (s:AS) (R:AV->AS->Prop):Prop :=
 cH a0 (ak (.cells a0 0 false) s fun l1 s2=>ai c0 fun l3 c=>pM (av s2 l3 c) fun d=>aR (aC s2 l1 0 2) fun e=>aa Tryz.prog nu [.ptr d,.agg e] s2 fun i s8=>∃ b:Bool,i=.bool b/\(R (.bool (!b)) s8))
def GP:QA:=(.seq .leaf (.seq .leaf .leaf))
theorem GQ (a0:List AV) (c0:Option (Nat×Nat)) (s:AS) (R:AV->AS->Prop) (h:GO a0 c0 s R):aa Tryz.prog rV [.agg a0,.ptr c0] s R :=
 aa.q (n:=8) (rs:=[.tmp 3]) (A:=GP) hT bW Tryz.func214 (by kernel_rfl) rfl rfl rfl (by kernel_rfl) (by kernel_rfl) h
def y_ (a0:Option (Nat×Nat)) (a1:List UInt8) (a2:Option (Nat×Nat)) (a3:Option (Nat×Nat)) (a4:AV) (s:AS) (R:AV->AS->Prop):Prop :=
 ai a0 fun l1 o2=>aU .i64 (av s l1 (o2+16)) fun F=>bA fun p G=>p G [.int .i64 F] s /\
 ∀ D:Nat,∀ j:Int,∀ s8:AS,p D [.int .i64 j] s8 ->
 aa Tryz.prog fU [.ptr a2] s8 fun H k=>∃ l:Int,H=.int .i64 l/\(af (decide ((j:Int)<l))
 (aa Tryz.prog nq [.ptr a2,.int .i64 j] k fun r bQ=>∃ c:List AV,∃ d:List AV,∃ w:Bool,r=.aQ [.agg c,.agg d,.bool w]/\(ak (.cells [.int .i64 0,.int .u64 0,.str [],.slc none 0 0 true,.int .u64 0,.int .u64 0,.int .u64 0,.int .u64 0,.int .u64 0,.int .u64 0,.int .u64 0,.int .u64 0,.int .u64 0,.int .u64 0,.int .u64 0,.int .u64 0,.int .u64 0,.int .u64 0,.int .u64 0,.int .u64 0,.slc none 0 0 true] 0 false) bQ fun e eC=>ak (.cells [.int .u64 0,.int .u64 0,.int .u64 0,.int .u64 0,.int .u64 0,.int .u64 0,.int .u64 0,.int .u64 0,.int .u64 0,.int .u64 0,.int .u64 0,.int .u64 0,.int .u64 0,.int .u64 0,.int .u64 0,.int .u64 0] 0 false) eC fun zl fN=>fm (some 21) c (bz (cR fN e 0 c) fun gu=>fm (some 16) d (bz (cR gu zl 0 d) fun gh=>bt fun i =>
 (∀ m:Bool,∀ dM:AS,i [.bool m] dM ->
 af m
 (R (.int .i64 (IntKind.wrap .i64 (j+1))) dM)
 (∃ m',m'<D/\p m' [(.int .i64 (IntKind.wrap .i64 (j+1)))] dM)) /\
 (aR (aC gh e 0 21) fun x=>aa Tryz.prog vY [.str a1,.ptr a0,.agg x,.ptr a3] gh fun y b=>∃ n:Bool,y=.bool n/\(af n (aR (aC b e 0 21) fun z=>aR (aC b zl 0 16) fun A=>ek Tryz.prog a4 [.agg z,.agg A] b fun B C=>∃ o:Bool,B=.bool o/\(i [(.bool (!o))] C)) (i [.bool false] b)))))))
 (R (.int .i64 j) k))
def za:QA:=(.seq .leaf (.seq .leaf (.seq (.wrap (.loop [(11,.int .i64)] [(10,14),(19,45)] (.seq (.seq .leaf (.cond .leaf .leaf)) (.seq (.wrap (.seq .leaf (.join [(43,.bool)] [(32,43)] .leaf (.cond (.seq .leaf .leaf) .leaf)))) .leaf)))) (.seq .leaf .leaf))))
theorem zb (a0:Option (Nat×Nat)) (a1:List UInt8) (a2:Option (Nat×Nat)) (a3:Option (Nat×Nat)) (a4:AV) (s:AS) (R:AV->AS->Prop) (h:y_ a0 a1 a2 a3 a4 s R):aa Tryz.prog bY [.ptr a0,.str a1,.ptr a2,.ptr a3,a4] s R :=
 aa.q (n:=47) (rs:=[.tmp 10]) (A:=za) hT bW Tryz.func79 (by kernel_rfl) rfl rfl rfl (by kernel_rfl) (by kernel_rfl) h
def Cf (a0:Option (Nat×Nat)) (a1:List UInt8) (a2:Int) (a3:Option (Nat×Nat)) (a4:Option (Nat×Nat)) (s:AS) (R:AV->AS->Prop):Prop :=
 ak (.cells [.int .i64 a2] 0 false) s fun l1 s2=>bt fun A =>
 (∀ b4:Bool,∀ k:AS,A [.bool b4] k ->
 af b4
 (R (.aQ [.slc none 0 0 true,.int .i64 1]) k)
 (bt fun B =>
 (∀ D:Int,∀ s8:AS,B [.int .i64 D] s8 ->
 af ((D:Int) != 0)
 (R (.aQ [.slc none 0 0 true,.int .i64 D]) s8)
 (ai a0 fun l9 F=>zk (av s8 l9 (F+1)) fun G=>pM (dN T aJ (.map G) (.str a1) false s8) fun H=>ak (.cells [.ptr none] 0 false) s8 fun b I=>bz (cR I b 0 [.ptr H]) fun gr=>ak (.cells [.slc none 0 0 true] 0 false) gr fun qV lH=>sE lH fun X C c S V=>pM (av lH b 0) fun l=>(∀ eC:AS,X lH eC->aM eC->pM (av eC b 0) fun J=>(((.ptr J):AV)=(.ptr l)))/\(pM (av lH b 0) fun d=>(∀ gu:AS,X lH gu->aM gu->pM (av gu b 0) fun K=>(((.ptr K):AV)=(.ptr d)))/\((∀ m:AS,X lH m->aM m->(((.func bK [(.ptr (some (qV,0))),(.ptr (some (b,0))),(.ptr (some (l1,0)))]):AV)=(.func bK [(.ptr (some (qV,0))),(.ptr (some (b,0))),(.ptr (some (l1,0)))])))/\((∀ dM:AS,X lH dM->aM dM->(True)->c dM->aa Tryz.prog bY [.ptr d,.str a1,.ptr a3,.ptr a4,(.func bK [(.ptr (some (qV,0))),(.ptr (some (b,0))),(.ptr (some (l1,0)))])] dM fun L j=>∃ e:Int,L=.int .i64 e/\(((X dM j/\C 6 [(.func bY []),.ptr d,.str a1,.ptr a3,.ptr a4,(.func bK [(.ptr (some (qV,0))),(.ptr (some (b,0))),(.ptr (some (l1,0)))])] (.int .i64 e) j)/\S 6 [(.func bY []),.ptr d,.str a1,.ptr a3,.ptr a4,(.func bK [(.ptr (some (qV,0))),(.ptr (some (b,0))),(.ptr (some (l1,0)))])] (.int .i64 e) j/\V 6 [(.func bY []),.ptr d,.str a1,.ptr a3,.ptr a4,(.func bK [(.ptr (some (qV,0))),(.ptr (some (b,0))),(.ptr (some (l1,0)))])] (.int .i64 e))))/\(∃ v,V 6 [(.func bY []),.ptr d,.str a1,.ptr a3,.ptr a4,(.func bK [(.ptr (some (qV,0))),(.ptr (some (b,0))),(.ptr (some (l1,0)))])] v)/\∀ n:AV,V 6 [(.func bY []),.ptr d,.str a1,.ptr a3,.ptr a4,(.func bK [(.ptr (some (qV,0))),(.ptr (some (b,0))),(.ptr (some (l1,0)))])] n->∃ i:Int,n=.int .i64 i/\(∀ mP:AS,X lH mP->aM mP->(S 6 [(.func bY []),.ptr d,.str a1,.ptr a3,.ptr a4,(.func bK [(.ptr (some (qV,0))),(.ptr (some (b,0))),(.ptr (some (l1,0)))])] (.int .i64 i) mP/\True)->C 6 [(.func bY []),.ptr d,.str a1,.ptr a3,.ptr a4,(.func bK [(.ptr (some (qV,0))),(.ptr (some (b,0))),(.ptr (some (l1,0)))])] (.int .i64 i) mP->ai l fun M O=>bz (cR mP M (O+16) [.int .i64 i]) fun j8=>dJ (av j8 qV 0) fun Q=>R (.aQ [Q,.int .i64 0]) j8)))))) /\
 (aU .i64 (av k l1 0) fun U=>af (decide ((U:Int)>=1)) (aU .i64 (av k l1 0) fun W=>aa Tryz.prog eV [.ptr a0,.str a1,(.bool (decide ((W:Int)<=16)))] k fun Y Z=>∃ o:Int,Y=.int .i64 o/\(B [.int .i64 o] Z)) (aa Tryz.prog eV [.ptr a0,.str a1,.bool false] k fun ab ad=>∃ p:Int,ab=.int .i64 p/\(B [.int .i64 p] ad))))) /\
 (aa Tryz.prog eU [.ptr a0] s2 fun ae r=>∃ w:Bool,ae=.bool w/\(af w (aa Tryz.prog gX [.ptr a3] r fun al x=>∃ y:Option (Nat×Nat),al=.ptr y/\(uT (iY T 100 kL (.ptr y) (.ptr none)) fun am=>af am (A [.bool true] x) (aa Tryz.prog kI [.ptr a4] x fun an ao=>∃ z:Option (Nat×Nat),an=.ptr z/\(uT (iY T 100 oC (.ptr z) (.ptr none)) fun ar=>A [.bool ar] ao)))) (A [.bool false] r)))
def Cg:QA:=(.seq .leaf (.seq (.join [(26,.bool)] [(15,26)] .leaf (.cond (.seq .leaf .leaf) .leaf)) (.seq (.join [(12,.int .i64)] [(12,12),(27,35)] .leaf (.seq .leaf (.cond (.seq .leaf .leaf) .leaf))) (.seq .leaf (.seq .leaf (.seq (.uU [0,1,2,3,4,5,6] [7,8,9] [[],[],[],[],[],[],[]] [6] [6]) (.seq .leaf .leaf)))))))
theorem Ch (a0:Option (Nat×Nat)) (a1:List UInt8) (a2:Int) (a3:Option (Nat×Nat)) (a4:Option (Nat×Nat)) (s:AS) (R:AV->AS->Prop) (h:Cf a0 a1 a2 a3 a4 s R):aa Tryz.prog eD [.ptr a0,.str a1,.int .i64 a2,.ptr a3,.ptr a4] s R :=
 aa.q (n:=55) (rs:=[.tmp 10,.tmp 11]) (A:=Cg) hT bW Tryz.func19 (by kernel_rfl) rfl rfl rfl (by kernel_rfl) (by kernel_rfl) h
def ze (a0:List AV) (a1:List AV) (c0:Option (Nat×Nat)) (Q:Option (Nat×Nat)) (c2:Option (Nat×Nat)) (s:AS) (R:AV->AS->Prop):Prop :=
 cH a0 (ak (.cells a0 0 false) s fun l1 s2=>cH a1 (ak (.cells a1 0 false) s2 fun l3 s4=>sE s4 fun X C c S V=>ai Q fun l6 o7=>pM (av s4 l6 o7) fun p8=>(∀ U:AS,X s4 U->aM U->ai Q fun l9 W=>pM (av U l9 W) fun Y=>(((.ptr Y):AV)=(.ptr p8)))/\((∀ dw:AS,X s4 dw->aM dw->(True)->c dw->ai c0 fun Z ab=>dJ (av dw Z ab) fun w=>((X dw dw/\C 1 [.ptr c0] w dw)/\S 1 [.ptr c0] w dw/\V 1 [.ptr c0] w))/\(∃ v,V 1 [.ptr c0] v)/\∀ nD:AV,V 1 [.ptr c0] nD->aR (aC s4 l1 0 21) fun i=>(∀ lH:AS,X s4 lH->aM lH->aR (aC lH l1 0 21) fun ad=>(((.agg ad):AV)=(.agg i)))/\((∀ fN:AS,X s4 fN->aM fN->(True)->aR (cV T bH 1 [(0,.agg i)]) fun ae=>ak (.cells ae 0 false) fN fun K tD=>(Ext fN tD/\S 3 [.agg i] (.slc (some (K,0)) 1 1 true) tD/\V 3 [.agg i] (.slc (some (K,0)) 1 1 true)))/\(∃ v,V 3 [.agg i] v)/\∀ b:AV,V 3 [.agg i] b->(∀ dM:AS,X s4 dM->aM dM->(S 1 [.ptr c0] nD dM/\(S 3 [.agg i] b dM/\True))->C 1 [.ptr c0] nD dM->iF (aI T bH bH nD b dM) fun x y=>((X dM y/\C 4 [nD,b] x y)/\S 4 [nD,b] x y/\V 4 [nD,b] x))/\(∃ v,V 4 [nD,b] v)/\∀ d:AV,V 4 [nD,b] d->ai Q fun al am=>pM (av s4 al am) fun z=>(∀ A:AS,X s4 A->aM A->ai Q fun an ao=>pM (av A an ao) fun ar=>(((.ptr ar):AV)=(.ptr z)))/\(ai z fun B D=>(∀ nV:AS,X s4 nV->aM nV->ai z fun aw a2=>(((.ptr (some (aw,a2))):AV)=(.ptr (some (B,D)))))/\(dJ (av s4 B (D+17)) fun j=>(∀ F:AS,X s4 F->aM F->dJ (av F B (D+17)) fun a3=>((a3:AV)=j))/\(aR (aC s4 l3 0 16) fun m=>(∀ G:AS,X s4 G->aM G->aR (aC G l3 0 16) fun a4=>(((.agg a4):AV)=(.agg m)))/\((∀ p:AS,X s4 p->aM p->(True)->aR (cV T bp 1 [(0,.agg m)]) fun a5=>ak (.cells a5 0 false) p fun L M=>(Ext p M/\S 10 [.agg m] (.slc (some (L,0)) 1 1 true) M/\V 10 [.agg m] (.slc (some (L,0)) 1 1 true)))/\(∃ v,V 10 [.agg m] v)/\∀ e:AV,V 10 [.agg m] e->(∀ n:AS,X s4 n->aM n->(S 1 [.ptr c0] nD n/\(S 3 [.agg i] b n/\(S 4 [nD,b] d n/\(S 10 [.agg m] e n/\True))))->C 4 [nD,b] d n->iF (aI T bp bp j e n) fun H I=>((X n I/\C 11 [j,e] H I)/\S 11 [j,e] H I/\V 11 [j,e] H))/\(∃ v,V 11 [j,e] v)/\∀ o:AV,V 11 [j,e] o->(∀ k:AS,X s4 k->aM k->(S 1 [.ptr c0] nD k/\(S 3 [.agg i] b k/\(S 4 [nD,b] d k/\(S 10 [.agg m] e k/\(S 11 [j,e] o k/\True)))))->C 11 [j,e] o k->ai c0 fun a6 a7=>fG T bH k a6 a7 d fun J=>((X k J/\C 12 [.ptr c0,d] (.aQ []) J)/\S 12 [.ptr c0,d] (.aQ []) J/\V 12 [.ptr c0,d] (.aQ [])))/\(∃ v,V 12 [.ptr c0,d] v)/\∀ O:AV,V 12 [.ptr c0,d] O->O=.aQ []/\(∀ l:AS,X s4 l->aM l->(S 1 [.ptr c0] nD l/\(S 3 [.agg i] b l/\(S 4 [nD,b] d l/\(S 10 [.agg m] e l/\(S 11 [j,e] o l/\(S 12 [.ptr c0,d] (.aQ []) l/\True))))))->C 12 [.ptr c0,d] (.aQ []) l->ai p8 fun a8 a9=>fG T bp l a8 (a9+17) o fun r=>ai c0 fun a' ba=>dJ (av r a' ba) fun bb=>aU .i64 (aO T bH bb r) fun bc=>ai c2 fun bd be=>aU .i64 (av r bd be) fun bh=>R (.bool (decide ((bc:Int)<bh))) r)))))))))
def zf:QA:=(.seq .leaf (.seq (.uU [0,1,2,3,4,5,6,7,8,9,10,11,12] [13,14,15] [[],[],[],[],[1,3],[],[],[],[],[],[],[1,3,4,10],[1,3,4,10,11],[],[],[]] [1,3,4,10,11,12] [1,4,11,12]) (.seq .leaf .leaf)))
theorem zg (a0:List AV) (a1:List AV) (c0:Option (Nat×Nat)) (b:Option (Nat×Nat)) (c2:Option (Nat×Nat)) (s:AS) (R:AV->AS->Prop) (h:ze a0 a1 c0 b c2 s R):aa Tryz.prog bK [.agg a0,.agg a1,.ptr c0,.ptr b,.ptr c2] s R :=
 aa.q (n:=26) (rs:=[.tmp 7]) (A:=zf) hT bW Tryz.func80 (by kernel_rfl) rfl rfl rfl (by kernel_rfl) (by kernel_rfl) h
def DD (a0:Option (Nat×Nat)) (a1:List UInt8) (a2:Int) (s:AS) (R:AV->AS->Prop):Prop :=
 aa Tryz.prog eV [.ptr a0,.str a1,(.bool (decide ((a2:Int)>=0)))] s fun W s2=>∃ k:Int,W=.int .i64 k/\(af ((k:Int) != 0)
 (R (.aQ [.slc none 0 0 true,.int .i64 k]) s2)
 (ai a0 fun X Y=>zk (av s2 X (Y+1)) fun Z=>pM (dN T aJ (.map Z) (.str a1) false s2) fun b=>ai b fun l8 o9=>dJ (av s2 l8 (o9+17)) fun v10=>aU .i64 (aO T bp v10 s2) fun l=>af (decide ((a2:Int)>l))
 (R (.aQ [.slc none 0 0 true,.int .i64 6]) s2)
 (bt fun c =>
 (∀ bQ:AS,c [] bQ ->
 ai a0 fun lq m=>dJ (av bQ lq m) fun nD=>ai b fun n o=>aR (aC bQ n o 16) fun p=>aa Tryz.prog fH [nD,.str a1,.agg p] bQ fun v20 gu=>∃ e:AV,∃ i:Int,v20=.aQ [e,.int .i64 i]/\(R (.aQ [e,.int .i64 i]) gu)) /\
 (af (decide ((a2:Int)>0))
 (ai b fun r w=>aR (aC s2 r w 16) fun x=>ai b fun y z=>dJ (av s2 y (z+17)) fun A=>bG (ag T bp A (.int .i64 (IntKind.wrap .i64 (a2 - 1)))) fun B C=>aR (aC s2 B C 16) fun D=>aa Tryz.prog rS [.agg x,.agg D] s2 fun F j8=>∃ d:List AV,F=.agg d/\(ai b fun G H=>fm (some 16) d (bz (cR j8 G H d) fun j=>ai b fun I J=>dJ (av j I (J+17)) fun K=>dJ (aZ T bp K (some (.int .i64 a2)) none none) fun L=>aa Tryz.prog en [L] j fun M O=>ai b fun Q S=>fG T bp O Q (S+17) M fun U=>c [] U)))
 (c [] s2)))))
def DE:QA:=(.seq .leaf (.seq (.seq .leaf (.seq .leaf (.cond (.seq .leaf .leaf) .leaf))) (.seq .leaf (.seq (.seq .leaf (.cond (.seq .leaf .leaf) .leaf)) (.join [] [(31,58)] (.seq .leaf (.cond (.seq .calm .leaf) .leaf)) (.seq .calm .leaf))))))
theorem DF (a0:Option (Nat×Nat)) (a1:List UInt8) (a2:Int) (s:AS) (R:AV->AS->Prop) (h:DD a0 a1 a2 s R):aa Tryz.prog e_ [.ptr a0,.str a1,.int .i64 a2] s R :=
 aa.q (n:=71) (rs:=[.tmp 6,.tmp 7]) (A:=DE) hT bW Tryz.func20 (by kernel_rfl) rfl rfl rfl (by kernel_rfl) (by kernel_rfl) h
def zh (a0:Option (Nat×Nat)) (a1:List UInt8) (s:AS) (R:AV->AS->Prop):Prop :=
 aa Tryz.prog eV [.ptr a0,.str a1,.bool true] s fun o s2=>∃ d:Int,o=.int .i64 d/\(af ((d:Int) != 0)
 (R (.aQ [.slc none 0 0 true,.int .i64 d]) s2)
 (ai a0 fun p r=>zk (av s2 p (r+1)) fun w=>pM (dN T aJ (.map w) (.str a1) false s2) fun x=>ai a0 fun y z=>zk (av s2 y (z+1)) fun e=>bz (pL T aJ (.map e) (.str a1) s2) fun b=>ai a0 fun qQ i=>dJ (av b qQ i) fun j=>ai x fun k l=>aR (aC b k l 16) fun m=>aa Tryz.prog fH [j,.str a1,.agg m] b fun n iV=>∃ v20:AV,∃ c:Int,n=.aQ [v20,.int .i64 c]/\(R (.aQ [v20,.int .i64 c]) iV)))
def zi:QA:=(.seq .leaf (.seq (.seq .leaf (.seq .leaf (.cond (.seq .leaf .leaf) .leaf))) (.seq .leaf (.seq .leaf (.seq .calm .leaf)))))
theorem zj (a0:Option (Nat×Nat)) (a1:List UInt8) (s:AS) (R:AV->AS->Prop) (h:zh a0 a1 s R):aa Tryz.prog eE [.ptr a0,.str a1] s R :=
 aa.q (n:=37) (rs:=[.tmp 4,.tmp 5]) (A:=zi) hT bW Tryz.func21 (by kernel_rfl) rfl rfl rfl (by kernel_rfl) (by kernel_rfl) h
end Go.Proofs.YtohgmogbabkkeaaGreat
end

section
namespace Go.Proofs.YtohgmogbabkkeaaGreat
open Go.Am Go.au Go.aB Go.bM
structure Dv where
 cur:List Int
 place:Nat
 hand:List (List Int)
structure Qb where
 l:Nat
 hv:AV
 d:Dv
 H:List FO
 len:d.cur.length=16
def mC (cur:List Int) (place:Int) (hv:AV):List AV:=cur.map (.int .u64)++[.int .i64 place,hv]
def fA (m:Qb):List Nat:=m.l::ay m.hv
def FJ (F:List Nat) (s:AS) (m:Qb):Prop:=Am.Own s m.l (mC m.d.cur m.d.place m.hv)/\br q8 16 s m.hv m.H/\m.H.map FO.v=m.d.hand/\∀ y∈fA m,y∈F
theorem mD {cur:List Int} (h:cur.length=16) (pl:Int) (hv:AV):(mC cur pl hv).length=18:=by simp [mC,h]
theorem A4 {cur:List Int} (h:cur.length=16) (pl:Int) (hv:AV):((mC cur pl hv).drop 0).take 16=cur.map (.int .u64):=by
 rw [mC,List.drop_zero,List.take_append_of_le_length (by simp [h]),List.take_of_length_le (by simp [h])]
theorem DY {cur:List Int} (h:cur.length=16) (pl:Int) (hv:AV):(mC cur pl hv)[16]? = some (.int .i64 pl)/\(mC cur pl hv)[17]? = some hv:=by
 constructor <;>
 ·rw [mC,List.getElem?_append_right (by simp [h])];simp [h]
theorem FK {cur:List Int} (h:cur.length=16) (pl b:Int) (hv oQ:AV):(mC cur pl hv).set 16 (.int .i64 b)=mC cur b hv/\(mC cur pl hv).set 17 oQ=mC cur pl oQ:=by
 simp [mC,List.set_append,h]
abbrev sK (t:List UInt8):AV:=.str t
def dP (m:Qb):AV:=.ptr (some (m.l,0))
theorem uQ:Q9 (K:=List UInt8) T aJ cE fQ sK (.ptr none) :=
 ⟨kq,fun a b=>by rw [Q6 qB];simp only [Option.some.injEq];by_cases h:a=b <;> simp [h],fun a=>by kernel_rfl,fun a=>by simp [xU],By⟩
structure lI (F:List Nat) (s:AS) (p:Nat) (sec:List Int) (f:List UInt8->Option Dv) (n:Nat):Prop where
 mem:∃ (sv:AV) (hm:Nat) (es:List (List UInt8×Qb×Nat)) (k:Nat),Am.Own s p [sv,.map (some hm)]/\p∈F/\hm∈F/\(br pK 1 s sv sec/\∀ y∈ay sv,y∈F)/\eJ sK dP s hm es k false/\es.length=n /\
  (∀ a m,dV es a=some m->FJ F s m/\f a=some m.d)/\(∀ a,dV es a=none->f a=none) /\
  ∀ a b x y,dV es a=some x->dV es b=some y->a≠b->∀ z∈fA x,z ∉ fA y
section
variable {F F':List Nat} {s s':AS} {p n:Nat} {sec:List Int} {f:List UInt8->Option Dv}
theorem FJ.mut {m:Qb} {L:List Nat} (h:FJ F s m) (e:bD L s s') (b:∀ y∈L,y ∉ fA m):FJ F s' m :=
 ⟨h.1.mut e fun hm=>b _ hm (by simp [fA]),h.2.1.mut e fun y c hm=>b y hm (by simp [fA,c]),h.2.2⟩
theorem lI.mut {L:List Nat} (h:lI F s p sec f n) (m:bD L s s') (c:∀ y∈L,y ∉ F):lI F s' p sec f n:=by
 obtain ⟨sv,hm,es,k,i,h2,h3,⟨a1,a2⟩,j,c2,d,l,o⟩:=h;exact ⟨sv,hm,es,k,i.mut m (fun b=>c p b h2),h2,h3,⟨a1.mut m (fun y e b=>c y b (a2 y e)),a2⟩,j.mut m (fun b=>c hm b h3),c2,fun a x b=>⟨(d a x b).1.mut m fun y e hd=>c y e ((d a x b).1.2.2.2 y hd),(d a x b).2⟩,l,o⟩
theorem lI.ext (h:lI F s p sec f n) (e:Ext s s'):lI F s' p sec f n:=h.mut (L:=[]) e.mut (by simp)
theorem Ci (h:lI F s p sec f n):aa Tryz.prog eU [.ptr (some (p,0))] s fun r s'=>r=.bool true/\s'=s:=by
 obtain ⟨sv,hm,es,k,b,_⟩:=h;exact AZ _ _ _ ⟨_,iG FV _,af.yes rfl ⟨_,by rw [b.at.av];rfl,_,HD kq _,rfl,rfl⟩⟩
theorem NX (sv:AV) (h:sv.one=true) (hm:Nat):aV T rE [(0,sv),(1,.map (some hm))]=some (.agg [sv,.map (some hm)]):=by
 have e1:∀ v:AV,v.one=true->bJ v=some [v]:=fun v hv=>by cases v <;> first | rfl | cases hv
 rw [qj (pl:=[(0,1),(1,1)]) (by kernel_rfl) Ir rfl];simp only [iZ,e1 _ h,e1 (.map (some hm)) rfl,List.getElem?_cons_zero,List.getElem?_cons_succ,List.length_cons,List.length_nil];rfl
theorem T5 {s:AS} {v:AV} {sec:List Int} (hv:gy s v sec) (n:sec.length<=2 ^ 30):aa Tryz.prog ng [v] s fun r s'=>∃ p F,r=.ptr (some (p,0))/\lI F s' p sec (fun _=>none) 0/\(∀ y∈F,s.h y=none)/\(∀ y∈F,s'.h y≠none)/\Ext s s':=by
 refine NW _ _ _ ?_;refine aa.use (Cb hv n) ?_;rintro j s2 g w2;have k:=g.iS.2;have i:∀ l3:Nat,([j,AV.map (some l3)]).all AV.one=true:=fun l3=>by simp [k]
 refine ak.intro w2 rfl fun l3 s4 d=>⟨_,NX j k l3,i l3,ak.intro d.wf rfl fun l s7 e=>⟨l,l::l3::ay j,rfl,⟨j,l3,[],0,e.own,by simp,by simp,⟨(g.u6.ext d.ext).ext e.ext,fun y c=>by simp [c]⟩,eJ.new (e.ext.1 _ _ d.at),rfl,fun a m hm=>by simp [sM] at hm,fun a _=>rfl,fun a b x y o=>by simp [sM] at o⟩,?_,?_,(g.ew.ext.trans d.ext).trans e.ext⟩⟩
 ·intro y c;simp only [List.mem_cons] at c;rcases c with rfl | rfl | c
  ·exact (g.ew.ext.trans d.ext).none e.no
  ·exact g.ew.ext.none d.no
  ·exact g.new y c
 ·intro y c;simp only [List.mem_cons] at c;rcases c with rfl | rfl | c
  ·rw [e.at];simp
  ·rw [e.ext.1 _ _ d.at];simp
  ·exact br.kZ ((g.u6.ext d.ext).ext e.ext) y c
theorem Sh (h:lI F s p sec f n):∃ (sv:AV) (hm:Nat) (es:List (List UInt8×Qb×Nat)) (k:Nat),Am.Own s p [sv,.map (some hm)]/\eJ sK dP s hm es k false/\es.length=n/\(∀ a m,dV es a=some m->FJ F s m/\f a=some m.d)/\(∀ a,dV es a=none->f a=none)/\∀ a,dN T aJ (.map (some hm)) (.str a) false s=some (.ptr ((dV es a).map fun m=>(m.l,0))):=by
 obtain ⟨sv,hm,es,k,c,h2,h3,⟨a1,a2⟩,b,c2,e,i,j⟩:=h;refine ⟨sv,hm,es,k,c,b,c2,e,i,fun a=>?_⟩;have:=b.find uQ a false;refine this.trans ?_;cases dV es a <;> rfl
theorem A5 (h:lI F s p sec f n) (name:List UInt8) (ok:Bool):aa Tryz.prog eV [.ptr (some (p,0)),.str name,.bool ok] s fun r s'=>r=.int .i64 (if (!aE name||!ok)=true then 2 else if (f name).isNone=true then 7 else 0)/\s'=s:=by
 refine A3 _ _ _ _ _ ?_;refine aa.use (Ci h) ?_;rintro v s2 ⟨rfl,rfl⟩ w2;obtain ⟨sv,hm,es,k,j,_,_,o,w,c⟩:=Sh h;refine ⟨_,rfl,af.no rfl ⟨fun vs s'=>vs=[.bool (!aE name||!ok)]/\s'=s2,?_,?_⟩⟩
 ·rintro b s6 ⟨hb,rfl⟩;simp only [List.cons.injEq,AV.bool.injEq,and_true] at hb;subst hb;refine af.mk (fun hb=>⟨by simp only [hb,if_true],rfl⟩) (fun hb=>⟨_,by rw [j.at.av];rfl,_,c name,_,iG uY _,?_⟩);have e:(f name).isNone=((dV es name).map fun m=>(m.l,0)).isNone:=by
   cases i:dV es name with
   | none=>rw [w _ i];rfl
   | some m=>rw [(o _ _ i).2];rfl
  rw [<- e];refine af.mk (fun d=>⟨?_,rfl⟩) (fun d=>⟨?_,rfl⟩)
  ·rw [hb,d];rfl
  ·rw [hb,d];rfl
 ·refine aa.use (uN _ _) ?_;rintro x bQ ⟨rfl,rfl⟩ y;refine ⟨_,rfl,af.mk (fun hb=>⟨by simp [hb],rfl⟩) (fun hb=>⟨by simp [hb],rfl⟩)⟩
end
/-! ### what is owed -/
noncomputable def Si (x:aH) (k:Key):Bool:=@decide (∃ d,x.live d=some k) (Classical.propDecidable _)
theorem Me {x:aH} {k:Key}:Si x k=true↔∃ d,x.live d=some k:=by
 unfold Si;exact @decide_eq_true_iff _ (Classical.propDecidable _)
def Sj (x:aH) (d:aK):Bool:=!(x.live d).isSome&&x.has d
noncomputable def lE (name:List UInt8) (cur:List Int) (x:aH) (e:Ev):Bool :=
 !under cur e.id&&!(iP e.to name).isEmpty&&(Si x ⟨e.dL,name⟩||(iP e.to name).any fun d=>!Sj x d)
theorem Sk {F:List Nat} {s:AS} {p c:Nat} {x:aH} (e:At s c [.ptr (some (p,0))]) (h:gL F s p x) (d:aK):aa Tryz.prog rV [.agg (aN d),.ptr (some (c,0))] s fun r s'=>r=.bool (!Sj x d)/\Ext s s':=by
 refine aa.pre fun i=>GQ _ _ _ _ ⟨rfl,ak.intro i rfl fun l1 s2 b=>⟨_,by rw [(e.ext b.ext).av];rfl,_,b.own.at.aC (by simp [aN]),?_⟩⟩;refine aa.use (Tv (h.ext b.ext) d) ?_;rintro v s8 ⟨rfl,j⟩ k;exact ⟨_,rfl,rfl,b.ext.trans j⟩
set_option maxRecDepth 20000 in
theorem T6 {F:List Nat} {s:AS} {p l:Nat} {x:aH} {m:mS} {cur:List Int} {cs:List AV} (hm:AU s m) (J:m.ev.to.length<=2 ^ 29) (h:gL F s p x) (D:x.nl<65536) (k:cur.length=16) (hd:At s l cs) (G:(cs.drop 0).take 16=cur.map (.int .u64)) (O:16<=cs.length) (name:List UInt8) :
  aa Tryz.prog vY [.str name,.ptr (some (l,0)),.agg (iu m),.ptr (some (p,0))] s fun r s'=>r=.bool (lE name cur x m.ev)/\Ext s s':=by
 have ev:=aY m;refine aa.pre fun Q=>Md _ _ _ _ _ _ ⟨dI m,ak.intro Q rfl fun l1 s2 B=>ak.intro B.wf rfl fun l3 s4 n=>?_⟩;have K:=B.ext.trans n.ext;refine ⟨_,(B.own.ext n.ext).at.aC (by omega),?_⟩;rw [gD];refine aa.use (V0 (hm.ext K) J name) ?_;rintro v6 s7 o w7;have L:=K.trans o.ew.ext;have M:=((B.own.ext n.ext).ext o.ew.ext).at;have R:(iP m.ev.to name).length<=2 ^ 29:=by
  simp only [iP,List.length_map];exact Nat.le_trans (List.length_filter_le _ _) J
 refine ⟨_,(hd.ext L).aC (by omega),_,M.aC (by rw [ev];omega),?_⟩;rw [G,NR];refine aa.use (R9 k _ _) ?_;rintro S bQ ⟨rfl,i⟩ U;have c:=L.trans i;have y:=(o.sl bn).ext i;refine ⟨_,rfl,af.mk (fun hu=>⟨by simp [lE,hu],c⟩) (fun hu=>⟨_,y.cj bF _,af.mk (fun C=>⟨?_,c⟩) (fun C=>⟨_,by rw [((n.own.ext o.ew.ext).ext i).at.av];rfl,m.ev.dL,by rw [(M.ext i).av];rfl,_,B2 _ _,?_⟩)⟩)⟩
 ·have W:(((iP m.ev.to name).length:Nat):Int)=0:=beq_iff_eq.1 C;have:iP m.ev.to name=[]:=List.length_eq_zero_iff.1 (by omega);simp [lE,this]
 have z:(iP m.ev.to name).isEmpty=false:=by
  cases X:iP m.ev.to name with
  | nil=>rw [X] at C;simp at C
  | cons a b=>rfl
 refine aa.use (Va (h.ext c) D _) ?_;rintro Y fN ⟨⟨b,rfl,hb⟩,j⟩ Z;have A:b=Si x ⟨m.ev.dL,name⟩:=by
  rw [Bool.eq_iff_iff,hb,Me]
 refine ⟨_,rfl,af.mk (fun H=>⟨?_,c.trans j⟩) (fun H=>?_)⟩
 ·simp [lE,hu,z,<- A,H]
 ·refine aa.use (B9 (P:=fun d=>!Sj x d) (y.ext j) (by omega) fun d hd s' e w=>Sk (((n.own.ext o.ew.ext).ext i).ext (j.trans e)).at (h.ext ((c.trans j).trans e)) d) ?_;rintro ab tD ⟨rfl,I⟩ ad;refine ⟨_,rfl,?_,(c.trans j).trans I⟩;simp [lE,hu,z,<- A,H]
end Go.Proofs.YtohgmogbabkkeaaGreat
end

section
namespace Go.Proofs.YtohgmogbabkkeaaGreat
open Go.Am Go.au Go.aB Go.bM
set_option maxRecDepth 20000 in
theorem Sm {s:AS} {lo lp lm l:Nat} {out hv:AV} {D:List mS} {H:List FO} {cur:List Int} {pl most:Int} (n:cur.length=16) (oo:Am.Own s lo [out]) (op:Am.Own s lp [.ptr (some (l,0))]) (om:Am.Own s lm [.int .i64 most]) (od:Am.Own s l (mC cur pl hv))
  (gO:br iu 21 s out D) (gH:br q8 16 s hv H) (a0:lo≠lp) (a1:lo≠lm) (K:lo≠l) (b6:lp≠l) (a2:lm≠l) (A:D.length+1<=2 ^ 29) (b7:H.length+1<=2 ^ 29) (m:mS) (v:FO) :
  aa Tryz.prog bK [.agg (iu m),.agg (q8 v),.ptr (some (lo,0)),.ptr (some (lp,0)),.ptr (some (lm,0))] s fun r s'=>r=.bool (decide (((D.length+1:Nat):Int)<most))/\∃ p oQ,Am.Own s' lo [p]/\Am.Own s' l (mC cur pl oQ)/\br iu 21 s' p (D++[m])/\br q8 16 s' oQ (H++[v]) /\
   bD (lo::l::(ay out++ay hv)) s s'/\(∀ y∈ay p++ay oQ,y∈ay out++ay hv\/s.h y=none):=by
 have ev:=aY m;have vv:=cG v;refine aa.pre fun hw=>zg _ _ _ _ _ _ _ ⟨dI m,ak.intro hw rfl fun l1 s2 F2=>⟨nW v,ak.intro F2.wf rfl fun l3 s4 F4=>?_⟩⟩;have G:=F2.ext.trans F4.ext;have o1:=F2.own.ext F4.ext;have o3:=F4.own;have ab:=oo.ext G;have a3:=op.ext G;have a4:=om.ext G;have ad:=od.ext G;have a5:=gO.ext G;have a6:=gH.ext G;have d1:lo≠l1:=fun e=>by
  have:=F2.no;rw [<- e,oo] at this;cases this
 have d3:lo≠l3:=fun e=>by
  have:=F4.no;rw [<- e,oo.ext F2.ext] at this;cases this
 have a7:=mD n pl hv;have a8:=DY n pl hv
 let X:AS->AS->Prop:=fun a b=>(∀ y cs,y≠lo->Am.Own a y cs->Am.Own b y cs)/\(∀ v,br iu 21 a v (D++[m])->br iu 21 b v (D++[m]))/\(∀ w,br q8 16 a w (H++[v])->br q8 16 b w (H++[v]))/\(a.h lo≠none->b.h lo≠none)/\bD (lo::(ay out++ay hv)) a b
 have rp:∀ s',X s4 s'->av s' lp 0=some (.ptr (some (l,0))):=fun s' x=>by rw [(x.1 _ _ (Ne.symm a0) a3).at.av];rfl
 have r1:∀ s',X s4 s'->aC s' l1 0 21=some (iu m):=fun s' x=>by rw [(x.1 _ _ (Ne.symm d1) o1).at.aC (by omega),gD]
 have r3:∀ s',X s4 s'->aC s' l3 0 16=some (q8 v):=fun s' x=>by rw [(x.1 _ _ (Ne.symm d3) o3).at.aC (by omega),List.drop_zero,List.take_of_length_le (by omega)]
 have rd:∀ s',X s4 s'->av s' l (0+17)=some hv:=fun s' x=>by rw [(x.1 _ _ (Ne.symm K) ad).at.av];exact a8.2
 have X0:X s4 s4:=⟨fun _ _ _ h=>h,fun _ h=>h,fun _ h=>h,id,bD.refl _ _⟩;have L:∀ {s':AS},X s4 s'->s'.h lo≠none:=fun x=>x.2.2.2.1 (by rw [ab];simp);have new:∀ {s':AS} {y:Nat},X s4 s'->s'.h y=none->y∈ay out++ay hv\/s.h y=none:=fun {s' y} x A=>by
  by_cases d:y∈ay out++ay hv
  ·exact .inl d
  ·right;refine G.none ?_;cases i:s4.h y with
   | none=>rfl
   | some o =>
    have M:y≠lo:=fun e=>L x (e ▸ A);rw [x.2.2.2.2.1 y o (by simp only [List.mem_cons,not_or];exact ⟨M,d⟩) i] at A;cases A
 refine ⟨X,fun q ks w s'=>(q=1->w=out/\Am.Own s' lo [out]/\br iu 21 s' out D/\br q8 16 s' hv H)/\(q=4->Am.Own s' lo [out]/\br q8 16 s' hv H)/\(q=11->Am.Own s' lo [out])/\(q=12->∃ k x,ks=[k,x]/\Am.Own s' lo [x]),fun s'=>Am.Own s' lo [out]/\br iu 21 s' out D/\br q8 16 s' hv H,
  fun q _ w s'=>(q=3->∃ a,w=.slc (some (a,0)) 1 1 true/\Am.Own s' a (iu m)/\a≠lo)/\(q=10->∃ a,w=.slc (some (a,0)) 1 1 true/\Am.Own s' a (q8 v)/\a≠lo)/\(q=4->br iu 21 s' w (D++[m])/\∀ y∈ay w,y∈ay out++ay hv\/s.h y=none)/\(q=11->br q8 16 s' w (H++[v])/\∀ y∈ay w,y∈ay out++ay hv\/s.h y=none),
  fun q _ w=>(q=1->w=out)/\(q=4\/q=11->w.one=true)/\(q=12->w=.aQ []),fun a b e=>⟨fun _ _ _ h=>h.ext e,fun _ h=>h.ext e,fun _ h=>h.ext e,fun A=>(by cases i:a.h lo with | none=>exact absurd i A | some o=>rw [e.1 _ _ i];simp),e.mut⟩,fun a b c x y=>⟨fun z cs hz h=>y.1 z cs hz (x.1 z cs hz h),fun w h=>y.2.1 w (x.2.1 w h),fun w h=>y.2.2.1 w (x.2.2.1 w h),fun A=>y.2.2.2.1 (x.2.2.2.1 A),x.2.2.2.2.trans y.2.2.2.2⟩,?_,?_,fun a b e h=>⟨h.1.ext e,h.2.1.ext e,h.2.2.ext e⟩,⟨ab,a5,a6⟩,?_⟩
 ·rintro q ks w a b e ⟨W,h2,h3,h4⟩;exact ⟨fun i=>⟨(W i).1,(W i).2.1.ext e,(W i).2.2.1.ext e,(W i).2.2.2.ext e⟩,fun i=>⟨(h2 i).1.ext e,(h2 i).2.ext e⟩,fun i=>(h3 i).ext e,fun i=>by obtain ⟨k,x,y,z⟩:=h4 i;exact ⟨k,x,y,z.ext e⟩⟩
 ·rintro q ks w a b x ⟨W,h2,h3,h4⟩;refine ⟨fun i=>?_,fun i=>?_,fun i=>⟨x.2.1 _ (h3 i).1,(h3 i).2⟩,fun i=>⟨x.2.2.1 _ (h4 i).1,(h4 i).2⟩⟩
  ·obtain ⟨y,e1,e2,e3⟩:=W i;exact ⟨y,e1,x.1 _ _ e3 e2,e3⟩
  ·obtain ⟨y,e1,e2,e3⟩:=h2 i;exact ⟨y,e1,x.1 _ _ e3 e2,e3⟩
 have cx:∀ {q:Nat} {P:Prop},(q≠q->P):=fun h=>absurd rfl h;refine ⟨_,rp _ X0,fun s' x _=>⟨_,rp _ x,rfl⟩,fun dw b8 b9 _ B=>⟨out,by rw [B.1.at.av];rfl,⟨⟨fun _ _ _ h=>h,fun _ h=>h,fun _ h=>h,id,bD.refl _ _⟩,(fun _=>⟨rfl,B⟩),(fun h=>by cases h),(fun h=>by cases h),(fun h=>by cases h)⟩,⟨(fun h=>by cases h),(fun h=>by cases h),(fun h=>by cases h),(fun h=>by cases h)⟩,(fun _=>rfl),(fun h=>by rcases h with h | h <;> cases h),(fun h=>by cases h)⟩,⟨out,(fun _=>rfl),(fun h=>by rcases h with h | h <;> cases h),(fun h=>by cases h)⟩,fun nD ae=>?_⟩;obtain rfl:=ae.1 rfl;refine ⟨_,r1 _ X0,fun s' x _=>⟨_,r1 _ x,rfl⟩,fun fN a9 a' _=>⟨_,ke nO ev (dI m),ak.intro a' rfl fun ba tD O=>⟨O.ext,⟨(fun _=>⟨ba,rfl,O.own,?_⟩),(fun h=>by cases h),(fun h=>by cases h),(fun h=>by cases h)⟩,(fun h=>by cases h),(fun h=>by rcases h with h | h <;> cases h),(fun h=>by cases h)⟩⟩,⟨.bad,(fun h=>by cases h),(fun h=>by rcases h with h | h <;> cases h),(fun h=>by cases h)⟩,fun b' _=>⟨fun dM bb bc Y B=>?_,⟨.nilFunc,(fun h=>by cases h),(fun _=>rfl),(fun h=>by cases h)⟩,fun Q al=>?_⟩⟩
 ·exact fun e=>L a9 (e ▸ O.no)
 ·obtain ⟨a,rfl,hA,M⟩:=Y.2.1.1 rfl;obtain ⟨_,C,c2,Z⟩:=B.1 rfl;obtain ⟨v',s',e1,g1,j,_,n1⟩:=br.append nO aY dI bc c2 (Ce aY hA.at) (by simp;omega) c_;have t1:=br.tag c2;have VC:lo ∉ ay nD:=fun d=>by have:=(t1 _ d).uniq (Own.tag C);omega
  refine ⟨v',s',e1,⟨⟨fun y cs d o=>o.mut j fun F=>?_,fun w g=>g.mut j (br.FF aY (by decide) g c2 (by simp)),fun w g=>g.mut j fun y d F=>?_,fun A=>?_,j.mono fun y d=>by simp [d]⟩,(fun h=>by cases h),(fun _=>⟨C.mut j VC,Z.mut j fun y d F=>?_⟩),(fun h=>by cases h),(fun h=>by cases h)⟩,⟨(fun h=>by cases h),(fun h=>by cases h),(fun _=>⟨g1,fun y d=>?_⟩),(fun h=>by cases h)⟩,(fun h=>by cases h),(fun _=>br.one g1),(fun h=>by cases h)⟩
  ·have:=(t1 _ F).uniq (Own.tag o);omega
  ·have:=(t1 _ F).uniq (br.tag g y d);omega
  ·rw [j.1 lo _ VC C];simp
  ·have:=(t1 _ F).uniq (br.tag Z y d);omega
  ·rcases n1 y d with h | h
   ·exact .inl (List.mem_append_left _ h)
   ·exact new bb h
 refine ⟨_,rp _ X0,fun s' x _=>⟨_,rp _ x,rfl⟩,fun s' _ _=>rfl,_,rd _ X0,fun s' x _=>⟨_,rd _ x,rfl⟩,_,r3 _ X0,fun s' x _=>⟨_,r3 _ x,rfl⟩,fun ca bd be _=>⟨_,ke gR vv (nW v),ak.intro be rfl fun bh cb R=>⟨R.ext,⟨(fun h=>by cases h),(fun _=>⟨bh,rfl,R.own,?_⟩),(fun h=>by cases h),(fun h=>by cases h)⟩,(fun h=>by cases h),(fun h=>by rcases h with h | h <;> cases h),(fun h=>by cases h)⟩⟩,⟨.bad,(fun h=>by cases h),(fun h=>by rcases h with h | h <;> cases h),(fun h=>by cases h)⟩,fun cc _=>⟨fun cd bi bj Y B=>?_,⟨.nilFunc,(fun h=>by cases h),(fun _=>rfl),(fun h=>by cases h)⟩,fun S am=>⟨fun bk ce bl Y B=>?_,⟨.aQ [],(fun h=>by cases h),(fun h=>by rcases h with h | h <;> cases h),(fun _=>rfl)⟩,fun cf an=>⟨an.2.2 rfl,fun bm U bo Y B=>?_⟩⟩⟩⟩
 ·exact fun e=>L bd (e ▸ R.no)
 ·obtain ⟨a,rfl,hA,M⟩:=Y.2.2.2.1.2.1 rfl;obtain ⟨C,Z⟩:=B.2.1 rfl;obtain ⟨v',s',e1,g1,j,_,n1⟩:=br.append gR cG nW bj Z (Ce cG hA.at) (by simp;omega) dA;have t1:=br.tag Z;have VC:lo ∉ ay hv:=fun d=>by have:=(t1 _ d).uniq (Own.tag C);omega
  refine ⟨v',s',e1,⟨⟨fun y cs d o=>o.mut j fun F=>?_,fun w g=>g.mut j fun y d F=>?_,fun w g=>g.mut j (br.FF cG (by decide) g Z (by simp)),fun A=>?_,j.mono fun y d=>by simp [d]⟩,(fun h=>by cases h),(fun h=>by cases h),(fun _=>C.mut j VC),(fun h=>by cases h)⟩,⟨(fun h=>by cases h),(fun h=>by cases h),(fun h=>by cases h),(fun _=>⟨g1,fun y d=>?_⟩)⟩,(fun h=>by cases h),(fun _=>br.one g1),(fun h=>by cases h)⟩
  ·have:=(t1 _ F).uniq (Own.tag o);omega
  ·have:=(t1 _ F).uniq (br.tag g y d);omega
  ·rw [j.1 lo _ VC C];simp
  ·rcases n1 y d with h | h
   ·exact .inl (List.mem_append_right _ h)
   ·exact new bi h
 ·have C:=B.2.2.1 rfl;refine cK (al.2.1 (.inl rfl)) xl (bz.own bl C (by simp) fun bs P=>?_);have oP:Am.Own bs lo [Q]:=P.at;have tl:∀ y∈[lo],∀ g,Tag bk y g->g=0:=fun y d g t=>by
   obtain rfl:=List.mem_singleton.1 d;exact t.uniq (Own.tag C)
  refine ⟨⟨⟨fun y cs d o=>o.mut P.mut (by simpa using d),fun w g=>br.eY g P.mut fun y d g t=>by rw [tl y d g t];decide,fun w g=>br.eY g P.mut fun y d g t=>by rw [tl y d g t];decide,fun _=>by rw [oP];simp,P.mut.mono (by simp)⟩,(fun h=>by cases h),(fun h=>by cases h),(fun h=>by cases h),(fun _=>⟨_,_,rfl,oP⟩)⟩,⟨(fun h=>by cases h),(fun h=>by cases h),(fun h=>by cases h),(fun h=>by cases h)⟩,(fun h=>by cases h),(fun h=>by rcases h with h | h <;> cases h),(fun _=>rfl)⟩
 ·obtain ⟨_,_,⟨_,_,h4,_⟩,_,⟨_,_,_,bx⟩,_⟩:=Y;obtain ⟨b0,b1⟩:=h4 rfl;obtain ⟨b2,b3⟩:=bx rfl;obtain ⟨k,x,hk,b4⟩:=B.2.2.2 rfl;simp only [List.cons.injEq,and_true] at hk;obtain ⟨_,rfl⟩:=hk;have I:=U.1 _ _ (Ne.symm K) ad;have ao:=U.1 _ _ (Ne.symm a1) a4;refine cK (am.2.1 (.inr rfl)) qC (bz.own bo I (by simp [a7]) fun b5 P=>?_);have oP:Am.Own b5 l (mC cur pl S):=by
   have:=P.at;rw [fo,Nat.zero_add,(FK n pl pl hv S).2] at this;exact this
  have tl:∀ y∈[l],∀ g,Tag bm y g->g=0:=fun y d g t=>by
   obtain rfl:=List.mem_singleton.1 d;exact t.uniq (Own.tag I)
  have J:=br.eY b0 P.mut fun y d g t=>by rw [tl y d g t];decide
  have ar:=br.eY b2 P.mut fun y d g t=>by rw [tl y d g t];decide
  have aw:=b4.mut P.mut (by simpa using K);refine ⟨Q,by rw [aw.at.av];rfl,_,(J.sl aY).cj c_ _,most,by rw [(ao.mut P.mut (by simpa using a2)).at.av];rfl,?_,Q,S,aw,oP,J,ar,?_,?_⟩
  ·rw [List.length_append];rfl
  ·exact (G.mut.trans (U.2.2.2.2.mono fun y d=>by
    simp only [List.mem_cons,List.mem_append] at d ⊢;rcases d with h | h | h <;> simp [h])).trans (P.mut.mono (by simp))
  ·intro y d;rcases List.mem_append.1 d with d | d
   ·exact b1 y d
   ·exact b3 y d
end Go.Proofs.YtohgmogbabkkeaaGreat
end

section
namespace Go.Proofs.YtohgmogbabkkeaaGreat
open Go.Am Go.au Go.aB Go.bM
def scan (P:Ev->Bool) (stop:Nat->Bool):List (Ev×List Int)->Nat->List (Ev×List Int)×Nat
 | [],_=>([],0)
 | x::xs,k=>if P x.1 then (if stop (k+1) then ([x],1) else (x::(scan P stop xs (k+1)).1,(scan P stop xs (k+1)).2+1)) else ((scan P stop xs k).1,(scan P stop xs k).2+1)
def tw (c:gA):List (Ev×List Int):=c.log.zip c.JF
theorem JI {c:gA} (h:c.JF.length=c.log.length):(tw c).length=c.log.length:=by simp [tw,h]
theorem T7 {c:gA} {i:Nat} {e:Ev} {v:List Int} (b:c.log[i]? = some e) (h2:c.JF[i]? = some v):(tw c)[i]? = some (e,v):=by
 rw [tw,List.getElem?_zip_eq_some];exact ⟨b,h2⟩
set_option maxRecDepth 20000 in
theorem T8 {Fc Fs:List Nat} {s0:AS} {l pc ps:Nat} {c:gA} {x:aH} {cur:List Int} {pl:Nat} {name:List UInt8} {g:FuncId} {cap:List AV} {stop:Nat->Bool} {J:List (mS×FO)->AS->Prop}
  (j:cur.length=16) (hb:c.JF.length=c.log.length) (a7:c.log.length<=2 ^ 28) (Z:∀ e∈c.log,e.uM.length<=2 ^ 29/\e.to.length<=2 ^ 29) (ab:x.nl<65536) (ad:pl<=c.log.length)
  (Jw:∀ d s,J d s->aM s) (Je:∀ d s s',J d s->Ext s s'->aM s'->J d s') (Jd:∀ d s,J d s->∃ hv,Am.Own s l (mC cur pl hv)) (Jc:∀ d s,J d s->jE Fc s pc c) (Js:∀ d s,J d s->gL Fs s ps x)
  (step:∀ d s m v,J d s->jZ (JQ m) s m->d.length<=2 ^ 28->aa Tryz.prog g ([.agg (iu m),.agg (q8 v)]++cap) s fun r s'=>r=.bool (!stop (d.length+1))/\(aM s'->J (d++[(m,v)]) s')) (h0:J [] s0) :
  aa Tryz.prog bY [.ptr (some (l,0)),.str name,.ptr (some (pc,0)),.ptr (some (ps,0)),.func g cap] s0 fun r s'=>∃ d,r=.int .i64 ((pl+(scan (lE name cur x) stop ((tw c).drop pl) 0).2:Nat):Int)/\d.map (fun z=>(z.1.ev,z.2.v))=(scan (lE name cur x) stop ((tw c).drop pl) 0).1/\J d s':=by
 have a8:=JI hb;obtain ⟨ae,o0⟩:=Jd _ _ h0;refine zb _ _ _ _ _ _ _ ⟨_,by rw [o0.at.av];exact (DY j _ ae).1,?_⟩;refine ⟨fun m vs s'=>∃ (i:Nat) (d:List (mS×FO)),vs=[.int .i64 (i:Nat)]/\pl<=i/\i<=c.log.length/\m=c.log.length - i/\d.length<=i/\J d s'/\(scan (lE name cur x) stop ((tw c).drop pl) 0).1=d.map (fun z=>(z.1.ev,z.2.v))++(scan (lE name cur x) stop ((tw c).drop i) d.length).1/\pl+(scan (lE name cur x) stop ((tw c).drop pl) 0).2=i+(scan (lE name cur x) stop ((tw c).drop i) d.length).2,c.log.length - pl,⟨pl,[],rfl,by omega,ad,rfl,by simp,h0,by simp,by simp⟩,?_⟩;rintro m n s8 ⟨i,d,hi,h5,h6,rfl,a9,Y,k,o⟩;simp only [List.cons.injEq,AV.int.injEq,true_and,and_true] at hi;subst hi;refine aa.use (OL (Jc _ _ Y)) ?_;rintro v9 a' ⟨rfl,rfl⟩ ba;refine ⟨_,rfl,af.dec (fun bb=>?_) (fun bc=>?_)⟩
 ·refine aa.use (Vq (Jc _ _ Y) hb (i:=i) (by omega) (fun e he=>⟨by have:=(Z e he).1;omega,by have:=(Z e he).2;omega⟩) (by omega)) ?_;rintro bd bQ ⟨m,v,G,F,M,rfl,gE,nG,tG,al⟩ am;have an:jZ (JQ m) bQ m:=⟨gE.1,gE.2.1,fun y hy=>List.mem_append.2 hy⟩;refine ⟨_,_,_,rfl,?_⟩;refine ak.intro am rfl fun O eC p=>ak.intro p.wf rfl fun zl fN w=>⟨⟨dI m,by rw [aY]⟩,bz.own w.wf (p.own.ext w.ext) (by rw [aY];exact Nat.le_refl _) fun gu A=>?_⟩;have d79:O≠zl:=fun e=>by
   have:=w.no;rw [<- e,p.own] at this;cases this
  have ao:Am.Own gu O (iu m):=by
   have:=A.at;rw [dB (by rw [aY];rfl)] at this;exact this
  have ar:Am.Own gu zl (eW.map (.int .u64)):=w.own.mut A.mut (by simpa using Ne.symm d79);refine ⟨⟨nW v,by rw [cG]⟩,bz.own A.wf ar (by rw [cG];simp [eW]) fun gh B=>?_⟩;have aw:Am.Own gh zl (q8 v):=by
   have:=B.at;rw [dB (by rw [cG];simp [eW])] at this;exact this
  have Q:=ao.mut B.mut (by simpa using d79);have R:Ext bQ gh:=Ext.wr (Ext.wr (p.ext.trans w.ext) p.no A.mut) (p.ext.none w.no) B.mut;have I:=Je _ _ _ Y (al.trans R) B.wf;have S:=an.ext R;have a0:=T7 F M;have K:(tw c).drop i=(m.ev,v.v)::(tw c).drop (i+1):=by
   have h:=List.drop_eq_getElem_cons (l:=tw c) (i:=i) (by omega);rw [h,(List.getElem?_eq_some_iff.1 a0).2]
  rw [K] at k o;have a1:=Z m.ev (List.mem_of_getElem? F);refine ⟨fun vs s'=>∃ H b,vs=[.bool b]/\J H s'/\H.length<=i+1/\(scan (lE name cur x) stop ((tw c).drop pl) 0).1=H.map (fun z=>(z.1.ev,z.2.v))++(if b then [] else (scan (lE name cur x) stop ((tw c).drop (i+1)) H.length).1)/\pl+(scan (lE name cur x) stop ((tw c).drop pl) 0).2=i+1+(if b then 0 else (scan (lE name cur x) stop ((tw c).drop (i+1)) H.length).2),?_,?_⟩
  ·rintro b dM ⟨H,b',U,C,a2,L,h2⟩;simp only [List.cons.injEq,AV.bool.injEq,and_true] at U;subst U;refine af.mk (fun hb=>?_) (fun hb=>?_)
   ·rw [hb] at L h2;simp only [if_true,List.append_nil,Nat.add_zero] at L h2;exact ⟨H,by rw [AL (by omega),h2],L.symm,C⟩
   ·rw [hb] at L h2;simp only [Bool.false_eq_true,if_false] at L h2;exact ⟨c.log.length - (i+1),by omega,i+1,H,by rw [AL (by omega)],by omega,by omega,rfl,a2,C,L,h2⟩
  ·refine ⟨_,Q.at.aC (by rw [aY];omega),?_⟩;rw [gD];obtain ⟨hv,od⟩:=Jd _ _ I;refine aa.use (T6 S.at a1.2 (Js _ _ I) ab j od.at (A4 j _ hv) (by rw [mD j];omega) name) ?_;rintro be a3 ⟨rfl,D⟩ a4;have W:=Je _ _ _ I D a4;refine ⟨_,rfl,af.mk (fun X=>?_) (fun X=>?_)⟩
   ·refine ⟨_,(Q.ext D).at.aC (by rw [aY];omega),_,(aw.ext D).at.aC (by rw [cG];omega),?_⟩;rw [gD,List.drop_zero,List.take_of_length_le (by rw [cG];omega)];show aa _ _ _ _ _;refine aa.use (step d a3 m v W (S.ext D) (by omega)) ?_;rintro bh bi ⟨rfl,C⟩ a5;refine ⟨_,rfl,d++[(m,v)],_,rfl,C a5,by simp;omega,?_,?_⟩
    ·rw [k,scan,if_pos X];cases a6:stop (d.length+1) <;> simp
    ·rw [o,scan,if_pos X];cases a6:stop (d.length+1) <;> simp <;> omega
   ·refine ⟨d,false,rfl,W,by omega,?_,?_⟩
    ·rw [k,scan,if_neg (by rw [X];simp)];simp
    ·rw [o,scan,if_neg (by rw [X];simp)];simp;omega
 ·have:(tw c).drop i=[]:=List.drop_eq_nil_of_le (by omega);rw [this] at k o;simp only [scan,List.append_nil,Nat.add_zero] at k o;exact ⟨d,by rw [o],k.symm,Y⟩
end Go.Proofs.YtohgmogbabkkeaaGreat
end

section
namespace Go.Proofs.YtohgmogbabkkeaaGreat
open Go.Am Go.au Go.aB Go.bM
theorem Tag.OO {s:AS} {y g:Nat} {es:List (AV×AV×Nat)} {k:Nat} {ro:Bool} (h:s.h y=some (.map es k ro)):¬ Tag s y g:=fun ⟨cs,t⟩=>by rw [h] at t;cases t
theorem Own.V1 {s:AS} {a b:Nat} {x y:List AV} (h:Am.Own s a x) (c:Am.Own s b y) (d:x.length≠y.length):a≠b:=fun e=>by
 subst e;have:x=y:=At.inj h.at c.at;exact d (by rw [this])
section
variable {F:List Nat} {s:AS} {p n:Nat} {sec:List Int} {f:List UInt8->Option Dv}
theorem lI.tight (h:lI F s p sec f n):∃ F0,lI F0 s p sec f n/\(∀ y∈F0,y∈F)/\∀ y∈F0,s.h y≠none:=by
 obtain ⟨sv,hm,es,k,w,h2,h3,⟨a1,a2⟩,r,c2,l,x,z⟩:=h;have o:∀ a m,dV es a=some m->∃ e∈es,e.2.1=m:=fun a m d=>by
  obtain ⟨j,k,hj⟩:=Br d;exact ⟨_,List.mem_of_getElem? hj,rfl⟩
 have c:∀ e∈es,dV es e.1=some e.2.1:=fun e i=>EA r.nd i;refine ⟨p::hm::(ay sv++es.flatMap fun e=>fA e.2.1),⟨sv,hm,es,k,w,by simp,by simp,⟨a1,fun y b=>by simp [b]⟩,r,c2,fun a m d=>⟨⟨(l a m d).1.1,(l a m d).1.2.1,(l a m d).1.2.2.1,fun y b=>?_⟩,(l a m d).2⟩,x,z⟩,?_,?_⟩
 ·obtain ⟨e,i,rfl⟩:=o a m d;have:y∈es.flatMap fun e=>fA e.2.1:=List.mem_flatMap.2 ⟨e,i,b⟩;simp only [List.mem_cons,List.mem_append,this,or_true]
 ·intro y b;simp only [List.mem_cons,List.mem_append] at b;rcases b with rfl | rfl | b | b
  ·exact h2
  ·exact h3
  ·exact a2 y b
  ·obtain ⟨e,i,b⟩:=List.mem_flatMap.1 b;exact (l _ _ (c e i)).1.2.2.2 y b
 ·intro y b;simp only [List.mem_cons,List.mem_append] at b;rcases b with rfl | rfl | b | b
  ·rw [w];simp
  ·rw [r.obj];simp
  ·exact br.kZ a1 y b
  ·obtain ⟨e,i,b⟩:=List.mem_flatMap.1 b;obtain ⟨d1,d2,_⟩:=(l _ _ (c e i)).1;rcases List.mem_cons.1 b with rfl | b
   ·rw [d1];simp
   ·exact br.kZ d2 y b
def jF (f:List UInt8->Option Dv) (a:List UInt8) (d:Option Dv):List UInt8->Option Dv:=fun b=>if b=a then d else f b
theorem A7 (a:List UInt8) (m':Qb):∀ (es:List (List UInt8×Qb×Nat)) (b:List UInt8),dV (es.map fun e=>if e.1=a then (e.1,m',e.2.2) else e) b=if b=a then (dV es a).map (fun _=>m') else dV es b
 | [],b=>by simp [sM]
 | e::es,b=>by
  rw [List.map_cons,dD,A7 a m' es b,dD,dD];by_cases c:e.1=a
  ·by_cases h2:b=a
   ·subst h2;simp [c]
   ·have:¬ a=b:=fun h=>h2 h.symm;simp [c,h2,this]
  ·by_cases h2:b=a
   ·subst h2;simp [c]
   ·simp [c,h2]
theorem lI.dev (h:lI F s p sec f n) (S:∀ y∈F,s.h y≠none) {name:List UInt8} {d:Dv} (hd:f name=some d):∃ (m:Qb) (sv:AV) (hm:Nat),m.d=d/\FJ F s m/\Am.Own s p [sv,.map (some hm)]/\(br pK 1 s sv sec/\∀ y∈ay sv,y∈F)/\(∀ s',Ext s s'->dN T aJ (.map (some hm)) (.str name) false s'=some (.ptr (some (m.l,0))))/\p ∉ fA m/\(∀ y∈ay sv,y ∉ fA m) /\
  ∀ (s':AS) (m':Qb),m'.l=m.l->bD (fA m) s s'->Am.Own s' m.l (mC m'.d.cur m'.d.place m'.hv)->br q8 16 s' m'.hv m'.H->m'.H.map FO.v=m'.d.hand->(∀ y∈ay m'.hv,y∈fA m\/s.h y=none) ->
   ∃ F',lI F' s' p sec (jF f name (some m'.d)) n/\(∀ y∈F',y∈F\/s.h y=none)/\∀ y∈F',s'.h y≠none:=by
 obtain ⟨sv,hm,es,k,O,h2,h3,⟨a1,a2⟩,B,c2,U,c4,Q⟩:=id h;cases r:dV es name with
 | none=>rw [c4 _ r] at hd;cases hd
 | some m =>
  obtain ⟨w,I⟩:=U _ _ r;rw [hd] at I;have tm:∀ y∈fA m,∀ g,Tag s y g->g=0\/g=16:=fun y c g t=>by
   rcases List.mem_cons.1 c with rfl | c
   ·exact .inl (t.uniq (Own.tag w.1))
   ·exact .inr (t.uniq (br.tag w.2.1 y c))
  have J:p ∉ fA m:=fun c=>by
   rcases List.mem_cons.1 c with e | c
   ·exact Own.V1 O w.1 (by rw [mD m.len];simp) e
   ·have:=(br.tag w.2.1 _ c).uniq (Own.tag O);omega
  have K:∀ y∈ay sv,y ∉ fA m:=fun y c W=>by rcases tm y W 1 (br.tag a1 y c) with h | h <;> omega
  have X:hm ∉ fA m:=fun c=>by
   rcases List.mem_cons.1 c with e | c
   ·exact Tag.OO B.obj (e ▸ Own.tag w.1)
   ·exact Tag.OO B.obj (br.tag w.2.1 _ c)
  refine ⟨m,sv,hm,(Option.some.inj I).symm,w,O,⟨a1,a2⟩,fun s' e=>?_,J,K,fun s' m' Y R ho hg hH C=>?_⟩
  ·have:=(B.ext e).find uQ name false;rw [r] at this;exact this
  have L:fA m'=m.l::ay m'.hv:=by rw [fA,Y]
  have hC:lI (ay m'.hv++F) s' p sec (jF f name (some m'.d)) n:=by
   refine ⟨sv,hm,es.map fun e=>if e.1=name then (e.1,m',e.2.2) else e,k,O.mut R J,by simp [h2],by simp [h3],⟨a1.mut R K,fun y c=>by simp [a2 y c]⟩,?_,by rw [List.length_map,c2],fun a x o=>?_,fun a i=>?_,fun a b x y o c j=>?_⟩
   ·have Z:=B.mut R X;refine ⟨?_,?_,?_,?_⟩
    ·rw [Z.obj];congr 2;simp only [lF,List.map_map];apply List.map_congr_left;intro e he;simp only [Function.comp];split
     ·rename_i M;have:=EA B.nd he;rw [M,r] at this;have:=Option.some.inj this;simp only [dP,<- this,Y]
     ·rfl
    ·rw [List.pairwise_map];refine B.st.imp fun {a b} j=>?_;split <;> split <;> exact j
    ·intro e he;obtain ⟨e0,ab,rfl⟩:=List.mem_map.1 he;have:=B.lt e0 ab;split <;> exact this
    ·rw [List.pairwise_map];refine B.nd.imp fun {a b} j=>?_;split <;> split <;> exact j
   ·rw [A7] at o;by_cases i:a=name
    ·rw [if_pos i,r] at o;obtain rfl:=Option.some.inj o;refine ⟨⟨by rw [Y];exact ho,hg,hH,fun y c=>?_⟩,by rw [jF,if_pos i]⟩;rw [L] at c;rcases List.mem_cons.1 c with rfl | c
     ·exact List.mem_append_right _ (w.2.2.2 _ (by simp [fA]))
     ·exact List.mem_append_left _ c
    ·rw [if_neg i] at o;obtain ⟨hE,ad⟩:=U a x o;have A:=hE.mut R (Q name a m x r o (Ne.symm i));exact ⟨⟨A.1,A.2.1,A.2.2.1,fun y c=>List.mem_append_right _ (A.2.2.2 y c)⟩,by rw [jF,if_neg i];exact ad⟩
   ·rw [A7] at i;by_cases M:a=name
    ·rw [if_pos M,r] at i;cases i
    ·rw [if_neg M] at i;rw [jF,if_neg M];exact c4 a i
   ·have old:∀ (b:List UInt8) (y:Qb),dV es b=some y->b≠name->∀ z,z∈fA m'->z ∉ fA y:=fun b y c hb z G D=>by
     rw [L] at G;rcases List.mem_cons.1 G with rfl | G
     ·exact Q name b m y r c (Ne.symm hb) _ (by simp [fA]) D
     ·rcases C z G with h | h
      ·exact Q name b m y r c (Ne.symm hb) _ h D
      ·exact S z ((U b y c).1.2.2.2 z D) h
    rw [A7] at o c;by_cases i:a=name
    ·rw [if_pos i,r] at o;obtain rfl:=Option.some.inj o;rw [if_neg (by rw [<- i];exact Ne.symm j)] at c;exact old b y c (by rw [<- i];exact Ne.symm j)
    ·rw [if_neg i] at o;by_cases hb:b=name
     ·rw [if_pos hb,r] at c;obtain rfl:=Option.some.inj c;exact fun z G ae=>old a x o i z ae G
     ·rw [if_neg hb] at c;exact Q a b x y o c j
  obtain ⟨F0,al,am,an⟩:=hC.tight;refine ⟨F0,al,fun y c=>?_,an⟩;rcases List.mem_append.1 (am y c) with h | h
  ·rcases C y h with h | h
   ·exact .inl (w.2.2.2 y h)
   ·exact .inr h
  ·exact .inl h
end
end Go.Proofs.YtohgmogbabkkeaaGreat
end

section
namespace Go.Proofs.YtohgmogbabkkeaaGreat
open Go.Am Go.au Go.aB Go.bM
def Sn (F:List Nat) (s s':AS):Prop:=∃ L,bD L s s'/\∀ y∈L,y∈F/\∀ g,Tag s y g->g=0\/g=16
theorem Sn.mut {F:List Nat} {s s':AS} (h:Sn F s s'):bD F s s':=by
 obtain ⟨L,m,b⟩:=h;exact m.mono fun y c=>(b y c).1
structure Vs (F Fc Fs:List Nat) (s:AS) (p pc ps:Nat) (sec:List Int) (f:List UInt8->Option Dv) (n:Nat) (c:gA) (x:aH):Prop where
 fe:lI F s p sec f n
 th:∀ y∈F,s.h y≠none
 ca:jE Fc s pc c
 se:gL Fs s ps x
 tc:∀ y∈Fc,s.h y≠none
 ts:∀ y∈Fs,s.h y≠none
 dc:Dj F Fc
 ds:Dj F Fs
 bl:c.JF.length=c.log.length
 ln:c.log.length<=2 ^ 27
 sz:∀ e∈c.log,e.uM.length<=2 ^ 29/\e.to.length<=2 ^ 29
 nl:x.nl<65536
 pl:∀ a d,f a=some d->d.place<=c.log.length/\d.hand.length<=d.place
noncomputable def wV (name:List UInt8) (d:Dv) (c:gA) (x:aH) (most:Int):List (Ev×List Int)×Nat:=scan (lE name d.cur x) (fun k=>!decide ((k:Int)<most)) ((tw c).drop d.place) 0
noncomputable def CE (name:List UInt8) (d:Dv) (c:gA) (x:aH) (most:Int):Dv:=⟨d.cur,d.place+(wV name d c x most).2,d.hand++(wV name d c x most).1.map Prod.snd⟩
section
variable {F Fc Fs:List Nat} {s:AS} {p pc ps n:Nat} {sec:List Int} {f:List UInt8->Option Dv} {c:gA} {x:aH}
theorem NY (h:Vs F Fc Fs s p pc ps sec f n c x) {s2:AS} (e2:Ext s s2) :
  aa Tryz.prog eU [.ptr (some (p,0))] s2 fun qU b=>∃ e:Bool,qU=.bool e/\(af e (aa Tryz.prog gX [(.ptr (some (pc,0)))] b fun m d=>∃ i:Option (Nat×Nat),m=.ptr i/\(uT (iY T 100 kL (.ptr i) (.ptr none)) fun o=>af o ((fun vs s'=>vs=[AV.bool false]/\Ext s2 s'/\aM s') [.bool true] d) (aa Tryz.prog kI [(.ptr (some (ps,0)))] d fun r j=>∃ k:Option (Nat×Nat),r=.ptr k/\(uT (iY T 100 oC (.ptr k) (.ptr none)) fun w=>(fun vs s'=>vs=[AV.bool false]/\Ext s2 s'/\aM s') [.bool w] j)))) ((fun vs s'=>vs=[AV.bool false]/\Ext s2 s'/\aM s') [.bool false] b)):=by
 refine aa.use (Ci (h.fe.ext e2)) ?_;rintro v b ⟨rfl,rfl⟩ A;refine ⟨_,rfl,af.yes rfl ?_⟩;refine aa.use (Sd (h.ca.ext e2)) ?_;rintro v d ⟨⟨q,rfl⟩,l⟩ B;refine ⟨_,rfl,_,iG uX _,af.no rfl ?_⟩;refine aa.use (Vb (h.se.ext (e2.trans l))) ?_;rintro v j ⟨C,rfl,_,_,y⟩ z;exact ⟨_,rfl,_,iG wm _,rfl,l.trans y,z⟩
set_option maxRecDepth 20000 in
theorem T9 (h:Vs F Fc Fs s p pc ps sec f n c x) (name:List UInt8) (most:Int) :
  aa Tryz.prog eD [.ptr (some (p,0)),.str name,.int .i64 most,.ptr (some (pc,0)),.ptr (some (ps,0))] s fun r s' =>
   ((¬ (aE name=true/\1<=most/\most<=16)\/f name=none)/\(∃ e:Int,e≠0/\r=.aQ [.slc none 0 0 true,.int .i64 e])/\Ext s s') \/
   ((aE name=true/\1<=most/\most<=16)/\∃ (d:Dv) (out:AV) (Lo:List mS) (F':List Nat),f name=some d/\r=.aQ [out,.int .i64 0]/\br iu 21 s' out Lo/\(∀ m∈Lo,jZ (JQ m) s' m)/\Lo.map mS.ev=(wV name d c x most).1.map Prod.fst /\
    lI F' s' p sec (jF f name (some (CE name d c x most))) n/\Sn F s s'/\(∀ y∈F',y∈F\/s.h y=none)/\∀ y∈F',s'.h y≠none):=by
 refine aa.pre fun hw=>Ch _ _ _ _ _ _ _ (ak.intro hw rfl fun l1 s2 F2=>?_);refine ⟨fun vs s'=>vs=[.bool false]/\Ext s2 s'/\aM s',?_,NY h F2.ext⟩;rintro b s5 ⟨hb,e5,w5⟩;obtain rfl:b=false:=by simpa using hb
 have B:=F2.ext.trans e5;have o5:=F2.own.ext e5;refine af.no rfl ⟨fun vs s'=>vs=[.int .i64 (if ¬ (aE name=true/\1<=most/\most<=16) then 2 else if (f name).isNone=true then 7 else 0)]/\s'=s5,?_,most,by rw [o5.at.av];rfl,af.dec (fun h1=>⟨most,by rw [o5.at.av];rfl,?_⟩) (fun h1=>?_)⟩
 ·rintro n7 s8 ⟨hn,rfl⟩;simp only [List.cons.injEq,AV.int.injEq,true_and,and_true] at hn;subst hn;by_cases hg:aE name=true/\1<=most/\most<=16
  ·rw [if_neg (fun h=>h hg)];cases hf:f name with
   | none =>
    rw [if_pos (show (none:Option Dv).isNone=true from rfl)];exact af.yes (by decide) (.inl ⟨.inr rfl,⟨7,by decide,rfl⟩,B⟩)
   | some d =>
    rw [if_neg (by simp)];refine af.no (by decide) ?_;have a6:=h.fe.ext B;have Z:∀ y∈F,s8.h y≠none:=fun y i=>by
     cases hq:s.h y with
     | none=>exact absurd hq (h.th y i)
     | some o=>rw [B.1 _ _ hq];simp
    obtain ⟨m,sv,hm,rfl,R,op,⟨bx,_⟩,ae,b0,b1,an⟩:=a6.dev Z hf;obtain ⟨bs,ao⟩:=h.pl _ _ hf;refine ⟨_,by rw [op.at.av];rfl,_,ae _ (Ext.refl _),ak.intro w5 rfl fun U b2 K=>bz.own K.wf K.own (by simp) fun gr al=>ak.intro al.wf rfl fun qV lH C=>?_⟩;have ar:Am.Own gr U [.ptr (some (m.l,0))]:=al.at;have am:Ext s8 gr:=Ext.wr K.ext K.no al.mut;have D:=am.trans C.ext;have aw:=ar.ext C.ext;have a0:Am.Own lH l1 [.int .i64 most]:=o5.ext D;have a7:Am.Own lH qV [.slc none 0 0 true]:=C.own;have ab:=R.mut (L:=[]) D.mut (by simp);have a8:s8.h U=none:=K.no;have W:s8.h qV=none:=am.none C.no;have a1:∀ y∈fA m,s8.h y≠none:=fun y i=>Z y (R.2.2.2 y i);have X:U ∉ qV::fA m:=fun i=>by
     rcases List.mem_cons.1 i with e | i
     ·have:=C.no;rw [<- e,ar] at this;cases this
     ·exact a1 _ i a8
    have a2:qV ∉ fA m:=fun i=>a1 _ i W;have k1:l1 ∉ qV::fA m:=fun i=>by
     rcases List.mem_cons.1 i with e | i
     ·have:=C.no;rw [<- e,o5.ext am] at this;cases this
     ·exact h.th _ (R.2.2.2 _ i) F2.no
    have kl:m.l∈fA m:=by simp [fA]
    have M:∀ y∈qV::fA m,y ∉ Fc/\y ∉ Fs:=fun y i=>by
     rcases List.mem_cons.1 i with rfl | i
     ·exact ⟨fun O=>h.tc _ O (B.none W),fun O=>h.ts _ O (B.none W)⟩
     ·exact ⟨h.dc y (R.2.2.2 y i),h.ds y (R.2.2.2 y i)⟩
    have b3:m.H.length<=m.d.place:=by rw [<- List.length_map (f:=FO.v),R.2.2.1];exact ao
    have b4:=h.ln
    let Jb:AS->List (mS×FO)->AS->Prop:=fun sb d s'=>∃ out oQ,Am.Own s' qV [out]/\Am.Own s' m.l (mC m.d.cur m.d.place oQ)/\br iu 21 s' out (d.map Prod.fst)/\br q8 16 s' oQ (m.H++d.map Prod.snd)/\bD (qV::fA m) sb s'/\(∀ y∈ay out++ay oQ,y∈fA m\/sb.h y=none)/\∀ z∈d,jZ (JQ z.1) s' z.1
    have ad:∀ sb d a b,Jb sb d a->Ext a b->Jb sb d b:=fun sb d a b ⟨out,oQ,I,G,j3,S,A,j6,j7⟩ e=>⟨out,oQ,I.ext e,G.ext e,j3.ext e,S.ext e,A.trans e.mut,j6,fun z Q=>(j7 z Q).ext e⟩;have J0:∀ sb,Ext lH sb->Jb sb [] sb:=fun sb e=>⟨_,m.hv,a7.ext e,ab.1.ext e,br.nil,by simpa using ab.2.1.ext e,bD.refl _ _,fun y i=>.inl (by simpa [ay,fA] using Or.inr (by simpa [ay] using i)),by simp⟩;have Y:∀ s',bD (qV::fA m) lH s'->av s' U 0=some (.ptr (some (m.l,0))):=fun s' mm=>by rw [(aw.mut mm X).at.av];rfl
    have M0:bD (qV::fA m) lH lH:=bD.refl _ _;refine ⟨fun a b=>bD (qV::fA m) a b,fun q _ v s'=>q=6->∃ d,v=.int .i64 ((m.d.place+(wV name m.d c x most).2:Nat):Int)/\d.map (fun z=>(z.1.ev,z.2.v))=(wV name m.d c x most).1/\Jb lH d s',fun s'=>Ext lH s',fun _ _ _ _=>True,fun q _ v=>q=6->∃ k,v=.int .i64 k,fun a b e=>e.mut,fun a b c x y=>x.trans y,fun q _ v a b e g hq=>by obtain ⟨d,x,y,z⟩:=g hq;exact ⟨d,x,y,ad _ _ _ _ z e⟩,fun _ _ _ _ _ _ _=>trivial,fun a b e g=>g.trans e,Ext.refl _,?_⟩;refine ⟨_,Y _ M0,fun s' x _=>⟨_,Y _ x,rfl⟩,_,Y _ M0,fun s' x _=>⟨_,Y _ x,rfl⟩,fun s' _ _=>rfl,fun dM b5 a9 _ O=>?_,⟨.int .i64 0,fun _=>⟨_,rfl⟩⟩,fun b6 a3=>?_⟩
    ·refine aa.use (T8 (s0:=dM) (l:=m.l) (pl:=m.d.place) (cur:=m.d.cur) (stop:=fun k=>!decide ((k:Int)<most)) (J:=fun d s'=>Jb dM d s'/\aM s') m.len h.bl (by omega) h.sz h.nl (by omega) (fun d s' j=>j.2) (fun d a b j e w=>⟨ad _ _ _ _ j.1 e,w⟩) (fun d s' j=>by obtain ⟨⟨out,oQ,I,G,_⟩,_⟩:=j;exact ⟨oQ,G⟩) (fun d s' j=>by obtain ⟨⟨out,oQ,I,G,j3,S,A,_⟩,_⟩:=j;exact (h.ca.ext ((B.trans D).trans O)).mut A fun y i=>(M y i).1) (fun d s' j=>by obtain ⟨⟨out,oQ,I,G,j3,S,A,_⟩,_⟩:=j;exact (h.se.ext ((B.trans D).trans O)).mut A fun y i=>(M y i).2) ?_ ⟨J0 _ O,a9⟩) ?_
     ·rintro d s' m' v ⟨⟨out,oQ,I,G,j3,S,A,j6,j7⟩,w'⟩ gE b7;have t1:=br.tag j3;have t2:=br.tag S;refine (Sm (pl:=m.d.place) m.len I ((aw.ext O).mut A X) ((a0.ext O).mut A k1) G j3 S (fun e=>X (by simp [<- e])) (fun e=>k1 (by simp [<- e])) (fun e=>a2 (by rw [e];exact kl)) (fun e=>X (by rw [e];simp [kl])) (fun e=>k1 (by rw [e];simp [kl])) (by simp;omega) (by simp;omega) m' v).mono ?_;rintro r b8 ⟨rfl,a4,a',g1,g2,g3,g4,g5,g6⟩;refine ⟨by simp,fun w=>⟨⟨a4,a',g1,g2,by simpa using g3,by rw [List.map_append,<- List.append_assoc];exact g4,A.new g5 fun y i=>?_,fun y i=>?_,fun z Q=>?_⟩,w⟩⟩
      ·rcases List.mem_cons.1 i with rfl | i
       ·exact .inl (by simp)
       ·rcases List.mem_cons.1 i with rfl | i
        ·exact .inl (by simp [kl])
        ·rcases j6 y i with h | h
         ·exact .inl (by simp [h])
         ·exact .inr h
      ·rcases g6 y i with h | h
       ·exact j6 y h
       ·by_cases a5:y∈fA m
        ·exact .inl a5
        ·right;cases hq:dM.h y with
         | none=>rfl
         | some o =>
          have ba:y≠qV:=fun e=>by
           subst e;rw [I] at h;cases h
          rw [A.1 y o (by simp only [List.mem_cons,not_or];exact ⟨ba,a5⟩) hq] at h;cases h
      ·have hT:∀ y∈qV::m.l::(ay out++ay oQ),∀ g,Tag s' y g->g≠1/\g≠3:=fun y i g t=>by
        rcases List.mem_cons.1 i with rfl | i
        ·have:=t.uniq (Own.tag I);omega
        ·rcases List.mem_cons.1 i with rfl | i
         ·have:=t.uniq (Own.tag G);omega
         ·rcases List.mem_append.1 i with i | i
          ·have:=t.uniq (t1 y i);omega
          ·have:=t.uniq (t2 y i);omega
       rcases List.mem_append.1 Q with Q | Q
       ·exact (j7 z Q).eY g5 hT
       ·obtain rfl:=List.mem_singleton.1 Q;exact gE.eY g5 hT
     ·rintro b9 b' ⟨d,rfl,hd,⟨jj,_⟩⟩ cb;obtain ⟨out,oQ,I,G,j3,S,A,j6,j7⟩:=jj;exact ⟨_,rfl,⟨A,(fun _=>⟨d,rfl,hd,out,oQ,I,G,j3,S,O.mut.trans A,fun y i=>(j6 y i).imp id O.none,j7⟩)⟩,trivial,(fun _=>⟨_,rfl⟩)⟩
    ·obtain ⟨k,rfl⟩:=a3 rfl;refine ⟨_,rfl,fun mP cc bb _ hC=>?_⟩;obtain ⟨d,hk,hd,out,oQ,I,G,j3,S,A,j6,j7⟩:=hC rfl;simp only [AV.int.injEq,true_and] at hk;subst hk;refine bz.own bb G (by rw [mD m.len];simp) fun j8 P=>?_;have oP:Am.Own j8 m.l (mC m.d.cur ((m.d.place+(wV name m.d c x most).2:Nat):Int) oQ):=by
      have:=P.at;rw [fo,Nat.zero_add,(FK m.len _ _ _ oQ).1] at this;exact this
     have tl:∀ y∈[m.l],∀ g,Tag mP y g->g=0:=fun y i g t=>by
      obtain rfl:=List.mem_singleton.1 i;exact t.uniq (Own.tag G)
     have g3:=br.eY j3 P.mut fun y i g t=>by rw [tl y i g t];decide
     have g4:=br.eY S P.mut fun y i g t=>by rw [tl y i g t];decide
     have g7:∀ z∈d,jZ (JQ z.1) j8 z.1:=fun z Q=>(j7 z Q).eY P.mut fun y i g t=>by rw [tl y i g t];decide
     have bc:qV≠m.l:=fun e=>a2 (e ▸ kl);have MA:bD (fA m) s8 j8:=by
      have m1:bD (qV::fA m) s8 j8:=(D.mut.trans A).trans (P.mut.mono (by simp [kl]));refine ⟨fun y o i ho=>m1.1 y o (fun hm=>?_) ho,m1.2⟩;rcases List.mem_cons.1 hm with rfl | hm
      ·rw [W] at ho;cases ho
      ·exact i hm
     refine ⟨out,by rw [(I.mut P.mut (by simpa using bc)).at.av];rfl,.inr ⟨hg,m.d,out,d.map Prod.fst,?_⟩⟩;obtain ⟨F',bd,be,bh⟩:=an j8 ⟨m.l,oQ,CE name m.d c x most,m.H++d.map Prod.snd,m.len⟩ rfl MA oP g4 (by
      show _=m.d.hand++(wV name m.d c x most).1.map Prod.snd;rw [List.map_append,R.2.2.1,<- hd];simp) (fun y i=>(j6 y (List.mem_append_right _ i)).imp id D.none)
     refine ⟨F',rfl,rfl,g3,fun z Q=>?_,?_,bd,⟨fA m,B.mut.trans MA,fun y i=>⟨R.2.2.2 y i,fun g t=>?_⟩⟩,fun y i=>(be y i).imp id B.none,bh⟩
     ·obtain ⟨w,bi,rfl⟩:=List.mem_map.1 Q;exact g7 w bi
     ·rw [<- hd];simp
     ·obtain ⟨cs,bj⟩:=t;have t8:Tag s8 y g:=⟨cs,B.1 _ _ bj⟩;rcases List.mem_cons.1 i with rfl | i
      ·exact .inl (t8.uniq (Own.tag R.1))
      ·exact .inr (t8.uniq (br.tag R.2.1 y i))
  ·rw [if_pos hg];exact af.yes (by decide) (.inl ⟨.inl hg,⟨2,by decide,rfl⟩,B⟩)
 ·refine aa.use (A5 (h.fe.ext B) name _) ?_;rintro bk bm ⟨rfl,rfl⟩ bo;refine ⟨_,rfl,?_,rfl⟩;congr 3;by_cases h2:aE name=true <;> by_cases h3:most<=16 <;> simp [h2,h3,show 1<=most from h1]
 ·refine aa.use (A5 (h.fe.ext B) name _) ?_;rintro bk bm ⟨rfl,rfl⟩ bo;refine ⟨_,rfl,?_,rfl⟩;congr 3;exact propext ⟨fun _ h=>h1 h.2.1,fun _=>by simp⟩
end
end Go.Proofs.YtohgmogbabkkeaaGreat
end

section
namespace Go.Proofs.YtohgmogbabkkeaaGreat
open Go.Am Go.au Go.aB Go.bM
section
variable {F Fc Fs:List Nat} {s:AS} {p pc ps n:Nat} {sec:List Int} {f:List UInt8->Option Dv} {c:gA} {x:aH}
def FL (sec:List Int) (dev:List UInt8) (b:List Int) (v:List Int):Prop:=(b=[]/\v=eW)\/(Wc v/\q7 v=true/\b=y5 sec dev v)
theorem FL.len {sec:List Int} {dev:List UInt8} {b v:List Int} (h:FL sec dev b v):v.length=16:=by
 rcases h with ⟨_,rfl⟩ | ⟨h,_⟩
 ·rfl
 ·exact h.len
theorem Vt {s:AS} {sv bv:AV} {sec b v:List Int} (hs:gy s sv sec) (d:sec.length<=64) {dev:List UInt8} (c:aE dev=true) (hb:gy s bv b) (i:FL sec dev b v) :
  aa Tryz.prog ot [sv,.str dev,bv] s fun r s'=>r=.aQ [.agg (v.map (.int .u64)),.int .i64 0]/\Ext s s':=by
 rcases i with ⟨rfl,rfl⟩ | ⟨j,h2,rfl⟩
 ·refine (Vm (sv:=sv) hb dev (.inr rfl)).mono ?_;rintro r s' ⟨rfl,e⟩;exact ⟨by rw [if_pos c],e⟩
 ·exact Vn hs d dev c j h2 hb
theorem Qc {v:List Int} (hv:v.length=16):aV T nT [(0,.agg (v.map (.int .u64)))]=some (.agg (mC v 0 (.slc none 0 0 true))):=by
 obtain ⟨a,b,c,d,e,f,g,i,j,k,l,m,n,o,p,q,rfl⟩:=Sa hv;rw [qj (pl:=[(0,16),(16,1),(17,1)]) (by kernel_rfl) EJ rfl];have r:bJ (.agg ([a,b,c,d,e,f,g,i,j,k,l,m,n,o,p,q].map (AV.int .u64)))=some ([a,b,c,d,e,f,g,i,j,k,l,m,n,o,p,q].map (AV.int .u64)):=rfl;simp only [List.map_cons,List.map_nil] at r ⊢;simp only [iZ,AV.cells,r,List.getElem?_cons_zero,List.length_cons,List.length_nil,Nat.zero_add,Nat.reduceAdd,Nat.reduceLeDiff,and_self,if_true,Option.map_some];rfl
set_option maxRecDepth 20000 in
theorem Qd (h:lI F s p sec f n) (an:∀ y∈F,s.h y≠none) (hl:sec.length<=64) (name:List UInt8) {bv:AV} {b v:List Int} (hb:gy s bv b) (hc:aE name=true->f name=none->FL sec name b v) :
  aa Tryz.prog dx [.ptr (some (p,0)),.str name,bv] s fun r s' =>
   (¬ (aE name=true/\f name=none/\n<64)/\(∃ e:Int,e≠0/\r=.int .i64 e)/\Ext s s') \/
   ((aE name=true/\f name=none/\n<64)/\r=.int .i64 0/\∃ F',lI F' s' p sec (jF f name (some ⟨v,0,[]⟩)) (n+1)/\bD F s s'/\(∀ y∈F',y∈F\/s.h y=none)/\∀ y∈F',s'.h y≠none):=by
 refine aa.pre fun hw=>y9 _ _ _ _ _ ?_;refine aa.use (Ci h) ?_;rintro v1 s2 ⟨rfl,rfl⟩ w2;refine ⟨_,rfl,af.no rfl ?_⟩;refine aa.use (uN name _) ?_;rintro v4 s5 ⟨rfl,rfl⟩ w5;refine ⟨_,rfl,af.mk (fun hn=>?_) (fun hn=>?_)⟩
 ·have B:aE name=false:=by simpa using hn
  exact .inl ⟨(fun h=>by rw [B] at h;cases h.1),⟨2,by decide,rfl⟩,Ext.refl _⟩
 have B:aE name=true:=by simpa using hn
 obtain ⟨sv,hm,es,k,R,h2,h3,⟨a1,a2⟩,S,c2,c3,c4,c5⟩:=id h;have J:∀ s',Ext s5 s'->dN T aJ (.map (some hm)) (.str name) false s'=some (.ptr ((dV es name).map fun m=>(m.l,0))):=fun s' e=>by
  refine ((S.ext e).find uQ name false).trans ?_;cases dV es name <;> rfl
 refine ⟨_,by rw [R.at.av];rfl,_,J _ (Ext.refl _),_,iG uY _,?_⟩;cases U:dV es name with
 | some m=>exact af.yes rfl (.inl ⟨(fun hh=>by rw [(c3 _ _ U).2] at hh;cases hh.2.1),⟨7,by decide,rfl⟩,Ext.refl _⟩)
 | none =>
  have W:=c4 _ U;refine af.no rfl ⟨sv,by rw [R.at.av];rfl,?_⟩;have X:=hc B W;have D:=X.len;refine aa.use (Vt (a1.sl bS) hl B hb X) ?_;rintro bb bc ⟨rfl,K⟩ ao;refine ⟨_,_,rfl,k_ ao (by simp [D]) rfl (b_ _ _) fun zl gu G=>af.no (by decide) ⟨_,by rw [((R.ext K).ext G.ext).at.av];rfl,?_⟩⟩;have H:=K.trans G.ext;refine ⟨_,(S.ext H).cj uQ,af.dec (fun bd=>.inl ⟨fun hh=>by omega,⟨5,by decide,rfl⟩,H⟩) (fun be=>?_)⟩;refine ⟨fun q _ w s'=>q=7->∃ l,w=.ptr (some (l,0))/\Am.Own s' l (mC v 0 (.slc none 0 0 true))/\gu.h l=none,fun q _ w=>q=7->∃ l,w=.ptr (some (l,0)),fun q _ w a b e g U=>by obtain ⟨l,x,y,z⟩:=g U;exact ⟨l,x,y.ext e,z⟩,_,by rw [((R.ext K).ext G.ext).at.av];rfl,_,SO D G.own.at,_,Qc D,fun mP ar aw _=>⟨?_,ak.intro aw rfl fun Y bh M=>⟨M.ext,(fun _=>⟨Y,rfl,M.own,ar.none M.no⟩),(fun _=>⟨Y,rfl⟩)⟩⟩,⟨.ptr (some (0,0)),fun _=>⟨0,rfl⟩⟩,fun bi Z=>?_⟩
  ·rw [mC,List.all_append,b_];rfl
  obtain ⟨l,rfl⟩:=Z rfl;refine ⟨_,rfl,fun nV a0 a3 hS=>?_⟩;obtain ⟨l',ab,ad,a4⟩:=hS.1 rfl;simp only [AV.ptr.injEq,Option.some.injEq,Prod.mk.injEq,and_true] at ab;subst ab;have d:=H.trans a0
  let md:Qb:=⟨l,.slc none 0 0 true,⟨v,0,[]⟩,[],D⟩
  refine eJ.oO uQ a3 (S.ext d) name md fun a5 es' k' hM j bj C=>.inr ⟨⟨B,W,by omega⟩,rfl,?_⟩;have i:∀ {y g:Nat},Tag nV y g->y≠hm:=fun t e=>Tag.OO (S.ext d).obj (e ▸ t);have ae:s5.h l=none:=H.none a4;have hC:lI (l::F) a5 p sec (jF f name (some ⟨v,0,[]⟩)) (n+1):=by
   refine ⟨sv,hm,es',k',(R.ext d).mut C (by simpa using i (Own.tag (R.ext d))),by simp [h2],by simp [h3],⟨(a1.ext d).mut C fun y c hx=>i (br.tag (a1.ext d) y c) (by simpa using hx),fun y c=>by simp [a2 y c]⟩,hM,?_,fun a y c=>?_,fun a o=>?_,fun a b y z c A al=>?_⟩
   ·rw [Ii S.nd hM.nd j,U,<- c2];rfl
   ·rw [j] at c;by_cases o:a=name
    ·rw [if_pos o] at c;obtain rfl:=Option.some.inj c;exact ⟨⟨ad.mut C (by simpa using i (Own.tag ad)),br.nil,rfl,fun y c=>by simp [fA,ay,md] at c;simp [c]⟩,by rw [jF,if_pos o]⟩
    ·rw [if_neg o] at c;obtain ⟨hE,a6⟩:=c3 a y c;have I:=(hE.mut (L:=[]) d.mut (by simp)).mut C fun z A O=>by
      obtain rfl:=List.mem_singleton.1 A;rcases List.mem_cons.1 O with e | O
      ·exact i (Own.tag (hE.1.ext d)) e.symm
      ·exact i (br.tag (hE.2.1.ext d) _ O) rfl
     exact ⟨⟨I.1,I.2.1,I.2.2.1,fun z A=>List.mem_cons_of_mem _ (I.2.2.2 z A)⟩,by rw [jF,if_neg o];exact a6⟩
   ·rw [j] at o;by_cases Q:a=name
    ·rw [if_pos Q] at o;cases o
    ·rw [if_neg Q] at o;rw [jF,if_neg Q];exact c4 a o
   ·have old:∀ (b:List UInt8) (y:Qb),dV es b=some y->∀ z,z∈fA md->z ∉ fA y:=fun b y c z A a7=>by
     simp only [fA,ay,md,List.mem_cons,List.not_mem_nil,or_false] at A;subst A;exact an z ((c3 b y c).1.2.2.2 z a7) ae
    rw [j] at c A;by_cases o:a=name
    ·rw [if_pos o] at c;obtain rfl:=Option.some.inj c;rw [if_neg (by rw [<- o];exact Ne.symm al)] at A;exact old b z A
    ·rw [if_neg o] at c;by_cases am:b=name
     ·rw [if_pos am] at A;obtain rfl:=Option.some.inj A;exact fun w hw a8=>old a y c w a8 hw
     ·rw [if_neg am] at A;exact c5 a b y z c A al
  obtain ⟨F0,a9,a',ba⟩:=hC.tight;refine ⟨F0,a9,d.mut.trans (C.mono fun y c=>by obtain rfl:=List.mem_singleton.1 c;exact h3),fun y c=>?_,ba⟩;rcases List.mem_cons.1 (a' y c) with rfl | h
  ·exact .inr ae
  ·exact .inl h
end
end Go.Proofs.YtohgmogbabkkeaaGreat
end
