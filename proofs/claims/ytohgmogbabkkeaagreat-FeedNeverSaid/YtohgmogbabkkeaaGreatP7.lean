/-
  A part of Pd proof: an abstract machine B7 Pd model, and qA of qB of this program B7 it.
-/
import Derived.Test.YtohgmogbabkkeaaGreatP6
set_option linter.unusedVariables false
set_option linter.unusedSimpArgs false
set_option linter.unusedSectionVars false
section
namespace Go.Proofs.YtohgmogbabkkeaaGreat
open Go.Am Go.av Go.aB Go.bE
def TF (F:List Nat) (s s':AS):Prop:=∃ L,bz L s s'/\∀ y∈L,y∈F/\∀ g,Tag s y g->g=0\/g=16
theorem TF.mut {F:List Nat} {s s':AS} (h:TF F s s'):bz F s s':=by
 obtain ⟨L,m,b⟩:=h;exact m.mono fun y c=>(b y c).1
structure Wy (F Fc Fs:List Nat) (s:AS) (p pc ps:Nat) (sec:List Int) (f:List UInt8->Option Dv) (n:Nat) (c:gY) (x:aF):Prop where
 fe:mj F s p sec f n
 th:∀ y∈F,s.h y≠none
 ca:k7 Fc s pc c
 se:gM Fs s ps x
 tc:∀ y∈Fc,s.h y≠none
 ts:∀ y∈Fs,s.h y≠none
 dc:Dj F Fc
 ds:Dj F Fs
 bl:c.KS.length=c.log.length
 ln:c.log.length<=2 ^ 27
 sz:∀ e∈c.log,e.vn.length<=2 ^ 29/\e.to.length<=2 ^ 29
 nl:x.nl<65536
 pl:∀ a d,f a=some d->d.place<=c.log.length/\d.hand.length<=d.place
noncomputable def jr (name:List UInt8) (d:Dv) (c:gY) (x:aF) (most:Int):List (Ev×List Int)×Nat:=scan (jU name d.cur x) (fun k=>!decide ((k:Int)<most)) ((sX c).drop d.place) 0
noncomputable def ug (name:List UInt8) (d:Dv) (c:gY) (x:aF) (most:Int):Dv:=⟨d.cur,d.place+(jr name d c x most).2,d.hand++(jr name d c x most).1.map Prod.snd⟩
section
variable {F Fc Fs:List Nat} {s:AS} {p pc ps n:Nat} {sec:List Int} {f:List UInt8->Option Dv} {c:gY} {x:aF}
theorem O9 (h:Wy F Fc Fs s p pc ps sec f n c x) {s2:AS} (e2:Ext s s2) :
  aa Tryz.prog fl [.ptr (some (p,0))] s2 fun x_ b=>∃ e:Bool,x_=.bool e/\(af e (aa Tryz.prog iA [(.ptr (some (pc,0)))] b fun m d=>∃ i:Option (Nat×Nat),m=.ptr i/\(uC (je T 100 lD (.ptr i) (.ptr none)) fun o=>af o ((fun vs s'=>vs=[AV.bool false]/\Ext s2 s'/\aG s') [.bool true] d) (aa Tryz.prog lq [(.ptr (some (ps,0)))] d fun r j=>∃ k:Option (Nat×Nat),r=.ptr k/\(uC (je T 100 pA (.ptr k) (.ptr none)) fun w=>(fun vs s'=>vs=[AV.bool false]/\Ext s2 s'/\aG s') [.bool w] j)))) ((fun vs s'=>vs=[AV.bool false]/\Ext s2 s'/\aG s') [.bool false] b)):=by
 refine aa.use (Dc (h.fe.ext e2)) ?_;rintro v b ⟨rfl,rfl⟩ A;refine ⟨_,rfl,af.yes rfl ?_⟩;refine aa.use (Ty (h.ca.ext e2)) ?_;rintro v d ⟨⟨q,rfl⟩,l⟩ B;refine ⟨_,rfl,_,iU vB _,af.no rfl ?_⟩;refine aa.use (We (h.se.ext (e2.trans l))) ?_;rintro v j ⟨C,rfl,_,_,y⟩ z;exact ⟨_,rfl,_,iU wV _,rfl,l.trans y,z⟩
set_option maxRecDepth 20000 in
theorem P7 (h:Wy F Fc Fs s p pc ps sec f n c x) (name:List UInt8) (most:Int) :
  aa Tryz.prog eL [.ptr (some (p,0)),.str name,.int .i64 most,.ptr (some (pc,0)),.ptr (some (ps,0))] s fun r s' =>
   ((¬ (aK name=true/\1<=most/\most<=16)\/f name=none)/\(∃ e:Int,e≠0/\r=.aN [.slc none 0 0 true,.int .i64 e])/\Ext s s') \/
   ((aK name=true/\1<=most/\most<=16)/\∃ (d:Dv) (out:AV) (Lo:List lT) (F':List Nat),f name=some d/\r=.aN [out,.int .i64 0]/\bq ie 21 s' out Lo/\(∀ m∈Lo,kh (KV m) s' m)/\Lo.map lT.ev=(jr name d c x most).1.map Prod.fst /\
    mj F' s' p sec (e_ f name (some (ug name d c x most))) n/\TF F s s'/\(∀ y∈F',y∈F\/s.h y=none)/\∀ y∈F',s'.h y≠none):=by
 refine aa.pre fun hw=>Db _ _ _ _ _ _ _ (aj.intro hw rfl fun l1 s2 F2=>?_);refine ⟨fun vs s'=>vs=[.bool false]/\Ext s2 s'/\aG s',?_,O9 h F2.ext⟩;rintro b s5 ⟨hb,e5,w5⟩;obtain rfl:b=false:=by simpa using hb
 have B:=F2.ext.trans e5;have o5:=F2.own.ext e5;refine af.no rfl ⟨fun vs s'=>vs=[.int .i64 (if ¬ (aK name=true/\1<=most/\most<=16) then 2 else if (f name).isNone=true then 7 else 0)]/\s'=s5,?_,most,by rw [o5.at.au];rfl,af.dec (fun h1=>⟨most,by rw [o5.at.au];rfl,?_⟩) (fun h1=>?_)⟩
 ·rintro n7 s8 ⟨hn,rfl⟩;simp only [List.cons.injEq,AV.int.injEq,true_and,and_true] at hn;subst hn;by_cases hg:aK name=true/\1<=most/\most<=16
  ·rw [if_neg (fun h=>h hg)];cases hf:f name with
   | none =>
    rw [if_pos (show (none:Option Dv).isNone=true from rfl)];exact af.yes (by decide) (.inl ⟨.inr rfl,⟨7,by decide,rfl⟩,B⟩)
   | some d =>
    rw [if_neg (by simp)];refine af.no (by decide) ?_;have a6:=h.fe.ext B;have Z:∀ y∈F,s8.h y≠none:=fun y i=>by
     cases hq:s.h y with
     | none=>exact absurd hq (h.th y i)
     | some o=>rw [B.1 _ _ hq];simp
    obtain ⟨m,sv,hm,rfl,R,op,⟨bx,_⟩,ae,b0,b1,an⟩:=a6.dev Z hf;obtain ⟨bs,ao⟩:=h.pl _ _ hf;refine ⟨_,by rw [op.at.au];rfl,_,ae _ (Ext.refl _),aj.intro w5 rfl fun U b2 K=>bu.own K.wf K.own (by simp) fun gh al=>aj.intro al.wf rfl fun pT kT C=>?_⟩;have ar:Am.Own gh U [.ptr (some (m.l,0))]:=al.at;have am:Ext s8 gh:=Ext.wr K.ext K.no al.mut;have D:=am.trans C.ext;have aw:=ar.ext C.ext;have a0:Am.Own kT l1 [.int .i64 most]:=o5.ext D;have a7:Am.Own kT pT [.slc none 0 0 true]:=C.own;have ab:=R.mut (L:=[]) D.mut (by simp);have a8:s8.h U=none:=K.no;have W:s8.h pT=none:=am.none C.no;have a1:∀ y∈fJ m,s8.h y≠none:=fun y i=>Z y (R.2.2.2 y i);have X:U ∉ pT::fJ m:=fun i=>by
     rcases List.mem_cons.1 i with e | i
     ·have:=C.no;rw [<- e,ar] at this;cases this
     ·exact a1 _ i a8
    have a2:pT ∉ fJ m:=fun i=>a1 _ i W;have k1:l1 ∉ pT::fJ m:=fun i=>by
     rcases List.mem_cons.1 i with e | i
     ·have:=C.no;rw [<- e,o5.ext am] at this;cases this
     ·exact h.th _ (R.2.2.2 _ i) F2.no
    have kl:m.l∈fJ m:=by simp [fJ]
    have M:∀ y∈pT::fJ m,y ∉ Fc/\y ∉ Fs:=fun y i=>by
     rcases List.mem_cons.1 i with rfl | i
     ·exact ⟨fun O=>h.tc _ O (B.none W),fun O=>h.ts _ O (B.none W)⟩
     ·exact ⟨h.dc y (R.2.2.2 y i),h.ds y (R.2.2.2 y i)⟩
    have b3:m.H.length<=m.d.place:=by rw [<- List.length_map (f:=G9.v),R.2.2.1];exact ao
    have b4:=h.ln
    let Jb:AS->List (lT×G9)->AS->Prop:=fun sb d s'=>∃ out oM,Am.Own s' pT [out]/\Am.Own s' m.l (nk m.d.cur m.d.place oM)/\bq ie 21 s' out (d.map Prod.fst)/\bq rN 16 s' oM (m.H++d.map Prod.snd)/\bz (pT::fJ m) sb s'/\(∀ y∈ax out++ax oM,y∈fJ m\/sb.h y=none)/\∀ z∈d,kh (KV z.1) s' z.1
    have ad:∀ sb d a b,Jb sb d a->Ext a b->Jb sb d b:=fun sb d a b ⟨out,oM,I,G,j3,S,A,j6,j7⟩ e=>⟨out,oM,I.ext e,G.ext e,j3.ext e,S.ext e,A.trans e.mut,j6,fun z Q=>(j7 z Q).ext e⟩;have J0:∀ sb,Ext kT sb->Jb sb [] sb:=fun sb e=>⟨_,m.hv,a7.ext e,ab.1.ext e,bq.nil,by simpa using ab.2.1.ext e,bz.refl _ _,fun y i=>.inl (by simpa [ax,fJ] using Or.inr (by simpa [ax] using i)),by simp⟩;have Y:∀ s',bz (pT::fJ m) kT s'->au s' U 0=some (.ptr (some (m.l,0))):=fun s' mm=>by rw [(aw.mut mm X).at.au];rfl
    have M0:bz (pT::fJ m) kT kT:=bz.refl _ _;refine ⟨fun a b=>bz (pT::fJ m) a b,fun q _ v s'=>q=6->∃ d,v=.int .i64 ((m.d.place+(jr name m.d c x most).2:Nat):Int)/\d.map (fun z=>(z.1.ev,z.2.v))=(jr name m.d c x most).1/\Jb kT d s',fun s'=>Ext kT s',fun _ _ _ _=>True,fun q _ v=>q=6->∃ k,v=.int .i64 k,fun a b e=>e.mut,fun a b c x y=>x.trans y,fun q _ v a b e g hq=>by obtain ⟨d,x,y,z⟩:=g hq;exact ⟨d,x,y,ad _ _ _ _ z e⟩,fun _ _ _ _ _ _ _=>trivial,fun a b e g=>g.trans e,Ext.refl _,?_⟩;refine ⟨_,Y _ M0,fun s' x _=>⟨_,Y _ x,rfl⟩,_,Y _ M0,fun s' x _=>⟨_,Y _ x,rfl⟩,fun s' _ _=>rfl,fun dZ b5 a9 _ O=>?_,⟨.int .i64 0,fun _=>⟨_,rfl⟩⟩,fun b6 a3=>?_⟩
    ·refine aa.use (U_ (s0:=dZ) (l:=m.l) (pl:=m.d.place) (cur:=m.d.cur) (stop:=fun k=>!decide ((k:Int)<most)) (J:=fun d s'=>Jb dZ d s'/\aG s') m.len h.bl (by omega) h.sz h.nl (by omega) (fun d s' j=>j.2) (fun d a b j e w=>⟨ad _ _ _ _ j.1 e,w⟩) (fun d s' j=>by obtain ⟨⟨out,oM,I,G,_⟩,_⟩:=j;exact ⟨oM,G⟩) (fun d s' j=>by obtain ⟨⟨out,oM,I,G,j3,S,A,_⟩,_⟩:=j;exact (h.ca.ext ((B.trans D).trans O)).mut A fun y i=>(M y i).1) (fun d s' j=>by obtain ⟨⟨out,oM,I,G,j3,S,A,_⟩,_⟩:=j;exact (h.se.ext ((B.trans D).trans O)).mut A fun y i=>(M y i).2) ?_ ⟨J0 _ O,a9⟩) ?_
     ·rintro d s' m' v ⟨⟨out,oM,I,G,j3,S,A,j6,j7⟩,w'⟩ gE b7;have t1:=bq.tag j3;have t2:=bq.tag S;refine (TE (pl:=m.d.place) m.len I ((aw.ext O).mut A X) ((a0.ext O).mut A k1) G j3 S (fun e=>X (by simp [<- e])) (fun e=>k1 (by simp [<- e])) (fun e=>a2 (by rw [e];exact kl)) (fun e=>X (by rw [e];simp [kl])) (fun e=>k1 (by rw [e];simp [kl])) (by simp;omega) (by simp;omega) m' v).mono ?_;rintro r b8 ⟨rfl,a4,a',g1,g2,g3,g4,g5,g6⟩;refine ⟨by simp,fun w=>⟨⟨a4,a',g1,g2,by simpa using g3,by rw [List.map_append,<- List.append_assoc];exact g4,A.new g5 fun y i=>?_,fun y i=>?_,fun z Q=>?_⟩,w⟩⟩
      ·rcases List.mem_cons.1 i with rfl | i
       ·exact .inl (by simp)
       ·rcases List.mem_cons.1 i with rfl | i
        ·exact .inl (by simp [kl])
        ·rcases j6 y i with h | h
         ·exact .inl (by simp [h])
         ·exact .inr h
      ·rcases g6 y i with h | h
       ·exact j6 y h
       ·by_cases a5:y∈fJ m
        ·exact .inl a5
        ·right;cases hq:dZ.h y with
         | none=>rfl
         | some o =>
          have ba:y≠pT:=fun e=>by
           subst e;rw [I] at h;cases h
          rw [A.1 y o (by simp only [List.mem_cons,not_or];exact ⟨ba,a5⟩) hq] at h;cases h
      ·have hT:∀ y∈pT::m.l::(ax out++ax oM),∀ g,Tag s' y g->g≠1/\g≠3:=fun y i g t=>by
        rcases List.mem_cons.1 i with rfl | i
        ·have:=t.uniq (Own.tag I);omega
        ·rcases List.mem_cons.1 i with rfl | i
         ·have:=t.uniq (Own.tag G);omega
         ·rcases List.mem_append.1 i with i | i
          ·have:=t.uniq (t1 y i);omega
          ·have:=t.uniq (t2 y i);omega
       rcases List.mem_append.1 Q with Q | Q
       ·exact (j7 z Q).fq g5 hT
       ·obtain rfl:=List.mem_singleton.1 Q;exact gE.fq g5 hT
     ·rintro b9 b' ⟨d,rfl,hd,⟨jj,_⟩⟩ cb;obtain ⟨out,oM,I,G,j3,S,A,j6,j7⟩:=jj;exact ⟨_,rfl,⟨A,(fun _=>⟨d,rfl,hd,out,oM,I,G,j3,S,O.mut.trans A,fun y i=>(j6 y i).imp id O.none,j7⟩)⟩,trivial,(fun _=>⟨_,rfl⟩)⟩
    ·obtain ⟨k,rfl⟩:=a3 rfl;refine ⟨_,rfl,fun nK cc bb _ hC=>?_⟩;obtain ⟨d,hk,hd,out,oM,I,G,j3,S,A,j6,j7⟩:=hC rfl;simp only [AV.int.injEq,true_and] at hk;subst hk;refine bu.own bb G (by rw [nq m.len];simp) fun kH P=>?_;have oP:Am.Own kH m.l (nk m.d.cur ((m.d.place+(jr name m.d c x most).2:Nat):Int) oM):=by
      have:=P.at;rw [fF,Nat.zero_add,(GX m.len _ _ _ oM).1] at this;exact this
     have tl:∀ y∈[m.l],∀ g,Tag nK y g->g=0:=fun y i g t=>by
      obtain rfl:=List.mem_singleton.1 i;exact t.uniq (Own.tag G)
     have g3:=bq.fq j3 P.mut fun y i g t=>by rw [tl y i g t];decide
     have g4:=bq.fq S P.mut fun y i g t=>by rw [tl y i g t];decide
     have g7:∀ z∈d,kh (KV z.1) kH z.1:=fun z Q=>(j7 z Q).fq P.mut fun y i g t=>by rw [tl y i g t];decide
     have bc:pT≠m.l:=fun e=>a2 (e ▸ kl);have MA:bz (fJ m) s8 kH:=by
      have m1:bz (pT::fJ m) s8 kH:=(D.mut.trans A).trans (P.mut.mono (by simp [kl]));refine ⟨fun y o i ho=>m1.1 y o (fun hm=>?_) ho,m1.2⟩;rcases List.mem_cons.1 hm with rfl | hm
      ·rw [W] at ho;cases ho
      ·exact i hm
     refine ⟨out,by rw [(I.mut P.mut (by simpa using bc)).at.au];rfl,.inr ⟨hg,m.d,out,d.map Prod.fst,?_⟩⟩;obtain ⟨F',bd,be,bh⟩:=an kH ⟨m.l,oM,ug name m.d c x most,m.H++d.map Prod.snd,m.len⟩ rfl MA oP g4 (by
      show _=m.d.hand++(jr name m.d c x most).1.map Prod.snd;rw [List.map_append,R.2.2.1,<- hd];simp) (fun y i=>(j6 y (List.mem_append_right _ i)).imp id D.none)
     refine ⟨F',rfl,rfl,g3,fun z Q=>?_,?_,bd,⟨fJ m,B.mut.trans MA,fun y i=>⟨R.2.2.2 y i,fun g t=>?_⟩⟩,fun y i=>(be y i).imp id B.none,bh⟩
     ·obtain ⟨w,bi,rfl⟩:=List.mem_map.1 Q;exact g7 w bi
     ·rw [<- hd];simp
     ·obtain ⟨cs,bj⟩:=t;have t8:Tag s8 y g:=⟨cs,B.1 _ _ bj⟩;rcases List.mem_cons.1 i with rfl | i
      ·exact .inl (t8.uniq (Own.tag R.1))
      ·exact .inr (t8.uniq (bq.tag R.2.1 y i))
  ·rw [if_pos hg];exact af.yes (by decide) (.inl ⟨.inl hg,⟨2,by decide,rfl⟩,B⟩)
 ·refine aa.use (BX (h.fe.ext B) name _) ?_;rintro bk bm ⟨rfl,rfl⟩ bo;refine ⟨_,rfl,?_,rfl⟩;congr 3;by_cases h2:aK name=true <;> by_cases h3:most<=16 <;> simp [h2,h3,show 1<=most from h1]
 ·refine aa.use (BX (h.fe.ext B) name _) ?_;rintro bk bm ⟨rfl,rfl⟩ bo;refine ⟨_,rfl,?_,rfl⟩;congr 3;exact propext ⟨fun _ h=>h1 h.2.1,fun _=>by simp⟩
end
end Go.Proofs.YtohgmogbabkkeaaGreat
end

section
namespace Go.Proofs.YtohgmogbabkkeaaGreat
open Go.Am Go.av Go.aB Go.bE
section
variable {F Fc Fs:List Nat} {s:AS} {p pc ps n:Nat} {sec:List Int} {f:List UInt8->Option Dv} {c:gY} {x:aF}
def BZ (sec:List Int) (dev:List UInt8) (b:List Int) (v:List Int):Prop:=(b=[]/\v=fo)\/(Xu v/\uf v=true/\b=zU sec dev v)
theorem BZ.len {sec:List Int} {dev:List UInt8} {b v:List Int} (h:BZ sec dev b v):v.length=16:=by
 rcases h with ⟨_,rfl⟩ | ⟨h,_⟩
 ·rfl
 ·exact h.len
theorem TG {s:AS} {sv bv:AV} {sec b v:List Int} (hs:fE s sv sec) (d:sec.length<=64) {dev:List UInt8} (c:aK dev=true) (hb:fE s bv b) (i:BZ sec dev b v) :
  aa Tryz.prog ey [sv,.str dev,bv] s fun r s'=>r=.aN [.agg (v.map (.int .u64)),.int .i64 0]/\Ext s s':=by
 rcases i with ⟨rfl,rfl⟩ | ⟨j,h2,rfl⟩
 ·refine (Tq (sv:=sv) hb dev (.inr rfl)).mono ?_;rintro r s' ⟨rfl,e⟩;exact ⟨by rw [if_pos c],e⟩
 ·exact Wt hs d dev c j h2 hb
theorem Rr {v:List Int} (hv:v.length=16):aS T oO [(0,.agg (v.map (.int .u64)))]=some (.agg (nk v 0 (.slc none 0 0 true))):=by
 obtain ⟨a,b,c,d,e,f,g,i,j,k,l,m,n,o,p,q,rfl⟩:=Tv hv;rw [qI (pl:=[(0,16),(16,1),(17,1)]) (by kernel_rfl) FU rfl];have r:bO (.agg ([a,b,c,d,e,f,g,i,j,k,l,m,n,o,p,q].map (AV.int .u64)))=some ([a,b,c,d,e,f,g,i,j,k,l,m,n,o,p,q].map (AV.int .u64)):=rfl;simp only [List.map_cons,List.map_nil] at r ⊢;simp only [jt,AV.cells,r,List.getElem?_cons_zero,List.length_cons,List.length_nil,Nat.zero_add,Nat.reduceAdd,Nat.reduceLeDiff,and_self,if_true,Option.map_some];rfl
set_option maxRecDepth 20000 in
theorem IU (h:mj F s p sec f n) (an:∀ y∈F,s.h y≠none) (hl:sec.length<=64) (name:List UInt8) {bv:AV} {b v:List Int} (hb:fE s bv b) (hc:aK name=true->f name=none->BZ sec name b v) :
  aa Tryz.prog dN [.ptr (some (p,0)),.str name,bv] s fun r s' =>
   (¬ (aK name=true/\f name=none/\n<64)/\(∃ e:Int,e≠0/\r=.int .i64 e)/\Ext s s') \/
   ((aK name=true/\f name=none/\n<64)/\r=.int .i64 0/\∃ F',mj F' s' p sec (e_ f name (some ⟨v,0,[]⟩)) (n+1)/\bz F s s'/\(∀ y∈F',y∈F\/s.h y=none)/\∀ y∈F',s'.h y≠none):=by
 refine aa.pre fun hw=>zZ _ _ _ _ _ ?_;refine aa.use (Dc h) ?_;rintro v1 s2 ⟨rfl,rfl⟩ w2;refine ⟨_,rfl,af.no rfl ?_⟩;refine aa.use (vo name _) ?_;rintro v4 s5 ⟨rfl,rfl⟩ w5;refine ⟨_,rfl,af.mk (fun hn=>?_) (fun hn=>?_)⟩
 ·have B:aK name=false:=by simpa using hn
  exact .inl ⟨(fun h=>by rw [B] at h;cases h.1),⟨2,by decide,rfl⟩,Ext.refl _⟩
 have B:aK name=true:=by simpa using hn
 obtain ⟨sv,hm,es,k,R,h2,h3,⟨a1,a2⟩,S,c2,c3,c4,c5⟩:=id h;have J:∀ s',Ext s5 s'->bR T aM (.map (some hm)) (.str name) false s'=some (.ptr ((dh es name).map fun m=>(m.l,0))):=fun s' e=>by
  refine ((S.ext e).find vr name false).trans ?_;cases dh es name <;> rfl
 refine ⟨_,by rw [R.at.au];rfl,_,J _ (Ext.refl _),_,iU vC _,?_⟩;cases U:dh es name with
 | some m=>exact af.yes rfl (.inl ⟨(fun hh=>by rw [(c3 _ _ U).2] at hh;cases hh.2.1),⟨7,by decide,rfl⟩,Ext.refl _⟩)
 | none =>
  have W:=c4 _ U;refine af.no rfl ⟨sv,by rw [R.at.au];rfl,?_⟩;have X:=hc B W;have D:=X.len;refine aa.use (TG (a1.sl bM) hl B hb X) ?_;rintro bb bc ⟨rfl,K⟩ ao;refine ⟨_,_,rfl,kj ao (by simp [D]) rfl (cq _ _) fun Ac gG G=>af.no (by decide) ⟨_,by rw [((R.ext K).ext G.ext).at.au];rfl,?_⟩⟩;have H:=K.trans G.ext;refine ⟨_,(S.ext H).cJ vr,af.dec (fun bd=>.inl ⟨fun hh=>by omega,⟨5,by decide,rfl⟩,H⟩) (fun be=>?_)⟩;refine ⟨fun q _ w s'=>q=7->∃ l,w=.ptr (some (l,0))/\Am.Own s' l (nk v 0 (.slc none 0 0 true))/\gG.h l=none,fun q _ w=>q=7->∃ l,w=.ptr (some (l,0)),fun q _ w a b e g U=>by obtain ⟨l,x,y,z⟩:=g U;exact ⟨l,x,y.ext e,z⟩,_,by rw [((R.ext K).ext G.ext).at.au];rfl,_,T2 D G.own.at,_,Rr D,fun nK ar aw _=>⟨?_,aj.intro aw rfl fun Y bh M=>⟨M.ext,(fun _=>⟨Y,rfl,M.own,ar.none M.no⟩),(fun _=>⟨Y,rfl⟩)⟩⟩,⟨.ptr (some (0,0)),fun _=>⟨0,rfl⟩⟩,fun bi Z=>?_⟩
  ·rw [nk,List.all_append,cq];rfl
  obtain ⟨l,rfl⟩:=Z rfl;refine ⟨_,rfl,fun oR a0 a3 hS=>?_⟩;obtain ⟨l',ab,ad,a4⟩:=hS.1 rfl;simp only [AV.ptr.injEq,Option.some.injEq,Prod.mk.injEq,and_true] at ab;subst ab;have d:=H.trans a0
  let md:Rq:=⟨l,.slc none 0 0 true,⟨v,0,[]⟩,[],D⟩
  refine dM.nH vr a3 (S.ext d) name md fun a5 es' k' hM j bj C=>.inr ⟨⟨B,W,by omega⟩,rfl,?_⟩;have i:∀ {y g:Nat},Tag oR y g->y≠hm:=fun t e=>Tag.IT (S.ext d).obj (e ▸ t);have ae:s5.h l=none:=H.none a4;have hC:mj (l::F) a5 p sec (e_ f name (some ⟨v,0,[]⟩)) (n+1):=by
   refine ⟨sv,hm,es',k',(R.ext d).mut C (by simpa using i (Own.tag (R.ext d))),by simp [h2],by simp [h3],⟨(a1.ext d).mut C fun y c hx=>i (bq.tag (a1.ext d) y c) (by simpa using hx),fun y c=>by simp [a2 y c]⟩,hM,?_,fun a y c=>?_,fun a o=>?_,fun a b y z c A al=>?_⟩
   ·rw [JJ S.nd hM.nd j,U,<- c2];rfl
   ·rw [j] at c;by_cases o:a=name
    ·rw [if_pos o] at c;obtain rfl:=Option.some.inj c;exact ⟨⟨ad.mut C (by simpa using i (Own.tag ad)),bq.nil,rfl,fun y c=>by simp [fJ,ax,md] at c;simp [c]⟩,by rw [e_,if_pos o]⟩
    ·rw [if_neg o] at c;obtain ⟨hE,a6⟩:=c3 a y c;have I:=(hE.mut (L:=[]) d.mut (by simp)).mut C fun z A O=>by
      obtain rfl:=List.mem_singleton.1 A;rcases List.mem_cons.1 O with e | O
      ·exact i (Own.tag (hE.1.ext d)) e.symm
      ·exact i (bq.tag (hE.2.1.ext d) _ O) rfl
     exact ⟨⟨I.1,I.2.1,I.2.2.1,fun z A=>List.mem_cons_of_mem _ (I.2.2.2 z A)⟩,by rw [e_,if_neg o];exact a6⟩
   ·rw [j] at o;by_cases Q:a=name
    ·rw [if_pos Q] at o;cases o
    ·rw [if_neg Q] at o;rw [e_,if_neg Q];exact c4 a o
   ·have old:∀ (b:List UInt8) (y:Rq),dh es b=some y->∀ z,z∈fJ md->z ∉ fJ y:=fun b y c z A a7=>by
     simp only [fJ,ax,md,List.mem_cons,List.not_mem_nil,or_false] at A;subst A;exact an z ((c3 b y c).1.2.2.2 z a7) ae
    rw [j] at c A;by_cases o:a=name
    ·rw [if_pos o] at c;obtain rfl:=Option.some.inj c;rw [if_neg (by rw [<- o];exact Ne.symm al)] at A;exact old b z A
    ·rw [if_neg o] at c;by_cases am:b=name
     ·rw [if_pos am] at A;obtain rfl:=Option.some.inj A;exact fun w hw a8=>old a y c w a8 hw
     ·rw [if_neg am] at A;exact c5 a b y z c A al
  obtain ⟨F0,a9,a',ba⟩:=hC.tight;refine ⟨F0,a9,d.mut.trans (C.mono fun y c=>by obtain rfl:=List.mem_singleton.1 c;exact h3),fun y c=>?_,ba⟩;rcases List.mem_cons.1 (a' y c) with rfl | h
  ·exact .inr ae
  ·exact .inl h
end
end Go.Proofs.YtohgmogbabkkeaaGreat
end

section
namespace Go.Proofs.YtohgmogbabkkeaaGreat
open Go.Am Go.av Go.aB Go.bE
theorem Rt {s:AS} {v:AV} {l:List G9} (b:Sl rN 16 s v l) (i:l.length<=2 ^ 30):aa Tryz.prog eD [v] s fun r s'=>aV rN 16 [] s s' r l:=by
 refine aa.pre fun j=>nD _ _ _ ?_;have main:aR (dw T br 0 []) fun k=>aj (.cells k 0 false) s fun l3 s4=>iT (aL T br br (.slc (some (l3,0)) 0 0 true) v s4) fun m s6=>aV rN 16 [] s s6 m l:=by
  refine ⟨_,Ay ig,aj.intro j rfl fun l3 s4 F=>?_⟩;refine aV.k_ ig cN oU F.wf (aV.start (M:=[]) F.ext.mut) (by simp) (b.ext F.ext) (by simpa using i) dQ fun v' s' g _ _=>?_;simpa using g
 rcases b with ⟨rfl,_,d⟩ | ⟨a,c,e,rfl,hlen,h3⟩
 ·refine ⟨_,rV dQ _ _ _ _,af.no rfl main⟩
 ·refine ⟨_,rU dQ _ _ _ _ _ _ _ _,af.mk (fun h=>?_) (fun _=>main)⟩;have:a=none:=by simpa using h
  subst this;have:l=[]:=by
   rcases h3 with h3 | ⟨la,o,C,h,_⟩
   ·exact List.length_eq_zero_iff.1 h3
   ·cases h
  subst this;exact aV.nil
theorem TH {cur b:List Int} (h:cur.length=16) (c:b.length=16) (pl:Int) (hv:AV):qC (nk cur pl hv) 0 (b.map (.int .u64))=nk b pl hv:=by
 apply List.ext_getElem?;intro k;rw [jW _ _ _ _ (by rw [nq h];simp [c])];simp only [List.length_map,c,Nat.zero_add,Nat.zero_le,true_and,Nat.sub_zero,nk];by_cases d:k<16
 ·rw [if_pos d,List.getElem?_append_left (by simp [c];omega)]
 ·rw [if_neg d,List.getElem?_append_right (by simp [h];omega),List.getElem?_append_right (by simp [c];omega)];simp [h,c]
section
variable {F:List Nat} {s:AS} {p n:Nat} {sec:List Int} {f:List UInt8->Option Dv}
theorem IV (h:mj F s p sec f n) (S:∀ y∈F,s.h y≠none) (hl:sec.length<=64) (name:List UInt8) (hm:∀ d,f name=some d->uf d.cur=true) :
  aa Tryz.prog eM [.ptr (some (p,0)),.str name] s fun r s' =>
   ((aK name=false\/f name=none)/\(∃ e:Int,e≠0/\r=.aN [.slc none 0 0 true,.int .i64 e])/\s'=s) \/
   (aK name=true/\∃ d w s1,f name=some d/\r=.aN [w,.int .i64 0]/\aV oT 1 [] s1 s' w (zU sec name d.cur)/\mj F s1 p sec (e_ f name none) (n - 1)/\bz F s s1/\∀ y∈F,s1.h y≠none):=by
 refine aa.pre fun hw=>Aa _ _ _ _ ?_;refine aa.use (BX h name true) ?_;rintro v1 s2 ⟨rfl,rfl⟩ w2;refine ⟨_,rfl,?_⟩;cases hn:aK name with
 | false=>exact af.yes rfl (.inl ⟨.inl rfl,⟨2,by decide,rfl⟩,rfl⟩)
 | true =>
  cases hf:f name with
  | none=>exact af.yes rfl (.inl ⟨.inr rfl,⟨7,by decide,rfl⟩,rfl⟩)
  | some d =>
   refine af.no rfl ?_;obtain ⟨sv,vt,es,k,R,h2,h3,⟨a1,a2⟩,U,c2,W,Z,c5⟩:=id h;cases K:dh es name with
   | none=>rw [Z _ K] at hf;cases hf
   | some m =>
    obtain ⟨hD,L⟩:=W _ _ K;rw [hf] at L;obtain rfl:=Option.some.inj L;have G:bR T aM (.map (some vt)) (.str name) false s2=some (.ptr (some (m.l,0))):=by
     have:=U.find vr name false;rw [K] at this;exact this
    refine ⟨_,by rw [R.at.au];rfl,_,G,_,by rw [R.at.au];rfl,?_⟩;refine dM.del vr w2 U name K fun B es' hM j hlen ab x=>?_;have i:∀ {y g:Nat},Tag s2 y g->y≠vt:=fun t e=>Tag.IT U.obj (e ▸ t);have M:=R.mut x (by simpa using i (Own.tag R));have C:=a1.mut x fun y c hx=>i (bq.tag a1 y c) (by simpa using hx);have D:∀ a y,dh es a=some y->GW F B y:=fun a y c=>by
     obtain ⟨X,_⟩:=W a y c;exact X.mut x fun z H I=>by
      obtain rfl:=List.mem_singleton.1 H;rcases List.mem_cons.1 I with e | I
      ·exact i (Own.tag X.1) e.symm
      ·exact i (bq.tag X.2.1 _ I) rfl
    have dm:=D _ _ K;refine ⟨sv,by rw [M.at.au];rfl,_,dm.1.at.aC (by rw [nq m.len];omega),?_⟩;rw [BW m.len];refine aa.use (Nf (C.sl bM) hl name m.len hn (hm _ hf)) ?_;rintro ad jl ⟨w,rfl,g⟩ ae;have al:Ext B jl:=g.eC.ext;refine ⟨_,_,rfl,.inr ⟨rfl,m.d,w,B,rfl,rfl,g,?_,?_,?_⟩⟩
    ·refine (mj.mk ⟨sv,vt,es',k,M,h2,h3,⟨C,a2⟩,hM,by omega,fun a y c=>?_,fun a A=>?_,fun a b y z c H Y=>?_⟩:mj F B p sec (e_ f name none) (n - 1))
     ·rw [j] at c;by_cases A:a=name
      ·rw [if_pos A] at c;cases c
      ·rw [if_neg A] at c;exact ⟨D a y c,by rw [e_,if_neg A];exact (W a y c).2⟩
     ·rw [j] at A;by_cases J:a=name
      ·rw [e_,if_pos J]
      ·rw [if_neg J] at A;rw [e_,if_neg J];exact Z a A
     ·rw [j] at c H;by_cases A:a=name
      ·rw [if_pos A] at c;cases c
      ·by_cases hb:b=name
       ·rw [if_pos hb] at H;cases H
       ·rw [if_neg A] at c;rw [if_neg hb] at H;exact c5 a b y z c H Y
    ·exact x.mono fun y c=>by obtain rfl:=List.mem_singleton.1 c;exact h3
    ·intro y c;by_cases O:y=vt
     ·subst O;rw [hM.obj];simp
     ·cases Q:s2.h y with
      | none=>exact absurd Q (S y c)
      | some o=>rw [x.1 y o (by simpa using O) Q];simp
def nE (d:Dv) (k:Nat):Dv:=if k=0 then d else ⟨nj d.cur (d.hand.getD (k - 1) []),d.place,d.hand.drop k⟩
def XR (F : List Nat) (s : AS) (p n : Nat) (sec : List Int) (f : List UInt8 -> Option Dv) (name : List UInt8) (k : Int) (r : AV) (s' : AS) : Prop :=
      ((aK name = false \/ k < 0 \/ (∀ d, f name = some d -> k > d.hand.length)) /\ (∃ e : Int, e ≠ 0 /\ r = .aN [.slc none 0 0 true, .int .i64 e]) /\ s' = s) \/
      (aK name = true /\ ∃ (d : Dv) (j : Nat) (w : AV) (F' : List Nat) (s1 : AS), k = j /\ f name = some d /\ j <= d.hand.length /\ r = .aN [w, .int .i64 0] /\ aV oT 1 [] s1 s' w (zU sec name (nE d j).cur) /\ mj F' s1 p sec (e_ f name (some (nE d j))) n /\ TF F s s1 /\ (∀ y ∈ F', y ∈ F \/ s.h y = none) /\ ∀ y ∈ F', s1.h y ≠ none)
set_option maxRecDepth 20000 in
theorem TI (h:mj F s p sec f n) (a0:∀ y∈F,s.h y≠none) (hl:sec.length<=64) (name:List UInt8) (k:Int) (hm:∀ d,f name=some d->∀ j,j<=d.hand.length->uf (nE d j).cur=true) (hh:∀ d,f name=some d->d.hand.length<=2 ^ 28) :
  aa Tryz.prog fY [.ptr (some (p,0)),.str name,.int .i64 k] s (XR F s p n sec f name k):=by
 refine aa.pre fun hw=>EA _ _ _ _ _ ?_;refine aa.use (BX h name _) ?_;rintro v1 s2 ⟨rfl,rfl⟩ w2;refine ⟨_,rfl,?_⟩;by_cases a1:k<0
 ·have S:decide (k>=0)=false:=by rw [decide_eq_false_iff_not];omega
  rw [S,show (!aK name||!false)=true by simp];exact af.yes rfl (.inl ⟨.inr (.inl a1),⟨2,by decide,rfl⟩,rfl⟩)
 have hk:k>=0:=by omega
 obtain ⟨j,rfl⟩:=Int.eq_ofNat_of_zero_le hk;have S:decide ((j:Int)>=0)=true:=decide_eq_true hk;rw [S];cases hn:aK name with
 | false=>exact af.yes rfl (.inl ⟨.inl hn,⟨2,by decide,rfl⟩,rfl⟩)
 | true =>
  cases hf:f name with
  | none=>exact af.yes rfl (.inl ⟨.inr (.inr fun d hd=>by rw [hf] at hd;cases hd),⟨7,by decide,rfl⟩,rfl⟩)
  | some d =>
   refine af.no rfl ?_;obtain ⟨m,sv,vt,rfl,r,op,⟨a2,b0⟩,U,a3,a4,Z⟩:=h.dev a0 hf;have b1:m.H.length=m.d.hand.length:=by rw [<- r.2.2.1,List.length_map]
   have b2:=hh _ hf;have a5:=nq m.len m.d.place m.hv;have ab:=EU m.len m.d.place m.hv;have sl:=r.2.1.sl cN;refine ⟨_,by rw [op.at.au];rfl,_,U _ (Ext.refl _),m.hv,by rw [r.1.at.au];exact ab.2,_,sl.cJ dQ _,af.dec (fun b3=>.inl ⟨.inr (.inr fun d' ad=>by rw [hf] at ad;obtain rfl:=Option.some.inj ad;omega),⟨6,by decide,rfl⟩,rfl⟩) (fun hle=>?_)⟩;have hj:j<=m.d.hand.length:=by omega
   have kl:m.l∈fJ m:=by simp [fJ]
   refine ⟨fun vs s'=>Ext s2 s'/\aG s'/\j=0\/aG s'/\j≠0/\bz [m.l] s2 s'/\∃ oM ,Am.Own s' m.l (nk (nE m.d j).cur m.d.place oM)/\bq rN 16 s' oM (m.H.drop j)/\∀ y∈ax oM,s2.h y=none,?_,af.dec (fun bx=>?_) (fun J=>.inl ⟨Ext.refl _,w2,by omega⟩)⟩
   ·let PP:AV->AS->Prop:=fun v gG=>∃ (w:AV) (F':List Nat) (s1:AS),v=.aN [w,.int .i64 0]/\aV oT 1 [] s1 gG w (zU sec name (nE m.d j).cur)/\mj F' s1 p sec (e_ f name (some (nE m.d j))) n/\TF F s2 s1/\(∀ y∈F',y∈F\/s2.h y=none)/\∀ y∈F',s1.h y≠none
    have fin:∀ (bW:AS) (oM:AV) (H':List G9),aG bW->bz (fJ m) s2 bW->Am.Own bW m.l (nk (nE m.d j).cur m.d.place oM)->bq rN 16 bW oM H'->H'.map G9.v=(nE m.d j).hand->(nE m.d j).cur.length=16->(nE m.d j).place=m.d.place->(∀ y∈ax oM,y∈fJ m\/s2.h y=none) ->
      ai (some (p,0)) fun ku A=>dI (au bW ku A) fun oC=>ai (some (m.l,0)) fun B C=>aR (aC bW B C 16) fun x=>aa Tryz.prog fR [oC,.str name,.agg x] bW fun v20 gG=>∃ b:AV,∃ c:Int,v20=.aN [b,.int .i64 c] /\
       PP (.aN [b,.int .i64 c]) gG:=by
     intro bW oM H' K mm ho hg hH L a6 ae;have al:=op.mut mm a3;have W:=a2.mut mm a4;refine ⟨sv,by rw [al.at.au];rfl,_,ho.at.aC (by rw [nq L];omega),?_⟩;rw [BW L];refine aa.use (Nf (W.sl bM) hl name L hn (hm _ hf j hj)) ?_;rintro v20 gG ⟨w,rfl,g⟩ b4;obtain ⟨F',a7,a8,a9⟩:=Z bW ⟨m.l,oM,nE m.d j,H',L⟩ rfl mm (by rw [a6];exact ho) hg hH ae;refine ⟨_,_,rfl,w,F',bW,rfl,g,a7,⟨fJ m,mm,fun y D=>⟨r.2.2.2 y D,fun g t=>?_⟩⟩,a8,a9⟩;rcases List.mem_cons.1 D with rfl | D
     ·exact .inl (t.uniq (Own.tag r.1))
     ·exact .inr (t.uniq (bq.tag r.2.1 y D))
    have conv:∀ {P:AV->AS->Prop} (bW:AS),(ai (some (p,0)) fun ku A=>dI (au bW ku A) fun oC=>ai (some (m.l,0)) fun B C=>aR (aC bW B C 16) fun x=>aa Tryz.prog fR [oC,.str name,.agg x] bW fun v20 gG=>∃ b:AV,∃ c:Int,v20=.aN [b,.int .i64 c]/\P (.aN [b,.int .i64 c]) gG)->∀ {P':AV->AS->Prop},(∀ v s,P v s->P' v s)->ai (some (p,0)) fun ku A=>dI (au bW ku A) fun oC=>ai (some (m.l,0)) fun B C=>aR (aC bW B C 16) fun x=>aa Tryz.prog fR [oC,.str name,.agg x] bW fun v20 gG=>∃ b:AV,∃ c:Int,v20=.aN [b,.int .i64 c]/\P' (.aN [b,.int .i64 c]) gG:=by
     intro P bW hq P' hP;obtain ⟨oC,am,x,an,hc⟩:=hq;refine ⟨oC,am,x,an,hc.mono ?_⟩;rintro v20 gG ⟨b,c,e,hp⟩;exact ⟨b,c,e,hP _ _ hp⟩
    rintro bW (⟨X,K,rfl⟩ | ⟨K,M,a',oM,ba,W,bb⟩)
    ·have R:nE m.d 0=m.d:=rfl;refine conv (P:=PP) bW (fin bW m.hv m.H K X.mut (by rw [R];exact r.1.ext X) (r.2.1.ext X) (by rw [R];exact r.2.2.1) (by rw [R];exact m.len) (by rw [R]) fun y D=>.inl (by simp [fJ,D])) ?_
     rintro v s ⟨w,F',s1,h1,h2⟩;exact .inr ⟨hn,m.d,0,w,F',s1,rfl,hf,hj,h1,h2⟩
    ·have R:nE m.d j=⟨nj m.d.cur (m.d.hand.getD (j - 1) []),m.d.place,m.d.hand.drop j⟩:=by rw [nE,if_neg M]
     refine conv (P:=PP) bW (fin bW oM (m.H.drop j) K (a'.mono (by simp [kl])) ba W (by rw [R,List.map_drop,r.2.2.1]) (by rw [R];exact dB _ _) (by rw [R]) fun y D=>.inr (bb y D)) ?_
     rintro v s ⟨w,F',s1,h1,h2⟩;exact .inr ⟨hn,m.d,j,w,F',s1,rfl,hf,hj,h1,h2⟩
   ·have M:j≠0:=by omega
    obtain ⟨y,D⟩:=cT (l:=m.H) (i:=j - 1) (by omega);have bc:m.d.hand.getD (j - 1) []=y.v:=by rw [List.getD_eq_getElem?_getD,<- r.2.2.1,List.getElem?_map,D];rfl
    obtain ⟨la,o,k8,k9⟩:=sl.ix (by decide) cN dQ tJ D;have bd:IntKind.wrap .i64 ((j:Int) - 1)=((j - 1:Nat):Int):=by rw [aX (by omega)];omega
    rw [bd];refine ⟨_,r.1.at.aC (by omega),m.hv,by rw [r.1.at.au];exact ab.2,la,o,k8 _,_,(k9 _ (Ext.refl _)).2,?_⟩;rw [BW m.len];refine aa.use (Tp m.len y.len _) ?_;rintro b5 kH ⟨rfl,G⟩ be;refine ⟨_,rfl,⟨cq _ _,by simp [dB]⟩,bu.own be (r.1.ext G) (by simp [dB,a5]) fun bh O=>?_⟩;have Y:Am.Own bh m.l (nk (nj m.d.cur y.v) m.d.place m.hv):=by
     have:=O.at;rw [TH m.len (dB _ _)] at this;exact this
    have ao:=EU (dB m.d.cur y.v) m.d.place m.hv;have tl:∀ z∈[m.l],∀ g,Tag kH z g->g=0:=fun z J g t=>by
     obtain rfl:=List.mem_singleton.1 J;exact t.uniq (Own.tag (r.1.ext G))
    have bi:=bq.fq (r.2.1.ext G) O.mut fun z J g t=>by rw [tl z J g t];decide
    obtain ⟨bj,bk,bl⟩:=(bi.sl cN).rest cN dQ tJ (i:=j) (by omega) .i64;refine ⟨m.hv,by rw [Y.at.au];exact ao.2,bj,bk,?_⟩;refine aa.use (Rt bl (by simp;omega)) ?_;rintro ar bm I bo;have aw:=Y.ext I.eC.ext;refine cS I.jh.2 q9 (bu.own bo aw (by rw [nq (dB _ _)];simp) fun b6 Q=>.inr ⟨Q.wf,M,?_,ar,?_,?_,?_⟩)
    ·exact ((G.mut.trans O.mut).trans I.eC.ext.mut).trans Q.mut
    ·have:=Q.at;rw [fF,Nat.zero_add,(GX (dB _ _) _ 0 _ ar).2] at this;rw [nE,if_neg M,bc];exact this
    ·have t44:∀ z∈[m.l],∀ g,Tag bm z g->g=0:=fun z J g t=>by
      obtain rfl:=List.mem_singleton.1 J;exact t.uniq (Own.tag aw)
     exact bq.fq I.tI Q.mut fun z J g t=>by rw [t44 z J g t];decide
    ·intro z J;have:=I.new z J;cases hq:s2.h z with
     | none=>rfl
     | some ob =>
      have bs:z≠m.l:=fun e=>by subst e;rw [Y] at this;cases this
      rw [O.eq z bs,G.1 z ob hq] at this;cases this
end
end Go.Proofs.YtohgmogbabkkeaaGreat
end

section
namespace Go.Proofs.YtohgmogbabkkeaaGreat
open Go.Am Go.av Go.aB Go.bE
def Ap (s0 s:AS) (Rs:List (List Nat)):Prop:=Ext s0 s/\Rs.Pairwise Dj/\∀ R∈Rs,∀ y∈R,s0.h y=none/\s.h y≠none
section
variable {s0 s s':AS} {Rs A B:List (List Nat)} {R R':List Nat}
theorem Ext.there {y:Nat} (e:Ext s s') (h:s.h y≠none):s'.h y≠none:=by
 cases b:s.h y with
 | none=>exact absurd b h
 | some o=>rw [e.1 y o b];simp
theorem Ap.ext (h:Ap s0 s Rs) (e:Ext s s'):Ap s0 s' Rs:=⟨h.1.trans e,h.2.1,fun R b y c=>⟨(h.2.2 R b y c).1,Ext.there e (h.2.2 R b y c).2⟩⟩
theorem Ap.nH (h:Ap s0 s (A++R::B)) (m:bz R s s') (p:∀ y∈R',y∈R\/s.h y=none) (ht:∀ y∈R',s'.h y≠none):Ap s0 s' (A++R'::B):=by
 obtain ⟨e,C,n⟩:=h;obtain ⟨p1,D,r⟩:=List.pairwise_append.1 C;obtain ⟨F,G⟩:=List.pairwise_cons.1 D;have w:∀ y∈R,s0.h y=none/\s.h y≠none:=n R (by simp);have H:Ext s0 s':=Ext.Xv e (fun y i=>(w y i).1) m;have j:∀ Q,Q∈A\/Q∈B->Dj Q R/\∀ y∈Q,s0.h y=none/\s.h y≠none:=fun Q c=>by
  rcases c with c | c
  ·exact ⟨r Q c R (by simp),n Q (by simp [c])⟩
  ·exact ⟨(F Q c).symm,n Q (by simp [c])⟩
 have l:∀ Q,Q∈A\/Q∈B->Dj R' Q:=fun Q c=>Dj.step (j Q c).1.symm (fun y i=>((j Q c).2 y i).2) p;refine ⟨H,List.pairwise_append.2 ⟨p1,List.pairwise_cons.2 ⟨fun Q c=>l Q (.inr c),G⟩,fun a x b hb=>?_⟩,fun Q c y i=>?_⟩
 ·rcases List.mem_cons.1 hb with rfl | hb
  ·exact (l a (.inl x)).symm
  ·exact r a x b (by simp [hb])
 ·have k:Q=R'\/(Q∈A\/Q∈B):=by
   simp only [List.mem_append,List.mem_cons] at c;rcases c with h | h | h
   ·exact .inr (.inl h)
   ·exact .inl h
   ·exact .inr (.inr h)
  rcases k with rfl | k
  ·refine ⟨?_,ht y i⟩;rcases p y i with h | h
   ·exact (w y h).1
   ·exact e.none h
  ·obtain ⟨d,t⟩:=j Q k;refine ⟨(t y i).1,?_⟩;cases z:s.h y with
   | none=>exact absurd z (t y i).2
   | some o=>rw [m.1 y o (fun hm=>d y i hm) z];simp
theorem Ap.new (h:Ap s0 s Rs) (e:Ext s s') (d:∀ y∈R,s.h y=none) (ht:∀ y∈R,s'.h y≠none):Ap s0 s' (R::Rs):=by
 have i:=h.ext e;refine ⟨i.1,List.pairwise_cons.2 ⟨fun Q b y c j=>(h.2.2 Q b y j).2 (d y c),h.2.1⟩,fun Q b y c=>?_⟩;rcases List.mem_cons.1 b with rfl | b
 ·exact ⟨h.1.none (d y c),ht y c⟩
 ·exact i.2.2 Q b y c
theorem Ap.obj (h:Ap s0 s Rs) {l:Nat} {cs:List AV} (F:qd s s' l (.cells cs 0 false)):Ap s0 s' ([l]::Rs) :=
 h.new F.ext (fun y b=>by obtain rfl:=List.mem_singleton.1 b;exact F.no) fun y b=>by
  obtain rfl:=List.mem_singleton.1 b;rw [F.own];simp
theorem Ap.perm {X_:List (List Nat)} (h:Ap s0 s Rs) (p:Rs.Perm X_):Ap s0 s X_ :=
 ⟨h.1,(p.pairwise_iff fun {a b} d=>Dj.symm d).1 h.2.1,fun R c=>h.2.2 R (p.mem_iff.2 c)⟩
theorem Ap.ij (h:Ap s0 s Rs) (i j:Nat) {P Q:List Nat} (hi:Rs[i]? = some P) (hj:Rs[j]? = some Q) (d:i≠j):Dj P Q:=by
 have k:=h.2.1;obtain ⟨b,rfl⟩:=List.getElem?_eq_some_iff.1 hi;obtain ⟨c,rfl⟩:=List.getElem?_eq_some_iff.1 hj;rcases Nat.lt_or_gt_of_ne d with e | e
 ·exact List.pairwise_iff_getElem.1 k i j b c e
 ·exact (List.pairwise_iff_getElem.1 k j i c b e).symm
theorem Ap.th (h:Ap s0 s Rs) (i:Nat) {P:List Nat} (hi:Rs[i]? = some P):∀ y∈P,s.h y≠none:=fun y b=>(h.2.2 P (List.mem_of_getElem? hi) y b).2
theorem Ap.tail (h:Ap s0 s (R::Rs)):Ap s0 s Rs:=⟨h.1,(List.pairwise_cons.1 h.2.1).2,fun Q b=>h.2.2 Q (by simp [b])⟩
end
abbrev Wz:AV:=.slc none 0 0 true
structure Wq (hd:AV) (s:AS) (l pc ps pv pw:Nat) (Fc Fs Fv Fw:List Nat) (c:gY) (x:aF) (v:List Int) (n:Nat) (y:aF):Prop where
 own:Am.Own s l [.ptr (some (pc,0)),.ptr (some (ps,0)),.ptr (some (pv,0)),.ptr (some (pw,0))]
 ca:k7 Fc s pc c
 se:gM Fs s ps x
 rc:IQ hd Fv s pv v n
 re:nA Fw s pw y
section
variable {hd:AV} {s0 s s':AS} {l pc ps pv pw n n':Nat} {Fc Fs Fv Fw F':List Nat} {c c':gY} {x x' y y':aF} {v v':List Int} {Gs:List (List Nat)}
theorem Wq.mut {L:List Nat} (h:Wq hd s l pc ps pv pw Fc Fs Fv Fw c x v n y) (m:bz L s s') (d0:Dj L [l]) (d1:Dj L Fc) (d2:Dj L Fs) (d3:Dj L Fv) (d4:Dj L Fw):Wq hd s' l pc ps pv pw Fc Fs Fv Fw c x v n y :=
 ⟨h.own.mut m fun hm=>d0 l hm (by simp),h.ca.mut m d1,h.se.mut m d2,h.rc.mut m d3,h.re.mut m d4⟩
theorem Wq.ext (h:Wq hd s l pc ps pv pw Fc Fs Fv Fw c x v n y) (e:Ext s s'):Wq hd s' l pc ps pv pw Fc Fs Fv Fw c x v n y :=
 h.mut (L:=[]) e.mut (fun _ h=>by cases h) (fun _ h=>by cases h) (fun _ h=>by cases h) (fun _ h=>by cases h) (fun _ h=>by cases h)
theorem Wq.XS (h:Wq hd s l pc ps pv pw Fc Fs Fv Fw c x v n y) (A:Ap s0 s ([l]::Fc::Fs::Fv::Fw::Gs)) (m:bz Fc s s') (b:k7 F' s' pc c') (d:∀ y∈F',y∈Fc\/s.h y=none) (ht:∀ y∈F',s'.h y≠none) :
  Wq hd s' l pc ps pv pw F' Fs Fv Fw c' x v n y/\Ap s0 s' ([l]::F'::Fs::Fv::Fw::Gs) :=
 ⟨⟨h.own.mut m fun hm=>A.ij 1 0 rfl rfl (by decide) l hm (by simp),b,h.se.mut m (A.ij 1 2 rfl rfl (by decide)),h.rc.mut m (A.ij 1 3 rfl rfl (by decide)),h.re.mut m (A.ij 1 4 rfl rfl (by decide))⟩,Ap.nH (A:=[[l]]) A m d ht⟩
theorem Wq.WA (h:Wq hd s l pc ps pv pw Fc Fs Fv Fw c x v n y) (A:Ap s0 s ([l]::Fc::Fs::Fv::Fw::Gs)) (m:bz Fs s s') (b:gM F' s' ps x') (d:∀ y∈F',y∈Fs\/s.h y=none) (ht:∀ y∈F',s'.h y≠none) :
  Wq hd s' l pc ps pv pw Fc F' Fv Fw c x' v n y/\Ap s0 s' ([l]::Fc::F'::Fv::Fw::Gs) :=
 ⟨⟨h.own.mut m fun hm=>A.ij 2 0 rfl rfl (by decide) l hm (by simp),h.ca.mut m (A.ij 2 1 rfl rfl (by decide)),b,h.rc.mut m (A.ij 2 3 rfl rfl (by decide)),h.re.mut m (A.ij 2 4 rfl rfl (by decide))⟩,Ap.nH (A:=[[l],Fc]) A m d ht⟩
theorem Wq.XT (h:Wq hd s l pc ps pv pw Fc Fs Fv Fw c x v n y) (A:Ap s0 s ([l]::Fc::Fs::Fv::Fw::Gs)) (m:bz Fv s s') {b:AV} (d:IQ b F' s' pv v' n') (e:∀ y∈F',y∈Fv\/s.h y=none) (ht:∀ y∈F',s'.h y≠none) :
  Wq b s' l pc ps pv pw Fc Fs F' Fw c x v' n' y/\Ap s0 s' ([l]::Fc::Fs::F'::Fw::Gs) :=
 ⟨⟨h.own.mut m fun hm=>A.ij 3 0 rfl rfl (by decide) l hm (by simp),h.ca.mut m (A.ij 3 1 rfl rfl (by decide)),h.se.mut m (A.ij 3 2 rfl rfl (by decide)),d,h.re.mut m (A.ij 3 4 rfl rfl (by decide))⟩,Ap.nH (A:=[[l],Fc,Fs]) A m e ht⟩
theorem Wq.Xj (h:Wq hd s l pc ps pv pw Fc Fs Fv Fw c x v n y) (A:Ap s0 s ([l]::Fc::Fs::Fv::Fw::Gs)) (m:bz Fw s s') (b:nA F' s' pw y') (d:∀ y∈F',y∈Fw\/s.h y=none) (ht:∀ y∈F',s'.h y≠none) :
  Wq hd s' l pc ps pv pw Fc Fs Fv F' c x v n y'/\Ap s0 s' ([l]::Fc::Fs::Fv::F'::Gs) :=
 ⟨⟨h.own.mut m fun hm=>A.ij 4 0 rfl rfl (by decide) l hm (by simp),h.ca.mut m (A.ij 4 1 rfl rfl (by decide)),h.se.mut m (A.ij 4 2 rfl rfl (by decide)),h.rc.mut m (A.ij 4 3 rfl rfl (by decide)),b⟩,Ap.nH (A:=[[l],Fc,Fs,Fv]) A m d ht⟩
theorem TJ:aS T nJ [(0,.int .i64 3),(1,.int .i64 1)]=some (.agg (gx fo (.slc none 0 0 true) (.slc none 0 0 true) (.slc none 0 0 true))):=by kernel_rfl
theorem TL:aS T q8 []=some (.agg (fo.map (.int .u64)++[.slc none 0 0 true,.slc none 0 0 true])):=by kernel_rfl
theorem TM (a b c d:Nat):aS T pz [(0,.ptr (some (a,0))),(1,.ptr (some (b,0))),(2,.ptr (some (c,0))),(3,.ptr (some (d,0)))]=some (.agg [.ptr (some (a,0)),.ptr (some (b,0)),.ptr (some (c,0)),.ptr (some (d,0))]):=by kernel_rfl
theorem TN (A:Ap s0 s Gs):aa Tryz.prog kN [] s fun r s'=>∃ l pc ps pv pw Fc Fs Fv Fw,r=.aN [.ptr (some (l,0)),.bool true]/\Wq Wz s' l pc ps pv pw Fc Fs Fv Fw gY.zero aF.zero fo 0 aF.zero/\Ap s0 s' ([l]::Fc::Fs::Fv::Fw::Gs)/\Ext s s':=by
 refine HC _ _ ?_;refine aa.use (U4 s) ?_;rintro D s2 ⟨pc,Fc,rfl,m,n,tc,e2⟩ w2;refine ⟨_,_,rfl,?_⟩;refine aa.use (Wd s2) ?_;rintro F s6 ⟨ps,Fs,rfl,hs,o,ts,j⟩ p;refine ⟨_,rfl,_,TJ,rfl,aj.intro p rfl fun pv w b=>⟨_,TL,rfl,aj.intro b.wf rfl fun pw bW c=>⟨_,TM _ _ _ _,rfl,aj.intro c.wf rfl fun l x d=>?_⟩⟩⟩;have z:=A.new e2 n tc;have B:=z.new j o ts;have k:=((B.obj b).obj c).obj d;have i:=c.ext.trans d.ext;have e:=b.ext.trans i;refine ⟨l,pc,ps,pv,pw,Fc,Fs,[pv],[pw],rfl,⟨d.own,m.ext (j.trans e),hs.ext e,⟨rfl,_,_,[],[],b.own.ext i,by simp,⟨bq.nil,by simp [ax],rfl⟩,⟨bq.nil,by simp [ax],rfl⟩⟩,⟨L_.zero,(fun y C=>by cases C),_,_,[],c.own.ext d.ext,⟨rfl,(by simp),bq.nil⟩,⟨rfl,(by simp),bq.nil⟩,?_,by simp,by simp [ax],by simp [ax]⟩⟩,k.perm ?_,e2.trans (j.trans e)⟩
 ·exact Items.zero
 ·refine List.Perm.cons _ ?_;refine (List.Perm.swap _ _ _).trans ?_;have p1:([pv]::[pw]::Fs::Fc::Gs).Perm ([pv]::[pw]::Fc::Fs::Gs):=.cons _ (.cons _ (.swap _ _ _));refine p1.trans ?_;exact (List.perm_append_comm_assoc [[pv],[pw]] [Fc,Fs] Gs)
end
end Go.Proofs.YtohgmogbabkkeaaGreat
end

section
namespace Go.Proofs.YtohgmogbabkkeaaGreat
open Go.Am Go.av Go.aB Go.bE
section
variable {hd:AV} {s0 s s':AS} {l pc ps pv pw n B:Nat} {Fc Fs Fv Fw F':List Nat} {c:gY} {x:aF} {v:List Int} {Gs:List (List Nat)}
def TO (x x':aF) (t d:List UInt8):Prop:=((aK t&&aK d)=false/\x'=x)\/((aK t&&aK d)=true/\∃ (m:Int) (l:List aJ),0<=m/\x.has ⟨1,m+1⟩=false/\(m=0\/x.has ⟨1,m⟩=true)/\ni x ⟨t,d⟩ l/\x'=(x.dX (⟨⟨1,m+1⟩,⟨t,d⟩,false⟩::l.map dY)).2)
set_option maxRecDepth 20000 in
theorem KY (h:Wq hd s l pc ps pv pw Fc Fs Fv Fw c x v n x) (A:Ap s0 s ([l]::Fc::Fs::Fv::Fw::Gs)) (o:nr x B) (hB:B<=450) (hN:∀ d,x.has d=true->d.c<=1073741824) (t dv:List UInt8) :
  aa Tryz.prog c_ [.ptr (some (l,0)),.str t,.str dv] s fun r s'=>r=.bool true/\∃ K M x',Wq hd s' l pc ps pv pw Fc K Fv M c x' v n x'/\Ap s0 s' ([l]::Fc::K::Fv::M::Gs)/\TO x x' t dv/\bz (Fs++Fw) s s':=by
 obtain ⟨b1,b2⟩:=h.se.Xe o;refine aa.pre fun hw=>tY _ _ _ _ _ ⟨some (pw,0),by rw [h.own.at.au];rfl,?_⟩;refine aa.use (U6 h.re (by omega)) ?_;rintro v6 s7 ⟨rfl,m,rfl,Z,O,D⟩ w7;have hm:m<=1073741824:=by
  rcases D with rfl | D
  ·omega
  ·exact hN _ D
 have ab:IntKind.wrap .u64 (m+1)=m+1:=gJ (by omega);refine ⟨_,rfl,?_⟩;rw [ab];refine ⟨_,zD _ _,aj.intro w7 rfl fun oQ a3 p=>⟨⟨rfl,rfl⟩,bu.own p.wf p.own (by simp [aI]) fun dH Q=>?_⟩⟩
 let d:aJ:=⟨1,m+1⟩
 have hd:d.may=true:=aJ.gQ.2 (by simp only [d];omega);have H:Am.Own dH oQ (aI d):=Q.at;have F:Ext s7 dH:=Ext.wr p.ext p.no Q.mut;have z:=h.ext F;have I:=A.ext F;have G:oQ ∉ Fs:=fun i=>A.th 2 rfl _ i p.no;have nl:l ∉ Fs:=fun i=>A.ij 2 0 rfl rfl (by decide) l i (by simp)
 let k:Key:=⟨t,dv⟩
 have hk:k.may=(aK t&&aK dv):=rfl;refine ⟨fun a b=>bz Fs a b,fun _ _ _ s'=>((aK t&&aK dv)=false/\gM Fs s' ps x/\∀ y∈Fs,s'.h y≠none)\/((aK t&&aK dv)=true/\∃ F' L,ni x k L/\gM F' s' ps (x.dX (⟨d,k,false⟩::L.map dY)).2/\(∀ y∈F',y∈Fs\/dH.h y=none)/\∀ y∈F',s'.h y≠none),fun s'=>gM Fs s' ps x/\∀ y∈Fs,s'.h y≠none,fun _ _ _ _=>True,fun _ _ v=>∃ w,v=.aN [w,.int .i64 (if (aK t&&aK dv)=true then 0 else 2)],
  fun a b e=>e.mut,fun a b c x y=>x.trans y,?_,fun _ _ _ _ _ _ _=>trivial,fun a b e g=>⟨g.1.ext e,fun y i=>Ext.there e (g.2 y i)⟩,⟨z.se,I.th 2 rfl⟩,fun s' _ _=>rfl,some (ps,0),by rw [z.own.at.au];rfl,fun s' x _=>⟨some (ps,0),by rw [(z.own.mut x nl).at.au];rfl,rfl⟩,_,qN _ _,_,H.at.aC (by simp [aI]),fun s' x _=>⟨_,(H.mut x G).at.aC (by simp [aI]),rfl⟩,fun dZ ad a4 _ X=>?_,⟨_,.slc none 0 0 true,rfl⟩,?_⟩
 ·rintro q ks v a b e (⟨g1,g2,g3⟩ | ⟨g1,F',L,g2,g3,g4,g5⟩)
  ·exact .inl ⟨g1,g2.ext e,fun y i=>Ext.there e (g3 y i)⟩
  ·exact .inr ⟨g1,F',L,g2,g3.ext e,g4,fun y i=>Ext.there e (g5 y i)⟩
 ·refine (Wg X.1 k d o.Xf (by omega) (by omega) (by omega)).mono ?_;rintro r s' (⟨ae,rfl,e⟩ | ⟨⟨y1,y2,y3⟩,v,L,kd,rfl,hs,F',R,al,J,m⟩)
  ·have j:(aK t&&aK dv)=false:=by
    cases hq:(aK t&&aK dv) with
    | false=>rfl
    | true=>exact absurd ⟨by rw [hk,hq],hd,O⟩ ae
   exact ⟨_,_,rfl,⟨e.mut,.inl ⟨j,X.1.ext e,fun y i=>Ext.there e (X.2 y i)⟩⟩,trivial,_,by rw [j];rfl⟩
  ·have j:(aK t&&aK dv)=true:=y1;have S:=X.1.pF;refine ⟨_,_,rfl,⟨m.mono fun y i=>?_,.inr ⟨j,F',L,kd,R,fun y i=>?_,J⟩⟩,trivial,_,by rw [j];rfl⟩
   ·obtain rfl:=List.mem_singleton.1 i;exact S
   ·rcases al y i with rfl | h
    ·exact .inl S
    ·exact vq ad h
 rintro v30 ⟨a5,rfl⟩;refine ⟨_,_,rfl,fun am C a6 _ hC=>?_⟩;refine ⟨fun vs s'=>vs=[.bool (!(aK t&&aK dv))]/\s'=am,?_,?_⟩
 ·rintro b oR ⟨hb,rfl⟩;simp only [List.cons.injEq,AV.bool.injEq,and_true] at hb;subst hb;rcases hC with ⟨j,R,an⟩ | ⟨j,F',L,kd,R,ao,J⟩
  ·rw [j];refine af.yes rfl ⟨rfl,?_⟩;obtain ⟨W,Y⟩:=z.WA I C R (fun y i=>.inl i) an;exact ⟨Fs,Fw,x,W,Y,.inl ⟨j,rfl⟩,(F.mut.trans C).mono fun y i=>by simp [i]⟩
  ·rw [j];obtain ⟨W,Y⟩:=z.WA I C R ao J;have ar:Am.Own oR oQ (aI d):=H.mut C G;refine af.no rfl ⟨some (pw,0),by rw [W.own.at.au];rfl,_,qN _ _,_,ar.at.aC (by simp [aI]),?_⟩;refine aa.use (OP W.re o (Y.th 4 rfl) hB k d j hd) ?_;rintro a7 a8 ⟨L',aw,_,U,F2,hR,a0,a1⟩ a9;obtain rfl:=aw.uniq kd.kd;obtain ⟨W',a2⟩:=W.Xj Y (U.mono fun y i=>by obtain rfl:=List.mem_singleton.1 i;exact W.re.qF) hR a0 a1;exact ⟨rfl,F',F2,_,W',a2,.inr ⟨j,m,_,Z,O,D,kd,rfl⟩,((F.mut.trans C).mono fun y i=>by simp [i]).trans (U.mono fun y i=>by obtain rfl:=List.mem_singleton.1 i;simp [W.re.qF])⟩
 ·refine aa.use (GG _ _) ?_;rintro v s' ⟨rfl,rfl⟩ w;refine ⟨_,rfl,af.mk (fun h=>?_) (fun h=>?_)⟩
  ·simp only [Bool.not_eq_true'] at h;simp [h]
  ·have h1:aK t=true:=by simpa using h
   refine aa.use (GG _ _) ?_;rintro v s' ⟨rfl,rfl⟩ w;exact ⟨_,rfl,by simp [h1],rfl⟩
end
end Go.Proofs.YtohgmogbabkkeaaGreat
end

section
namespace Go.Proofs.YtohgmogbabkkeaaGreat
open Go.Am Go.av Go.aB Go.bE
def B0:List Int:=[98,101,116,119,101,101,110,32,117,115]
theorem Va:dw T aq 10 [(0,.int .u8 98),(1,.int .u8 101),(2,.int .u8 116),(3,.int .u8 119),(4,.int .u8 101),(5,.int .u8 101),(6,.int .u8 110),(7,.int .u8 32),(8,.int .u8 117),(9,.int .u8 115)]=some (B0.map (.int .u8)):=by kernel_rfl
set_option maxRecDepth 20000 in
theorem IW (s:AS):aa Tryz.prog cI [] s fun r s'=>fE s' r B0/\Ext s s':=by
 refine aa.pre fun d=>Gj _ _ ⟨_,Va,aj.intro d rfl fun l s3 b=>⟨.slc (some (l,0)) 10 10 true,s3,?_,?_,b.ext⟩⟩
 ·have e:s3.h l=some (.cells (B0.map (.int .u8)) 1 false):=b.at;simp only [cW,aO,if_true,AH,e]
 ·exact ct.mk (n:=10) (c:=10) ⟨_,_,b.at⟩ (by decide) (by rfl)
section
variable {hd:AV} {s0 s s':AS} {l pc ps pv pw n B:Nat} {Fc Fs Fv Fw F':List Nat} {c:gY} {x:aF} {v:List Int} {Gs:List (List Nat)}
theorem IQ.KW {hd:AV} {F:List Nat} {s:AS} {p n:Nat} {v:List Int} (h:IQ hd F s p v n):∃ F0,IQ hd F0 s p v n/\(∀ y∈F0,y∈F)/\(∀ y∈F0,s.h y≠none)/\∀ y∈F0,y≠p->¬ Tag s y 0:=by
 obtain ⟨i,lg,bh,L,B,e,h2,⟨a1,a2,a3⟩,⟨c,j,k⟩⟩:=h;refine ⟨p::(ax lg++ax bh),⟨i,lg,bh,L,B,e,by simp,⟨a1,fun y b=>by simp [b],a3⟩,⟨c,fun y b=>by simp [b],k⟩⟩,?_,?_,?_⟩
 ·intro y b;simp only [List.mem_cons,List.mem_append] at b;rcases b with rfl | b | b
  ·exact h2
  ·exact a2 y b
  ·exact j y b
 ·intro y b;simp only [List.mem_cons,List.mem_append] at b;rcases b with rfl | b | b
  ·rw [e];simp
  ·exact bq.jT a1 y b
  ·exact bq.jT c y b
 ·intro y b d ht;simp only [List.mem_cons,List.mem_append] at b;rcases b with rfl | b | b
  ·exact d rfl
  ·have:=ht.uniq (bq.tag a1 y b);omega
  ·have:=ht.uniq (bq.tag c y b);omega
theorem k7.TP {F:List Nat} {s:AS} {p:Nat} {c:gY} (h:k7 F s p c):∃ cs,Am.Own s p cs:=by
 obtain ⟨_,_,_,_,_,_,_,_,h,_⟩:=h;exact ⟨_,h⟩
theorem IQ.TP {hd:AV} {F:List Nat} {s:AS} {p n:Nat} {v:List Int} (h:IQ hd F s p v n):∃ cs,Am.Own s p cs:=by
 obtain ⟨_,_,_,_,_,h,_⟩:=h;exact ⟨_,h⟩
def XK (F:List Nat) (p:Nat) (a b:AS):Prop:=bz F a b/\xM p a b/\((∃ cs,Am.Own a p cs)->∃ cs,Am.Own b p cs)
theorem XK.ext {F:List Nat} {p:Nat} {a b:AS} (e:Ext a b):XK F p a b:=⟨e.mut,Ext.fq e,fun ⟨cs,h⟩=>⟨cs,h.ext e⟩⟩
theorem XK.trans {F:List Nat} {p:Nat} {a b c:AS} (h:XK F p a b) (d:XK F p b c):XK F p a c:=⟨h.1.trans d.1,h.2.1.trans d.2.1,fun x=>d.2.2 (h.2.2 x)⟩
set_option maxRecDepth 20000 in
theorem Nn (h:Wq hd s l pc ps pv pw Fc Fs Fv Fw c x v n x) (A:Ap s0 s ([l]::Fc::Fs::Fv::Fw::Gs)) (o:nr x B) (hB:B<=450) (t:List UInt8) (S:0<=c.v.getD 0 0/\c.v.getD 0 0<4611686018427387904) (hn:c.log.length+1<=2 ^ 29) (bi:c.KS.length+1<=2 ^ 29) (bj:n+1<=2 ^ 29) :
  aa Tryz.prog cF [.ptr (some (l,0)),.str t] s fun r s'=>∃ (L L2:List B4) (j an:List Nat),qg x t L/\qg x t L2/\r=.bool (iK (gN v t [] L2)==iK (gN c.v t [] L)) /\
   Wq hd s' l pc ps pv pw j Fs an Fw (if iK (gN c.v t [] L)=true then c.apply (gN c.v t [] L) else c) x (if iK (gN v t [] L2)=true then v.set 0 (IntKind.wrap .u64 (v.getD 0 0+1)) else v) (if iK (gN v t [] L2)=true then n+1 else n) x/\Ap s0 s' ([l]::j::Fs::an::Fw::Gs)/\bz (Fc++Fv) s s':=by
 have nl:l ∉ Fc:=fun i=>A.ij 1 0 rfl rfl (by decide) l i (by simp);have bk:=A.th 1 rfl;have ci:=A.th 3 rfl;refine vP _ _ _ _ ⟨fun a b=>XK Fc pc a b,fun _ _ v s'=>∃ (L:List B4) (g:List AV) (F':List Nat),qg x t L/\v=.aN [.agg g,.int .i64 (if iK (gN c.v t [] L)=true then 0 else 2)]/\k7 F' s' pc (if iK (gN c.v t [] L)=true then c.apply (gN c.v t [] L) else c)/\(∀ y∈F',y∈Fc\/s.h y=none)/\∀ y∈F',s'.h y≠none,fun s'=>k7 Fc s' pc c/\∀ y∈Fc,s'.h y≠none,
  fun q _ v s'=>(q=10->∃ L,qg x t L/\bq rM 3 s' v L)/\(q=15->∃ l,v=.ptr (some (l,0))/\Am.Own s' l K3/\l≠pc/\(l∈Fc\/s.h l=none)),
  fun q _ v=>(q=11->∃ g z,v=.aN [.agg g,.int .i64 z]/\g.all AV.one=true/\g.length=21)/\(q=15->∃ l,v=.ptr (some (l,0))),
  fun a b e=>XK.ext e,fun a b c x y=>x.trans y,?_,?_,fun a b e g=>⟨g.1.ext e,fun y i=>Ext.there e (g.2 y i)⟩,⟨h.ca,bk⟩,fun s' _ _=>rfl,some (pc,0),by rw [h.own.at.au];rfl,fun s' x _=>⟨some (pc,0),by rw [(h.own.mut x.1 nl).at.au];rfl,rfl⟩,fun s' _ _=>rfl,some (ps,0),by rw [h.own.at.au];rfl,fun s' x _=>⟨some (ps,0),by rw [(h.own.mut x.1 nl).at.au];rfl,rfl⟩,fun kT bl ck _=>?_,⟨.bad,(fun h=>by cases h),(fun h=>by cases h)⟩,fun v20 _=>⟨fun gG bm cl U J=>?_,⟨_,(fun _=>⟨K3,0,rfl,rfl,rfl⟩),(fun h=>by cases h)⟩,fun cm ao=>?_⟩⟩
 ·rintro q ks v a b e ⟨L,g,F',p,g0,g3,g4,g5⟩;exact ⟨L,g,F',p,g0,g3.ext e,g4,fun y i=>Ext.there e (g5 y i)⟩
 ·rintro q ks v a b x1 ⟨C,p⟩;refine ⟨fun X=>?_,fun X=>?_⟩
  ·obtain ⟨L,d,g⟩:=C X;exact ⟨L,d,bq.P4 g x1.2.1 (by decide) (by decide) (by decide)⟩
  ·obtain ⟨l',rfl,g,D,nw⟩:=p X;exact ⟨l',rfl,x1.2.1 _ _ _ g (by decide) (by decide) (fun _=>D),D,nw⟩
 ·refine (S8 (h.se.mut bl.1 (A.ij 1 2 rfl rfl (by decide))) o (by omega) t).mono ?_;rintro v s' ⟨L,d,g,_⟩;exact ⟨g.eC.ext,⟨(fun _=>⟨L,d,g.tI⟩),(fun h=>by cases h)⟩,(fun h=>by cases h),(fun h=>by cases h)⟩
 ·obtain ⟨L,d,g⟩:=U.1.1 rfl;refine (O4 (cQ:=t) (vn:=[]) J.1 J.2 bq.nil g S hn bi).mono ?_;have bo:O3 c t [] L=gN c.v t [] L:=rfl;rw [bo];rintro r s' (⟨F,⟨G,rfl,C,p⟩,e⟩ | ⟨k,⟨G,rfl,C,p⟩,F',K,m,hF,ht,hK⟩)
  ·exact ⟨_,_,rfl,⟨XK.ext e,L,G,Fc,d,by rw [F];rfl,by rw [F];exact J.1.ext e,fun y i=>.inl i,fun y i=>Ext.there e (J.2 y i)⟩,⟨(fun h=>by cases h),(fun h=>by cases h)⟩,(fun _=>⟨G,_,rfl,C,p⟩),(fun h=>by cases h)⟩
  ·exact ⟨_,_,rfl,⟨⟨m,hK,fun _=>K.TP⟩,L,G,F',d,by rw [k];rfl,by rw [k];exact K,fun y i=>(hF y i).elim .inl fun h=>vq bm.1 h,ht⟩,⟨(fun h=>by cases h),(fun h=>by cases h)⟩,(fun _=>⟨G,_,rfl,C,p⟩),(fun h=>by cases h)⟩
 obtain ⟨bs,cn,rfl,bx,ar⟩:=ao.1 rfl;refine ⟨_,_,rfl,fun cp aw b0 _=>aj.intro b0 rfl fun a0 nK M=>⟨M.ext,⟨(fun h=>by cases h),(fun _=>⟨a0,rfl,M.own,?_,vq aw.1 M.no⟩)⟩,(fun h=>by cases h),(fun _=>⟨a0,rfl⟩)⟩,⟨.ptr (some (0,0)),(fun h=>by cases h),(fun _=>⟨0,rfl⟩)⟩,fun cr a1=>?_⟩
 ·rintro rfl;obtain ⟨cs,Y⟩:=aw.2.2 h.ca.TP;have:=M.no;rw [Y] at this;cases this
 obtain ⟨b1,rfl⟩:=a1.2 rfl;refine ⟨_,rfl,fun kH b2 b3 U K=>?_⟩;obtain ⟨l',H,a2,Z,ab⟩:=U.2.2.1.2 rfl;simp only [AV.ptr.injEq,Option.some.injEq,Prod.mk.injEq,and_true] at H;subst H;refine ⟨⟨bx,congrArg some ar.symm⟩,bu.own b3 a2 (vs:=bs) (by rw [ar];exact Nat.le_refl _) fun oB ad=>?_⟩;have a3:bz Fc s oB:=b2.1.new ad.mut fun y i=>by obtain rfl:=List.mem_singleton.1 i;exact ab
 obtain ⟨L,g0,F1,hL,hz,a4,b4,_⟩:=K;simp only [AV.aN.injEq,List.cons.injEq,AV.agg.injEq,AV.int.injEq,true_and,and_true] at hz;obtain ⟨rfl,rfl⟩:=hz;generalize b5:(if iK (gN c.v t [] L)=true then c.apply (gN c.v t [] L) else c)=c' at a4 ⊢;obtain ⟨j,a5,a6,a7⟩:∃ j,k7 j oB pc c'/\(∀ y∈j,y∈Fc\/s.h y=none)/\∀ y∈j,oB.h y≠none:=by
  obtain ⟨F0,k1,k2,k3,k4⟩:=a4.KW;have I:b1 ∉ F0:=fun i=>k4 _ i Z (Own.tag a2);exact ⟨F0,k1.mut ad.mut (fun y i=>by obtain rfl:=List.mem_singleton.1 i;exact I),fun y i=>b4 y (k2 y i),IA k3 ad.mut fun y i=>by obtain rfl:=List.mem_singleton.1 i;exact I⟩
 obtain ⟨W,A'⟩:=h.XS A a3 a5 a6 a7;have a8:l ∉ Fv:=fun i=>A'.ij 3 0 rfl rfl (by decide) l i (by simp);have a9:=A'.th 3 rfl;refine ⟨fun a b=>XK Fv pv a b,fun _ _ w s'=>∃ (L:List B4) (g:List AV) (F':List Nat),qg x t L/\w=.aN [.agg g,.bool (iK (gN v t [] L))]/\IQ hd F' s' pv (if iK (gN v t [] L)=true then v.set 0 (IntKind.wrap .u64 (v.getD 0 0+1)) else v) (if iK (gN v t [] L)=true then n+1 else n)/\(∀ y∈F',y∈Fv\/oB.h y=none)/\∀ y∈F',s'.h y≠none,fun s'=>IQ hd Fv s' pv v n/\∀ y∈Fv,s'.h y≠none,
  fun q _ v s'=>(q=10->∃ L,qg x t L/\bq rM 3 s' v L/\L.length<=B)/\(q=15->∃ l,v=.ptr (some (l,0))/\Am.Own s' l K3/\l≠pv/\(l∈Fv\/oB.h l=none)),
  fun q _ v=>(q=11->∃ g z,v=.aN [.agg g,.bool z]/\g.all AV.one=true/\g.length=21)/\(q=15->∃ l,v=.ptr (some (l,0))),
  fun a b e=>XK.ext e,fun a b c x y=>x.trans y,?_,?_,fun a b e g=>⟨g.1.ext e,fun y i=>Ext.there e (g.2 y i)⟩,⟨W.rc,a9⟩,fun s' _ _=>rfl,some (pv,0),by rw [W.own.at.au];rfl,fun s' x _=>⟨some (pv,0),by rw [(W.own.mut x.1 a8).at.au];rfl,rfl⟩,fun s' _ _=>rfl,some (pw,0),by rw [W.own.at.au];rfl,fun s' x _=>⟨some (pw,0),by rw [(W.own.mut x.1 a8).at.au];rfl,rfl⟩,fun cu b6 cv _=>?_,⟨.bad,(fun h=>by cases h),(fun h=>by cases h)⟩,fun cw _=>⟨fun cx b7 cy U J=>?_,⟨_,(fun _=>⟨K3,true,rfl,rfl,rfl⟩),(fun h=>by cases h)⟩,fun cz a'=>?_⟩⟩
 ·rintro q ks v a b e ⟨L,g,F',p,g0,g3,g4,g5⟩;exact ⟨L,g,F',p,g0,g3.ext e,g4,fun y i=>Ext.there e (g5 y i)⟩
 ·rintro q ks v a b x1 ⟨C,p⟩;refine ⟨fun X=>?_,fun X=>?_⟩
  ·obtain ⟨L,d,g,O⟩:=C X;exact ⟨L,d,bq.P4 g x1.2.1 (by decide) (by decide) (by decide),O⟩
  ·obtain ⟨l',rfl,g,D,nw⟩:=p X;exact ⟨l',rfl,x1.2.1 _ _ _ g (by decide) (by decide) (fun _=>D),D,nw⟩
 ·refine (KK (W.re.mut b6.1 (A'.ij 3 4 rfl rfl (by decide))) o (by omega) t).mono ?_;rintro v s' ⟨L,d,g,O⟩;exact ⟨g.eC.ext,⟨(fun _=>⟨L,d,g.tI,O⟩),(fun h=>by cases h)⟩,(fun h=>by cases h),(fun h=>by cases h)⟩
 ·obtain ⟨L,d,g,O⟩:=U.1.1 rfl;refine (Ni (cQ:=t) (vn:=[]) J.1 J.2 (bq.nil.sl bM) (g.sl dV) (by simp) (by omega) bj).mono ?_;rintro r s' (⟨F,⟨G,rfl,C,p⟩,e⟩ | ⟨k,⟨G,rfl,C,p⟩,F',K,m,hF,ht,hK⟩)
  ·exact ⟨_,_,rfl,⟨XK.ext e,L,G,Fv,d,by rw [F],by rw [F];exact J.1.ext e,fun y i=>.inl i,fun y i=>Ext.there e (J.2 y i)⟩,⟨(fun h=>by cases h),(fun h=>by cases h)⟩,(fun _=>⟨G,_,rfl,C,p⟩),(fun h=>by cases h)⟩
  ·exact ⟨_,_,rfl,⟨⟨m,hK,fun _=>K.TP⟩,L,G,F',d,by rw [k],by rw [k];exact K,fun y i=>(hF y i).elim .inl fun h=>vq b7.1 h,ht⟩,⟨(fun h=>by cases h),(fun h=>by cases h)⟩,(fun _=>⟨G,_,rfl,C,p⟩),(fun h=>by cases h)⟩
 obtain ⟨b8,cA,rfl,ba,R⟩:=a'.1 rfl;refine ⟨_,_,rfl,fun Dt bb b9 _=>aj.intro b9 rfl fun bc PF Q=>⟨Q.ext,⟨(fun h=>by cases h),(fun _=>⟨bc,rfl,Q.own,?_,vq bb.1 Q.no⟩)⟩,(fun h=>by cases h),(fun _=>⟨bc,rfl⟩)⟩,⟨.ptr (some (0,0)),(fun h=>by cases h),(fun _=>⟨0,rfl⟩)⟩,fun cB bd=>?_⟩
 ·rintro rfl;obtain ⟨cs,Y⟩:=bb.2.2 W.rc.TP;have:=Q.no;rw [Y] at this;cases this
 obtain ⟨b',rfl⟩:=bd.2 rfl;refine ⟨_,rfl,fun cC cb cc U K=>?_⟩;obtain ⟨l',H,be,ae,al⟩:=U.2.2.1.2 rfl;simp only [AV.ptr.injEq,Option.some.injEq,Prod.mk.injEq,and_true] at H;subst H;refine ⟨⟨ba,congrArg some R.symm⟩,bu.own cc be (vs:=b8) (by rw [R];exact Nat.le_refl _) fun V_ am=>?_⟩;have bh:bz Fv oB V_:=cb.1.new am.mut fun y i=>by obtain rfl:=List.mem_singleton.1 i;exact al
 obtain ⟨L2,C,F2,cd,hz,ce,cf,_⟩:=K;simp only [AV.aN.injEq,List.cons.injEq,AV.agg.injEq,AV.bool.injEq,true_and,and_true] at hz;obtain ⟨rfl,rfl⟩:=hz;have MM:bz (Fc++Fv) s V_:=(a3.mono fun y i=>by simp [i]).trans (bh.mono fun y i=>by simp [i]);obtain ⟨F0,k1,k2,k3,k4⟩:=ce.KW;have I:b' ∉ F0:=fun i=>k4 _ i ae (Own.tag be);obtain ⟨W',ch⟩:=W.XT A' bh (k1.mut am.mut (fun y i=>by obtain rfl:=List.mem_singleton.1 i;exact I)) (fun y i=>cf y (k2 y i)) (IA k3 am.mut fun y i=>by obtain rfl:=List.mem_singleton.1 i;exact I);refine ⟨L,L2,j,F0,hL,cd,?_,?_,ch,MM⟩
 ·congr 2;cases iK (gN c.v t [] L) <;> rfl
 ·rw [b5];exact W'
theorem O_ (h:Wq hd s l pc ps pv pw Fc Fs Fv Fw c x c.v c.log.length x) (A:Ap s0 s ([l]::Fc::Fs::Fv::Fw::Gs)) (o:nr x B) (z:B<=450) (t:List UInt8) (i:∀ L,qg x t L->iK (gN c.v t [] L)=aK t) (e:0<=c.v.getD 0 0/\c.v.getD 0 0<4611686018427387904) (n:c.log.length+1<=2 ^ 29) (j:c.KS.length+1<=2 ^ 29) :
  aa Tryz.prog cF [.ptr (some (l,0)),.str t] s fun r s'=>r=.bool true/\∃ b d c',Wq hd s' l pc ps pv pw b Fs d Fw c' x c'.v c'.log.length x/\Ap s0 s' ([l]::b::Fs::d::Fw::Gs)/\bz (Fc++Fv) s s' /\
   ((aK t=false/\c'=c)\/(aK t=true/\∃ L,qg x t L/\c'=c.apply (gN c.v t [] L))):=by
 refine (Nn h A o z t e n j n).mono ?_;rintro r s' ⟨L,C,b,d,p,k,rfl,W,w,m⟩;rw [i L p,i C k] at *;cases y:aK t with
 | true =>
  rw [y] at W;exact ⟨rfl,b,d,c.apply (gN c.v t [] L),by simpa [gY.apply,gN] using W,w,m,.inr ⟨rfl,L,p,rfl⟩⟩
 | false =>
  rw [y] at W;exact ⟨rfl,b,d,c,by simpa using W,w,m,.inl ⟨rfl,rfl⟩⟩
end
end Go.Proofs.YtohgmogbabkkeaaGreat
end

section
namespace Go.Proofs.YtohgmogbabkkeaaGreat
open Go.Am Go.av Go.aB Go.bE
def vN (n:Nat):List Int:=(n:Int)::List.replicate 15 0
theorem Pa (n:Nat):(vN n).length=16:=by simp [vN]
theorem WB (n:Nat):(vN n).getD 0 0=n:=rfl
theorem No (n i:Nat) (hi:i<1000000):under (vN n) ⟨1,(i:Int)+1⟩=decide (i<n):=by
 have hm:(⟨1,(i:Int)+1⟩:aJ).may=true:=aJ.gQ.2 (by simp only;omega);rw [under,hm,Bool.true_and,show (vN n).getD ((⟨1,(i:Int)+1⟩:aJ).r.toNat - 1) 0=(n:Int) from rfl,decide_eq_decide];simp only;omega
theorem P8 (a b:Nat):nj (vN a) (vN b)=vN (max a b):=by
 have h:nj (vN a) (vN b)=(if (b:Int)>a then (b:Int) else a)::List.replicate 15 0:=rfl;rw [h,vN];congr 1;split <;> omega
theorem TQ {n:Nat}:∀ x∈vN n,x=(n:Int)\/x=0:=by
 intro x b;rcases List.mem_cons.1 b with h | h
 ·exact .inl h
 ·exact .inr (List.eq_of_mem_replicate h)
theorem EV {n:Nat} (h:n<1000000):uf (vN n)=true:=by
 rw [uf,List.all_eq_true];intro x b;rcases TQ x b with rfl | rfl <;> simp <;> omega
theorem TR {n:Nat} (h:n<1000000):Xu (vN n):=⟨Pa n,fun x b=>by rcases TQ x b with rfl | rfl <;> omega⟩
theorem GZ:∀ (l:List eJ) {x:aF} {B:Nat},nr x B->(∀ i∈l,i.may=true)->∀ d,(x.dX l).2.has d=true↔x.has d=true\/∃ i∈l,i.dot=d
 | [],x,B,_,_,d=>by simp [ML]
 | i::l,x,B,h,hm,d=>by
  have hi:=hm i (by simp);have b:i.dot.may=true:=by simp only [eJ.may,Bool.and_eq_true] at hi;exact hi.1
  rw [qM,GZ l (ve h hi) (fun j hj=>hm j (by simp [hj])),BA h b];simp only [Bool.or_eq_true,decide_eq_true_eq,List.mem_cons,exists_eq_or_imp];constructor
  ·rintro ((h | rfl) | h)
   ·exact .inl h
   ·exact .inr (.inl rfl)
   ·exact .inr (.inr h)
  ·rintro (h | rfl | h)
   ·exact .inl (.inl h)
   ·exact .inl (.inr rfl)
   ·exact .inr h
theorem IX:∀ (l:List aJ) {x:aF} {B:Nat},nr x B->(∀ d∈l,d.may=true)->∀ d,(x.dX (l.map dY)).2.live d=if d∈l then none else x.live d
 | [],x,B,_,_,d=>by simp [ML]
 | a::l,x,B,h,hm,d=>by
  have hi:(dY a).may=true:=tZ (hm a (by simp));rw [List.map_cons,qM,IX l (ve h hi) (fun j hj=>hm j (by simp [hj])),rE h];by_cases b:d=a
  ·subst b;simp [dY]
  ·by_cases h2:d∈l <;> simp [b,h2,dY]
theorem TO.ok {x x':aF} {t d:List UInt8} {N:Nat} (h:TO x x' t d) (o:nr x N) (w:∀ e,x.has e=true->e.c<=N) (C:N<=1000):nr x' (N+1)/\(∀ e,x'.has e=true->e.c<=(N+1:Nat))/\(aK t=true->aK d=true->∃ d0,x'.live d0=some ⟨t,d⟩)/\∀ e,x.has e=true->x'.has e=true:=by
 rcases h with ⟨n,rfl⟩ | ⟨n,m,l,D,p,z,kd,rfl⟩
 ·exact ⟨o.mono (by omega),fun e j=>by have:=w e j;omega,(fun F h2=>by rw [F,h2] at n;cases n),fun e j=>j⟩
 ·have G:m<=N:=by
   rcases z with rfl | h
   ·omega
   ·exact w _ h
  have hd:(⟨1,m+1⟩:aJ).may=true:=aJ.gQ.2 (by simp only;omega);have hi:(⟨⟨1,m+1⟩,⟨t,d⟩,false⟩:eJ).may=true:=by simp [eJ.may,hd,Key.may,n]
  have y:∀ e∈l,x.has e=true:=fun e j=>kd.has o j;have A:∀ i∈l.map dY,i.may=true:=xX fun e j=>aF.qy (y e j);have r:∀ i∈(⟨⟨1,m+1⟩,⟨t,d⟩,false⟩:eJ)::l.map dY,i.may=true:=fun i h=>by
   rcases List.mem_cons.1 h with rfl | h
   ·exact hi
   ·exact A i h
  have k:=GZ _ o r;refine ⟨o.add n hd kd,fun e j=>?_,fun _ _=>⟨⟨1,m+1⟩,?_⟩,fun e j=>(k e).2 (.inl j)⟩
  ·rcases (k e).1 j with h | ⟨i,h,rfl⟩
   ·have:=w e h;omega
   ·rcases List.mem_cons.1 h with rfl | h
    ·simp only;omega
    ·obtain ⟨b,hb,rfl⟩:=List.mem_map.1 h;have:=w b (y b hb);simp only [dY];omega
  ·rw [qM];simp only;rw [IX l (ve o hi) (fun e j=>aF.qy (y e j)),if_neg (fun B=>by have:=y _ B;rw [p] at this;cases this),rE o];simp [p]
theorem qg.cJ {x:aF} {t:List UInt8} {L:List B4} {B:Nat} (h:qg x t L) (o:nr x B):L.length<=B:=by
 obtain ⟨U,c,hm⟩:=o.sz;have:=lW (j9 h.Rz) fun d hd=>hm d ?_
 ·simp only [List.length_map] at this;omega
 ·obtain ⟨e,b,rfl⟩:=List.mem_map.1 hd;exact .inr (.inl (by rw [(h.mem e).1 b];rfl))
theorem TS {x:aF} {t:List UInt8} {L:List B4} {B n:Nat} (o:nr x B) (p:B<=1000) (e:n<1000000) (h:qg x t L):iK (gN (vN n) t [] L)=aK t:=by
 have c:(⟨1,IntKind.wrap .u64 ((n:Int)+1)⟩:aJ)=⟨1,(n:Int)+1⟩:=by rw [gJ (by omega)]
 have hm:(⟨1,(n:Int)+1⟩:aJ).may=true:=aJ.gQ.2 (by simp only;omega);have hlen:=h.cJ o;have i:xL (gN (vN n) t [] L)=true:=by
  rw [xL,decide_eq_true_eq];show (n:Int)=IntKind.wrap .u64 (IntKind.wrap .u64 ((n:Int)+1) - 1);rw [gJ (n:=(n:Int)+1) (by omega),gJ (by omega)];omega
 have d:xK L=true:=by
  rw [xK,List.all_eq_true];intro j hj;have b:j<L.length:=by simpa using hj
  rw [vp,List.getElem?_eq_getElem b];have k:=(h.mem L[j]).1 (List.getElem_mem b);obtain ⟨l,h2⟩:=o.lv _ _ k;simp only [Key.may,Bool.and_eq_true] at h2;simp only [aF.qy l,h2.2,Bool.true_and,Bool.or_eq_true,decide_eq_true_eq];by_cases m:j=0
  ·exact .inl m
  ·right;rw [List.getElem?_eq_getElem (show j - 1<L.length by omega)];have:=List.pairwise_iff_getElem.1 h.Rz (j - 1) j (by simp;omega) (by simpa using b) (by omega);simpa using this
 have hd:((vN n).drop 3).all (fun z=>decide (z=0))=true:=by simp [vN]
 simp only [iK,sV,i,show (gN (vN n) t [] L).to=L from rfl,d,show (gN (vN n) t [] L).ke=vN n from rfl,EV e,hd,show (gN (vN n) t [] L).id=(⟨1,(n:Int)+1⟩:aJ) from c,hm,show (gN (vN n) t [] L).cQ=t from rfl,show (gN (vN n) t [] L).vn=[] from rfl];simp [show L.length<=1024 by omega]
structure WI (c:gY) (x:aF) (n N:Nat):Prop where
 ok:nr x N
 cnt:∀ d,x.has d=true->d.c<=N
 v:c.v=vN n
 ln:c.log.length=n
 bl:c.KS=(List.range n).map fun i=>vN (i+1)
 ev:∀ (i:Nat) (e:Ev),c.log[i]? = some e->e.id=⟨1,(i:Int)+1⟩/\e.vn=[]/\e.to.length<=1000
theorem WI.zero:WI gY.zero aF.zero 0 0:=⟨nr.zero,(fun d h=>by rw [aF.has,show aF.zero.v=fo from rfl,show aF.zero.ex=[] from rfl,SS] at h;cases h),rfl,rfl,rfl,fun i e h=>by simp [gY.zero] at h⟩
section
variable {c:gY} {x x':aF} {n N:Nat} {t d:List UInt8}
theorem WI.sub (h:WI c x n N) (s:TO x x' t d) (b:N<=1000):WI c x' n (N+1) :=
 let k:=s.ok h.ok h.cnt b
 ⟨k.1,k.2.1,h.v,h.ln,h.bl,h.ev⟩
theorem WI.T3 (h:WI c x n N) (l:n<1000000) (m:N<=1000) {L:List B4} (j:qg x t L):WI (c.apply (gN c.v t [] L)) x (n+1) N:=by
 have d:(gN c.v t [] L).id=(⟨1,(n:Int)+1⟩:aJ):=by
  rw [h.v];show (⟨1,IntKind.wrap .u64 ((n:Int)+1)⟩:aJ)=_;rw [gJ (by omega)]
 have hv:c.v.set ((gN c.v t [] L).id.r.toNat - 1) (IntKind.wrap .u64 (c.v.getD ((gN c.v t [] L).id.r.toNat - 1) 0+1))=vN (n+1):=by
  rw [d,h.v];show IntKind.wrap .u64 ((n:Int)+1)::List.replicate 15 0=_;rw [gJ (by omega)];rfl
 refine ⟨h.ok,h.cnt,hv,by simp [gY.apply,h.ln],?_,fun i e b=>?_⟩
 ·simp only [gY.apply,hv,h.bl,List.range_succ,List.map_append,List.map_cons,List.map_nil]
 ·simp only [gY.apply] at b;by_cases hi:i<c.log.length
  ·rw [List.getElem?_append_left hi] at b;exact h.ev i e b
  ·rw [List.getElem?_append_right (by omega)] at b;obtain ⟨k,h2⟩:i=c.log.length/\gN c.v t [] L=e:=by
    rcases Nat.eq_or_lt_of_le (show c.log.length<=i by omega) with h | h
    ·subst h;simp at b;exact ⟨rfl,b⟩
    ·rw [List.getElem?_eq_none (by simp;omega)] at b;cases b
   subst k h2;refine ⟨by rw [d,h.ln],rfl,?_⟩;have:=j.cJ h.ok;show L.length<=1000;omega
end
end Go.Proofs.YtohgmogbabkkeaaGreat
end

section
namespace Go.Proofs.YtohgmogbabkkeaaGreat
open Go.Am Go.av Go.aB Go.bE
structure Wp where
 l:Nat
 pc:Nat
 ps:Nat
 pv:Nat
 pw:Nat
def Wo (s0 s:AS) (w:Wp) (c:gY) (x:aF) (n N:Nat) (Gs:List (List Nat)):Prop :=
 WI c x n N/\∃ Fc Fs Fv Fw,Wq Wz s w.l w.pc w.ps w.pv w.pw Fc Fs Fv Fw c x c.v c.log.length x/\Ap s0 s ([w.l]::Fc::Fs::Fv::Fw::Gs)
def Kp (Gs:List (List Nat)) (s s':AS):Prop:=∃ M,bz M s s'/\∀ G∈Gs,Dj M G
section
variable {s0 s s':AS} {w:Wp} {n N:Nat} {c:gY} {x:aF} {Gs:List (List Nat)} {G G':List Nat}
theorem Ap.gs {a b c d e:List Nat} (A:Ap s0 s (a::b::c::d::e::Gs)) (i:G∈Gs):Dj a G/\Dj b G/\Dj c G/\Dj d G/\Dj e G:=by
 obtain ⟨j,hj⟩:=List.mem_iff_getElem?.1 i;exact ⟨A.ij 0 (j+5) rfl (by simpa using hj) (by omega),A.ij 1 (j+5) rfl (by simpa using hj) (by omega),A.ij 2 (j+5) rfl (by simpa using hj) (by omega),A.ij 3 (j+5) rfl (by simpa using hj) (by omega),A.ij 4 (j+5) rfl (by simpa using hj) (by omega)⟩
theorem Dj.app {a b g:List Nat} (h:Dj a g) (d:Dj b g):Dj (a++b) g:=fun y c=>by
 rcases List.mem_append.1 c with c | c
 ·exact h y c
 ·exact d y c
theorem Wo.ap (h:Wo s0 s w c x n N Gs):Ext s0 s:=by obtain ⟨_,_,_,_,_,_,A⟩:=h;exact A.1
theorem Wo.ext (h:Wo s0 s w c x n N Gs) (e:Ext s s'):Wo s0 s' w c x n N Gs:=by
 obtain ⟨hi,Fc,Fs,Fv,Fw,W,A⟩:=h;exact ⟨hi,Fc,Fs,Fv,Fw,W.ext e,A.ext e⟩
theorem Wo.begin (A:Ap s0 s Gs):aa Tryz.prog kN [] s fun r s'=>∃ w:Wp,r=.aN [.ptr (some (w.l,0)),.bool true]/\Wo s0 s' w gY.zero aF.zero 0 0 Gs/\Ext s s':=by
 refine (TN A).mono ?_;rintro r s' ⟨l,pc,ps,pv,pw,Fc,Fs,Fv,Fw,rfl,W,b,e⟩;exact ⟨⟨l,pc,ps,pv,pw⟩,rfl,⟨WI.zero,Fc,Fs,Fv,Fw,W,b⟩,e⟩
theorem Wo.sub (h:Wo s0 s w c x n N Gs) (k:N<=200) (t d:List UInt8):aa Tryz.prog c_ [.ptr (some (w.l,0)),.str t,.str d] s fun r s'=>r=.bool true/\∃ x',TO x x' t d/\Wo s0 s' w c x' n (N+1) Gs/\Kp Gs s s':=by
 obtain ⟨hi,Fc,Fs,Fv,Fw,W,A⟩:=h;refine (KY W A hi.ok (by omega) (fun d hd=>by have:=hi.cnt d hd;omega) t d).mono ?_;rintro r s' ⟨rfl,b,e,x',W',j,hs,m⟩;exact ⟨rfl,x',hs,⟨hi.sub hs (by omega),Fc,b,Fv,e,W',j⟩,_,m,fun G i=>Dj.app (A.gs i).2.2.1 (A.gs i).2.2.2.2⟩
theorem Wo.T3 (h:Wo s0 s w c x n N Gs) (z:N<=200) (B:n<=1000) (t:List UInt8):aa Tryz.prog cF [.ptr (some (w.l,0)),.str t] s fun r s'=>r=.bool true/\Kp Gs s s'/\((aK t=false/\Wo s0 s' w c x n N Gs)\/(aK t=true/\∃ L,qg x t L/\Wo s0 s' w (c.apply (gN c.v t [] L)) x (n+1) N Gs)):=by
 obtain ⟨hi,Fc,Fs,Fv,Fw,W,A⟩:=h;refine (O_ W A hi.ok (by omega) t (fun L d=>by rw [hi.v];exact TS hi.ok (by omega) (by omega) d) (by rw [hi.v,WB];omega) (by rw [hi.ln];omega) (by rw [hi.bl];simp;omega)).mono ?_;rintro r s' ⟨rfl,e,i,c',W',o,m,b⟩;refine ⟨rfl,⟨_,m,fun G p=>Dj.app (A.gs p).2.1 (A.gs p).2.2.2.1⟩,?_⟩;rcases b with ⟨k,rfl⟩ | ⟨j,L,y,rfl⟩
 ·exact .inl ⟨k,hi,e,Fs,i,Fw,W',o⟩
 ·exact .inr ⟨j,L,y,hi.T3 (by omega) (by omega) y,e,Fs,i,Fw,W',o⟩
theorem Wo.TU (h:Wo s0 s w c x n N (G::Gs)) (m:bz G s s') (b:∀ y∈G',y∈G\/s.h y=none) (ht:∀ y∈G',s'.h y≠none):Wo s0 s' w c x n N (G'::Gs):=by
 obtain ⟨hi,Fc,Fs,Fv,Fw,W,A⟩:=h;exact ⟨hi,Fc,Fs,Fv,Fw,W.mut m (A.ij 5 0 rfl rfl (by decide)) (A.ij 5 1 rfl rfl (by decide)) (A.ij 5 2 rfl rfl (by decide)) (A.ij 5 3 rfl rfl (by decide)) (A.ij 5 4 rfl rfl (by decide)),Ap.nH (A:=[[w.l],Fc,Fs,Fv,Fw]) A m b ht⟩
theorem Wo.add (h:Wo s0 s w c x n N Gs) (e:Ext s s') (b:∀ y∈G,s.h y=none) (ht:∀ y∈G,s'.h y≠none):Wo s0 s' w c x n N (G::Gs):=by
 obtain ⟨hi,Fc,Fs,Fv,Fw,W,A⟩:=h;refine ⟨hi,Fc,Fs,Fv,Fw,W.ext e,(A.new e b ht).perm ?_⟩;exact (List.perm_middle (l₁:=[[w.l],Fc,Fs,Fv,Fw]) (l₂:=Gs) (a:=G)).symm
theorem Wo.perm {XU:List (List Nat)} (h:Wo s0 s w c x n N Gs) (p:Gs.Perm XU):Wo s0 s w c x n N XU:=by
 obtain ⟨hi,Fc,Fs,Fv,Fw,W,A⟩:=h;exact ⟨hi,Fc,Fs,Fv,Fw,W,A.perm (.cons _ (.cons _ (.cons _ (.cons _ (.cons _ p)))))⟩
theorem Wo.aC (h:Wo s0 s w c x n N Gs):au s w.l 0=some (.ptr (some (w.pc,0)))/\au s w.l (0+1)=some (.ptr (some (w.ps,0))):=by
 obtain ⟨hi,Fc,Fs,Fv,Fw,W,A⟩:=h;exact ⟨by rw [W.own.at.au];rfl,by rw [W.own.at.au];rfl⟩
/-! ### feeds -/
structure FI (G:List Nat) (s:AS) (p:Nat) (f:List UInt8->Option Dv) (k n:Nat):Prop where
 fe:mj G s p B0 f k
 pl:∀ a d,f a=some d->d.place<=n/\d.hand.length<=d.place
variable {p k:Nat} {f:List UInt8->Option Dv}
theorem FI.mono {n':Nat} (h:FI G s p f k n) (c:n<=n'):FI G s p f k n':=⟨h.fe,fun a d b=>by have:=h.pl a d b;omega⟩
theorem FI.keep {Gs:List (List Nat)} (h:FI G s p f k n) (b:Kp Gs s s') (c:G∈Gs):FI G s' p f k n:=by
 obtain ⟨M,m,d⟩:=b;exact ⟨h.fe.mut m (d G c),h.pl⟩
theorem FI.ext (h:FI G s p f k n) (e:Ext s s'):FI G s' p f k n:=⟨h.fe.ext e,h.pl⟩
theorem Wo.Xk (h:Wo s0 s w c x n N (G::Gs)) (F:FI G s p f k n) (o:N<=1000) (r:n<=1000):∃ Fc Fs,Wy G Fc Fs s p w.pc w.ps B0 f k c x:=by
 obtain ⟨hi,Fc,Fs,Fv,Fw,W,A⟩:=h;have hb:=W.se.Xe hi.ok;refine ⟨Fc,Fs,F.fe,A.th 5 rfl,W.ca,W.se,A.th 1 rfl,A.th 2 rfl,A.ij 5 1 rfl rfl (by decide),A.ij 5 2 rfl rfl (by decide),by rw [hi.bl,hi.ln];simp,by rw [hi.ln];omega,fun e j=>?_,by omega,fun a d l=>by rw [hi.ln];exact F.pl a d l⟩;obtain ⟨i,b⟩:=List.mem_iff_getElem?.1 j;obtain ⟨_,m,h2⟩:=hi.ev i e b;rw [m];exact ⟨by simp,by omega⟩
theorem Wo.feed (h:Wo s0 s w c x n N Gs):aa Tryz.prog cI [] s fun v s1=>aG s1/\aa Tryz.prog qW [v] s1 fun r s'=>∃ p G,r=.ptr (some (p,0))/\Wo s0 s' w c x n N (G::Gs)/\FI G s' p (fun _=>none) 0 n/\Ext s s':=by
 refine aa.use (IW s) ?_;rintro v s1 ⟨hv,e1⟩ w1;refine ⟨w1,(U7 hv (by decide)).mono ?_⟩;rintro r s' ⟨p,G,rfl,b,i,ht,e⟩;exact ⟨p,G,rfl,(h.ext e1).add e i ht,⟨b,fun a d j=>by cases j⟩,e1.trans e⟩
theorem Wo.attach (h:Wo s0 s w c x n N (G::Gs)) (F:FI G s p f k n) (name:List UInt8) {bv:AV} {b v:List Int} (hb:fE s bv b) (B:aK name=true) (hf:f name=none) (C:k<64) (D:BZ B0 name b v) :
  aa Tryz.prog dN [.ptr (some (p,0)),.str name,bv] s fun r s'=>r=.int .i64 0/\∃ G',Wo s0 s' w c x n N (G'::Gs)/\FI G' s' p (e_ f name (some ⟨v,0,[]⟩)) (k+1) n/\bz G s s':=by
 have j:∀ y∈G,s.h y≠none:=by
  obtain ⟨_,Fc,Fs,Fv,Fw,W,A⟩:=h;exact A.th 5 rfl
 refine (IU F.fe j (by decide) name hb fun _ _=>D).mono ?_;rintro r s' (⟨l,_⟩ | ⟨_,rfl,G',H,m,o,z⟩)
 ·exact absurd ⟨B,hf,C⟩ l
 ·refine ⟨rfl,G',h.TU m o z,⟨H,fun a d i=>?_⟩,m⟩;by_cases e:a=name
  ·rw [e_,if_pos e] at i;obtain rfl:=Option.some.inj i;simp
  ·rw [e_,if_neg e] at i;exact F.pl a d i
theorem EW (P:Ev->Bool) (stop:Nat->Bool):∀ (l:List (Ev×List Int)) (k:Nat),(scan P stop l k).2<=l.length/\(scan P stop l k).1.length<=(scan P stop l k).2
 | [],k=>by simp [scan]
 | a::l,k=>by
  have b:=EW P stop l (k+1);have h2:=EW P stop l k;simp only [scan];split
  ·split
   ·simp
   ·simp;omega
  ·simp;omega
theorem Wo.Vb (h:Wo s0 s w c x n N (G::Gs)) (F:FI G s p f k n) (A:N<=1000) (B:n<=1000) (name:List UInt8) {d:Dv} (i:aK name=true) (hf:f name=some d) {most:Int} (hm:1<=most/\most<=16) :
  aa Tryz.prog eL [.ptr (some (p,0)),.str name,.int .i64 most,.ptr (some (w.pc,0)),.ptr (some (w.ps,0))] s fun r s'=>∃ (out:AV) (Lo:List lT) (G':List Nat),r=.aN [out,.int .i64 0]/\bq ie 21 s' out Lo/\(∀ m∈Lo,kh (KV m) s' m)/\Lo.map lT.ev=(jr name d c x most).1.map Prod.fst/\Wo s0 s' w c x n N (G'::Gs)/\FI G' s' p (e_ f name (some (ug name d c x most))) k n/\bz G s s':=by
 obtain ⟨Fc,Fs,T⟩:=h.Xk F A B;have hi:=h.1;refine (P7 T name most).mono ?_;rintro r s' (⟨b,_⟩ | ⟨_,I,out,Lo,G',hd,rfl,C,h2,h3,D,y,l,o⟩)
 ·rcases b with b | b
  ·exact absurd ⟨i,hm⟩ b
  ·rw [hf] at b;cases b
 ·rw [hf] at hd;obtain rfl:=Option.some.inj hd;refine ⟨out,Lo,G',rfl,C,h2,h3,h.TU y.mut l o,⟨D,fun a e j=>?_⟩,y.mut⟩;by_cases z:a=name
  ·rw [e_,if_pos z] at j;obtain rfl:=Option.some.inj j;have H:=F.pl name d hf;have:=EW (jU name d.cur x) (fun k=>!decide ((k:Int)<most)) ((sX c).drop d.place) 0;have hlen:(sX c).length=n:=by rw [KX (by rw [hi.bl,hi.ln];simp),hi.ln]
   simp only [List.length_drop,hlen] at this;simp only [ug,jr,List.length_append,List.length_map];omega
  ·rw [e_,if_neg z] at j;exact F.pl a e j
theorem Wo.XV (h:Wo s0 s w c x n N (G::Gs)) (F:FI G s p f k n) (L:n<=1000) (name:List UInt8) {d:Dv} (l:aK name=true) (hf:f name=some d) (o:∀ j,j<=d.hand.length->uf (nE d j).cur=true) {j:Nat} (hj:j<=d.hand.length) :
  aa Tryz.prog fY [.ptr (some (p,0)),.str name,.int .i64 j] s fun r s'=>∃ (bv:AV) (G':List Nat),r=.aN [bv,.int .i64 0]/\bq oT 1 s' bv (zU B0 name (nE d j).cur)/\Wo s0 s' w c x n N (ax bv::G'::Gs)/\FI G' s' p (e_ f name (some (nE d j))) k n:=by
 have B:∀ y∈G,s.h y≠none:=by
  obtain ⟨_,Fc,Fs,Fv,Fw,W,A⟩:=h;exact A.th 5 rfl
 refine (TI F.fe B (by decide) name j (fun e m i hi=>?_) (fun e m=>?_)).mono ?_
 ·rw [hf] at m;obtain rfl:=Option.some.inj m;exact o i hi
 ·have:=F.pl name e m;omega
 ·rintro r s' (⟨b,_⟩ | ⟨_,M,j',bv,G',s1,I,hd,hle,rfl,g,J,K,C,D⟩)
  ·rcases b with b | b | b
   ·rw [l] at b;cases b
   ·omega
   ·have:=b d hf;omega
  ·obtain rfl:j=j':=by omega
   rw [hf] at hd;obtain rfl:=Option.some.inj hd;refine ⟨bv,G',rfl,g.tI,(h.TU K.mut C D).add g.eC.ext g.new (bq.jT g.tI),⟨J.ext g.eC.ext,fun a e z=>?_⟩⟩;by_cases m:a=name
   ·rw [e_,if_pos m] at z;obtain rfl:=Option.some.inj z;have H:=F.pl name d hf;rw [nE];split
    ·exact H
    ·simp only [List.length_drop];omega
   ·rw [e_,if_neg m] at z;exact F.pl a e z
theorem Wo.Pb (h:Wo s0 s w c x n N (G::Gs)) (F:FI G s p f k n) (name:List UInt8) {d:Dv} (i:aK name=true) (hf:f name=some d) (j:uf d.cur=true) :
  aa Tryz.prog eM [.ptr (some (p,0)),.str name] s fun r s'=>∃ (bv:AV),r=.aN [bv,.int .i64 0]/\bq oT 1 s' bv (zU B0 name d.cur)/\Wo s0 s' w c x n N (ax bv::G::Gs)/\FI G s' p (e_ f name none) (k - 1) n/\∃ s1,bz G s s1/\Ext s1 s':=by
 have z:∀ y∈G,s.h y≠none:=by
  obtain ⟨_,Fc,Fs,Fv,Fw,W,A⟩:=h;exact A.th 5 rfl
 refine (IV F.fe z (by decide) name (fun e l=>?_)).mono ?_
 ·rw [hf] at l;obtain rfl:=Option.some.inj l;exact j
 ·rintro r s' (⟨b,_⟩ | ⟨_,H,bv,s1,hd,rfl,g,C,m,B⟩)
  ·rcases b with b | b
   ·rw [i] at b;cases b
   ·rw [hf] at b;cases b
  ·rw [hf] at hd;obtain rfl:=Option.some.inj hd;refine ⟨bv,rfl,g.tI,(h.TU m (fun y D=>.inl D) B).add g.eC.ext g.new (bq.jT g.tI),⟨C.ext g.eC.ext,fun a e o=>?_⟩,s1,m,g.eC.ext⟩;by_cases l:a=name
   ·rw [e_,if_pos l] at o;cases o
   ·rw [e_,if_neg l] at o;exact F.pl a e o
end
end Go.Proofs.YtohgmogbabkkeaaGreat
end

section
namespace Go.Proofs.YtohgmogbabkkeaaGreat
open Go.Am Go.av Go.aB Go.bE
def OW (c:gY) (x:aF) (t d:List UInt8):Prop:=(∃ d0,x.live d0=some ⟨t,d⟩)/\∀ e∈c.log,e.cQ=t/\fU e.to d≠[]
section
variable {c:gY} {x x':aF} {n N:Nat} {t d:List UInt8}
theorem OW.T3 (h:OW c x t d) {L:List B4} (j:qg x t L) {v:List Int}:OW (c.apply (gN v t [] L)) x t d:=by
 refine ⟨h.1,fun e b=>?_⟩;rcases List.mem_append.1 (show e∈c.log++[gN v t [] L] from b) with b | b
 ·exact h.2 e b
 ·obtain rfl:=List.mem_singleton.1 b;refine ⟨rfl,fun k=>?_⟩;obtain ⟨d0,l⟩:=h.1;have:(⟨d0,d⟩:B4)∈L:=(j.mem _).2 l;have:d0∈fU L d:=List.mem_map.2 ⟨⟨d0,d⟩,List.mem_filter.2 ⟨this,by simp⟩,rfl⟩;have i:fU L d=[]:=k;rw [i] at this;cases this
theorem OW.XW (h:OW c x t d) (hi:WI c x n N) (o:n<=1000) {i m:Nat} {e:Ev} (b:c.log[i]? = some e):jU d (vN m) x e=!decide (i<m):=by
 obtain ⟨j,h2⟩:=h.2 e (List.mem_of_getElem? b);have k:i<c.log.length:=by
  rcases Nat.lt_or_ge i c.log.length with h | h
  ·exact h
  ·rw [List.getElem?_eq_none h] at b;cases b
 have l:Nm x ⟨e.cQ,d⟩=true:=GY.2 (by rw [j];exact h.1);have ht:(fU e.to d).isEmpty=false:=by simpa using h2
 rw [jU,(hi.ev i e b).1,No m i (by have:=hi.ln;omega),l,ht];simp
theorem Ab (hi:WI c x n N) {i:Nat} {z:Ev×List Int} (h:(sX c)[i]? = some z):c.log[i]? = some z.1/\z.2=vN (i+1):=by
 rw [sX,List.getElem?_zip_eq_some] at h;refine ⟨h.1,?_⟩;have:=h.2;rw [hi.bl,List.getElem?_map] at this;cases b:(List.range n)[i]? with
 | none=>rw [b] at this;cases this
 | some j =>
  rw [b] at this;obtain rfl:i=j:=by
   have:=List.getElem?_eq_some_iff.1 b;obtain ⟨d,h2⟩:=this;simpa using h2
  exact (Option.some.inj this).symm
theorem TV (hi:WI c x n N):(sX c).length=n:=by rw [KX (by rw [hi.bl,hi.ln];simp),hi.ln]
theorem Np {P:Ev->Bool} {most:Nat}:∀ (l:List (Ev×List Int)) (k:Nat),(∀ z∈l,P z.1=true)->k<most->scan P (fun k=>!decide ((k:Int)<(most:Int))) l k=(l.take (most - k),min (most - k) l.length)
 | [],k,_,_=>by simp [scan]
 | a::l,k,h,c=>by
  rw [scan,if_pos (h a (by simp))];by_cases hs:k+1<most
  ·have:(!decide (((k+1:Nat):Int)<(most:Int)))=false:=by simp;omega
   rw [if_neg (by rw [this];simp),Np l (k+1) (fun z b=>h z (by simp [b])) hs];obtain ⟨j,hj⟩:∃ j,most - k=j+1:=⟨most - k - 1,by omega⟩;rw [hj,show most - (k+1)=j by omega];simp
  ·have:(!decide (((k+1:Nat):Int)<(most:Int)))=true:=by simp;omega
   rw [if_pos this,show most - k=1 by omega];simp
theorem IY {P:Ev->Bool} {stop:Nat->Bool}:∀ (l m:List (Ev×List Int)) (k:Nat),(∀ z∈l,P z.1=false)->scan P stop (l++m) k=((scan P stop m k).1,(scan P stop m k).2+l.length)
 | [],m,k,_=>by simp
 | a::l,m,k,h=>by
  rw [List.cons_append,scan,if_neg (by simp [h a]),IY l m k fun z b=>h z (by simp [b])];simp;omega
theorem P9 (hi:WI c x n N) (o:n<=1000) (p:OW c x t d) {m pl most:Nat} {hand:List (List Int)} (hm:m<=n) (r:pl<=n) (w:1<=most):jr d ⟨vN m,pl,hand⟩ c x most=(((sX c).drop (max m pl)).take most,(max m pl - pl)+min most (n - max m pl)):=by
 have e:(sX c).drop pl=((sX c).drop pl).take (max m pl - pl)++(sX c).drop (max m pl):=by
  conv=>lhs;rw [<- List.take_append_drop (max m pl - pl) ((sX c).drop pl)]
  rw [List.drop_drop,show pl+(max m pl - pl)=max m pl by omega]
 have k:=TV hi;have l:∀ i z,(sX c)[i]? = some z->jU d (vN m) x z.1=!decide (i<m):=fun i z b=>p.XW hi o (Ab hi b).1;rw [jr];simp only;rw [e,IY _ _ 0 ?_,Np _ 0 ?_ (by omega)]
 ·simp only [Nat.sub_zero,List.length_take,List.length_drop,k,Prod.mk.injEq,true_and];omega
 ·intro z b;obtain ⟨j,hj⟩:=List.mem_iff_getElem?.1 b;rw [List.getElem?_drop] at hj;rw [l _ z hj];simp;omega
 ·intro z b;obtain ⟨j,hj⟩:=List.mem_iff_getElem?.1 b;rw [List.getElem?_take] at hj;split at hj
  ·rw [List.getElem?_drop] at hj;rw [l _ z hj];simp;omega
  ·cases hj
end
section
variable {s0 s s':AS} {w:Wp} {n N:Nat} {c:gY} {x:aF} {Gs:List (List Nat)} {G R:List Nat}
theorem Wo.dj (h:Wo s0 s w c x n N (G::Gs)) (b:R∈Gs):Dj G R:=by
 obtain ⟨_,Fc,Fs,Fv,Fw,W,A⟩:=h;obtain ⟨j,hj⟩:=List.mem_iff_getElem?.1 b;exact A.ij 5 (j+6) rfl (by simpa using hj) (by omega)
theorem B1 {α:Type} {f:α->List AV} {sz:Nat} {v:AV} {l:List α} (g:bq f sz s v l) (m:bz G s s') (d:Dj G (ax v)):bq f sz s' v l:=g.mut m fun y b hm=>d y hm b
theorem uh {f:List UInt8->Option Dv} (a:List UInt8) (d:Option Dv):e_ f a d a=d:=by simp [e_]
def tT:List UInt8:=[116]
def aA:List UInt8:=[97]
set_option maxRecDepth 20000 in
set_option maxHeartbeats 2000000 in
theorem Nq (A:Ap s0 s Gs):aa Tryz.prog oN [] s fun r s'=>r=.bool true/\Ap s0 s' Gs:=by
 refine Hz _ _ ?_;refine aa.use (Wo.begin A) ?_;rintro v1 s2 ⟨w,rfl,Q,e2⟩ w2;refine ⟨_,_,rfl,af.no rfl ?_⟩;refine aa.use (Q.sub (by omega) tT aA) ?_;rintro v5 s6 ⟨rfl,R,hs,W1,k6⟩ w6;have S:∃ d0,R.live d0=some ⟨tT,aA⟩:=(hs.ok Q.1.ok Q.1.cnt (by omega)).2.2.1 (by decide) (by decide);have U:OW gY.zero R tT aA:=⟨S,fun e he=>by simp [gY.zero] at he⟩;refine ⟨_,rfl,af.no rfl ?_⟩;refine aa.use (W1.T3 (by omega) (by omega) tT) ?_;rintro v8 s9 ⟨rfl,k9,(⟨d,_⟩ | ⟨_,L1,W,W2⟩)⟩ w9
 ·exact absurd d (by decide)
 have y:=U.T3 W (v:=gY.zero.v);generalize a4:gY.zero.apply (gN gY.zero.v tT [] L1)=X at W2 y;refine ⟨_,rfl,af.no rfl ?_⟩;refine aa.use (W2.T3 (by omega) (by omega) tT) ?_;rintro v11 dH ⟨rfl,a5,(⟨d,_⟩ | ⟨_,L2,Y,Z⟩)⟩ a6
 ·exact absurd d (by decide)
 have l:=y.T3 Y (v:=X.v);generalize a7:X.apply (gN X.v tT [] L2)=c2 at Z l;have hi:=Z.1;refine ⟨_,rfl,af.no rfl ?_⟩;refine aa.use Z.feed ?_;rintro a8 gh ⟨a9,hN⟩ _;refine aa.use hN ?_;rintro oC kT ⟨p,G1,rfl,W4,F4,a'⟩ ba;refine ⟨_,rfl,?_⟩;refine aa.use (W4.attach F4 aA (bq.nil.sl bM) (by decide) rfl (by omega) (.inl ⟨rfl,rfl⟩)) ?_;rintro bb gy ⟨rfl,G2,W5,F5,_⟩ bc;refine ⟨_,rfl,_,W5.aC.1,_,W5.aC.2,?_⟩;refine aa.use (W5.Vb F5 (by omega) (by omega) aA (by decide) (uh _ _) (by omega)) ?_;rintro bd be ⟨out,Lo,G3,rfl,gO,gE,ab,W6,F6,_⟩ bh;have hz:(fo:List Int)=vN 0:=rfl;have B:=P9 (hand:=[]) hi (by omega) l (m:=0) (pl:=0) (most:=5) (by omega) (by omega) (by omega);have ad:=TV hi;have hd:ug aA ⟨fo,0,[]⟩ c2 R 5=⟨vN 0,2,[vN 1,vN 2]⟩:=by
  rw [ug,hz,show (5:Int)=((5:Nat):Int) from rfl,B];have:((sX c2).drop 0).take 5=sX c2:=by rw [List.drop_zero,List.take_of_length_le (by omega)]
  simp only [show max 0 0=0 from rfl,this];have h2:(sX c2).map Prod.snd=c2.KS:=by
   rw [sX,List.map_snd_zip];rw [hi.bl,hi.ln];simp
  rw [h2,hi.bl];rfl
 have ae:Lo.length=2:=by
  have:=congrArg List.length ab;rw [hz,show (5:Int)=((5:Nat):Int) from rfl,B] at this;simp [ad] at this;exact this
 rw [hd] at F6;refine ⟨_,_,rfl,?_⟩;have C:∀ j,j<=2->uf (nE ⟨vN 0,2,[vN 1,vN 2]⟩ j).cur=true:=by
  intro j hj
  match j,hj with
  | 0,_=>rfl
  | 1,_=>rfl
  | 2,_=>rfl
 refine aa.use (W6.XV F6 (by omega) aA (by decide) (uh _ _) C (j:=1) (by decide)) ?_;rintro bi bj ⟨kv,G4,rfl,gk,W7,F7⟩ bk;have al:nE ⟨vN 0,2,[vN 1,vN 2]⟩ 1=⟨vN 1,2,[vN 2]⟩:=by
  rw [nE,if_neg (by decide)];show (⟨nj (vN 0) (vN 1),2,[vN 2]⟩:Dv)=_;rw [P8];rfl
 rw [al] at gk F7;have D:=W7.perm (.swap _ _ _);refine ⟨_,_,rfl,?_⟩;refine aa.use (D.Pb F7 aA (by decide) (uh _ _) rfl) ?_;rintro bm oB ⟨mv,rfl,gm,W8,F8,s1,m1,e1⟩ bo;have F:=(B1 gk m1 (D.dj (by simp))).ext e1;have x:=W8.perm (XU:=G4::ax mv::ax kv::Gs) (.swap _ _ _);refine ⟨_,_,rfl,?_⟩;refine aa.use (x.attach F8 aA (F.sl bM) (by decide) (uh _ _) (by omega) (.inr ⟨TR (n:=1) (by omega),rfl,rfl⟩)) ?_;rintro x_ bs ⟨rfl,G5,G,F9,m9⟩ bx;have am:=B1 F m9 (x.dj (by simp));have an:=B1 gm m9 (x.dj (by simp));refine ⟨_,rfl,_,G.aC.1,_,G.aC.2,?_⟩;refine aa.use (G.Vb F9 (by omega) (by omega) aA (by decide) (uh _ _) (by omega)) ?_;rintro b0 ao ⟨a3,H,G6,rfl,I,b1,J,ar,b2,K⟩ b3;have L:=B1 am K (G.dj (by simp));have M:=B1 an K (G.dj (by simp));have aw:=P9 (hand:=[]) hi (by omega) l (m:=1) (pl:=0) (most:=5) (by omega) (by omega) (by omega);obtain ⟨z,O⟩:∃ z,(sX c2)[1]? = some z:=⟨_,List.getElem?_eq_getElem (by omega)⟩;have b:H.map lT.ev=[z.1]:=by
  rw [J,show (5:Int)=((5:Nat):Int) from rfl,aw];have:((sX c2).drop 1)=[z]:=by
   apply List.ext_getElem?;intro k;rw [List.getElem?_drop]
   match k with
   | 0=>simpa using O
   | k+1=>rw [List.getElem?_eq_none (by omega)];simp
  show (((sX c2).drop 1).take 5).map Prod.fst=_;rw [this];rfl
 obtain ⟨me,rfl⟩:=List.length_eq_one_iff.1 (show H.length=1 by have:=congrArg List.length b;simpa using this);have a0:me.ev=z.1:=by simpa using b
 have a1:me.ev.id=⟨1,((1:Nat):Int)+1⟩:=by rw [a0];exact (hi.ev 1 _ (Ab hi O).1).1
 obtain ⟨la,o,k8,a2⟩:=(I.sl bf).ix (i:=0) (by decide) bf dA uR rfl;have hc:au ao la (o+1)=some (.int .u64 2):=by
  rw [(a2 _ (Ext.refl _)).1 1 (by omega)];show some (AV.int .u64 me.ev.id.c)=_;rw [a1];rfl
 refine ⟨_,_,rfl,af.yes rfl (af.yes rfl (af.yes rfl (af.yes rfl (af.yes rfl (af.yes rfl ⟨_,(gO.sl bf).cJ dA _,?_⟩)))))⟩;rw [ae];refine af.yes rfl ⟨_,IL (L.sl bM),_,IL (M.sl bM),af.yes (by simp) ⟨_,(I.sl bf).cJ dA _,af.yes rfl ⟨_,_,k8 .i64,_,hc,rfl,?_⟩⟩⟩;obtain ⟨_,Fc,Fs,Fv,Fw,Wf,Af⟩:=ar;exact Af.tail.tail.tail.tail.tail.tail.tail.tail
end
end Go.Proofs.YtohgmogbabkkeaaGreat
end

section
namespace Go.Proofs.YtohgmogbabkkeaaGreat
open Go.Am Go.av Go.aB Go.bE
section
variable {c:gY} {x:aF} {n N:Nat} {t d:List UInt8}
end
section
variable {s0 s s':AS} {w:Wp} {c c':gY} {x:aF} {n n' N p p' lr:Nat} {row:List AV} {at_:AV} {b:List Int}
end
end Go.Proofs.YtohgmogbabkkeaaGreat
end

section
namespace Go.Proofs.YtohgmogbabkkeaaGreat
open Go.Am Go.av Go.aB Go.bE
section
variable {s0 s s':AS} {w:Wp} {c:gY} {x:aF} {n N:Nat} {Gs:List (List Nat)} {G R:List Nat} {p k:Nat} {f:List UInt8->Option Dv}
theorem Wo.drop (h:Wo s0 s w c x n N (R::Gs)):Wo s0 s w c x n N Gs:=by
 obtain ⟨hi,Fc,Fs,Fv,Fw,W,A⟩:=h;exact ⟨hi,Fc,Fs,Fv,Fw,W,(A.perm (List.perm_middle (l₁:=[[w.l],Fc,Fs,Fv,Fw]) (l₂:=Gs) (a:=R))).tail⟩
end
section
variable {s0 s s':AS} {w:Wp} {c c':gY} {x:aF} {n n' N p p' lr q pl:Nat} {row:List AV} {at_:AV} {b:List Int} {R:List Nat}
end
end Go.Proofs.YtohgmogbabkkeaaGreat
end

section
namespace Go.Proofs.YtohgmogbabkkeaaGreat
open Go.Am Go.av Go.aB Go.bE
section
variable {s0 s s':AS} {w:Wp} {n N:Nat} {c:gY} {x:aF} {Gs:List (List Nat)} {G R:List Nat}
theorem Ap.start (s:AS):Ap s s []:=⟨Ext.refl s,List.Pairwise.nil,fun R h=>by cases h⟩
end
end Go.Proofs.YtohgmogbabkkeaaGreat
end

section
namespace Go.Proofs.YtohgmogbabkkeaaGreat
open Go.Am Go.av Go.aB Go.bE
end Go.Proofs.YtohgmogbabkkeaaGreat
end

section
namespace Go.Proofs.YtohgmogbabkkeaaGreat
open Go.Am Go.av Go.aB Go.bE
def Vc (x x':aF) (t d:List UInt8):Prop:=∃ l,KD x ⟨t,d⟩ l/\x'=(x.dX (l.map dY)).2
section
variable {s0 s s':AS} {w:Wp} {n N:Nat} {c:gY} {x x':aF} {Gs:List (List Nat)} {G G':List Nat} {t d:List UInt8}
theorem WI.rem (h:WI c x n N) (r:Vc x x' t d):WI c x' n N:=by
 obtain ⟨l,kd,rfl⟩:=r;have k:∀ e∈l,x.has e=true:=fun e j=>kd.has h.ok j;have hm:=xX fun e j=>aF.qy (k e j);refine ⟨h.ok.IB k,fun e j=>?_,h.v,h.ln,h.bl,h.ev⟩;rcases (GZ _ h.ok hm e).1 j with g | ⟨i,hi,rfl⟩
 ·exact h.cnt e g
 ·obtain ⟨b,hb,rfl⟩:=List.mem_map.1 hi;exact h.cnt _ (k b hb)
theorem Wo.rem (h:Wo s0 s w c x n N Gs) (hN:N<=200) (t d:List UInt8):aa Tryz.prog gn [.ptr (some (w.l,0)),.str t,.str d] s fun r s'=>r=.aN []/\∃ x',Vc x x' t d/\Wo s0 s' w c x' n N Gs/\Kp Gs s s':=by
 obtain ⟨hi,Fc,Fs,Fv,Fw,W,A⟩:=h;obtain ⟨b1,b2⟩:=W.se.Xe hi.ok;refine xj _ _ _ _ _ ⟨some (w.ps,0),by rw [W.own.at.au];rfl,_,qN _ _,?_⟩;refine aa.use (Q1 W.se ⟨t,d⟩ hi.ok.Xf (by omega) (by omega) (by omega)) ?_;have fin:∀ {s6:AS} {b:List Nat} {k:aF} {L:List aJ},aG s6->KD x ⟨t,d⟩ L->k=(x.dX (L.map dY)).2->Wq Wz s6 w.l w.pc w.ps w.pv w.pw Fc b Fv Fw c k c.v c.log.length x->Ap s0 s6 ([w.l]::Fc::b::Fv::Fw::Gs)->bz Fs s s6 ->
   ai (some (w.l,0)) fun Y z=>pL (au s6 Y (z+3)) fun B=>nQ (aS T ko [(0,.str t),(1,.str d)]) fun C=>aa Tryz.prog iB [.ptr B,.agg C] s6 fun D j=>(AV.aN []=.aN []/\∃ x',Vc x x' t d/\Wo s0 j w c x' n N Gs/\Kp Gs s j):=by
  intro s6 b k L F kd S o U Z;refine ⟨some (w.pw,0),by rw [o.own.at.au];rfl,_,qN _ _,?_⟩;refine aa.use (HQ o.re hi.ok (U.th 4 rfl) (by omega) ⟨t,d⟩) ?_;rintro D j ⟨L',H,_,p,F2,hR,I,J⟩ ab;obtain rfl:=H.uniq kd;obtain ⟨W',K⟩:=o.Xj U (p.mono fun y i=>by obtain rfl:=List.mem_singleton.1 i;exact o.re.qF) hR I J;rw [<- S] at W';have hr:Vc x k t d:=⟨L',kd,S⟩;refine ⟨rfl,k,hr,⟨hi.rem hr,Fc,b,Fv,F2,W',K⟩,Fs++Fw,(Z.mono fun y i=>by simp [i]).trans (p.mono fun y i=>by obtain rfl:=List.mem_singleton.1 i;simp [o.re.qF]),fun G X=>Dj.app (A.gs X).2.2.1 (A.gs X).2.2.2.2⟩
 rintro v5 s6 (⟨M,rfl,O⟩ | ⟨hk,v,L,kd,rfl,hs,F',hS,Q,R,m⟩) F
 ·refine ⟨_,_,rfl,?_⟩;have kd:KD x ⟨t,d⟩ []:=⟨List.Pairwise.nil,fun e=>⟨(fun h=>by cases h),(fun h=>by
   have:=(hi.ok.lv _ _ h).2;rw [M] at this;cases this)⟩⟩
  exact fin F kd rfl (W.ext O) (A.ext O) O.mut
 ·refine ⟨_,_,rfl,?_⟩;have m':bz Fs s s6:=m.mono fun y i=>by obtain rfl:=List.mem_singleton.1 i;exact W.se.pF
  obtain ⟨W',K⟩:=W.WA A m' hS (fun y i=>by
   rcases Q y i with rfl | h
   ·exact .inl W.se.pF
   ·exact .inr h) R
  exact fin F kd.kd rfl W' K m'
theorem Ap.merge {A B:List Nat} {d:List (List Nat)} (h:Ap s0 s (A::B::d)):Ap s0 s ((A++B)::d):=by
 obtain ⟨e,p,t⟩:=h;obtain ⟨p1,j⟩:=List.pairwise_cons.1 p;obtain ⟨k,l⟩:=List.pairwise_cons.1 j;refine ⟨e,List.pairwise_cons.2 ⟨fun Q i=>Dj.app (p1 Q (by simp [i])) (k Q i),l⟩,fun R c y b=>?_⟩;rcases List.mem_cons.1 c with rfl | c
 ·rcases List.mem_append.1 b with b | b
  ·exact t A (by simp) y b
  ·exact t B (by simp) y b
 ·exact t R (by simp [c]) y b
theorem Wo.merge {A B:List Nat} (h:Wo s0 s w c x n N (A::B::Gs)):Wo s0 s w c x n N ((A++B)::Gs):=by
 obtain ⟨hi,Fc,Fs,Fv,Fw,W,b⟩:=h;have p1:=b.perm (List.perm_append_comm (l₁:=[[w.l],Fc,Fs,Fv,Fw]) (l₂:=A::B::Gs));have d:=p1.merge;exact ⟨hi,Fc,Fs,Fv,Fw,W,d.perm (List.perm_append_comm (l₁:=(A++B)::Gs) (l₂:=[[w.l],Fc,Fs,Fv,Fw]))⟩
end
/-! ### what a device was told last -/
abbrev vK (v:AV):AV:=v
theorem EX:LG (K:=List UInt8) T a_ bX aq sK (.slc none 0 0 true) :=
 ⟨AI,fun a b=>by rw [JE mS];simp only [Option.some.injEq];by_cases h:a=b <;> simp [h],fun a=>by kernel_rfl,fun a=>by simp [tj],za⟩
theorem TW:LG (K:=List UInt8) T cg bX eW sK (.map none) :=
 ⟨wU,fun a b=>by rw [JE mS];simp only [Option.some.injEq];by_cases h:a=b <;> simp [h],fun a=>by kernel_rfl,fun a=>by simp [tj],JP⟩
abbrev mK (n:Int):AV:=.int .i64 n
abbrev qK (m:Nat):AV:=.map (some m)
theorem P_:LG (K:=aJ) T eW gV qZ dK (mK 0) :=
 ⟨LV,fun a b=>Gb a b,fun a=>zC a.r a.c,fun a=>by simp [tj,Ae,aI],FR⟩
def d_ {α:Type} (f:List UInt8->Option α) (a:List UInt8) (d:Option α):List UInt8->Option α:=fun b=>if b=a then d else f b
def qh (G:List Nat) (s:AS) (m:Nat) (lf:List UInt8->Option (List Int)):Prop :=
 ∃ (es:List (List UInt8×AV×Nat)) (k:Nat),dM sK vK s m es k false/\m∈G/\(∀ a v,dh es a=some v->∃ b,bq oT 1 s v b/\(∀ y∈ax v,y∈G)/\lf a=some b)/\∀ a,dh es a=none->lf a=none
section
variable {s s':AS} {G R:List Nat} {m:Nat} {lf:List UInt8->Option (List Int)}
theorem qh.mut {L:List Nat} (h:qh G s m lf) (e:bz L s s') (d:∀ y∈L,y ∉ G):qh G s' m lf:=by
 obtain ⟨es,k,j,h2,h3,h4⟩:=h;exact ⟨es,k,j.mut e fun c=>d m c h2,h2,fun a v hv=>by obtain ⟨b,g,i,hf⟩:=h3 a v hv;exact ⟨b,g.mut e fun y l c=>d y c (i y l),i,hf⟩,h4⟩
theorem qh.ext (h:qh G s m lf) (e:Ext s s'):qh G s' m lf:=h.mut (L:=[]) e.mut (by simp)
theorem qh.look (h:qh G s m lf) (a:List UInt8):∃ v,bR T a_ (.map (some m)) (.str a) false s=some v/\fE s v ((lf a).getD []):=by
 obtain ⟨es,k,d,h2,h3,h4⟩:=h;refine ⟨_,d.find EX a false,?_⟩;cases c:dh es a with
 | none=>rw [h4 a c];exact bq.nil.sl bM
 | some v =>
  obtain ⟨b,g,_,hf⟩:=h3 a v c;rw [hf];exact g.sl bM
theorem qh.nH (h:qh G s m lf) (r:aG s) {v:AV} {b:List Int} (g:bq oT 1 s v b) (a:List UInt8) {Q:AS->Prop} (w:∀ s',qh (ax v++G) s' m (d_ lf a (some b))->aG s'->bz [m] s s'->Q s') :
  bu (bK T a_ (.map (some m)) (.str a) v s) Q:=by
 obtain ⟨es,k,o,h2,h3,h4⟩:=h;refine dM.nH EX r o a v fun s' es' k' x e w' m'=>w s' ⟨es',k',x,by simp [h2],fun c u hu=>?_,fun c d=>?_⟩ w' m'
 ·have j:∀ {z:AV} {l:List Int},bq oT 1 s z l->∀ y∈ax z,y ∉ [m]:=fun A y n B=>by
   obtain rfl:=List.mem_singleton.1 B;exact Tag.IT o.obj (bq.tag A y n)
  rw [e] at hu;by_cases d:c=a
  ·rw [if_pos d] at hu;obtain rfl:=Option.some.inj hu;exact ⟨b,g.mut m' (j g),fun y n=>by simp [n],by rw [d_,if_pos d]⟩
  ·rw [if_neg d] at hu;obtain ⟨C,p,D,hf⟩:=h3 c u hu;exact ⟨C,p.mut m' (j p),fun y n=>by simp [D y n],by rw [d_,if_neg d];exact hf⟩
 ·rw [e] at d;by_cases i:c=a
  ·rw [if_pos i] at d;cases d
  ·rw [if_neg i] at d;rw [d_,if_neg i];exact h4 c d
end
def vW (G:List Nat) (s:AS) (mh:Nat) (hf:List UInt8->Option Int):Prop :=
 ∃ (es:List (List UInt8×Nat×Nat)) (k:Nat),dM sK qK s mh es k false/\mh∈G /\
  (∀ a m,dh es a=some m->m∈G/\m≠mh/\∃ (es':List (aJ×Int×Nat)) (k':Nat) (b:Int),dM dK mK s m es' k' false/\hf a=some b/\∀ d v,dh es' d=some v->d.c<=b) /\
  (∀ a,dh es a=none->hf a=none)/\∀ a b x y,dh es a=some x->dh es b=some y->a≠b->x≠y
section
variable {s s':AS} {G R:List Nat} {mh:Nat} {hf:List UInt8->Option Int}
theorem vW.mut {L:List Nat} (h:vW G s mh hf) (e:bz L s s') (d:∀ y∈L,y ∉ G):vW G s' mh hf:=by
 obtain ⟨es,k,j,h2,h3,h4,l⟩:=h;exact ⟨es,k,j.mut e fun c=>d _ c h2,h2,fun a m hm=>by obtain ⟨i,n,es',k',b,o,p⟩:=h3 a m hm;exact ⟨i,n,es',k',b,o.mut e fun c=>d _ c i,p⟩,h4,l⟩
theorem vW.ext (h:vW G s mh hf) (e:Ext s s'):vW G s' mh hf:=h.mut (L:=[]) e.mut (by simp)
theorem vW.look (h:vW G s mh hf) {a:List UInt8} {b:Int} (r:hf a=some b):∃ m,m∈G/\(∃ es k ro,s.h m=some (.map es k ro))/\bR T cg (.map (some mh)) (.str a) false s=some (.map (some m))/\(∀ d:aJ,d.c>b->bR T eW (.map (some m)) (.agg (aI d)) false s=some (.int .i64 0)) /\
  ∀ (d:aJ) {Q:AS->Prop},aG s->(∀ s',(∀ l,b<=l->d.c<=l->vW G s' mh (d_ hf a (some l)))->s'.h m≠none->aG s'->bz [m] s s'->Q s')->bu (bK T eW (.map (some m)) (.agg (aI d)) (.int .i64 1) s) Q:=by
 obtain ⟨es,k,B,h2,h3,h4,C⟩:=h;cases j:dh es a with
 | none=>rw [h4 a j] at r;cases r
 | some m =>
  obtain ⟨D,F,es',k',b0,w,J,H⟩:=h3 a m j;obtain rfl:b0=b:=by rw [J] at r;exact Option.some.inj r
  refine ⟨m,D,⟨_,_,_,w.obj⟩,?_,fun d hd=>?_,fun d Q K L=>?_⟩
  ·refine (B.find TW a false).trans ?_;rw [j];rfl
  ·refine (w.find P_ d false).trans ?_;cases x:dh es' d with
   | none=>rfl
   | some v=>have:=H d v x;omega
  ·refine dM.nH P_ K w d 1 fun s' y k2 I n w' m'=>L s' (fun l hb hd=>⟨es,k,B.mut m' (by simpa using Ne.symm F),h2,fun c u hu=>?_,fun c i=>?_,C⟩) (by rw [I.obj];simp) w' m'
   ·by_cases i:c=a
    ·subst i;rw [j] at hu;obtain rfl:=Option.some.inj hu;refine ⟨D,F,y,k2,l,I,by rw [d_,if_pos rfl],fun e v z=>?_⟩;rw [n] at z;by_cases o:e=d
     ·subst o;exact hd
     ·rw [if_neg o] at z;have:=H e v z;omega
    ·obtain ⟨i1,i2,A,M,O,i3,i4,i5⟩:=h3 c u hu;exact ⟨i1,i2,A,M,O,i3.mut m' (by simpa using C c a u m hu j i),by rw [d_,if_neg i];exact i4,i5⟩
   ·by_cases p:c=a
    ·subst p;rw [j] at i;cases i
    ·rw [d_,if_neg p];exact h4 c i
theorem vW.new (h:vW G s mh hf) (A:aG s) {l:Nat} (B:s.h l=some (.map [] 0 false)) (w:l ∉ G) (a:List UInt8) {Q:AS->Prop} (C:∀ s',vW ([l]++G) s' mh (d_ hf a (some 0))->aG s'->bz [mh] s s'->Q s') :
  bu (bK T cg (.map (some mh)) (.str a) (.map (some l)) s) Q:=by
 obtain ⟨es,k,D,h2,h3,h4,F⟩:=h;have p:l≠mh:=fun e=>w (e ▸ h2);refine dM.nH TW A D a l fun s' es' k' H j w' m'=>C s' ⟨es',k',H,by simp [h2],fun c u hu=>?_,fun c i=>?_,fun b c y z o m r=>?_⟩ w' m'
 ·rw [j] at hu;by_cases i:c=a
  ·rw [if_pos i] at hu;obtain rfl:=Option.some.inj hu;exact ⟨by simp,p,[],0,0,(dM.new B).mut m' (by simpa using p),by rw [d_,if_pos i],fun d v hd=>by rw [kM] at hd;cases hd⟩
  ·rw [if_neg i] at hu;obtain ⟨i1,i2,x,I,J,i3,i4,i5⟩:=h3 c u hu;exact ⟨by simp [i1],i2,x,I,J,i3.mut m' (by simpa using i2),by rw [d_,if_neg i];exact i4,i5⟩
 ·rw [j] at i;by_cases n:c=a
  ·rw [if_pos n] at i;cases i
  ·rw [if_neg n] at i;rw [d_,if_neg n];exact h4 c i
 ·rw [j] at o m;by_cases hb:b=a
  ·rw [if_pos hb] at o;obtain rfl:=Option.some.inj o;rw [if_neg (fun e=>r (hb.trans e.symm))] at m;exact fun e=>w (e ▸ (h3 c z m).1)
  ·rw [if_neg hb] at o;by_cases i:c=a
   ·rw [if_pos i] at m;obtain rfl:=Option.some.inj m;exact fun e=>w (e ▸ (h3 b y o).1)
   ·rw [if_neg i] at m;exact F b c y z o m r
end
end Go.Proofs.YtohgmogbabkkeaaGreat
end

section
namespace Go.Proofs.YtohgmogbabkkeaaGreat
open Go.Am Go.av Go.aB Go.bE
theorem G7 (P:Ev->Bool) (stop:Nat->Bool):∀ (l:List (Ev×List Int)) (k:Nat),(scan P stop l k).1.Sublist (l.take (scan P stop l k).2)/\∀ z∈(scan P stop l k).1,P z.1=true
 | [],k=>by simp [scan]
 | a::l,k=>by
  have c:=G7 P stop l (k+1);have h2:=G7 P stop l k;simp only [scan];split
  ·rename_i d;split
   ·refine ⟨by simp,fun z b=>?_⟩;obtain rfl:=List.mem_singleton.1 b;exact d
   ·refine ⟨by rw [List.take_succ_cons];exact c.1.cons_cons a,fun z b=>?_⟩;rcases List.mem_cons.1 b with rfl | b
    ·exact d
    ·exact c.2 z b
  ·refine ⟨by rw [List.take_succ_cons];exact h2.1.cons a,h2.2⟩
def Nr (n:Nat) (f:List UInt8->Option Dv) (lf:List UInt8->Option (List Int)) (hf:List UInt8->Option Int) (t:List UInt8->Nat):Prop :=
 (∀ a,t a<=n/\BZ B0 a ((lf a).getD []) (vN (t a)))/\∀ a d,f a=some d->d.cur=vN (t a)/\(∀ h∈d.hand,∃ q:Nat,q<=n/\h=vN q)/\∃ b:Int,hf a=some b/\b<=d.place
section
variable {n n':Nat} {f:List UInt8->Option Dv} {lf:List UInt8->Option (List Int)} {hf:List UInt8->Option Int} {t:List UInt8->Nat}
theorem Nr.mono (h:Nr n f lf hf t) (c:n<=n'):Nr n' f lf hf t :=
 ⟨fun a=>⟨by have:=(h.1 a).1;omega,(h.1 a).2⟩,fun a d hd=>⟨(h.2 a d hd).1,fun q b=>by obtain ⟨m,hm,e⟩:=(h.2 a d hd).2.1 q b;exact ⟨m,by omega,e⟩,(h.2 a d hd).2.2⟩⟩
theorem Nr.may (h:Nr n f lf hf t) (k:n<=1000) {a:List UInt8} {d:Dv} (hd:f a=some d) (j:Nat) (hj:j<=d.hand.length):∃ m,m<=n/\(nE d j).cur=vN m/\∀ q∈(nE d j).hand,q∈d.hand:=by
 obtain ⟨c,h2,_⟩:=h.2 a d hd;rw [nE];split
 ·exact ⟨t a,(h.1 a).1,c,fun q b=>b⟩
 ·rename_i l;have i:d.hand.getD (j - 1) []∈d.hand:=by
   rw [List.getD_eq_getElem?_getD,List.getElem?_eq_getElem (by omega)];exact List.getElem_mem _
  obtain ⟨q,b,e⟩:=h2 _ i;refine ⟨max (t a) q,by have:=(h.1 a).1;omega,?_,fun q b=>List.mem_of_mem_drop b⟩;show nj d.cur (d.hand.getD (j - 1) [])=_;rw [c,e,P8]
end
def oK (s0 s:AS) (w:Wp) (p ml mh i:Nat) (Es:List (List Nat)):Prop :=
 ∃ (c:gY) (x:aF) (n N k:Nat) (f:List UInt8->Option Dv) (lf:List UInt8->Option (List Int)) (hf:List UInt8->Option Int) (t:List UInt8->Nat) (G GL GH:List Nat),
  n<=i/\N<=i/\Wo s0 s w c x n N (G::GL::GH::Es)/\FI G s p f k n/\qh GL s ml lf/\vW GH s mh hf/\Nr n f lf hf t
section
variable {s0 s s':AS} {w:Wp} {p ml mh i:Nat} {Es:List (List Nat)}
theorem Kp.Xx {Gs:List (List Nat)} (k:Kp Gs s s') {G:List Nat} {m:Nat} {lf:List UInt8->Option (List Int)} (h:qh G s m lf) (b:G∈Gs):qh G s' m lf:=by
 obtain ⟨M,c,d⟩:=k;exact h.mut c (d G b)
theorem Kp.had {Gs:List (List Nat)} (k:Kp Gs s s') {G:List Nat} {m:Nat} {hf:List UInt8->Option Int} (h:vW G s m hf) (b:G∈Gs):vW G s' m hf:=by
 obtain ⟨M,c,d⟩:=k;exact h.mut c (d G b)
theorem oK.ext (h:oK s0 s w p ml mh i Es) (e:Ext s s'):oK s0 s' w p ml mh i Es:=by
 obtain ⟨c,x,n,N,k,f,lf,hf,t,G,GL,GH,b,h2,W,F,L,H,D⟩:=h;exact ⟨c,x,n,N,k,f,lf,hf,t,G,GL,GH,b,h2,W.ext e,F.ext e,L.ext e,H.ext e,D⟩
theorem oK.up (h:oK s0 s w p ml mh i Es):oK s0 s w p ml mh (i+1) Es:=by
 obtain ⟨c,x,n,N,k,f,lf,hf,t,G,GL,GH,b,h2,r⟩:=h;exact ⟨c,x,n,N,k,f,lf,hf,t,G,GL,GH,by omega,by omega,r⟩
theorem oK.ap (h:oK s0 s w p ml mh i Es):Ext s0 s:=by
 obtain ⟨c,x,n,N,k,f,lf,hf,t,G,GL,GH,b,h2,W,r⟩:=h;exact W.ap
theorem oK.aC (h:oK s0 s w p ml mh i Es):au s w.l 0=some (.ptr (some (w.pc,0)))/\au s w.l (0+1)=some (.ptr (some (w.ps,0))):=by
 obtain ⟨c,x,n,N,k,f,lf,hf,t,G,GL,GH,b,h2,W,r⟩:=h;exact W.aC
theorem oK.drop {E:List Nat} (h:oK s0 s w p ml mh i [E]):oK s0 s w p ml mh i []:=by
 obtain ⟨c,x,n,N,k,f,lf,hf,t,G,GL,GH,b,h2,W,r⟩:=h;exact ⟨c,x,n,N,k,f,lf,hf,t,G,GL,GH,b,h2,(W.perm (List.perm_append_comm (l₁:=[G,GL,GH]) (l₂:=[E]))).drop,r⟩
theorem oK.add (h:oK s0 s w p ml mh i []) {l:Nat} {o:AO} (F:qd s s' l o):oK s0 s' w p ml mh i [[l]]:=by
 obtain ⟨c,x,n,N,k,f,lf,hf,t,G,GL,GH,d,h2,W,e,j,m,r⟩:=h;have W':=W.add (G:=[l]) F.ext (fun y b=>by obtain rfl:=List.mem_singleton.1 b;exact F.no) (fun y b=>by
  obtain rfl:=List.mem_singleton.1 b;rw [F.at];simp)
 exact ⟨c,x,n,N,k,f,lf,hf,t,G,GL,GH,d,h2,W'.perm (List.perm_append_comm (l₁:=[[l]]) (l₂:=[G,GL,GH])),e.ext F.ext,j.ext F.ext,m.ext F.ext,r⟩
theorem oK.sub (h:oK s0 s w p ml mh i Es) (hi:i<=120) (t d:List UInt8):aa Tryz.prog c_ [.ptr (some (w.l,0)),.str t,.str d] s fun r s'=>r=.bool true/\oK s0 s' w p ml mh (i+1) Es:=by
 obtain ⟨c,x,n,N,k,f,lf,hf,tt,G,GL,GH,e,h2,W,F,L,H,D⟩:=h;refine (W.sub (by omega) t d).mono ?_;rintro r s' ⟨rfl,x',_,W',b⟩;exact ⟨rfl,c,x',n,N+1,k,f,lf,hf,tt,G,GL,GH,by omega,by omega,W',F.keep b (by simp),b.Xx L (by simp),b.had H (by simp),D⟩
theorem oK.rem (h:oK s0 s w p ml mh i Es) (hi:i<=120) (t d:List UInt8):aa Tryz.prog gn [.ptr (some (w.l,0)),.str t,.str d] s fun r s'=>r=.aN []/\oK s0 s' w p ml mh (i+1) Es:=by
 obtain ⟨c,x,n,N,k,f,lf,hf,tt,G,GL,GH,e,h2,W,F,L,H,D⟩:=h;refine (W.rem (by omega) t d).mono ?_;rintro r s' ⟨rfl,x',_,W',b⟩;exact ⟨rfl,c,x',n,N,k,f,lf,hf,tt,G,GL,GH,by omega,by omega,W',F.keep b (by simp),b.Xx L (by simp),b.had H (by simp),D⟩
theorem oK.T3 (h:oK s0 s w p ml mh i Es) (hi:i<=120) (t:List UInt8):aa Tryz.prog cF [.ptr (some (w.l,0)),.str t] s fun r s'=>r=.bool true/\oK s0 s' w p ml mh (i+1) Es:=by
 obtain ⟨c,x,n,N,k,f,lf,hf,tt,G,GL,GH,d,h2,W,F,L,H,D⟩:=h;refine (W.T3 (by omega) (by omega) t).mono ?_;rintro r s' ⟨rfl,b,(⟨_,W'⟩ | ⟨_,e,_,W'⟩)⟩
 ·exact ⟨rfl,c,x,n,N,k,f,lf,hf,tt,G,GL,GH,by omega,by omega,W',F.keep b (by simp),b.Xx L (by simp),b.had H (by simp),D⟩
 ·exact ⟨rfl,_,x,n+1,N,k,f,lf,hf,tt,G,GL,GH,by omega,by omega,W',(F.keep b (by simp)).mono (by omega),b.Xx L (by simp),b.had H (by simp),D.mono (by omega)⟩
theorem oK.look (h:oK s0 s w p ml mh i Es) (a:List UInt8):∃ v,bR T a_ (.map (some ml)) (.str a) false s=some v:=by
 obtain ⟨c,x,n,N,k,f,lf,hf,t,G,GL,GH,b,h2,W,F,L,H,D⟩:=h;obtain ⟨v,hv,_⟩:=L.look a;exact ⟨v,hv⟩
theorem oK.attach (h:oK s0 s w p ml mh i Es) (hi:i<=120) (a:List UInt8) {v:AV} (hv:bR T a_ (.map (some ml)) (.str a) false s=some v) :
  aa Tryz.prog dN [.ptr (some (p,0)),.str a,v] s fun r s'=>∃ e:Int,r=.int .i64 e/\(∀ R∈Es,∀ l∈R,s'.h l=s.h l)/\((e≠0/\oK s0 s' w p ml mh i Es)\/(e=0/\∀ {Q:AS->Prop},aG s'->(∀ s2,aG s2->oK s0 s2 w p ml mh i Es->Q s2)->aj (.map [] 0 false) s' fun l s1=>bu (bK T cg (.map (some mh)) (.str a) (.map (some l)) s1) Q)):=by
 obtain ⟨c,x,n,N,k,f,lf,hf,t,G,GL,GH,X,h2,W,F,L,H,D⟩:=h;have hb:fE s v ((lf a).getD []):=by
  obtain ⟨v',oM,hb⟩:=L.look a;rw [hv] at oM;obtain rfl:=Option.some.inj oM;exact hb
 have M:∀ y∈G,s.h y≠none:=by
  obtain ⟨_,Fc,Fs,Fv,Fw,W,A⟩:=W;exact A.th 5 rfl
 have keep:∀ {s':AS},bz G s s'->∀ R∈Es,∀ l∈R,s'.h l=s.h l:=fun {s'} m R Y l J=>by
  have hd:=W.dj (R:=R) (by simp [Y]);have ht:s.h l≠none:=by
   obtain ⟨_,Fc,Fs,Fv,Fw,_,A⟩:=W;exact (A.2.2 R (by simp [Y]) l J).2
  cases B:s.h l with
  | none=>exact absurd B ht
  | some o=>exact m.1 l o (fun hm=>hd l hm J) B
 refine (IU F.fe M (by decide) a hb fun _ _=>(D.1 a).2).mono ?_;rintro r s' (⟨_,⟨e,he,rfl⟩,ex⟩ | ⟨⟨hn,ab,hk⟩,rfl,G',hF,m,O,S⟩)
 ·exact ⟨e,rfl,keep ex.mut,.inl ⟨he,c,x,n,N,k,f,lf,hf,t,G,GL,GH,X,h2,W.ext ex,F.ext ex,L.ext ex,H.ext ex,D⟩⟩
 ·refine ⟨0,rfl,keep m,.inr ⟨rfl,fun {Q} w' hQ=>aj.intro w' rfl fun l s1 z=>?_⟩⟩;have W':=(W.TU m O S);have L':=L.mut m (W.dj (by simp));have Z:=(H.mut m (W.dj (by simp))).ext z.ext;have W1:=(W'.add (G:=[l]) z.ext (fun y j=>by obtain rfl:=List.mem_singleton.1 j;exact z.no) (fun y j=>by
   obtain rfl:=List.mem_singleton.1 j;rw [z.at];simp))
  have J:l ∉ GH:=fun j=>by
   have:=W1.dj (R:=GH) (by simp) l (by simp);exact this j
  refine vW.new Z z.wf z.at J a fun s2 H2 w2 m2=>hQ s2 w2 ?_;have C:mh∈[l]++GH:=by obtain ⟨_,_,_,h,_⟩:=Z;simp [h]
  have p1:([l]::G'::GL::GH::Es).Perm ([l]::GH::G'::GL::Es):=.cons _ (List.perm_middle (l₁:=[G',GL]) (l₂:=Es) (a:=GH));have K:=(W1.perm p1).merge;have W3:=K.TU (G':=[l]++GH) (m2.mono fun y j=>by obtain rfl:=List.mem_singleton.1 j;exact C) (fun y j=>.inl j) (fun y j=>by
   have U:s1.h y≠none:=by
    obtain ⟨_,Fc,Fs,Fv,Fw,_,A⟩:=K;exact A.th 5 rfl y j
   by_cases e:y=mh
   ·subst e;obtain ⟨ad,k2,i1,_⟩:=H2;rw [i1.obj];simp
   ·cases B:s1.h y with
    | none=>exact absurd B U
    | some o=>rw [m2.1 y o (by simpa using e) B];simp)
  have d1:=K.dj (R:=G') (by simp);have d2:=K.dj (R:=GL) (by simp);have I:bz ([l]++GH) s1 s2:=m2.mono fun y j=>by obtain rfl:=List.mem_singleton.1 j;exact C
  refine ⟨c,x,n,N,k+1,_,lf,_,t,G',GL,[l]++GH,X,h2,W3.perm ?_,⟨(hF.ext z.ext).mut I d1,fun b d hb=>?_⟩,(L'.ext z.ext).mut I d2,H2,⟨D.1,fun b d hb=>?_⟩⟩
  ·exact (List.perm_middle (l₁:=[G',GL]) (l₂:=Es) (a:=[l]++GH)).symm
  ·by_cases e:b=a
   ·rw [e_,if_pos e] at hb;obtain rfl:=Option.some.inj hb;simp
   ·rw [e_,if_neg e] at hb;exact F.pl b d hb
  ·by_cases e:b=a
   ·subst e;rw [e_,if_pos rfl] at hb;obtain rfl:=Option.some.inj hb;exact ⟨rfl,(fun q B=>by cases B),0,by rw [d_,if_pos rfl],by simp⟩
   ·rw [e_,if_neg e] at hb;obtain ⟨a1,a2,b',a3,a4⟩:=D.2 b d hb;exact ⟨a1,a2,b',by rw [d_,if_neg e];exact a3,a4⟩
end
end Go.Proofs.YtohgmogbabkkeaaGreat
end

section
namespace Go.Proofs.YtohgmogbabkkeaaGreat
open Go.Am Go.av Go.aB Go.bE
section
variable {s0 s s':AS} {w:Wp} {p ml mh i:Nat} {Es:List (List Nat)}
def Pc (Es:List (List Nat)) (s s':AS):Prop:=∀ R∈Es,∀ l∈R,s'.h l=s.h l
theorem Wo.WC {c:gY} {x:aF} {n N:Nat} {Gs:List (List Nat)} {R:List Nat} (h:Wo s0 s w c x n N Gs) (b:R∈Gs):∀ y∈R,s.h y≠none:=by
 obtain ⟨_,Fc,Fs,Fv,Fw,_,A⟩:=h;exact fun y d=>(A.2.2 R (by simp [b]) y d).2
theorem Wo.same {c:gY} {x:aF} {n N:Nat} {G:List Nat} {Gs:List (List Nat)} (h:Wo s0 s w c x n N (G::Gs)) (b:∀ R∈Es,R∈Gs) (m:bz G s s'):Pc Es s s':=fun R d l e=>by
 have hd:=h.dj (R:=R) (b R d);cases i:s.h l with
 | none=>exact absurd i (h.WC (by simp [b R d]) l e)
 | some o=>exact m.1 l o (fun hm=>hd l hm e) i
theorem oK.keep {c:gY} {x:aF} {n N k:Nat} {f:List UInt8->Option Dv} {lf:List UInt8->Option (List Int)} {hf:List UInt8->Option Int} {t:List UInt8->Nat} {G GL GH:List Nat} {a:List UInt8} {q:Nat} {v:AV}
  (I:n<=i) (h2:N<=i) (hi:i<=1000) (W:Wo s0 s w c x n N (ax v::G::GL::GH::Es)) (F:FI G s p f k n) (L:qh GL s ml lf) (H:vW GH s mh hf)
  (D:(∀ b,t b<=n/\BZ B0 b ((lf b).getD []) (vN (t b)))/\∀ b d,f b=some d->d.cur=vN (if b=a then q else t b)/\(∀ h∈d.hand,∃ q:Nat,q<=n/\h=vN q)/\∃ B:Int,hf b=some B/\B<=d.place)
  (m:q<=n) (g:bq oT 1 s v (zU B0 a (vN q))) {Q:AS->Prop} (J:aG s) (K:∀ s2,aG s2->oK s0 s2 w p ml mh i Es->Q s2):bu (bK T a_ (.map (some ml)) (.str a) v s) Q:=by
 refine L.nH J g a fun s2 C w2 m2=>K s2 w2 ?_;have z:ml∈ax v++GL:=by obtain ⟨_,_,_,h,_⟩:=L;simp [h]
 have p1:(ax v::G::GL::GH::Es).Perm (ax v::GL::G::GH::Es):=.cons _ (.swap _ _ _);have r:=(W.perm p1).merge;have j:bz (ax v++GL) s s2:=m2.mono fun y l=>by obtain rfl:=List.mem_singleton.1 l;exact z
 have M:=r.TU (G':=ax v++GL) j (fun y l=>.inl l) (fun y l=>by
  have A:=r.WC (R:=ax v++GL) (by simp) y l;by_cases e:y=ml
  ·subst e;obtain ⟨O,k2,i1,_⟩:=C;rw [i1.obj];simp
  ·cases m:s.h y with
   | none=>exact absurd m A
   | some o=>rw [m2.1 y o (by simpa using e) m];simp)
 refine ⟨c,x,n,N,k,f,_,hf,fun b=>if b=a then q else t b,G,ax v++GL,GH,I,h2,M.perm (.swap _ _ _),⟨F.fe.mut j (r.dj (by simp)),F.pl⟩,C,H.mut j (r.dj (by simp)),fun b=>?_,D.2⟩;by_cases e:b=a
 ·subst e;simp only [if_pos,d_,Option.getD_some];exact ⟨m,.inr ⟨TR (by omega),EV (by omega),rfl⟩⟩
 ·simp only [if_neg e,d_];exact D.1 b
theorem oK.XV (h:oK s0 s w p ml mh i Es) (hi:i<=120) (a:List UInt8) (z:Int) :
  aa Tryz.prog fY [.ptr (some (p,0)),.str a,.int .i64 z] s fun r s'=>∃ (v:AV) (e:Int),r=.aN [v,.int .i64 e]/\Pc Es s s'/\((e≠0/\oK s0 s' w p ml mh i Es)\/(e=0/\∀ {Q:AS->Prop},aG s'->(∀ s2,aG s2->oK s0 s2 w p ml mh i Es->Q s2)->bu (bK T a_ (.map (some ml)) (.str a) v s') Q)):=by
 obtain ⟨c,x,n,N,k,f,lf,hf,t,G,GL,GH,X,h2,W,F,L,H,D⟩:=h;refine (TI F.fe (W.WC (by simp)) (by decide) a z (fun d hd j hj=>?_) (fun d hd=>?_)).mono ?_
 ·obtain ⟨m,hm,e,_⟩:=D.may (by omega) hd j hj;rw [e];exact EV (by omega)
 ·have:=F.pl a d hd;omega
 rintro r s' (⟨_,⟨e,y,rfl⟩,rfl⟩ | ⟨hn,d,j,v,G',s1,rfl,hd,hj,rfl,g,Y,I,K,M⟩)
 ·exact ⟨_,e,rfl,fun _ _ _ _=>rfl,.inl ⟨y,c,x,n,N,k,f,lf,hf,t,G,GL,GH,X,h2,W,F,L,H,D⟩⟩
 ·have sm:Pc Es s s1:=W.same (fun R C=>by simp [C]) I.mut;have e1:=g.eC.ext;refine ⟨v,0,rfl,fun R C l O=>?_,.inr ⟨rfl,fun {Q} w' Z=>?_⟩⟩
  ·rw [<- sm R C l O];have ht:=W.WC (R:=R) (by simp [C]) l O;rw [<- sm R C l O] at ht;cases J:s1.h l with
   | none=>exact absurd J ht
   | some o=>exact e1.1 l o J
  ·obtain ⟨m,hm,A,B⟩:=D.may (by omega) hd j hj;have W1:=(W.TU I.mut K M).add e1 g.new (bq.jT g.tI);rw [A] at g;refine oK.keep (a:=a) (q:=m) (t:=t) X h2 (by omega) W1 (f:=e_ f a (some (nE d j))) ⟨Y.ext e1,fun b S hb=>?_⟩ ((L.mut I.mut (W.dj (by simp))).ext e1) ((H.mut I.mut (W.dj (by simp))).ext e1) ⟨D.1,fun b S hb=>?_⟩ hm g.tI w' Z
   ·by_cases y:b=a
    ·rw [e_,if_pos y] at hb;obtain rfl:=Option.some.inj hb;have U:=F.pl a d hd;rw [nE];split
     ·exact U
     ·simp only [List.length_drop];omega
    ·rw [e_,if_neg y] at hb;exact F.pl b S hb
   ·by_cases y:b=a
    ·subst y;rw [e_,if_pos rfl] at hb;obtain rfl:=Option.some.inj hb;obtain ⟨a1,a2,b',a3,a4⟩:=D.2 _ _ hd;refine ⟨by rw [if_pos rfl];exact A,fun q J=>a2 q (B q J),b',a3,?_⟩;rw [nE];split
     ·exact a4
     ·exact a4
    ·rw [e_,if_neg y] at hb;rw [if_neg y];exact D.2 b S hb
theorem oK.Pb (h:oK s0 s w p ml mh i Es) (hi:i<=120) (a:List UInt8) :
  aa Tryz.prog eM [.ptr (some (p,0)),.str a] s fun r s'=>∃ (v:AV) (e:Int),r=.aN [v,.int .i64 e]/\Pc Es s s'/\((e≠0/\oK s0 s' w p ml mh i Es)\/(e=0/\∀ {Q:AS->Prop},aG s'->(∀ s2,aG s2->oK s0 s2 w p ml mh i Es->Q s2)->bu (bK T a_ (.map (some ml)) (.str a) v s') Q)):=by
 obtain ⟨c,x,n,N,k,f,lf,hf,t,G,GL,GH,J,h2,W,F,L,H,D⟩:=h;refine (IV F.fe (W.WC (by simp)) (by decide) a (fun d hd=>?_)).mono ?_
 ·rw [(D.2 a d hd).1];exact EV (by have:=(D.1 a).1;omega)
 rintro r s' (⟨_,⟨e,j,rfl⟩,rfl⟩ | ⟨U,d,v,s1,hd,rfl,g,M,m,B⟩)
 ·exact ⟨_,e,rfl,fun _ _ _ _=>rfl,.inl ⟨j,c,x,n,N,k,f,lf,hf,t,G,GL,GH,J,h2,W,F,L,H,D⟩⟩
 ·have sm:Pc Es s s1:=W.same (fun R z=>by simp [z]) m;have e1:=g.eC.ext;refine ⟨v,0,rfl,fun R z l C=>?_,.inr ⟨rfl,fun {Q} w' O=>?_⟩⟩
  ·rw [<- sm R z l C];have ht:=W.WC (R:=R) (by simp [z]) l C;rw [<- sm R z l C] at ht;cases K:s1.h l with
   | none=>exact absurd K ht
   | some o=>exact e1.1 l o K
  ·obtain ⟨A,_,_⟩:=D.2 a d hd;have W1:=(W.TU m (fun y S=>.inl S) B).add e1 g.new (bq.jT g.tI);rw [A] at g;refine oK.keep (a:=a) (q:=t a) (t:=t) J h2 (by omega) W1 (f:=e_ f a none) ⟨M.ext e1,fun b I hb=>?_⟩ ((L.mut m (W.dj (by simp))).ext e1) ((H.mut m (W.dj (by simp))).ext e1) ⟨D.1,fun b I hb=>?_⟩ (D.1 a).1 g.tI w' O
   ·by_cases j:b=a
    ·rw [e_,if_pos j] at hb;cases hb
    ·rw [e_,if_neg j] at hb;exact F.pl b I hb
   ·by_cases j:b=a
    ·rw [e_,if_pos j] at hb;cases hb
    ·rw [e_,if_neg j] at hb;rw [if_neg j];exact D.2 b I hb
end
end Go.Proofs.YtohgmogbabkkeaaGreat
end

section
namespace Go.Proofs.YtohgmogbabkkeaaGreat
open Go.Am Go.av Go.aB Go.bE
def K4 (s0 s:AS) (w:Wp) (p ml mh i:Nat) (Es:List (List Nat)) (a:List UInt8) (q:Nat) (out:AV) (Lo:List lT) (k2:Nat):Prop :=
 ∃ (c:gY) (x:aF) (n N k:Nat) (f:List UInt8->Option Dv) (lf:List UInt8->Option (List Int)) (hf:List UInt8->Option Int) (t:List UInt8->Nat) (G GL GH:List Nat) (b:Int) (d:Dv),
  n<=i/\N<=i/\Wo s0 s w c x n N (G::GL::GH::Es)/\FI G s p f k n/\qh GL s ml lf/\vW GH s mh hf/\Nr n f lf hf t/\f a=some d/\hf a=some b/\t a=q /\
  bq ie 21 s out Lo/\(∀ m∈Lo,kh (KV m) s m)/\(∀ (j:Nat) (m:lT),k2<=j->Lo[j]? = some m->b<m.ev.id.c/\m.ev.id.c<=d.place)/\Lo.Pairwise (fun m m'=>m.ev.id.c<m'.ev.id.c) /\
  ∀ m∈Lo,m.ev.id.r=1/\(q:Int)<m.ev.id.c/\(m.ev.to.length<=1000/\Lo.length<=1000)/\fU m.ev.to a≠[]/\(Nm x ⟨m.ev.cQ,a⟩=true\/((fU m.ev.to a).any fun d=>!IS x d)=true)
section
variable {s0 s s':AS} {w:Wp} {p ml mh i q k2:Nat} {Es:List (List Nat)} {a:List UInt8} {out:AV} {Lo:List lT}
theorem K4.Yh (h:K4 s0 s w p ml mh i Es a q out Lo k2):oK s0 s w p ml mh i Es:=by
 obtain ⟨c,x,n,N,k,f,lf,hf,t,G,GL,GH,b,d,e,h2,W,F,L,H,D,_⟩:=h;exact ⟨c,x,n,N,k,f,lf,hf,t,G,GL,GH,e,h2,W,F,L,H,D⟩
theorem K4.ext (h:K4 s0 s w p ml mh i Es a q out Lo k2) (e:Ext s s'):K4 s0 s' w p ml mh i Es a q out Lo k2:=by
 obtain ⟨c,x,n,N,k,f,lf,hf,t,G,GL,GH,b,d,j,h2,W,F,L,H,D,l,o,r,y,z,A⟩:=h;exact ⟨c,x,n,N,k,f,lf,hf,t,G,GL,GH,b,d,j,h2,W.ext e,F.ext e,L.ext e,H.ext e,D,l,o,r,y.ext e,fun m hm=>(z m hm).ext e,A⟩
theorem oK.Xl (h:oK s0 s w p ml mh i Es) (a:List UInt8):∃ (v:AV) (b:List Int) (q:Nat),q<=i/\(∀ s',Ext s s'->bR T a_ (.map (some ml)) (.str a) false s'=some v)/\fE s v b/\BZ B0 a b (vN q):=by
 obtain ⟨c,x,n,N,k,f,lf,hf,t,G,GL,GH,j,h2,W,F,⟨es,l,i1,i2,i3,i4⟩,H,D⟩:=h;refine ⟨_,(lf a).getD [],t a,by have:=(D.1 a).1;omega,fun s' e=>(i1.ext e).find EX a false,?_,(D.1 a).2⟩;cases d:dh es a with
 | none=>rw [i4 a d];exact bq.nil.sl bM
 | some v =>
  obtain ⟨b,g,_,hf⟩:=i3 a v d;rw [hf];exact g.sl bM
theorem WD {c:gY} {x:aF} {n N:Nat} (hi:WI c x n N):(sX c).Pairwise fun z e=>z.1.id.c<e.1.id.c:=by
 rw [List.pairwise_iff_getElem];intro i j b d k;have e1:=(hi.ev i _ (Ab hi (List.getElem?_eq_getElem b)).1).1;have e2:=(hi.ev j _ (Ab hi (List.getElem?_eq_getElem d)).1).1;rw [e1,e2];simp only;omega
theorem oK.Vb (h:oK s0 s w p ml mh i Es) (hi:i<=120) (a:List UInt8) (most:Int) :
  aa Tryz.prog eL [.ptr (some (p,0)),.str a,.int .i64 most,.ptr (some (w.pc,0)),.ptr (some (w.ps,0))] s fun r s'=>∃ (out:AV) (e:Int),r=.aN [out,.int .i64 e]/\Pc Es s s'/\∃ (v:AV) (b:List Int) (q:Nat),q<=i/\(∀ s2,Ext s' s2->bR T a_ (.map (some ml)) (.str a) false s2=some v)/\fE s' v b/\BZ B0 a b (vN q) /\
   ((out=.slc none 0 0 true/\oK s0 s' w p ml mh i Es)\/(aK a=true/\∃ Lo,K4 s0 s' w p ml mh i Es a q out Lo 0)):=by
 obtain ⟨c,x,n,N,k,f,lf,hf,t,G,GL,GH,Y,h2,W,F,L,H,D⟩:=h;obtain ⟨Fc,Fs,T⟩:=W.Xk F (by omega) (by omega);have l:=W.1;refine (P7 T a most).mono ?_;rintro r s' (⟨_,⟨e,C,rfl⟩,ex⟩ | ⟨⟨hn,hm⟩,d,out,Lo,G',hd,rfl,g1,g2,Z,hF,S,ab,ad⟩)
 ·have hS:oK s0 s' w p ml mh i Es:=⟨c,x,n,N,k,f,lf,hf,t,G,GL,GH,Y,h2,W.ext ex,F.ext ex,L.ext ex,H.ext ex,D⟩;obtain ⟨v,b,q,U,l1,l2,l3⟩:=hS.Xl a;exact ⟨_,e,rfl,W.same (fun R hR=>by simp [hR]) ex.mut,v,b,q,U,l1,l2,l3,.inl ⟨rfl,hS⟩⟩
 ·have L':=L.mut S.mut (W.dj (by simp));have H':=H.mut S.mut (W.dj (by simp));have W':=W.TU S.mut ab ad;obtain ⟨y,A,b0,J,a2⟩:=D.2 a d hd;obtain ⟨a0,a1⟩:=F.pl a d hd;have ae:=TV l;obtain ⟨sb,sP⟩:=G7 (jU a d.cur x) (fun k=>!decide ((k:Int)<most)) ((sX c).drop d.place) 0;have sle:=EW (jU a d.cur x) (fun k=>!decide ((k:Int)<most)) ((sX c).drop d.place) 0;simp only [List.length_drop,ae] at sle;change (jr a d c x most).1.Sublist _ at sb;change ∀ z∈(jr a d c x most).1,_ at sP;have B:∀ z∈(jr a d c x most).1,∃ j,d.place<=j/\j<d.place+(jr a d c x most).2/\(sX c)[j]? = some z:=fun z o=>by
   obtain ⟨j,hj⟩:=List.mem_iff_getElem?.1 (sb.subset o);rw [List.getElem?_take] at hj;split at hj
   ·rename_i a3;rw [List.getElem?_drop] at hj;exact ⟨d.place+j,by omega,by show _<d.place+(scan _ _ _ _).2;omega,hj⟩
   ·cases hj
  have K:∀ m∈Lo,∃ z∈(jr a d c x most).1,m.ev=z.1:=fun m hm=>by
   have:m.ev∈Lo.map lT.ev:=List.mem_map.2 ⟨m,hm,rfl⟩;rw [Z] at this;obtain ⟨z,o,e⟩:=List.mem_map.1 this;exact ⟨z,o,e.symm⟩
  have al:Lo.Pairwise fun m m'=>m.ev.id.c<m'.ev.id.c:=by
   have X:((jr a d c x most).1.map Prod.fst).Pairwise fun z z'=>z.id.c<z'.id.c:=by
    rw [List.pairwise_map];exact (((WD l).sublist (List.drop_sublist _ _)).sublist (List.take_sublist _ _)).sublist sb
   rw [<- Z,List.pairwise_map] at X;exact X
  have M:∀ b I,(e_ f a (some (ug a d c x most))) b=some I->I.cur=vN (t b)/\(∀ h∈I.hand,∃ q:Nat,q<=n/\h=vN q)/\∃ b':Int,hf b=some b'/\b'<=I.place:=fun b I hb=>by
   by_cases C:b=a
   ·subst C;rw [e_,if_pos rfl] at hb;obtain rfl:=Option.some.inj hb;refine ⟨y,fun v hv=>?_,b0,J,by simp only [ug];omega⟩;simp only [ug] at hv;rcases List.mem_append.1 hv with hv | hv
    ·exact A v hv
    ·obtain ⟨z,o,rfl⟩:=List.mem_map.1 hv;obtain ⟨j,_,_,hj⟩:=B z o;have am:j<(sX c).length:=(List.getElem?_eq_some_iff.1 hj).1;exact ⟨j+1,by omega,(Ab l hj).2⟩
   ·rw [e_,if_neg C] at hb;exact D.2 b I hb
  have O:FI G' s' p (e_ f a (some (ug a d c x most))) k n:=⟨hF,fun b e hb=>by
   by_cases C:b=a
   ·rw [e_,if_pos C] at hb;obtain rfl:=Option.some.inj hb;have an:(jr a d c x most).1.length<=(jr a d c x most).2:=sle.2;have ao:(jr a d c x most).2<=n - d.place:=sle.1;simp only [ug,List.length_append,List.length_map];omega
   ·rw [e_,if_neg C] at hb;exact F.pl b e hb⟩
  have D':Nr n (e_ f a (some (ug a d c x most))) lf hf t:=⟨D.1,M⟩;have hS:oK s0 s' w p ml mh i Es:=⟨c,x,n,N,k,_,lf,hf,t,G',GL,GH,Y,h2,W',O,L',H',D'⟩;obtain ⟨v,lk,hb⟩:∃ v,(∀ s2,Ext s' s2->bR Go.Proofs.YtohgmogbabkkeaaGreat.T a_ (.map (some ml)) (.str a) false s2=some v)/\fE s' v ((lf a).getD []):=by
   obtain ⟨es,kk,i1,i2,i3,i4⟩:=L';refine ⟨_,fun s2 e=>(i1.ext e).find EX a false,?_⟩;cases U:dh es a with
   | none=>rw [i4 a U];exact bq.nil.sl bM
   | some v =>
    obtain ⟨b,g,_,hf⟩:=i3 a v U;rw [hf];exact g.sl bM
  refine ⟨out,0,rfl,W.same (fun R hR=>by simp [hR]) S.mut,v,_,t a,by have:=(D.1 a).1;omega,lk,hb,(D.1 a).2,.inr ⟨hn,Lo,c,x,n,N,k,_,lf,hf,t,G',GL,GH,b0,_,Y,h2,W',O,L',H',D',uh _ _,J,rfl,g1,g2,fun j m _ hm=>?_,al,fun m hm=>?_⟩⟩
  ·obtain ⟨z,o,e⟩:=K m (List.mem_of_getElem? hm);obtain ⟨j',ar,aw,hj⟩:=B z o;rw [e,(l.ev j' _ (Ab l hj).1).1];simp only [ug];omega
  ·obtain ⟨z,o,e⟩:=K m hm;obtain ⟨j',ar,aw,hj⟩:=B z o;obtain ⟨i1,i2,i3⟩:=l.ev j' _ (Ab l hj).1;have Q:=sP z o;have am:j'<(sX c).length:=(List.getElem?_eq_some_iff.1 hj).1;rw [jU,i1,y,No _ _ (by omega)] at Q;simp only [Bool.and_eq_true,Bool.not_eq_true',decide_eq_false_iff_not,Bool.or_eq_true] at Q;rw [e,i1];have hlen:Lo.length=(jr a d c x most).1.length:=by have:=congrArg List.length Z;simpa using this
   have an:(jr a d c x most).1.length<=(jr a d c x most).2:=sle.2;have ao:(jr a d c x most).2<=n - d.place:=sle.1;refine ⟨rfl,by simp only;omega,⟨i3,by omega⟩,fun X=>?_,Q.2⟩;rw [X] at Q;exact absurd Q.1.2 (by simp)
theorem K4.step (h:K4 s0 s w p ml mh i Es a q out Lo k2) (hi:i<=120) {m:lT} (hm:Lo[k2]? = some m):∃ r:Nat,bR T cg (.map (some mh)) (.str a) false s=some (.map (some r))/\bR T eW (.map (some r)) (.agg (aI m.ev.id)) false s=some (.int .i64 0) /\
  ∀ {Q:AS->Prop},aG s->(∀ s',K4 s0 s' w p ml mh i Es a q out Lo (k2+1)->(∀ l cs,Am.Own s l cs->Am.Own s' l cs)->aG s'->Q s')->bu (bK T eW (.map (some r)) (.agg (aI m.ev.id)) (.int .i64 1) s) Q:=by
 obtain ⟨c,x,n,N,k,f,lf,hf,t,G,GL,GH,b,d,h1,h2,W,F,L,H,D,Y,g2,g3,Z,K,g6,g7,g8⟩:=h;obtain ⟨r,hr,⟨es,ks,ro,M⟩,l1,l2,lu⟩:=H.look g2;obtain ⟨O,S⟩:=g6 k2 m (Nat.le_refl _) hm;refine ⟨r,l1,l2 _ O,fun {Q} hw hQ=>lu _ hw fun s' hH hr' w' m'=>?_⟩;have z:∀ {y g:Nat},Tag s y g->y≠r:=fun tg e=>Tag.IT M (e ▸ tg);have U:bz GH s s':=m'.mono fun y A=>by obtain rfl:=List.mem_singleton.1 A;exact hr
 have H':=hH m.ev.id.c (by omega) (Int.le_refl _);have p1:(G::GL::GH::Es).Perm (GH::G::GL::Es):=List.perm_middle (l₁:=[G,GL]) (l₂:=Es) (a:=GH);have W1:=W.perm p1;have W2:=W1.TU (G':=GH) U (fun y A=>.inl A) (fun y A=>by
  have X:=W1.WC (R:=GH) (by simp) y A;by_cases e:y=r
  ·subst e;exact hr'
  ·cases hq:s.h y with
   | none=>exact absurd hq X
   | some o=>rw [m'.1 y o (by simpa using e) hq];simp)
 refine hQ s' ⟨c,x,n,N,k,f,lf,_,t,G,GL,GH,m.ev.id.c,d,h1,h2,W2.perm p1.symm,⟨F.fe.mut U (W1.dj (by simp)),F.pl⟩,L.mut U (W1.dj (by simp)),H',⟨D.1,fun a' d' B=>?_⟩,Y,by rw [d_,if_pos rfl],g3,Z.mut m' (fun y A C=>z (bq.tag Z y A) (by simpa using C)),fun e I=>?_,fun j m2 hj J=>?_,g7,g8⟩ (fun l cs o=>o.mut m' (by simpa using z (Own.tag o))) w'
 ·obtain ⟨a1,a2,b',a3,a4⟩:=D.2 a' d' B;by_cases I:a'=a
  ·subst I;rw [Y] at B;obtain rfl:=Option.some.inj B;exact ⟨a1,a2,m.ev.id.c,by rw [d_,if_pos rfl],S⟩
  ·exact ⟨a1,a2,b',by rw [d_,if_neg I];exact a3,a4⟩
 ·refine (K e I).mut m' fun y A C=>?_;obtain rfl:=List.mem_singleton.1 A;rcases List.mem_append.1 C with C | C
  ·exact z (bq.tag (K e I).1 _ C) rfl
  ·exact z (bq.tag (K e I).2.1 _ C) rfl
 ·have h0:=(g6 j m2 (by omega) J).2;obtain ⟨i1,e1⟩:=List.getElem?_eq_some_iff.1 hm;obtain ⟨i2,e2⟩:=List.getElem?_eq_some_iff.1 J;have:=List.pairwise_iff_getElem.1 g7 k2 j i1 i2 (by omega);rw [e1,e2] at this;exact ⟨this,h0⟩
end
end Go.Proofs.YtohgmogbabkkeaaGreat
end

section
namespace Go.Proofs.YtohgmogbabkkeaaGreat
open Go.Am Go.av Go.aB Go.bE
structure NA where
 kind:Int
 n:Int
 cQ:List UInt8
 dev:List UInt8
 rest:List AV
 len:rest.length=18
 one:rest.all AV.one=true
def T4 (a:NA):List AV:=[.int .i64 a.kind,.int .i64 a.n,.str a.cQ,.str a.dev]++a.rest
theorem Qa (a:NA):(T4 a).length=22:=by simp [T4,a.len]
theorem Vd (a:NA):(T4 a).all AV.one=true:=by
 rw [T4,List.all_append,a.one];rfl
def ZO (s:AS) (y:Nat) (o:AO):Prop:=s.h y=none/\∃ cs,o=.cells cs 0 false/\cs.length=16/\∀ c∈cs,∃ k,c=AV.int .u64 k
def XZ (s a b:AS):Prop:=(∀ y o,a.h y=some o->¬ ZO s y o->b.h y=some o)/\(∀ y o,a.h y=some o->ZO s y o->∃ o',b.h y=some o'/\ZO s y o')/\a.nl<=b.nl
section
variable {s a b c:AS}
theorem XZ.Xm (e:Ext a b):XZ s a b:=⟨fun y o h _=>e.1 y o h,fun y o h z=>⟨o,e.1 y o h,z⟩,e.2⟩
theorem XZ.trans (h:XZ s a b) (d:XZ s b c):XZ s a c:=by
 refine ⟨fun y o e z=>d.1 y o (h.1 y o e z) z,fun y o e z=>?_,Nat.le_trans h.2.2 d.2.2⟩;obtain ⟨o',i,h2⟩:=h.2.1 y o e z;exact d.2.1 y o' i h2
theorem XZ.ext (h:XZ s s b):Ext s b:=⟨fun y o c=>h.1 y o c fun z=>(by rw [z.1] at c;cases c),h.2.2⟩
theorem XZ.XX {v:AV} {x:Int} {l:List Int} (h:XZ s a b) (hb:fE a v (x::l)):fE b v (x::l):=by
 rcases hb with ⟨_,i,_⟩ | ⟨j,m,e,rfl,n,h3⟩
 ·cases i
 ·refine .inr ⟨j,m,e,rfl,n,?_⟩;rcases h3 with h3 | ⟨la,o,C,rfl,⟨g,ro,p⟩,d⟩
  ·cases h3
  ·refine .inr ⟨la,o,C,rfl,⟨g,ro,h.1 la _ p fun z=>?_⟩,d⟩;obtain ⟨_,cs,e1,_,c⟩:=z;simp only [AO.cells.injEq] at e1;obtain ⟨rfl,_,_⟩:=e1;have hm:AV.int .u8 x∈C:=by
    have:AV.int .u8 x∈(C.drop o).take ((x::l).length*1):=by rw [d];simp [oT]
    exact List.mem_of_mem_drop (List.mem_of_mem_take this)
   obtain ⟨k,r⟩:=c _ hm;cases r
end
theorem WE {m:lT} {q:Nat} (h:(q:Int)<m.ev.id.c):(decide ((q:Int)>=m.ev.id.c))=false:=by rw [decide_eq_false_iff_not];omega
theorem Xn (q:Nat) (l:Nat) {s:AS} (h:Am.Own s l ((vN q).map (.int .u64))):au s l 0=some (.int .u64 (q:Nat)):=by rw [h.at.au];rfl
theorem XY (l:Nat):ag T aZ (.ptr (some (l,0))) (.int .i64 0)=some (.ptr (some (l,0))):=by kernel_rfl
theorem Ru {L:List B4} {dev:List UInt8} {hs:Bool} {P:aJ->Bool} (j:fU L dev≠[]) (h:hs=true\/((fU L dev).any P)=true):(L.any fun e=>(e.dev==dev)&&(hs||P e.dot))=true:=by
 rw [List.any_eq_true];rcases h with rfl | h
 ·obtain ⟨d,hd⟩:=List.exists_mem_of_ne_nil _ j;obtain ⟨e,i,rfl⟩:=List.mem_map.1 hd;obtain ⟨b,c⟩:=List.mem_filter.1 i;exact ⟨e,b,by simp [c]⟩
 ·obtain ⟨d,hd,k⟩:=List.any_eq_true.1 h;obtain ⟨e,i,rfl⟩:=List.mem_map.1 hd;obtain ⟨b,c⟩:=List.mem_filter.1 i;exact ⟨e,b,by simp [c,k]⟩
theorem TX {α:Type} (l:List α) (B:α->Bool) (j:Nat) {x:α} (h:l[j]? = some x):(l.take (j+1)).any B=((l.take j).any B||B x):=by
 rw [List.take_add_one,h];simp
section
variable {s0 s s':AS} {w:Wp} {p ml mh i q k2:Nat} {Es:List (List Nat)} {a:List UInt8} {out:AV} {Lo:List lT}
theorem K4.has (h:K4 s0 s w p ml mh i Es a q out Lo k2) (hi:i<=120) (t:List UInt8):∃ (hs:Bool) (P:aJ->Bool),(∀ m∈Lo,m.ev.cQ=t->(m.ev.to.any fun e=>(e.dev==a)&&(hs||P e.dot))=true)/\(∀ s2,Ext s s2->∀ d,aa Tryz.prog iz [.ptr (some (w.pw,0)),.agg (aI d)] s2 fun r s'=>r=.bool (!P d)/\Ext s2 s') /\
  aa Tryz.prog iM [.ptr (some (w.ps,0)),.agg (eZ ⟨t,a⟩)] s fun r s'=>r=.bool hs/\Ext s s':=by
 obtain ⟨c,x,n,N,k,f,lf,hf,tt,G,GL,GH,b,d,z,h2,⟨j,Fc,Fs,Fv,Fw,W,A⟩,F,L,H,D,B,C,I,J,K,M,O,o⟩:=h;obtain ⟨Q,R⟩:=W.se.Xe j.ok;refine ⟨Nm x ⟨t,a⟩,fun d=>!IS x d,fun m hm ht=>?_,fun s2 e d=>?_,?_⟩
 ·obtain ⟨_,_,_,h4,l⟩:=o m hm;rw [ht] at l;exact Ru h4 l
 ·refine (HR (W.re.ext e) j.ok (by omega) d).mono ?_;rintro r s' ⟨rfl,y⟩;exact ⟨by simp [IS],y⟩
 ·refine (S1 W.se (by omega) ⟨t,a⟩).mono ?_;rintro r s' ⟨⟨b,rfl,hb⟩,e⟩;refine ⟨?_,e⟩;have:b=Nm x ⟨t,a⟩:=by rw [Bool.eq_iff_iff,hb,GY]
  rw [this]
theorem K4.ev (h:K4 s0 s w p ml mh i Es a q out Lo k2) {m:lT} (hm:m∈Lo):m.ev.id.r=1/\(q:Int)<m.ev.id.c/\(m.ev.to.length<=1000/\Lo.length<=1000)/\fU m.ev.to a≠[]/\zV s m:=by
 obtain ⟨c,x,n,N,k,f,lf,hf,tt,G,GL,GH,b,d,l,h2,W,F,L,H,D,o,y,z,A,e,B,C,j⟩:=h;obtain ⟨a1,a2,a3,a4,_⟩:=j m hm;exact ⟨a1,a2,a3,a4,(e m hm).at⟩
theorem K4.row (h:K4 s0 s w p ml mh i Es a q out Lo k2):Sl ie 21 s out Lo:=by
 obtain ⟨c,x,n,N,k,f,lf,hf,tt,G,GL,GH,b,d,j,h2,W,F,L,H,D,l,m,o,e,r⟩:=h;exact e.sl bf
theorem K4.aC (h:K4 s0 s w p ml mh i Es a q out Lo k2):au s w.l (0+1)=some (.ptr (some (w.ps,0)))/\au s w.l (0+3)=some (.ptr (some (w.pw,0))):=by
 obtain ⟨c,x,n,N,k,f,lf,hf,tt,G,GL,GH,b,d,j,h2,⟨e,Fc,Fs,Fv,Fw,W,A⟩,_⟩:=h;exact ⟨by rw [W.own.at.au];rfl,by rw [W.own.at.au];rfl⟩
end
set_option maxRecDepth 20000 in
set_option maxHeartbeats 4000000 in
theorem G_ {s:AS} {a:AV} {l:List NA} (hl:Sl T4 22 s a l):aa Tryz.prog mq [a] s fun r s'=>r=.bool true:=by
 refine aa.pre fun hw=>A1 _ _ _ ⟨_,hl.cJ gw _,af.dec (fun _=>?_) (fun c6=>?_)⟩
 ·refine aa.use (Nq (Ap.start s)) ?_;rintro v s5 ⟨rfl,_⟩ _;exact ⟨_,rfl,rfl⟩
 refine aa.use (Wo.begin (Ap.start s)) ?_;rintro v5 s6 ⟨w,rfl,W0,e6⟩ w6;refine ⟨_,_,rfl,af.no rfl ?_⟩;refine aa.use W0.feed ?_;rintro v9 dr ⟨ds,bd⟩ _;refine aa.use bd ?_;rintro v11 dH ⟨p,G0,rfl,W2,F0,dt⟩ ch;refine ⟨_,rfl,aj.intro ch rfl fun ml gh U=>aj.intro U.wf rfl fun mh kT L=>?_⟩;have ci:=W2.add (G:=[ml]) U.ext (fun y M=>by obtain rfl:=List.mem_singleton.1 M;exact U.no) (fun y M=>by
  obtain rfl:=List.mem_singleton.1 M;rw [U.at];simp)
 have ck:=ci.add (G:=[mh]) L.ext (fun y M=>by obtain rfl:=List.mem_singleton.1 M;exact L.no) (fun y M=>by
  obtain rfl:=List.mem_singleton.1 M;rw [L.at];simp)
 have S0:oK s kT w p ml mh 0 []:=by
  refine ⟨_,_,0,0,0,_,fun _=>none,fun _=>none,fun _=>0,G0,[ml],[mh],Nat.le_refl _,Nat.le_refl _,ck.perm (List.reverse_perm [G0,[ml],[mh]]),(F0.ext U.ext).ext L.ext,⟨[],0,dM.new (L.ext.1 _ _ U.at),by simp,fun a m hm=>by simp [kM] at hm,fun a _=>rfl⟩,⟨[],0,dM.new L.at,by simp,fun a m hm=>by simp [kM] at hm,fun a _=>rfl,fun a b x y hx=>by simp [kM] at hx⟩,fun a=>⟨Nat.le_refl _,.inl ⟨rfl,rfl⟩⟩,fun a d hd=>by cases hd⟩
 refine ⟨fun m vs s'=>∃ i:Nat,vs=[.int .i64 (i:Nat)]/\i<=l.length/\m=l.length - i/\aG s'/\oK s s' w p ml mh i [],l.length,⟨0,rfl,by omega,rfl,L.wf,S0⟩,?_⟩;rintro m du fT ⟨i,hv,dv,rfl,cl,a5⟩;simp only [List.cons.injEq,AV.int.injEq,true_and,and_true] at hv;subst hv;have a1:=hl.ext a5.ap;refine ⟨_,a1.cJ gw _,af.dec (fun dy=>?_) (fun dC=>?_)⟩;rotate_left
 ·obtain ⟨c,x,n,N,k,f,lf,hf,t,G,GL,GH,h1,h2,⟨_,Fc,Fs,Fv,Fw,Wf,Af⟩,r⟩:=a5;refine aa.use (Nq Af) ?_;rintro v s5 ⟨rfl,_⟩ _;exact ⟨_,rfl,rfl⟩
 obtain ⟨y,M⟩:=cT (l:=l) (i:=i) (by omega);obtain ⟨la,o,k8,k9⟩:=a1.ix (by decide) Qa gw zb M;have cm:=Qa y;refine ⟨la,o,k8 _,_,(k9 _ (Ext.refl _)).2,kj cl (by rw [cm]) rfl (Vd y) fun O be a6=>?_⟩;have D:=a5.add a6;have B:Am.Own be O (T4 y):=a6.own;have fin:∀ {s':AS} {Es:List Nat},aG s'->oK s s' w p ml mh (i+1) [Es]->∃ m',m'<l.length - i/\∃ i':Nat,[AV.int .i64 (IntKind.wrap .i64 ((i:Int)+1))]=[.int .i64 (i':Nat)]/\i'<=l.length/\m'=l.length - i'/\aG s'/\oK s s' w p ml mh i' []:=fun w' W=>⟨l.length - (i+1),by omega,i+1,by rw [BI (by omega)],by omega,rfl,w',W.drop⟩;have Q:∀ {s':AS},Pc [[O]] be s'->Am.Own s' O (T4 y):=fun sm=>(sm [O] (by simp) O (by simp)).trans B;refine ⟨_,by rw [B.at.au];rfl,af.mk (fun _=>?_) (fun _=>af.mk (fun _=>?_) (fun _=>af.mk (fun _=>?_) (fun _=>af.mk (fun _=>?_) (fun _=>af.mk (fun _=>?_) (fun _=>af.mk (fun _=>?_) (fun _=>af.mk (fun _=>?_) (fun _=>fin a6.wf D.up)))))))⟩
 ·refine ⟨y.cQ,by rw [B.at.au];rfl,y.dev,by rw [B.at.au];rfl,?_⟩;refine aa.use (D.sub (by omega) _ _) ?_;rintro v s' ⟨rfl,W⟩ w';exact ⟨_,rfl,fin w' W⟩
 ·refine ⟨y.cQ,by rw [B.at.au];rfl,y.dev,by rw [B.at.au];rfl,?_⟩;refine aa.use (D.rem (by omega) _ _) ?_;rintro v s' ⟨rfl,W⟩ w';exact ⟨rfl,fin w' W⟩
 ·refine ⟨y.cQ,by rw [B.at.au];rfl,?_⟩;refine aa.use (D.T3 (by omega) _) ?_;rintro v s' ⟨rfl,W⟩ w';exact ⟨_,rfl,fin w' W⟩
 ·obtain ⟨cn,bh⟩:=D.look y.dev;refine ⟨y.dev,by rw [B.at.au];rfl,y.dev,by rw [B.at.au];rfl,cn,bh,?_⟩;refine aa.use (D.attach (by omega) y.dev bh) ?_;rintro v s' ⟨e,rfl,sm,(⟨he,W⟩ | ⟨rfl,hQ⟩)⟩ w'
  ·exact ⟨_,rfl,af.no (by simpa using he) (fin w' W.up)⟩
  ·have o':=Q sm;exact ⟨_,rfl,af.yes rfl ⟨y.dev,by rw [o'.at.au];rfl,hQ w' fun s2 w2 S2=>fin w2 S2.up⟩⟩
 ·refine ⟨y.dev,by rw [B.at.au];rfl,y.n,by rw [B.at.au];rfl,_,D.aC.1,_,D.aC.2,?_⟩;refine aa.use (D.Vb (by omega) y.dev y.n) ?_;rintro dE X ⟨out,e,rfl,sm,v,b,q,dT,lk,hb,bi,a7⟩ d';have Z:=Q sm;refine ⟨_,_,rfl,?_⟩;have F:∀ {s':AS},XZ X X s'->Ext X s':=fun x=>x.ext;refine ⟨XZ X,fun q ks _ s'=>q=12->∃ (l:Nat) (g:List AV),ks=[.ptr (some (l,0)),.agg g]/\Am.Own s' l g,fun _=>True,fun r _ v s'=>(r=0->fE s' v B0)/\(r=11->∃ l o,v=.ptr (some (l,0))/\s'.h l=some o/\ZO X l o),fun r _ v=>(r=7->∃ (vv:List Int) (z:Int),v=.aN [.agg (vv.map (.int .u64)),.int .i64 z]/\vv.length=16/\(aK y.dev=true->vv=vN q/\z=0))/\(r=11->∃ l,v=.ptr (some (l,0)))/\(r=12->v=.aN []),
   fun a b e=>.Xm e,fun a b c x y=>x.trans y,fun q ks v a b e g hq=>by obtain ⟨l,g',e1,e2⟩:=g hq;exact ⟨l,g',e1,e2.ext e⟩,fun r ks v a b x g=>⟨fun hr=>x.XX (g.1 hr),fun hr=>by
    obtain ⟨l,o,e1,e2,e3⟩:=g.2 hr;obtain ⟨o',e4,e5⟩:=x.2.1 l o e2 e3;exact ⟨l,o',e1,e4,e5⟩⟩,fun _ _ _ _=>trivial,trivial,fun Dt ea eb _=>?_,⟨.bad,(fun h=>by cases h),(fun h=>by cases h),(fun h=>by cases h)⟩,fun ed _=>?_⟩
  ·refine (IW Dt).mono ?_;rintro r s' ⟨hs,e⟩;exact ⟨e,⟨fun _=>hs,fun h=>by cases h⟩,(fun h=>by cases h),(fun h=>by cases h),(fun h=>by cases h)⟩
  refine ⟨y.dev,by rw [Z.at.au];rfl,fun eg cp _=>⟨y.dev,by rw [(Z.ext (F cp)).at.au];rfl,rfl⟩,y.dev,by rw [Z.at.au];rfl,fun eh cr _=>⟨y.dev,by rw [(Z.ext (F cr)).at.au];rfl,rfl⟩,v,lk _ (Ext.refl _),fun ei cu _=>⟨v,lk _ (F cu),rfl⟩,fun ej cv em hS=>?_,⟨.aN [.agg ((vN q).map (.int .u64)),.int .i64 0],(fun _=>⟨vN q,0,rfl,Pa q,fun _=>⟨rfl,rfl⟩⟩),(fun h=>by cases h),(fun h=>by cases h)⟩,fun et bj=>?_⟩
  ·have bk:=hb.ext (F cv);cases ar:aK y.dev with
   | false =>
    refine (Tq bk y.dev (.inl ar)).mono ?_;rintro r s' ⟨rfl,e⟩;exact ⟨_,_,rfl,e,⟨(fun h=>by cases h),(fun h=>by cases h)⟩,(fun _=>⟨_,_,rfl,rfl,fun h=>by cases h⟩),(fun h=>by cases h),(fun h=>by cases h)⟩
   | true =>
    refine (TG (hS.1.1 rfl) (by decide) ar bk bi).mono ?_;rintro r s' ⟨rfl,e⟩;exact ⟨_,_,rfl,e,⟨(fun h=>by cases h),(fun h=>by cases h)⟩,(fun _=>⟨_,_,rfl,Pa q,fun _=>⟨rfl,rfl⟩⟩),(fun h=>by cases h),(fun h=>by cases h)⟩
  obtain ⟨vv,z,rfl,aw,cw⟩:=bj.1 rfl;refine ⟨_,_,rfl,fun eA cx cy _=>aj.intro cy rfl fun bl eB a8=>⟨a8.ext,⟨(fun h=>by cases h),fun _=>⟨bl,_,rfl,a8.at,(F cx).none a8.no,_,rfl,rfl,fun c hc=>?_⟩⟩,(fun h=>by cases h),(fun _=>⟨bl,rfl⟩),(fun h=>by cases h)⟩,⟨.ptr (some (0,0)),(fun h=>by cases h),(fun _=>⟨0,rfl⟩),(fun h=>by cases h)⟩,fun eI bm=>?_⟩
  ·simp only [List.mem_cons,List.not_mem_nil,or_false] at hc;refine ⟨0,?_⟩;rcases hc with h | h | h | h | h | h | h | h | h | h | h | h | h | h | h | h <;> exact h
  obtain ⟨lv,rfl⟩:=bm.2.1 rfl;refine ⟨_,rfl,fun eQ e0 cz hS _=>?_,⟨.aN [],(fun h=>by cases h),(fun h=>by cases h),(fun _=>rfl)⟩,fun e7 bo=>?_⟩
  ·obtain ⟨l',o',e1,e2,⟨z1,cs,rfl,z3,z4⟩⟩:=hS.2.2.1.2 rfl;simp only [AV.ptr.injEq,Option.some.injEq,Prod.mk.injEq,and_true] at e1;subst e1;refine ⟨⟨cq _ _,by simp [aw]⟩,bu.own cz e2 (by simp [aw,z3]) fun cA P=>?_⟩;have oP:Am.Own cA lv (vv.map (.int .u64)):=by
    have:=P.at;rw [dD (by simp [aw,z3])] at this;exact this
   have zP:ZO X lv (.cells (vv.map (.int .u64)) 0 false):=⟨z1,_,rfl,by simp [aw],fun c hc=>by obtain ⟨k,_,e⟩:=List.mem_map.1 hc;exact ⟨k,e.symm⟩⟩;refine ⟨⟨⟨fun y o ho hz=>?_,fun y o ho hz=>?_,P.mut.2⟩,(fun _=>⟨lv,_,rfl,oP⟩)⟩,⟨(fun h=>by cases h),(fun h=>by cases h)⟩,(fun h=>by cases h),(fun h=>by cases h),(fun _=>rfl)⟩
   ·by_cases M:y=lv
    ·subst M;rw [e2] at ho;obtain rfl:=Option.some.inj ho;exact absurd ⟨z1,cs,rfl,z3,z4⟩ hz
    ·exact P.mut.1 y o (by simpa using M) ho
   ·by_cases M:y=lv
    ·subst M;exact ⟨_,oP,zP⟩
    ·exact ⟨o,P.mut.1 y o (by simpa using M) ho,hz⟩
  refine ⟨bo.2.2 rfl,fun cB cC bs hS hC=>?_⟩;obtain ⟨e8,g',e1,c0⟩:=hC rfl;simp only [List.cons.injEq,AV.ptr.injEq,AV.agg.injEq,Option.some.injEq,Prod.mk.injEq,and_true] at e1;obtain ⟨rfl,rfl⟩:=e1;have a9:=F cC;have c1:=Z.ext a9;rcases a7 with ⟨rfl,c2⟩ | ⟨ar,Lo,c3⟩
  ·refine ⟨fun m vs s'=>vs=[.int .i64 0]/\s'=cB,0,⟨rfl,rfl⟩,?_⟩;rintro m bx ab ⟨hv,rfl⟩;simp only [List.cons.injEq,AV.int.injEq,true_and,and_true] at hv;subst hv;exact ⟨_,((bq.nil (s:=ab)).sl bf).cJ dA _,af.no rfl (fin bs (c2.ext a9).up)⟩
  obtain ⟨rfl,rfl⟩:=cw ar;refine ⟨fun m vs s'=>∃ k2:Nat,vs=[.int .i64 (k2:Nat)]/\k2<=Lo.length/\m=Lo.length - k2/\aG s'/\K4 s s' w p ml mh i [[O]] y.dev q out Lo k2/\Am.Own s' O (T4 y)/\Am.Own s' lv ((vN q).map (.int .u64)),Lo.length,⟨0,rfl,by omega,rfl,bs,c3.ext a9,c1,c0⟩,?_⟩;rintro m bx ab ⟨k2,hv,e9,rfl,a2,R,b0,b1⟩;simp only [List.cons.injEq,AV.int.injEq,true_and,and_true] at hv;subst hv;refine ⟨_,R.row.cJ dA _,af.dec (fun c7=>?_) (fun c8=>fin a2 R.Yh.up)⟩;obtain ⟨C,a0⟩:=cT (l:=Lo) (i:=k2) (by omega);have ad:=List.mem_of_getElem? a0;obtain ⟨b2,o2,m8,m9⟩:=R.row.ix (by decide) bf dA uR a0;have b3:aC ab b2 o2 2=some (aI C.ev.id):=by
   have:=oS (m9 _ (Ext.refl _)).2 (m:=2) (by omega);rw [this];rfl
  refine ⟨b2,o2,m8 _,_,b3,kj a2 rfl rfl rfl fun b4 b5 K=>?_⟩;have H:Am.Own b5 b4 (aI C.ev.id):=K.own;have a3:=R.ext K.ext;have ae:=b0.ext K.ext;have a4:=b1.ext K.ext;obtain ⟨a',c4,⟨e',fa⟩,fb,fc⟩:=a3.ev ad;obtain ⟨rm,l1,l2,lu⟩:=a3.step (by omega) a0;refine af.no rfl ⟨C.ev.id.r,by rw [H.at.au];rfl,af.no (by rw [a'];rfl) ⟨C.ev.id.r,by rw [H.at.au];rfl,af.no (by rw [a'];rfl) ⟨C.ev.id.r,by rw [H.at.au];rfl,lv,0,by rw [a'];exact XY lv,(q:Nat),Xn q lv a4,C.ev.id.c,by rw [H.at.au];rfl,af.no (WE c4) ⟨y.dev,by rw [ae.at.au];rfl,some rm,l1,_,H.at.aC (by simp [aI]),0,l2,af.no rfl ⟨y.dev,by rw [ae.at.au];rfl,some rm,l1,_,H.at.aC (by simp [aI]),lu K.wf fun I J al c9=>?_⟩⟩⟩⟩⟩;have am:=al _ _ ae;have b6:=al _ _ a4;obtain ⟨Y,o3,n8,n9⟩:=J.row.ix (by decide) bf dA uR a0;have b7:∀ s',Ext I s'->au s' Y (o3+2)=some (.str C.ev.cQ):=fun s' e=>by
   rw [(n9 _ e).1 2 (by omega)];rfl
  have ba:∀ s',Ext I s'->au s' Y (o3+20)=some C.tv:=fun s' e=>by
   rw [(n9 _ e).1 20 (by omega),qa]
  obtain ⟨hs,P,bb,bc,b8⟩:=J.has (by omega) C.ev.cQ;have c5:=bb C ad rfl;obtain ⟨_,_,_,_,b9⟩:=J.ev ad;refine ⟨_,J.aC.1,Y,o3,n8 _,C.ev.cQ,b7 _ (Ext.refl _),y.dev,by rw [am.at.au];rfl,_,qN _ _,?_⟩;refine aa.use b8 ?_;rintro c' da ⟨rfl,b'⟩ ca;refine ⟨_,rfl,fun vs s'=>vs=[.bool true]/\Ext I s'/\aG s',?_,fun m vs s'=>∃ j:Nat,vs=[.bool ((C.ev.to.take j).any fun e=>(e.dev==y.dev)&&(hs||P e.dot)),.int .i64 (j:Nat)]/\j<=C.ev.to.length/\m=C.ev.to.length - j/\Ext I s'/\aG s',C.ev.to.length,⟨0,rfl,by omega,rfl,b',ca⟩,?_⟩
  ·rintro b db ⟨hb,an,cb⟩;obtain rfl:b=true:=by simpa using hb
   exact af.no rfl ⟨Lo.length - (k2+1),by omega,k2+1,by rw [BI (by omega)],by omega,rfl,cb,J.ext an,am.ext an,b6.ext an⟩
  rintro m dc dd df ⟨j,hv,fe,rfl,A,S⟩;simp only [List.cons.injEq,AV.int.injEq,AV.bool.injEq,true_and,and_true] at hv;obtain ⟨rfl,rfl⟩:=hv;have cc:=am.ext A;have ao:=b9.2.ext A;refine ⟨Y,o3,n8 _,_,ba _ A,_,ao.cJ eX _,af.dec (fun dk=>?_) (fun dl=>?_)⟩
  ·obtain ⟨e,he⟩:=cT (l:=C.ev.to) (i:=j) (by omega);obtain ⟨lt,ot,t8,t9⟩:=ao.ix (by decide) dV eX ze he;have cd:=TX C.ev.to (fun e=>(e.dev==y.dev)&&(hs||P e.dot)) j he;have go:∀ {b:Bool} {s':AS},b=((C.ev.to.take j).any (fun e=>(e.dev==y.dev)&&(hs||P e.dot))||((e.dev==y.dev)&&(hs||P e.dot)))->Ext I s'->aG s'->∃ m',m'<C.ev.to.length - j/\∃ j':Nat,[AV.bool b,.int .i64 (IntKind.wrap .i64 ((j:Int)+1))]=[.bool ((C.ev.to.take j').any fun e=>(e.dev==y.dev)&&(hs||P e.dot)),.int .i64 (j':Nat)]/\j'<=C.ev.to.length/\m'=C.ev.to.length - j'/\Ext I s'/\aG s':=fun hb e w=>⟨C.ev.to.length - (j+1),by omega,j+1,by rw [BI (by omega),cd,hb],by omega,rfl,e,w⟩;refine af.mk (fun hb=>go (by rw [hb];rfl) A S) (fun hb=>⟨Y,o3,n8 _,_,ba _ A,lt,ot,t8 _,e.dev,by rw [(t9 _ (Ext.refl _)).1 2 (by omega)];rfl,y.dev,by rw [cc.at.au];rfl,af.mk (fun hd=>?_) (fun hd=>go (by rw [hb,hd];rfl) A S)⟩);cases hs with
   | true=>exact af.yes rfl (go (by rw [hb,hd];rfl) A S)
   | false =>
    refine af.no rfl ⟨_,by have:=(J.ext A).aC.2;exact this,Y,o3,n8 _,_,ba _ A,lt,ot,t8 _,aI e.dot,by have:=oS (t9 _ (Ext.refl _)).2 (m:=2) (by omega);rw [this];rfl,?_⟩;refine aa.use (bc _ A e.dot) ?_;rintro dm dp ⟨rfl,ce⟩ cf;exact ⟨_,rfl,go (by rw [hb,hd];simp) (A.trans ce) cf⟩
  ·obtain rfl:j=C.ev.to.length:=by omega
   rw [List.take_length,c5];exact ⟨rfl,A,S⟩
 ·refine ⟨y.dev,by rw [B.at.au];rfl,y.n,by rw [B.at.au];rfl,?_⟩;refine aa.use (D.XV (by omega) y.dev y.n) ?_;rintro v s' ⟨v,e,rfl,sm,(⟨he,W⟩ | ⟨rfl,hQ⟩)⟩ w'
  ·exact ⟨_,_,rfl,af.no (by simpa using he) (fin w' W.up)⟩
  ·have o':=Q sm;exact ⟨_,_,rfl,af.yes rfl ⟨y.dev,by rw [o'.at.au];rfl,hQ w' fun s2 w2 S2=>fin w2 S2.up⟩⟩
 ·refine ⟨y.dev,by rw [B.at.au];rfl,?_⟩;refine aa.use (D.Pb (by omega) y.dev) ?_;rintro v s' ⟨v,e,rfl,sm,(⟨he,W⟩ | ⟨rfl,hQ⟩)⟩ w'
  ·exact ⟨_,_,rfl,af.no (by simpa using he) (fin w' W.up)⟩
  ·have o':=Q sm;exact ⟨_,_,rfl,af.yes rfl ⟨y.dev,by rw [o'.at.au];rfl,hQ w' fun s2 w2 S2=>fin w2 S2.up⟩⟩
end Go.Proofs.YtohgmogbabkkeaaGreat
end

section
namespace Go.Proofs.YtohgmogbabkkeaaGreat
open Go.Am Go.av Go.aB Go.ChangeShapes Go.WideShapes Go.ChangeAt Go.RowKit
set_option maxRecDepth 100000 in
theorem Ve:Dp Tryz.prog 5 lN=some ([.int .i64,.int .i64,.str,.str]++List.replicate 16 (.int .u64)++[.bool,.bool]):=by kernel_rfl
set_option maxRecDepth 100000 in
theorem Vx {H:Type} {enc:TypeId×Value->H} {W:World} {base:Nat} {v:Value} (hv:Value.okWide Tryz.prog W .any base dS v) (h:∃ (d:DataW H) (p:List MemPlace),DataW.Trod enc Tryz.prog W 0 (fun _=>true) true dS v d p) :
  ∃ l:List NA,Sl T4 22 (sW W) (gC W.heap.size (MW W) v) l:=by
 obtain ⟨d,p,h⟩:=h;obtain ⟨C,b,h2,_⟩:=Qw (d:=5) (hT.cR _ _ gw) Ve (by kernel_rfl) (by decide) hv h;obtain ⟨l,e1,e2,A⟩:=Io (f:=T4) (Q:=fun i=>True) C fun c j=>by
  have k:=h2 c j;obtain ⟨a1,B,rfl,⟨m,rfl,_⟩,n⟩:=k.cons;obtain ⟨a2,c2,rfl,⟨o,rfl,_⟩,r⟩:=n.cons;obtain ⟨a3,D,rfl,⟨w,rfl,_⟩,x⟩:=r.cons;obtain ⟨a4,y,rfl,⟨z,rfl,_⟩,e⟩:=x.cons;exact ⟨⟨m,o,w,z,y,by simpa using e.len,List.all_eq_true.2 e.one⟩,rfl,trivial⟩
 rw [e1,e2] at b;exact ⟨l,b⟩
end Go.Proofs.YtohgmogbabkkeaaGreat
end
