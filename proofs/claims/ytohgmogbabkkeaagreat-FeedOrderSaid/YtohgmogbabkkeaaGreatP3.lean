/-
  A part of QX proof: an abstract machine CF QX model, and qO of qP of this program CF it.
-/
import Derived.Carry
import Derived.RangeFuncSeq
import Derived.RangeFuncCalls
import Derived.TacticsIn
import GoSem.Extern.MapsClone
import Derived.Laws.Externs
import Derived.Test.YtohgmogbabkkeaaGreatP2
set_option linter.unusedVariables false
set_option linter.unusedSimpArgs false
set_option linter.unusedSectionVars false
namespace Go.Am
section
open Go.ChangeShapes Go.WideShapes Go.ChangeAt Go.RowKit
theorem H6 {P:Program} {g:FuncId} {b:Bool} {d:Array Value} {W:World} (k:gB P g=true) (h:aa P g (d.toList.map (dM W.heap.size (MW W))) (sW W) fun v s'=>v=.bool b):Calls P g d W fun e W'=>e=.returned (.bool b)/\Below W.heap.size W W':=by
 have i:au (gW W.heap.size (MW W)) (d.toList.map (dM W.heap.size (MW W))) d.toList:=by
  rw [<- Jk];exact CU _ _ _
 have m:Calls P g d W (fun e w'=>∃ γ' v cv s',e=.returned cv/\ai γ' v cv/\gq W.heap.size (gW W.heap.size (MW W)) (sW W) W γ' s' w'/\Rel W.heap.size γ' s' w'/\v=.bool b):=by
  rcases h W.heap.size _ d W i (WR W) with ⟨_,j⟩ | ⟨cv,w',j,_⟩
  ·exact j
  ·rw [mP k] at j;cases j
 refine m.mono ?_;rintro e w' ⟨γ',v,cv,s',rfl,hv,hd,hr,rfl⟩;simp only [ai] at hv;subst hv;exact ⟨rfl,hd.below fun l o h=>by obtain ⟨_,c,e,fz,_,rfl⟩:=WQ h;rfl⟩
theorem zi {H:Type} {enc:TypeId×Value->H} {P:Program} {W W':World} (k:laidOutB P=true) (hb:Below W.heap.size W W'):∀ (ts:List TypeId) (vs:List Value) (ds:List (DataW H)) (ps:List MemPlace),
  (ts.all fun t=>P.readableRec t&&decide (t<P.types.size))=true->DataW.TrodAll enc P W 0 (fun _=>true) true ts vs ds ps->(∀ x∈ps,x.block<W.heap.size) ->
  DataW.TrodAll enc P W' 0 (fun b=>decide (b<W.heap.size)) true ts vs ds ps
 | [],vs,ds,ps,_,h,_=>by
  obtain ⟨rfl,rfl,rfl⟩:=trodAll_nil h;exact h
 | t::ts,vs,ds,ps,hr,h,c=>by
  simp only [List.all_cons,Bool.and_eq_true,decide_eq_true_eq] at hr;obtain ⟨v,e,d,i,a,b,rfl,rfl,rfl,l,h2⟩:=trodAll_cons h;exact ⟨a,b,Below.trod k hr.1.1 hr.1.2 l hb (fun x j=>c x (by simp [j])),zi k hb ts e i b hr.2 h2 (fun x j=>c x (by simp [j])),rfl⟩
theorem GH {H:Type} {enc:TypeId×Value->H} {P:Program} {W:World} {base:Nat} {spare:Nat->Bool} {held:Bool}:∀ {ts:List TypeId} {vs:List Value} {ds:List (DataW H)} {ps:List MemPlace},DataW.TrodAll enc P W base spare held ts vs ds ps ->
  ∀ (i:Nat) t,ts[i]? = some t->∃ v d p,vs[i]? = some v/\ds[i]? = some d/\DataW.Trod enc P W base spare held t v d p
 | [],_,_,_,_,i,t,hi=>by simp at hi
 | t::ts,vs,ds,ps,h,i,c,hi=>by
  obtain ⟨v,e,d,j,a,b,rfl,rfl,rfl,k,h2⟩:=trodAll_cons h;cases i with
  | zero=>simp at hi;subst hi;exact ⟨v,d,a,rfl,rfl,k⟩
  | succ i=>simp at hi;obtain ⟨v',l,p',e1,e2,m⟩:=GH h2 i c hi;exact ⟨v',l,p',by simpa using e1,by simpa using e2,m⟩
theorem D6 {H:Type} {enc:TypeId×Value->H} {P:Program} {W:World} {base:Nat} {spare:Nat->Bool} {held:Bool}:∀ {ts:List TypeId} {vs:List Value} {ds:List (DataW H)} {ps:List MemPlace},DataW.TrodAll enc P W base spare held ts vs ds ps->vs.length=ts.length/\ds.length=ts.length
 | [],_,_,_,h=>by obtain ⟨rfl,rfl,rfl⟩:=trodAll_nil h;exact ⟨rfl,rfl⟩
 | t::ts,vs,ds,ps,h=>by
  obtain ⟨v,c,d,e,a,b,rfl,rfl,rfl,i,h2⟩:=trodAll_cons h;have:=D6 h2;simp [this.1,this.2]
theorem uj {α:Type} {f:α->List AV} {Q:α->Prop}:∀ (C:List (List AV)),(∀ c∈C,∃ x,c=f x/\Q x)->∃ l:List α,C.flatten=l.flatMap f/\C.length=l.length/\∀ x∈l,Q x
 | [],_=>⟨[],by simp⟩
 | c::C,h=>by
  obtain ⟨x,rfl,b⟩:=h c (by simp);obtain ⟨l,d,h2,h3⟩:=uj C fun c e=>h c (by simp [e]);exact ⟨x::l,by simp [d],by simp [h2],by simpa [b] using h3⟩
theorem cQ.cons {k:LK} {ks:List LK} {c:List AV} (h:cQ (k::ks) c):∃ v vs,c=v::vs/\CV k v/\cQ ks vs:=by
 cases c with
 | nil=>exact h.elim
 | cons v vs=>exact ⟨v,vs,rfl,h.1,h.2⟩
theorem cQ.nil {c:List AV} (h:cQ [] c):c=[]:=by
 cases c with
 | nil=>rfl
 | cons v vs=>exact h.elim
end
end Go.Am
namespace Go.aB
section
open Go.aq
structure Key where
 t:List UInt8
 d:List UInt8
 deriving DecidableEq
structure eP where
 dot:aO
 key:Key
 gone:Bool
 deriving DecidableEq
end
end Go.aB
namespace Go.aq.SI
section
end
end Go.aq.SI
namespace Go.Am
section
structure Ri {K:Type} [DecidableEq K] (T:TT) (t kt et:TypeId) (kf:K->AV) (z:AV):Prop where
 u:T.cW t=some (.map kt et)
 eq:∀ a b,iZ T 100 kt (kf a) (kf b)=some (decide (a=b))
 ok:∀ a,n_ T 100 kt (kf a)=true
 bits:∀ a,wQ 100 (kf a) (kf a)=true
 z:T.sS et=some z
def dF {K V:Type} [DecidableEq K] (es:List (K×V×Nat)) (k:K):Option V:=(es.find? fun e=>decide (e.1=k)).map fun e=>e.2.1
def mE {K V:Type} (kf:K->AV) (vf:V->AV) (es:List (K×V×Nat)):List (AV×AV×Nat):=es.map fun e=>(kf e.1,vf e.2.1,e.2.2)
structure eR {K V:Type} (kf:K->AV) (vf:V->AV) (s:AS) (m:Nat) (es:List (K×V×Nat)) (c:Nat) (ro:Bool):Prop where
 obj:s.h m=some (.map (mE kf vf es) c ro)
 st:es.Pairwise fun a b=>a.2.2<b.2.2
 lt:∀ e∈es,e.2.2<c
 nd:es.Pairwise fun a b=>a.1≠b.1
section
variable {K V:Type} [DecidableEq K] {kf:K->AV} {vf:V->AV}
theorem uk (k:K):dF ([]:List (K×V×Nat)) k=none:=rfl
theorem d_ (e:K×V×Nat) (es:List (K×V×Nat)) (k:K):dF (e::es) k=if e.1=k then some e.2.1 else dF es k:=by
 unfold dF;rw [List.find?_cons];by_cases h:e.1=k
 ·simp [h]
 ·simp [h]
theorem Ml (es fs:List (K×V×Nat)) (k:K):dF (es++fs) k=(dF es k).or (dF fs k):=by
 induction es with
 | nil=>simp [uk]
 | cons e es b =>
  rw [List.cons_append,d_,d_,b];split <;> simp
theorem qW {es:List (K×V×Nat)} {k:K} {v:V} (h:dF es k=some v):∃ (j n:Nat),es[j]? = some (k,v,n):=by
 induction es with
 | nil=>cases h
 | cons e es c =>
  rw [d_] at h;split at h
  ·rename_i b;obtain ⟨k',v',n⟩:=e;simp only at b h;subst b;obtain rfl:=Option.some.inj h;exact ⟨0,n,rfl⟩
  ·obtain ⟨j,n,hj⟩:=c h;exact ⟨j+1,n,by simpa using hj⟩
theorem xo {es:List (K×V×Nat)} (nd:es.Pairwise fun a b=>a.1≠b.1) {e:K×V×Nat} (h:e∈es):dF es e.1=some e.2.1:=by
 induction es with
 | nil=>cases h
 | cons x es c =>
  obtain ⟨d,n2⟩:=List.pairwise_cons.1 nd;rw [d_];rcases List.mem_cons.1 h with rfl | h
  ·rw [if_pos rfl]
  ·rw [if_neg (d e h),c n2 h]
theorem CX {es:List (K×V×Nat)} {k:K}:dF es k=none↔∀ e∈es,e.1≠k:=by
 induction es with
 | nil=>simp [uk]
 | cons e es b =>
  rw [d_];by_cases h:e.1=k
  ·rw [if_pos h];constructor
   ·intro h;cases h
   ·intro c;exact absurd h (c e (by simp))
  ·rw [if_neg h,b];simp [h]
theorem Mm {k:K} {v c:V} {n:Nat}:∀ (es:List (K×V×Nat)) (j:Nat),es[j]? = some (k,c,n)->(∀ j',j'<j->∀ e,es[j']? = some e->e.1≠k)->j<es.length->∀ k',dF (es.set j (k,v,n)) k'=if k'=k then some v else dF es k'
 | [],j,_,_,b,_=>by simp at b
 | x::es,0,hj,_,_,k'=>by
  simp only [List.getElem?_cons_zero,Option.some.injEq] at hj;subst hj;rw [List.set_cons_zero,d_,d_];by_cases e:k=k'
  ·subst e;simp
  ·simp only [if_neg e,if_neg (fun h:k'=k=>e h.symm)]
 | x::es,j+1,hj,hb,b,k'=>by
  have d:x.1≠k:=hb 0 (by omega) x rfl;rw [List.set_cons_succ,d_,d_,Mm es j (by simpa using hj) (fun j' i e l=>hb (j'+1) (by omega) e (by simpa using l)) (by simpa using b) k'];by_cases e:x.1=k'
  ·rw [if_pos e,if_pos e,if_neg (fun h=>d (e.trans h))]
  ·rw [if_neg e,if_neg e]
variable {T:TT} {t kt et:TypeId} {z:AV} (ht:Ri T t kt et kf z)
include ht
theorem A9 (k:K):∀ (es:List (K×V×Nat)) (i:Nat),(dF es k=none->wP T kt (kf k) (mE kf vf es) i=some none)/\∀ v,dF es k=some v->∃ j n,es[j]? = some (k,v,n)/\(∀ j',j'<j->∀ e,es[j']? = some e->e.1≠k)/\wP T kt (kf k) (mE kf vf es) i=some (some (i+j,vf v))
 | [],i=>⟨fun _=>rfl,fun v h=>by cases h⟩
 | e::es,i=>by
  obtain ⟨m,h2⟩:=A9 k es (i+1);simp only [mE,List.map_cons,wP,ht.eq];rw [d_];by_cases l:e.1=k
  ·rw [if_pos l];refine ⟨(fun h=>by cases h),fun v h=>?_⟩;obtain rfl:=Option.some.inj h;refine ⟨0,e.2.2,by rw [<- l];rfl,fun j' hj=>by omega,?_⟩;rw [decide_eq_true l.symm];rfl
  ·rw [if_neg l];have hd:decide (k=e.1)=false:=decide_eq_false (fun h=>l h.symm);rw [hd];refine ⟨m,fun v h=>?_⟩;obtain ⟨j,n,a,b,c⟩:=h2 v h;refine ⟨j+1,n,by simpa using a,fun j' hj e' d=>?_,by rw [show i+(j+1)=i+1+j by omega];exact c⟩;cases j' with
   | zero=>simp only [List.getElem?_cons_zero,Option.some.injEq] at d;subst d;exact l
   | succ j'=>exact b j' (by omega) e' (by simpa using d)
theorem eR.find {s:AS} {m:Nat} {es:List (K×V×Nat)} {c:Nat} {ro:Bool} (h:eR kf vf s m es c ro) (k:K) (ok:Bool) :
  dA T t (.map (some m)) (kf k) ok s=some (if ok then .aQ [((dF es k).map vf).getD z,.bool (dF es k).isSome] else ((dF es k).map vf).getD z):=by
 obtain ⟨d,h2⟩:=A9 (vf:=vf) ht k es 0;simp only [dA,ht.u,ht.ok,if_true,h.obj,Option.bind_some];cases b:dF es k with
 | none =>
  rw [d b];simp only [Option.bind_some,ht.z,Option.map_some,Option.map_none,Option.getD_none,Option.isSome_none]
 | some v =>
  obtain ⟨j,n,_,_,hf⟩:=h2 v b;rw [hf];simp only [Option.bind_some,Option.map_some,Option.getD_some,Option.isSome_some]
theorem Tk (es:List (K×V×Nat)) (j:Nat) (e:K×V×Nat):(mE kf vf es).set j (kf e.1,vf e.2.1,e.2.2)=mE kf vf (es.set j e):=by
 simp [mE,List.map_set]
theorem eR.pq {s:AS} (D:aJ s) {m:Nat} {es:List (K×V×Nat)} {c:Nat} (h:eR kf vf s m es c false) (k:K) (v:V) {Q:AS->Prop}
  (F:∀ s' es' c',eR kf vf s' m es' c' false->(∀ k',dF es' k'=if k'=k then some v else dF es k')->aJ s'->bB [m] s s'->Q s'):bC (dG T t (.map (some m)) (kf k) (vf v) s) Q:=by
 obtain ⟨G,h2⟩:=A9 (vf:=vf) ht k es 0;cases y:dF es k with
 | none =>
  have A:=CX.1 y;have d:=D.put (o:=.map (mE kf vf es++[(kf k,vf v,c)]) (c+1) false) h.obj rfl;refine ⟨_,?_,F _ (es++[(k,v,c)]) (c+1) ⟨?_,?_,?_,?_⟩ (fun k'=>?_) d.wf d.mut⟩
  ·simp only [dG,ht.u,h.obj,ht.ok,if_true,G y,Option.bind_some]
  ·rw [d.at];simp [mE]
  ·refine List.pairwise_append.2 ⟨h.st,List.pairwise_singleton _ _,fun a B b hb=>?_⟩;obtain rfl:=List.mem_singleton.1 hb;exact h.lt a B
  ·intro e l;rcases List.mem_append.1 l with l | l
   ·have:=h.lt e l;omega
   ·obtain rfl:=List.mem_singleton.1 l;show c<c+1;omega
  ·refine List.pairwise_append.2 ⟨h.nd,List.pairwise_singleton _ _,fun a B b hb=>?_⟩;obtain rfl:=List.mem_singleton.1 hb;exact A a B
  ·rw [Ml,d_,uk];by_cases e:k=k'
   ·subst e;rw [if_pos rfl,if_pos rfl,y];rfl
   ·rw [if_neg e,if_neg (fun h=>e h.symm)];cases dF es k' <;> rfl
 | some z =>
  obtain ⟨j,n,hj,hb,hf⟩:=h2 z y;rw [Nat.zero_add] at hf;have p:j<es.length:=by
   rcases Nat.lt_or_ge j es.length with h | h
   ·exact h
   ·rw [List.getElem?_eq_none h] at hj;cases hj
  have C:(mE kf vf es)[j]? = some (kf k,vf z,n):=by simp [mE,hj]
  have d:=D.put (o:=.map (mE kf vf (es.set j (k,v,n))) c false) h.obj rfl;have r:(es.set j (k,v,n)).map (fun e=>(e.1,e.2.2))=es.map fun e=>(e.1,e.2.2):=by
   apply List.ext_getElem?;intro i;simp only [List.getElem?_map,List.getElem?_set];split
   ·rename_i e;subst e;rw [hj];first | rfl | (rw [if_pos p];rfl)
   ·rfl
  have w:∀ (R:K×Nat->K×Nat->Prop),(es.Pairwise fun a b=>R (a.1,a.2.2) (b.1,b.2.2))->((es.set j (k,v,n)).Pairwise fun a b=>R (a.1,a.2.2) (b.1,b.2.2)):=by
   intro R hp;have:=(List.pairwise_map (f:=fun e:K×V×Nat=>(e.1,e.2.2)) (R:=R)).2 hp;rw [<- r] at this;exact List.pairwise_map.1 this
  refine ⟨_,?_,F _ (es.set j (k,v,n)) c ⟨d.at,w (fun a b=>a.2<b.2) h.st,?_,w (fun a b=>a.1≠b.1) h.nd⟩ (fun k'=>?_) d.wf d.mut⟩
  ·simp only [dG,ht.u,h.obj,ht.ok,if_true,hf,Option.bind_some,C,ht.bits,if_true];rw [<- Tk ht es j (k,v,n)]
  ·intro e l;obtain ⟨i,hi⟩:=List.mem_iff_getElem?.1 l;rw [List.getElem?_set] at hi;by_cases x:j=i
   ·rw [if_pos x] at hi
    first
     | (obtain rfl:=Option.some.inj hi;exact h.lt (k,z,n) (List.mem_of_getElem? hj))
     | (rw [if_pos p] at hi;obtain rfl:=Option.some.inj hi;exact h.lt (k,z,n) (List.mem_of_getElem? hj))
   ·rw [if_neg x] at hi;exact h.lt e (List.mem_of_getElem? hi)
  ·exact Mm es j hj hb p k'
theorem eR.b_ {s:AS} {m:Nat} {es:List (K×V×Nat)} {c:Nat} {ro:Bool} (h:eR kf vf s m es c ro):aL T t (.map (some m)) s=some (.int .i64 (es.length:Nat)):=by
 simp [aL,ht.u,h.obj,mE]
end
section
variable {K V:Type} {kf:K->AV} {vf:V->AV}
theorem eR.mut {s s':AS} {m:Nat} {es:List (K×V×Nat)} {c:Nat} {ro:Bool} {L:List Nat} (h:eR kf vf s m es c ro) (e:bB L s s') (hm:m ∉ L):eR kf vf s' m es c ro:=⟨e.1 _ _ hm h.obj,h.st,h.lt,h.nd⟩
theorem eR.ext {s s':AS} {m:Nat} {es:List (K×V×Nat)} {c:Nat} {ro:Bool} (h:eR kf vf s m es c ro) (e:Ext s s'):eR kf vf s' m es c ro:=h.mut (L:=[]) e.mut (by simp)
theorem eR.new {s:AS} {m:Nat} (h:s.h m=some (.map [] 0 false)):eR kf vf s m ([]:List (K×V×Nat)) 0 false:=⟨h,List.Pairwise.nil,by simp,List.Pairwise.nil⟩
/-! ### ranges -/
structure Iter (s:AS) (it m:Nat) (es:List (K×V×Nat)) (c:Nat) (done:List (K×V×Nat)):Prop where
 «at»:s.h it=some (.fW (some m) c (done.map fun e=>e.2.2) c false)
 sub:∀ e∈done,e∈es
 nd:done.Nodup
theorem Iter.mut {s s':AS} {it m:Nat} {es done:List (K×V×Nat)} {c:Nat} {L:List Nat} (h:Iter s it m es c done) (e:bB L s s') (hi:it ∉ L):Iter s' it m es c done:=⟨e.1 _ _ hi h.at,h.sub,h.nd⟩
theorem Iter.ext {s s':AS} {it m:Nat} {es done:List (K×V×Nat)} {c:Nat} (h:Iter s it m es c done) (e:Ext s s'):Iter s' it m es c done:=h.mut (L:=[]) e.mut (by simp)
theorem Jl {es:List (K×V×Nat)} (st:es.Pairwise fun a b=>a.2.2<b.2.2) {a b:K×V×Nat} (c:a∈es) (hb:b∈es) (h:a.2.2=b.2.2):a=b:=by
 induction es with
 | nil=>cases c
 | cons x es d =>
  obtain ⟨s1,s2⟩:=List.pairwise_cons.1 st;rcases List.mem_cons.1 c with ea | c <;> rcases List.mem_cons.1 hb with eb | hb
  ·rw [ea,eb]
  ·have:=s1 b hb;rw [ea] at h;omega
  ·have:=s1 a c;rw [eb] at h;omega
  ·exact d s2 c hb
open Classical in
theorem mw {α:Type}:∀ {d es:List α},d.Nodup->(∀ e∈d,e∈es)->d.length<=es.length
 | [],es,_,_=>Nat.zero_le _
 | x::d,es,h,hs=>by
  obtain ⟨i,n2⟩:=List.nodup_cons.1 h;have b:=hs x (by simp);have:=mw (d:=d) (es:=es.erase x) n2 fun e c=>(List.mem_erase_of_ne (fun h=>i (by rw [<- h];exact c))).2 (hs e (by simp [c]));have hp:0<es.length:=List.length_pos_of_mem b;rw [List.length_erase_of_mem b] at this;simp only [List.length_cons];omega
theorem Iter.lt {s:AS} {it m:Nat} {es done:List (K×V×Nat)} {c:Nat} (h:Iter s it m es c done) {e:K×V×Nat} (i:e∈es) (j:e ∉ done):done.length<es.length:=by
 have:=mw (d:=e::done) (es:=es) (List.nodup_cons.2 ⟨j,h.nd⟩) fun x b=>by
  rcases List.mem_cons.1 b with rfl | b
  ·exact i
  ·exact h.sub x b
 simp only [List.length_cons] at this;omega
theorem Iter.next {s:AS} (G:aJ s) {it m:Nat} {es done:List (K×V×Nat)} {c:Nat} {ro:Bool} (h:eR kf vf s m es c ro) (hi:Iter s it m es c done) {A:Prop} {B:AV->AV->AS->Prop}
  (H:(∀ e∈es,e∈done)->A) (I:∀ e s',e∈es->e ∉ done->Iter s' it m es c (done++[e])->aJ s'->bB [it] s s'->B (kf e.1) (vf e.2.1) s'):Wa (zA (.ptr (some (it,0))) s) A B:=by
 have j:¬ (done.map (fun e=>e.2.2)≠[]/\mE kf vf es≠[]/\((mE kf vf es).all fun e=>decide (c<=e.2.2))=true):=by
  rintro ⟨_,h2,h3⟩;cases es with
  | nil=>exact h2 rfl
  | cons e es =>
   have:=h.lt e (by simp);simp [mE] at h3;omega
 refine ⟨_,_,(by simp only [zA,hi.at,h.obj];rw [if_neg j]),?_,?_⟩
 ·intro l;refine H fun e d=>?_;have w:=h.lt e d;simp only [List.isEmpty_iff,List.filter_eq_nil_iff] at l;have:=l (kf e.1,vf e.2.1,e.2.2);simp only [List.mem_filter,mE,List.mem_map] at this;have D:(done.map fun e=>e.2.2).contains e.2.2=true:=by
   cases J:(done.map fun e=>e.2.2).contains e.2.2 with
   | true=>rfl
   | false=>exact absurd (decide_eq_true w) (this ⟨⟨e,d,rfl⟩,by rw [J];rfl⟩)
  simp only [List.contains_iff_mem,List.mem_map] at D;obtain ⟨e',n,y⟩:=D;rw [<- Jl h.st (hi.sub e' n) d y];exact n
 ·intro k v s' hm;obtain ⟨x,i,l⟩:=List.mem_map.1 hm;have z:x∈(mE kf vf es).filter fun e=>!(done.map fun e=>e.2.2).contains e.2.2:=by
   rcases List.mem_append.1 i with i | i
   ·exact (List.mem_filter.1 i).1
   ·exact (List.mem_filter.1 i).1
  obtain ⟨p,r⟩:=List.mem_filter.1 z;simp only [mE,List.mem_map] at p;obtain ⟨e,d,rfl⟩:=p;simp only [Prod.mk.injEq] at l;obtain ⟨rfl,rfl,rfl⟩:=l;have F:e ∉ done:=by
   intro hd;have:(done.map fun e=>e.2.2).contains e.2.2=true:=by
    simp only [List.contains_iff_mem,List.mem_map];exact ⟨e,hd,rfl⟩
   rw [this] at r;cases r
  have C:=G.put (o:=.fW (some m) c (done.map (fun e=>e.2.2)++[e.2.2]) c false) hi.at rfl;refine I e _ d F ⟨by rw [C.at];simp,fun x i=>?_,?_⟩ C.wf C.mut
  ·rcases List.mem_append.1 i with i | i
   ·exact hi.sub x i
   ·obtain rfl:=List.mem_singleton.1 i;exact d
  ·refine List.nodup_append.2 ⟨hi.nd,by simp,fun a L b hb=>?_⟩;obtain rfl:=List.mem_singleton.1 hb;rintro rfl;exact F L
theorem Iter.entry {s:AS} {it m:Nat} {es done:List (K×V×Nat)} {c:Nat} {ro:Bool} {e:K×V×Nat} (h:eR kf vf s m es c ro) (hi:Iter s it m es c (done++[e])) {Q:AV->AV->Prop} (d:Q (kf e.1) (vf e.2.1)):YW (wS (.ptr (some (it,0))) s) Q:=by
 refine ⟨_,_,?_,d⟩;have b:=hi.sub e (by simp);simp only [wS,hi.at,h.obj,if_true];have k:(List.map (fun e:K×V×Nat=>e.2.2) (done++[e])).getLast? = some e.2.2:=by simp
 rw [k];simp only [Option.bind_some];have hf:(mE kf vf es).find? (fun x=>x.2.2==e.2.2)=some (kf e.1,vf e.2.1,e.2.2):=by
  have:∀ (l:List (K×V×Nat)),(∀ x∈l,x.2.2=e.2.2->x=e)->e∈l->(mE kf vf l).find? (fun x=>x.2.2==e.2.2)=some (kf e.1,vf e.2.1,e.2.2):=by
   intro l
   induction l with
   | nil=>intro _ h;cases h
   | cons x l n =>
    intro j h2;simp only [mE,List.map_cons,List.find?_cons];cases d:(x.2.2==e.2.2) with
    | true =>
     have:=j x (by simp) (by simpa using d);rw [this]
    | false =>
     rcases List.mem_cons.1 h2 with rfl | h2
     ·simp at d
     ·exact n (fun y o=>j y (by simp [o])) h2
  exact this es (fun x p i=>Jl h.st p b i) b
 rw [hf];rfl
end
end
section
open Go.RowKit
def FG:Obj->Bool
 | .loop _=>true
 | .deferred _=>true
 | _=>false
theorem lQ.Mn {γ:bT} {w:World} {i:CI} {o:AO} {ob:Obj} (h:lQ γ w i o) (hb:w.heap[i.b]? = some ob):FG ob=false:=by
 cases o with
 | cells cs g ro=>obtain ⟨c,e,fz,d,_⟩:=h;rw [d] at hb;cases hb;rfl
 | map es clock ro=>obtain ⟨c,d,_⟩:=h;rw [d] at hb;cases hb;rfl
 | fW m since seen stepped ro =>
  cases m with
  | none=>obtain ⟨_,d⟩:=h;rw [d] at hb;cases hb;rfl
  | some m=>obtain ⟨_,j,_,d⟩:=h;rw [d] at hb;cases hb;rfl
 | qp s pos ro=>obtain ⟨_,d⟩:=h;rw [d] at hb;cases hb;rfl
 | dead=>exact h.elim
section
variable {B:Nat} {γ γ':bT} {s s':AS} {w w':World}
theorem Rel.side (h:Rel B γ s w) (hs:w.heap.size<=w'.heap.size) (hb:∀ (b:Nat) (ob:Obj),w.heap[b]? = some ob->FG ob=false->w'.heap[b]? = some ob):Rel B γ s w':=by
 refine ⟨fun l o e=>?_,h.inj,h.fin,h.Su,Nat.le_trans h.base hs⟩;obtain ⟨i,a,b,c⟩:=h.obj l o e;refine ⟨i,a,b.congr ?_,c⟩;have d:=b.lt;rw [hb i.b _ (Array.getElem?_eq_getElem d) (b.Mn (Array.getElem?_eq_getElem d)),Array.getElem?_eq_getElem d]
theorem Rel.Va (h:Rel B γ s w) {b:Nat} {ob:Obj} (d:w.heap[b]? = some ob) (hs:FG ob=true):∀ l o i,s.h l=some o->γ l=some i->i.b≠b:=by
 rintro l o i e h2 rfl;obtain ⟨i',a,b,c⟩:=h.obj l o e;rw [h2] at a;obtain rfl:=Option.some.inj a;have:=b.Mn d;rw [hs] at this;cases this
theorem gq.keeps (d:gq B γ s w γ' s' w') (h:Rel B γ s w) {b:Nat} {ob:Obj} (c:w.heap[b]? = some ob) (hs:FG ob=true):w'.heap[b]? = some ob:=by
 rw [d.V8 b (Array.getElem?_eq_some_iff.1 c).1 fun l o i e _ h2=>h.Va c hs l o i e h2];exact c
theorem gq.swap {w1 w2:World} (d:gq B γ s w1 γ' s' w2) (j:w.heap.size<=w1.heap.size) (h2:w2.heap.size<=w'.heap.size) (hf:∀ b,b<w.heap.size->(∀ l o i,s.h l=some o->o.ro=false->γ l=some i->i.b≠b)->w'.heap[b]? = w.heap[b]?) (e:Env w w'):gq B γ s w γ' s' w' :=
 ⟨d.le,hf,by have:=d.eZ;omega,fun l o i a b c=>(d.new l o i a b c).imp (fun h=>by omega) id,d.nl,d.st,d.lay,d.dom,d.YA,e⟩
end
/-! ### frames with marks -/
def FX (γ:bT) (n:Nat) (f:Fr) (ds:List Deferred) (a:Act):Prop:=a.defers=ds/\oh γ n f { a with defers:=[] }
theorem FX.mono {γ γ':bT} {n:Nat} {f:Fr} {ds:List Deferred} {a:Act} (h:FX γ n f ds a) (hle:bT.le γ γ'):FX γ' n f ds a:=⟨h.1,h.2.mono hle⟩
theorem FX.eval {γ:bT} {n:Nat} {f:Fr} {ds:List Deferred} {a:Act} (h:FX γ n f ds a) (x:Operand):ai γ (pW f x) (a.eval x):=by
 have:=h.2.eval x;cases x <;> exact this
theorem FX.put {γ:bT} {n:Nat} {f:Fr} {ds:List Deferred} {a:Act} (h:FX γ n f ds a) {d:Option Nat} {v:AV} {c:Value} (hd:eu n d=true) (hv:ai γ v c):FX γ n (bU f d v) ds (a.put d c):=by
 refine ⟨?_,?_⟩
 ·cases d <;> exact h.1
 ·have:=h.2.put hd hv;cases d <;> exact this
abbrev Fz (rd:Option Nat):Fence:={ Fence.wide with round:=rd }
def Jm (B:Nat) (γ:bT) (s:AS) (w:World) (n:Nat) (ds:List Deferred) (Q:Exit->Fr->AS->Prop):Exit->Act->World->Prop:=fun e a' w' =>
 ∃ γ' f' s',FX γ' n f' ds a'/\gq B γ s w γ' s' w'/\Rel B γ' s' w'/\Q e f' s'
theorem Jm.trans {B:Nat} {γ γ':bT} {s s':AS} {w w':World} {n:Nat} {ds:List Deferred} {Q:Exit->Fr->AS->Prop} (hd:gq B γ s w γ' s' w') {e:Exit} {a:Act} {w'':World} (h:Jm B γ' s' w' n ds Q e a w''):Jm B γ s w n ds Q e a w'':=by
 obtain ⟨b,f2,s2,c,h2,h3,h4⟩:=h;exact ⟨b,f2,s2,c,hd.trans h2,h3,h4⟩
def Kept (Iv:bT->World->Prop):Prop:=∀ B γ s w γ' s' w',Rel B γ s w->Iv γ w->gq B γ s w γ' s' w'->Iv γ' w'
theorem Kept.true:Kept fun _ _=>True:=fun _ _ _ _ _ _ _ _ _ _=>trivial
def dh (Iv:bT->World->Prop) (rd:Option Nat) (ds:List Deferred) (P:Program) (n:Nat) (c:Code) (f:Fr) (s:AS) (Q:Exit->Fr->AS->Prop):Prop :=
 ∀ (B:Nat) (γ:bT) (a:Act) (w:World),FX γ n f ds a->Rel B γ s w->Iv γ w->c.wpIn (Fz rd) 0 P (Jm B γ s w n ds Q) a w
def UO (Iv:bT->World->Prop) (P:Program) (l:Nat) (args:List AV) (s:AS) (R:AV->AS->Prop):Prop :=
 ∀ (B:Nat) (γ:bT) (b:Array Value) (w:World),au γ args b.toList->Rel B γ s w->Iv γ w ->
  YieldAt Fence.wide 0 P l b w fun e w'=>∃ γ' v cv s',e=.returned cv/\ai γ' v cv/\gq B γ s w γ' s' w'/\Rel B γ' s' w'/\R v s'
def pZ (Iv:bT->World->Prop) (P:Program) (g:FuncId) (args:List AV) (s:AS) (R:AV->AS->Prop):Prop :=
 ∀ (B:Nat) (γ:bT) (b:Array Value) (w:World),au γ args b.toList->Rel B γ s w->Iv γ w ->
  Calls P g b w fun e w'=>∃ γ' v cv s',e=.returned cv/\ai γ' v cv/\gq B γ s w γ' s' w'/\Rel B γ' s' w'/\R v s'
theorem En {F:Fence} {k:Nat} {P:Program} {Q:Exit->Act->World->Prop} {a:Act} {w:World} {c:Code} (I:Nat->Act->World->Prop) (b:Nat) (j:I b a w)
  (round:∀ n a w,I n a w->c.wpIn F k P (Exit.then (fun a' w'=>∃ n',n'<n/\I n' a' w') Q) a w):(Code.loop c).wpIn F k P Q a w:=by
 refine wpIn_loop (fun a w=>∃ n,I n a w) (fun a w=>leastOf (fun n=>I n a w)) ⟨b,j⟩ ?_;intro a w o;refine Go.wpIn_mono (round _ a w (leastOf_spec o).1) ?_;intro e a' w' i;cases e with
 | normal =>
  obtain ⟨n',m,d⟩:=i;exact show (∃ n,I n a' w')/\leastOf (fun n=>I n a' w')<leastOf (fun n=>I n a w) from ⟨⟨n',d⟩,Nat.lt_of_le_of_lt ((leastOf_spec ⟨n',d⟩).2 n' d) m⟩
 | exit id=>exact i
 | goto l=>exact i
 | ret=>exact i
 | panic p=>exact i
 | outgrown=>exact i
section
variable {Iv:bT->World->Prop} {rd:Option Nat} {ds:List Deferred} {P:Program} {n:Nat} {f:Fr} {s:AS} {Q:Exit->Fr->AS->Prop}
theorem dh.skip (h:Q .normal f s):dh Iv rd ds P n .skip f s Q:=fun B γ a w hf hr _=>wpIn_skip ⟨γ,f,s,hf,gq.refl,hr,h⟩
theorem dh.exit {id:Nat} (h:Q (.exit id) f s):dh Iv rd ds P n (.exit id) f s Q:=fun B γ a w hf hr _=>wpIn_exit ⟨γ,f,s,hf,gq.refl,hr,h⟩
theorem dh.ret (h:Q .ret f s):dh Iv rd ds P n .ret f s Q:=fun B γ a w hf hr _=>wpIn_ret ⟨γ,f,s,hf,gq.refl,hr,h⟩
theorem dh.seq (c:Kept Iv) {x y:Code} (h:dh Iv rd ds P n x f s (DZ (fun f s=>dh Iv rd ds P n y f s Q) Q)):dh Iv rd ds P n (.seq x y) f s Q:=by
 intro B γ a w hf hr hi;refine wpIn_seq (Go.wpIn_mono (h B γ a w hf hr hi) ?_);rintro e a' w' ⟨γ',f',s',b,h2,h3,h4⟩;cases e with
 | normal=>exact Go.wpIn_mono (h4 B γ' a' w' b h3 (c _ _ _ _ _ _ _ hr hi h2)) fun e a w d=>Jm.trans h2 d
 | _=>exact ⟨γ',f',s',b,h2,h3,h4⟩
theorem dh.cond {c:Operand} {x y:Code} {t:Bool} (b:pW f c=.bool t) (h:dh Iv rd ds P n (if t then x else y) f s Q):dh Iv rd ds P n (.cond c x y) f s Q:=by
 intro B γ a w hf hr hi;have hv:=hf.eval c;rw [b] at hv;simp only [ai] at hv;exact wpIn_cond hv (h B γ a w hf hr hi)
theorem dh.block {id:Nat} {c:Code} (h:dh Iv rd ds P n c f s (zw id Q)):dh Iv rd ds P n (.block id c) f s Q:=by
 intro B γ a w hf hr hi;refine wpIn_block (Go.wpIn_mono (h B γ a w hf hr hi) ?_);rintro e a' w' ⟨γ',f',s',d,h2,h3,h4⟩;cases e with
 | exit i =>
  simp only [zw] at h4;simp only [Exit.inBlock];split
  ·rename_i b;rw [if_pos b] at h4;exact ⟨γ',f',s',d,h2,h3,h4⟩
  ·rename_i b;rw [if_neg b] at h4;exact ⟨γ',f',s',d,h2,h3,h4⟩
 | _=>exact ⟨γ',f',s',d,h2,h3,h4⟩
theorem dh.loop (i:Kept Iv) {c:Code} (I:Nat->Fr->AS->Prop) (m:Nat) (b:I m f s)
  (round:∀ m f s,I m f s->dh Iv rd ds P n c f s (DZ (fun f' s'=>∃ m',m'<m/\I m' f' s') Q)):dh Iv rd ds P n (.loop c) f s Q:=by
 intro B γ a w hf hr hi;refine En (fun m a' w'=>∃ γ' f' s',FX γ' n f' ds a'/\gq B γ s w γ' s' w'/\Rel B γ' s' w'/\I m f' s') m ⟨γ,f,s,hf,gq.refl,hr,b⟩ ?_;rintro m a' w' ⟨γ',f',s',p,h2,h3,h4⟩;refine Go.wpIn_mono (round m f' s' h4 B γ' a' w' p h3 (i _ _ _ _ _ _ _ hr hi h2)) ?_;rintro e a2 w2 ⟨d,f2,s2,j,k,l,o⟩;cases e with
 | normal=>obtain ⟨m',hm,i⟩:=o;exact ⟨m',hm,d,f2,s2,j,h2.trans k,l,i⟩
 | _=>exact ⟨d,f2,s2,j,h2.trans k,l,o⟩
end
/-! ### operations -/
def vo:Op->Bool
 | .defer _=>true
 | _=>false
theorem zF {o:Oper} (h:vo o.op=false) (rd:Option Nat) (ρ:Operand->Value):o.semAt rd ρ=execOp ρ o:=by
 cases rd with
 | none=>rfl
 | some l=>exact Oper.semAt_some l ρ o fun c e=>by rw [e] at h;cases h
def xp (f:Fr):Op->Option (Nat×List AV)
 | .call c=>match c.callee with
  | .value x=>match pW f x with
   | .Ss l=>some (l,c.args.toList.map (pW f))
   | _=>none
  | _=>none
 | _=>none
theorem OF {γ:bT} {n:Nat} {f:Fr} {ds:List Deferred} {a:Act} (h:FX γ n f ds a) {o:Oper} {l:Nat} {args:List AV} (d:xp f o.op=some (l,args)) {P:Program} (w:World) :
  ∃ b:Array Value,au γ args b.toList/\(execOp a.eval o).run P w=(Instr.yield l b).run P w:=by
 obtain ⟨dst,op,type,pos,after,guard⟩:=o;simp only at d;unfold xp at d;split at d
 ·rename_i c;split at d
  ·rename_i x i;split at d
   ·rename_i l' hv;obtain ⟨rfl,rfl⟩:_/\_:=by simpa using d
    have e:=h.eval x;rw [hv] at e;simp only [ai] at e;refine ⟨c.args.map a.eval,?_,?_⟩
    ·rw [Array.toList_map];exact pn h.eval c.args.toList
    ·simp only [execOp,resolve,i,e,Deferred.ofValue,Sem.run_bind,Sem.run_pure,Result.andThen_ok,invoke];simp
   ·cases d
  ·cases d
 ·cases d
theorem Mo {P:Program} {T:TT} (hT:TT.Ok P T) {n:Nat} {o:Oper} {f:Fr} {s:AS} {K:Fr->AS->Prop} (h:Gl P T n o f s K) (r:vo o.op=false) {B:Nat} {γ:bT} {rd:Option Nat} {ds:List Deferred} {a:Act} {w:World} (hf:FX γ n f ds a) (hr:Rel B γ s w)
  {next:Act->World->Prop} {Q:Exit->Act->World->Prop} (m:∀ γ' f' s' a' w',FX γ' n f' ds a'->gq B γ s w γ' s' w'->Rel B γ' s' w'->K f' s'->next a' w'):o.wpIn (Fz rd) 0 P a w next Q:=by
 obtain ⟨hd,h⟩:=h;refine ⟨fun _ _=>trivial,?_⟩;rw [zF r];rcases h with h | ⟨l,C,h⟩
 rotate_left
 ·obtain ⟨p,hp,γ',w',cv,c,hv,b,hr'⟩:=IZ (P:=P) hr hf.eval C;rw [c];exact m γ' _ p.2 _ w' ((hf.mono b.le).put hd hv) b hr' (h p hp)
 split at h
 ·rename_i g args D;obtain ⟨d,i,c⟩:=D0 hf.2 D (P:=P) w;have j:(execOp a.eval o).run P w=(callFunc g d).run P w:=by
   have:({ a with defers:=[] }:Act).eval=a.eval:=by funext x;cases x <;> rfl
   rw [<- this];exact c
  rw [j];rcases h B γ d w i hr with ⟨y,h2⟩ | ⟨cv,w',y,γ',v,F,s',e,hv,b,hr',k⟩
  ·rw [y];refine ⟨fun h=>(by cases h),?_⟩;have AX:=callsIn_wide (n:=0) |>.2 h2;refine (show CallsIn (Fz rd) 0 P g d w _ from AX).mono ?_;rintro e w' ⟨γ',v,cv,s',rfl,hv,b,hr',k⟩;exact m γ' _ s' _ w' ((hf.mono b.le).put hd hv) b hr' k
  ·rw [y];injection e with e
   subst e;exact m γ' _ s' _ w' ((hf.mono b.le).put hd hv) b hr' k
 ·obtain ⟨v,s',z,k⟩:=h;obtain ⟨γ',w',nx,cv,c,A,hv,b,hr'⟩:=P8 hT hr hf.eval z;rw [c];rcases A with rfl | ⟨rfl,rfl⟩
  ·exact m γ' _ s' _ w' ((hf.mono b.le).put hd hv) b hr' k
  ·exact m γ' _ s' _ w' ((hf.mono b.le).put hd hv) b hr' k
def Yc (P:Program) (n:Nat) (o:Oper) (f:Fr) (K:Fr->Prop):Prop :=
 eu n o.dst=true/\∃ v,(∀ (γ:bT) (ρ:Operand->Value) (w:World),(∀ x,ai γ (pW f x) (ρ x))->∃ cv,(execOp ρ o).run P w=.ok (.value cv) w/\ai γ v cv)/\K (bU f o.dst v)
def bn (Iv:bT->World->Prop) (P:Program) (T:TT) (n:Nat) (ops:Array Oper):List Oper->Fr->AS->(Fr->AS->Prop)->Prop
 | [],f,s,K=>K f s
 | o::rest,f,s,K=>match dB ops f o with
  | some true=>match xp f o.op with
   | some (l,args)=>eu n o.dst=true/\UO Iv P l args s fun v s'=>bn Iv P T n ops rest (bU f o.dst v) s' K
   | none=>vo o.op=false/\(Gl P T n o f s (fun f' s'=>bn Iv P T n ops rest f' s' K)\/Yc P n o f fun f'=>bn Iv P T n ops rest f' s K)
  | some false=>eu n o.dst=true/\bn Iv P T n ops rest (bU f o.dst .undef) s K
  | none=>False
theorem mT {Iv:bT->World->Prop} (p:Kept Iv) {P:Program} {T:TT} (hT:TT.Ok P T) {n:Nat} {ops:Array Oper} {Q:Exit->Fr->AS->Prop} {B:Nat} {rd:Option Nat} {ds:List Deferred} {Gm:bT} {s0:AS} {w0:World}:∀ (l:List Nat) (os:List Oper) (f:Fr) (s:AS) (γ:bT) (a:Act) (w:World),
  l.map (ops[·]?)=os.map some->bn Iv P T n ops os f s (fun f s=>Q .normal f s)->FX γ n f ds a->Rel B γ s w->Iv γ w->gq B Gm s0 w0 γ s w->wpOpsIn (Fz rd) 0 P ops (Jm B Gm s0 w0 n ds Q) l a w
 | [],os,f,s,γ,a,w,d,h,hf,hr,hi,hd=>by
  cases os with
  | nil=>exact ⟨γ,f,s,hf,hd,hr,h⟩
  | cons _ _=>simp at d
 | i::l,os,f,s,γ,a,w,d,h,hf,hr,hi,hd=>by
  cases os with
  | nil=>simp at d
  | cons o os =>
   simp only [List.map_cons,List.cons.injEq] at d;simp only [wpOpsIn,d.1];simp only [bn] at h;split at h
   ·rename_i r;rw [eJ hf.2 r,if_pos rfl];split at h
    ·rename_i k args x;obtain ⟨j,m,b⟩:=OF hf x (P:=P) w;obtain ⟨fn,tmps,assign,body,D,F⟩:=h.2 B γ j w m hr hi;have y:vo o.op=false:=by
      cases G:o.op <;> first | rfl | (rw [G] at x;cases x)
     refine ⟨fun _ _=>trivial,?_⟩;rw [zF y,b,D];refine ⟨fun h=>(by cases h),(show RoundIn (Fz rd) 0 P k fn tmps assign body w _ from F).mono ?_⟩;rintro e w' ⟨γ',v,cv,s',rfl,hv,c,hr',z⟩;exact mT p hT l os _ s' γ' _ w' d.2 z ((hf.mono c.le).put h.1 hv) hr' (p _ _ _ _ _ _ _ hr hi c) (hd.trans c)
    ·rcases h.2 with h2 | ⟨A,v,b,z⟩
     ·exact Mo hT h2 h.1 hf hr fun γ' f' s' a' w' H h2 h3 h4=>mT p hT l os f' s' γ' a' w' d.2 h4 H h3 (p _ _ _ _ _ _ _ hr hi h2) (hd.trans h2)
     ·obtain ⟨cv,C,hv⟩:=b γ a.eval w hf.eval;refine ⟨fun _ _=>trivial,?_⟩;rw [zF h.1,C];exact mT p hT l os _ s γ _ w d.2 z (hf.put A hv) hr hi hd
   ·rename_i r;rw [eJ hf.2 r,if_neg (by simp)];exact ⟨fun _ _=>trivial,mT p hT l os _ s γ _ w d.2 h.2 (hf.put h.1 (pX γ)) hr hi hd⟩
   ·exact h.elim
theorem dh.region {Iv:bT->World->Prop} (b:Kept Iv) {P:Program} {T:TT} (hT:TT.Ok P T) {rd:Option Nat} {ds:List Deferred} {n:Nat} {id:Nat} {ops:Array Oper} {f:Fr} {s:AS} {Q:Exit->Fr->AS->Prop} (h:bn Iv P T n ops ops.toList f s fun f s=>Q .normal f s) :
  dh Iv rd ds P n (.region id ops false) f s Q:=by
 intro B γ a w hf hr hi;refine wpIn_region (mT b hT (List.range ops.size) ops.toList f s γ a w ?_ h hf hr hi gq.refl);apply List.ext_getElem?;intro i;simp only [List.getElem?_map];by_cases hi:i<ops.size
 ·simp [hi]
 ·have:ops.toList[i]? = none:=List.getElem?_eq_none (by simpa using hi);rw [this,List.getElem?_eq_none (by simpa using hi)];rfl
/-! ### the record,rounds -/
def Rj (l D:Nat) (r:Loop) (n:Nat) (f0:Fr) (γ:bT) (w:World):Prop :=
 w.heap[l]? = some (.loop r)/\w.heap[D]? = some (.deferred (some []))/\oh γ n f0 { tmps:=r.tmps,defers:=[] }
theorem Rj.kept {l D:Nat} {r:Loop} {n:Nat} {f0:Fr}:Kept (Rj l D r n f0) :=
 fun _ _ _ _ _ _ _ hr hi d=>⟨d.keeps hr hi.1 rfl,d.keeps hr hi.2.1 rfl,hi.2.2.mono d.le⟩
theorem UO.round {P:Program} {l D:Nat} {r:Loop} {n p:Nat} {f0:Fr} {s:AS} {v:AV} {R:AV->AS->Prop} (o:r.state=.ready) (A:r.pending=none) (C:r.params=#[p]) (hp:p<n)
  (h:dh (fun _ _=>True) (some l) [] P n r.assign (pq f0 p v) s fun e f' s'=>e=.normal/\dh (fun _ _=>True) (some l) [] P n r.body f' s' fun e _ s''=>e=.normal/\R (.bool true) s'') :
  UO (Rj l D r n f0) P l [v] s R:=by
 intro B γ j w x hr hi;obtain ⟨O,hk,I⟩:=hi;obtain ⟨c,cs,Q,hv,J⟩:=au.cN.1 x;obtain rfl:=au.iL.1 J;obtain rfl:j=#[c]:=by
  cases j with
  | mk l=>simp only at Q;rw [Q]
 refine ⟨r.fn,_,r.assign,r.body,run_yield O (by rw [C];rfl),roundIn_of_wpIn trivial ?_⟩;have U:FX γ n (pq f0 p v) [] { tmps:=(r.params.zip #[c]).foldl (fun tmps (t,a)=>tmps.setIfInBounds t a) r.tmps,defers:=[] }:=by
  refine ⟨rfl,?_⟩;have:=I.put (d:=some p) (v:=v) (c:=c) (by simpa [eu] using hp) hv;have e:(r.params.zip #[c]).foldl (fun tmps (t,a)=>tmps.setIfInBounds t a) r.tmps=r.tmps.setIfInBounds p c:=by rw [C,<- Array.foldl_toList,Array.toList_zip];rfl
  simp only [e];exact this
 refine Go.wpIn_mono (h B γ _ w U hr trivial) ?_;rintro e a1 w1 ⟨F,f1,s1,W,d1,X,rfl,hb⟩;have k:=d1.keeps hr O rfl;refine ⟨_,run_beginRound k o,?_⟩;have G:=(Array.getElem?_eq_some_iff.1 k).1;have S:Rel B F s1 (w1.putObj l (.loop { r with state:=.busy })):=X.side (by simp) fun b ob i hs=>by
  rw [World.putObj_heap_other];exact i;rintro rfl;rw [k] at i;cases i;cases hs
 have K:(w1.putObj l (.loop { r with state:=.busy })).heap[l]? = some (.loop { r with state:=.busy }):=World.putObj_heap_same G;refine Go.wpIn_mono (hb B F a1 _ W S trivial) ?_;rintro e a3 w3 ⟨L,f3,s3,h3,d3,Y,rfl,Z⟩;have y:=d3.keeps S K rfl;have H:=(Array.getElem?_eq_some_iff.1 y).1;have z:({ ({ r with state:=.busy }:Loop) with state:=if (none:Option Code).isNone then .ready else .done,pending:=none }:Loop)=r:=by
  cases r;simp only at o A;subst o;subst A;rfl
 have m:=run_endRound (P:=P) none y;rw [z] at m;refine ⟨_,_,m,L,.bool true,_,s3,rfl,rfl,d1.trans (d3.swap (by simp) (by simp) (fun b hb M=>?_) ?_),Y.side (by simp) fun b ob i hs=>?_,Z⟩
 ·by_cases e:b=l
  ·subst e;rw [World.putObj_heap_same H,k]
  ·rw [World.putObj_heap_other e,d3.V8 b (by simpa using hb) M,World.putObj_heap_other e]
 ·exact d3.env
 ·rw [World.putObj_heap_other];exact i;rintro rfl;rw [y] at i;cases i;cases hs
theorem A_ {P:Program} {n p:Nat} {g:Operand} {assign body:Code} {f:Fr} {s:AS} {ds:List Deferred} {K:AS->Prop} {m:FuncId} {cap:List AV} (J:pW f g=.func m cap) (L:gB P m=true)
  (C:∀ (l D:Nat) (r:Loop),r.state=.ready->r.pending=none->r.params=#[p]->r.assign=assign->r.body=body->pZ (Rj l D r n f) P m (.Ss l::cap) s fun _ s'=>K s')
  {B:Nat} {γ:bT} {a:Act} {w:World} (hf:FX γ n f ds a) (hr:Rel B γ s w) :
  (Code.rangeFunc g #[p] assign body).wpIn Fence.wide 0 P (fun e a' w'=>∃ D γ' s',e=.normal/\w.heap.size<=D/\w'.heap[D]? = some (.deferred (some []))/\FX γ' n f ({ target:=.collected D,args:=#[] }::ds) a'/\gq B γ s w γ' s' w'/\Rel B γ' s' w'/\K s') a w:=by
 have F:=hf.eval g;rw [J] at F;simp only [ai] at F;obtain ⟨cc,G,o⟩:=F;refine wpIn_rangeFunc ?_;intro fn _;obtain ⟨r,c⟩:∃ r:Loop,r={ state:=.ready,pending:=none,fn,tmps:=a.tmps,params:=#[p],assign,body,defers:=w.heap.size }:=⟨_,rfl⟩;obtain ⟨W1,i⟩:∃ W1,(w.alloc (.deferred (some []))).alloc (.loop r)=W1:=⟨_,rfl⟩;have x:W1.heap[w.heap.size+1]? = some (.loop r):=by
  rw [<- i];have:=World.alloc_heap_new (w.alloc (.deferred (some []))) (.loop r);rwa [World.size_alloc] at this
 have y:W1.heap[w.heap.size]? = some (.deferred (some [])):=by
  rw [<- i];exact (Below.heap_alloc _ _ _ (by simp)).trans (World.alloc_heap_new w _)
 have M:W1.heap.size=w.heap.size+2:=by rw [<- i];simp
 have hold:∀ b,b<w.heap.size->W1.heap[b]? = w.heap[b]? := fun b hb=>by
  rw [<- i,Below.heap_alloc _ _ _ (by simp;omega),Below.heap_alloc _ _ _ hb]
 have k:Rel B γ s W1:=hr.side (by omega) fun b ob j _=>(hold b (Array.getElem?_eq_some_iff.1 j).1).trans j;refine ⟨w.heap.size+1,[{ target:=.collected w.heap.size,args:=#[] }],W1,{ target:=.fn (.func m) cc,args:=#[.func (.yield (w.heap.size+1)) #[] #[]] },W1,m,
  #[.func (.yield (w.heap.size+1)) #[] #[]]++cc,W1,?_,?_,fun _ _=>trivial,?_,fun h=>(by cases h),?_⟩
 ·rw [<- i,c];exact run_enterLoop_outer _ _ _ _ _
 ·simp only [resolve,G];simp [go_sem]
 ·simp [invoke,go_sem,mP L]
 ·refine callsIn_wide.2 ((C (w.heap.size+1) w.heap.size r (by rw [c]) (by rw [c]) (by rw [c]) (by rw [c]) (by rw [c]) B γ _ W1 ?_ k ⟨x,y,by rw [c];exact hf.2⟩).mono ?_)
  ·rw [Array.toList_append];exact au.cons (by simp [ai]) o
  ·rintro e R ⟨γ',v,cv,s',rfl,hv,d,O,Q⟩;have z:=d.keeps k x rfl;have H:=d.keeps k y rfl;have A:=run_endLoop (P:=P) z (by rw [c];simp);refine ⟨none,_,by rw [A,c],w.heap.size,γ',s',rfl,Nat.le_refl _,(World.putObj_heap_other (by omega)).trans H,⟨by rw [<- hf.1];rfl,hf.2.mono d.le⟩,d.swap (by omega) (by simp) (fun b hb I=>?_) ?_,O.side (by simp) fun b ob j hs=>?_,Q⟩
   ·rw [World.putObj_heap_other (by omega),d.V8 b (by omega) I,hold b hb]
   ·have:=d.env;rw [<- i] at this;exact this
   ·rw [World.putObj_heap_other];exact j;rintro rfl;rw [z] at j;cases j;cases hs
theorem pZ.body {Iv:bT->World->Prop} {P:Program} {T:TT} (hT:TT.Ok P T) {g:FuncId} {fn:Func} {c:Code} {args:List AV} {s:AS} {R:AV->AS->Prop} {n:Nat} {rs:List ResultVar} (hf:P.funcs[g]? = some fn) (hb:fn.body=some c)
  (x:args.length+(fn.ntmps - args.length)=n) (o:fn.results.toList=rs) (h:dh Iv none [] P n c (sq args) s (X4 T rs R)):pZ Iv P g args s R:=by
 subst x o;intro B γ b w i hr hi;refine callsIn_wide (n:=0) |>.1 (callsIn_of_wp hf hb trivial ?_);have hlen:=i.length;simp only [Array.length_toList] at hlen;have p:oh γ (args.length+(fn.ntmps - args.length)) (sq args) { tmps:=b++Array.replicate (fn.ntmps - b.size) undef,defers:=[] }:=by
  refine ⟨by simp [hlen],rfl,fun t=>?_⟩;simp only [sq,Array.getD_eq_getD_getElem?,List.getD_eq_getElem?_getD];by_cases ht:t<args.length
  ·obtain ⟨cv,k,d⟩:=i.get (List.getElem?_eq_getElem ht);rw [Array.getElem?_append_left (by omega)];rw [Array.getElem?_toList] at k;rw [k,List.getElem?_eq_getElem ht];exact d
  ·rw [List.getElem?_eq_none (by omega)];have:((b++Array.replicate (fn.ntmps - b.size) undef)[t]?).getD undef=undef:=by
    rw [Array.getElem?_append_right (by omega)];by_cases y:t - b.size<fn.ntmps - b.size
    ·simp [y]
    ·rw [Array.getElem?_eq_none (by simp;omega)];rfl
   rw [this];exact pX γ
 refine Go.wpIn_mono (h B γ _ w ⟨rfl,p⟩ hr hi) ?_;rintro e a' w' ⟨γ',f',s',m,h2,h3,h4⟩;cases e with
 | normal =>
  obtain ⟨v,hv,r⟩:=h4;obtain ⟨cv,j,d⟩:=xe hT m.2 h3 hv;exact ⟨m.1,cv,j,γ',v,cv,s',rfl,d,h2,h3,r⟩
 | ret =>
  obtain ⟨v,hv,r⟩:=h4;obtain ⟨cv,j,d⟩:=xe hT m.2 h3 hv;exact ⟨m.1,cv,j,γ',v,cv,s',rfl,d,h2,h3,r⟩
 | exit id=>exact h4.elim
 | goto l=>exact h4.elim
 | panic z=>exact h4.elim
 | outgrown=>exact h4.elim
end
section
section
variable {Iv:bT->World->Prop} {P:Program} {T:TT} {n:Nat} {ops rest:Array Oper} {o:Oper} {os:List Oper} {f:Fr} {s:AS} {K:Fr->AS->Prop}
theorem ry (b:o.guard=none):dB ops f o=some true:=by simp [dB,b]
theorem bn.cO {v:AV} {s':AS} (c:o.guard=none) (d:xp f o.op=none) (b:vo o.op=false) (e:fq f o.op=none) (hd:eu n o.dst=true) (h:cO T o.op (pW f) s=some (v,s')) (k:bn Iv P T n ops os (bU f o.dst v) s' K):bn Iv P T n ops (o::os) f s K:=by
 simp only [bn,ry c,d];refine ⟨b,.inl ⟨hd,.inl ?_⟩⟩;rw [e];exact ⟨v,s',h,k⟩
theorem bn.next {it:Operand} (c:o.guard=none) (b:o.op=.next it false) (hd:eu n o.dst=true) (h:Qd (zA (pW f it) s) s fun v s'=>bn Iv P T n ops os (bU f o.dst v) s' K):bn Iv P T n ops (o::os) f s K:=by
 have d:xp f o.op=none:=by rw [b];rfl
 simp only [bn,ry c,d];obtain ⟨l,e,h2⟩:=Ja h;exact ⟨by rw [b];rfl,.inl ⟨hd,.inr ⟨l,by rw [b];exact e,h2⟩⟩⟩
theorem bn.call {g:FuncId} {args:List AV} (c:o.guard=none) (d:xp f o.op=none) (b:vo o.op=false) (e:fq f o.op=some (g,args)) (hd:eu n o.dst=true) (h:aa P g args s fun v s'=>bn Iv P T n ops os (bU f o.dst v) s' K):bn Iv P T n ops (o::os) f s K:=by
 simp only [bn,ry c,d];refine ⟨b,.inl ⟨hd,.inl ?_⟩⟩;rw [e];exact h
theorem bn.raw {v:AV} (c:o.guard=none) (d:xp f o.op=none) (b:vo o.op=false) (hd:eu n o.dst=true) (h:∀ (γ:bT) (ρ:Operand->Value) (w:World),(∀ x,ai γ (pW f x) (ρ x))->∃ cv,(execOp ρ o).run P w=.ok (.value cv) w/\ai γ v cv) (k:bn Iv P T n ops os (bU f o.dst v) s K):bn Iv P T n ops (o::os) f s K:=by
 simp only [bn,ry c,d];exact ⟨b,.inr ⟨hd,v,h,k⟩⟩
theorem bn.yield {l:Nat} {args:List AV} (b:o.guard=none) (c:xp f o.op=some (l,args)) (hd:eu n o.dst=true) (h:UO Iv P l args s fun v s'=>bn Iv P T n ops os (bU f o.dst v) s' K):bn Iv P T n ops (o::os) f s K:=by
 simp only [bn,ry b,c];exact ⟨hd,h⟩
theorem UO.mono {l:Nat} {args:List AV} {R R':AV->AS->Prop} (h:UO Iv P l args s R) (hr:∀ v s',R v s'->R' v s'):UO Iv P l args s R':=by
 intro B γ i w j h2 h3;obtain ⟨fn,tmps,assign,body,k,m⟩:=h B γ i w j h2 h3;refine ⟨fn,tmps,assign,body,k,m.mono ?_⟩;rintro e w' ⟨γ',v,cv,s',a,b,c,d,e⟩;exact ⟨γ',v,cv,s',a,b,c,d,hr _ _ e⟩
theorem pZ.pre {g:FuncId} {args:List AV} {R:AV->AS->Prop} (h:aJ s->pZ Iv P g args s R):pZ Iv P g args s R :=
 fun B γ b w c h2 h3=>h h2.N9 B γ b w c h2 h3
end
structure Rk (T:TT) (t n:Nat):Prop where
 agg:T.agg t=some true
 eZ:T.eZ t=some n
 sS:∃ z zc,T.sS t=some z/\bN z=some zc/\zc.length=n
section
variable {Iv:bT->World->Prop} {P:Program} {T:TT} {n:Nat} {ops:Array Oper} {os:List Oper} {f:Fr} {s:AS} {K:Fr->AS->Prop}
theorem Mp {l:List AV} (h:l.all AV.one=true):bN (.agg l)=some l:=by simp [bN,AV.cells,h]
theorem bn.put {b o2:Oper} {t k d:Nat} {y:Operand} {g:List AV} (hs:Rk T t k) (o:aJ s) (p:b.guard=none) (e1:b.op=.alloc t) (d1:b.dst=some d) (hd:d<n) (r:o2.guard=none) (e2:o2.op=.store t (.tmp d) y) (d2:o2.dst=none)
  (w:∀ v,pW (pq f d v) y=.agg g) (j:g.length=k) (m:g.all AV.one=true) (h:∀ l s',rm s s' l (.cells g 0 false)->bn Iv P T n ops os (pq f d (.ptr (some (l,0)))) s' K):bn Iv P T n ops (b::o2::os) f s K:=by
 obtain ⟨z,zc,x,c,e⟩:=hs.sS;refine bn.cO (v:=.ptr (some (s.nl,0))) (s':=s.new (.cells zc 0 false)) p (by rw [e1];rfl) (by rw [e1];rfl) (by rw [e1];rfl) (by rw [d1];simpa [eu] using hd) (by rw [e1];simp only [Am.cO,x,Option.bind_some,c,Option.map_some]) ?_;obtain ⟨⟨_,hlen⟩,s2,i,A⟩:=jK (zc:=zc) (g:=g) (n:=k) (K:=fun l s'=>bn Iv P T n ops os (pq f d (.ptr (some (l,0)))) s' K) o j e m h;rw [d1];refine bn.cO (v:=.undef) (s':=s2) r (by rw [e2];rfl) (by rw [e2];rfl) (by rw [e2];rfl) (by rw [d2];rfl) ?_ ?_
 ·rw [e2];have hp:pW (pq f d (.ptr (some (s.nl,0)))) (.tmp d)=.ptr (some (s.nl,0)):=Sz _ _ _;simp only [Am.cO,bU,hp,w,UU,Mp m,Option.bind_some,hs.eZ];rw [if_pos (by rw [j])];rw [i];rfl
 ·rw [d2];exact A
theorem bn.ld {o:Oper} {t k d l off:Nat} {x:Operand} {g:List AV} (hs:Rk T t k) (b:o.guard=none) (e1:o.op=.load t x) (d1:o.dst=some d) (hd:d<n) (c:pW f x=.ptr (some (l,off))) (hr:aD s l off k=some g) (h:bn Iv P T n ops os (pq f d (.agg g)) s K):bn Iv P T n ops (o::os) f s K:=by
 refine bn.cO (v:=.agg g) (s':=s) b (by rw [e1];rfl) (by rw [e1];rfl) (by rw [e1];rfl) (by rw [d1];simpa [eu] using hd) ?_ (by rw [d1];exact h);rw [e1];simp only [Am.cO,c,U4 hs.agg hs.eZ,hr,Option.map_some]
end
def GI (tm tk tf tb:TypeId):Code :=
 (Go.Code.seq (Go.Code.region 0 #[{ dst := some 4, op := Go.Op.load tm (Go.Operand.tmp 1), type := tm, pos := "iter.go:27", after := #[], guard := none }, { dst := some 5, op := Go.Op.range tm (Go.Operand.tmp 4), type := 0, pos := "iter.go:27", after := #[{ on := 0, ground := Go.Ground.data }], guard := none }] false) (Go.Code.block 0 (Go.Code.loop (Go.Code.seq (Go.Code.region 1 #[{ dst := some 6, op := Go.Op.next (Go.Operand.tmp 5) false, type := 0, pos := "iter.go:27", after := #[], guard := none }, { dst := some 7, op := Go.Op.extract (Go.Operand.tmp 6) 0, type := tb, pos := "iter.go:27", after := #[{ on := 0, ground := Go.Ground.data }], guard := none }] false) (Go.Code.seq (Go.Code.cond (Go.Operand.tmp 7) Go.Code.skip (Go.Code.exit 0)) (Go.Code.block 1 (Go.Code.seq (Go.Code.region 2 #[{ dst := some 8, op := Go.Op.entry (Go.Operand.tmp 5), type := 0, pos := "iter.go:27", after := #[], guard := none }, { dst := some 9, op := Go.Op.extract (Go.Operand.tmp 8) 0, type := tk, pos := "iter.go:27", after := #[{ on := 0, ground := Go.Ground.data }], guard := none }, { dst := some 3, op := Go.Op.alloc tk, type := 0, pos := "iter.go:27", after := #[], guard := none }, { dst := none, op := Go.Op.store tk (Go.Operand.tmp 3) (Go.Operand.tmp 9), type := 0, pos := "iter.go:27", after := #[{ on := 2, ground := Go.Ground.data }, { on := 1, ground := Go.Ground.data }, { on := 0, ground := Go.Ground.phase }, { on := 1, ground := Go.Ground.phase }, { on := 2, ground := Go.Ground.phase }], guard := none }] false) (Go.Code.seq (Go.Code.region 3 #[{ dst := some 10, op := Go.Op.move (Go.Operand.tmp 0), type := tf, pos := "iter.go:28", after := #[], guard := none }, { dst := some 11, op := Go.Op.load tk (Go.Operand.tmp 3), type := tk, pos := "iter.go:28", after := #[], guard := none }, { dst := some 12, op := Go.Op.call { callee := Go.Callee.value (Go.Operand.tmp 10), args := #[Go.Operand.tmp 11], argTypes := #[tk] }, type := tb, pos := "iter.go:28", after := #[{ on := 0, ground := Go.Ground.data }, { on := 1, ground := Go.Ground.data }], guard := none }, { dst := some 13, op := Go.Op.unOp Go.UnOp.not tb (Go.Operand.tmp 12), type := tb, pos := "iter.go:28", after := #[{ on := 2, ground := Go.Ground.data }], guard := none }] false) (Go.Code.cond (Go.Operand.tmp 13) Go.Code.ret Go.Code.skip)))))))))
theorem OG {Iv:bT->World->Prop} (d:Kept Iv) {P:Program} {T:TT} (hT:TT.Ok P T) {g:FuncId} {fn:Func} {tm tk tf tb n:TypeId} (hf:P.funcs[g]? = some fn) (hb:fn.body=some (GI tm tk tf tb)) (S:fn.ntmps=14) (y:fn.results=#[])
  {kt et:TypeId} (p:T.agg tm=some false) (hu:T.cW tm=some (.map kt et)) (I:Rk T tk n)
  {K V:Type} [DecidableEq K] {kc:K->List AV} {vf:V->AV} (i:∀ k,(kc k).length=n/\(kc k).all AV.one=true) {s:AS} {l lb m:Nat} {es:List (K×V×Nat)} {c:Nat} {ro:Bool} (z:At s lb [.map (some m)]) (hm:eR (fun k=>.agg (kc k)) vf s m es c ro)
  {J:Nat->List (K×V×Nat)->AS->Prop}
  (h0:∀ it s',Iter s' it m es c ([]:List (K×V×Nat))->rm s s' it (.fW (some m) c [] c false)->J it [] s')
  (U:∀ it done s',J it done s'->aJ s'/\eR (fun k=>.agg (kc k)) vf s' m es c ro/\Iter s' it m es c done)
  (A:∀ it done s1 s2 s3 e,J it done s1->e∈es->e ∉ done->Iter s2 it m es c (done++[e])->bB [it] s1 s2->Ext s2 s3->aJ s3->UO Iv P l [.agg (kc e.1)] s3 fun v s4=>v=.bool true/\J it (done++[e]) s4) :
  pZ Iv P g [.Ss l,.ptr (some (lb,0))] s fun _ s'=>∃ it done,(∀ e∈es,e∈done)/\J it done s':=by
 refine pZ.pre fun W=>pZ.body (n:=14) (rs:=[]) hT hf hb (by simp [S]) (by rw [y]) ?_;unfold GI;refine dh.seq d (dh.region d hT ?_);refine bn.cO (v:=.map (some m)) (s':=s) rfl rfl rfl rfl rfl ?_ ?_
 ·show (HY T tm s (.ptr (some (lb,0)))).map (·,s)=_;rw [zz p,z.ak];rfl
 have F:=W.new (o:=.fW (some m) c [] c false) rfl;refine bn.cO (v:=.ptr (some (s.nl,0))) (s':=s.new (.fW (some m) c [] c false)) rfl rfl rfl rfl rfl ?_ ?_
 ·have e:pW (bU (sq [.Ss l,.ptr (some (lb,0))]) (some 4) (.map (some m))) (.tmp 4)=.map (some m):=rfl;simp only [Am.cO,e,hu,hm.obj]
 show dh _ _ _ _ _ _ _ _ _;have B:=h0 s.nl _ ⟨F.at,by simp,List.nodup_nil⟩ F;generalize s.new (.fW (some m) c [] c false)=s0 at B;generalize s.nl=it at B;refine dh.block (dh.loop d (fun L f s'=>f 0=.Ss l/\f 5=.ptr (some (it,0))/\∃ done,L=es.length - done.length/\J it done s') es.length ⟨rfl,rfl,[],rfl,B⟩ ?_);rintro L f s1 ⟨f0,f5,done,rfl,j⟩;obtain ⟨w1,C,D⟩:=U it done s1 j;refine dh.seq d (dh.region d hT (bn.next rfl rfl rfl ?_));show Qd (zA (f 5) s1) s1 _;rw [f5];refine Iter.next w1 C D (fun r=>?_) (fun e s2 M w O w2 m2=>?_)
 ·refine bn.cO (v:=.bool false) (s':=s1) rfl rfl rfl rfl rfl rfl ?_;show dh _ _ _ _ _ _ _ _ _;refine dh.seq d (dh.cond (t:=false) rfl (dh.exit ?_));simp only [DZ,zw,if_true];exact ⟨.aQ [],rfl,it,done,r,j⟩
 have X:=D.lt M w;have Y:=C.mut m2 (by
  simp only [List.mem_singleton];rintro rfl;have:=D.at;rw [C.obj] at this;cases this)
 refine bn.cO (v:=.bool true) (s':=s2) rfl rfl rfl rfl rfl rfl ?_;show dh _ _ _ _ _ _ _ _ _;refine dh.seq d (dh.cond (t:=true) rfl (dh.skip ?_));show dh _ _ _ _ _ _ _ _ _;refine dh.block (dh.seq d (dh.region d hT ?_));obtain ⟨k',v',x,G⟩:=Iter.entry (Q:=fun a b=>a=.agg (kc e.1)) Y O rfl;subst G;refine bn.cO (v:=.aQ [.agg (kc e.1),v']) (s':=s2) rfl rfl rfl rfl rfl ?_ ?_
 ·show (wS (f 5) s2).map (·,s2)=_;rw [f5,x];rfl
 refine bn.cO (v:=.agg (kc e.1)) (s':=s2) rfl rfl rfl rfl rfl rfl ?_;refine bn.put I w2 rfl rfl rfl (by decide) rfl rfl rfl (g:=kc e.1) (fun v=>rfl) (i _).1 (i _).2 fun R s3 H=>?_;show dh _ _ _ _ _ _ _ _ _;refine dh.seq d (dh.region d hT ?_);refine bn.cO (v:=.Ss l) (s':=s3) rfl rfl rfl rfl rfl ?_ ?_
 ·show some (f 0,s3)=_;rw [f0]
 refine bn.ld (g:=kc e.1) (l:=R) (off:=0) I rfl rfl rfl (by decide) rfl ?_ ?_
 ·have Z:At s3 R (kc e.1):=⟨_,_,H.at⟩;rw [Z.aD (by rw [(i _).1];omega),List.drop_zero,List.take_of_length_le (by rw [(i _).1];exact Nat.le_refl _)]
 refine bn.yield (l:=l) (args:=[.agg (kc e.1)]) rfl rfl rfl ((A it done s1 s2 s3 e j M w O m2 H.ext H.wf).mono ?_);rintro v s4 ⟨rfl,j4⟩;refine bn.cO (v:=.bool false) (s':=s4) rfl rfl rfl rfl rfl rfl ?_;show dh _ _ _ _ _ _ _ _ _;refine dh.cond (t:=false) rfl (dh.skip ?_);exact ⟨es.length - (done.length+1),by omega,f0,f5,done++[e],by simp,j4⟩
end
section
open Go.RowKit
def Mq (te : TypeId) : Code := (Go.Code.region 2 #[{ dst := some 5, op := Go.Op.alloc te, type := 0, pos := "iter.go:51", after := #[], guard := none }, { dst := none, op := Go.Op.store te (Go.Operand.tmp 5) (Go.Operand.tmp 7), type := 0, pos := "iter.go:51", after := #[{ on := 0, ground := Go.Ground.data }, { on := 0, ground := Go.Ground.phase }], guard := none }] false)
def Tm (ts te : TypeId) : Code := (Go.Code.block 1 (Go.Code.region 3 #[{ dst := some 8, op := Go.Op.load ts (Go.Operand.tmp 2), type := ts, pos := "iter.go:52", after := #[], guard := none }, { dst := some 9, op := Go.Op.load te (Go.Operand.tmp 5), type := te, pos := "iter.go:52", after := #[], guard := none }, { dst := some 10, op := Go.Op.buildSlice ts 1 #[(0, Go.Operand.tmp 9)], type := ts, pos := "iter.go:52", after := #[{ on := 1, ground := Go.Ground.data }], guard := none }, { dst := some 11, op := Go.Op.call { callee := Go.Callee.builtin Go.Builtin.append, args := #[Go.Operand.tmp 8, Go.Operand.tmp 10], argTypes := #[ts, ts] }, type := ts, pos := "iter.go:52", after := #[{ on := 0, ground := Go.Ground.data }, { on := 2, ground := Go.Ground.data }], guard := none }, { dst := none, op := Go.Op.store ts (Go.Operand.tmp 2) (Go.Operand.tmp 11), type := 0, pos := "iter.go:52", after := #[{ on := 3, ground := Go.Ground.data }, { on := 3, ground := Go.Ground.chain }, { on := 0, ground := Go.Ground.phase }, { on := 1, ground := Go.Ground.phase }, { on := 2, ground := Go.Ground.phase }, { on := 3, ground := Go.Ground.phase }], guard := none }] false))
def Jn (ts te tq:TypeId):Code :=
 (Go.Code.seq (Go.Code.region 0 #[{ dst := some 2, op := Go.Op.box ts (Go.Operand.tmp 0), type := 0, pos := "iter.go:50", after := #[], guard := none }, { dst := some 4, op := Go.Op.assign (Go.Operand.const (Go.Value.slice none 0 0)), type := ts, pos := "iter.go:50", after := #[], guard := none }] false) (Go.Code.seq (Go.Code.seq (Go.Code.region 1 #[{ dst := some 6, op := Go.Op.move (Go.Operand.tmp 1), type := tq, pos := "iter.go:51", after := #[], guard := none }] false) (Go.Code.block 0 (Go.Code.rangeFunc (Go.Operand.tmp 6) #[7] (Mq te) (Tm ts te)))) (Go.Code.seq (Go.Code.region 4 #[{ dst := some 12, op := Go.Op.load ts (Go.Operand.tmp 2), type := ts, pos := "iter.go:54", after := #[], guard := none }, { dst := some 4, op := Go.Op.assign (Go.Operand.tmp 12), type := ts, pos := "iter.go:54", after := #[{ on := 0, ground := Go.Ground.data }, { on := 0, ground := Go.Ground.phase }], guard := none }] false) Go.Code.ret)))
def Mr {K V:Type} (P:Program) (kf:K->AV) (vf:V->AV) (m:Nat) (es:List (K×V×Nat)) (c:Nat) (ro:Bool) (el:K×V×Nat->List AV) (b:FuncId) (cap:List AV) (s:AS):Prop :=
 ∀ (Iv:bT->World->Prop) (d:Kept Iv) (l:Nat) (J:Nat->List (K×V×Nat)->AS->Prop),
  (∀ it s',Iter s' it m es c ([]:List (K×V×Nat))->rm s s' it (.fW (some m) c [] c false)->J it [] s') ->
  (∀ it done s',J it done s'->aJ s'/\eR kf vf s' m es c ro/\Iter s' it m es c done) ->
  (∀ it done s1 s2 s3 e,J it done s1->e∈es->e ∉ done->Iter s2 it m es c (done++[e])->bB [it] s1 s2->Ext s2 s3->aJ s3->UO Iv P l [.agg (el e)] s3 fun v s4=>v=.bool true/\J it (done++[e]) s4) ->
  pZ Iv P b (.Ss l::cap) s fun _ s'=>∃ it done,(∀ e∈es,e∈done)/\J it done s'
structure Y0 (T:TT) (t:TypeId):Prop where
 agg:T.agg t=some false
 eZ:T.eZ t=some 1
theorem FX.init {γ:bT} {args:List AV} {b:Array Value} (c:au γ args b.toList) {k n:Nat} (i:args.length+(k - args.length)=n):FX γ n (sq args) [] { tmps:=b++Array.replicate (k - b.size) undef,defers:=[] }:=by
 subst i;have hlen:=c.length;simp only [Array.length_toList] at hlen;refine ⟨rfl,by simp [hlen],rfl,fun t=>?_⟩;simp only [sq,Array.getD_eq_getD_getElem?,List.getD_eq_getElem?_getD];by_cases ht:t<args.length
 ·obtain ⟨cv,d,e⟩:=c.get (List.getElem?_eq_getElem ht);rw [Array.getElem?_append_left (by omega)];rw [Array.getElem?_toList] at d;rw [d,List.getElem?_eq_getElem ht];exact e
 ·rw [List.getElem?_eq_none (by omega)];have:((b++Array.replicate (k - b.size) undef)[t]?).getD undef=undef:=by
   rw [Array.getElem?_append_right (by omega)];by_cases j:t - b.size<k - b.size
   ·simp [j]
   ·rw [Array.getElem?_eq_none (by simp;omega)];rfl
  rw [this];exact pX γ
theorem Eo {P:Program} {T:TT} (hT:TT.Ok P T) {g:FuncId} {fn:Func} {ts te tq n qR:TypeId} (hf:P.funcs[g]? = some fn) (hc:gB P g=true) (hb:fn.body=some (Jn ts te tq)) (hn:fn.ntmps=13) (ar:fn.results=#[.tmp 4])
  (O:Y0 T ts) (aw:CQ T ts te n qR) (ab:Rk T te n) {K V:Type} {kf:K->AV} {vf:V->AV} {m:Nat} {es:List (K×V×Nat)} {c:Nat} {ro:Bool} {el:K×V×Nat->List AV} (C:∀ e,(el e).length=n) (L:∀ e,(el e).all AV.one=true)
  {M:FuncId} {cap:List AV} (a0:gB P M=true) (b9:es.length<=2 ^ 30) {s:AS} (hm:eR kf vf s m es c ro) (y:∀ s1,Ext s s1->aJ s1->Mr P kf vf m es c ro el M cap s1) {a:Option (Nat×Nat)} :
  aa P g [.slc a 0 0 true,.func M cap] s fun v s'=>∃ done:List (K×V×Nat),(∀ e∈es,e∈done)/\(∀ e∈done,e∈es)/\done.Nodup/\aW el n [] s s' v done:=by
 intro B γ z w Q hr;refine .inl ⟨mP hc _ w,callsIn_wide (n:=0) |>.1 (callsIn_of_wp_marks hf hb trivial ?_)⟩;have hw:=hr.N9;have a5:FX γ 13 (sq [.slc a 0 0 true,.func M cap]) [] { tmps:=z++Array.replicate (fn.ntmps - z.size) undef,defers:=[] }:=FX.init Q (by simp [hn]);have KT:=Kept.true;unfold Jn;have h1:dh (fun _ _=>True) none [] P 13 _ (sq [.slc a 0 0 true,.func M cap]) s fun e f' s'=>e=.normal/\∃ bx,f' 1=.func M cap/\f' 2=.ptr (some (bx,0))/\rm s s' bx (.cells [.slc a 0 0 true] 0 false) :=
  dh.region (id := 0) KT hT (ops := #[{ dst := some 2, op := Go.Op.box ts (Go.Operand.tmp 0), type := 0, pos := "iter.go:50", after := #[], guard := none }, { dst := some 4, op := Go.Op.assign (Go.Operand.const (Go.Value.slice none 0 0)), type := ts, pos := "iter.go:50", after := #[], guard := none }])
   (bn.cO (v:=.ptr (some (s.nl,0))) (s':=s.new (.cells [.slc a 0 0 true] 0 false)) rfl rfl rfl rfl rfl rfl (bn.cO (v:=.slc none 0 0 true) (s':=s.new (.cells [.slc a 0 0 true] 0 false)) rfl rfl rfl rfl rfl rfl ⟨rfl,s.nl,rfl,rfl,hw.new rfl⟩))
 refine wpIn_seq (Go.wpIn_mono (h1 B γ _ w a5 hr trivial) ?_);rintro e a1 w1 ⟨a6,f1,s1,a7,d1,r1,rfl,bx,f11,f12,F1⟩;have a8:=r1.N9;have h2:dh (fun _ _=>True) none [] P 13 _ f1 s1 fun e f' s'=>e=.normal/\s'=s1/\f' 6=.func M cap/\f' 2=.ptr (some (bx,0)) :=
  dh.region (id := 1) KT hT (ops := #[{ dst := some 6, op := Go.Op.move (Go.Operand.tmp 1), type := tq, pos := "iter.go:51", after := #[], guard := none }])
   (bn.cO (v:=.func M cap) (s':=s1) rfl rfl rfl rfl rfl (by show some (f1 1,s1)=_;rw [f11]) ⟨rfl,rfl,rfl,f12⟩)
 refine wpIn_seq (wpIn_seq (Go.wpIn_mono (h2 B a6 a1 w1 a7 r1 trivial) ?_));rintro e a2 w2 ⟨b',f2,s2,a9,d2,r2,rfl,rfl,f26,f22⟩;have ad:s.h bx=none:=F1.no;have i:Ext s s2:=F1.ext;have ae:=hm.ext i
 let J:Nat->List (K×V×Nat)->AS->Prop:=fun it done s'=>aJ s'/\eR kf vf s' m es c ro/\Iter s' it m es c done/\s2.h it=none/\it≠bx/\∃ k v,Ext s2 k/\k.h it≠none/\k.h bx≠none/\Own s' bx [v]/\aW el n [bx,it] k s' v done
 have R:=A_ (n:=13) (p:=7) (assign:=Mq te) (body:=Tm ts te) (K:=fun s'=>∃ it done,(∀ e∈es,e∈done)/\J it done s') (g:=.tmp 6) (f:=f2) (ds:=[]) f26 a0 (fun l D r a' ba bb has bc=>?_) a9 r2;rotate_left
 ·refine y s2 i a8 (Rj l D r 13 f2) Rj.kept l J (fun it s' I F=>?_) (fun it done s' j=>⟨j.1,j.2.1,j.2.2.1⟩) (fun it done q1 q2 q3 e j he bd I2 m2 e3 w3=>?_)
  ·have be:it≠bx:=by rintro rfl;have:=F.no;rw [F1.at] at this;cases this
   exact ⟨F.wf,ae.ext F.ext,I,F.no,be,s',_,F.ext,by rw [F.at];simp,by rw [F.ext.1 _ _ F1.at];simp,F1.own.ext F.ext,aW.nil⟩
  ·obtain ⟨jw,jm,jI,jn,jb,k,v,X,G,H,jo,Y⟩:=j;have ca:=jI.lt he bd;have bh:m≠it:=by
    rintro rfl;have:=jI.at;rw [jm.obj] at this;cases this
   have bi:m≠bx:=by
    rintro rfl;have:=jo.at;obtain ⟨g1,g2,h1⟩:=this;rw [jm.obj] at h1;cases h1
   have M3:=(jm.mut m2 (by simpa using bh)).ext e3;have I3:=I2.ext e3;have o3:=(jo.mut m2 (by simpa using jb.symm)).ext e3;have hM:∀ x∈[bx,it],k.h x≠none:=by
    intro x d;simp only [List.mem_cons,List.not_mem_nil,or_false] at d;rcases d with rfl | rfl
    ·exact H
    ·exact G
   have g3:aW el n [bx,it] k q3 v done:=(Y.wr hM (m2.mono (by simp))).step e3;refine UO.round (p:=7) a' ba bb (by decide) ?_;rw [has,bc];refine dh.region KT hT (bn.put ab w3 rfl rfl rfl (by decide) rfl rfl rfl (g:=el e) (fun v=>rfl) (C e) (L e) fun lv A S=>⟨rfl,?_⟩);refine dh.block (dh.region KT hT ?_);have o4:=o3.ext S.ext;have g4:=g3.step S.ext;refine bn.cO (v:=v) (s':=A) rfl rfl rfl rfl rfl ?_ ?_
   ·show (HY T ts A (pq (pq f2 7 (.agg (el e))) 5 (.ptr (some (lv,0))) 2)).map (·,A)=_;rw [show pq (pq f2 7 (.agg (el e))) 5 (.ptr (some (lv,0))) 2=.ptr (some (bx,0)) from f22,zz O.agg,o4.at.ak];rfl
   refine bn.ld (g:=el e) (l:=lv) (off:=0) ab rfl rfl rfl (by decide) rfl ?_ ?_
   ·have a4:At A lv (el e):=⟨_,_,S.at⟩;rw [a4.aD (by rw [C];omega),List.drop_zero,List.take_of_length_le (by rw [C];exact Nat.le_refl _)]
   have bj:∀ x∈[bx,it],A.h x≠none:=by
    intro x d;simp only [List.mem_cons,List.not_mem_nil,or_false] at d;rcases d with rfl | rfl
    ·rw [o4];simp
    ·rw [(I3.ext S.ext).at];simp
   obtain ⟨gc,bk,v',Z,al,G5,w5,m5⟩:=aW.iu aw C L S.wf g4 bj e (by omega) (K:=fun v' s'=>aW el n [bx,it] k s' v' (done++[e])/\aJ s'/\bB (ax v) A s') (fun v' s' a b c=>⟨a,b,c⟩);refine bn.cO (v:=.slc (some (A.nl,0)) 1 1 true) (s':=A.new (.cells gc 0 false)) rfl rfl rfl rfl rfl ?_ ?_
   ·show mj T ts 1 [(0,.agg (el e))] A=_;exact Qe bk
   refine bn.cO (v:=v') (s':=Z) rfl rfl rfl rfl rfl al ?_;have b6:∀ x,A.h x≠none->k.h x≠none->x ∉ ax v:=fun x _ h2 d=>h2 (g4.new x d);have o5:=o4.mut m5 (fun d=>H (g4.new _ d));have bl:v'.one=true:=G5.jJ.2;have P5:We Z (Z.put bx (.cells [v'] 0 false)) bx (.cells [v'] 0 false):=w5.put o5 rfl;refine bn.cO (v:=.undef) (s':=Z.put bx (.cells [v'] 0 false)) rfl rfl rfl rfl rfl ?_ ?_
   ·show (UU T ts Z (pq (pq f2 7 (.agg (el e))) 5 (.ptr (some (lv,0))) 2) v').map (fun x=>(AV.undef,x))=_;rw [show pq (pq f2 7 (.agg (el e))) 5 (.ptr (some (lv,0))) 2=.ptr (some (bx,0)) from f22];have bm:bN v'=some [v']:=by cases v' <;> first | rfl | cases bl
    simp only [UU,bm,Option.bind_some,O.eZ,List.length_singleton,if_true,cS,show Z.h bx=some (.cells [v] 0 false) from o5];rfl
   have bo:k.h m≠none:=by rw [(ae.ext X).obj];simp
   have bs:m ∉ ax v:=fun d=>bo (g4.new _ d);have b0:it ∉ ax v:=fun d=>G (g4.new _ d);refine ⟨rfl,rfl,P5.wf,((M3.ext S.ext).mut m5 bs).mut P5.mut (by simpa using bi),((I3.ext S.ext).mut m5 b0).mut P5.mut (by simpa using jb),jn,jb,k,v',X,G,H,P5.at,G5.wr hM (P5.mut.mono (by simp))⟩
 refine wpIn_block (Go.wpIn_mono R ?_);rintro e a3 w3 ⟨D,b1,s3,rfl,hD,b2,b3,d3,r3,it,done,am,jw,jm,jI,jn,jb,k,v,X,G,H,jo,Y⟩;have h4:dh (fun _ _=>True) none [{ target:=.collected D,args:=#[] }] P 13 _ f2 s3 fun e f' s'=>e=.normal/\s'=s3/\f' 4=v :=
  dh.region (id := 4) KT hT (ops := #[{ dst := some 12, op := Go.Op.load ts (Go.Operand.tmp 2), type := ts, pos := "iter.go:54", after := #[], guard := none }, { dst := some 4, op := Go.Op.assign (Go.Operand.tmp 12), type := ts, pos := "iter.go:54", after := #[{ on := 0, ground := Go.Ground.data }, { on := 0, ground := Go.Ground.phase }], guard := none }])
   (bn.cO (v:=v) (s':=s3) rfl rfl rfl rfl rfl (by show (HY T ts s3 (f2 2)).map (·,s3)=_;rw [f22,zz O.agg,jo.at.ak];rfl) (bn.cO (v:=v) (s':=s3) rfl rfl rfl rfl rfl rfl ⟨rfl,rfl,rfl⟩))
 refine wpIn_seq (Go.wpIn_mono (h4 B b1 a3 w3 b3 r3 trivial) ?_);rintro e a4 w4 ⟨an,f4,s4,ao,d4,r4,rfl,rfl,f44⟩;refine wpIn_ret ?_;show LeavesInM _ _ _ _ a4.tmps _ a4.defers .returning w4;rw [ao.1];have U:=d4.keeps r3 b2 rfl;have b7:=(Array.getElem?_eq_some_iff.1 U).1;refine ⟨by simp,.inl ⟨D,_,rfl,run_takeDeferred U,?_⟩⟩;have r5:Rel B an s4 (w4.putObj D (.deferred none)):=r4.side (by simp) fun b ob W hs=>by
  rw [World.putObj_heap_other];exact W;rintro rfl;rw [U] at W;cases W;cases hs
 obtain ⟨cv,y,hv⟩:=xe hT ao.2 r5 (fn:=fn) (v:=v) (by rw [ar];simp [yM,yM.Ei,f44]);have cb:=d1.eZ;have b8:=d2.eZ;refine ⟨cv,y,an,v,cv,s4,rfl,hv,(d1.trans (d2.trans (d3.trans d4))).swap (Nat.le_refl _) (by simp) (fun b hb b4=>?_) ?_,r5,done,am,jI.sub,jI.nd,Y.uQ,?_,fun la b5=>?_⟩
 ·rw [World.putObj_heap_other (by omega)];exact (d1.trans (d2.trans (d3.trans d4))).V8 b hb b4
 ·exact (d1.trans (d2.trans (d3.trans d4))).env
 ·refine ⟨fun x o _ d=>Y.eo.1 x o ?_ (X.1 _ _ (i.1 _ _ d)),Nat.le_trans (Nat.le_trans i.2 X.2) Y.eo.2⟩;simp only [List.mem_cons,List.not_mem_nil,or_false];rintro (rfl | rfl)
  ·rw [ad] at d;cases d
  ·have:=i.none jn;rw [this] at d;cases d
 ·exact i.none (X.none (Y.new la b5))
theorem Tn {P:Program} {T:TT} (hT:TT.Ok P T) {g:FuncId} {fn:Func} {tm tk tf tb n:TypeId} (hf:P.funcs[g]? = some fn) (hb:fn.body=some (GI tm tk tf tb)) (p:fn.ntmps=14) (d:fn.results=#[])
  {kt et:TypeId} (b:T.agg tm=some false) (hu:T.cW tm=some (.map kt et)) (r:Rk T tk n)
  {K V:Type} [DecidableEq K] {kc:K->List AV} {vf:V->AV} (i:∀ k,(kc k).length=n/\(kc k).all AV.one=true) {s:AS} {lb m:Nat} {es:List (K×V×Nat)} {c:Nat} {ro:Bool} (j:At s lb [.map (some m)]) (hm:eR (fun k=>.agg (kc k)) vf s m es c ro) :
  Mr P (fun k=>.agg (kc k)) vf m es c ro (fun e=>kc e.1) g [.ptr (some (lb,0))] s :=
 fun Iv w l J h0 x o=>OG w hT hf hb p d b hu r i j hm h0 x o
end
section
theorem Rl {P:Program} {w:World} {t:TypeId} {b:Nat} {c:Array MapEntry} {clock:Nat} (h:w.heap[b]? = some (.map c clock)):(Extern.MapsClone.clone #[.iface t (.map (some b))]).run P w=.ok (.iface t (.map (some w.heap.size))) { w with heap:=w.heap.push (.map c clock) }:=by
 have e:Extern.MapsClone.clone #[.iface t (.map (some b))]=(getObj b >>= fun o=>match o with
  | .map entries clock=>(do pure (.iface t (.map (some (<- newObj (.map entries clock))))):Sem Value)
  | _ => stuck "maps.clone: a map expected") := rfl
 rw [e];simp only [Sem.run_bind,getObj,Sem.run,h,Result.andThen_ok];rfl
theorem Kw {P : Program} {g : FuncId} {fn : Func} {t : TypeId} (hf : P.funcs[g]? = some fn) (k : (fn.name == "runtime.NumGoroutine") = false) (hb : fn.body.isNone = true) (y : Extern.findNext fn = none)
  (z:Extern.find fn=some Extern.MapsClone.clone) {s:AS} {m:Nat} {es:List (AV×AV×Nat)} {c:Nat} {ro:Bool} (hm:s.h m=some (.map es c ro)) :
  aa P g [.iface t (.map (some m))] s fun v s'=>∃ m',v=.iface t (.map (some m'))/\rm s s' m' (.map es c false):=by
 refine aa.extern hf k hb y z ?_;intro B γ l w e hr;have A:=hr.N9;obtain ⟨G,H,e1,r,e⟩:=au.cN.1 e;obtain rfl:=au.iL.1 e;simp only [ai] at r;obtain ⟨cv,rfl,i,hi,rfl⟩:=r;have p:l=#[.iface t (.map (some i.b))]:=by apply Array.ext';rw [e1]
 subst p;obtain ⟨j,hj,C,_⟩:=hr.obj m _ hm;rw [hi] at hj;obtain rfl:=Option.some.inj hj;obtain ⟨n,D,F⟩:=C;have hle:bT.le γ (iM γ s.nl { b:=w.heap.size,d:=0,x:=0 }):=bT.uU hr.LI;obtain ⟨hr',hd'⟩:=hr.alloc (o:=.map es c false) (i:={ b:=w.heap.size,d:=0,x:=0 }) (obj:=.map n c) (w':={ w with heap:=w.heap.push (.map n c) }) rfl rfl rfl ⟨n,by simp,F.mono hle⟩;refine ⟨_,.iface t (.map (some s.nl)),_,_,_,Rl D,?_,hd',hr',s.nl,rfl,A.new rfl⟩;simp only [ai];exact ⟨_,rfl,_,cG _ _ _,rfl⟩
theorem aa.YH {P:Program} {g:FuncId} {args:List AV} {s:AS} {R:AV->AS->Prop} (c:gB P g=true) (h:pZ (fun _ _=>True) P g args s R):aa P g args s R :=
 fun B γ b w d h2=>.inl ⟨mP c _ w,h B γ b w d h2 trivial⟩
def Jo (tm ti tb cl:TypeId):Code :=
 (Go.Code.seq (Go.Code.region 0 #[{ dst := some 2, op := Go.Op.assign (Go.Operand.const (Go.Value.map none)), type := tm, pos := "maps.go:50", after := #[], guard := none }] false) (Go.Code.seq (Go.Code.seq (Go.Code.region 1 #[{ dst := some 3, op := Go.Op.move (Go.Operand.tmp 0), type := tm, pos := "maps.go:52", after := #[], guard := none }, { dst := some 4, op := Go.Op.binOp Go.BinOp.eql tm (Go.Operand.tmp 3) (Go.Operand.const (Go.Value.map none)) tm, type := tb, pos := "maps.go:52", after := #[{ on := 0, ground := Go.Ground.data }], guard := none }] false) (Go.Code.cond (Go.Operand.tmp 4) (Go.Code.seq (Go.Code.region 2 #[{ dst := some 2, op := Go.Op.assign (Go.Operand.const (Go.Value.map none)), type := tm, pos := "maps.go:53", after := #[], guard := none }] false) Go.Code.ret) Go.Code.skip)) (Go.Code.seq (Go.Code.region 3 #[{ dst := some 5, op := Go.Op.move (Go.Operand.tmp 0), type := tm, pos := "maps.go:55", after := #[], guard := none }, { dst := some 6, op := Go.Op.makeInterface tm (Go.Operand.tmp 5), type := ti, pos := "maps.go:55", after := #[{ on := 0, ground := Go.Ground.data }], guard := none }, { dst := some 7, op := Go.Op.call { callee := Go.Callee.value (Go.Operand.func cl), args := #[Go.Operand.tmp 6], argTypes := #[ti] }, type := ti, pos := "maps.go:55", after := #[{ on := 1, ground := Go.Ground.data }], guard := none }, { dst := some 8, op := Go.Op.typeAssert (Go.Operand.tmp 7) ti tm false, type := tm, pos := "maps.go:55", after := #[{ on := 2, ground := Go.Ground.data }], guard := none }, { dst := some 2, op := Go.Op.assign (Go.Operand.tmp 8), type := tm, pos := "maps.go:55", after := #[{ on := 3, ground := Go.Ground.data }, { on := 2, ground := Go.Ground.chain }, { on := 0, ground := Go.Ground.phase }, { on := 1, ground := Go.Ground.phase }, { on := 2, ground := Go.Ground.phase }, { on := 3, ground := Go.Ground.phase }], guard := none }] false) Go.Code.ret)))
theorem Ms {P:Program} {T:TT} (hT:TT.Ok P T) {tm ti kt et:TypeId} (hu:T.cW tm=some (.map kt et)) (cv:Value) (w:World):(Instr.typeAssert (.iface tm cv) ti tm false).run P w=.ok cv w:=by
 simp only [Instr.typeAssert,Sem.run_bind,run_underlying hT hu,Result.andThen_ok,if_true];rfl
theorem xq {P:Program} {T:TT} (hT:TT.Ok P T) {g cl:FuncId} {fn j:Func} {tm ti tb kt et:TypeId} (hf:P.funcs[g]? = some fn) (A:gB P g=true) (hb:fn.body=some (Jo tm ti tb cl)) (B:fn.ntmps=9) (l:fn.results=#[.tmp 2])
  (hu : T.cW tm = some (.map kt et)) (o : P.funcs[cl]? = some j) (d : (j.name == "runtime.NumGoroutine") = false) (p : j.body.isNone = true) (r : Extern.findNext j = none) (x : Extern.find j = some Extern.MapsClone.clone)
  {s:AS} {m:Nat} {es:List (AV×AV×Nat)} {c:Nat} {ro:Bool} (hm:s.h m=some (.map es c ro)) :
  aa P g [.map (some m)] s fun v s'=>∃ m',v=.map (some m')/\rm s s' m' (.map es c false):=by
 have e:=Kept.true;refine aa.YH A (pZ.body (n:=9) (rs:=[.tmp 2]) hT hf hb (by simp [B]) (by rw [l]) ?_);unfold Jo;refine dh.seq e (dh.region e hT (bn.cO (v:=.map none) (s':=s) rfl rfl rfl rfl rfl rfl ?_));show dh _ _ _ _ _ _ _ _ _;refine dh.seq e (dh.seq e (dh.region e hT (bn.cO (v:=.map (some m)) (s':=s) rfl rfl rfl rfl rfl rfl (bn.cO (v:=.bool false) (s':=s) rfl rfl rfl rfl rfl ?_ ?_))))
 ·show (if Oc T tm (Go.Operand.tmp 3) (Go.Operand.const (Go.Value.map none)) (.map (some m)) (.map none)=true then (lR T .eql tm (.map (some m)) (.map none)).map (·,s) else none)=_;have C:Oc T tm (Go.Operand.tmp 3) (Go.Operand.const (Go.Value.map none)) (.map (some m)) (.map none)=true:=rfl;rw [if_pos C];simp [lR,iZ,hu]
 show dh _ _ _ _ _ _ _ _ _;refine dh.cond (t:=false) rfl (dh.skip ?_);show dh _ _ _ _ _ _ _ _ _;refine dh.seq e (dh.region e hT ?_);refine bn.cO (v:=.map (some m)) (s':=s) rfl rfl rfl rfl rfl rfl ?_;refine bn.cO (v:=.iface tm (.map (some m))) (s':=s) rfl rfl rfl rfl rfl ?_ ?_
 ·simp only [Am.cO,hu];rfl
 refine bn.call (g:=cl) (args:=[.iface tm (.map (some m))]) rfl rfl rfl rfl rfl ((Kw o d p r x hm).mono ?_);rintro v s' ⟨m',rfl,F⟩;refine bn.raw (v:=.map (some m')) rfl rfl rfl rfl (fun γ ρ w y=>?_) ?_
 ·have k:=y (.tmp 7);have D:pW (bU (bU (bU (bU (bU (bU (sq [.map (some m)]) (some 2) (.map none)) (some 3) (.map (some m))) (some 4) (.bool false)) (some 5) (.map (some m))) (some 6) (.iface tm (.map (some m)))) (some 7) (.iface tm (.map (some m')))) (.tmp 7)=.iface tm (.map (some m')):=rfl
  replace k:ai γ (.iface tm (.map (some m'))) (ρ (.tmp 7)):=k
  simp only [ai] at k;obtain ⟨cv,z,i,hi,rfl⟩:=k;refine ⟨.map (some i.b),?_,by simp only [ai];exact ⟨i,hi,rfl⟩⟩;have:=Ms hT (ti:=ti) hu (.map (some i.b)) w;simp only [execOp,z,Sem.run_bind,this,Result.andThen_ok];rfl
 refine bn.cO (v:=.map (some m')) (s':=s') rfl rfl rfl rfl rfl rfl ?_;show dh _ _ _ _ _ _ _ _ _;exact dh.ret ⟨_,rfl,m',rfl,F⟩
end
section
section
variable {K V:Type} [DecidableEq K] {kf:K->AV} {vf:V->AV}
theorem GJ:∀ (es:List (K×V×Nat)) (j:Nat) (e:K×V×Nat),es.Pairwise (fun a b=>a.1≠b.1)->es[j]? = some e->∀ k',dF (es.eraseIdx j) k'=if k'=e.1 then none else dF es k'
 | [],j,e,_,h,_=>by simp at h
 | x::es,0,e,hp,h,k'=>by
  simp only [List.getElem?_cons_zero,Option.some.injEq] at h;subst h;obtain ⟨p1,i⟩:=List.pairwise_cons.1 hp;rw [List.eraseIdx_cons_zero,d_];by_cases c:k'=x.1
  ·rw [if_pos c,CX];intro e l h;exact p1 e l (by rw [h,c])
  ·rw [if_neg c,if_neg (fun h=>c h.symm)]
 | x::es,j+1,e,hp,h,k'=>by
  obtain ⟨p1,i⟩:=List.pairwise_cons.1 hp;have k:es[j]? = some e:=by simpa using h
  rw [List.eraseIdx_cons_succ,d_,d_,GJ es j e i k k'];by_cases d:x.1=k'
  ·rw [if_pos d,if_pos d,if_neg];intro c;exact p1 e (List.mem_of_getElem? k) (by rw [d,c])
  ·rw [if_neg d,if_neg d]
theorem GK:∀ (es:List (K×V×Nat)) (j:Nat),mE kf vf (es.eraseIdx j)=(mE kf vf es).eraseIdx j
 | [],j=>by simp [mE]
 | x::es,0=>rfl
 | x::es,j+1=>by
  have:=GK es j;simp only [List.eraseIdx_cons_succ,mE,List.map_cons] at this ⊢;rw [this]
variable {T:TT} {t kt et:TypeId} {z:AV} (ht:Ri (K:=K) T t kt et kf z)
include ht
theorem eR.del {s:AS} (i:aJ s) {m:Nat} {es:List (K×V×Nat)} {c:Nat} (h:eR kf vf s m es c false) (k:K) {v:V} (l:dF es k=some v) {Q:AS->Prop}
  (o:∀ s' es',eR kf vf s' m es' c false->(∀ k',dF es' k'=if k'=k then none else dF es k')->es'.length+1=es.length->aJ s'->bB [m] s s'->Q s'):bC (mM T t (.map (some m)) (kf k) s) Q:=by
 obtain ⟨_,h2⟩:=A9 (vf:=vf) ht k es 0;obtain ⟨j,n,hj,_,b⟩:=h2 v l;have P:We s (s.put m (.map ((mE kf vf es).eraseIdx j) c false)) m (.map ((mE kf vf es).eraseIdx j) c false):=i.put h.obj rfl;refine ⟨_,?_,o _ (es.eraseIdx j) ⟨by rw [P.at,GK],h.st.sublist (List.eraseIdx_sublist es j),fun e p=>h.lt e (List.mem_of_mem_eraseIdx p),h.nd.sublist (List.eraseIdx_sublist es j)⟩ (fun k'=>?_) ?_ P.wf P.mut⟩
 ·simp only [mM,ht.u,ht.ok,if_true,h.obj,b,Option.map_some,Nat.zero_add]
 ·rw [GJ es j _ h.nd hj k']
 ·have d:j<es.length:=by
   rcases Nat.lt_or_ge j es.length with h | h
   ·exact h
   ·rw [List.getElem?_eq_none h] at hj;cases hj
  rw [List.length_eraseIdx,if_pos d];omega
end
section
variable {K V:Type} [DecidableEq K]
theorem pB {es:List (K×V×Nat)} (k:K):k∈es.map (fun e=>e.1)↔(dF es k).isSome=true:=by
 cases b:dF es k with
 | none =>
  have:=CX.1 b;simp only [List.mem_map,Option.isSome_none,Bool.false_eq_true,iff_false];rintro ⟨e,c,h⟩;exact this e c h
 | some v =>
  obtain ⟨j,n,hj⟩:=qW b;simp only [Option.isSome_some,iff_true];exact List.mem_map.2 ⟨_,List.mem_of_getElem? hj,rfl⟩
theorem FH {es es':List (K×V×Nat)} (h:es.Pairwise fun a b=>a.1≠b.1) (l:es'.Pairwise fun a b=>a.1≠b.1) {k:K} {v:V} (m:∀ k',dF es' k'=if k'=k then some v else dF es k') :
  es'.length=if (dF es k).isSome then es.length else es.length+1:=by
 have i:(es.map fun e=>e.1).Nodup:=List.pairwise_map.2 h;have n2:(es'.map fun e=>e.1).Nodup:=List.pairwise_map.2 l;have c:∀ k',k'∈es'.map (fun e=>e.1)↔k'=k\/k'∈es.map (fun e=>e.1):=by
  intro k';rw [pB,pB,m];by_cases e:k'=k
  ·simp [e]
  ·simp [e]
 cases j:(dF es k).isSome with
 | true =>
  have d:k∈es.map (fun e=>e.1):=(pB k).2 j;have hp:(es'.map fun e=>e.1).Perm (es.map fun e=>e.1):=(List.perm_ext_iff_of_nodup n2 i).2 fun k'=>by
   rw [c];constructor
   ·rintro (rfl | h)
    ·exact d
    ·exact h
   ·exact .inr
  have:=hp.length_eq;simpa using this
 | false =>
  have d:k ∉ es.map (fun e=>e.1):=fun h=>by rw [pB,j] at h;cases h
  have hp:(es'.map fun e=>e.1).Perm (k::es.map fun e=>e.1):=(List.perm_ext_iff_of_nodup n2 (List.nodup_cons.2 ⟨d,i⟩)).2 fun k'=>by
   rw [c,List.mem_cons]
  have:=hp.length_eq;simpa using this
end
end
end Go.Am
namespace Go.aB
section
end
end Go.aB
namespace Go.aq.SK
section
end
section
end
end Go.aq.SK
namespace Go.Am
section
section
variable {T:TT} {t el:TypeId} {sz:Nat} (hu:T.cW t=some (.slice el)) (hs:T.eZ el=some sz)
include hu hs
theorem bR.upto {s:AS} {v:AV} {n:Nat} {cs:List AV} (h:bR s v sz cs n) (hv:v≠.emp) {i:Nat} (hi:i<=n) (k:IntKind):∃ v',bf T t v none (some (.int k (i:Nat))) none=some v'/\bR s v' sz (cs.take (i*sz)) i:=by
 rcases h with ⟨rfl,_⟩ | ⟨a,c,e,rfl,⟨w,d⟩,h3⟩
 ·exact absurd rfl hv
 ·have j:cX n c none (some (.int k (i:Nat))) none=some (0,i,c):=by
   have:(0:Int)<=(i:Int)/\(i:Int)<=((c:Nat):Int):=by omega
   simp [cX,tX,qq,ie,this,d,show i<=c by omega]
  have hlen:(cs.take (i*sz)).length=i*sz:=by
   rw [List.length_take,w,Nat.min_eq_left (Nat.mul_le_mul_right _ hi)]
  have h0:i=0->cs.take (i*sz)=[]:=fun h=>List.length_eq_zero_iff.1 (by rw [hlen,h,Nat.zero_mul]);simp only [bf,hu,hs,Option.bind_some,j];rcases a with _ | ⟨b,o⟩
  ·refine ⟨_,rfl,.inr ⟨_,_,_,rfl,⟨by simpa using hlen,by omega⟩,.inl ?_⟩⟩;rcases h3 with h3 | ⟨la,o,C,h,_⟩
   ·omega
   ·cases h
  ·have key:∀ o' c' e',i<=c'->(i=0\/o'=o)->bR s (.slc (some (b,o')) i c' e') sz (cs.take (i*sz)) i:=by
    intro o' c' e' l m;refine .inr ⟨_,_,_,rfl,⟨hlen,l⟩,?_⟩;by_cases r:i=0
    ·exact .inl r
    ·rcases m with m | rfl
     ·exact absurd m r
     ·rcases h3 with h3 | ⟨la,o2,C,h,x,p⟩
      ·omega
      ·simp only [Option.some.injEq,Prod.mk.injEq] at h;obtain ⟨rfl,rfl⟩:=h;refine .inr ⟨b,_,C,rfl,x,?_⟩;rw [<- p,List.take_take,Nat.min_eq_left (Nat.mul_le_mul_right _ hi)]
   by_cases hm:c=0
   ·subst hm;obtain rfl:i=0:=by omega
    cases e
    ·exact ⟨.emp,by simp,.inl ⟨rfl,rfl,by simp⟩⟩
    ·exact ⟨.slc (some (b,o)) 0 0 true,by simp,key _ _ _ (by omega) (.inl rfl)⟩
   ·cases e
    ·exact ⟨.slc (some (b,o)) i c false,by simp [hm],key _ _ _ (by omega) (.inr rfl)⟩
    ·exact ⟨.slc (some (b,o)) i c true,by simp [hm],key _ _ _ (by omega) (.inr rfl)⟩
end
section
variable {T:TT} {t el:TypeId} {sz:Nat} (hu:T.cW t=some (.slice el)) (hs:T.eZ el=some sz)
include hu hs
theorem bR.rest {s:AS} {v:AV} {n:Nat} {cs:List AV} (h:bR s v sz cs n) {i:Nat} (hi:i<=n) (k:IntKind):∃ v',bf T t v (some (.int k (i:Nat))) none none=some v'/\bR s v' sz (cs.drop (i*sz)) (n - i):=by
 by_cases hv:v=.emp
 ·subst hv;rcases h with ⟨_,rfl,rfl⟩ | ⟨a,c,e,h,_⟩
  ·obtain rfl:i=0:=by omega
   refine ⟨.emp,?_,.inl ⟨rfl,rfl,by simp⟩⟩;simp [bf,hu,hs,cX,tX,qq,ie]
  ·cases h
 ·exact bR.from hu hs h hv hi k
theorem bR.head {s:AS} {v:AV} {n:Nat} {cs:List AV} (h:bR s v sz cs n) {i:Nat} (hi:i<=n) (k:IntKind):∃ v',bf T t v none (some (.int k (i:Nat))) (some (.int k (i:Nat)))=some v'/\bR s v' sz (cs.take (i*sz)) i:=by
 have hlen:i<=n->cs.length=n*sz->(cs.take (i*sz)).length=i*sz:=fun hi d=>by
  rw [List.length_take,d,Nat.min_eq_left (Nat.mul_le_mul_right _ hi)]
 rcases h with ⟨rfl,rfl,rfl⟩ | ⟨a,c,e,rfl,⟨d,p⟩,h3⟩
 ·obtain rfl:i=0:=by omega
  refine ⟨.emp,?_,.inl ⟨rfl,rfl,by simp⟩⟩;simp [bf,hu,hs,cX,tX,qq,ie]
 ·have r:(0:Int)<=(i:Int)/\(i:Int)<=((c:Nat):Int):=by omega
  have h2:(0:Int)<=(i:Int)/\(i:Int)<=((i:Nat):Int):=by omega
  have j:cX n c none (some (.int k (i:Nat))) (some (.int k (i:Nat)))=some (0,i,i):=by
   simp only [cX,tX,qq,ie,Option.isNone_some,Option.isSome_some,Bool.false_eq_true,false_and,if_false,if_pos r,Option.bind_some,Int.toNat_natCast,if_pos h2,Option.map_some]
  simp only [bf,hu,hs,Option.bind_some,j,Option.isSome_some,Bool.or_true,if_true,Nat.sub_zero];rcases a with _ | ⟨b,o⟩
  ·refine ⟨_,rfl,.inr ⟨_,_,_,rfl,⟨hlen hi d,Nat.le_refl _⟩,.inl ?_⟩⟩;rcases h3 with h3 | ⟨la,o,C,h,_⟩
   ·omega
   ·cases h
  ·refine ⟨_,rfl,.inr ⟨_,_,_,rfl,⟨hlen hi d,Nat.le_refl _⟩,?_⟩⟩;by_cases m:i=0
   ·exact .inl m
   ·rcases h3 with h3 | ⟨la,o2,C,h,w,l⟩
    ·omega
    ·simp only [Option.some.injEq,Prod.mk.injEq] at h;obtain ⟨rfl,rfl⟩:=h;refine .inr ⟨b,_,C,by rw [if_neg m,Nat.zero_mul,Nat.add_zero],w,?_⟩;rw [<- l,List.take_take,Nat.min_eq_left (Nat.mul_le_mul_right _ hi)]
end
theorem Sl.rest {α:Type} {f:α->List AV} {sz:Nat} {s:AS} {v:AV} {l:List α} {T:TT} {t el:TypeId} (hf:∀ x,(f x).length=sz) (hu:T.cW t=some (.slice el)) (hs:T.eZ el=some sz) (h:Sl f sz s v l) {i:Nat} (hi:i<=l.length) (k:IntKind):∃ v',bf T t v (some (.int k (i:Nat))) none none=some v'/\Sl f sz s v' (l.drop i):=by
 obtain ⟨v',b,h2⟩:=bR.rest hu hs h hi k;exact ⟨v',b,by rw [qU hf] at h2;simpa [Sl] using h2⟩
theorem Sl.head {α:Type} {f:α->List AV} {sz:Nat} {s:AS} {v:AV} {l:List α} {T:TT} {t el:TypeId} (hf:∀ x,(f x).length=sz) (hu:T.cW t=some (.slice el)) (hs:T.eZ el=some sz) (h:Sl f sz s v l) {i:Nat} (hi:i<=l.length) (k:IntKind):∃ v',bf T t v none (some (.int k (i:Nat))) (some (.int k (i:Nat)))=some v'/\Sl f sz s v' (l.take i):=by
 obtain ⟨v',b,h2⟩:=bR.head hu hs h hi k;refine ⟨v',b,?_⟩;rw [uh hf] at h2;have:(l.take i).length=i:=by rw [List.length_take];omega
 unfold Sl;rw [this];exact h2
theorem bR.one {s:AS} {v:AV} {n sz:Nat} {cs:List AV} (h:bR s v sz cs n):v.one=true:=by
 rcases h with ⟨rfl,_⟩ | ⟨a,c,e,rfl,_⟩ <;> rfl
theorem Sl.upto {α:Type} {f:α->List AV} {sz:Nat} {s:AS} {v:AV} {l:List α} {T:TT} {t el:TypeId} (hf:∀ x,(f x).length=sz) (hu:T.cW t=some (.slice el)) (hs:T.eZ el=some sz) (h:Sl f sz s v l) (hv:v≠.emp) {i:Nat} (hi:i<=l.length) (k:IntKind):∃ v',bf T t v none (some (.int k (i:Nat))) none=some v'/\Sl f sz s v' (l.take i):=by
 obtain ⟨v',b,h2⟩:=bR.upto hu hs h hv hi k;refine ⟨v',b,?_⟩;rw [uh hf] at h2;have:(l.take i).length=i:=by rw [List.length_take];omega
 unfold Sl;rw [this];exact h2
theorem bB.new {L c:List Nat} {s s1 s2:AS} (h:bB L s s1) (m:bB c s1 s2) (e:∀ x∈c,x∈L\/s.h x=none):bB L s s2:=by
 refine ⟨fun x o d b=>m.1 x o (fun hm=>?_) (h.1 x o d b),Nat.le_trans h.2 m.2⟩;rcases e x hm with h | h
 ·exact d h
 ·rw [h] at b;cases b
end
section
open Go.ChangeShapes Go.WideShapes Go.Deep
section
variable {H:Type} {enc:TypeId×Value->H} {P:Program} {w:World}
theorem GL {t e:TypeId} {sz:Nat} (hu:P.underlying t=some (.slice e)) (M:P.cellsOf e=sz) (O:0<sz) {XT:List AV->Prop} (G:∀ n cs y,DataW.trod enc P w 0 (fun _=>true) true n e cs=some y->cs.length=sz->XT (cs.map (dM w.heap.size (MW w)))) (Q:∀ l,XT l->∀ v∈l,v.one=true)
  {fuel:Nat} {v:Value} {y:DataW H×List MemPlace} (h:DataW.trod enc P w 0 (fun _=>true) true fuel t [v]=some y) :
  (dM w.heap.size (MW w) v).one=true/\∃ C:List (List AV),bR (sW w) (dM w.heap.size (MW w) v) sz C.flatten C.length/\(∀ c∈C,XT c)/\C.length<=maxLen:=by
 rcases open_slice hu h with ⟨I,_⟩ | ⟨a,len,cap,m,n,D,Pl,I,hb,Y,hm,sU,_,B⟩
 ·obtain rfl:v=.slice none 0 0:=by simpa using I
  exact ⟨by simp [dM,AV.one],[],by simp only [dM,List.flatten_nil,List.length_nil];exact bR.nil,by simp,by simp⟩
 ·obtain rfl:v=.slice (some a) len cap:=by simpa using I
  simp only [if_true] at sU;subst sU;by_cases S:m=0
  ·subst S;obtain rfl:len=0:=by omega
   obtain ⟨b,o,F⟩:=a;refine ⟨?_,[],?_,by simp,by simp⟩
   ·cases F with
    | none =>
     simp only [dM];split
     ·split <;> rfl
     ·rfl
    | some _=>simp [dM,AV.one]
   ·simp only [List.flatten_nil,List.length_nil];cases F with
    | none =>
     simp only [dM];split
     ·split <;> exact bR.nil
     ·exact bR.emp
    | some _=>simp only [dM,if_true];exact bR.emp
  obtain ⟨b,o,F⟩:=a;have z:∃ c,w.cell? ((Addr.add ⟨b,o,F⟩ (0*sz)).add 0)=some c:=by
   obtain ⟨cs',k,_⟩:=B 0 (by omega);rw [M] at k;obtain ⟨_,hlen,p⟩:=World.cells?_some k;rw [p 0 O];exact ⟨_,List.getElem?_eq_getElem (by omega)⟩
  obtain ⟨rfl,c,e',fz,d⟩:F=none/\∃ c e' fz,w.heap[b]? = some (.cells c e' fz):=by
   obtain ⟨x,B⟩:=z;have Z:(Addr.add ⟨b,o,F⟩ (0*sz)).add 0=⟨b,o,F⟩:=by unfold Addr.add;simp
   rw [Z] at B;unfold World.cell? at B;split at B
   ·rename_i c e' fz d;cases F with
    | none=>exact ⟨rfl,c,e',fz,d⟩
    | some _=>simp at B
   ·cases B
  have U:b<w.heap.size:=by
   rcases Nat.lt_or_ge b w.heap.size with h | h
   ·exact h
   ·rw [Array.getElem?_eq_none h] at d;cases d
  have ab:=Th d;have A:∀ i,i<m->∃ J,J=((c.toList.drop (o+i*sz)).take sz)/\J.length=sz/\XT (J.map (dM w.heap.size (MW w))):=by
   intro i hi;obtain ⟨cs',k,h2⟩:=B i hi;rw [M] at k;obtain ⟨_,hlen,p⟩:=World.cells?_some k;have R:cs'=(c.toList.drop (o+i*sz)).take sz:=by
    apply List.ext_getElem?;intro j;rw [List.getElem?_take,List.getElem?_drop];split
    ·rename_i hj;rw [<- p j hj];simp only [World.cell?];have r:(((⟨b,o,none⟩:Addr).add (i*sz)).add j).block=b/\(((⟨b,o,none⟩:Addr).add (i*sz)).add j).off=o+i*sz+j/\(((⟨b,o,none⟩:Addr).add (i*sz)).add j).spot=none:=by
      unfold Addr.add;by_cases h0:i*sz=0 <;> by_cases k:j=0 <;> simp [h0,k]
     rw [r.1,r.2.1,r.2.2,d];simp
    ·rw [List.getElem?_eq_none (by omega)]
   exact ⟨cs',R,hlen,G n cs' _ h2 hlen⟩
  have ho:o<c.size:=by
   obtain ⟨J,k,h2,_⟩:=A 0 (by omega);have:=congrArg List.length k;rw [h2,List.length_take,List.length_drop,Nat.zero_mul,Nat.add_zero,show c.toList.length=c.size from Array.length_toList] at this;omega
  have hv:dM w.heap.size (MW w) (.slice (some ⟨b,o,none⟩) len m)=.slc (some (b*MW w+o,0)) len m true:=by
   simp only [dM];rw [if_pos ⟨U,by omega⟩,if_pos (by omega)]
  rw [hv];refine ⟨rfl,(List.range len).map fun i=>((c.toList.drop (o+i*sz)).take sz).map (dM w.heap.size (MW w)),?_,?_,?_⟩
  ·rw [List.length_map,List.length_range];by_cases h0:len=0
   ·subst h0;simp only [List.range_zero,List.map_nil,List.flatten_nil];exact bR.nil
   ·have W:((List.range len).map fun i=>((c.toList.drop (o+i*sz)).take sz).map (dM w.heap.size (MW w))).flatten=((c.toList.drop o).map (dM w.heap.size (MW w))).take (len*sz):=by
     rw [chunks];congr 1;apply List.map_congr_left;intro i _;rw [List.map_take,<- List.map_drop,List.drop_drop]
    have K:∀ v∈((c.toList.drop o).map (dM w.heap.size (MW w))).take (len*sz),v.one=true:=by
     intro v hv;rw [<- W] at hv;obtain ⟨cc,L,X⟩:=List.mem_flatten.1 hv;obtain ⟨i,hi,rfl⟩:=List.mem_map.1 L;obtain ⟨J,k,_,h3⟩:=A i (by have:=List.mem_range.1 hi;omega);rw [k] at h3;exact Q _ h3 v X
    refine bR.mk (Wg d (by omega)) ?_ ?_ Y
    ·rw [W,List.length_take,List.length_map,List.length_drop,show c.toList.length=c.size from Array.length_toList];obtain ⟨J,k,h2,_⟩:=A (len - 1) (by omega);have:=congrArg List.length k;rw [h2,List.length_take,List.length_drop,show c.toList.length=c.size from Array.length_toList] at this;have e:(len - 1)*sz+sz=len*sz:=by
      rw [<- Nat.succ_mul];congr 1;omega
     omega
    ·rw [List.drop_zero];unfold win;rw [ru _ _ K,W]
  ·intro cc L;obtain ⟨i,hi,rfl⟩:=List.mem_map.1 L;obtain ⟨J,k,_,h3⟩:=A i (by have:=List.mem_range.1 hi;omega);rw [k] at h3;exact h3
  ·rw [List.length_map,List.length_range];omega
/-! ### data that hold slices -/
inductive Qj where
 | fl (k:LK)
 | sl (ks:List LK)
def Jp (w:World):Qj->AV->Prop
 | .fl k,v=>CV k v
 | .sl ks,v=>v.one=true/\∃ C:List (List AV),bR (sW w) v ks.length C.flatten C.length/\(∀ c∈C,cQ ks c)/\C.length<=maxLen
def cK (w:World):List Qj->List AV->Prop
 | [],[]=>True
 | k::ks,v::vs=>Jp w k v/\cK w ks vs
 | _,_=>False
theorem Jp.one {k:Qj} {v:AV} (h:Jp w k v):v.one=true:=by
 cases k
 ·exact CV.one h
 ·exact h.1
theorem cK.one:∀ {ks:List Qj} {vs:List AV},cK w ks vs->∀ v∈vs,v.one=true
 | [],[],_,v,hv=>by cases hv
 | [],_::_,h,_,_=>h.elim
 | _::_,[],h,_,_=>h.elim
 | k::ks,u::vs,h,v,hv=>by
  rcases List.mem_cons.1 hv with rfl | hv
  ·exact h.1.one
  ·exact cK.one h.2 v hv
theorem cK.append:∀ {ks b:List Qj} {vs c:List AV},cK w ks vs->cK w b c->cK w (ks++b) (vs++c)
 | [],_,[],_,_,d=>by simpa using d
 | [],_,_::_,_,h,_=>h.elim
 | _::_,_,[],_,h,_=>h.elim
 | k::ks,_,v::vs,_,h,d=>⟨h.1,cK.append h.2 d⟩
theorem cK.cons {k:Qj} {ks:List Qj} {c:List AV} (h:cK w (k::ks) c):∃ v vs,c=v::vs/\Jp w k v/\cK w ks vs:=by
 cases c with
 | nil=>exact h.elim
 | cons v vs=>exact ⟨v,vs,rfl,h.1,h.2⟩
theorem cK.nil {c:List AV} (h:cK w [] c):c=[]:=by
 cases c with
 | nil=>rfl
 | cons v vs=>exact h.elim
theorem cK.flat:∀ {ks:List LK} {vs:List AV},cK w (ks.map .fl) vs->cQ ks vs
 | [],[],_=>trivial
 | [],_::_,h=>h.elim
 | _::_,[],h=>h.elim
 | k::ks,v::vs,h=>⟨h.1,cK.flat h.2⟩
theorem cK.of_flat:∀ {ks:List LK} {vs:List AV},cQ ks vs->cK w (ks.map .fl) vs
 | [],[],_=>trivial
 | [],_::_,h=>h.elim
 | _::_,[],h=>h.elim
 | k::ks,v::vs,h=>⟨h.1,cK.of_flat h.2⟩
theorem cK.split {ks c:List Qj}:∀ {vs:List AV},cK w (ks++c) vs->∃ a b,vs=a++b/\cK w ks a/\cK w c b:=by
 induction ks with
 | nil=>intro vs h;exact ⟨[],vs,rfl,trivial,h⟩
 | cons k ks d =>
  intro vs h;obtain ⟨v,e,rfl,i,h2⟩:=cK.cons h;obtain ⟨a,b,rfl,h3,h4⟩:=d h2;exact ⟨v::a,b,rfl,⟨i,h3⟩,h4⟩
def Mt (P:Program) (rec:TypeId->Option (List Qj)):List Field->Nat->Option (List Qj)
 | [],_=>some []
 | f::fs,o=>(rec f.type).bind fun ks=>if f.offset=o/\P.cellsOf f.type=ks.length then (Mt P rec fs (o+ks.length)).map (ks++·) else none
def GM (P:Program):Nat->TypeId->Option (List Qj)
 | 0,_=>none
 | d+1,t=>match zh P (d+1) t with
  | some ks=>some (ks.map .fl)
  | none=>match P.underlying t with
   | some (.slice e)=>(zh P d e).bind fun ks=>if P.cellsOf e=ks.length/\0<ks.length/\P.cellsOf t=1 then some [.sl ks] else none
   | some (.struct fs)=>(Mt P (GM P d) fs.toList 0).bind fun ks=>if P.cellsOf t=ks.length then some ks else none
   | _=>none
theorem Rm:∀ (d:Nat) (t:TypeId) (ks:List Qj) (fuel:Nat) (cs:List Value) (x:DataW H×List MemPlace),GM P d t=some ks->DataW.trod enc P w 0 (fun _=>true) true fuel t cs=some x->cs.length=P.cellsOf t->cK w ks (cs.map (dM w.heap.size (MW w))):=by
 intro d
 induction d with
 | zero=>intro t ks fuel cs x h;simp [GM] at h
 | succ d Q =>
  intro t ks fuel cs x h ht B;unfold GM at h;split at h
  ·rename_i j C;obtain rfl:=Option.some.inj h;exact cK.of_flat (CW (d+1) t j fuel cs x _ _ C ht)
  ·split at h
   ·rename_i e hu;simp only [Option.bind_eq_some_iff] at h;obtain ⟨j,C,h⟩:=h;split at h
    ·rename_i p;obtain rfl:=Option.some.inj h;obtain ⟨c,rfl⟩:∃ c,cs=[c]:=List.length_eq_one_iff.1 (by rw [B,p.2.2]);have:=GL (XT:=cQ j) hu p.1 p.2.1 (fun n cs y D _=>CW d e j n cs y _ _ C D) (fun l R=>R.one) ht;exact ⟨this,trivial⟩
    ·cases h
   ·rename_i fs hu;obtain ⟨xs,m,rfl,_,hlen,F,hf⟩:=DataW.trod_struct hu ht;simp only [Option.bind_eq_some_iff] at h;obtain ⟨j,G,h⟩:=h;split at h
    ·rename_i r;obtain rfl:=Option.some.inj h;have key:∀ (l:List Field) (o:Nat) (ks:List Qj),Mt P (GM P d) l o=some ks->(∀ f∈l,∃ y,DataW.trod enc P w 0 (fun _=>true) true m f.type ((cs.drop f.offset).take (P.cellsOf f.type))=some y)->o+ks.length<=cs.length->cK w ks (((cs.drop o).take ks.length).map (dM w.heap.size (MW w))):=by
      intro l
      induction l with
      | nil=>intro o ks h _ _;simp only [Mt] at h;obtain rfl:=Option.some.inj h;simp [cK]
      | cons f l I =>
       intro o ks h b hle;simp only [Mt,Option.bind_eq_some_iff] at h;obtain ⟨S,J,h⟩:=h;split at h
       ·rename_i p;obtain ⟨z,A⟩:=p;simp only [Option.map_eq_some_iff] at h;obtain ⟨k2,K,rfl⟩:=h;obtain ⟨y,D⟩:=b f (by simp);rw [List.length_append] at hle;have O:=Q _ _ _ _ _ J D (by rw [List.length_take,List.length_drop,z,A];omega);rw [z,A] at O;have U:=I (o+S.length) k2 K (fun f hf=>b f (by simp [hf])) (by omega);have:=O.append U;rw [List.length_append,List.take_add,List.map_append,List.drop_drop];exact this
       ·cases h
     have b:∀ f∈fs.toList,∃ y,DataW.trod enc P w 0 (fun _=>true) true m f.type ((cs.drop f.offset).take (P.cellsOf f.type))=some y:=by
      intro f L;obtain ⟨i,hi⟩:=List.mem_iff_getElem?.1 L;have k:fs[i]? = some f:=by simpa using hi
      have M:i<xs.length:=by
       rw [F];rcases Nat.lt_or_ge i fs.size with h | h
       ·exact h
       ·rw [Array.getElem?_eq_none h] at k;cases k
      exact ⟨_,(hf i f k).trans (List.getElem?_eq_getElem M)⟩
     have:=key fs.toList 0 j G b (by rw [hlen,r];omega);rw [List.drop_zero,List.take_of_length_le (by rw [hlen,r];exact Nat.le_refl _)] at this;exact this
    ·cases h
   ·cases h
theorem OH {t e:TypeId} {d:Nat} {ks:List Qj} (hu:P.underlying t=some (.slice e)) (m:GM P d e=some ks) (b:P.cellsOf e=ks.length) (i:0<ks.length) {base:Nat} {v:Value} {y:DataW H} {ps:List MemPlace}
  (hv:Value.okWide P w .any base t v) (h:DataW.Trod enc P w 0 (fun _=>true) true t v y ps) :
  ∃ C:List (List AV),bR (sW w) (dM w.heap.size (MW w) v) ks.length C.flatten C.length/\(∀ c∈C,cK w ks c)/\C.length<=maxLen:=by
 obtain ⟨fuel,h⟩:=h;have j:v.cells.toList=[v]:=by
  cases v with
  | agg l=>exfalso;unfold Value.okWide at hv;rw [hu] at hv;simp only [Cell.okWide,hu,Cell.ok] at hv
  | _=>rfl
 rw [j] at h;exact (GL (XT:=cK w ks) hu b i (fun n cs y o k=>Rm d e ks n cs y m o (by rw [k,b])) (fun l k=>k.one) h).2
end
end
section
open Go.ChangeShapes Go.WideShapes Go.Deep
open Go.ChangeShapes Go.WideShapes Go.ChangeAt Go.RowKit
def Wh {H:Type} (P:Program) (t:TypeId) (d:DataW H):Prop:=∀ n∈d.weights P t,n<=reachBytes
section
variable {H:Type} {enc:TypeId×Value->H} {P:Program} {w:World}
theorem GN:∀ {ts:List TypeId} {ds:List (DataW H)},(∀ n∈DataW.weightsEach P ts ds,n<=reachBytes)->∀ (i:Nat) t d,ts[i]? = some t->ds[i]? = some d->Wh P t d
 | [],_,_,i,t,d,b,_=>by simp at b
 | t0::ts,[],_,i,t,d,_,h2=>by simp at h2
 | t0::ts,d0::ds,h,i,t,d,b,h2=>by
  simp only [DataW.weightsEach,List.mem_append] at h;cases i with
  | zero =>
   simp only [List.getElem?_cons_zero,Option.some.injEq] at b h2;subst b;subst h2;exact fun n c=>h n (.inl c)
  | succ i =>
   simp only [List.getElem?_cons_succ] at b h2;exact GN (fun n c=>h n (.inr c)) i t d b h2
end
theorem QW {H:Type} {enc:TypeId×Value->H} {C:Checked} {os:Os} {f:FuncId} {fn:Func} {s:ChangeSpec} {fresh:Bool} {rt:TypeId} (own:ownKnob C.prog.godebug=none) (started:os.Started) (b:C.prog.inits.idxOf? f=none) (D:C.prog.funcs[f]? = some fn)
  (witness:∃ (w:World) (tape:Tape) (i:Input),w.os=os/\(w.forCall tape i).Shaped C.prog/\i.vars=[]/\Input.okWide C.prog (w.forCall tape i) .any w.heap.size f i /\
   s.pre6 enc C.prog fn [] false (w.forCall tape i).memory i.args/\({}:Assume).holds C.prog (lone (Frame.enter C.prog f i.args .normal) [] (w.forCall tape i)))
  (S:gB C.prog f=true) (hv:s.vars=[]) (F:fn.resultTypes=#[rt]) (G:C.prog.underlying rt=some .bool) (U:laidOutB C.prog=true) (hr:(fn.params.toList.all fun t=>C.prog.readableRec t&&decide (t<C.prog.types.size))=true)
  (I:∀ ds:List (DataW H),ds.length=fn.params.toList.length->s.fn H ds={ results:=[.lit (.bool true)],args:=ds })
  (k:∀ (W:World) (base:Nat) (args:List Value),args.length=fn.params.toList.length->(∀ (j:Nat) t v,fn.params.toList[j]? = some t->args[j]? = some v->Value.okWide C.prog W .any base t v/\∃ (d:DataW H) (p:List MemPlace),DataW.Trod enc C.prog W 0 (fun _=>true) true t v d p/\Wh C.prog t d) ->
   aa C.prog f (args.map (dM W.heap.size (MW W))) (sW W) fun v s'=>v=.bool true) :
  ReturnsInHanded {} C os f .any (s.pre6 enc C.prog fn [] false) (s.post enc C.prog fn false fresh false false):=by
 refine returnsInHanded_of_calls own started b witness ?_;intro w tape i _ _ _ J l B;obtain ⟨_,_,_,m,n,_,_,_,_,o⟩:=J;have e:m=fn:=Option.some.inj (n.symm.trans D);subst e;obtain ⟨⟨ds,gs,before,O,hc⟩,X⟩:=l;have r:=X.weights O;have Q:=DataW.Whole.of_heap (w':=w.forCall tape i) (by rfl) O;have y:=Q;obtain ⟨p,q,K,Y,rfl,Z,ab⟩:=Q;have z:=Y;rw [hv] at z;obtain ⟨rfl,rfl⟩:=trodVars_none z;obtain ⟨L,M⟩:=D6 K;simp only [List.all_eq_true,decide_eq_true_eq] at r;have c:=k (w.forCall tape i) w.heap.size i.args.toList L fun j t v hj A=>by
  obtain ⟨v',d,p',R,hd,h2⟩:=GH K j t hj;rw [A] at R;obtain rfl:=Option.some.inj R;refine ⟨o j t v (by simpa using hj) (by simpa using A),d,p',h2,GN r j t d ?_ ?_⟩
  ·rw [List.getElem?_append_left,hj];rcases Nat.lt_or_ge j m.params.toList.length with h | h
   ·exact h
   ·rw [List.getElem?_eq_none h] at hj;cases hj
  ·rw [List.append_nil];exact hd
 refine (H6 S c).mono fun e W' ⟨he,hb⟩=>?_;subst he;refine ChangeSpec.post_blind (SX (pa:=p) (rt:=rt) y hv hb F G ?_ ?_)
 ·rw [List.append_nil];exact I ds M
 ·exact zi U hb _ _ _ _ hr K fun x hx=>y.lt x (by simp [hx])
end
section
theorem Kx {P : Program} {g : FuncId} {fn : Func} (hf : P.funcs[g]? = some fn) (d : (fn.name == "runtime.NumGoroutine") = false) (hb : fn.body.isNone = true) (l : Extern.findNext fn = none)
  (m:Extern.find fn=some add64Entry) {s:AS} {x y c:Int} (n:0<=x) (o:0<=y) (i:0<=c) (p:c<=1) :
  aa P g [.int .u64 x,.int .u64 y,.int .u64 c] s fun v s'=>v=.aQ [.int .u64 ((x+y+c) % 18446744073709551616),.int .u64 ((x+y+c) / 18446744073709551616)]/\s'=s:=by
 refine aa.extern hf d hb l m ?_;intro B γ e w b hr;obtain ⟨r,z,e1,k,b⟩:=au.cN.1 b;obtain ⟨c2,A,rfl,h2,b⟩:=au.cN.1 b;obtain ⟨C,D,rfl,h3,b⟩:=au.cN.1 b;obtain rfl:=au.iL.1 b;simp only [ai] at k h2 h3;subst k;subst h2;subst h3;have j:e=#[.int .u64 x,.int .u64 y,.int .u64 c]:=by apply Array.ext';rw [e1]
 subst j;refine ⟨γ,_,_,s,w,run_add64 x y c n o i p w,?_,gq.refl,hr,rfl,rfl⟩;simp [ai,au]
end
end Go.Am
namespace Go.bq
section
open Go.Am
def Ep (k:IntKind) (x y:Int):Int:=k.wrap (BitVec.ofInt k.bits x &&& BitVec.ofInt k.bits y).toNat
def Vb (k:IntKind) (x y:Int):Int:=k.wrap (BitVec.ofInt k.bits x ||| BitVec.ofInt k.bits y).toNat
def xu (k:IntKind) (x y:Int):Int:=k.wrap (BitVec.ofInt k.bits x ^^^ BitVec.ofInt k.bits y).toNat
def YI (x:Int):Int:=xu .u32 (IntKind.max .u32) x
def shl (k:IntKind) (x:Int) (n:Int):Int:=IntKind.wrap k (x*2 ^ min (Int.toNat n) (IntKind.bits k))
def shr (k:IntKind) (x:Int) (n:Int):Int:=Int.fdiv x (2 ^ min (Int.toNat n) (IntKind.bits k))
def WS (x k:Int):Int:=Vb .u32 (shl .u32 x (Ep .u64 (IntKind.wrap .u64 k) 31)) (shr .u32 x (IntKind.wrap .u64 (32 - Ep .u64 (IntKind.wrap .u64 k) 31)))
def Er (x:Int) (l:List Int):Int:=l.foldl (fun y n=>xu .u32 y (WS x (IntKind.wrap .i64 (0 - n)))) 0
def mulM (a b:Int):Int:=IntKind.wrap .u64 ((IntKind.wrap .u64 ((shr .u64 a 32)*(Ep .u64 b 4294967295)))+(shr .u64 (IntKind.wrap .u64 (Ep .u64 a 4294967295*Ep .u64 b 4294967295)) 32))
def pC (a b : Int) : Int × Int :=
  (IntKind.wrap .u64 ((IntKind.wrap .u64 ((IntKind.wrap .u64 ((shr .u64 a 32) * (shr .u64 b 32))) + (shr .u64 (mulM a b) 32))) + (shr .u64 (IntKind.wrap .u64 (Ep .u64 (mulM a b) 4294967295 + (IntKind.wrap .u64 (Ep .u64 a 4294967295 * (shr .u64 b 32))))) 32)),
   IntKind.wrap .u64 (a * b))
def To (x:Int):Int:=(pC (pC x x).1 x).2+(pC (pC x x).2 x).1+0
def zj (x : Int) : List Int :=
  [Vb .u64 (shl .u64 (IntKind.wrap .u64 ((pC (pC x x).1 x).1 + To x / 18446744073709551616)) 32) (shr .u64 (To x % 18446744073709551616) 32),
   Vb .u64 (shl .u64 (To x % 18446744073709551616) 32) (shr .u64 (pC (pC x x).2 x).2 32)]
def Qk (x:Int):Bool:=shl .u64 (pC (pC x x).2 x).2 32 != 0
def rz (x y:Int) (lost:Bool) (p:Int):Bool:=decide (x>p)||(x==p&&(decide (y>0)||lost))
def GO (P:Int->Bool) (x:Int) (i:Nat):Int :=
 if P (Vb .u64 x (shl .u64 1 (IntKind.wrap .i64 (37 - (i:Int))))) then x else Vb .u64 x (shl .u64 1 (IntKind.wrap .i64 (37 - (i:Int))))
def Bc (P:Int->Bool):Nat->Int
 | 0=>0
 | i+1=>GO P (Bc P i) i
def Tp (P:Int->Bool):Int:=IntKind.wrap .u32 (Bc P 38)
def OJ (p:Int):Int:=Tp fun x=>rz ((zj x).getD 0 0) ((zj x).getD 1 0) (Qk x) p
def Tq (p:Int):Int:=Tp fun x=>rz (pC x x).1 (pC x x).2 false p
def eW:Nat->List Int
 | 0=>[]
 | k+1=>if (eW k).any (fun p=>Int.tmod ((k:Int)+2) p==0) then eW k else eW k++[(k:Int)+2]
theorem Ky (k:Nat):(eW k).length<=(eW (k+1)).length:=by
 rw [eW];split <;> simp
theorem zG {k n : Nat} (h : k <= n) : (eW k).length <= (eW n).length := by
  induction n with
  | zero => obtain rfl : k = 0 := by omega
            exact Nat.le_refl _
  | succ n c =>
    rcases Nat.lt_or_ge n k with b | b
    · obtain rfl : k = n + 1 := by omega
      exact Nat.le_refl _
    · exact Nat.le_trans (c b) (Ky n)
theorem xw:∀ k,∀ p∈eW k,2<=p
 | 0,p,h=>by simp [eW] at h
 | k+1,p,h=>by
  rw [eW] at h;split at h
  ·exact xw k p h
  ·rcases List.mem_append.1 h with h | h
   ·exact xw k p h
   ·obtain rfl:=List.mem_singleton.1 h;omega
theorem Rn:(eW 309).length=63:=by decide +kernel
theorem CY:(eW 310).length=64:=by decide +kernel
def yI:List Int:=eW 310
def FJ (st:List Int) (i:Nat) (p:Int):List Int:=if i<8 then (st.set (8+i) (OJ p)).set i (Tq p) else st.set (8+i) (OJ p)
def vp:Nat->List Int
 | 0=>List.replicate 72 0
 | i+1=>FJ (vp i) i (yI.getD i 0)
def sX:List Int:=vp 64
theorem rA:∀ i,(vp i).length=72
 | 0=>by simp [vp]
 | i+1=>by rw [vp,FJ];split <;> simp [rA i]
/-! ### pressing -/
def OK (b:List Int) (i k:Nat) (w:List Int):List Int:=w.set i (Vb .u32 (shl .u32 (w.getD i 0) 8) (IntKind.wrap .u32 (b.getD (4*i+k) 0)))
def Wi (b:List Int) (i:Nat) (w:List Int):Nat->List Int
 | 0=>w
 | k+1=>OK b i k (Wi b i w k)
def UP (b:List Int):Nat->List Int
 | 0=>List.replicate 64 0
 | i+1=>Wi b i (UP b i) 4
def OL (j:Nat) (w:List Int):List Int :=
 w.set j (IntKind.wrap .u32 ((IntKind.wrap .u32 ((IntKind.wrap .u32 (w.getD (j - 16) 0+xu .u32 (Er (w.getD (j - 15) 0) [7,18]) (shr .u32 (w.getD (j - 15) 0) 3)))+w.getD (j - 7) 0))+xu .u32 (Er (w.getD (j - 2) 0) [17,19]) (shr .u32 (w.getD (j - 2) 0) 10)))
def Mu (b:List Int):Nat->List Int
 | 0=>UP b 16
 | i+1=>OL (16+i) (Mu b i)
structure W8 where
 a:Int
 b:Int
 c:Int
 d:Int
 e:Int
 f:Int
 g:Int
 z:Int
def W8.t (v:W8) (k w:Int):Int:=IntKind.wrap .u32 ((IntKind.wrap .u32 ((IntKind.wrap .u32 ((IntKind.wrap .u32 (v.z+Er v.e [6,11,25]))+xu .u32 (Ep .u32 v.e v.f) (Ep .u32 (YI v.e) v.g)))+k))+w)
def W8.u (v:W8):Int:=IntKind.wrap .u32 (Er v.a [2,13,22]+xu .u32 (xu .u32 (Ep .u32 v.a v.b) (Ep .u32 v.a v.c)) (Ep .u32 v.b v.c))
def W8.step (v:W8) (k w:Int):W8:=⟨IntKind.wrap .u32 (v.t k w+v.u),v.a,v.b,v.c,IntKind.wrap .u32 (v.d+v.t k w),v.e,v.f,v.g⟩
def W8.of (st:List Int):W8:=⟨st.getD 0 0,st.getD 1 0,st.getD 2 0,st.getD 3 0,st.getD 4 0,st.getD 5 0,st.getD 6 0,st.getD 7 0⟩
def W8.list (v:W8):List Int:=[v.a,v.b,v.c,v.d,v.e,v.f,v.g,v.z]
def xx (st w:List Int):Nat->W8
 | 0=>W8.of st
 | i+1=>(xx st w i).step (st.getD (8+i) 0) (w.getD i 0)
def Mv (l:List Int) (st:List Int):Nat->List Int
 | 0=>st
 | i+1=>(Mv l st i).set i (IntKind.wrap .u32 ((Mv l st i).getD i 0+l.getD i 0))
def OM (st b:List Int):List Int:=Mv (xx st (Mu b 48) 64).list st 8
theorem FK (b:List Int) (i:Nat) (w:List Int):∀ k,(Wi b i w k).length=w.length
 | 0=>rfl
 | k+1=>by rw [Wi,OK,List.length_set,FK b i w k]
theorem FL (b:List Int):∀ i,(UP b i).length=64
 | 0=>by simp [UP]
 | i+1=>by rw [UP,FK,FL b i]
theorem FM (b:List Int):∀ i,(Mu b i).length=64
 | 0=>FL b 16
 | i+1=>by rw [Mu,OL,List.length_set,FM b i]
theorem Bd (l st:List Int):∀ i,(Mv l st i).length=st.length
 | 0=>rfl
 | i+1=>by rw [Mv,List.length_set,Bd l st i]
theorem ON (st b:List Int):(OM st b).length=st.length:=Bd _ _ _
def xy (st b:List Int):Nat->List Int
 | 0=>st
 | i+1=>OM (xy st b i) ((b.drop (64*i)).take 64)
theorem zH (st b:List Int):∀ i,(xy st b i).length=st.length
 | 0=>rfl
 | i+1=>by rw [xy,ON,zH st b i]
/-! ### a hash -/
def Kz (n:Nat):Nat:=(120 - (n+1) % 64) % 64
def WT (n:Nat) (i:Nat):Int:=IntKind.wrap .u8 (shr .u64 (IntKind.wrap .u64 ((IntKind.wrap .u64 n)*8)) (IntKind.wrap .i64 (56 - (IntKind.wrap .i64 (8*(i:Int))))))
def sY (b:List Int):List Int:=b++[128]++List.replicate (Kz b.length) 0++(List.range 8).map (WT b.length)
def Vc (st:List Int) (i:Nat):Int:=IntKind.wrap .u8 (shr .u32 (st.getD (i / 4) 0) (IntKind.wrap .i64 (24 - (IntKind.wrap .i64 (8*(Int.tmod (i:Int) 4))))))
def WU (st:List Int):List Int:=(List.range 32).map (Vc st)
def D7 (st b:List Int):List Int:=WU (xy st (sY b) ((sY b).length / 64))
theorem ox (st b:List Int):(D7 st b).length=32:=by simp [D7,WU]
theorem Mw (b:List Int):(sY b).length=b.length+9+Kz b.length:=by simp [sY];omega
theorem Ts (b:List Int):(sY b).length % 64=0:=by rw [Mw,Kz];omega
def xz (b:List Int) (m:Int):List Int:=(b++List.replicate (64 - b.length) 0).map fun x=>xu .u8 x m
def Be (c b:List Int):List Int:=D7 sX (xz c 92++D7 sX (xz c 54++b))
theorem kH (c b:List Int):(Be c b).length=32:=ox _ _
end
end Go.bq
namespace Go.Am
section
section
variable {T:TT} {t el:TypeId} {sz:Nat} (hu:T.cW t=some (.slice el)) (hs:T.eZ el=some sz)
include hu hs
theorem bR.mid {s:AS} {v:AV} {n:Nat} {cs:List AV} (h:bR s v sz cs n) (hv:v≠.emp) {i j:Nat} (w:i<=j) (hj:j<=n) (k k':IntKind):∃ v',bf T t v (some (.int k (i:Nat))) (some (.int k' (j:Nat))) none=some v'/\bR s v' sz ((cs.drop (i*sz)).take ((j - i)*sz)) (j - i):=by
 rcases h with ⟨rfl,_⟩ | ⟨a,c,e,rfl,⟨x,y⟩,h3⟩
 ·exact absurd rfl hv
 ·have l:cX n c (some (.int k (i:Nat))) (some (.int k' (j:Nat))) none=some (i,j,c):=by
   have z:(0:Int)<=(j:Int)/\(j:Int)<=(c:Int):=by omega
   have h2:(0:Int)<=(i:Int)/\(i:Int)<=(j:Int):=by omega
   simp only [cX,tX,qq,ie,Option.isNone_some,Option.isNone_none,Option.isSome_some,Option.isSome_none,Bool.false_eq_true,and_false,false_and,if_false,if_pos z,if_pos h2,Option.bind_some,Int.toNat_natCast,Option.map_some,Nat.le_refl,and_self,if_true]
  have hmul:j*sz=i*sz+(j - i)*sz:=by rw [<- Nat.add_mul];congr 1;omega
  have A:j*sz<=n*sz:=Nat.mul_le_mul_right _ hj;have hlen:((cs.drop (i*sz)).take ((j - i)*sz)).length=(j - i)*sz:=by
   rw [List.length_take,List.length_drop,x];omega
  simp only [bf,hu,hs,Option.bind_some,l];rcases a with _ | ⟨b,o⟩
  ·refine ⟨_,rfl,.inr ⟨_,_,_,rfl,⟨hlen,by omega⟩,.inl ?_⟩⟩;rcases h3 with h3 | ⟨la,o,C,h,_⟩
   ·omega
   ·cases h
  ·have key:∀ o' e',(j - i=0\/o'=o+i*sz)->bR s (.slc (some (b,o')) (j - i) (c - i) e') sz ((cs.drop (i*sz)).take ((j - i)*sz)) (j - i):=by
    intro o' e' m;refine .inr ⟨_,_,_,rfl,⟨hlen,by omega⟩,?_⟩;by_cases r:j - i=0
    ·exact .inl r
    ·rcases m with m | rfl
     ·exact absurd m r
     ·rcases h3 with h3 | ⟨la,o2,C,h,B,p⟩
      ·omega
      ·simp only [Option.some.injEq,Prod.mk.injEq] at h;obtain ⟨rfl,rfl⟩:=h;refine .inr ⟨b,_,C,rfl,B,?_⟩;rw [<- p,List.drop_take,List.drop_drop,List.take_take,Nat.min_eq_left (by omega)]
   by_cases hm:c=i
   ·have d:j - i=0:=by omega
    cases e
    ·refine ⟨.emp,by simp [hm],.inl ⟨rfl,d,?_⟩⟩;exact List.length_eq_zero_iff.1 (by rw [hlen,d,Nat.zero_mul])
    ·exact ⟨.slc (some (b,o)) (j - i) (c - i) true,by simp [hm],key _ _ (.inl d)⟩
   ·cases e
    ·exact ⟨.slc (some (b,o+i*sz)) (j - i) (c - i) false,by simp [hm],key _ _ (.inr rfl)⟩
    ·exact ⟨.slc (some (b,o+i*sz)) (j - i) (c - i) true,by simp [hm],key _ _ (.inr rfl)⟩
end
theorem Sl.mid {α:Type} {f:α->List AV} {sz:Nat} {s:AS} {v:AV} {l:List α} {T:TT} {t el:TypeId} (hf:∀ x,(f x).length=sz) (hu:T.cW t=some (.slice el)) (hs:T.eZ el=some sz) (h:Sl f sz s v l) (hv:v≠.emp) {i j:Nat} (b:i<=j) (hj:j<=l.length) (k k':IntKind):∃ v',bf T t v (some (.int k (i:Nat))) (some (.int k' (j:Nat))) none=some v'/\Sl f sz s v' ((l.drop i).take (j - i)):=by
 obtain ⟨v',c,h2⟩:=bR.mid hu hs h hv b hj k k';refine ⟨v',c,?_⟩;rw [qU hf,uh hf] at h2;have:((l.drop i).take (j - i)).length=j - i:=by rw [List.length_take,List.length_drop];omega
 unfold Sl;rw [this];exact h2
theorem At.Ro {k:IntKind} {s:AS} {l o:Nat} {w:List Int} (h:At s l (w.map (.int k))) {i:Nat} (hi:i<w.length) (b:o=i):Am.ak s l o=some (.int k (w.getD i 0)):=by
 rw [h.ak,b,List.getElem?_map,List.getElem?_eq_getElem hi,List.getD_eq_getElem?_getD,List.getElem?_eq_getElem hi];rfl
theorem bC.int {k:IntKind} {s:AS} {l o:Nat} {w:List Int} {x:Int} {K:AS->Prop} (b:aJ s) (h:Own s l (w.map (.int k))) {i:Nat} (hi:i<w.length) (c:o=i) (d:∀ s',Own s' l ((w.set i x).map (.int k))->aJ s'->bB [l] s s'->K s'):bC (Am.cS s l o [.int k x]) K:=by
 subst c;refine bC.own b h (by simp;omega) fun s' P=>d s' ?_ P.wf P.mut;have:=P.at;rw [fA] at this;rw [Own,this,List.map_set]
theorem oz {T:TT} {t el:TypeId} {n sz:Nat} (hu:T.cW t=some (.array n el)) (hs:T.eZ el=some sz) (c:0<n) {b o:Nat}:bf T t (.ptr (some (b,o))) none none none=some (.slc (some (b,o)) n n true):=by
 simp only [bf,hu,hs,Option.bind_some];have:cX n n none none none=some (0,n,n):=by simp [cX,tX,qq,ie]
 rw [this];simp [Nat.ne_of_gt c]
theorem Sl.Tt {α:Type} {f:α->List AV} {sz:Nat} {s:AS} {v:AV} {l:List α} (h:Sl f sz s v l) (b:l≠[]):v≠.emp:=by
 rintro rfl;rcases h with ⟨_,h,_⟩ | ⟨a,c,e,h,_⟩
 ·exact b (List.length_eq_zero_iff.1 h)
 ·cases h
theorem Vd {T:TT} {t el:TypeId} {sz qR:Nat} (ht:CQ T t el sz qR) {α:Type} {f:α->List AV} (hf:∀ x,(f x).length=sz) {s:AS} (d:aJ s) {l0:Nat} {x:α} (h0:At s l0 (f x)) {v:AV} {l:List α} (n:Sl f sz s v l) (hb:l.length<=2 ^ 29) {K:AV->AS->Prop}
  (i:∀ v' s',Sl f sz s' v' (x::l)->aJ s'->Ext s s'->K v' s'):ig (aG T t t (.slc (some (l0,0)) 1 1 true) v s) K:=by
 obtain ⟨b,hlen⟩:=bR.src ht n;have e:=kG ht (base:=some (l0,0)) (len:=1) (cap:=1) (ex:=true) ht.u hlen b (by rw [dY hf]) (by omega);have j:Sl f sz s (.slc (some (l0,0)) 1 1 true) [x]:=bR.mk h0 (by simp [hf]) (by simp [List.take_of_length_le,hf]);by_cases k:l=[]
 ·subst k;rw [if_pos (by simp)] at e;simp only [List.flatMap_nil,if_true,List.length_nil,Nat.add_zero] at e;exact ⟨_,_,e,i _ _ j d (Ext.refl _)⟩
 ·have m:0<l.length:=List.length_pos_iff.2 k;rw [if_neg (by omega)] at e;have c:=(bR.src ht j).1;simp only [List.length_cons,List.length_nil,Nat.zero_add] at c;rw [c] at e;simp only [Option.bind_some,if_true] at e;rw [show 1+l.length=(x::l).length by simp;omega] at e;have Fr:=d.new (o:=.cells ([x].flatMap f++l.flatMap f) sz false) rfl;have p:At (s.new (.cells ([x].flatMap f++l.flatMap f) sz false)) s.nl ((x::l).flatMap f):=⟨_,_,by rw [show (x::l).flatMap f=[x].flatMap f++l.flatMap f by simp];exact Fr.at⟩;refine ⟨_,_,e,i _ _ (bR.mk p (dY hf _) ?_) Fr.wf Fr.ext⟩;rw [List.drop_zero,List.take_of_length_le (by rw [dY hf];exact Nat.le_refl _)]
end
end Go.Am
