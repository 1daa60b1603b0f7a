/-
  A part of the proof: an abstract machine over the model, and contracts of functions of this program over it.
-/
import Derived.Carry
import Derived.RangeFuncSeq
import Derived.RangeFuncCalls
import Derived.TacticsIn
import GoSem.Extern.MapsClone
import Derived.Laws.Externs
import Derived.Test.YtohgmogbabkkeaaGreatP2
set_option linter.unusedVariables false
set_option linter.unusedSimpArgs false
set_option linter.unusedSectionVars false
section
namespace Go.Am
open Go.ChangeShapes Go.WideShapes Go.ChangeAt Go.RowKit
theorem Ju {P:Program} {g:FuncId} {b:Bool} {aZ:Array Value} {W:World} (hg:fS P g=true) (h:aa P g (aZ.toList.map (fM W.heap.size (MW W))) (sW W) fun v s'=>v=.bool b):Calls P g aZ W fun e W'=>e=.returned (.bool b)∧Below W.heap.size W W':=by
 have hargs:ak (gW W.heap.size (MW W)) (aZ.toList.map (fM W.heap.size (MW W))) aZ.toList:=by
  rw [← KV];exact C8 _ _ _
 have hl:Calls P g aZ W (fun e w'=>∃ γ' v cv s',e=.returned cv∧ah γ' v cv∧fJ W.heap.size (gW W.heap.size (MW W)) (sW W) W γ' s' w'∧Rel W.heap.size γ' s' w'∧v=.bool b):=by
  rcases h W.heap.size _ aZ W hargs (acS W) with ⟨_,h1⟩ | ⟨cv,w',h1,_⟩
  ·exact h1
  ·rw [mu hg] at h1;cases h1
 refine hl.mono ?_
 rintro e w' ⟨γ',v,cv,s',rfl,hv,hd,hr,rfl⟩
 simp only [ah] at hv
 subst hv
 exact ⟨rfl,hd.below fun l o h=>by obtain ⟨_,c,e,fz,_,rfl⟩:=acR h;rfl⟩
theorem zx {H:Type} {enc:TypeId×Value→H} {P:Program} {W W':World} (hl:laidOutB P=true) (hb:Below W.heap.size W W'):∀ (ts:List TypeId) (vs:List Value) (ds:List (DataW H)) (ps:List MemPlace),
  (ts.all fun t=>P.readableRec t&&decide (t<P.types.size))=true→DataW.TrodAll enc P W 0 (fun _=>true) true ts vs ds ps→(∀ x∈ps,x.block<W.heap.size) →
  DataW.TrodAll enc P W' 0 (fun b=>decide (b<W.heap.size)) true ts vs ds ps
 | [],vs,ds,ps,_,h,_=>by
  obtain ⟨rfl,rfl,rfl⟩:=trodAll_nil h
  exact h
 | t::ts,vs,ds,ps,hr,h,hlt=>by
  simp only [List.all_cons,Bool.and_eq_true,decide_eq_true_eq] at hr
  obtain ⟨v,vs1,d,ds1,a,b,rfl,rfl,rfl,h1,h2⟩:=trodAll_cons h
  exact ⟨a,b,Below.trod hl hr.1.1 hr.1.2 h1 hb (fun x hx=>hlt x (by simp [hx])),zx hl hb ts vs1 ds1 b hr.2 h2 (fun x hx=>hlt x (by simp [hx])),rfl⟩
theorem HK {H:Type} {enc:TypeId×Value→H} {P:Program} {W:World} {base:Nat} {spare:Nat→Bool} {held:Bool}:∀ {ts:List TypeId} {vs:List Value} {ds:List (DataW H)} {ps:List MemPlace},DataW.TrodAll enc P W base spare held ts vs ds ps →
  ∀ (i:Nat) t,ts[i]? = some t→∃ v d p,vs[i]? = some v∧ds[i]? = some d∧DataW.Trod enc P W base spare held t v d p
 | [],_,_,_,_,i,t,hi=>by simp at hi
 | t::ts,vs,ds,ps,h,i,t',hi=>by
  obtain ⟨v,vs1,d,ds1,a,b,rfl,rfl,rfl,h1,h2⟩:=trodAll_cons h
  cases i with
  | zero=>simp at hi;subst hi;exact ⟨v,d,a,rfl,rfl,h1⟩
  | succ i=>simp at hi;obtain ⟨v',d',p',e1,e2,e3⟩:=HK h2 i t' hi;exact ⟨v',d',p',by simpa using e1,by simpa using e2,e3⟩
theorem ED {H:Type} {enc:TypeId×Value→H} {P:Program} {W:World} {base:Nat} {spare:Nat→Bool} {held:Bool}:∀ {ts:List TypeId} {vs:List Value} {ds:List (DataW H)} {ps:List MemPlace},DataW.TrodAll enc P W base spare held ts vs ds ps→vs.length=ts.length∧ds.length=ts.length
 | [],_,_,_,h=>by obtain ⟨rfl,rfl,rfl⟩:=trodAll_nil h;exact ⟨rfl,rfl⟩
 | t::ts,vs,ds,ps,h=>by
  obtain ⟨v,vs1,d,ds1,a,b,rfl,rfl,rfl,h1,h2⟩:=trodAll_cons h
  have:=ED h2
  simp [this.1,this.2]
theorem KW {α:Type} {f:α→List AV} {Q:α→Prop}:∀ (C:List (List AV)),(∀ c∈C,∃ x,c=f x∧Q x)→∃ l:List α,C.flatten=l.flatMap f∧C.length=l.length∧∀ x∈l,Q x
 | [],_=>⟨[],by simp⟩
 | c::C,h=>by
  obtain ⟨x,rfl,hx⟩:=h c (by simp)
  obtain ⟨l,h1,h2,h3⟩:=KW C fun c hc=>h c (by simp [hc])
  exact ⟨x::l,by simp [h1],by simp [h2],by simpa [hx] using h3⟩
theorem eH.cons {k:LK} {ks:List LK} {c:List AV} (h:eH (k::ks) c):∃ v vs,c=v::vs∧L9 k v∧eH ks vs:=by
 cases c with
 | nil=>exact h.elim
 | cons v vs=>exact ⟨v,vs,rfl,h.1,h.2⟩
theorem eH.nil {c:List AV} (h:eH [] c):c=[]:=by
 cases c with
 | nil=>rfl
 | cons v vs=>exact h.elim
end Go.Am
end

section
namespace Go.aC
open Go.au
structure Key where
 t:List UInt8
 d:List UInt8
 deriving DecidableEq
structure ey where
 dot:aK
 key:Key
 gone:Bool
 deriving DecidableEq
end Go.aC
end

section
namespace Go.au.SI
end Go.au.SI
end

section
namespace Go.Am
structure Yh {K:Type} [DecidableEq K] (T:TT) (t kt et:TypeId) (kf:K→AV) (z:AV):Prop where
 u:T.cM t=some (.map kt et)
 eq:∀ a b,iK T 100 kt (kf a) (kf b)=some (decide (a=b))
 ok:∀ a,nI T 100 kt (kf a)=true
 bits:∀ a,zq 100 (kf a) (kf a)=true
 z:T.sL et=some z
def dU {K V:Type} [DecidableEq K] (es:List (K×V×Nat)) (k:K):Option V:=(es.find? fun e=>decide (e.1=k)).map fun e=>e.2.1
def lW {K V:Type} (kf:K→AV) (vf:V→AV) (es:List (K×V×Nat)):List (AV×AV×Nat):=es.map fun e=>(kf e.1,vf e.2.1,e.2.2)
structure eJ {K V:Type} (kf:K→AV) (vf:V→AV) (s:AS) (m:Nat) (es:List (K×V×Nat)) (c:Nat) (ro:Bool):Prop where
 obj:s.h m=some (.map (lW kf vf es) c ro)
 st:es.Pairwise fun a b=>a.2.2<b.2.2
 lt:∀ e∈es,e.2.2<c
 nd:es.Pairwise fun a b=>a.1≠b.1
section
variable {K V:Type} [DecidableEq K] {kf:K→AV} {vf:V→AV}
theorem uc (k:K):dU ([]:List (K×V×Nat)) k=none:=rfl
theorem dF (e:K×V×Nat) (es:List (K×V×Nat)) (k:K):dU (e::es) k=if e.1=k then some e.2.1 else dU es k:=by
 unfold dU
 rw [List.find?_cons]
 by_cases h:e.1=k
 ·simp [h]
 ·simp [h]
theorem OG (es fs:List (K×V×Nat)) (k:K):dU (es++fs) k=(dU es k).or (dU fs k):=by
 induction es with
 | nil=>simp [uc]
 | cons e es ih =>
  rw [List.cons_append,dF,dF,ih]
  split <;> simp
theorem C9 {es:List (K×V×Nat)} {k:K} {v:V} (h:dU es k=some v):∃ (j n:Nat),es[j]? = some (k,v,n):=by
 induction es with
 | nil=>cases h
 | cons e es ih =>
  rw [dF] at h
  split at h
  ·rename_i hk
   obtain ⟨k',v',n⟩:=e
   simp only at hk h
   subst hk
   obtain rfl:=Option.some.inj h
   exact ⟨0,n,rfl⟩
  ·obtain ⟨j,n,hj⟩:=ih h
   exact ⟨j+1,n,by simpa using hj⟩
theorem HL {es:List (K×V×Nat)} (nd:es.Pairwise fun a b=>a.1≠b.1) {e:K×V×Nat} (h:e∈es):dU es e.1=some e.2.1:=by
 induction es with
 | nil=>cases h
 | cons x es ih =>
  obtain ⟨n1,n2⟩:=List.pairwise_cons.1 nd
  rw [dF]
  rcases List.mem_cons.1 h with rfl | h
  ·rw [if_pos rfl]
  ·rw [if_neg (n1 e h),ih n2 h]
theorem C_ {es:List (K×V×Nat)} {k:K}:dU es k=none↔∀ e∈es,e.1≠k:=by
 induction es with
 | nil=>simp [uc]
 | cons e es ih =>
  rw [dF]
  by_cases h:e.1=k
  ·rw [if_pos h]
   constructor
   ·intro h;cases h
   ·intro h';exact absurd h (h' e (by simp))
  ·rw [if_neg h,ih]
   simp [h]
theorem OH {k:K} {v v0:V} {n:Nat}:∀ (es:List (K×V×Nat)) (j:Nat),es[j]? = some (k,v0,n)→(∀ j',j'<j→∀ e,es[j']? = some e→e.1≠k)→j<es.length→∀ k',dU (es.set j (k,v,n)) k'=if k'=k then some v else dU es k'
 | [],j,_,_,hl,_=>by simp at hl
 | x::es,0,hj,_,_,k'=>by
  simp only [List.getElem?_cons_zero,Option.some.injEq] at hj
  subst hj
  rw [List.set_cons_zero,dF,dF]
  by_cases e:k=k'
  ·subst e;simp
  ·simp only [if_neg e,if_neg (fun h:k'=k=>e h.symm)]
 | x::es,j+1,hj,hb,hl,k'=>by
  have hx:x.1≠k:=hb 0 (by omega) x rfl
  rw [List.set_cons_succ,dF,dF,OH es j (by simpa using hj) (fun j' hj' e he=>hb (j'+1) (by omega) e (by simpa using he)) (by simpa using hl) k']
  by_cases e:x.1=k'
  ·rw [if_pos e,if_pos e,if_neg (fun h=>hx (e.trans h))]
  ·rw [if_neg e,if_neg e]
variable {T:TT} {t kt et:TypeId} {z:AV} (ht:Yh T t kt et kf z)
include ht
theorem Bq (k:K):∀ (es:List (K×V×Nat)) (i:Nat),(dU es k=none→wV T kt (kf k) (lW kf vf es) i=some none)∧∀ v,dU es k=some v→∃ j n,es[j]? = some (k,v,n)∧(∀ j',j'<j→∀ e,es[j']? = some e→e.1≠k)∧wV T kt (kf k) (lW kf vf es) i=some (some (i+j,vf v))
 | [],i=>⟨fun _=>rfl,fun v h=>by cases h⟩
 | e::es,i=>by
  obtain ⟨h1,h2⟩:=Bq k es (i+1)
  simp only [lW,List.map_cons,wV,ht.eq]
  rw [dF]
  by_cases hk:e.1=k
  ·rw [if_pos hk]
   refine ⟨(fun h=>by cases h),fun v h=>?_⟩
   obtain rfl:=Option.some.inj h
   refine ⟨0,e.2.2,by rw [← hk];rfl,fun j' hj=>by omega,?_⟩
   rw [decide_eq_true hk.symm];rfl
  ·rw [if_neg hk]
   have hd:decide (k=e.1)=false:=decide_eq_false (fun h=>hk h.symm)
   rw [hd]
   refine ⟨h1,fun v h=>?_⟩
   obtain ⟨j,n,a,b,c⟩:=h2 v h
   refine ⟨j+1,n,by simpa using a,fun j' hj e' he'=>?_,by rw [show i+(j+1)=i+1+j by omega];exact c⟩
   cases j' with
   | zero=>simp only [List.getElem?_cons_zero,Option.some.injEq] at he';subst he';exact hk
   | succ j'=>exact b j' (by omega) e' (by simpa using he')
theorem eJ.find {s:AS} {m:Nat} {es:List (K×V×Nat)} {c:Nat} {ro:Bool} (h:eJ kf vf s m es c ro) (k:K) (ok:Bool) :
  dI T t (.map (some m)) (kf k) ok s=some (if ok then .aQ [((dU es k).map vf).getD z,.bool (dU es k).isSome] else ((dU es k).map vf).getD z):=by
 obtain ⟨h1,h2⟩:=Bq (vf:=vf) ht k es 0
 simp only [dI,ht.u,ht.ok,if_true,h.obj,Option.bind_some]
 cases hq:dU es k with
 | none =>
  rw [h1 hq]
  simp only [Option.bind_some,ht.z,Option.map_some,Option.map_none,Option.getD_none,Option.isSome_none]
 | some v =>
  obtain ⟨j,n,_,_,hf⟩:=h2 v hq
  rw [hf]
  simp only [Option.bind_some,Option.map_some,Option.getD_some,Option.isSome_some]
theorem Yi (es:List (K×V×Nat)) (j:Nat) (e:K×V×Nat):(lW kf vf es).set j (kf e.1,vf e.2.1,e.2.2)=lW kf vf (es.set j e):=by
 simp [lW,List.map_set]
theorem eJ.pL {s:AS} (hw:aM s) {m:Nat} {es:List (K×V×Nat)} {c:Nat} (h:eJ kf vf s m es c false) (k:K) (v:V) {Q:AS→Prop}
  (hq:∀ s' es' c',eJ kf vf s' m es' c' false→(∀ k',dU es' k'=if k'=k then some v else dU es k')→aM s'→bD [m] s s'→Q s'):bu (dN T t (.map (some m)) (kf k) (vf v) s) Q:=by
 obtain ⟨h1,h2⟩:=Bq (vf:=vf) ht k es 0
 cases hg:dU es k with
 | none =>
  have hno:=C_.1 hg
  have hP:=hw.put (o:=.map (lW kf vf es++[(kf k,vf v,c)]) (c+1) false) h.obj rfl
  refine ⟨_,?_,hq _ (es++[(k,v,c)]) (c+1) ⟨?_,?_,?_,?_⟩ (fun k'=>?_) hP.wf hP.mut⟩
  ·simp only [dN,ht.u,h.obj,ht.ok,if_true,h1 hg,Option.bind_some]
  ·rw [hP.at];simp [lW]
  ·refine List.pairwise_append.2 ⟨h.st,List.pairwise_singleton _ _,fun a ha b hb=>?_⟩
   obtain rfl:=List.mem_singleton.1 hb
   exact h.lt a ha
  ·intro e he
   rcases List.mem_append.1 he with he | he
   ·have:=h.lt e he;omega
   ·obtain rfl:=List.mem_singleton.1 he;show c<c+1;omega
  ·refine List.pairwise_append.2 ⟨h.nd,List.pairwise_singleton _ _,fun a ha b hb=>?_⟩
   obtain rfl:=List.mem_singleton.1 hb
   exact hno a ha
  ·rw [OG,dF,uc]
   by_cases e:k=k'
   ·subst e;rw [if_pos rfl,if_pos rfl,hg];rfl
   ·rw [if_neg e,if_neg (fun h=>e h.symm)];cases dU es k' <;> rfl
 | some v0 =>
  obtain ⟨j,n,hj,hb,hf⟩:=h2 v0 hg
  rw [Nat.zero_add] at hf
  have hjl:j<es.length:=by
   rcases Nat.lt_or_ge j es.length with h | h
   ·exact h
   ·rw [List.getElem?_eq_none h] at hj;cases hj
  have hge:(lW kf vf es)[j]? = some (kf k,vf v0,n):=by simp [lW,hj]
  have hP:=hw.put (o:=.map (lW kf vf (es.set j (k,v,n))) c false) h.obj rfl
  have hkeys:(es.set j (k,v,n)).map (fun e=>(e.1,e.2.2))=es.map fun e=>(e.1,e.2.2):=by
   apply List.ext_getElem?
   intro i
   simp only [List.getElem?_map,List.getElem?_set]
   split
   ·rename_i e;subst e;rw [hj];first | rfl | (rw [if_pos hjl];rfl)
   ·rfl
  have hpw:∀ (R:K×Nat→K×Nat→Prop),(es.Pairwise fun a b=>R (a.1,a.2.2) (b.1,b.2.2))→((es.set j (k,v,n)).Pairwise fun a b=>R (a.1,a.2.2) (b.1,b.2.2)):=by
   intro R hp
   have:=(List.pairwise_map (f:=fun e:K×V×Nat=>(e.1,e.2.2)) (R:=R)).2 hp
   rw [← hkeys] at this
   exact List.pairwise_map.1 this
  refine ⟨_,?_,hq _ (es.set j (k,v,n)) c ⟨hP.at,hpw (fun a b=>a.2<b.2) h.st,?_,hpw (fun a b=>a.1≠b.1) h.nd⟩ (fun k'=>?_) hP.wf hP.mut⟩
  ·simp only [dN,ht.u,h.obj,ht.ok,if_true,hf,Option.bind_some,hge,ht.bits,if_true]
   rw [← Yi ht es j (k,v,n)]
  ·intro e he
   obtain ⟨i,hi⟩:=List.mem_iff_getElem?.1 he
   rw [List.getElem?_set] at hi
   by_cases hji:j=i
   ·rw [if_pos hji] at hi
    first
     | (obtain rfl:=Option.some.inj hi;exact h.lt (k,v0,n) (List.mem_of_getElem? hj))
     | (rw [if_pos hjl] at hi;obtain rfl:=Option.some.inj hi;exact h.lt (k,v0,n) (List.mem_of_getElem? hj))
   ·rw [if_neg hji] at hi
    exact h.lt e (List.mem_of_getElem? hi)
  ·exact OH es j hj hb hjl k'
theorem eJ.cG {s:AS} {m:Nat} {es:List (K×V×Nat)} {c:Nat} {ro:Bool} (h:eJ kf vf s m es c ro):aP T t (.map (some m)) s=some (.int .i64 (es.length:Nat)):=by
 simp [aP,ht.u,h.obj,lW]
end
section
variable {K V:Type} {kf:K→AV} {vf:V→AV}
theorem eJ.mut {s s':AS} {m:Nat} {es:List (K×V×Nat)} {c:Nat} {ro:Bool} {L:List Nat} (h:eJ kf vf s m es c ro) (e:bD L s s') (hm:m ∉ L):eJ kf vf s' m es c ro:=⟨e.1 _ _ hm h.obj,h.st,h.lt,h.nd⟩
theorem eJ.ext {s s':AS} {m:Nat} {es:List (K×V×Nat)} {c:Nat} {ro:Bool} (h:eJ kf vf s m es c ro) (e:Ext s s'):eJ kf vf s' m es c ro:=h.mut (L:=[]) e.mut (by simp)
theorem eJ.new {s:AS} {m:Nat} (h:s.h m=some (.map [] 0 false)):eJ kf vf s m ([]:List (K×V×Nat)) 0 false:=⟨h,List.Pairwise.nil,by simp,List.Pairwise.nil⟩
/-! ### ranges -/
structure Iter (s:AS) (it m:Nat) (es:List (K×V×Nat)) (c:Nat) (done:List (K×V×Nat)):Prop where
 «at»:s.h it=some (.fC (some m) c (done.map fun e=>e.2.2) c false)
 sub:∀ e∈done,e∈es
 nd:done.Nodup
theorem Iter.mut {s s':AS} {it m:Nat} {es done:List (K×V×Nat)} {c:Nat} {L:List Nat} (h:Iter s it m es c done) (e:bD L s s') (hi:it ∉ L):Iter s' it m es c done:=⟨e.1 _ _ hi h.at,h.sub,h.nd⟩
theorem Iter.ext {s s':AS} {it m:Nat} {es done:List (K×V×Nat)} {c:Nat} (h:Iter s it m es c done) (e:Ext s s'):Iter s' it m es c done:=h.mut (L:=[]) e.mut (by simp)
theorem KX {es:List (K×V×Nat)} (st:es.Pairwise fun a b=>a.2.2<b.2.2) {a b:K×V×Nat} (ha:a∈es) (hb:b∈es) (h:a.2.2=b.2.2):a=b:=by
 induction es with
 | nil=>cases ha
 | cons x es ih =>
  obtain ⟨s1,s2⟩:=List.pairwise_cons.1 st
  rcases List.mem_cons.1 ha with ea | ha <;> rcases List.mem_cons.1 hb with eb | hb
  ·rw [ea,eb]
  ·have:=s1 b hb;rw [ea] at h;omega
  ·have:=s1 a ha;rw [eb] at h;omega
  ·exact ih s2 ha hb
open Classical in
theorem lO {α:Type}:∀ {d es:List α},d.Nodup→(∀ e∈d,e∈es)→d.length≤es.length
 | [],es,_,_=>Nat.zero_le _
 | x::d,es,h,hs=>by
  obtain ⟨n1,n2⟩:=List.nodup_cons.1 h
  have hx:=hs x (by simp)
  have:=lO (d:=d) (es:=es.erase x) n2 fun e he=>(List.mem_erase_of_ne (fun h=>n1 (by rw [← h];exact he))).2 (hs e (by simp [he]))
  have hp:0<es.length:=List.length_pos_of_mem hx
  rw [List.length_erase_of_mem hx] at this
  simp only [List.length_cons];omega
theorem Iter.lt {s:AS} {it m:Nat} {es done:List (K×V×Nat)} {c:Nat} (h:Iter s it m es c done) {e:K×V×Nat} (he:e∈es) (hn:e ∉ done):done.length<es.length:=by
 have:=lO (d:=e::done) (es:=es) (List.nodup_cons.2 ⟨hn,h.nd⟩) fun x hx=>by
  rcases List.mem_cons.1 hx with rfl | hx
  ·exact he
  ·exact h.sub x hx
 simp only [List.length_cons] at this;omega
theorem Iter.next {s:AS} (hw:aM s) {it m:Nat} {es done:List (K×V×Nat)} {c:Nat} {ro:Bool} (h:eJ kf vf s m es c ro) (hi:Iter s it m es c done) {A:Prop} {B:AV→AV→AS→Prop}
  (hA:(∀ e∈es,e∈done)→A) (hB:∀ e s',e∈es→e ∉ done→Iter s' it m es c (done++[e])→aM s'→bD [it] s s'→B (kf e.1) (vf e.2.1) s'):abX (zP (.ptr (some (it,0))) s) A B:=by
 have mo:¬ (done.map (fun e=>e.2.2)≠[]∧lW kf vf es≠[]∧((lW kf vf es).all fun e=>decide (c≤e.2.2))=true):=by
  rintro ⟨_,h2,h3⟩
  cases es with
  | nil=>exact h2 rfl
  | cons e es =>
   have:=h.lt e (by simp)
   simp [lW] at h3
   omega
 refine ⟨_,_,(by simp only [zP,hi.at,h.obj];rw [if_neg mo]),?_,?_⟩
 ·intro he
  refine hA fun e CX=>?_
  have hlt:=h.lt e CX
  simp only [List.isEmpty_iff,List.filter_eq_nil_iff] at he
  have:=he (kf e.1,vf e.2.1,e.2.2)
  simp only [List.mem_filter,lW,List.mem_map] at this
  have hc:(done.map fun e=>e.2.2).contains e.2.2=true:=by
   cases hq:(done.map fun e=>e.2.2).contains e.2.2 with
   | true=>rfl
   | false=>exact absurd (decide_eq_true hlt) (this ⟨⟨e,CX,rfl⟩,by rw [hq];rfl⟩)
  simp only [List.contains_iff_mem,List.mem_map] at hc
  obtain ⟨e',he',hst⟩:=hc
  rw [← KX h.st (hi.sub e' he') CX hst]
  exact he'
 ·intro k v s' hm
  obtain ⟨x,hx,he⟩:=List.mem_map.1 hm
  have hx2:x∈(lW kf vf es).filter fun e=>!(done.map fun e=>e.2.2).contains e.2.2:=by
   rcases List.mem_append.1 hx with hx | hx
   ·exact (List.mem_filter.1 hx).1
   ·exact (List.mem_filter.1 hx).1
  obtain ⟨hxm,hxn⟩:=List.mem_filter.1 hx2
  simp only [lW,List.mem_map] at hxm
  obtain ⟨e,CX,rfl⟩:=hxm
  simp only [Prod.mk.injEq] at he
  obtain ⟨rfl,rfl,rfl⟩:=he
  have hn:e ∉ done:=by
   intro hd
   have:(done.map fun e=>e.2.2).contains e.2.2=true:=by
    simp only [List.contains_iff_mem,List.mem_map];exact ⟨e,hd,rfl⟩
   rw [this] at hxn;cases hxn
  have hP:=hw.put (o:=.fC (some m) c (done.map (fun e=>e.2.2)++[e.2.2]) c false) hi.at rfl
  refine hB e _ CX hn ⟨by rw [hP.at];simp,fun x hx=>?_,?_⟩ hP.wf hP.mut
  ·rcases List.mem_append.1 hx with hx | hx
   ·exact hi.sub x hx
   ·obtain rfl:=List.mem_singleton.1 hx;exact CX
  ·refine List.nodup_append.2 ⟨hi.nd,by simp,fun a ha b hb=>?_⟩
   obtain rfl:=List.mem_singleton.1 hb
   rintro rfl
   exact hn ha
theorem Iter.entry {s:AS} {it m:Nat} {es done:List (K×V×Nat)} {c:Nat} {ro:Bool} {e:K×V×Nat} (h:eJ kf vf s m es c ro) (hi:Iter s it m es c (done++[e])) {Q:AV→AV→Prop} (hq:Q (kf e.1) (vf e.2.1)):RdE (wX (.ptr (some (it,0))) s) Q:=by
 refine ⟨_,_,?_,hq⟩
 have CX:=hi.sub e (by simp)
 simp only [wX,hi.at,h.obj,if_true]
 have hl:(List.map (fun e:K×V×Nat=>e.2.2) (done++[e])).getLast? = some e.2.2:=by simp
 rw [hl]
 simp only [Option.bind_some]
 have hf:(lW kf vf es).find? (fun x=>x.2.2==e.2.2)=some (kf e.1,vf e.2.1,e.2.2):=by
  have:∀ (l:List (K×V×Nat)),(∀ x∈l,x.2.2=e.2.2→x=e)→e∈l→(lW kf vf l).find? (fun x=>x.2.2==e.2.2)=some (kf e.1,vf e.2.1,e.2.2):=by
   intro l
   induction l with
   | nil=>intro _ h;cases h
   | cons x l ih =>
    intro h1 h2
    simp only [lW,List.map_cons,List.find?_cons]
    cases hq:(x.2.2==e.2.2) with
    | true =>
     have:=h1 x (by simp) (by simpa using hq)
     rw [this]
    | false =>
     rcases List.mem_cons.1 h2 with rfl | h2
     ·simp at hq
     ·exact ih (fun y hy=>h1 y (by simp [hy])) h2
  exact this es (fun x hx hst=>KX h.st hx CX hst) CX
 rw [hf]
 rfl
end
end Go.Am
end

section
namespace Go.Am
open Go.RowKit
def GI:Obj→Bool
 | .loop _=>true
 | .deferred _=>true
 | _=>false
theorem k_.OI {γ:bM} {w:World} {i:CI} {o:AO} {ob:Obj} (h:k_ γ w i o) (hb:w.heap[i.b]? = some ob):GI ob=false:=by
 cases o with
 | cells cs g ro=>obtain ⟨c,e,fz,h1,_⟩:=h;rw [h1] at hb;cases hb;rfl
 | map es clock ro=>obtain ⟨c,h1,_⟩:=h;rw [h1] at hb;cases hb;rfl
 | fC m since seen stepped ro =>
  cases m with
  | none=>obtain ⟨_,h1⟩:=h;rw [h1] at hb;cases hb;rfl
  | some m=>obtain ⟨_,j,_,h1⟩:=h;rw [h1] at hb;cases hb;rfl
 | qf s pos ro=>obtain ⟨_,h1⟩:=h;rw [h1] at hb;cases hb;rfl
 | dead=>exact h.elim
section
variable {B:Nat} {γ γ':bM} {s s':AS} {w w':World}
theorem Rel.side (h:Rel B γ s w) (hs:w.heap.size≤w'.heap.size) (hb:∀ (b:Nat) (ob:Obj),w.heap[b]? = some ob→GI ob=false→w'.heap[b]? = some ob):Rel B γ s w':=by
 refine ⟨fun l o hl=>?_,h.inj,h.fin,h.Xl,Nat.le_trans h.base hs⟩
 obtain ⟨i,a,b,c⟩:=h.obj l o hl
 refine ⟨i,a,b.congr ?_,c⟩
 have hlt:=b.lt
 rw [hb i.b _ (Array.getElem?_eq_getElem hlt) (b.OI (Array.getElem?_eq_getElem hlt)),Array.getElem?_eq_getElem hlt]
theorem Rel.aaL (h:Rel B γ s w) {b:Nat} {ob:Obj} (hl:w.heap[b]? = some ob) (hs:GI ob=true):∀ l o i,s.h l=some o→γ l=some i→i.b≠b:=by
 rintro l o i h1 h2 rfl
 obtain ⟨i',a,b,c⟩:=h.obj l o h1
 rw [h2] at a
 obtain rfl:=Option.some.inj a
 have:=b.OI hl
 rw [hs] at this;cases this
theorem fJ.keeps (d:fJ B γ s w γ' s' w') (h:Rel B γ s w) {b:Nat} {ob:Obj} (hl:w.heap[b]? = some ob) (hs:GI ob=true):w'.heap[b]? = some ob:=by
 rw [d.frm b (Array.getElem?_eq_some_iff.1 hl).1 fun l o i h1 _ h2=>h.aaL hl hs l o i h1 h2];exact hl
theorem fJ.swap {w1 w2:World} (d:fJ B γ s w1 γ' s' w2) (h1:w.heap.size≤w1.heap.size) (h2:w2.heap.size≤w'.heap.size) (hf:∀ b,b<w.heap.size→(∀ l o i,s.h l=some o→o.ro=false→γ l=some i→i.b≠b)→w'.heap[b]? = w.heap[b]?) (he:Env w w'):fJ B γ s w γ' s' w' :=
 ⟨d.le,hf,by have:=d.eN;omega,fun l o i a b c=>(d.new l o i a b c).imp (fun h=>by omega) id,d.nl,d.st,d.lay,d.dom,d.sld,he⟩
end
/-! ### frames with marks -/
def FX (γ:bM) (n:Nat) (f:Fr) (ds:List Deferred) (a:Act):Prop:=a.defers=ds∧nK γ n f { a with defers:=[] }
theorem FX.mono {γ γ':bM} {n:Nat} {f:Fr} {ds:List Deferred} {a:Act} (h:FX γ n f ds a) (hle:bM.le γ γ'):FX γ' n f ds a:=⟨h.1,h.2.mono hle⟩
theorem FX.eval {γ:bM} {n:Nat} {f:Fr} {ds:List Deferred} {a:Act} (h:FX γ n f ds a) (x:Operand):ah γ (pH f x) (a.eval x):=by
 have:=h.2.eval x
 cases x <;> exact this
theorem FX.put {γ:bM} {n:Nat} {f:Fr} {ds:List Deferred} {a:Act} (h:FX γ n f ds a) {d:Option Nat} {v:AV} {c:Value} (hd:dQ n d=true) (hv:ah γ v c):FX γ n (bN f d v) ds (a.put d c):=by
 refine ⟨?_,?_⟩
 ·cases d <;> exact h.1
 ·have:=h.2.put hd hv
  cases d <;> exact this
abbrev Fz (rd:Option Nat):Fence:={ Fence.wide with round:=rd }
def KY (B:Nat) (γ:bM) (s:AS) (w:World) (n:Nat) (ds:List Deferred) (Q:Exit→Fr→AS→Prop):Exit→Act→World→Prop:=fun e a' w' =>
 ∃ γ' f' s',FX γ' n f' ds a'∧fJ B γ s w γ' s' w'∧Rel B γ' s' w'∧Q e f' s'
theorem KY.trans {B:Nat} {γ γ':bM} {s s':AS} {w w':World} {n:Nat} {ds:List Deferred} {Q:Exit→Fr→AS→Prop} (hd:fJ B γ s w γ' s' w') {e:Exit} {a:Act} {w'':World} (h:KY B γ' s' w' n ds Q e a w''):KY B γ s w n ds Q e a w'':=by
 obtain ⟨γ2,f2,s2,h1,h2,h3,h4⟩:=h
 exact ⟨γ2,f2,s2,h1,hd.trans h2,h3,h4⟩
def Kept (Iv:bM→World→Prop):Prop:=∀ B γ s w γ' s' w',Rel B γ s w→Iv γ w→fJ B γ s w γ' s' w'→Iv γ' w'
theorem Kept.true:Kept fun _ _=>True:=fun _ _ _ _ _ _ _ _ _ _=>trivial
def cT (Iv:bM→World→Prop) (rd:Option Nat) (ds:List Deferred) (P:Program) (n:Nat) (c:Code) (f:Fr) (s:AS) (Q:Exit→Fr→AS→Prop):Prop :=
 ∀ (B:Nat) (γ:bM) (a:Act) (w:World),FX γ n f ds a→Rel B γ s w→Iv γ w→c.wpIn (Fz rd) 0 P (KY B γ s w n ds Q) a w
def YOk (Iv:bM→World→Prop) (P:Program) (l:Nat) (args:List AV) (s:AS) (R:AV→AS→Prop):Prop :=
 ∀ (B:Nat) (γ:bM) (aZ:Array Value) (w:World),ak γ args aZ.toList→Rel B γ s w→Iv γ w →
  YieldAt Fence.wide 0 P l aZ w fun e w'=>∃ γ' v cv s',e=.returned cv∧ah γ' v cv∧fJ B γ s w γ' s' w'∧Rel B γ' s' w'∧R v s'
def pO (Iv:bM→World→Prop) (P:Program) (g:FuncId) (args:List AV) (s:AS) (R:AV→AS→Prop):Prop :=
 ∀ (B:Nat) (γ:bM) (aZ:Array Value) (w:World),ak γ args aZ.toList→Rel B γ s w→Iv γ w →
  Calls P g aZ w fun e w'=>∃ γ' v cv s',e=.returned cv∧ah γ' v cv∧fJ B γ s w γ' s' w'∧Rel B γ' s' w'∧R v s'
theorem E1 {F:Fence} {k:Nat} {P:Program} {Q:Exit→Act→World→Prop} {a:Act} {w:World} {c:Code} (I:Nat→Act→World→Prop) (n₀:Nat) (h₀:I n₀ a w)
  (round:∀ n a w,I n a w→c.wpIn F k P (Exit.then (fun a' w'=>∃ n',n'<n∧I n' a' w') Q) a w):(Code.loop c).wpIn F k P Q a w:=by
 refine wpIn_loop (fun a w=>∃ n,I n a w) (fun a w=>leastOf (fun n=>I n a w)) ⟨n₀,h₀⟩ ?_
 intro a w hI
 refine Go.wpIn_mono (round _ a w (leastOf_spec hI).1) ?_
 intro e a' w' hq
 cases e with
 | normal =>
  obtain ⟨n',hlt,hI'⟩:=hq
  exact show (∃ n,I n a' w')∧leastOf (fun n=>I n a' w')<leastOf (fun n=>I n a w) from ⟨⟨n',hI'⟩,Nat.lt_of_le_of_lt ((leastOf_spec ⟨n',hI'⟩).2 n' hI') hlt⟩
 | exit id=>exact hq
 | goto l=>exact hq
 | ret=>exact hq
 | panic ch=>exact hq
 | outgrown=>exact hq
section
variable {Iv:bM→World→Prop} {rd:Option Nat} {ds:List Deferred} {P:Program} {n:Nat} {f:Fr} {s:AS} {Q:Exit→Fr→AS→Prop}
theorem cT.skip (h:Q .normal f s):cT Iv rd ds P n .skip f s Q:=fun B γ a w hf hr _=>wpIn_skip ⟨γ,f,s,hf,fJ.refl,hr,h⟩
theorem cT.exit {id:Nat} (h:Q (.exit id) f s):cT Iv rd ds P n (.exit id) f s Q:=fun B γ a w hf hr _=>wpIn_exit ⟨γ,f,s,hf,fJ.refl,hr,h⟩
theorem cT.ret (h:Q .ret f s):cT Iv rd ds P n .ret f s Q:=fun B γ a w hf hr _=>wpIn_ret ⟨γ,f,s,hf,fJ.refl,hr,h⟩
theorem cT.seq (hI:Kept Iv) {x y:Code} (h:cT Iv rd ds P n x f s (Et (fun f s=>cT Iv rd ds P n y f s Q) Q)):cT Iv rd ds P n (.seq x y) f s Q:=by
 intro B γ a w hf hr hi
 refine wpIn_seq (Go.wpIn_mono (h B γ a w hf hr hi) ?_)
 rintro e a' w' ⟨γ',f',s',h1,h2,h3,h4⟩
 cases e with
 | normal=>exact Go.wpIn_mono (h4 B γ' a' w' h1 h3 (hI _ _ _ _ _ _ _ hr hi h2)) fun e a w hh=>KY.trans h2 hh
 | _=>exact ⟨γ',f',s',h1,h2,h3,h4⟩
theorem cT.cond {c:Operand} {x y:Code} {t:Bool} (hc:pH f c=.bool t) (h:cT Iv rd ds P n (if t then x else y) f s Q):cT Iv rd ds P n (.cond c x y) f s Q:=by
 intro B γ a w hf hr hi
 have hv:=hf.eval c
 rw [hc] at hv
 simp only [ah] at hv
 exact wpIn_cond hv (h B γ a w hf hr hi)
theorem cT.block {id:Nat} {c:Code} (h:cT Iv rd ds P n c f s (zK id Q)):cT Iv rd ds P n (.block id c) f s Q:=by
 intro B γ a w hf hr hi
 refine wpIn_block (Go.wpIn_mono (h B γ a w hf hr hi) ?_)
 rintro e a' w' ⟨γ',f',s',h1,h2,h3,h4⟩
 cases e with
 | exit id' =>
  simp only [zK] at h4
  simp only [Exit.inBlock]
  split
  ·rename_i hid;rw [if_pos hid] at h4;exact ⟨γ',f',s',h1,h2,h3,h4⟩
  ·rename_i hid;rw [if_neg hid] at h4;exact ⟨γ',f',s',h1,h2,h3,h4⟩
 | _=>exact ⟨γ',f',s',h1,h2,h3,h4⟩
theorem cT.loop (hI:Kept Iv) {c:Code} (I:Nat→Fr→AS→Prop) (m:Nat) (h₀:I m f s)
  (round:∀ m f s,I m f s→cT Iv rd ds P n c f s (Et (fun f' s'=>∃ m',m'<m∧I m' f' s') Q)):cT Iv rd ds P n (.loop c) f s Q:=by
 intro B γ a w hf hr hi
 refine E1 (fun m a' w'=>∃ γ' f' s',FX γ' n f' ds a'∧fJ B γ s w γ' s' w'∧Rel B γ' s' w'∧I m f' s') m ⟨γ,f,s,hf,fJ.refl,hr,h₀⟩ ?_
 rintro m a' w' ⟨γ',f',s',h1,h2,h3,h4⟩
 refine Go.wpIn_mono (round m f' s' h4 B γ' a' w' h1 h3 (hI _ _ _ _ _ _ _ hr hi h2)) ?_
 rintro e a2 w2 ⟨γ2,f2,s2,g1,g2,g3,g4⟩
 cases e with
 | normal=>obtain ⟨m',hm,hI⟩:=g4;exact ⟨m',hm,γ2,f2,s2,g1,h2.trans g2,g3,hI⟩
 | _=>exact ⟨γ2,f2,s2,g1,h2.trans g2,g3,g4⟩
end
/-! ### operations -/
def uZ:Op→Bool
 | .defer _=>true
 | _=>false
theorem zU {o:Oper} (h:uZ o.op=false) (rd:Option Nat) (ρ:Operand→Value):o.semAt rd ρ=execOp ρ o:=by
 cases rd with
 | none=>rfl
 | some l=>exact Oper.semAt_some l ρ o fun c e=>by rw [e] at h;cases h
def xy (f:Fr):Op→Option (Nat×List AV)
 | .call c=>match c.callee with
  | .value x=>match pH f x with
   | .Xj l=>some (l,c.args.toList.map (pH f))
   | _=>none
  | _=>none
 | _=>none
theorem RD {γ:bM} {n:Nat} {f:Fr} {ds:List Deferred} {a:Act} (h:FX γ n f ds a) {o:Oper} {l:Nat} {args:List AV} (hc:xy f o.op=some (l,args)) {P:Program} (w:World) :
  ∃ aZ:Array Value,ak γ args aZ.toList∧(execOp a.eval o).run P w=(Instr.yield l aZ).run P w:=by
 obtain ⟨dst,op,type,pos,after,guard⟩:=o
 simp only at hc
 unfold xy at hc
 split at hc
 ·rename_i c
  split at hc
  ·rename_i x hx
   split at hc
   ·rename_i l' hv
    obtain ⟨rfl,rfl⟩:_∧_:=by simpa using hc
    have he:=h.eval x
    rw [hv] at he
    simp only [ah] at he
    refine ⟨c.args.map a.eval,?_,?_⟩
    ·rw [Array.toList_map]
     exact oN h.eval c.args.toList
    ·simp only [execOp,resolve,hx,he,Deferred.ofValue,Sem.run_bind,Sem.run_pure,Result.andThen_ok,invoke]
     simp
   ·cases hc
  ·cases hc
 ·cases hc
theorem OJ {P:Program} {T:TT} (hT:TT.Ok P T) {n:Nat} {o:Oper} {f:Fr} {s:AS} {K:Fr→AS→Prop} (h:Hr P T n o f s K) (Bj:uZ o.op=false) {B:Nat} {γ:bM} {rd:Option Nat} {ds:List Deferred} {a:Act} {w:World} (hf:FX γ n f ds a) (hr:Rel B γ s w)
  {next:Act→World→Prop} {Q:Exit→Act→World→Prop} (hn:∀ γ' f' s' a' w',FX γ' n f' ds a'→fJ B γ s w γ' s' w'→Rel B γ' s' w'→K f' s'→next a' w'):o.wpIn (Fz rd) 0 P a w next Q:=by
 obtain ⟨hd,h⟩:=h
 refine ⟨fun _ _=>trivial,?_⟩
 rw [zU Bj]
 rcases h with h | ⟨l,hl,h⟩
 rotate_left
 ·obtain ⟨p,hp,γ',w',cv,hrun,hv,jh,hr'⟩:=KK (P:=P) hr hf.eval hl
  rw [hrun]
  exact hn γ' _ p.2 _ w' ((hf.mono jh.le).put hd hv) jh hr' (h p hp)
 split at h
 ·rename_i g args hc
  obtain ⟨aZ,hargs,hrun⟩:=Eu hf.2 hc (P:=P) w
  have Yj:(execOp a.eval o).run P w=(callFunc g aZ).run P w:=by
   have:({ a with defers:=[] }:Act).eval=a.eval:=by funext x;cases x <;> rfl
   rw [← this];exact hrun
  rw [Yj]
  rcases h B γ aZ w hargs hr with ⟨h1,h2⟩ | ⟨cv,w',h1,γ',v,cv',s',e,hv,jh,hr',hk⟩
  ·rw [h1]
   refine ⟨fun h=>(by cases h),?_⟩
   have Bg:=callsIn_wide (n:=0) |>.2 h2
   refine (show CallsIn (Fz rd) 0 P g aZ w _ from Bg).mono ?_
   rintro e w' ⟨γ',v,cv,s',rfl,hv,jh,hr',hk⟩
   exact hn γ' _ s' _ w' ((hf.mono jh.le).put hd hv) jh hr' hk
  ·rw [h1]
   injection e with e
   subst e
   exact hn γ' _ s' _ w' ((hf.mono jh.le).put hd hv) jh hr' hk
 ·obtain ⟨v,s',hop,hk⟩:=h
  obtain ⟨γ',w',nx,cv,hrun,KL,hv,jh,hr'⟩:=Tx hT hr hf.eval hop
  rw [hrun]
  rcases KL with rfl | ⟨rfl,rfl⟩
  ·exact hn γ' _ s' _ w' ((hf.mono jh.le).put hd hv) jh hr' hk
  ·exact hn γ' _ s' _ w' ((hf.mono jh.le).put hd hv) jh hr' hk
def aeW (P:Program) (n:Nat) (o:Oper) (f:Fr) (K:Fr→Prop):Prop :=
 dQ n o.dst=true∧∃ v,(∀ (γ:bM) (ρ:Operand→Value) (w:World),(∀ x,ah γ (pH f x) (ρ x))→∃ cv,(execOp ρ o).run P w=.ok (.value cv) w∧ah γ v cv)∧K (bN f o.dst v)
def aX (Iv:bM→World→Prop) (P:Program) (T:TT) (n:Nat) (ops:Array Oper):List Oper→Fr→AS→(Fr→AS→Prop)→Prop
 | [],f,s,K=>K f s
 | o::rest,f,s,K=>match cY ops f o with
  | some true=>match xy f o.op with
   | some (l,args)=>dQ n o.dst=true∧YOk Iv P l args s fun v s'=>aX Iv P T n ops rest (bN f o.dst v) s' K
   | none=>uZ o.op=false∧(Hr P T n o f s (fun f' s'=>aX Iv P T n ops rest f' s' K)∨aeW P n o f fun f'=>aX Iv P T n ops rest f' s K)
  | some false=>dQ n o.dst=true∧aX Iv P T n ops rest (bN f o.dst .undef) s K
  | none=>False
theorem mC {Iv:bM→World→Prop} (hI:Kept Iv) {P:Program} {T:TT} (hT:TT.Ok P T) {n:Nat} {ops:Array Oper} {Q:Exit→Fr→AS→Prop} {B:Nat} {rd:Option Nat} {ds:List Deferred} {Hs:bM} {s0:AS} {w0:World}:∀ (l:List Nat) (os:List Oper) (f:Fr) (s:AS) (γ:bM) (a:Act) (w:World),
  l.map (ops[·]?)=os.map some→aX Iv P T n ops os f s (fun f s=>Q .normal f s)→FX γ n f ds a→Rel B γ s w→Iv γ w→fJ B Hs s0 w0 γ s w→wpOpsIn (Fz rd) 0 P ops (KY B Hs s0 w0 n ds Q) l a w
 | [],os,f,s,γ,a,w,hl,h,hf,hr,hi,hd=>by
  cases os with
  | nil=>exact ⟨γ,f,s,hf,hd,hr,h⟩
  | cons _ _=>simp at hl
 | i::l,os,f,s,γ,a,w,hl,h,hf,hr,hi,hd=>by
  cases os with
  | nil=>simp at hl
  | cons o os =>
   simp only [List.map_cons,List.cons.injEq] at hl
   simp only [wpOpsIn,hl.1]
   simp only [aX] at h
   split at h
   ·rename_i hw
    rw [ek hf.2 hw,if_pos rfl]
    split at h
    ·rename_i k args hc
     obtain ⟨aZ,hargs,hrun⟩:=RD hf hc (P:=P) w
     obtain ⟨fn,tmps,assign,body,hy,hR⟩:=h.2 B γ aZ w hargs hr hi
     have Bj:uZ o.op=false:=by
      cases ho:o.op <;> first | rfl | (rw [ho] at hc;cases hc)
     refine ⟨fun _ _=>trivial,?_⟩
     rw [zU Bj,hrun,hy]
     refine ⟨fun h=>(by cases h),(show RoundIn (Fz rd) 0 P k fn tmps assign body w _ from hR).mono ?_⟩
     rintro e w' ⟨γ',v,cv,s',rfl,hv,jh,hr',hk⟩
     exact mC hI hT l os _ s' γ' _ w' hl.2 hk ((hf.mono jh.le).put h.1 hv) hr' (hI _ _ _ _ _ _ _ hr hi jh) (hd.trans jh)
    ·rcases h.2 with h2 | ⟨UQ,v,hrun,hk⟩
     ·exact OJ hT h2 h.1 hf hr fun γ' f' s' a' w' h1 h2 h3 h4=>mC hI hT l os f' s' γ' a' w' hl.2 h4 h1 h3 (hI _ _ _ _ _ _ _ hr hi h2) (hd.trans h2)
     ·obtain ⟨cv,hr2,hv⟩:=hrun γ a.eval w hf.eval
      refine ⟨fun _ _=>trivial,?_⟩
      rw [zU h.1,hr2]
      exact mC hI hT l os _ s γ _ w hl.2 hk (hf.put UQ hv) hr hi hd
   ·rename_i hw
    rw [ek hf.2 hw,if_neg (by simp)]
    exact ⟨fun _ _=>trivial,mC hI hT l os _ s γ _ w hl.2 h.2 (hf.put h.1 (pK γ)) hr hi hd⟩
   ·exact h.elim
theorem cT.region {Iv:bM→World→Prop} (hI:Kept Iv) {P:Program} {T:TT} (hT:TT.Ok P T) {rd:Option Nat} {ds:List Deferred} {n:Nat} {id:Nat} {ops:Array Oper} {f:Fr} {s:AS} {Q:Exit→Fr→AS→Prop} (h:aX Iv P T n ops ops.toList f s fun f s=>Q .normal f s) :
  cT Iv rd ds P n (.region id ops false) f s Q:=by
 intro B γ a w hf hr hi
 refine wpIn_region (mC hI hT (List.range ops.size) ops.toList f s γ a w ?_ h hf hr hi fJ.refl)
 apply List.ext_getElem?
 intro i
 simp only [List.getElem?_map]
 by_cases hi:i<ops.size
 ·simp [hi]
 ·have:ops.toList[i]? = none:=List.getElem?_eq_none (by simpa using hi)
  rw [this,List.getElem?_eq_none (by simpa using hi)];rfl
/-! ### the record,rounds -/
def UU (l D:Nat) (r:Loop) (n:Nat) (f0:Fr) (γ:bM) (w:World):Prop :=
 w.heap[l]? = some (.loop r)∧w.heap[D]? = some (.deferred (some []))∧nK γ n f0 { tmps:=r.tmps,defers:=[] }
theorem UU.kept {l D:Nat} {r:Loop} {n:Nat} {f0:Fr}:Kept (UU l D r n f0) :=
 fun _ _ _ _ _ _ _ hr hi d=>⟨d.keeps hr hi.1 rfl,d.keeps hr hi.2.1 rfl,hi.2.2.mono d.le⟩
theorem YOk.round {P:Program} {l D:Nat} {r:Loop} {n p:Nat} {f0:Fr} {s:AS} {v:AV} {R:AV→AS→Prop} (hst:r.state=.ready) (Yk:r.pending=none) (hps:r.params=#[p]) (hp:p<n)
  (h:cT (fun _ _=>True) (some l) [] P n r.assign (pL f0 p v) s fun e f' s'=>e=.normal∧cT (fun _ _=>True) (some l) [] P n r.body f' s' fun e _ s''=>e=.normal∧R (.bool true) s'') :
  YOk (UU l D r n f0) P l [v] s R:=by
 intro B γ aZ w hargs hr hi
 obtain ⟨hl,hk,Ts⟩:=hi
 obtain ⟨c,cs,hc,hv,hcs⟩:=ak.cE.1 hargs
 obtain rfl:=ak.gQ.1 hcs
 obtain rfl:aZ=#[c]:=by
  cases aZ with
  | mk l=>simp only at hc;rw [hc]
 refine ⟨r.fn,_,r.assign,r.body,run_yield hl (by rw [hps];rfl),roundIn_of_wpIn trivial ?_⟩
 have ha:FX γ n (pL f0 p v) [] { tmps:=(r.params.zip #[c]).foldl (fun tmps (t,a)=>tmps.setIfInBounds t a) r.tmps,defers:=[] }:=by
  refine ⟨rfl,?_⟩
  have:=Ts.put (d:=some p) (v:=v) (c:=c) (by simpa [dQ] using hp) hv
  have e:(r.params.zip #[c]).foldl (fun tmps (t,a)=>tmps.setIfInBounds t a) r.tmps=r.tmps.setIfInBounds p c:=by rw [hps,← Array.foldl_toList,Array.toList_zip];rfl
  simp only [e]
  exact this
 refine Go.wpIn_mono (h B γ _ w ha hr trivial) ?_
 rintro e a1 w1 ⟨γ1,f1,s1,h1,d1,r1,rfl,hb⟩
 have GJ:=d1.keeps hr hl rfl
 refine ⟨_,run_beginRound GJ hst,?_⟩
 have agZ:=(Array.getElem?_eq_some_iff.1 GJ).1
 have r2:Rel B γ1 s1 (w1.putObj l (.loop { r with state:=.busy })):=r1.side (by simp) fun b ob yI hs=>by
  rw [World.putObj_heap_other];exact yI
  rintro rfl;rw [GJ] at yI;cases yI;cases hs
 have OC:(w1.putObj l (.loop { r with state:=.busy })).heap[l]? = some (.loop { r with state:=.busy }):=World.putObj_heap_same agZ
 refine Go.wpIn_mono (hb B γ1 a1 _ h1 r2 trivial) ?_
 rintro e a3 w3 ⟨γ3,f3,s3,h3,d3,r3,rfl,hR⟩
 have hl3:=d3.keeps r2 OC rfl
 have ag0:=(Array.getElem?_eq_some_iff.1 hl3).1
 have KQ:({ ({ r with state:=.busy }:Loop) with state:=if (none:Option Code).isNone then .ready else .done,pending:=none }:Loop)=r:=by
  cases r;simp only at hst Yk;subst hst;subst Yk;rfl
 have hrun:=run_endRound (P:=P) none hl3
 rw [KQ] at hrun
 refine ⟨_,_,hrun,γ3,.bool true,_,s3,rfl,rfl,d1.trans (d3.swap (by simp) (by simp) (fun b hb hnb=>?_) ?_),r3.side (by simp) fun b ob yI hs=>?_,hR⟩
 ·by_cases e:b=l
  ·subst e;rw [World.putObj_heap_same ag0,GJ]
  ·rw [World.putObj_heap_other e,d3.frm b (by simpa using hb) hnb,World.putObj_heap_other e]
 ·exact d3.env
 ·rw [World.putObj_heap_other];exact yI
  rintro rfl;rw [hl3] at yI;cases yI;cases hs
theorem Br {P:Program} {n p:Nat} {g:Operand} {assign body:Code} {f:Fr} {s:AS} {ds:List Deferred} {K:AS→Prop} {gf:FuncId} {cap:List AV} (hg:pH f g=.func gf cap) (hc:fS P gf=true)
  (hit:∀ (l D:Nat) (r:Loop),r.state=.ready→r.pending=none→r.params=#[p]→r.assign=assign→r.body=body→pO (UU l D r n f) P gf (.Xj l::cap) s fun _ s'=>K s')
  {B:Nat} {γ:bM} {a:Act} {w:World} (hf:FX γ n f ds a) (hr:Rel B γ s w) :
  (Code.rangeFunc g #[p] assign body).wpIn Fence.wide 0 P (fun e a' w'=>∃ D γ' s',e=.normal∧w.heap.size≤D∧w'.heap[D]? = some (.deferred (some []))∧FX γ' n f ({ target:=.collected D,args:=#[] }::ds) a'∧fJ B γ s w γ' s' w'∧Rel B γ' s' w'∧K s') a w:=by
 have he:=hf.eval g
 rw [hg] at he
 simp only [ah] at he
 obtain ⟨cc,LH,hcap⟩:=he
 refine wpIn_rangeFunc ?_
 intro fn _
 obtain ⟨r,hre⟩:∃ r:Loop,r={ state:=.ready,pending:=none,fn,tmps:=a.tmps,params:=#[p],assign,body,defers:=w.heap.size }:=⟨_,rfl⟩
 obtain ⟨W1,hW1⟩:∃ W1,(w.alloc (.deferred (some []))).alloc (.loop r)=W1:=⟨_,rfl⟩
 have hL1:W1.heap[w.heap.size+1]? = some (.loop r):=by
  rw [← hW1];have:=World.alloc_heap_new (w.alloc (.deferred (some []))) (.loop r);rwa [World.size_alloc] at this
 have hK1:W1.heap[w.heap.size]? = some (.deferred (some [])):=by
  rw [← hW1];exact (Below.heap_alloc _ _ _ (by simp)).trans (World.alloc_heap_new w _)
 have hsz:W1.heap.size=w.heap.size+2:=by rw [← hW1];simp
 have hold:∀ b,b<w.heap.size→W1.heap[b]? = w.heap[b]? := fun b hb=>by
  rw [← hW1,Below.heap_alloc _ _ _ (by simp;omega),Below.heap_alloc _ _ _ hb]
 have Oa:Rel B γ s W1:=hr.side (by omega) fun b ob yI _=>(hold b (Array.getElem?_eq_some_iff.1 yI).1).trans yI
 refine ⟨w.heap.size+1,[{ target:=.collected w.heap.size,args:=#[] }],W1,{ target:=.fn (.func gf) cc,args:=#[.func (.yield (w.heap.size+1)) #[] #[]] },W1,gf,
  #[.func (.yield (w.heap.size+1)) #[] #[]]++cc,W1,?_,?_,fun _ _=>trivial,?_,fun h=>(by cases h),?_⟩
 ·rw [← hW1,hre];exact run_enterLoop_outer _ _ _ _ _
 ·simp only [resolve,LH]
  simp [go_sem]
 ·simp [invoke,go_sem,mu hc]
 ·refine callsIn_wide.2 ((hit (w.heap.size+1) w.heap.size r (by rw [hre]) (by rw [hre]) (by rw [hre]) (by rw [hre]) (by rw [hre]) B γ _ W1 ?_ Oa ⟨hL1,hK1,by rw [hre];exact hf.2⟩).mono ?_)
  ·rw [Array.toList_append]
   exact ak.cons (by simp [ah]) hcap
  ·rintro e w3 ⟨γ',v,cv,s',rfl,hv,d,r3,hk⟩
   have hl3:=d.keeps Oa hL1 rfl
   have hk3:=d.keeps Oa hK1 rfl
   have hend:=run_endLoop (P:=P) hl3 (by rw [hre];simp)
   refine ⟨none,_,by rw [hend,hre],w.heap.size,γ',s',rfl,Nat.le_refl _,(World.putObj_heap_other (by omega)).trans hk3,⟨by rw [← hf.1];rfl,hf.2.mono d.le⟩,d.swap (by omega) (by simp) (fun b hb hnb=>?_) ?_,r3.side (by simp) fun b ob yI hs=>?_,hk⟩
   ·rw [World.putObj_heap_other (by omega),d.frm b (by omega) hnb,hold b hb]
   ·have:=d.env
    rw [← hW1] at this
    exact this
   ·rw [World.putObj_heap_other];exact yI
    rintro rfl;rw [hl3] at yI;cases yI;cases hs
theorem pO.body {Iv:bM→World→Prop} {P:Program} {T:TT} (hT:TT.Ok P T) {g:FuncId} {fn:Func} {c:Code} {args:List AV} {s:AS} {R:AV→AS→Prop} {n:Nat} {rs:List ResultVar} (hf:P.funcs[g]? = some fn) (hb:fn.body=some c)
  (hn:args.length+(fn.ntmps - args.length)=n) (UH:fn.results.toList=rs) (h:cT Iv none [] P n c (r8 args) s (aeF T rs R)):pO Iv P g args s R:=by
 subst hn UH
 intro B γ aZ w hargs hr hi
 refine callsIn_wide (n:=0) |>.1 (callsIn_of_wp hf hb trivial ?_)
 have hlen:=hargs.length
 simp only [Array.length_toList] at hlen
 have hfr:nK γ (args.length+(fn.ntmps - args.length)) (r8 args) { tmps:=aZ++Array.replicate (fn.ntmps - aZ.size) undef,defers:=[] }:=by
  refine ⟨by simp [hlen],rfl,fun t=>?_⟩
  simp only [r8,Array.getD_eq_getD_getElem?,List.getD_eq_getElem?_getD]
  by_cases ht:t<args.length
  ·obtain ⟨cv,AY,gw⟩:=hargs.get (List.getElem?_eq_getElem ht)
   rw [Array.getElem?_append_left (by omega)]
   rw [Array.getElem?_toList] at AY
   rw [AY,List.getElem?_eq_getElem ht]
   exact gw
  ·rw [List.getElem?_eq_none (by omega)]
   have:((aZ++Array.replicate (fn.ntmps - aZ.size) undef)[t]?).getD undef=undef:=by
    rw [Array.getElem?_append_right (by omega)]
    by_cases hq:t - aZ.size<fn.ntmps - aZ.size
    ·simp [hq]
    ·rw [Array.getElem?_eq_none (by simp;omega)];rfl
   rw [this]
   exact pK γ
 refine Go.wpIn_mono (h B γ _ w ⟨rfl,hfr⟩ hr hi) ?_
 rintro e a' w' ⟨γ',f',s',h1,h2,h3,h4⟩
 cases e with
 | normal =>
  obtain ⟨v,hv,hR⟩:=h4
  obtain ⟨cv,hrun,gw⟩:=xp hT h1.2 h3 hv
  exact ⟨h1.1,cv,hrun,γ',v,cv,s',rfl,gw,h2,h3,hR⟩
 | ret =>
  obtain ⟨v,hv,hR⟩:=h4
  obtain ⟨cv,hrun,gw⟩:=xp hT h1.2 h3 hv
  exact ⟨h1.1,cv,hrun,γ',v,cv,s',rfl,gw,h2,h3,hR⟩
 | exit id=>exact h4.elim
 | goto l=>exact h4.elim
 | panic ch=>exact h4.elim
 | outgrown=>exact h4.elim
end Go.Am
end

section
namespace Go.Am
section
variable {Iv:bM→World→Prop} {P:Program} {T:TT} {n:Nat} {ops rest:Array Oper} {o:Oper} {os:List Oper} {f:Fr} {s:AS} {K:Fr→AS→Prop}
theorem qZ (hg:o.guard=none):cY ops f o=some true:=by simp [cY,hg]
theorem aX.cH {v:AV} {s':AS} (hg:o.guard=none) (hy:xy f o.op=none) (Bj:uZ o.op=false) (hc:eT f o.op=none) (hd:dQ n o.dst=true) (h:cH T o.op (pH f) s=some (v,s')) (k:aX Iv P T n ops os (bN f o.dst v) s' K):aX Iv P T n ops (o::os) f s K:=by
 simp only [aX,qZ hg,hy]
 refine ⟨Bj,.inl ⟨hd,.inl ?_⟩⟩
 rw [hc]
 exact ⟨v,s',h,k⟩
theorem aX.next {it:Operand} (hg:o.guard=none) (hop:o.op=.next it false) (hd:dQ n o.dst=true) (h:TF (zP (pH f it) s) s fun v s'=>aX Iv P T n ops os (bN f o.dst v) s' K):aX Iv P T n ops (o::os) f s K:=by
 have hy:xy f o.op=none:=by rw [hop];rfl
 simp only [aX,qZ hg,hy]
 obtain ⟨l,h1,h2⟩:=KN h
 exact ⟨by rw [hop];rfl,.inl ⟨hd,.inr ⟨l,by rw [hop];exact h1,h2⟩⟩⟩
theorem aX.call {g:FuncId} {args:List AV} (hg:o.guard=none) (hy:xy f o.op=none) (Bj:uZ o.op=false) (hc:eT f o.op=some (g,args)) (hd:dQ n o.dst=true) (h:aa P g args s fun v s'=>aX Iv P T n ops os (bN f o.dst v) s' K):aX Iv P T n ops (o::os) f s K:=by
 simp only [aX,qZ hg,hy]
 refine ⟨Bj,.inl ⟨hd,.inl ?_⟩⟩
 rw [hc]
 exact h
theorem aX.raw {v:AV} (hg:o.guard=none) (hy:xy f o.op=none) (Bj:uZ o.op=false) (hd:dQ n o.dst=true) (h:∀ (γ:bM) (ρ:Operand→Value) (w:World),(∀ x,ah γ (pH f x) (ρ x))→∃ cv,(execOp ρ o).run P w=.ok (.value cv) w∧ah γ v cv) (k:aX Iv P T n ops os (bN f o.dst v) s K):aX Iv P T n ops (o::os) f s K:=by
 simp only [aX,qZ hg,hy]
 exact ⟨Bj,.inr ⟨hd,v,h,k⟩⟩
theorem aX.yield {l:Nat} {args:List AV} (hg:o.guard=none) (hy:xy f o.op=some (l,args)) (hd:dQ n o.dst=true) (h:YOk Iv P l args s fun v s'=>aX Iv P T n ops os (bN f o.dst v) s' K):aX Iv P T n ops (o::os) f s K:=by
 simp only [aX,qZ hg,hy]
 exact ⟨hd,h⟩
theorem YOk.mono {l:Nat} {args:List AV} {R R':AV→AS→Prop} (h:YOk Iv P l args s R) (hr:∀ v s',R v s'→R' v s'):YOk Iv P l args s R':=by
 intro B γ aZ w h1 h2 h3
 obtain ⟨fn,tmps,assign,body,hy,hR⟩:=h B γ aZ w h1 h2 h3
 refine ⟨fn,tmps,assign,body,hy,hR.mono ?_⟩
 rintro e w' ⟨γ',v,cv,s',a,b,c,d,e⟩
 exact ⟨γ',v,cv,s',a,b,c,d,hr _ _ e⟩
theorem pO.pre {g:FuncId} {args:List AV} {R:AV→AS→Prop} (h:aM s→pO Iv P g args s R):pO Iv P g args s R :=
 fun B γ aZ w h1 h2 h3=>h h2.QH B γ aZ w h1 h2 h3
end
structure UW (T:TT) (t n:Nat):Prop where
 agg:T.agg t=some true
 eN:T.eN t=some n
 sL:∃ z zc,T.sL t=some z∧bJ z=some zc∧zc.length=n
section
variable {Iv:bM→World→Prop} {P:Program} {T:TT} {n:Nat} {ops:Array Oper} {os:List Oper} {f:Fr} {s:AS} {K:Fr→AS→Prop}
theorem OK {l:List AV} (h:l.all AV.one=true):bJ (.agg l)=some l:=by simp [bJ,AV.cells,h]
theorem aX.put {o1 o2:Oper} {t k d:Nat} {y:Operand} {g:List AV} (hs:UW T t k) (hw:aM s) (g1:o1.guard=none) (e1:o1.op=.alloc t) (d1:o1.dst=some d) (hd:d<n) (g2:o2.guard=none) (e2:o2.op=.store t (.tmp d) y) (d2:o2.dst=none)
  (hy:∀ v,pH (pL f d v) y=.agg g) (hg:g.length=k) (h1:g.all AV.one=true) (h:∀ l s',qY s s' l (.cells g 0 false)→aX Iv P T n ops os (pL f d (.ptr (some (l,0)))) s' K):aX Iv P T n ops (o1::o2::os) f s K:=by
 obtain ⟨z,zc,hz,EU,hzl⟩:=hs.sL
 refine aX.cH (v:=.ptr (some (s.nl,0))) (s':=s.new (.cells zc 0 false)) g1 (by rw [e1];rfl) (by rw [e1];rfl) (by rw [e1];rfl) (by rw [d1];simpa [dQ] using hd) (by rw [e1];simp only [Am.cH,hz,Option.bind_some,EU,Option.map_some]) ?_
 obtain ⟨⟨_,hlen⟩,s2,Yb,hk⟩:=lN (zc:=zc) (g:=g) (n:=k) (K:=fun l s'=>aX Iv P T n ops os (pL f d (.ptr (some (l,0)))) s' K) hw hg hzl h1 h
 rw [d1]
 refine aX.cH (v:=.undef) (s':=s2) g2 (by rw [e2];rfl) (by rw [e2];rfl) (by rw [e2];rfl) (by rw [d2];rfl) ?_ ?_
 ·rw [e2]
  have hp:pH (pL f d (.ptr (some (s.nl,0)))) (.tmp d)=.ptr (some (s.nl,0)):=Xx _ _ _
  simp only [Am.cH,bN,hp,hy,ast,OK h1,Option.bind_some,hs.eN]
  rw [if_pos (by rw [hg])]
  rw [Yb];rfl
 ·rw [d2];exact hk
theorem aX.ld {o:Oper} {t k d l off:Nat} {x:Operand} {g:List AV} (hs:UW T t k) (g1:o.guard=none) (e1:o.op=.load t x) (d1:o.dst=some d) (hd:d<n) (hx:pH f x=.ptr (some (l,off))) (hr:aB s l off k=some g) (h:aX Iv P T n ops os (pL f d (.agg g)) s K):aX Iv P T n ops (o::os) f s K:=by
 refine aX.cH (v:=.agg g) (s':=s) g1 (by rw [e1];rfl) (by rw [e1];rfl) (by rw [e1];rfl) (by rw [d1];simpa [dQ] using hd) ?_ (by rw [d1];exact h)
 rw [e1]
 simp only [Am.cH,hx,aaC hs.agg hs.eN,hr,Option.map_some]
end
def HM (tm tk tf tb:TypeId):Code :=
 (Go.Code.seq (Go.Code.region 0 #[{ dst := some 4, op := Go.Op.load tm (Go.Operand.tmp 1), type := tm, pos := "iter.go:27", after := #[], guard := none }, { dst := some 5, op := Go.Op.range tm (Go.Operand.tmp 4), type := 0, pos := "iter.go:27", after := #[{ on := 0, ground := Go.Ground.data }], guard := none }] false) (Go.Code.block 0 (Go.Code.loop (Go.Code.seq (Go.Code.region 1 #[{ dst := some 6, op := Go.Op.next (Go.Operand.tmp 5) false, type := 0, pos := "iter.go:27", after := #[], guard := none }, { dst := some 7, op := Go.Op.extract (Go.Operand.tmp 6) 0, type := tb, pos := "iter.go:27", after := #[{ on := 0, ground := Go.Ground.data }], guard := none }] false) (Go.Code.seq (Go.Code.cond (Go.Operand.tmp 7) Go.Code.skip (Go.Code.exit 0)) (Go.Code.block 1 (Go.Code.seq (Go.Code.region 2 #[{ dst := some 8, op := Go.Op.entry (Go.Operand.tmp 5), type := 0, pos := "iter.go:27", after := #[], guard := none }, { dst := some 9, op := Go.Op.extract (Go.Operand.tmp 8) 0, type := tk, pos := "iter.go:27", after := #[{ on := 0, ground := Go.Ground.data }], guard := none }, { dst := some 3, op := Go.Op.alloc tk, type := 0, pos := "iter.go:27", after := #[], guard := none }, { dst := none, op := Go.Op.store tk (Go.Operand.tmp 3) (Go.Operand.tmp 9), type := 0, pos := "iter.go:27", after := #[{ on := 2, ground := Go.Ground.data }, { on := 1, ground := Go.Ground.data }, { on := 0, ground := Go.Ground.phase }, { on := 1, ground := Go.Ground.phase }, { on := 2, ground := Go.Ground.phase }], guard := none }] false) (Go.Code.seq (Go.Code.region 3 #[{ dst := some 10, op := Go.Op.move (Go.Operand.tmp 0), type := tf, pos := "iter.go:28", after := #[], guard := none }, { dst := some 11, op := Go.Op.load tk (Go.Operand.tmp 3), type := tk, pos := "iter.go:28", after := #[], guard := none }, { dst := some 12, op := Go.Op.call { callee := Go.Callee.value (Go.Operand.tmp 10), args := #[Go.Operand.tmp 11], argTypes := #[tk] }, type := tb, pos := "iter.go:28", after := #[{ on := 0, ground := Go.Ground.data }, { on := 1, ground := Go.Ground.data }], guard := none }, { dst := some 13, op := Go.Op.unOp Go.UnOp.not tb (Go.Operand.tmp 12), type := tb, pos := "iter.go:28", after := #[{ on := 2, ground := Go.Ground.data }], guard := none }] false) (Go.Code.cond (Go.Operand.tmp 13) Go.Code.ret Go.Code.skip)))))))))
theorem RE {Iv:bM→World→Prop} (hI:Kept Iv) {P:Program} {T:TT} (hT:TT.Ok P T) {g:FuncId} {fn:Func} {tm tk tf tb n:TypeId} (hf:P.funcs[g]? = some fn) (hb:fn.body=some (HM tm tk tf tb)) (hn:fn.ntmps=14) (UH:fn.results=#[])
  {kt et:TypeId} (acT:T.agg tm=some false) (hu:T.cM tm=some (.map kt et)) (hk:UW T tk n)
  {K V:Type} [DecidableEq K] {kc:K→List AV} {vf:V→AV} (hkc:∀ k,(kc k).length=n∧(kc k).all AV.one=true) {s:AS} {l lb m:Nat} {es:List (K×V×Nat)} {c:Nat} {ro:Bool} (hbx:At s lb [.map (some m)]) (hm:eJ (fun k=>.agg (kc k)) vf s m es c ro)
  {J:Nat→List (K×V×Nat)→AS→Prop}
  (h0:∀ it s',Iter s' it m es c ([]:List (K×V×Nat))→qY s s' it (.fC (some m) c [] c false)→J it [] s')
  (hJ:∀ it done s',J it done s'→aM s'∧eJ (fun k=>.agg (kc k)) vf s' m es c ro∧Iter s' it m es c done)
  (KL:∀ it done s1 s2 s3 e,J it done s1→e∈es→e ∉ done→Iter s2 it m es c (done++[e])→bD [it] s1 s2→Ext s2 s3→aM s3→YOk Iv P l [.agg (kc e.1)] s3 fun v s4=>v=.bool true∧J it (done++[e]) s4) :
  pO Iv P g [.Xj l,.ptr (some (lb,0))] s fun _ s'=>∃ it done,(∀ e∈es,e∈done)∧J it done s':=by
 refine pO.pre fun hw=>pO.body (n:=14) (rs:=[]) hT hf hb (by simp [hn]) (by rw [UH]) ?_
 unfold HM
 refine cT.seq hI (cT.region hI hT ?_)
 refine aX.cH (v:=.map (some m)) (s':=s) rfl rfl rfl rfl rfl ?_ ?_
 ·show (Jp T tm s (.ptr (some (lb,0)))).map (·,s)=_
  rw [zN acT,hbx.av];rfl
 have F:=hw.new (o:=.fC (some m) c [] c false) rfl
 refine aX.cH (v:=.ptr (some (s.nl,0))) (s':=s.new (.fC (some m) c [] c false)) rfl rfl rfl rfl rfl ?_ ?_
 ·have e:pH (bN (r8 [.Xj l,.ptr (some (lb,0))]) (some 4) (.map (some m))) (.tmp 4)=.map (some m):=rfl
  simp only [Am.cH,e,hu,hm.obj]
 show cT _ _ _ _ _ _ _ _ _
 have j0:=h0 s.nl _ ⟨F.at,by simp,List.nodup_nil⟩ F
 generalize s.new (.fC (some m) c [] c false)=s0 at j0
 generalize s.nl=it at j0
 refine cT.block (cT.loop hI (fun mm f s'=>f 0=.Xj l∧f 5=.ptr (some (it,0))∧∃ done,mm=es.length - done.length∧J it done s') es.length ⟨rfl,rfl,[],rfl,j0⟩ ?_)
 rintro mm f s1 ⟨f0,f5,done,rfl,j⟩
 obtain ⟨w1,M1,I1⟩:=hJ it done s1 j
 refine cT.seq hI (cT.region hI hT (aX.next rfl rfl rfl ?_))
 show TF (zP (f 5) s1) s1 _
 rw [f5]
 refine Iter.next w1 M1 I1 (fun hall=>?_) (fun e s2 he hne I2 w2 m2=>?_)
 ·refine aX.cH (v:=.bool false) (s':=s1) rfl rfl rfl rfl rfl rfl ?_
  show cT _ _ _ _ _ _ _ _ _
  refine cT.seq hI (cT.cond (t:=false) rfl (cT.exit ?_))
  simp only [Et,zK,if_true]
  exact ⟨.aQ [],rfl,it,done,hall,j⟩
 have hlt:=I1.lt he hne
 have M2:=M1.mut m2 (by
  simp only [List.mem_singleton]
  rintro rfl
  have:=I1.at
  rw [M1.obj] at this;cases this)
 refine aX.cH (v:=.bool true) (s':=s2) rfl rfl rfl rfl rfl rfl ?_
 show cT _ _ _ _ _ _ _ _ _
 refine cT.seq hI (cT.cond (t:=true) rfl (cT.skip ?_))
 show cT _ _ _ _ _ _ _ _ _
 refine cT.block (cT.seq hI (cT.region hI hT ?_))
 obtain ⟨k',v',ag1,hkv⟩:=Iter.entry (Q:=fun a b=>a=.agg (kc e.1)) M2 I2 rfl
 subst hkv
 refine aX.cH (v:=.aQ [.agg (kc e.1),v']) (s':=s2) rfl rfl rfl rfl rfl ?_ ?_
 ·show (wX (f 5) s2).map (·,s2)=_
  rw [f5,ag1];rfl
 refine aX.cH (v:=.agg (kc e.1)) (s':=s2) rfl rfl rfl rfl rfl rfl ?_
 refine aX.put hk w2 rfl rfl rfl (by decide) rfl rfl rfl (g:=kc e.1) (fun v=>rfl) (hkc _).1 (hkc _).2 fun lk s3 F3=>?_
 show cT _ _ _ _ _ _ _ _ _
 refine cT.seq hI (cT.region hI hT ?_)
 refine aX.cH (v:=.Xj l) (s':=s3) rfl rfl rfl rfl rfl ?_ ?_
 ·show some (f 0,s3)=_
  rw [f0]
 refine aX.ld (g:=kc e.1) (l:=lk) (off:=0) hk rfl rfl rfl (by decide) rfl ?_ ?_
 ·have o3:At s3 lk (kc e.1):=⟨_,_,F3.at⟩
  rw [o3.aB (by rw [(hkc _).1];omega),List.drop_zero,List.take_of_length_le (by rw [(hkc _).1];exact Nat.le_refl _)]
 refine aX.yield (l:=l) (args:=[.agg (kc e.1)]) rfl rfl rfl ((KL it done s1 s2 s3 e j he hne I2 m2 F3.ext F3.wf).mono ?_)
 rintro v s4 ⟨rfl,j4⟩
 refine aX.cH (v:=.bool false) (s':=s4) rfl rfl rfl rfl rfl rfl ?_
 show cT _ _ _ _ _ _ _ _ _
 refine cT.cond (t:=false) rfl (cT.skip ?_)
 exact ⟨es.length - (done.length+1),by omega,f0,f5,done++[e],by simp,j4⟩
end Go.Am
end

section
namespace Go.Am
open Go.RowKit
def OL (te : TypeId) : Code := (Go.Code.region 2 #[{ dst := some 5, op := Go.Op.alloc te, type := 0, pos := "iter.go:51", after := #[], guard := none }, { dst := none, op := Go.Op.store te (Go.Operand.tmp 5) (Go.Operand.tmp 7), type := 0, pos := "iter.go:51", after := #[{ on := 0, ground := Go.Ground.data }, { on := 0, ground := Go.Ground.phase }], guard := none }] false)
def Yl (ts te : TypeId) : Code := (Go.Code.block 1 (Go.Code.region 3 #[{ dst := some 8, op := Go.Op.load ts (Go.Operand.tmp 2), type := ts, pos := "iter.go:52", after := #[], guard := none }, { dst := some 9, op := Go.Op.load te (Go.Operand.tmp 5), type := te, pos := "iter.go:52", after := #[], guard := none }, { dst := some 10, op := Go.Op.buildSlice ts 1 #[(0, Go.Operand.tmp 9)], type := ts, pos := "iter.go:52", after := #[{ on := 1, ground := Go.Ground.data }], guard := none }, { dst := some 11, op := Go.Op.call { callee := Go.Callee.builtin Go.Builtin.append, args := #[Go.Operand.tmp 8, Go.Operand.tmp 10], argTypes := #[ts, ts] }, type := ts, pos := "iter.go:52", after := #[{ on := 0, ground := Go.Ground.data }, { on := 2, ground := Go.Ground.data }], guard := none }, { dst := none, op := Go.Op.store ts (Go.Operand.tmp 2) (Go.Operand.tmp 11), type := 0, pos := "iter.go:52", after := #[{ on := 3, ground := Go.Ground.data }, { on := 3, ground := Go.Ground.chain }, { on := 0, ground := Go.Ground.phase }, { on := 1, ground := Go.Ground.phase }, { on := 2, ground := Go.Ground.phase }, { on := 3, ground := Go.Ground.phase }], guard := none }] false))
def KZ (ts te tq:TypeId):Code :=
 (Go.Code.seq (Go.Code.region 0 #[{ dst := some 2, op := Go.Op.box ts (Go.Operand.tmp 0), type := 0, pos := "iter.go:50", after := #[], guard := none }, { dst := some 4, op := Go.Op.assign (Go.Operand.const (Go.Value.slice none 0 0)), type := ts, pos := "iter.go:50", after := #[], guard := none }] false) (Go.Code.seq (Go.Code.seq (Go.Code.region 1 #[{ dst := some 6, op := Go.Op.move (Go.Operand.tmp 1), type := tq, pos := "iter.go:51", after := #[], guard := none }] false) (Go.Code.block 0 (Go.Code.rangeFunc (Go.Operand.tmp 6) #[7] (OL te) (Yl ts te)))) (Go.Code.seq (Go.Code.region 4 #[{ dst := some 12, op := Go.Op.load ts (Go.Operand.tmp 2), type := ts, pos := "iter.go:54", after := #[], guard := none }, { dst := some 4, op := Go.Op.assign (Go.Operand.tmp 12), type := ts, pos := "iter.go:54", after := #[{ on := 0, ground := Go.Ground.data }, { on := 0, ground := Go.Ground.phase }], guard := none }] false) Go.Code.ret)))
def OM {K V:Type} (P:Program) (kf:K→AV) (vf:V→AV) (m:Nat) (es:List (K×V×Nat)) (c:Nat) (ro:Bool) (el:K×V×Nat→List AV) (gf:FuncId) (cap:List AV) (s:AS):Prop :=
 ∀ (Iv:bM→World→Prop) (hI:Kept Iv) (l:Nat) (J:Nat→List (K×V×Nat)→AS→Prop),
  (∀ it s',Iter s' it m es c ([]:List (K×V×Nat))→qY s s' it (.fC (some m) c [] c false)→J it [] s') →
  (∀ it done s',J it done s'→aM s'∧eJ kf vf s' m es c ro∧Iter s' it m es c done) →
  (∀ it done s1 s2 s3 e,J it done s1→e∈es→e ∉ done→Iter s2 it m es c (done++[e])→bD [it] s1 s2→Ext s2 s3→aM s3→YOk Iv P l [.agg (el e)] s3 fun v s4=>v=.bool true∧J it (done++[e]) s4) →
  pO Iv P gf (.Xj l::cap) s fun _ s'=>∃ it done,(∀ e∈es,e∈done)∧J it done s'
structure STy (T:TT) (t:TypeId):Prop where
 agg:T.agg t=some false
 eN:T.eN t=some 1
theorem FX.init {γ:bM} {args:List AV} {aZ:Array Value} (hargs:ak γ args aZ.toList) {k n:Nat} (hn:args.length+(k - args.length)=n):FX γ n (r8 args) [] { tmps:=aZ++Array.replicate (k - aZ.size) undef,defers:=[] }:=by
 subst hn
 have hlen:=hargs.length
 simp only [Array.length_toList] at hlen
 refine ⟨rfl,by simp [hlen],rfl,fun t=>?_⟩
 simp only [r8,Array.getD_eq_getD_getElem?,List.getD_eq_getElem?_getD]
 by_cases ht:t<args.length
 ·obtain ⟨cv,AY,gw⟩:=hargs.get (List.getElem?_eq_getElem ht)
  rw [Array.getElem?_append_left (by omega)]
  rw [Array.getElem?_toList] at AY
  rw [AY,List.getElem?_eq_getElem ht]
  exact gw
 ·rw [List.getElem?_eq_none (by omega)]
  have:((aZ++Array.replicate (k - aZ.size) undef)[t]?).getD undef=undef:=by
   rw [Array.getElem?_append_right (by omega)]
   by_cases hq:t - aZ.size<k - aZ.size
   ·simp [hq]
   ·rw [Array.getElem?_eq_none (by simp;omega)];rfl
  rw [this]
  exact pK γ
theorem E2 {P:Program} {T:TT} (hT:TT.Ok P T) {g:FuncId} {fn:Func} {ts te tq n qK:TypeId} (hf:P.funcs[g]? = some fn) (hc:fS P g=true) (hb:fn.body=some (KZ ts te tq)) (hn:fn.ntmps=13) (UH:fn.results=#[.tmp 4])
  (hts:STy T ts) (UX:C5 T ts te n qK) (hte:UW T te n) {K V:Type} {kf:K→AV} {vf:V→AV} {m:Nat} {es:List (K×V×Nat)} {c:Nat} {ro:Bool} {el:K×V×Nat→List AV} (Oi:∀ e,(el e).length=n) (hone:∀ e,(el e).all AV.one=true)
  {gf:FuncId} {cap:List AV} (hgf:fS P gf=true) (CX:es.length≤2 ^ 30) {s:AS} (hm:eJ kf vf s m es c ro) (hrun:∀ s1,Ext s s1→aM s1→OM P kf vf m es c ro el gf cap s1) {a:Option (Nat×Nat)} :
  aa P g [.slc a 0 0 true,.func gf cap] s fun v s'=>∃ done:List (K×V×Nat),(∀ e∈es,e∈done)∧(∀ e∈done,e∈es)∧done.Nodup∧aT el n [] s s' v done:=by
 intro B γ aZ w hargs hr
 refine .inl ⟨mu hc _ w,callsIn_wide (n:=0) |>.1 (callsIn_of_wp_marks hf hb trivial ?_)⟩
 have hw:=hr.QH
 have fx0:FX γ 13 (r8 [.slc a 0 0 true,.func gf cap]) [] { tmps:=aZ++Array.replicate (fn.ntmps - aZ.size) undef,defers:=[] }:=FX.init hargs (by simp [hn])
 have KT:=Kept.true
 unfold KZ
 have h1:cT (fun _ _=>True) none [] P 13 _ (r8 [.slc a 0 0 true,.func gf cap]) s fun e f' s'=>e=.normal∧∃ bx,f' 1=.func gf cap∧f' 2=.ptr (some (bx,0))∧qY s s' bx (.cells [.slc a 0 0 true] 0 false) :=
  cT.region (id := 0) KT hT (ops := #[{ dst := some 2, op := Go.Op.box ts (Go.Operand.tmp 0), type := 0, pos := "iter.go:50", after := #[], guard := none }, { dst := some 4, op := Go.Op.assign (Go.Operand.const (Go.Value.slice none 0 0)), type := ts, pos := "iter.go:50", after := #[], guard := none }])
   (aX.cH (v:=.ptr (some (s.nl,0))) (s':=s.new (.cells [.slc a 0 0 true] 0 false)) rfl rfl rfl rfl rfl rfl (aX.cH (v:=.slc none 0 0 true) (s':=s.new (.cells [.slc a 0 0 true] 0 false)) rfl rfl rfl rfl rfl rfl ⟨rfl,s.nl,rfl,rfl,hw.new rfl⟩))
 refine wpIn_seq (Go.wpIn_mono (h1 B γ _ w fx0 hr trivial) ?_)
 rintro e a1 w1 ⟨γ1,f1,s1,fx1,d1,r1,rfl,bx,f11,f12,F1⟩
 have w1':=r1.QH
 have h2:cT (fun _ _=>True) none [] P 13 _ f1 s1 fun e f' s'=>e=.normal∧s'=s1∧f' 6=.func gf cap∧f' 2=.ptr (some (bx,0)) :=
  cT.region (id := 1) KT hT (ops := #[{ dst := some 6, op := Go.Op.move (Go.Operand.tmp 1), type := tq, pos := "iter.go:51", after := #[], guard := none }])
   (aX.cH (v:=.func gf cap) (s':=s1) rfl rfl rfl rfl rfl (by show some (f1 1,s1)=_;rw [f11]) ⟨rfl,rfl,rfl,f12⟩)
 refine wpIn_seq (wpIn_seq (Go.wpIn_mono (h2 B γ1 a1 w1 fx1 r1 trivial) ?_))
 rintro e a2 w2 ⟨γ2,f2,s2,fx2,d2,r2,rfl,rfl,f26,f22⟩
 have ag2:s.h bx=none:=F1.no
 have Es2:Ext s s2:=F1.ext
 have hm2:=hm.ext Es2
 let J:Nat→List (K×V×Nat)→AS→Prop:=fun it done s'=>aM s'∧eJ kf vf s' m es c ro∧Iter s' it m es c done∧s2.h it=none∧it≠bx∧∃ sI v,Ext s2 sI∧sI.h it≠none∧sI.h bx≠none∧Own s' bx [v]∧aT el n [bx,it] sI s' v done
 have aeX:=Br (n:=13) (p:=7) (assign:=OL te) (body:=Yl ts te) (K:=fun s'=>∃ it done,(∀ e∈es,e∈done)∧J it done s') (g:=.tmp 6) (f:=f2) (ds:=[]) f26 hgf (fun l D r hst Yk hps has hbo=>?_) fx2 r2
 rotate_left
 ·refine hrun s2 Es2 w1' (UU l D r 13 f2) UU.kept l J (fun it s' I F=>?_) (fun it done s' j=>⟨j.1,j.2.1,j.2.2.1⟩) (fun it done q1 q2 q3 e j he hne I2 m2 e3 w3=>?_)
  ·have hbi:it≠bx:=by rintro rfl;have:=F.no;rw [F1.at] at this;cases this
   exact ⟨F.wf,hm2.ext F.ext,I,F.no,hbi,s',_,F.ext,by rw [F.at];simp,by rw [F.ext.1 _ _ F1.at];simp,F1.own.ext F.ext,aT.nil⟩
  ·obtain ⟨jw,jm,jI,jn,jb,sI,v,eI,hIt,hIb,jo,jg⟩:=j
   have hlt:=jI.lt he hne
   have TB:m≠it:=by
    rintro rfl
    have:=jI.at
    rw [jm.obj] at this;cases this
   have hmb:m≠bx:=by
    rintro rfl
    have:=jo.at
    obtain ⟨g1,g2,h1⟩:=this
    rw [jm.obj] at h1;cases h1
   have M3:=(jm.mut m2 (by simpa using TB)).ext e3
   have I3:=I2.ext e3
   have o3:=(jo.mut m2 (by simpa using jb.symm)).ext e3
   have hM:∀ x∈[bx,it],sI.h x≠none:=by
    intro x hx
    simp only [List.mem_cons,List.not_mem_nil,or_false] at hx
    rcases hx with rfl | rfl
    ·exact hIb
    ·exact hIt
   have g3:aT el n [bx,it] sI q3 v done:=(jg.wr hM (m2.mono (by simp))).step e3
   refine YOk.round (p:=7) hst Yk hps (by decide) ?_
   rw [has,hbo]
   refine cT.region KT hT (aX.put hte w3 rfl rfl rfl (by decide) rfl rfl rfl (g:=el e) (fun v=>rfl) (Oi e) (hone e) fun lv q4 F4=>⟨rfl,?_⟩)
   refine cT.block (cT.region KT hT ?_)
   have o4:=o3.ext F4.ext
   have g4:=g3.step F4.ext
   refine aX.cH (v:=v) (s':=q4) rfl rfl rfl rfl rfl ?_ ?_
   ·show (Jp T ts q4 (pL (pL f2 7 (.agg (el e))) 5 (.ptr (some (lv,0))) 2)).map (·,q4)=_
    rw [show pL (pL f2 7 (.agg (el e))) 5 (.ptr (some (lv,0))) 2=.ptr (some (bx,0)) from f22,zN hts.agg,o4.at.av];rfl
   refine aX.ld (g:=el e) (l:=lv) (off:=0) hte rfl rfl rfl (by decide) rfl ?_ ?_
   ·have a4:At q4 lv (el e):=⟨_,_,F4.at⟩
    rw [a4.aB (by rw [Oi];omega),List.drop_zero,List.take_of_length_le (by rw [Oi];exact Nat.le_refl _)]
   have hM4:∀ x∈[bx,it],q4.h x≠none:=by
    intro x hx
    simp only [List.mem_cons,List.not_mem_nil,or_false] at hx
    rcases hx with rfl | rfl
    ·rw [o4];simp
    ·rw [(I3.ext F4.ext).at];simp
   obtain ⟨gc,hgc,v',q5,Q7,G5,w5,m5⟩:=aT.iX UX Oi hone F4.wf g4 hM4 e (by omega) (K:=fun v' s'=>aT el n [bx,it] sI s' v' (done++[e])∧aM s'∧bD (ay v) q4 s') (fun v' s' a b c=>⟨a,b,c⟩)
   refine aX.cH (v:=.slc (some (q4.nl,0)) 1 1 true) (s':=q4.new (.cells gc 0 false)) rfl rfl rfl rfl rfl ?_ ?_
   ·show lK T ts 1 [(0,.agg (el e))] q4=_
    exact TG hgc
   refine aX.cH (v:=v') (s':=q5) rfl rfl rfl rfl rfl Q7 ?_
   have L_:∀ x,q4.h x≠none→sI.h x≠none→x ∉ ay v:=fun x _ h2 hx=>h2 (g4.new x hx)
   have o5:=o4.mut m5 (fun hx=>hIb (g4.new _ hx))
   have hv1:v'.one=true:=G5.iW.2
   have P5:Put q5 (q5.put bx (.cells [v'] 0 false)) bx (.cells [v'] 0 false):=w5.put o5 rfl
   refine aX.cH (v:=.undef) (s':=q5.put bx (.cells [v'] 0 false)) rfl rfl rfl rfl rfl ?_ ?_
   ·show (ast T ts q5 (pL (pL f2 7 (.agg (el e))) 5 (.ptr (some (lv,0))) 2) v').map (fun x=>(AV.undef,x))=_
    rw [show pL (pL f2 7 (.agg (el e))) 5 (.ptr (some (lv,0))) 2=.ptr (some (bx,0)) from f22]
    have hac:bJ v'=some [v']:=by cases v' <;> first | rfl | cases hv1
    simp only [ast,hac,Option.bind_some,hts.eN,List.length_singleton,if_true,cN,show q5.h bx=some (.cells [v] 0 false) from o5]
    rfl
   have hIm:sI.h m≠none:=by rw [(hm2.ext eI).obj];simp
   have hmv:m ∉ ay v:=fun hx=>hIm (g4.new _ hx)
   have hiv:it ∉ ay v:=fun hx=>hIt (g4.new _ hx)
   refine ⟨rfl,rfl,P5.wf,((M3.ext F4.ext).mut m5 hmv).mut P5.mut (by simpa using hmb),((I3.ext F4.ext).mut m5 hiv).mut P5.mut (by simpa using jb),jn,jb,sI,v',eI,hIt,hIb,P5.at,G5.wr hM (P5.mut.mono (by simp))⟩
 refine wpIn_block (Go.wpIn_mono aeX ?_)
 rintro e a3 w3 ⟨D,γ3,s3,rfl,hD,hK3,fx3,d3,r3,it,done,hall,jw,jm,jI,jn,jb,sI,v,eI,hIt,hIb,jo,jg⟩
 have h4:cT (fun _ _=>True) none [{ target:=.collected D,args:=#[] }] P 13 _ f2 s3 fun e f' s'=>e=.normal∧s'=s3∧f' 4=v :=
  cT.region (id := 4) KT hT (ops := #[{ dst := some 12, op := Go.Op.load ts (Go.Operand.tmp 2), type := ts, pos := "iter.go:54", after := #[], guard := none }, { dst := some 4, op := Go.Op.assign (Go.Operand.tmp 12), type := ts, pos := "iter.go:54", after := #[{ on := 0, ground := Go.Ground.data }, { on := 0, ground := Go.Ground.phase }], guard := none }])
   (aX.cH (v:=v) (s':=s3) rfl rfl rfl rfl rfl (by show (Jp T ts s3 (f2 2)).map (·,s3)=_;rw [f22,zN hts.agg,jo.at.av];rfl) (aX.cH (v:=v) (s':=s3) rfl rfl rfl rfl rfl rfl ⟨rfl,rfl,rfl⟩))
 refine wpIn_seq (Go.wpIn_mono (h4 B γ3 a3 w3 fx3 r3 trivial) ?_)
 rintro e a4 w4 ⟨γ4,f4,s4,fx4,d4,r4,rfl,rfl,f44⟩
 refine wpIn_ret ?_
 show LeavesInM _ _ _ _ a4.tmps _ a4.defers .returning w4
 rw [fx4.1]
 have hK4:=d4.keeps r3 hK3 rfl
 have ajS:=(Array.getElem?_eq_some_iff.1 hK4).1
 refine ⟨by simp,.inl ⟨D,_,rfl,run_takeDeferred hK4,?_⟩⟩
 have r5:Rel B γ4 s4 (w4.putObj D (.deferred none)):=r4.side (by simp) fun b ob yI hs=>by
  rw [World.putObj_heap_other];exact yI
  rintro rfl;rw [hK4] at yI;cases yI;cases hs
 obtain ⟨cv,hrun,hv⟩:=xp hT fx4.2 r5 (fn:=fn) (v:=v) (by rw [UH];simp [yT,yT.EW,f44])
 have hsz:=d1.eN
 have aco:=d2.eN
 refine ⟨cv,hrun,γ4,v,cv,s4,rfl,hv,(d1.trans (d2.trans (d3.trans d4))).swap (Nat.le_refl _) (by simp) (fun b hb hnb=>?_) ?_,r5,done,hall,jI.sub,jI.nd,jg.wq,?_,fun la hla=>?_⟩
 ·rw [World.putObj_heap_other (by omega)]
  exact (d1.trans (d2.trans (d3.trans d4))).frm b hb hnb
 ·exact (d1.trans (d2.trans (d3.trans d4))).env
 ·refine ⟨fun x o _ hx=>jg.eG.1 x o ?_ (eI.1 _ _ (Es2.1 _ _ hx)),Nat.le_trans (Nat.le_trans Es2.2 eI.2) jg.eG.2⟩
  simp only [List.mem_cons,List.not_mem_nil,or_false]
  rintro (rfl | rfl)
  ·rw [ag2] at hx;cases hx
  ·have:=Es2.none jn;rw [this] at hx;cases hx
 ·exact Es2.none (eI.none (jg.new la hla))
theorem Ym {P:Program} {T:TT} (hT:TT.Ok P T) {g:FuncId} {fn:Func} {tm tk tf tb n:TypeId} (hf:P.funcs[g]? = some fn) (hb:fn.body=some (HM tm tk tf tb)) (hn:fn.ntmps=14) (UH:fn.results=#[])
  {kt et:TypeId} (acT:T.agg tm=some false) (hu:T.cM tm=some (.map kt et)) (hk:UW T tk n)
  {K V:Type} [DecidableEq K] {kc:K→List AV} {vf:V→AV} (hkc:∀ k,(kc k).length=n∧(kc k).all AV.one=true) {s:AS} {lb m:Nat} {es:List (K×V×Nat)} {c:Nat} {ro:Bool} (hbx:At s lb [.map (some m)]) (hm:eJ (fun k=>.agg (kc k)) vf s m es c ro) :
  OM P (fun k=>.agg (kc k)) vf m es c ro (fun e=>kc e.1) g [.ptr (some (lb,0))] s :=
 fun Iv hI l J h0 hJ KL=>RE hI hT hf hb hn UH acT hu hk hkc hbx hm h0 hJ KL
end Go.Am
end

section
namespace Go.Am
theorem UY {P:Program} {w:World} {t:TypeId} {b:Nat} {mh:Array MapEntry} {clock:Nat} (h:w.heap[b]? = some (.map mh clock)):(Extern.MapsClone.clone #[.iface t (.map (some b))]).run P w=.ok (.iface t (.map (some w.heap.size))) { w with heap:=w.heap.push (.map mh clock) }:=by
 have e:Extern.MapsClone.clone #[.iface t (.map (some b))]=(getObj b >>= fun o=>match o with
  | .map entries clock=>(do pure (.iface t (.map (some (← newObj (.map entries clock))))):Sem Value)
  | _ => stuck "maps.clone: a map expected") := rfl
 rw [e]
 simp only [Sem.run_bind,getObj,Sem.run,h,Result.andThen_ok]
 rfl
theorem Ma {P : Program} {g : FuncId} {fn : Func} {t : TypeId} (hf : P.funcs[g]? = some fn) (hname : (fn.name == "runtime.NumGoroutine") = false) (hb : fn.body.isNone = true) (hn : Extern.findNext fn = none)
  (he:Extern.find fn=some Extern.MapsClone.clone) {s:AS} {m:Nat} {es:List (AV×AV×Nat)} {c:Nat} {ro:Bool} (hm:s.h m=some (.map es c ro)) :
  aa P g [.iface t (.map (some m))] s fun v s'=>∃ m',v=.iface t (.map (some m'))∧qY s s' m' (.map es c false):=by
 refine aa.extern hf hname hb hn he ?_
 intro B γ aZ w hargs hr
 have hw:=hr.QH
 obtain ⟨c1,r1,e1,h1,hargs⟩:=ak.cE.1 hargs
 obtain rfl:=ak.gQ.1 hargs
 simp only [ah] at h1
 obtain ⟨cv,rfl,i,hi,rfl⟩:=h1
 have hca:aZ=#[.iface t (.map (some i.b))]:=by apply Array.ext';rw [e1]
 subst hca
 obtain ⟨j,hj,hO,_⟩:=hr.obj m _ hm
 rw [hi] at hj;obtain rfl:=Option.some.inj hj
 obtain ⟨mh,hA,hE⟩:=hO
 have hle:bM.le γ (gR γ s.nl { b:=w.heap.size,d:=0,x:=0 }):=bM.uG hr.N0
 obtain ⟨hr',hd'⟩:=hr.alloc (o:=.map es c false) (i:={ b:=w.heap.size,d:=0,x:=0 }) (obj:=.map mh c) (w':={ w with heap:=w.heap.push (.map mh c) }) rfl rfl rfl ⟨mh,by simp,hE.mono hle⟩
 refine ⟨_,.iface t (.map (some s.nl)),_,_,_,UY hA,?_,hd',hr',s.nl,rfl,hw.new rfl⟩
 simp only [ah]
 exact ⟨_,rfl,_,b_ _ _ _,rfl⟩
theorem aa.ag3 {P:Program} {g:FuncId} {args:List AV} {s:AS} {R:AV→AS→Prop} (hc:fS P g=true) (h:pO (fun _ _=>True) P g args s R):aa P g args s R :=
 fun B γ aZ w h1 h2=>.inl ⟨mu hc _ w,h B γ aZ w h1 h2 trivial⟩
def K0 (tm ti tb cl:TypeId):Code :=
 (Go.Code.seq (Go.Code.region 0 #[{ dst := some 2, op := Go.Op.assign (Go.Operand.const (Go.Value.map none)), type := tm, pos := "maps.go:50", after := #[], guard := none }] false) (Go.Code.seq (Go.Code.seq (Go.Code.region 1 #[{ dst := some 3, op := Go.Op.move (Go.Operand.tmp 0), type := tm, pos := "maps.go:52", after := #[], guard := none }, { dst := some 4, op := Go.Op.binOp Go.BinOp.eql tm (Go.Operand.tmp 3) (Go.Operand.const (Go.Value.map none)) tm, type := tb, pos := "maps.go:52", after := #[{ on := 0, ground := Go.Ground.data }], guard := none }] false) (Go.Code.cond (Go.Operand.tmp 4) (Go.Code.seq (Go.Code.region 2 #[{ dst := some 2, op := Go.Op.assign (Go.Operand.const (Go.Value.map none)), type := tm, pos := "maps.go:53", after := #[], guard := none }] false) Go.Code.ret) Go.Code.skip)) (Go.Code.seq (Go.Code.region 3 #[{ dst := some 5, op := Go.Op.move (Go.Operand.tmp 0), type := tm, pos := "maps.go:55", after := #[], guard := none }, { dst := some 6, op := Go.Op.makeInterface tm (Go.Operand.tmp 5), type := ti, pos := "maps.go:55", after := #[{ on := 0, ground := Go.Ground.data }], guard := none }, { dst := some 7, op := Go.Op.call { callee := Go.Callee.value (Go.Operand.func cl), args := #[Go.Operand.tmp 6], argTypes := #[ti] }, type := ti, pos := "maps.go:55", after := #[{ on := 1, ground := Go.Ground.data }], guard := none }, { dst := some 8, op := Go.Op.typeAssert (Go.Operand.tmp 7) ti tm false, type := tm, pos := "maps.go:55", after := #[{ on := 2, ground := Go.Ground.data }], guard := none }, { dst := some 2, op := Go.Op.assign (Go.Operand.tmp 8), type := tm, pos := "maps.go:55", after := #[{ on := 3, ground := Go.Ground.data }, { on := 2, ground := Go.Ground.chain }, { on := 0, ground := Go.Ground.phase }, { on := 1, ground := Go.Ground.phase }, { on := 2, ground := Go.Ground.phase }, { on := 3, ground := Go.Ground.phase }], guard := none }] false) Go.Code.ret)))
theorem ON {P:Program} {T:TT} (hT:TT.Ok P T) {tm ti kt et:TypeId} (hu:T.cM tm=some (.map kt et)) (cv:Value) (w:World):(Instr.typeAssert (.iface tm cv) ti tm false).run P w=.ok cv w:=by
 simp only [Instr.typeAssert,Sem.run_bind,run_underlying hT hu,Result.andThen_ok,if_true]
 rfl
theorem xz {P:Program} {T:TT} (hT:TT.Ok P T) {g cl:FuncId} {fn fc:Func} {tm ti tb kt et:TypeId} (hf:P.funcs[g]? = some fn) (hc:fS P g=true) (hb:fn.body=some (K0 tm ti tb cl)) (hn:fn.ntmps=9) (UH:fn.results=#[.tmp 2])
  (hu : T.cM tm = some (.map kt et)) (hfc : P.funcs[cl]? = some fc) (hname : (fc.name == "runtime.NumGoroutine") = false) (hbc : fc.body.isNone = true) (hnc : Extern.findNext fc = none) (hec : Extern.find fc = some Extern.MapsClone.clone)
  {s:AS} {m:Nat} {es:List (AV×AV×Nat)} {c:Nat} {ro:Bool} (hm:s.h m=some (.map es c ro)) :
  aa P g [.map (some m)] s fun v s'=>∃ m',v=.map (some m')∧qY s s' m' (.map es c false):=by
 have KT:=Kept.true
 refine aa.ag3 hc (pO.body (n:=9) (rs:=[.tmp 2]) hT hf hb (by simp [hn]) (by rw [UH]) ?_)
 unfold K0
 refine cT.seq KT (cT.region KT hT (aX.cH (v:=.map none) (s':=s) rfl rfl rfl rfl rfl rfl ?_))
 show cT _ _ _ _ _ _ _ _ _
 refine cT.seq KT (cT.seq KT (cT.region KT hT (aX.cH (v:=.map (some m)) (s':=s) rfl rfl rfl rfl rfl rfl (aX.cH (v:=.bool false) (s':=s) rfl rfl rfl rfl rfl ?_ ?_))))
 ·show (if Q5 T tm (Go.Operand.tmp 3) (Go.Operand.const (Go.Value.map none)) (.map (some m)) (.map none)=true then (lf T .eql tm (.map (some m)) (.map none)).map (·,s) else none)=_
  have h1:Q5 T tm (Go.Operand.tmp 3) (Go.Operand.const (Go.Value.map none)) (.map (some m)) (.map none)=true:=rfl
  rw [if_pos h1]
  simp [lf,iK,hu]
 show cT _ _ _ _ _ _ _ _ _
 refine cT.cond (t:=false) rfl (cT.skip ?_)
 show cT _ _ _ _ _ _ _ _ _
 refine cT.seq KT (cT.region KT hT ?_)
 refine aX.cH (v:=.map (some m)) (s':=s) rfl rfl rfl rfl rfl rfl ?_
 refine aX.cH (v:=.iface tm (.map (some m))) (s':=s) rfl rfl rfl rfl rfl ?_ ?_
 ·simp only [Am.cH,hu]
  rfl
 refine aX.call (g:=cl) (args:=[.iface tm (.map (some m))]) rfl rfl rfl rfl rfl ((Ma hfc hname hbc hnc hec hm).mono ?_)
 rintro v s' ⟨m',rfl,F⟩
 refine aX.raw (v:=.map (some m')) rfl rfl rfl rfl (fun γ ρ w hρ=>?_) ?_
 ·have h7:=hρ (.tmp 7)
  have e7:pH (bN (bN (bN (bN (bN (bN (r8 [.map (some m)]) (some 2) (.map none)) (some 3) (.map (some m))) (some 4) (.bool false)) (some 5) (.map (some m))) (some 6) (.iface tm (.map (some m)))) (some 7) (.iface tm (.map (some m')))) (.tmp 7)=.iface tm (.map (some m')):=rfl
  replace h7:ah γ (.iface tm (.map (some m'))) (ρ (.tmp 7)):=h7
  simp only [ah] at h7
  obtain ⟨cv,AY,i,hi,rfl⟩:=h7
  refine ⟨.map (some i.b),?_,by simp only [ah];exact ⟨i,hi,rfl⟩⟩
  have:=ON hT (ti:=ti) hu (.map (some i.b)) w
  simp only [execOp,AY,Sem.run_bind,this,Result.andThen_ok]
  rfl
 refine aX.cH (v:=.map (some m')) (s':=s') rfl rfl rfl rfl rfl rfl ?_
 show cT _ _ _ _ _ _ _ _ _
 exact cT.ret ⟨_,rfl,m',rfl,F⟩
end Go.Am
end

section
namespace Go.Am
section
variable {K V:Type} [DecidableEq K] {kf:K→AV} {vf:V→AV}
theorem HN:∀ (es:List (K×V×Nat)) (j:Nat) (e:K×V×Nat),es.Pairwise (fun a b=>a.1≠b.1)→es[j]? = some e→∀ k',dU (es.eraseIdx j) k'=if k'=e.1 then none else dU es k'
 | [],j,e,_,h,_=>by simp at h
 | x::es,0,e,hp,h,k'=>by
  simp only [List.getElem?_cons_zero,Option.some.injEq] at h
  subst h
  obtain ⟨p1,p2⟩:=List.pairwise_cons.1 hp
  rw [List.eraseIdx_cons_zero,dF]
  by_cases hk:k'=x.1
  ·rw [if_pos hk,C_]
   intro e he h
   exact p1 e he (by rw [h,hk])
  ·rw [if_neg hk,if_neg (fun h=>hk h.symm)]
 | x::es,j+1,e,hp,h,k'=>by
  obtain ⟨p1,p2⟩:=List.pairwise_cons.1 hp
  have h':es[j]? = some e:=by simpa using h
  rw [List.eraseIdx_cons_succ,dF,dF,HN es j e p2 h' k']
  by_cases hx:x.1=k'
  ·rw [if_pos hx,if_pos hx,if_neg]
   intro hk
   exact p1 e (List.mem_of_getElem? h') (by rw [hx,hk])
  ·rw [if_neg hx,if_neg hx]
theorem HO:∀ (es:List (K×V×Nat)) (j:Nat),lW kf vf (es.eraseIdx j)=(lW kf vf es).eraseIdx j
 | [],j=>by simp [lW]
 | x::es,0=>rfl
 | x::es,j+1=>by
  have:=HO es j
  simp only [List.eraseIdx_cons_succ,lW,List.map_cons] at this ⊢
  rw [this]
variable {T:TT} {t kt et:TypeId} {z:AV} (ht:Yh (K:=K) T t kt et kf z)
include ht
theorem eJ.del {s:AS} (hw:aM s) {m:Nat} {es:List (K×V×Nat)} {c:Nat} (h:eJ kf vf s m es c false) (k:K) {v:V} (hk:dU es k=some v) {Q:AS→Prop}
  (hq:∀ s' es',eJ kf vf s' m es' c false→(∀ k',dU es' k'=if k'=k then none else dU es k')→es'.length+1=es.length→aM s'→bD [m] s s'→Q s'):bu (qp T t (.map (some m)) (kf k) s) Q:=by
 obtain ⟨_,h2⟩:=Bq (vf:=vf) ht k es 0
 obtain ⟨j,n,hj,_,hfind⟩:=h2 v hk
 have P:Put s (s.put m (.map ((lW kf vf es).eraseIdx j) c false)) m (.map ((lW kf vf es).eraseIdx j) c false):=hw.put h.obj rfl
 refine ⟨_,?_,hq _ (es.eraseIdx j) ⟨by rw [P.at,HO],h.st.sublist (List.eraseIdx_sublist es j),fun e he=>h.lt e (List.mem_of_mem_eraseIdx he),h.nd.sublist (List.eraseIdx_sublist es j)⟩ (fun k'=>?_) ?_ P.wf P.mut⟩
 ·simp only [qp,ht.u,ht.ok,if_true,h.obj,hfind,Option.map_some,Nat.zero_add]
 ·rw [HN es j _ h.nd hj k']
 ·have hlt:j<es.length:=by
   rcases Nat.lt_or_ge j es.length with h | h
   ·exact h
   ·rw [List.getElem?_eq_none h] at hj;cases hj
  rw [List.length_eraseIdx,if_pos hlt];omega
end
section
variable {K V:Type} [DecidableEq K]
theorem oQ {es:List (K×V×Nat)} (k:K):k∈es.map (fun e=>e.1)↔(dU es k).isSome=true:=by
 cases hq:dU es k with
 | none =>
  have:=C_.1 hq
  simp only [List.mem_map,Option.isSome_none,Bool.false_eq_true,iff_false]
  rintro ⟨e,he,h⟩
  exact this e he h
 | some v =>
  obtain ⟨j,n,hj⟩:=C9 hq
  simp only [Option.isSome_some,iff_true]
  exact List.mem_map.2 ⟨_,List.mem_of_getElem? hj,rfl⟩
theorem Mb {es es':List (K×V×Nat)} (h:es.Pairwise fun a b=>a.1≠b.1) (h':es'.Pairwise fun a b=>a.1≠b.1) {k:K} {v:V} (hg:∀ k',dU es' k'=if k'=k then some v else dU es k') :
  es'.length=if (dU es k).isSome then es.length else es.length+1:=by
 have n1:(es.map fun e=>e.1).Nodup:=List.pairwise_map.2 h
 have n2:(es'.map fun e=>e.1).Nodup:=List.pairwise_map.2 h'
 have hin:∀ k',k'∈es'.map (fun e=>e.1)↔k'=k∨k'∈es.map (fun e=>e.1):=by
  intro k'
  rw [oQ,oQ,hg]
  by_cases e:k'=k
  ·simp [e]
  ·simp [e]
 cases hq:(dU es k).isSome with
 | true =>
  have hk:k∈es.map (fun e=>e.1):=(oQ k).2 hq
  have hp:(es'.map fun e=>e.1).Perm (es.map fun e=>e.1):=(List.perm_ext_iff_of_nodup n2 n1).2 fun k'=>by
   rw [hin]
   constructor
   ·rintro (rfl | h)
    ·exact hk
    ·exact h
   ·exact .inr
  have:=hp.length_eq
  simpa using this
 | false =>
  have hk:k ∉ es.map (fun e=>e.1):=fun h=>by rw [oQ,hq] at h;cases h
  have hp:(es'.map fun e=>e.1).Perm (k::es.map fun e=>e.1):=(List.perm_ext_iff_of_nodup n2 (List.nodup_cons.2 ⟨hk,n1⟩)).2 fun k'=>by
   rw [hin,List.mem_cons]
  have:=hp.length_eq
  simpa using this
end
end Go.Am
end

section
namespace Go.aC
end Go.aC
end

section
namespace Go.au.SK
end Go.au.SK
end

section
namespace Go.au.SK
end Go.au.SK
end

section
namespace Go.Am
section
variable {T:TT} {t el:TypeId} {sz:Nat} (hu:T.cM t=some (.slice el)) (hs:T.eN el=some sz)
include hu hs
theorem bZ.upto {s:AS} {v:AV} {n:Nat} {cs:List AV} (h:bZ s v sz cs n) (hv:v≠.emp) {i:Nat} (hi:i≤n) (k:IntKind):∃ v',aY T t v none (some (.int k (i:Nat))) none=some v'∧bZ s v' sz (cs.take (i*sz)) i:=by
 rcases h with ⟨rfl,_⟩ | ⟨a,c,e,rfl,⟨hl,hnc⟩,h3⟩
 ·exact absurd rfl hv
 ·have hab:cO n c none (some (.int k (i:Nat))) none=some (0,i,c):=by
   have:(0:Int)≤(i:Int)∧(i:Int)≤((c:Nat):Int):=by omega
   simp [cO,tN,qg,gy,this,hnc,show i≤c by omega]
  have hlen:(cs.take (i*sz)).length=i*sz:=by
   rw [List.length_take,hl,Nat.min_eq_left (Nat.mul_le_mul_right _ hi)]
  have h0:i=0→cs.take (i*sz)=[]:=fun h=>List.length_eq_zero_iff.1 (by rw [hlen,h,Nat.zero_mul])
  simp only [aY,hu,hs,Option.bind_some,hab]
  rcases a with _ | ⟨b,o⟩
  ·refine ⟨_,rfl,.inr ⟨_,_,_,rfl,⟨by simpa using hlen,by omega⟩,.inl ?_⟩⟩
   rcases h3 with h3 | ⟨la,o,C,h,_⟩
   ·omega
   ·cases h
  ·have key:∀ o' c' e',i≤c'→(i=0∨o'=o)→bZ s (.slc (some (b,o')) i c' e') sz (cs.take (i*sz)) i:=by
    intro o' c' e' rN ho
    refine .inr ⟨_,_,_,rfl,⟨hlen,rN⟩,?_⟩
    by_cases hz:i=0
    ·exact .inl hz
    ·rcases ho with ho | rfl
     ·exact absurd ho hz
     ·rcases h3 with h3 | ⟨la,o2,C,h,hC,hcs⟩
      ·omega
      ·simp only [Option.some.injEq,Prod.mk.injEq] at h
       obtain ⟨rfl,rfl⟩:=h
       refine .inr ⟨b,_,C,rfl,hC,?_⟩
       rw [← hcs,List.take_take,Nat.min_eq_left (Nat.mul_le_mul_right _ hi)]
   by_cases hm:c=0
   ·subst hm
    obtain rfl:i=0:=by omega
    cases e
    ·exact ⟨.emp,by simp,.inl ⟨rfl,rfl,by simp⟩⟩
    ·exact ⟨.slc (some (b,o)) 0 0 true,by simp,key _ _ _ (by omega) (.inl rfl)⟩
   ·cases e
    ·exact ⟨.slc (some (b,o)) i c false,by simp [hm],key _ _ _ (by omega) (.inr rfl)⟩
    ·exact ⟨.slc (some (b,o)) i c true,by simp [hm],key _ _ _ (by omega) (.inr rfl)⟩
end
section
variable {T:TT} {t el:TypeId} {sz:Nat} (hu:T.cM t=some (.slice el)) (hs:T.eN el=some sz)
include hu hs
theorem bZ.rest {s:AS} {v:AV} {n:Nat} {cs:List AV} (h:bZ s v sz cs n) {i:Nat} (hi:i≤n) (k:IntKind):∃ v',aY T t v (some (.int k (i:Nat))) none none=some v'∧bZ s v' sz (cs.drop (i*sz)) (n - i):=by
 by_cases hv:v=.emp
 ·subst hv
  rcases h with ⟨_,rfl,rfl⟩ | ⟨a,c,e,h,_⟩
  ·obtain rfl:i=0:=by omega
   refine ⟨.emp,?_,.inl ⟨rfl,rfl,by simp⟩⟩
   simp [aY,hu,hs,cO,tN,qg,gy]
  ·cases h
 ·exact bZ.from hu hs h hv hi k
theorem bZ.head {s:AS} {v:AV} {n:Nat} {cs:List AV} (h:bZ s v sz cs n) {i:Nat} (hi:i≤n) (k:IntKind):∃ v',aY T t v none (some (.int k (i:Nat))) (some (.int k (i:Nat)))=some v'∧bZ s v' sz (cs.take (i*sz)) i:=by
 have hlen:i≤n→cs.length=n*sz→(cs.take (i*sz)).length=i*sz:=fun hi hl=>by
  rw [List.length_take,hl,Nat.min_eq_left (Nat.mul_le_mul_right _ hi)]
 rcases h with ⟨rfl,rfl,rfl⟩ | ⟨a,c,e,rfl,⟨hl,hnc⟩,h3⟩
 ·obtain rfl:i=0:=by omega
  refine ⟨.emp,?_,.inl ⟨rfl,rfl,by simp⟩⟩
  simp [aY,hu,hs,cO,tN,qg,gy]
 ·have h1:(0:Int)≤(i:Int)∧(i:Int)≤((c:Nat):Int):=by omega
  have h2:(0:Int)≤(i:Int)∧(i:Int)≤((i:Nat):Int):=by omega
  have hab:cO n c none (some (.int k (i:Nat))) (some (.int k (i:Nat)))=some (0,i,i):=by
   simp only [cO,tN,qg,gy,Option.isNone_some,Option.isSome_some,Bool.false_eq_true,false_and,if_false,if_pos h1,Option.bind_some,Int.toNat_natCast,if_pos h2,Option.map_some]
  simp only [aY,hu,hs,Option.bind_some,hab,Option.isSome_some,Bool.or_true,if_true,Nat.sub_zero]
  rcases a with _ | ⟨b,o⟩
  ·refine ⟨_,rfl,.inr ⟨_,_,_,rfl,⟨hlen hi hl,Nat.le_refl _⟩,.inl ?_⟩⟩
   rcases h3 with h3 | ⟨la,o,C,h,_⟩
   ·omega
   ·cases h
  ·refine ⟨_,rfl,.inr ⟨_,_,_,rfl,⟨hlen hi hl,Nat.le_refl _⟩,?_⟩⟩
   by_cases hz:i=0
   ·exact .inl hz
   ·rcases h3 with h3 | ⟨la,o2,C,h,hC,hcs⟩
    ·omega
    ·simp only [Option.some.injEq,Prod.mk.injEq] at h
     obtain ⟨rfl,rfl⟩:=h
     refine .inr ⟨b,_,C,by rw [if_neg hz,Nat.zero_mul,Nat.add_zero],hC,?_⟩
     rw [← hcs,List.take_take,Nat.min_eq_left (Nat.mul_le_mul_right _ hi)]
end
theorem Sl.rest {α:Type} {f:α→List AV} {sz:Nat} {s:AS} {v:AV} {l:List α} {T:TT} {t el:TypeId} (hf:∀ x,(f x).length=sz) (hu:T.cM t=some (.slice el)) (hs:T.eN el=some sz) (h:Sl f sz s v l) {i:Nat} (hi:i≤l.length) (k:IntKind):∃ v',aY T t v (some (.int k (i:Nat))) none none=some v'∧Sl f sz s v' (l.drop i):=by
 obtain ⟨v',h1,h2⟩:=bZ.rest hu hs h hi k
 exact ⟨v',h1,by rw [qN hf] at h2;simpa [Sl] using h2⟩
theorem Sl.head {α:Type} {f:α→List AV} {sz:Nat} {s:AS} {v:AV} {l:List α} {T:TT} {t el:TypeId} (hf:∀ x,(f x).length=sz) (hu:T.cM t=some (.slice el)) (hs:T.eN el=some sz) (h:Sl f sz s v l) {i:Nat} (hi:i≤l.length) (k:IntKind):∃ v',aY T t v none (some (.int k (i:Nat))) (some (.int k (i:Nat)))=some v'∧Sl f sz s v' (l.take i):=by
 obtain ⟨v',h1,h2⟩:=bZ.head hu hs h hi k
 refine ⟨v',h1,?_⟩
 rw [ua hf] at h2
 have:(l.take i).length=i:=by rw [List.length_take];omega
 unfold Sl
 rw [this];exact h2
theorem bZ.one {s:AS} {v:AV} {n sz:Nat} {cs:List AV} (h:bZ s v sz cs n):v.one=true:=by
 rcases h with ⟨rfl,_⟩ | ⟨a,c,e,rfl,_⟩ <;> rfl
theorem Sl.upto {α:Type} {f:α→List AV} {sz:Nat} {s:AS} {v:AV} {l:List α} {T:TT} {t el:TypeId} (hf:∀ x,(f x).length=sz) (hu:T.cM t=some (.slice el)) (hs:T.eN el=some sz) (h:Sl f sz s v l) (hv:v≠.emp) {i:Nat} (hi:i≤l.length) (k:IntKind):∃ v',aY T t v none (some (.int k (i:Nat))) none=some v'∧Sl f sz s v' (l.take i):=by
 obtain ⟨v',h1,h2⟩:=bZ.upto hu hs h hv hi k
 refine ⟨v',h1,?_⟩
 rw [ua hf] at h2
 have:(l.take i).length=i:=by rw [List.length_take];omega
 unfold Sl
 rw [this];exact h2
theorem bD.new {L L2:List Nat} {s s1 s2:AS} (h:bD L s s1) (m:bD L2 s1 s2) (hn:∀ x∈L2,x∈L∨s.h x=none):bD L s s2:=by
 refine ⟨fun x o hx ho=>m.1 x o (fun hm=>?_) (h.1 x o hx ho),Nat.le_trans h.2 m.2⟩
 rcases hn x hm with h | h
 ·exact hx h
 ·rw [h] at ho;cases ho
end Go.Am
end

section
namespace Go.Am
open Go.ChangeShapes Go.WideShapes Go.Deep
section
variable {H:Type} {enc:TypeId×Value→H} {P:Program} {w:World}
/-! ### data that hold slices -/
end
end Go.Am
end

section
namespace Go.Am
open Go.ChangeShapes Go.WideShapes Go.Deep
open Go.ChangeShapes Go.WideShapes Go.ChangeAt Go.RowKit
def ab3 {H:Type} (P:Program) (t:TypeId) (d:DataW H):Prop:=∀ n∈d.weights P t,n≤reachBytes
section
variable {H:Type} {enc:TypeId×Value→H} {P:Program} {w:World}
theorem HP:∀ {ts:List TypeId} {ds:List (DataW H)},(∀ n∈DataW.weightsEach P ts ds,n≤reachBytes)→∀ (i:Nat) t d,ts[i]? = some t→ds[i]? = some d→ab3 P t d
 | [],_,_,i,t,d,h1,_=>by simp at h1
 | t0::ts,[],_,i,t,d,_,h2=>by simp at h2
 | t0::ts,d0::ds,h,i,t,d,h1,h2=>by
  simp only [DataW.weightsEach,List.mem_append] at h
  cases i with
  | zero =>
   simp only [List.getElem?_cons_zero,Option.some.injEq] at h1 h2
   subst h1;subst h2
   exact fun n hn=>h n (.inl hn)
  | succ i =>
   simp only [List.getElem?_cons_succ] at h1 h2
   exact HP (fun n hn=>h n (.inr hn)) i t d h1 h2
end
theorem UZ {H:Type} {enc:TypeId×Value→H} {C:Checked} {os:Os} {f:FuncId} {fn:Func} {s:ChangeSpec} {fresh:Bool} {rt:TypeId} (own:ownKnob C.prog.godebug=none) (started:os.Started) (noInit:C.prog.inits.idxOf? f=none) (hfn:C.prog.funcs[f]? = some fn)
  (witness:∃ (w:World) (tape:Tape) (i:Input),w.os=os∧(w.forCall tape i).Shaped C.prog∧i.vars=[]∧Input.okWide C.prog (w.forCall tape i) .any w.heap.size f i ∧
   s.pre6 enc C.prog fn [] false (w.forCall tape i).memory i.args∧({}:Assume).holds C.prog (lone (Frame.enter C.prog f i.args .normal) [] (w.forCall tape i)))
  (hg:fS C.prog f=true) (hv:s.vars=[]) (hrt:fn.resultTypes=#[rt]) (Tw:C.prog.underlying rt=some .bool) (hl:laidOutB C.prog=true) (hr:(fn.params.toList.all fun t=>C.prog.readableRec t&&decide (t<C.prog.types.size))=true)
  (hsp:∀ ds:List (DataW H),ds.length=fn.params.toList.length→s.fn H ds={ results:=[.lit (.bool true)],args:=ds })
  (hrun:∀ (W:World) (base:Nat) (args:List Value),args.length=fn.params.toList.length→(∀ (j:Nat) t v,fn.params.toList[j]? = some t→args[j]? = some v→Value.okWide C.prog W .any base t v∧∃ (d:DataW H) (p:List MemPlace),DataW.Trod enc C.prog W 0 (fun _=>true) true t v d p∧ab3 C.prog t d) →
   aa C.prog f (args.map (fM W.heap.size (MW W))) (sW W) fun v s'=>v=.bool true) :
  ReturnsInHanded {} C os f .any (s.pre6 enc C.prog fn [] false) (s.post enc C.prog fn false fresh false false):=by
 refine returnsInHanded_of_calls own started noInit witness ?_
 intro w tape i _ _ _ hok hpre ag4
 obtain ⟨_,_,_,fn',ag5,_,_,_,_,hval⟩:=hok
 have e:fn'=fn:=Option.some.inj (ag5.symm.trans hfn)
 subst e
 obtain ⟨⟨ds,gs,before,hw,hc⟩,hz⟩:=hpre
 have hwt:=hz.weights hw
 have hW:=DataW.Whole.of_heap (w':=w.forCall tape i) (by rfl) hw
 have hW':=hW
 obtain ⟨p,q,hA,hV,rfl,hfz,Bj⟩:=hW
 have hV2:=hV
 rw [hv] at hV2
 obtain ⟨rfl,rfl⟩:=trodVars_none hV2
 obtain ⟨GJ,OC⟩:=ED hA
 simp only [List.all_eq_true,decide_eq_true_eq] at hwt
 have Yj:=hrun (w.forCall tape i) w.heap.size i.args.toList GJ fun j t v hj hvj=>by
  obtain ⟨v',d,p',h1,hd,h2⟩:=HK hA j t hj
  rw [hvj] at h1;obtain rfl:=Option.some.inj h1
  refine ⟨hval j t v (by simpa using hj) (by simpa using hvj),d,p',h2,HP hwt j t d ?_ ?_⟩
  ·rw [List.getElem?_append_left,hj]
   rcases Nat.lt_or_ge j fn'.params.toList.length with h | h
   ·exact h
   ·rw [List.getElem?_eq_none h] at hj;cases hj
  ·rw [List.append_nil];exact hd
 refine (Ju hg Yj).mono fun e W' ⟨he,hb⟩=>?_
 subst he
 refine ChangeSpec.post_blind (XX (pa:=p) (rt:=rt) hW' hv hb hrt Tw ?_ ?_)
 ·rw [List.append_nil];exact hsp ds OC
 ·exact zx hl hb _ _ _ _ hr hA fun x hx=>hW'.lt x (by simp [hx])
end Go.Am
end

section
namespace Go.Am
theorem Mc {P : Program} {g : FuncId} {fn : Func} (hf : P.funcs[g]? = some fn) (hname : (fn.name == "runtime.NumGoroutine") = false) (hb : fn.body.isNone = true) (hn : Extern.findNext fn = none)
  (he:Extern.find fn=some add64Entry) {s:AS} {x y c:Int} (hx:0≤x) (hy:0≤y) (hc0:0≤c) (hc:c≤1) :
  aa P g [.int .u64 x,.int .u64 y,.int .u64 c] s fun v s'=>v=.aQ [.int .u64 ((x+y+c) % 18446744073709551616),.int .u64 ((x+y+c) / 18446744073709551616)]∧s'=s:=by
 refine aa.extern hf hname hb hn he ?_
 intro B γ aZ w hargs hr
 obtain ⟨c1,r1,e1,h1,hargs⟩:=ak.cE.1 hargs
 obtain ⟨c2,r2,rfl,h2,hargs⟩:=ak.cE.1 hargs
 obtain ⟨c3,r3,rfl,h3,hargs⟩:=ak.cE.1 hargs
 obtain rfl:=ak.gQ.1 hargs
 simp only [ah] at h1 h2 h3
 subst h1;subst h2;subst h3
 have hca:aZ=#[.int .u64 x,.int .u64 y,.int .u64 c]:=by apply Array.ext';rw [e1]
 subst hca
 refine ⟨γ,_,_,s,w,run_add64 x y c hx hy hc0 hc w,?_,fJ.refl,hr,rfl,rfl⟩
 simp [ah,ak]
end Go.Am
end

section
namespace Go.bW
open Go.Am
def E3 (k:IntKind) (x y:Int):Int:=k.wrap (BitVec.ofInt k.bits x &&& BitVec.ofInt k.bits y).toNat
def bOr (k:IntKind) (x y:Int):Int:=k.wrap (BitVec.ofInt k.bits x ||| BitVec.ofInt k.bits y).toNat
def xA (k:IntKind) (x y:Int):Int:=k.wrap (BitVec.ofInt k.bits x ^^^ BitVec.ofInt k.bits y).toNat
def ag6 (x:Int):Int:=xA .u32 (IntKind.max .u32) x
def shl (k:IntKind) (x:Int) (n:Int):Int:=IntKind.wrap k (x*2 ^ min (Int.toNat n) (IntKind.bits k))
def shr (k:IntKind) (x:Int) (n:Int):Int:=Int.fdiv x (2 ^ min (Int.toNat n) (IntKind.bits k))
def acU (x k:Int):Int:=bOr .u32 (shl .u32 x (E3 .u64 (IntKind.wrap .u64 k) 31)) (shr .u32 x (IntKind.wrap .u64 (32 - E3 .u64 (IntKind.wrap .u64 k) 31)))
def E_ (x:Int) (l:List Int):Int:=l.foldl (fun y n=>xA .u32 y (acU x (IntKind.wrap .i64 (0 - n)))) 0
def mulM (a b:Int):Int:=IntKind.wrap .u64 ((IntKind.wrap .u64 ((shr .u64 a 32)*(E3 .u64 b 4294967295)))+(shr .u64 (IntKind.wrap .u64 (E3 .u64 a 4294967295*E3 .u64 b 4294967295)) 32))
def oR (a b : Int) : Int × Int :=
  (IntKind.wrap .u64 ((IntKind.wrap .u64 ((IntKind.wrap .u64 ((shr .u64 a 32) * (shr .u64 b 32))) + (shr .u64 (mulM a b) 32))) + (shr .u64 (IntKind.wrap .u64 (E3 .u64 (mulM a b) 4294967295 + (IntKind.wrap .u64 (E3 .u64 a 4294967295 * (shr .u64 b 32))))) 32)),
   IntKind.wrap .u64 (a * b))
def Yn (x:Int):Int:=(oR (oR x x).1 x).2+(oR (oR x x).2 x).1+0
def zy (x : Int) : List Int :=
  [bOr .u64 (shl .u64 (IntKind.wrap .u64 ((oR (oR x x).1 x).1 + Yn x / 18446744073709551616)) 32) (shr .u64 (Yn x % 18446744073709551616) 32),
   bOr .u64 (shl .u64 (Yn x % 18446744073709551616) 32) (shr .u64 (oR (oR x x).2 x).2 32)]
def TN (x:Int):Bool:=shl .u64 (oR (oR x x).2 x).2 32 != 0
def q7 (x y:Int) (lost:Bool) (p:Int):Bool:=decide (x>p)||(x==p&&(decide (y>0)||lost))
def HQ (P:Int→Bool) (x:Int) (i:Nat):Int :=
 if P (bOr .u64 x (shl .u64 1 (IntKind.wrap .i64 (37 - (i:Int))))) then x else bOr .u64 x (shl .u64 1 (IntKind.wrap .i64 (37 - (i:Int))))
def Bs (P:Int→Bool):Nat→Int
 | 0=>0
 | i+1=>HQ P (Bs P i) i
def Yo (P:Int→Bool):Int:=IntKind.wrap .u32 (Bs P 38)
def RF (p:Int):Int:=Yo fun x=>q7 ((zy x).getD 0 0) ((zy x).getD 1 0) (TN x) p
def Yp (p:Int):Int:=Yo fun x=>q7 (oR x x).1 (oR x x).2 false p
def eK:Nat→List Int
 | 0=>[]
 | k+1=>if (eK k).any (fun p=>Int.tmod ((k:Int)+2) p==0) then eK k else eK k++[(k:Int)+2]
theorem Md (k:Nat):(eK k).length≤(eK (k+1)).length:=by
 rw [eK];split <;> simp
theorem zV {k n : Nat} (h : k ≤ n) : (eK k).length ≤ (eK n).length := by
  induction n with
  | zero => obtain rfl : k = 0 := by omega
            exact Nat.le_refl _
  | succ n ih =>
    rcases Nat.lt_or_ge n k with hk | hk
    · obtain rfl : k = n + 1 := by omega
      exact Nat.le_refl _
    · exact Nat.le_trans (ih hk) (Md n)
theorem xB:∀ k,∀ p∈eK k,2≤p
 | 0,p,h=>by simp [eK] at h
 | k+1,p,h=>by
  rw [eK] at h
  split at h
  ·exact xB k p h
  ·rcases List.mem_append.1 h with h | h
   ·exact xB k p h
   ·obtain rfl:=List.mem_singleton.1 h;omega
theorem U0:(eK 309).length=63:=by decide +kernel
theorem Da:(eK 310).length=64:=by decide +kernel
def yJ:List Int:=eK 310
def GK (st:List Int) (i:Nat) (p:Int):List Int:=if i<8 then (st.set (8+i) (RF p)).set i (Yp p) else st.set (8+i) (RF p)
def u0:Nat→List Int
 | 0=>List.replicate 72 0
 | i+1=>GK (u0 i) i (yJ.getD i 0)
def sO:List Int:=u0 64
theorem q8:∀ i,(u0 i).length=72
 | 0=>by simp [u0]
 | i+1=>by rw [u0,GK];split <;> simp [q8 i]
/-! ### pressing -/
def RG (pE:List Int) (i k:Nat) (w:List Int):List Int:=w.set i (bOr .u32 (shl .u32 (w.getD i 0) 8) (IntKind.wrap .u32 (pE.getD (4*i+k) 0)))
def inN (pE:List Int) (i:Nat) (w:List Int):Nat→List Int
 | 0=>w
 | k+1=>RG pE i k (inN pE i w k)
def w1N (pE:List Int):Nat→List Int
 | 0=>List.replicate 64 0
 | i+1=>inN pE i (w1N pE i) 4
def RH (j:Nat) (w:List Int):List Int :=
 w.set j (IntKind.wrap .u32 ((IntKind.wrap .u32 ((IntKind.wrap .u32 (w.getD (j - 16) 0+xA .u32 (E_ (w.getD (j - 15) 0) [7,18]) (shr .u32 (w.getD (j - 15) 0) 3)))+w.getD (j - 7) 0))+xA .u32 (E_ (w.getD (j - 2) 0) [17,19]) (shr .u32 (w.getD (j - 2) 0) 10)))
def OO (pE:List Int):Nat→List Int
 | 0=>w1N pE 16
 | i+1=>RH (16+i) (OO pE i)
structure W8 where
 a:Int
 b:Int
 c:Int
 d:Int
 e:Int
 f:Int
 g:Int
 z:Int
def W8.t (v:W8) (k w:Int):Int:=IntKind.wrap .u32 ((IntKind.wrap .u32 ((IntKind.wrap .u32 ((IntKind.wrap .u32 (v.z+E_ v.e [6,11,25]))+xA .u32 (E3 .u32 v.e v.f) (E3 .u32 (ag6 v.e) v.g)))+k))+w)
def W8.u (v:W8):Int:=IntKind.wrap .u32 (E_ v.a [2,13,22]+xA .u32 (xA .u32 (E3 .u32 v.a v.b) (E3 .u32 v.a v.c)) (E3 .u32 v.b v.c))
def W8.step (v:W8) (k w:Int):W8:=⟨IntKind.wrap .u32 (v.t k w+v.u),v.a,v.b,v.c,IntKind.wrap .u32 (v.d+v.t k w),v.e,v.f,v.g⟩
def W8.of (st:List Int):W8:=⟨st.getD 0 0,st.getD 1 0,st.getD 2 0,st.getD 3 0,st.getD 4 0,st.getD 5 0,st.getD 6 0,st.getD 7 0⟩
def W8.list (v:W8):List Int:=[v.a,v.b,v.c,v.d,v.e,v.f,v.g,v.z]
def xC (st w:List Int):Nat→W8
 | 0=>W8.of st
 | i+1=>(xC st w i).step (st.getD (8+i) 0) (w.getD i 0)
def OP (l:List Int) (st:List Int):Nat→List Int
 | 0=>st
 | i+1=>(OP l st i).set i (IntKind.wrap .u32 ((OP l st i).getD i 0+l.getD i 0))
def RI (st pE:List Int):List Int:=OP (xC st (OO pE 48) 64).list st 8
theorem GL (pE:List Int) (i:Nat) (w:List Int):∀ k,(inN pE i w k).length=w.length
 | 0=>rfl
 | k+1=>by rw [inN,RG,List.length_set,GL pE i w k]
theorem GM (pE:List Int):∀ i,(w1N pE i).length=64
 | 0=>by simp [w1N]
 | i+1=>by rw [w1N,GL,GM pE i]
theorem GN (pE:List Int):∀ i,(OO pE i).length=64
 | 0=>GM pE 16
 | i+1=>by rw [OO,RH,List.length_set,GN pE i]
theorem Bt (l st:List Int):∀ i,(OP l st i).length=st.length
 | 0=>rfl
 | i+1=>by rw [OP,List.length_set,Bt l st i]
theorem RJ (st pE:List Int):(RI st pE).length=st.length:=Bt _ _ _
def xD (st b:List Int):Nat→List Int
 | 0=>st
 | i+1=>RI (xD st b i) ((b.drop (64*i)).take 64)
theorem zW (st b:List Int):∀ i,(xD st b i).length=st.length
 | 0=>rfl
 | i+1=>by rw [xD,RJ,zW st b i]
/-! ### a hash -/
def Me (n:Nat):Nat:=(120 - (n+1) % 64) % 64
def acV (n:Nat) (i:Nat):Int:=IntKind.wrap .u8 (shr .u64 (IntKind.wrap .u64 ((IntKind.wrap .u64 n)*8)) (IntKind.wrap .i64 (56 - (IntKind.wrap .i64 (8*(i:Int))))))
def sP (b:List Int):List Int:=b++[128]++List.replicate (Me b.length) 0++(List.range 8).map (acV b.length)
def aaM (st:List Int) (i:Nat):Int:=IntKind.wrap .u8 (shr .u32 (st.getD (i / 4) 0) (IntKind.wrap .i64 (24 - (IntKind.wrap .i64 (8*(Int.tmod (i:Int) 4))))))
def acW (st:List Int):List Int:=(List.range 32).map (aaM st)
def EE (st b:List Int):List Int:=acW (xD st (sP b) ((sP b).length / 64))
theorem nO (st b:List Int):(EE st b).length=32:=by simp [EE,acW]
theorem OQ (b:List Int):(sP b).length=b.length+9+Me b.length:=by simp [sP];omega
theorem Yq (b:List Int):(sP b).length % 64=0:=by rw [OQ,Me];omega
def xE (zX:List Int) (m:Int):List Int:=(zX++List.replicate (64 - zX.length) 0).map fun x=>xA .u8 x m
def Bu (zX b:List Int):List Int:=EE sO (xE zX 92++EE sO (xE zX 54++b))
theorem jO (zX b:List Int):(Bu zX b).length=32:=nO _ _
end Go.bW
end

section
namespace Go.Am
section
variable {T:TT} {t el:TypeId} {sz:Nat} (hu:T.cM t=some (.slice el)) (hs:T.eN el=some sz)
include hu hs
theorem bZ.mid {s:AS} {v:AV} {n:Nat} {cs:List AV} (h:bZ s v sz cs n) (hv:v≠.emp) {i j:Nat} (hij:i≤j) (hj:j≤n) (k k':IntKind):∃ v',aY T t v (some (.int k (i:Nat))) (some (.int k' (j:Nat))) none=some v'∧bZ s v' sz ((cs.drop (i*sz)).take ((j - i)*sz)) (j - i):=by
 rcases h with ⟨rfl,_⟩ | ⟨a,c,e,rfl,⟨hl,hnc⟩,h3⟩
 ·exact absurd rfl hv
 ·have hab:cO n c (some (.int k (i:Nat))) (some (.int k' (j:Nat))) none=some (i,j,c):=by
   have h1:(0:Int)≤(j:Int)∧(j:Int)≤(c:Int):=by omega
   have h2:(0:Int)≤(i:Int)∧(i:Int)≤(j:Int):=by omega
   simp only [cO,tN,qg,gy,Option.isNone_some,Option.isNone_none,Option.isSome_some,Option.isSome_none,Bool.false_eq_true,and_false,false_and,if_false,if_pos h1,if_pos h2,Option.bind_some,Int.toNat_natCast,Option.map_some,Nat.le_refl,and_self,if_true]
  have hmul:j*sz=i*sz+(j - i)*sz:=by rw [← Nat.add_mul];congr 1;omega
  have hjn:j*sz≤n*sz:=Nat.mul_le_mul_right _ hj
  have hlen:((cs.drop (i*sz)).take ((j - i)*sz)).length=(j - i)*sz:=by
   rw [List.length_take,List.length_drop,hl];omega
  simp only [aY,hu,hs,Option.bind_some,hab]
  rcases a with _ | ⟨b,o⟩
  ·refine ⟨_,rfl,.inr ⟨_,_,_,rfl,⟨hlen,by omega⟩,.inl ?_⟩⟩
   rcases h3 with h3 | ⟨la,o,C,h,_⟩
   ·omega
   ·cases h
  ·have key:∀ o' e',(j - i=0∨o'=o+i*sz)→bZ s (.slc (some (b,o')) (j - i) (c - i) e') sz ((cs.drop (i*sz)).take ((j - i)*sz)) (j - i):=by
    intro o' e' ho
    refine .inr ⟨_,_,_,rfl,⟨hlen,by omega⟩,?_⟩
    by_cases hz:j - i=0
    ·exact .inl hz
    ·rcases ho with ho | rfl
     ·exact absurd ho hz
     ·rcases h3 with h3 | ⟨la,o2,C,h,hC,hcs⟩
      ·omega
      ·simp only [Option.some.injEq,Prod.mk.injEq] at h
       obtain ⟨rfl,rfl⟩:=h
       refine .inr ⟨b,_,C,rfl,hC,?_⟩
       rw [← hcs,List.drop_take,List.drop_drop,List.take_take,Nat.min_eq_left (by omega)]
   by_cases hm:c=i
   ·have acX:j - i=0:=by omega
    cases e
    ·refine ⟨.emp,by simp [hm],.inl ⟨rfl,acX,?_⟩⟩
     exact List.length_eq_zero_iff.1 (by rw [hlen,acX,Nat.zero_mul])
    ·exact ⟨.slc (some (b,o)) (j - i) (c - i) true,by simp [hm],key _ _ (.inl acX)⟩
   ·cases e
    ·exact ⟨.slc (some (b,o+i*sz)) (j - i) (c - i) false,by simp [hm],key _ _ (.inr rfl)⟩
    ·exact ⟨.slc (some (b,o+i*sz)) (j - i) (c - i) true,by simp [hm],key _ _ (.inr rfl)⟩
end
theorem Sl.mid {α:Type} {f:α→List AV} {sz:Nat} {s:AS} {v:AV} {l:List α} {T:TT} {t el:TypeId} (hf:∀ x,(f x).length=sz) (hu:T.cM t=some (.slice el)) (hs:T.eN el=some sz) (h:Sl f sz s v l) (hv:v≠.emp) {i j:Nat} (hij:i≤j) (hj:j≤l.length) (k k':IntKind):∃ v',aY T t v (some (.int k (i:Nat))) (some (.int k' (j:Nat))) none=some v'∧Sl f sz s v' ((l.drop i).take (j - i)):=by
 obtain ⟨v',h1,h2⟩:=bZ.mid hu hs h hv hij hj k k'
 refine ⟨v',h1,?_⟩
 rw [qN hf,ua hf] at h2
 have:((l.drop i).take (j - i)).length=j - i:=by rw [List.length_take,List.length_drop];omega
 unfold Sl
 rw [this];exact h2
theorem At.U1 {k:IntKind} {s:AS} {l o:Nat} {w:List Int} (h:At s l (w.map (.int k))) {i:Nat} (hi:i<w.length) (ho:o=i):Am.av s l o=some (.int k (w.getD i 0)):=by
 rw [h.av,ho,List.getElem?_map,List.getElem?_eq_getElem hi,List.getD_eq_getElem?_getD,List.getElem?_eq_getElem hi];rfl
theorem bu.int {k:IntKind} {s:AS} {l o:Nat} {w:List Int} {x:Int} {K:AS→Prop} (hw:aM s) (h:Own s l (w.map (.int k))) {i:Nat} (hi:i<w.length) (ho:o=i) (hk:∀ s',Own s' l ((w.set i x).map (.int k))→aM s'→bD [l] s s'→K s'):bu (Am.cN s l o [.int k x]) K:=by
 subst ho
 refine bu.own hw h (by simp;omega) fun s' P=>hk s' ?_ P.wf P.mut
 have:=P.at
 rw [fk] at this
 rw [Own,this,List.map_set]
theorem nP {T:TT} {t el:TypeId} {n sz:Nat} (hu:T.cM t=some (.array n el)) (hs:T.eN el=some sz) (hn:0<n) {b o:Nat}:aY T t (.ptr (some (b,o))) none none none=some (.slc (some (b,o)) n n true):=by
 simp only [aY,hu,hs,Option.bind_some]
 have:cO n n none none none=some (0,n,n):=by simp [cO,tN,qg,gy]
 rw [this]
 simp [Nat.ne_of_gt hn]
theorem Sl.Yr {α:Type} {f:α→List AV} {sz:Nat} {s:AS} {v:AV} {l:List α} (h:Sl f sz s v l) (hl:l≠[]):v≠.emp:=by
 rintro rfl
 rcases h with ⟨_,h,_⟩ | ⟨a,c,e,h,_⟩
 ·exact hl (List.length_eq_zero_iff.1 h)
 ·cases h
theorem aaN {T:TT} {t el:TypeId} {sz qK:Nat} (ht:C5 T t el sz qK) {α:Type} {f:α→List AV} (hf:∀ x,(f x).length=sz) {s:AS} (hw:aM s) {l0:Nat} {x:α} (h0:At s l0 (f x)) {v:AV} {l:List α} (hl:Sl f sz s v l) (hb:l.length≤2 ^ 29) {K:AV→AS→Prop}
  (hK:∀ v' s',Sl f sz s' v' (x::l)→aM s'→Ext s s'→K v' s'):iG (aJ T t t (.slc (some (l0,0)) 1 1 true) v s) K:=by
 obtain ⟨hsrc,hlen⟩:=bZ.src ht hl
 have e:=jN ht (base:=some (l0,0)) (len:=1) (cap:=1) (ex:=true) ht.u hlen hsrc (by rw [dS hf]) (by omega)
 have h1:Sl f sz s (.slc (some (l0,0)) 1 1 true) [x]:=bZ.mk h0 (by simp [hf]) (by simp [List.take_of_length_le,hf])
 by_cases hz:l=[]
 ·subst hz
  rw [if_pos (by simp)] at e
  simp only [List.flatMap_nil,if_true,List.length_nil,Nat.add_zero] at e
  exact ⟨_,_,e,hK _ _ h1 hw (Ext.refl _)⟩
 ·have hpos:0<l.length:=List.length_pos_iff.2 hz
  rw [if_neg (by omega)] at e
  have TJ:=(bZ.src ht h1).1
  simp only [List.length_cons,List.length_nil,Nat.zero_add] at TJ
  rw [TJ] at e
  simp only [Option.bind_some,if_true] at e
  rw [show 1+l.length=(x::l).length by simp;omega] at e
  have Fr:=hw.new (o:=.cells ([x].flatMap f++l.flatMap f) sz false) rfl
  have hA:At (s.new (.cells ([x].flatMap f++l.flatMap f) sz false)) s.nl ((x::l).flatMap f):=⟨_,_,by rw [show (x::l).flatMap f=[x].flatMap f++l.flatMap f by simp];exact Fr.at⟩
  refine ⟨_,_,e,hK _ _ (bZ.mk hA (dS hf _) ?_) Fr.wf Fr.ext⟩
  rw [List.drop_zero,List.take_of_length_le (by rw [dS hf];exact Nat.le_refl _)]
end Go.Am
end
