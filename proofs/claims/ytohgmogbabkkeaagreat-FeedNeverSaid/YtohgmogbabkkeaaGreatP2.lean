/-
  A part of Pd proof: an abstract machine B7 Pd model, and qA of qB of this program B7 it.
-/
import Derived.Attr
import Derived.ProofKit
import Derived.Lib.Overlaps
import Derived.OpenShut
import Derived.Deep.Slices
import Derived.Test.YtohgmogbabkkeaaGreatP1
set_option linter.unusedVariables false
set_option linter.unusedSimpArgs false
set_option linter.unusedSectionVars false
section
namespace Go.Am
def Ext (s s':AS):Prop:=(∀ l o,s.h l=some o->s'.h l=some o)/\s.nl<=s'.nl
theorem Ext.refl (s:AS):Ext s s:=⟨fun _ _ h=>h,Nat.le_refl _⟩
theorem Ext.trans {a b c:AS} (h:Ext a b) (d:Ext b c):Ext a c:=⟨fun l o e=>d.1 l o (h.1 l o e),Nat.le_trans h.2 d.2⟩
def aG (s:AS):Prop:=1<=s.st/\∀ k,s.h (s.nl+k*s.st)=none
theorem Rel.Ns {B:Nat} {γ:bS} {s:AS} {w:World} (h:Rel B γ s w):aG s:=by
 refine ⟨h.RD,fun k=>?_⟩;cases b:s.h (s.nl+k*s.st) with
 | none=>rfl
 | some p =>
  obtain ⟨j,hj,_⟩:=h.obj _ p b;rw [h.fin k] at hj;cases hj
def mA:Op->Bool
 | .move _ | .assign _ | .pick .. | .nilCheck _ | .binOp .. | .unOp .. | .fieldAddr .. | .field .. | .indexAddr .. | .index .. | .slice .. | .extract .. | .load .. | .lookup .. | .makeInterface .. | .makeFunc .. | .convert .. | .build ..=>true
 | .call c=>match c.callee with
  | .builtin .len | .builtin .cap | .builtin .max | .builtin .min=>true
  | _=>false
 | _=>false
theorem Pq {s s':AS} (h:Ext s s') {l o n:Nat} {cs:List AV} (hr:aC s l o n=some cs):aC s' l o n=some cs:=by
 unfold aC at hr ⊢;cases b:s.h l with
 | none=>simp [b] at hr
 | some x=>rw [h.1 l x b];rw [b] at hr;exact hr
theorem Uc {s s':AS} (h:Ext s s') {l o:Nat} {v:AV} (hr:au s l o=some v):au s' l o=some v:=by
 unfold au at hr ⊢;cases b:s.h l with
 | none=>simp [b] at hr
 | some x=>rw [h.1 l x b];rw [b] at hr;exact hr
theorem Ud {s s':AS} (h:Ext s s') {T:TT} {t:TypeId} {p v:AV} (hr:Hf T t s p=some v):Hf T t s' p=some v:=by
 unfold Hf at hr ⊢;split at hr
 ·rename_i l o;split at hr
  ·rename_i c;cases hs:T.eU t with
   | none=>simp [hs] at hr
   | some n =>
    simp only [hs,Option.bind_some,Option.map_eq_some_iff] at hr ⊢;obtain ⟨cs,b,e⟩:=hr;exact ⟨cs,Pq h b,e⟩
  ·rename_i c;exact Uc h hr
  ·cases hr
 ·cases hr
theorem Qk {s s':AS} (h:Ext s s') {T:TT} {t:TypeId} {x v:AV} (hr:aQ T t x s=some v):aQ T t x s'=some v:=by
 unfold aQ at hr ⊢;split at hr <;> try (first | exact hr | (cases hr;done))
 rename_i l _;cases b:s.h l with
 | none=>simp [b] at hr
 | some o=>rw [h.1 l o b];rw [b] at hr;exact hr
theorem B_ {T:TT} {op:Op} (p:mA op=true) {ρ:Operand->AV} {s s':AS} {v:AV} (D:1<=s.st) (h:cM T op ρ s=some (v,s)) (k:Ext s s'):cM T op ρ s'=some (v,s'):=by
 cases op <;> (first | (cases p;done) | skip)
 case move x=>simp only [cM] at h ⊢;simpa using h
 case assign x=>simp only [cM] at h ⊢;simpa using h
 case pick c a b=>simp only [cM] at h ⊢;split at h <;> simp_all
 case build t parts=>simp only [cM,Option.map_eq_some_iff] at h ⊢;obtain ⟨u,hu,e⟩:=h;exact ⟨u,hu,by simp_all⟩
 case load t x=>simp only [cM,Option.map_eq_some_iff] at h ⊢;obtain ⟨u,hu,e⟩:=h;exact ⟨u,Ud k hu,by simp_all⟩
 case nilCheck x=>simp only [cM] at h ⊢;split at h <;> simp_all
 case binOp op t x y H =>
  simp only [cM] at h ⊢;split at h
  ·rename_i F;rw [if_pos F];simp only [Option.map_eq_some_iff] at h ⊢;obtain ⟨u,hu,e⟩:=h;exact ⟨u,hu,by simp_all⟩
  ·cases h
 case unOp op t x=>simp only [cM,Option.map_eq_some_iff] at h ⊢;obtain ⟨u,hu,e⟩:=h;exact ⟨u,hu,by simp_all⟩
 case convert src dst x =>
  simp only [cM] at h ⊢;unfold cW at h ⊢;split at h
  ·simp_all
  ·simp_all
  ·split at h
   ·simp only [Option.some.injEq,Prod.mk.injEq] at h;have:s.nl+s.st=s.nl:=congrArg AS.nl h.2;omega
   ·cases h
  ·split at h
   ·split at h <;> simp_all
   ·cases h
  ·split at h <;> simp_all
  ·split at h
   ·rename_i hu;split at h
    ·rename_i j;rw [if_pos j];simp only [Option.some.injEq,Prod.mk.injEq] at h ⊢;exact ⟨h.1,trivial⟩
    rename_i j;rw [if_neg j];simp only [Option.bind_eq_some_iff,Option.map_eq_some_iff] at h ⊢;obtain ⟨cs,w,bs,z,e⟩:=h;exact ⟨cs,Pq k w,bs,z,by simp_all⟩
   ·cases h
  ·split at h
   ·rename_i A;rw [if_pos A];split at h
    ·rename_i hu n;rw [hu,k.1 _ _ n];simp only [Option.some.injEq,Prod.mk.injEq] at h ⊢;exact ⟨h.1,trivial⟩
    ·cases h
   ·cases h
  ·cases h
 case makeInterface t x=>simp only [cM] at h ⊢;split at h <;> simp_all
 case makeFunc fn first captured =>
  cases fn with
  | func g=>simp only [cM] at h ⊢;split at h <;> simp_all
  | _=>simp [cM] at h
 case slice t x lo hi I=>simp only [cM,Option.map_eq_some_iff] at h ⊢;obtain ⟨u,hu,e⟩:=h;exact ⟨u,hu,by simp_all⟩
 case fieldAddr t x f=>simp only [cM,Option.map_eq_some_iff] at h ⊢;obtain ⟨u,hu,e⟩:=h;exact ⟨u,hu,by simp_all⟩
 case field t x f=>simp only [cM,Option.map_eq_some_iff] at h ⊢;obtain ⟨u,hu,e⟩:=h;exact ⟨u,hu,by simp_all⟩
 case indexAddr t x ix=>simp only [cM,Option.map_eq_some_iff] at h ⊢;obtain ⟨u,hu,e⟩:=h;exact ⟨u,hu,by simp_all⟩
 case index t x ix=>simp only [cM,Option.map_eq_some_iff] at h ⊢;obtain ⟨u,hu,e⟩:=h;exact ⟨u,hu,by simp_all⟩
 case lookup t x ix ok =>
  simp only [cM,Option.map_eq_some_iff] at h ⊢;obtain ⟨u,hu,e⟩:=h;refine ⟨u,?_,by simp_all⟩;unfold bR at hu ⊢;split at hu
  ·rename_i kt et r ht _;split at hu
   ·rename_i B;rw [if_pos B];simp only [Option.bind_eq_some_iff] at hu ⊢;obtain ⟨es,d,rest⟩:=hu;refine ⟨es,?_,rest⟩;cases r with
    | none=>exact d
    | some l =>
     simp only at d ⊢;cases n:s.h l with
     | none=>simp [n] at d
     | some o=>rw [k.1 l o n];rw [n] at d;exact d
   ·cases hu
  ·cases hu
 case extract t i =>
  simp only [cM] at h ⊢;split at h
  ·rename_i vs G;simp only [Option.map_eq_some_iff] at h ⊢;obtain ⟨u,hu,e⟩:=h;exact ⟨u,hu,by simp_all⟩
  ·cases h
 case call c =>
  simp only [mA] at p;simp only [cM] at h ⊢;cases C:c.callee with
  | value x=>simp [C] at h
  | invoke x m=>simp [C] at h
  | builtin b =>
   simp only [C] at h p ⊢;generalize c.argTypes.toList=ts at h ⊢;generalize c.args.toList.map ρ=args at h ⊢;cases b <;> first | (cases p;done) | skip
   ·cases ts with
    | nil=>simp [ec] at h
    | cons t ts =>
     cases args with
     | nil=>simp [ec] at h
     | cons x xs =>
      simp only [ec,Option.map_eq_some_iff] at h ⊢;obtain ⟨u,hu,e⟩:=h;exact ⟨u,hu,by simp_all⟩
   ·cases ts with
    | nil=>simp [ec] at h
    | cons t ts =>
     cases args with
     | nil=>simp [ec] at h
     | cons x xs =>
      simp only [ec,Option.map_eq_some_iff] at h ⊢;obtain ⟨u,hu,e⟩:=h;exact ⟨u,Qk k hu,by simp_all⟩
   ·simp only [ec,Option.map_eq_some_iff] at h ⊢;obtain ⟨u,hu,e⟩:=h;exact ⟨u,hu,by simp_all⟩
   ·simp only [ec,Option.map_eq_some_iff] at h ⊢;obtain ⟨u,hu,e⟩:=h;exact ⟨u,hu,by simp_all⟩
def gZ (ops:Array Oper) (j i:Nat):Bool:=((Region.before ops).getD i 0).testBit j
theorem Lj (acc:Array Nat) (j:Nat):∀ (l:List Edge) (s:Nat),(l.foldl (fun s e=>if Region.binds .any e then s ||| 2 ^ e.on ||| acc.getD e.on 0 else s) s).testBit j=true ->
  s.testBit j=true\/∃ e∈l,Region.binds .any e=true/\(e.on=j\/(acc.getD e.on 0).testBit j=true)
 | [],s,h=>.inl h
 | e::l,s,h=>by
  simp only [List.foldl_cons] at h;rcases Lj acc j l _ h with b | ⟨d,c,h2⟩
  ·split at b
   ·rename_i hb;simp only [Nat.testBit_or,Bool.or_eq_true] at b;rcases b with (b | b) | b
    ·exact .inl b
    ·refine .inr ⟨e,by simp,hb,.inl ?_⟩;rw [Nat.testBit_two_pow] at b;simpa using b
    ·exact .inr ⟨e,by simp,hb,.inr b⟩
   ·exact .inl b
  ·exact .inr ⟨d,by simp [c],h2⟩
theorem Di (j:Nat):∀ (l:List Oper) (acc:Array Nat),
  let r:=l.foldl (fun acc o=>acc.push (o.after.foldl (fun s e=>if Region.binds .any e then s ||| 2 ^ e.on ||| acc.getD e.on 0 else s) 0)) acc
  (∀ i,i<acc.size->r.getD i 0=acc.getD i 0)/\(∀ (k:Nat) o,l[k]? = some o->(r.getD (acc.size+k) 0).testBit j=true ->
   ∃ e∈o.after.toList,Region.binds .any e=true/\(e.on=j\/(e.on<acc.size+k/\(r.getD e.on 0).testBit j=true)))/\r.size=acc.size+l.length
 | [],acc=>by simp
 | o::l,acc=>by
  simp only [List.foldl_cons];obtain ⟨c,h2,h3⟩:=Di j l (acc.push (o.after.foldl (fun s e=>if Region.binds .any e then s ||| 2 ^ e.on ||| acc.getD e.on 0 else s) 0));generalize hr:l.foldl (fun acc o=>acc.push (o.after.foldl (fun s e=>if Region.binds .any e then s ||| 2 ^ e.on ||| acc.getD e.on 0 else s) 0)) (acc.push (o.after.foldl (fun s e=>if Region.binds .any e then s ||| 2 ^ e.on ||| acc.getD e.on 0 else s) 0))=r at c h2 h3;simp only [Array.size_push] at c h2 h3;have hold:∀ i,i<acc.size->r.getD i 0=acc.getD i 0:=by
   intro i hi;rw [c i (by omega)];simp only [Array.getD_eq_getD_getElem?,Array.getElem?_push];rw [if_neg (by omega)]
  refine ⟨hold,fun k o' w hb=>?_,by simp only [List.length_cons];omega⟩;cases k with
  | zero =>
   obtain rfl:o=o':=by simpa using w
   rw [Nat.add_zero,c acc.size (by omega)] at hb;simp only [Array.getD_eq_getD_getElem?,Array.getElem?_push,if_true,Option.getD_some] at hb;rw [<- Array.foldl_toList] at hb;have d:(o.after.toList.foldl (fun s e=>if Region.binds .any e then s ||| 2 ^ e.on ||| acc.getD e.on 0 else s) 0).testBit j=true:=by
    simpa only [Array.getD_eq_getD_getElem?] using hb
   rcases Lj acc j _ _ d with h | ⟨e,m,b,h⟩
   ·simp at h
   ·refine ⟨e,m,b,?_⟩;rcases h with h | h
    ·exact .inl h
    ·right;have n:e.on<acc.size:=by
      rcases Nat.lt_or_ge e.on acc.size with p | p
      ·exact p
      ·simp [Array.getD_eq_getD_getElem?,Array.getElem?_eq_none p] at h
     exact ⟨by omega,by rw [hold _ n];exact h⟩
  | succ k =>
   have:=h2 k o' (by simpa using w) (by rw [show acc.size+1+k=acc.size+(k+1) by omega];exact hb);obtain ⟨e,m,b,h⟩:=this;exact ⟨e,m,b,h.imp id fun ⟨x,hb⟩=>⟨by omega,hb⟩⟩
theorem NJ {ops:Array Oper} {j i:Nat} {o:Oper} (b:ops[i]? = some o) (h:gZ ops j i=true):∃ e∈o.after.toList,Region.binds .any e=true/\(e.on=j\/(e.on<i/\gZ ops j e.on=true)):=by
 obtain ⟨_,h2,_⟩:=Di j ops.toList #[];have hb:Region.before ops=ops.toList.foldl (fun acc o=>acc.push (o.after.foldl (fun s e=>if Region.binds .any e then s ||| 2 ^ e.on ||| acc.getD e.on 0 else s) 0)) #[]:=by
  unfold Region.before;rw [<- Array.foldl_toList]
 unfold gZ at h ⊢;rw [hb] at h ⊢;have:=h2 i o (by simpa using b) (by simpa using h);simpa using this
def Down (ops:Array Oper) (listed:Array Bool):Prop:=∀ (i:Nat) o,ops[i]? = some o->listed.getD i false=true->∀ e∈o.after.toList,Region.binds .any e=true->listed.getD e.on false=true
theorem jB {ops:Array Oper} {listed:Array Bool} (hd:Down ops listed) {j:Nat}:∀ (i:Nat) (o:Oper),ops[i]? = some o->(∀ e∈o.after.toList,Region.binds .any e=true->listed.getD e.on false=true)->gZ ops j i=true->listed.getD j false=true:=by
 intro i
 induction i using Nat.strongRecOn with
 | _ i m =>
  intro o k l n;obtain ⟨e,c,hb,h⟩:=NJ k n;rcases h with rfl | ⟨d,h⟩
  ·exact l e c hb
  ·have p:=l e c hb;cases b:ops[e.on]? with
   | none =>
    have hi:i<ops.size:=by
     rcases Nat.lt_or_ge i ops.size with h | h
     ·exact h
     ·simp [Array.getElem?_eq_none h] at k
    rw [Array.getElem?_eq_getElem (by omega)] at b;cases b
   | some o'=>exact m e.on d o' b (hd e.on o' b p) h
def Ca (P:Program) (T:TT) (o:Oper) (f:Fr) (s:AS) (R:AV->AS->Prop):Prop :=
 match fj f o.op with
 | some (g,args)=>aa P g args s R
 | none=>∃ v s',cM T o.op (pM f) s=some (v,s')/\R v s'
theorem lV {P:Program} {T:TT} {n:Nat} {o:Oper} {f:Fr} {s:AS} {R:AV->AS->Prop} {K:Fr->AS->Prop} (hd:ee n o.dst=true) (h:Ca P T o f s R) (c:∀ v s',R v s'->K (bT f o.dst v) s'):Fk P T n o f s K:=by
 refine ⟨hd,.inl ?_⟩;unfold Ca at h;split
 ·rename_i g args b;rw [b] at h;exact h.mono c
 ·rename_i b;rw [b] at h;obtain ⟨v,s',d,h2⟩:=h;exact ⟨v,s',d,c _ _ h2⟩
abbrev ki:=List (Nat×(AS->Prop))
def keyOf (f:Fr) (o:Oper):List AV:=o.op.operands.toList.map (pM f)
section
variable (P:Program) (T:TT) (n:Nat) (ops:Array Oper) (A:List (List Nat)) (H:List Nat) (V:Nat->List AV->AV->Prop) (S:Nat->List AV->AV->AS->Prop) (X:AS->AS->Prop) (C:Nat->List AV->AV->AS->Prop) (M:List Nat) (s:AS)
def nI (i:Nat) (k:List AV) (v:AV) (c:AS->Prop):AS->Prop:=if M.contains i then C i k v else c
def sr (i:Nat) (o:Oper) (f:Fr) (F:ki) (c:AS->Prop) (K':Fr->ki->(AS->Prop)->Prop):Prop :=
 ee n o.dst=true /\
 match dn ops f o with
 | none=>False
 | some false=>M.contains i=false/\K' (bT f o.dst .undef) F c
 | some true =>
  if H.contains i then
   (∀ s',X s s'->aG s'->(∀ p∈F,(A.getD i []).contains p.1=true->p.2 s')->(M.contains i=true->c s')->Ca P T o f s' fun v s''=>(if M.contains i then X s' s''/\C i (keyOf f o) v s'' else Ext s' s'')/\S i (keyOf f o) v s''/\V i (keyOf f o) v) /\
   (∃ v,V i (keyOf f o) v)/\∀ v,V i (keyOf f o) v->K' (bT f o.dst v) (F++[(i,S i (keyOf f o) v)]) (nI C M i (keyOf f o) v c)
  else M.contains i=false/\mA o.op=true/\∃ v,(cM T o.op (pM f) s=some (v,s)/\∀ s',X s s'->aG s'->cM T o.op (pM f) s'=some (v,s'))/\K' (bT f o.dst v) F c
def dq (K:Fr->AS->Prop):List Nat->Fr->ki->(AS->Prop)->Prop
 | [],f,F,c=>∀ s',X s s'->aG s'->(∀ p∈F,p.2 s')->c s'->(H=[]->s'=s)->K f s'
 | i::is,f,F,c=>match ops[i]? with
  | some o=>sr P T n ops A H V S X C M s i o f F c (dq K is)
  | none=>False
abbrev WO (K:Fr->AS->Prop) (is:List Nat) (f:Fr) (F:ki):=dq P T n ops A H V S Ext (fun _ _ _ _=>True) [] s K is f F (fun _=>True)
end
section
variable {P:Program} {T:TT} {n:Nat} {ops:Array Oper} {A:List (List Nat)} {H:List Nat} {V:Nat->List AV->AV->Prop} {S:Nat->List AV->AV->AS->Prop} {X:AS->AS->Prop} {C:Nat->List AV->AV->AS->Prop} {M:List Nat} {s:AS} {K:Fr->AS->Prop}
theorem sr.mono {i:Nat} {o:Oper} {f:Fr} {F:ki} {c:AS->Prop} {j K2:Fr->ki->(AS->Prop)->Prop} (h:sr P T n ops A H V S X C M s i o f F c j) (d:∀ f F c,j f F c->K2 f F c):sr P T n ops A H V S X C M s i o f F c K2:=by
 obtain ⟨hd,h⟩:=h;refine ⟨hd,?_⟩;split
 ·rename_i b;rw [b] at h;exact h
 ·rename_i b;rw [b] at h;exact ⟨h.1,d _ _ _ h.2⟩
 ·rename_i b;rw [b] at h;simp only at h;split
  ·rename_i e;rw [if_pos e] at h;exact ⟨h.1,h.2.1,fun v hv=>d _ _ _ (h.2.2 v hv)⟩
  ·rename_i e;rw [if_neg e] at h;obtain ⟨k,l,v,h2,h3⟩:=h;exact ⟨k,l,v,h2,d _ _ _ h3⟩
theorem Al {K K':Fr->AS->Prop} (d:∀ f s,K f s->K' f s):∀ (is:List Nat) (f:Fr) (F:ki) (c:AS->Prop),dq P T n ops A H V S X C M s K is f F c->dq P T n ops A H V S X C M s K' is f F c
 | [],f,F,c,h=>fun s' e h2 h3 h4 j=>d _ _ (h s' e h2 h3 h4 j)
 | i::is,f,F,c,h=>by
  simp only [dq] at h ⊢;split
  ·rename_i o b;rw [b] at h;exact sr.mono h fun f F c k=>Al d is f F c k
  ·rename_i b;rw [b] at h;exact h
theorem An:∀ (is:List Nat) (f:Fr) (F F':ki) (c:AS->Prop),(∀ p,p∈F↔p∈F')->dq P T n ops A H V S X C M s K is f F c->dq P T n ops A H V S X C M s K is f F' c
 | [],f,F,F',c,d,h=>fun s' j b k=>h s' j b fun p hm=>k p ((d p).1 hm)
 | i::is,f,F,F',c,d,h=>by
  simp only [dq] at h ⊢;cases m:ops[i]? with
  | none=>rw [m] at h;exact h
  | some o =>
   rw [m] at h;obtain ⟨hd,h⟩:=h;refine ⟨hd,?_⟩;split
   ·rename_i e;rw [e] at h;exact h
   ·rename_i e;rw [e] at h;exact ⟨h.1,An is _ F F' _ d h.2⟩
   ·rename_i e;rw [e] at h;simp only at h;split
    ·rename_i l;rw [if_pos l] at h;refine ⟨fun s' j b k=>h.1 s' j b fun p hm=>k p ((d p).1 hm),h.2.1,fun v hv=>An is _ _ _ _ ?_ (h.2.2 v hv)⟩;intro p;simp [d]
    ·rename_i l;rw [if_neg l] at h;obtain ⟨r,w,v,h2,h3⟩:=h;exact ⟨r,w,v,h2,An is _ F F' _ d h3⟩
theorem Ql {T:TT} {op:Op} {ρ d:Operand->AV} (h:∀ x∈op.operands,ρ x=d x) (s:AS):cM T op ρ s=cM T op d s:=by
 have w:∀ (l:List Operand),(∀ x∈l,ρ x=d x)->l.map ρ=l.map d:=fun l w=>List.map_congr_left w;have z:∀ (o:Option Operand),(∀ x∈o,ρ x=d x)->o.map ρ=o.map d:=by
  intro o z;cases o with
  | none=>rfl
  | some x=>simp [z x (by simp)]
 have A:∀ (l:List (Nat×Operand)),(∀ x∈l.map (·.2),ρ x=d x)->(l.map fun p=>(p.1,ρ p.2))=(l.map fun p=>(p.1,d p.2)):=by
  intro l w;refine List.map_congr_left fun p hm=>?_;rw [w p.2 (List.mem_map.2 ⟨p,hm,rfl⟩)]
 cases op with
 | move x=>simp only [cM,h x (by simp [Op.operands])]
 | assign x=>simp only [cM,h x (by simp [Op.operands])]
 | pick c a b=>simp only [cM,h c (by simp [Op.operands]),h a (by simp [Op.operands]),h b (by simp [Op.operands])]
 | box t x=>simp only [cM,h x (by simp [Op.operands])]
 | load t x=>simp only [cM,h x (by simp [Op.operands])]
 | nilCheck x=>simp only [cM,h x (by simp [Op.operands])]
 | unOp o t x=>simp only [cM,h x (by simp [Op.operands])]
 | convert t u x=>simp only [cM,h x (by simp [Op.operands])]
 | makeInterface t x=>simp only [cM,h x (by simp [Op.operands])]
 | fieldAddr t x f=>simp only [cM,h x (by simp [Op.operands])]
 | field t x f=>simp only [cM,h x (by simp [Op.operands])]
 | extract x i=>simp only [cM,h x (by simp [Op.operands])]
 | range t x=>simp only [cM,h x (by simp [Op.operands])]
 | entry x=>simp only [cM,h x (by simp [Op.operands])]
 | sliceToArrayPointer t x=>simp only [cM,h x (by simp [Op.operands])]
 | build t ps=>simp only [cM];rw [A ps.toList (by intro x e;exact h x (by simpa [Op.operands] using e))]
 | buildSlice t n ps=>simp only [cM];rw [A ps.toList (by intro x e;exact h x (by simpa [Op.operands] using e))]
 | store t a v=>simp only [cM,h a (by simp [Op.operands]),h v (by simp [Op.operands])]
 | binOp o t a v u=>simp only [cM,h a (by simp [Op.operands]),h v (by simp [Op.operands])]
 | makeSlice t a v=>simp only [cM,h a (by simp [Op.operands]),h v (by simp [Op.operands])]
 | indexAddr t a v=>simp only [cM,h a (by simp [Op.operands]),h v (by simp [Op.operands])]
 | index t a v=>simp only [cM,h a (by simp [Op.operands]),h v (by simp [Op.operands])]
 | lookup t a v ok=>simp only [cM,h a (by simp [Op.operands]),h v (by simp [Op.operands])]
 | mapUpdate t m k v=>simp only [cM,h m (by simp [Op.operands]),h k (by simp [Op.operands]),h v (by simp [Op.operands])]
 | insert t m k v=>simp only [cM,h m (by simp [Op.operands]),h k (by simp [Op.operands]),h v (by simp [Op.operands])]
 | slice t x lo hi B =>
  simp only [cM,h x (by simp [Op.operands])];rw [z lo (by intro y j;exact h y (by simp [Op.operands];simp at j;simp [j])),z hi (by intro y j;exact h y (by simp [Op.operands];simp at j;simp [j])),z B (by intro y j;exact h y (by simp [Op.operands];simp at j;simp [j]))]
 | makeFunc fn first captured =>
  cases fn with
  | func g=>simp only [cM];rw [w captured.toList (by intro x e;exact h x (by simp only [Op.operands,Array.mem_append];exact .inr (by simpa using e))),w first.toList (by intro x e;exact h x (by simp only [Op.operands,Array.mem_append];exact .inl (by simpa using e)))]
  | _=>rfl
 | makeMap t r=>cases r <;> rfl
 | call c =>
  simp only [cM];cases C:c.callee with
  | builtin b =>
   simp only;rw [w c.args.toList (by intro x e;exact h x (by simp only [Op.operands,Call.operands,C,Array.mem_append];exact .inr (by simpa using e)))]
  | _=>rfl
 | _=>rfl
theorem Lk {f:Fr} {d:Option Nat} {v:AV} {x:Operand} (h:∀ t,d=some t->x≠.tmp t):pM (bT f d v) x=pM f x:=by
 cases x with
 | tmp t =>
  cases d with
  | none=>rfl
  | some d=>simp only [pM,bT];exact RI f v (fun e=>h d rfl (by rw [e]))
 | _=>cases d <;> rfl
theorem fu {o:Oper} {f:Fr} {d:Option Nat} {v:AV} (h:∀ t,d=some t->t ∉ o.looksAt ops):dn ops (bT f d v) o=dn ops f o/\fj (bT f d v) o.op=fj f o.op/\∀ s,cM T o.op (pM (bT f d v)) s=cM T o.op (pM f) s:=by
 have b:∀ x∈o.op.operands,pM (bT f d v) x=pM f x:=by
  intro x i;refine Lk fun t ht e=>h t ht ?_;subst e;simp only [Oper.looksAt,List.mem_append,List.mem_filterMap];exact .inl ⟨.tmp t,by simpa using i,rfl⟩
 refine ⟨?_,?_,?_⟩
 ·unfold dn;cases l:o.guard with
  | none=>rfl
  | some p =>
   obtain ⟨j,want⟩:=p;simp only;cases hd:(ops[j]?).bind (·.dst) with
   | none=>rfl
   | some t =>
    simp only;have ht:bT f d v t=f t:=by
     cases d with
     | none=>rfl
     | some d =>
      simp only [bT];refine RI f v fun e=>h d rfl ?_;subst e;simp only [Oper.looksAt,List.mem_append,l,hd];right;simp
    rw [ht]
 ·unfold fj;cases m:o.op <;> try rfl
  rename_i c;simp only;rw [m] at b;cases k:c.callee with
  | value x =>
   simp only;have i:=b x (by simp [Op.operands,Call.operands,k]);have n:c.args.toList.map (pM (bT f d v))=c.args.toList.map (pM f):=by
    refine List.map_congr_left fun y r=>b y ?_;simp only [Op.operands,Call.operands,k,Array.mem_append];exact .inr (by simpa using r)
   rw [i,n]
  | _=>rfl
 ·intro s
  revert b
  generalize pM (bT f d v)=ρ;generalize pM f=w;intro b;exact Ql b s
theorem qS {o:Oper} {f:Fr} {d:Option Nat} {v:AV} (h:∀ t,d=some t->t ∉ o.looksAt ops):keyOf (bT f d v) o=keyOf f o:=by
 refine List.map_congr_left fun x b=>Lk fun t ht e=>h t ht ?_;subst e;simp only [Oper.looksAt,List.mem_append,List.mem_filterMap];exact .inl ⟨.tmp t,by simpa using b,rfl⟩
theorem Cb {f:Fr} {d e:Option Nat} {u v:AV} (h:∀ t,d=some t->e≠some t):bT (bT f d u) e v=bT (bT f e v) d u:=by
 cases d with
 | none=>rfl
 | some d =>
  cases e with
  | none=>rfl
  | some e =>
   have b:e≠d:=fun x=>h d rfl (by rw [x]);funext t;simp only [bT,nH];by_cases c:t=e
   ·subst c;rw [if_pos rfl,if_neg b,if_pos rfl]
   ·rw [if_neg c];by_cases h2:t=d
    ·subst h2;rw [if_pos rfl,if_pos rfl]
    ·rw [if_neg h2,if_neg h2,if_neg c]
def Ue (ops:Array Oper) (A:List (List Nat)) (i j:Nat) (b oj:Oper):Prop :=
 b.apart ops oj=true/\(A.getD j []).contains i=false/\(A.getD i []).contains j=false
theorem wv {o:Oper} {f:Fr} {d:Option Nat} {v:AV} (h:∀ t,d=some t->t ∉ o.looksAt ops) {s:AS} {R:AV->AS->Prop}:Ca P T o (bT f d v) s R↔Ca P T o f s R:=by
 obtain ⟨_,h2,h3⟩:=fu (T:=T) (ops:=ops) (f:=f) (v:=v) h;unfold Ca;rw [h2];constructor
 ·intro c;split at c
  ·exact c
  ·obtain ⟨v,s',a,b⟩:=c;exact ⟨v,s',by rw [<- h3];exact a,b⟩
 ·intro c;split at c
  ·exact c
  ·obtain ⟨v,s',a,b⟩:=c;exact ⟨v,s',by rw [h3];exact a,b⟩
theorem NK {i j:Nat} (h:M.contains i=true->M.contains j=false) (k k':List AV) (v v':AV) (c:AS->Prop):nI C M i k v (nI C M j k' v' c)=nI C M j k' v' (nI C M i k v c):=by
 unfold nI;cases hi:M.contains i with
 | false=>simp
 | true=>rw [h hi];simp
theorem Ao {j : Nat} {oj : Oper} (Y : ops[j]? = some oj) : ∀ (pre post : List Nat) (f : Fr) (F : ki) (c : AS -> Prop), (∀ i ∈ pre, ∀ r, ops[i]? = some r -> Ue ops A i j r oj) -> (∀ i ∈ pre, M.contains i = true -> M.contains j = false) ->
    dq P T n ops A H V S X C M s K (pre ++ j :: post) f F c -> sr P T n ops A H V S X C M s j oj f F c (dq P T n ops A H V S X C M s K (pre ++ post))
  | [], post, f, F, c, _, _, h => by simpa only [List.nil_append, dq, Y] using h
  | i :: pre, post, f, F, c, L, ao, h => by
    simp only [List.cons_append, dq] at h ⊢;cases ab : ops[i]? with
    | none => rw [ab] at h; exact h.elim
    | some r =>
      rw [ab] at h;simp only at h;obtain ⟨a0, a1, a7⟩ := L i (by simp) r ab;obtain ⟨w, a2, ad⟩ := Oper.apart_spec a0;have B : ∀ i ∈ pre, ∀ r, ops[i]? = some r -> Ue ops A i j r oj := fun i hi => L i (List.mem_cons_of_mem _ hi);have O : ∀ i ∈ pre, M.contains i = true -> M.contains j = false := fun i hi => ao i (List.mem_cons_of_mem _ hi);have Q := ao i (by simp);have a3 : ∀ k v, M.contains i = false -> ∀ c, nI C M i k v c = c := fun k v h c => by simp only [nI, h, Bool.false_eq_true, if_false]
      have back : ∀ (u : AV) (D : ki) (c2 : AS -> Prop), (∀ p ∈ D, (A.getD j []).contains p.1 = true -> p ∈ F) -> (M.contains j = true -> c2 = c) -> ∀ K1 K2 : Fr -> ki -> (AS -> Prop) -> Prop,
          sr P T n ops A H V S X C M s j oj (bT f r.dst u) D c2 K1 ->
          ((ee n oj.dst = true /\ dn ops f oj = some false /\ M.contains j = false) \/
           (ee n oj.dst = true /\ dn ops f oj = some true /\ H.contains j = true /\ (∀ s', X s s' -> aG s' -> (∀ p ∈ F, (A.getD j []).contains p.1 = true -> p.2 s') -> (M.contains j = true -> c s') -> Ca P T oj f s' fun v s'' => (if M.contains j then X s' s'' /\ C j (keyOf f oj) v s'' else Ext s' s'') /\ S j (keyOf f oj) v s'' /\ V j (keyOf f oj) v) /\ ∃ v, V j (keyOf f oj) v) \/
           (ee n oj.dst = true /\ dn ops f oj = some true /\ H.contains j = false /\ M.contains j = false /\ mA oj.op = true /\ ∃ v, cM T oj.op (pM f) s = some (v, s) /\ ∀ s', X s s' -> aG s' -> cM T oj.op (pM f) s' = some (v, s'))) := by
        intro u D c2 ae al K1 K2 hs;obtain ⟨hd, hs⟩ := hs;obtain ⟨l1, l2, l3⟩ := fu (T := T) (ops := ops) (o := oj) (f := f) (d := r.dst) (v := u) w;rw [l1, qS (ops := ops) w] at hs;cases x : dn ops f oj with
        | none => rw [x] at hs; exact hs.elim
        | some b =>
          rw [x] at hs;cases b with
          | false => exact .inl ⟨hd, rfl, hs.1⟩
          | true =>
            simp only at hs;by_cases z : H.contains j = true
            · rw [if_pos z] at hs;refine .inr (.inl ⟨hd, rfl, z, fun s' G I R => ?_, hs.2.1⟩);exact fun hm => (wv w).1 (hs.1 s' G I (fun p hm hc => R p (ae p hm hc) hc) fun hj => by rw [al hj]; exact hm hj)
            · rw [if_neg z] at hs;obtain ⟨h0, h1, v, h2, _⟩ := hs;exact .inr (.inr ⟨hd, rfl, by simpa using z, h0, h1, v, by rw [<- l3]; exact h2.1, fun s' G x => by rw [<- l3]; exact h2.2 s' G x⟩)
      have li := fun (u : AV) => fu (T := T) (ops := ops) (o := r) (f := f) (d := oj.dst) (v := u) ad;have J : ∀ u v, bT (bT f r.dst u) oj.dst v = bT (bT f oj.dst v) r.dst u := fun u v => Cb a2;obtain ⟨am, h⟩ := h;cases U : dn ops f r with
      | none => rw [U] at h; exact h.elim
      | some bi =>
        rw [U] at h;cases bi with
        | false =>
          simp only at h;obtain ⟨h0, h⟩ := h;have m := Ao Y pre post _ F c B O h;have y : ∀ v D c2, dq P T n ops A H V S X C M s K (pre ++ post) (bT (bT f r.dst .undef) oj.dst v) D c2 -> sr P T n ops A H V S X C M s i r (bT f oj.dst v) D c2 (dq P T n ops A H V S X C M s K (pre ++ post)) := by
            intro v D c2 z;refine ⟨am, ?_⟩;rw [(li v).1, U];simp only;rw [<- J]; exact ⟨h0, z⟩
          obtain ⟨l1, l2, l3⟩ := fu (T := T) (ops := ops) (o := oj) (f := f) (d := r.dst) (v := .undef) w;obtain ⟨hd, m⟩ := m;refine ⟨hd, ?_⟩;rw [l1, qS (ops := ops) w] at m;cases x : dn ops f oj with
          | none => rw [x] at m; exact m
          | some b =>
            rw [x] at m;cases b with
            | false => exact ⟨m.1, y _ _ _ m.2⟩
            | true =>
              simp only at m ⊢;by_cases z : H.contains j = true
              · rw [if_pos z] at m ⊢;exact ⟨fun s' G I R hm => (wv w).1 (m.1 s' G I R hm), m.2.1, fun v hv => y _ _ _ (m.2.2 v hv)⟩
              · rw [if_neg z] at m ⊢;obtain ⟨an, h1, v, h2, h3⟩ := m;exact ⟨an, h1, v, ⟨by rw [<- l3]; exact h2.1, fun s' G x => by rw [<- l3]; exact h2.2 s' G x⟩, y _ _ _ h3⟩
        | true =>
          simp only at h;by_cases Z : H.contains i = true
          · rw [if_pos Z] at h;obtain ⟨hA, ⟨v0, ar⟩, hK⟩ := h;have m := fun v hv => Ao Y pre post _ _ _ B O (hK v hv);have ae : ∀ v, ∀ p ∈ F ++ [(i, S i (keyOf f r) v)], (A.getD j []).contains p.1 = true -> p ∈ F := by
              intro v p R hc;rcases List.mem_append.1 R with h | h
              · exact h
              · obtain rfl := List.mem_singleton.1 h;rw [a1] at hc; cases hc
            have y : ∀ v D c2, (∀ p ∈ F, p ∈ D) -> (M.contains i = true -> c2 = c) -> (∀ u, V i (keyOf f r) u -> dq P T n ops A H V S X C M s K (pre ++ post) (bT (bT f r.dst u) oj.dst v) (D ++ [(i, S i (keyOf f r) u)]) (nI C M i (keyOf f r) u c2)) ->
                sr P T n ops A H V S X C M s i r (bT f oj.dst v) D c2 (dq P T n ops A H V S X C M s K (pre ++ post)) := by
              intro v D c2 a4 al z;refine ⟨am, ?_⟩;rw [(li v).1, U, qS (ops := ops) ad];simp only;rw [if_pos Z];exact ⟨fun s' G I R hm => (wv ad).2 (hA s' G I (fun p hm hc => R p (a4 p hm) hc) fun hi => by rw [<- al hi]; exact hm hi), ⟨v0, ar⟩, fun u hu => by rw [<- J]; exact z u hu⟩
            have l := fun (u : AV) => fu (T := T) (ops := ops) (o := oj) (f := f) (d := r.dst) (v := u) w;have a5 : ∀ v, M.contains j = true -> nI C M i (keyOf f r) v c = c := fun v hj => a3 _ _ (by
              cases hi : M.contains i with
              | false => rfl
              | true => rw [Q hi] at hj; cases hj) c
            rcases back v0 _ _ (ae v0) (a5 v0) _ (fun _ _ _ => True) (m v0 ar) with ⟨hd, x, W⟩ | ⟨hd, x, z, aw, a6⟩ | ⟨hd, x, z, W, hq, v, hv⟩
            · refine ⟨hd, ?_⟩;rw [x];refine ⟨W, y _ F c (fun _ h => h) (fun _ => rfl) fun u hu => ?_⟩;have := (m u hu).2;rw [(l u).1, x, qS (ops := ops) w] at this;exact this.2
            · refine ⟨hd, ?_⟩;rw [x];simp only;rw [if_pos z];refine ⟨aw, a6, fun v hv => y v _ _ (fun p R => List.mem_append_left _ R) (fun hi => by simp only [nI, Q hi, Bool.false_eq_true, if_false]) fun u hu => ?_⟩;have := (m u hu).2;rw [(l u).1, x, qS (ops := ops) w] at this;simp only at this;rw [if_pos z] at this;rw [NK Q];refine An _ _ _ _ _ ?_ (this.2.2 v hv);intro p;simp only [List.mem_append, List.mem_singleton];constructor
              · rintro ((h | h) | h)
                · exact .inl (.inl h)
                · exact .inr h
                · exact .inl (.inr h)
              · rintro ((h | h) | h)
                · exact .inl (.inl h)
                · exact .inr h
                · exact .inl (.inr h)
            · refine ⟨hd, ?_⟩;rw [x];simp only;rw [if_neg (by rw [z]; simp)];refine ⟨W, hq, v, hv, y v F c (fun _ h => h) (fun _ => rfl) fun u hu => ?_⟩;have := (m u hu).2;rw [(l u).1, x, qS (ops := ops) w] at this;simp only at this;rw [if_neg (by rw [z]; simp)] at this;obtain ⟨_, _, v', ⟨oM, _⟩, hk⟩ := this;rw [(l u).2.2, hv.1] at oM;have e : v = v' := by simpa using oM
              rw [e]; exact hk
          · rw [if_neg Z] at h;obtain ⟨W, hq, u, hu, hK⟩ := h;have m := Ao Y pre post _ F c B O hK;have y : ∀ v D c2, dq P T n ops A H V S X C M s K (pre ++ post) (bT (bT f r.dst u) oj.dst v) D c2 -> sr P T n ops A H V S X C M s i r (bT f oj.dst v) D c2 (dq P T n ops A H V S X C M s K (pre ++ post)) := by
              intro v D c2 z;refine ⟨am, ?_⟩;rw [(li v).1, U];simp only;rw [if_neg Z];exact ⟨W, hq, u, ⟨by rw [(li v).2.2]; exact hu.1, fun s' G x => by rw [(li v).2.2]; exact hu.2 s' G x⟩, by rw [<- J]; exact z⟩
            obtain ⟨l1, l2, l3⟩ := fu (T := T) (ops := ops) (o := oj) (f := f) (d := r.dst) (v := u) w;obtain ⟨hd, m⟩ := m;refine ⟨hd, ?_⟩;rw [l1, qS (ops := ops) w] at m;cases x : dn ops f oj with
            | none => rw [x] at m; exact m
            | some b =>
              rw [x] at m;cases b with
              | false => exact ⟨m.1, y _ _ _ m.2⟩
              | true =>
                simp only at m ⊢;by_cases z : H.contains j = true
                · rw [if_pos z] at m ⊢;exact ⟨fun s' G I R hm => (wv w).1 (m.1 s' G I R hm), m.2.1, fun v hv => y _ _ _ (m.2.2 v hv)⟩
                · rw [if_neg z] at m ⊢;obtain ⟨an, h1, v, h2, h3⟩ := m;exact ⟨an, h1, v, ⟨by rw [<- l3]; exact h2.1, fun s' G x => by rw [<- l3]; exact h2.2 s' G x⟩, y _ _ _ h3⟩
def Fm (ops:Array Oper) (m:Nat) (A:List (List Nat)) (bs:List Nat):Bool :=
 decide (Region.before ops=bs.toArray)&&decide (m<=ops.size) &&
 (List.range ops.size).all fun i=>(ops[i]?).all (fun o=>o.after.toList.all fun e=>decide (e.on<i)||!Region.binds .any e) &&
  if m<=i then (List.range i).all fun j=>(bs.getD i 0).testBit j
  else ((A.getD i []).all fun j=>(bs.getD i 0).testBit j&&decide (j<i)) &&
   (List.range i).all fun j=>(bs.getD i 0).testBit j||((ops[j]?).any fun x=>(ops[i]?).any fun y=>x.apart ops y)
structure xQ (ops:Array Oper) (m:Nat) (A:List (List Nat)):Prop where
 le:m<=ops.size
 back:∀ (i:Nat) o,ops[i]? = some o->∀ e∈o.after.toList,Region.binds .any e=true->e.on<i
 tail:∀ i,i<ops.size->m<=i->∀ j,j<i->gZ ops j i=true
 VB:∀ i,i<m->∀ j∈A.getD i [],gZ ops j i=true/\j<i
 free:∀ i,i<m->∀ j,j<i->gZ ops j i=true\/∃ x y,ops[j]? = some x/\ops[i]? = some y/\x.apart ops y=true
theorem Ie {ops:Array Oper} {m:Nat} {A:List (List Nat)} {bs:List Nat} (h:Fm ops m A bs=true):xQ ops m A:=by
 simp only [Fm,Bool.and_eq_true,decide_eq_true_eq,List.all_eq_true,List.mem_range] at h;obtain ⟨⟨hb,hm⟩,h⟩:=h;have b:∀ j i,gZ ops j i=(bs.getD i 0).testBit j:=by
  intro j i;unfold gZ;rw [hb];simp [List.getD_eq_getElem?_getD]
 have d:∀ (i:Nat) o,ops[i]? = some o->i<ops.size:=by
  intro i o c;rcases Nat.lt_or_ge i ops.size with h | h
  ·exact h
  ·simp [Array.getElem?_eq_none h] at c
 refine ⟨hm,fun i o c e n k=>?_,fun i hi l j hj=>?_,fun i hi j hj=>?_,fun i hi j hj=>?_⟩
 ·have:=(h i (d i o c)).1;rw [c] at this;simp only [Option.all_some,List.all_eq_true,Bool.or_eq_true,decide_eq_true_eq] at this;rcases this e n with h | h
  ·exact h
  ·rw [k] at h;simp at h
 ·have:=(h i hi).2;rw [if_pos l] at this;rw [b];simp only [List.all_eq_true,List.mem_range] at this;exact this j hj
 ·have:=(h i (by omega)).2;rw [if_neg (by omega)] at this;simp only [Bool.and_eq_true,List.all_eq_true,decide_eq_true_eq] at this;rw [b];exact this.1 j hj
 ·have:=(h i (by omega)).2;rw [if_neg (by omega)] at this;simp only [Bool.and_eq_true,List.all_eq_true,List.mem_range,Bool.or_eq_true] at this;rcases this.2 j hj with h | h
  ·exact .inl (by rw [b];exact h)
  ·simp only [Option.any_eq_true] at h;obtain ⟨x,p,y,r,h⟩:=h;exact .inr ⟨x,y,p,r,h⟩
structure iy (ops:Array Oper) (listed:Array Bool) (p:Nat->Prop):Prop where
 size:listed.size=ops.size
 iff:∀ i,i<ops.size->(listed.getD i false=true↔p i)
theorem fk {ops:Array Oper} {listed:Array Bool} {p:Nat->Prop} (b:iy ops listed p) (i:Nat) :
  i∈Region.ready .any ops listed↔∃ o,ops[i]? = some o/\¬ p i/\∀ e∈o.after.toList,Region.binds .any e=true->listed.getD e.on false=true:=by
 unfold Region.ready;simp only [List.mem_filter,List.mem_range,Bool.and_eq_true,Bool.not_eq_true'];constructor
 ·rintro ⟨hi,c,h2⟩;refine ⟨ops[i],Array.getElem?_eq_getElem hi,?_,?_⟩
  ·intro d;have:=(b.iff i hi).2 d;simp only [Array.getD_eq_getD_getElem?] at c this;rw [Array.getElem?_eq_getElem (by rw [b.size];exact hi)] at c this;simp only [Option.getD_some] at c this;rw [c] at this;cases this
  ·intro e j hb;rw [Array.getElem?_eq_getElem hi] at h2;simp only [Option.map_some,Option.getD_some] at h2;have:=Array.all_eq_true'.1 h2 e (by simpa using j);rw [hb] at this;simpa using this
 ·rintro ⟨o,l,d,h⟩;have hi:i<ops.size:=by
   rcases Nat.lt_or_ge i ops.size with h | h
   ·exact h
   ·simp [Array.getElem?_eq_none h] at l
  refine ⟨hi,?_,?_⟩
  ·cases k:listed.getD i true with
   | false=>rfl
   | true =>
    exfalso;apply d;rw [<- b.iff i hi];simp only [Array.getD_eq_getD_getElem?] at k ⊢;rw [Array.getElem?_eq_getElem (by rw [b.size];exact hi)] at k ⊢;exact k
  ·rw [l];simp only [Option.map_some,Option.getD_some];rw [Array.all_eq_true'];intro e j;cases hb:Region.binds .any e with
   | false=>simp
   | true=>simp [h e (by simpa using j) hb]
theorem iy.set {ops:Array Oper} {listed:Array Bool} {p p':Nat->Prop} (b:iy ops listed p) {i:Nat} (d:∀ j,p' j↔(j=i\/p j)):iy ops (listed.setIfInBounds i true) p':=by
 refine ⟨by simp [b.size],fun j hj=>?_⟩;simp only [Array.getD_eq_getD_getElem?];rw [Array.getElem?_setIfInBounds];have:=b.iff j hj;simp only [Array.getD_eq_getD_getElem?] at this;by_cases h:i=j
 ·subst h;simp [b.size,hj,d]
 ·rw [if_neg h,d,this];constructor
  ·exact .inr
  ·rintro (c | c)
   ·exact absurd c.symm h
   ·exact c
theorem iy.down {ops:Array Oper} {m:Nat} {A:List (List Nat)} (j:xQ ops m A) {listed:Array Bool} {p:Nat->Prop} (c:iy ops listed p)
  (k:∀ i,i<ops.size->p i->∀ o,ops[i]? = some o->∀ e∈o.after.toList,Region.binds .any e=true->p e.on):Down ops listed:=by
 intro i o b l e d hb;have hi:i<ops.size:=by
  rcases Nat.lt_or_ge i ops.size with h | h
  ·exact h
  ·simp [Array.getElem?_eq_none h] at b
 have n:=j.back i o b e d hb;exact (c.iff e.on (by omega)).2 (k i hi ((c.iff i hi).1 l) o b e d hb)
theorem Fo (hT:TT.Ok P T) {m:Nat} (G:xQ ops m A) {Q:Exit->Fr->AS->Prop} {B:Nat} {Fl:bS} {s0:AS} {w0:World}:∀ (fuel k:Nat) (listed:Array Bool) (f:Fr) (s:AS) (γ:bS) (a:Act) (w:World),
  m<=k->k<=ops.size->iy ops listed (·<k)->ops.size - k<=fuel->fD P T n ops (ops.toList.drop k) f s (fun f s=>Q .normal f s)->nP γ n f a->Rel B γ s w->fV B Fl s0 w0 γ s w ->
  wpAny P .any ops (vu B Fl s0 w0 n Q) fuel listed a w:=by
 intro fuel
 induction fuel with
 | zero =>
  intro k listed f s γ a w hm L d hf h b hr hd;have r:k=ops.size:=by omega
  subst r;rw [List.drop_eq_nil_of_le (by simp)] at h;refine ⟨?_,γ,f,s,b,hd,hr,h⟩;rw [List.eq_nil_iff_forall_not_mem];intro i hi;obtain ⟨o,p,C,_⟩:=(fk d i).1 hi;apply C;rcases Nat.lt_or_ge i ops.size with h | h
  ·exact h
  ·simp [Array.getElem?_eq_none h] at p
 | succ fuel K =>
  intro k listed f s γ a w hm L d hf h b hr hd;rcases Nat.lt_or_ge k ops.size with x | M
  ·have H:ops.toList.drop k=ops[k]::ops.toList.drop (k+1):=by
    rw [List.drop_eq_getElem_cons (by simpa using x)];simp
   have y:ops[k]? = some ops[k]:=Array.getElem?_eq_getElem x;have l:∀ i,i∈Region.ready .any ops listed->i=k:=by
    intro i hi;obtain ⟨o,p,C,D⟩:=(fk d i).1 hi;have I:i<ops.size:=by
     rcases Nat.lt_or_ge i ops.size with h | h
     ·exact h
     ·simp [Array.getElem?_eq_none h] at p
    rcases Nat.lt_trichotomy i k with h | h | h
    ·exact absurd h C
    ·exact h
    ·exfalso;have z:=d.down G (fun i _ O o p e D hb=>by have:=G.back i o p e D hb;omega);have:=jB z i o p D (G.tail i I (by omega) k h);have:=(d.iff k x).1 this;omega
   refine ⟨fun c=>?_,fun i hi=>?_⟩
   ·exfalso;have:k∈Region.ready .any ops listed:=by
     refine (fk d k).2 ⟨_,y,by omega,fun e D hb=>?_⟩;have:=G.back k _ y e D hb;exact (d.iff e.on (by omega)).2 this
    rw [c] at this;cases this
   ·obtain rfl:=l i hi;rw [H] at h;simp only [fD] at h;have F:iy ops (listed.setIfInBounds i true) (·<i+1):=d.set fun j=>by omega
    unfold wpOp;rw [y];simp only;split at h
    ·rename_i J;rw [ew b J,if_pos rfl];exact .inl (jA hT h b hr fun γ' f' s' a' w' R h2 h3 h4=>K (i+1) _ f' s' γ' a' w' (by omega) (by omega) F (by omega) h4 R h3 (hd.trans h2))
    ·rename_i J;rw [ew b J,if_neg (by simp)];exact K (i+1) _ _ s γ _ w (by omega) (by omega) F (by omega) h.2 (b.put h.1 (pN γ)) hr hd
    ·exact h.elim
  ·have r:k=ops.size:=by omega
   subst r;rw [List.drop_eq_nil_of_le (by simp)] at h;have c:Region.ready .any ops listed=[]:=by
    rw [List.eq_nil_iff_forall_not_mem];intro i hi;obtain ⟨o,p,C,_⟩:=(fk d i).1 hi;apply C;rcases Nat.lt_or_ge i ops.size with h | h
    ·exact h
    ·simp [Array.getElem?_eq_none h] at p
   refine ⟨fun _=>⟨γ,f,s,b,hd,hr,h⟩,fun i hi=>?_⟩;rw [c] at hi;cases hi
theorem Ll (hT:TT.Ok P T) (ba:1<=s.st) {m:Nat} (K:xQ ops m A) (hS:∀ i k v s s',Ext s s'->S i k v s->S i k v s') {Q:Exit->Fr->AS->Prop} {B:Nat} {Fl:bS} {s0:AS} {w0:World} :
  ∀ (fuel:Nat) (q:List Nat) (listed:Array Bool) (f:Fr) (F:ki) (s1:AS) (γ:bS) (a:Act) (w:World),
  q.Pairwise (·<·)->(∀ i∈q,i<m)->iy ops listed (fun i=>i<m/\i ∉ q)->q.length+(ops.size - m)<=fuel ->
  WO P T n ops A H V S s (fun f s'=>fD P T n ops (ops.toList.drop m) f s' (fun f s=>Q .normal f s)) q f F->Ext s s1->(H=[]->s1=s)->(∀ p∈F,p.2 s1)->(∀ p∈F,∀ s s',Ext s s'->p.2 s->p.2 s') ->
  nP γ n f a->Rel B γ s1 w->fV B Fl s0 w0 γ s1 w->Down ops listed ->
  wpAny P .any ops (vu B Fl s0 w0 n Q) fuel listed a w:=by
 intro fuel
 induction fuel with
 | zero =>
  intro q listed f F s1 γ a w j L J hf h l M hF r G hr hd z;obtain rfl:q=[]:=List.length_eq_zero_iff.1 (by omega);have hle:=K.le;refine Fo hT K 0 m listed f s1 γ a w (Nat.le_refl _) K.le ⟨J.size,fun i hi=>by rw [J.iff i hi];simp⟩ (by omega) (h s1 l hr.Ns hF trivial M) G hr hd
 | succ fuel ih =>
  intro q listed f F s1 γ a w j L J hf h l M hF r G hr hd z;have hle:=K.le;cases q with
  | nil=>exact Fo hT K (fuel+1) m listed f s1 γ a w (Nat.le_refl _) K.le ⟨J.size,fun i hi=>by rw [J.iff i hi];simp⟩ (by simpa using hf) (h s1 l hr.Ns hF trivial M) G hr hd
  | cons W q' =>
   refine ⟨fun ao=>?_,fun i hi=>?_⟩
   ·exfalso;have a0:=L W (by simp);have:W∈Region.ready .any ops listed:=by
     refine (fk J W).2 ⟨_,Array.getElem?_eq_getElem (by omega),by simp,fun e he hb=>?_⟩;have:=K.back W _ (Array.getElem?_eq_getElem (by omega)) e he hb;refine (J.iff e.on (by omega)).2 ⟨by omega,?_⟩;simp only [List.mem_cons,not_or];refine ⟨by omega,fun hm=>?_⟩;have:=(List.pairwise_cons.1 j).1 e.on hm;omega
    rw [ao] at this;cases this
   ·obtain ⟨o,ho,hp,he⟩:=(fk J i).1 hi;have a1:i<ops.size:=by
     rcases Nat.lt_or_ge i ops.size with h | h
     ·exact h
     ·simp [Array.getElem?_eq_none h] at ho
    have X:i<m:=by
     rcases Nat.lt_or_ge i m with h | h
     ·exact h
     ·exfalso;have a0:=L W (by simp);have:=jB z i o ho he (K.tail i a1 h W (by omega));have:=(J.iff W (by omega)).1 this;exact this.2 (by simp)
    have a2:i∈W::q':=by
     by_cases h:i∈W::q'
     ·exact h
     ·exact absurd ⟨X,h⟩ hp
    obtain ⟨pre,post,hq⟩:=List.append_of_mem a2;rw [hq] at h j L J hf;have ad:∀ k∈pre,k<i:=by
     intro k I;have:=(List.pairwise_append.1 j).2.2 k I i (by simp);exact this
    have al:∀ k∈pre,∀ ok,ops[k]? = some ok->Ue ops A k i ok o:=by
     intro k I ok O;have Y:=ad k I;have a3:k<ops.size:=by omega
     have ar:gZ ops k i=false:=by
      cases a4:gZ ops k i with
      | false=>rfl
      | true =>
       have:=jB z i o ho he a4;have:=(J.iff k a3).1 this;exact absurd (by simp [I]:k∈pre++i::post) this.2
     refine ⟨?_,?_,?_⟩
     ·rcases K.free i X k Y with h | ⟨x,y,hx,hy,h⟩
      ·rw [ar] at h;cases h
      ·rw [O] at hx;rw [ho] at hy;obtain rfl:=Option.some.inj hx;obtain rfl:=Option.some.inj hy;exact h
     ·cases hc:(A.getD i []).contains k with
      | false=>rfl
      | true =>
       have:=(K.VB i X k (by simpa using hc)).1;rw [ar] at this;cases this
     ·cases hc:(A.getD k []).contains i with
      | false=>rfl
      | true =>
       have:=(K.VB k (by omega) i (by simpa using hc)).2;omega
    have d:=Ao ho pre post f F _ al (by simp) h;have C:(pre++post).Pairwise (·<·):=by
     have:=List.pairwise_append.1 j;rw [List.pairwise_append];exact ⟨this.1,(List.pairwise_cons.1 this.2.1).2,fun x hx y hy=>this.2.2 x hx y (by simp [hy])⟩
    have ae:i ∉ pre++post:=by
     intro hm;rcases List.mem_append.1 hm with h | h
     ·have:=ad i h;omega
     ·have:=(List.pairwise_cons.1 (List.pairwise_append.1 j).2.1).1 i h;omega
    have am:iy ops (listed.setIfInBounds i true) (fun k=>k<m/\k ∉ pre++post):=by
     refine J.set fun k=>?_;simp only [List.mem_append,List.mem_cons,not_or];constructor
     ·rintro ⟨Z,h2,h3⟩;by_cases I:k=i
      ·exact .inl I
      ·exact .inr ⟨Z,h2,I,h3⟩
     ·rintro (rfl | ⟨Z,h2,h3,h4⟩)
      ·simp only [List.mem_append,not_or] at ae;exact ⟨X,ae⟩
      ·exact ⟨Z,h2,h4⟩
    have D:Down ops (listed.setIfInBounds i true):=by
     intro k ok O I e aw hb;have mono:listed.getD e.on false=true->(listed.setIfInBounds i true).getD e.on false=true:=by
      intro h;have a5:e.on<listed.size:=by
       rcases Nat.lt_or_ge e.on listed.size with h' | h'
       ·exact h'
       ·simp [Array.getD_eq_getD_getElem?,Array.getElem?_eq_none h'] at h
      simp only [Array.getD_eq_getD_getElem?,Array.getElem?_setIfInBounds] at h ⊢;split
      ·rename_i a6;subst a6;simp [a5]
      ·exact h
     by_cases Y:i=k
     ·subst Y;rw [ho] at O;obtain rfl:=Option.some.inj O;exact mono (he e aw hb)
     ·refine mono (z k ok O ?_ e aw hb);simp only [Array.getD_eq_getD_getElem?,Array.getElem?_setIfInBounds] at I ⊢;rw [if_neg Y] at I;exact I
    have hlen:(pre++post).length+(ops.size - m)<=fuel:=by simp at hf ⊢;omega
    have R:∀ k∈pre++post,k<m:=fun k I=>L k (by rcases List.mem_append.1 I with h | h <;> simp [h]);obtain ⟨U,d⟩:=d;unfold wpOp;rw [ho];simp only;cases hw:dn ops f o with
    | none=>rw [hw] at d;exact d.elim
    | some b =>
     rw [hw] at d;rw [ew G hw];cases b with
     | false =>
      rw [if_neg (by simp)];exact ih _ _ _ F s1 γ _ w C R am hlen d.2 l M hF r (G.put U (pN γ)) hr hd D
     | true =>
      rw [if_pos rfl];simp only at d;by_cases hh:H.contains i=true
      ·rw [if_pos hh] at d;obtain ⟨hA,_,hK⟩:=d;have hv:=hA s1 l hr.Ns (fun p hp _=>hF p hp) (fun _=>trivial);have an:Fk P T n o f s1 (fun f2 s2=>∃ v,f2=bT f o.dst v/\Ext s1 s2/\S i (keyOf f o) v s2/\V i (keyOf f o) v):=lV U hv fun v s2 ⟨Z,h2,h3⟩=>⟨v,rfl,Z,h2,h3⟩;refine .inl (jA hT an G hr ?_);rintro γ' f' s' a' w' Z h2 h3 ⟨v,rfl,h4,h5,h6⟩;refine ih _ _ _ _ s' γ' a' w' C R am hlen (hK v h6) (l.trans h4) (fun e=>by rw [e] at hh;cases hh) ?_ ?_ Z h3 (hd.trans h2) D
       ·intro p hp;rcases List.mem_append.1 hp with h | h
        ·exact r p h _ _ h4 (hF p h)
        ·obtain rfl:=List.mem_singleton.1 h;exact h5
       ·intro p hp;rcases List.mem_append.1 hp with h | h
        ·exact r p h
        ·obtain rfl:=List.mem_singleton.1 h;exact fun s s' he=>hS i _ v s s' he
      ·rw [if_neg hh] at d;obtain ⟨_,ab,v,⟨hv,a7⟩,hK⟩:=d;have a8:=a7 _ l hr.Ns;have a9:fj f o.op=none:=by
        unfold fj;split
        ·rename_i c hc;rw [hc] at ab;simp only [mA] at ab;split
         ·rename_i x hx;rw [hx] at ab;cases ab
         ·rfl
        ·rfl
       have an:Fk P T n o f s1 (fun f2 s2=>f2=bT f o.dst v/\s2=s1):=by
        refine ⟨U,.inl ?_⟩;rw [a9];exact ⟨v,s1,a8,rfl,rfl⟩
       refine .inl (jA hT an G hr ?_);rintro γ' f' s' a' w' Z h2 h3 ⟨rfl,rfl⟩;exact ih _ _ _ F _ γ' a' w' C R am hlen hK l M hF r Z h3 (hd.trans h2) D
end
theorem kK.draw {P:Program} {T:TT} (hT:TT.Ok P T) (bY:P.follows .mixedOrders=true) {n id:Nat} {ops:Array Oper} {f:Fr} {s:AS} {Q:Exit->Fr->AS->Prop} (m:Nat) (A:List (List Nat)) (bs:List Nat) (H:List Nat)
  (V:Nat->List AV->AV->Prop) (S:Nat->List AV->AV->AS->Prop) (b:Fm ops m A bs=true) (e:∀ i k v s s',Ext s s'->S i k v s->S i k v s')
  (h:WO P T n ops A H V S s (fun f s'=>fD P T n ops (ops.toList.drop m) f s' (fun f s=>Q .normal f s)) (List.range m) f []):kK P n (.region id ops true) f s Q:=by
 intro B γ a w hf hr;have d:=Ie b;have hle:=d.le;refine wp_region_any bY ?_;refine Ll hT hr.RD d e ops.size (List.range m) _ f [] s γ a { w with drawn:=w.drawn+1 } List.pairwise_lt_range (fun i hi=>List.mem_range.1 hi) ⟨by simp,fun i hi=>?_⟩ (by simp;omega) h (Ext.refl s) (fun _=>rfl) (by simp) (by simp) hf (hr.of_heap rfl) (fV.of_heap rfl) ?_
 ·simp [Array.getD_eq_getD_getElem?,hi]
 ·intro i o j c;simp only [Array.getD_eq_getD_getElem?] at c;by_cases hi:i<ops.size
  ·simp [hi] at c
  ·simp [hi] at c
end Go.Am
end

section
namespace Go.Am
def TT.of (P:Program):TT where
 cR t:=P.underlying t
 eU t:=(P.info? t).map (·.size)
 He t:=(P.info? t).map (·.bytes)
 rP t:=(P.info? t).bind fun i=>i.zero.map B2
 Rv t:=!P.eqGuardType P.depth t
 T6 t:=!P.stoodInHeld t
theorem TT.WQ (P:Program):TT.Ok P (TT.of P) where
 cR _ _ h:=h
 eU _ _ h:=h
 He _ _ h:=h
 rP t v h:=by
  simp only [TT.of,Option.bind_eq_some_iff,Option.map_eq_some_iff] at h;obtain ⟨i,hi,c,b,rfl⟩:=h;exact ⟨i,c,hi,b,fun γ=>EC γ c⟩
 Rv t h:=by simpa [TT.of] using h
 T6 t h:=by simpa [TT.of] using h
section
variable (T:TT) (ρ:Operand->AV) (s:AS)
end
@[simp] theorem uA (k:IntKind) (n:Int):bO (.int k n)=some [.int k n]:=rfl
@[simp] theorem Vh (b:Bool):bO (.bool b)=some [.bool b]:=rfl
@[simp] theorem VC (b:List UInt8):bO (.str b)=some [.str b]:=rfl
@[simp] theorem VD (a:Option (Nat×Nat)):bO (.ptr a)=some [.ptr a]:=rfl
@[simp] theorem VE (a:Option (Nat×Nat)) (n m:Nat) (e:Bool):bO (.slc a n m e)=some [.slc a n m e]:=rfl
@[simp] theorem VF:bO .emp=some [.emp]:=rfl
@[simp] theorem VG (a:Option Nat):bO (.map a)=some [.map a]:=rfl
theorem NL (l:List AV):bO (.agg l)=if l.all AV.one then some l else none:=rfl
@[simp] theorem Uf (k:IntKind) (n:Int):(AV.int k n).one=true:=rfl
@[simp] theorem WR (b:Bool):(AV.bool b).one=true:=rfl
@[simp] theorem Xo (b:List UInt8):(AV.str b).one=true:=rfl
@[simp] theorem Xp (a:Option (Nat×Nat)):(AV.ptr a).one=true:=rfl
@[simp] theorem Xq (a:Option (Nat×Nat)) (n m:Nat) (e:Bool):(AV.slc a n m e).one=true:=rfl
@[simp] theorem Xr (a:Option Nat):(AV.map a).one=true:=rfl
section
variable (T:TT) (t:TypeId) (k:IntKind) (a b:Int)
end
def gd (ops:Array Oper) (f:Fr):Option (Nat×Bool)->Option Bool
 | none=>some true
 | some (j,want)=>c want (((ops[j]?).bind (·.dst)).map f)
where
 c (want:Bool):Option AV->Option Bool
  | some (.bool b)=>some (b==want)
  | some (.aN _)=>some false
  | some _=>none
  | none=>some false
section
variable {P:Program} {T:TT} {n:Nat} {ops:Array Oper} {o:Oper} {os:List Oper} {f:Fr} {s:AS} {K:Fr->AS->Prop}
end
def WS (T:TT) (rs:List ResultVar) (R:AV->AS->Prop):Exit->Fr->AS->Prop:=fun e f s'=>match e with
 | .normal | .ret=>∃ v,x9 T rs f s'=some v/\R v s'
 | _=>False
theorem aa.body {P:Program} {T:TT} (hT:TT.Ok P T) {g:FuncId} {fn:Func} {c:Code} {args:List AV} {s:AS} {R:AV->AS->Prop} {n:Nat} {rs:List ResultVar} (hf:P.funcs[g]? = some fn) (d:gj P g=true) (hb:fn.body=some c)
  (e:args.length+(fn.ntmps - args.length)=n) (b:fn.results.toList=rs) (h:kK P n c (rR args) s (WS T rs R)):aa P g args s R:=by
 subst e b;exact aa.Ub hT hf d hb h
theorem yT {T:TT} {t:TypeId} (h:T.agg t=some false) (s:AS) (l o:Nat):Hf T t s (.ptr (some (l,o)))=au s l o:=by unfold Hf;simp only [h]
theorem Ug {T:TT} {t n:Nat} (h:T.agg t=some true) (b:T.eU t=some n) (s:AS) (l o:Nat):Hf T t s (.ptr (some (l,o)))=(aC s l o n).map .agg:=by unfold Hf;simp only [h,b,Option.bind_some]
theorem VH {s:AS} {l o:Nat} {cs:List AV} {g:Nat} {ro:Bool} (h:s.h l=some (.cells cs g ro)):au s l o=cs[o]? := by simp [au,h]
theorem uB {s:AS} {l o n:Nat} {cs:List AV} {g:Nat} {ro:Bool} (h:s.h l=some (.cells cs g ro)) (b:o+n<=cs.length):aC s l o n=some ((cs.drop o).take n):=by simp [aC,h,b]
end Go.Am
end

section
namespace Go.Am
abbrev Lm:=FuncId->List AV->AS->Option (AV×AS)
def Jq (P:Program) (call:Lm):Prop:=∀ g args s v s',call g args s=some (v,s')->aa P g args s fun b s2=>b=v/\s2=s'
section
variable {P:Program} {T:TT} (hT:TT.Ok P T) {call:Lm} (Aq:Jq P call)
include hT Aq
end
/-! ### A region that draws its order -/
end Go.Am
end

section
namespace Go.Am
section
variable (P:Program) (T:TT) (n:Nat) (ops:Array Oper) (XB:Nat->Option (AV×AS)) (vw:Nat->AS)
end
section
variable {P:Program} {T:TT} {n:Nat} {ops:Array Oper} {XB:Nat->Option (AV×AS)} {vw:Nat->AS} {K:Fr->Prop}
end
/-! ### The heap,half way -/
section
variable {B:Nat} {Fl γ:bS} {s:AS} {w0 w:World} {m:Nat} {XB:Nat->Option (AV×AS)} {L:Nat->Prop}
end
/-! ### Every order -/
section
variable {P:Program} {T:TT} {n:Nat} {ops:Array Oper} {XB:Nat->Option (AV×AS)} {vw:Nat->AS} {s sm:AS}
end
end Go.Am
end

section
namespace Go.Am
section
variable {P:Program} {T:TT} (hT:TT.Ok P T) {call:Lm} (Aq:Jq P call) {n:Nat} {ops:Array Oper} {bs:List Nat} {m:Nat} {s:AS} {K:Fr->Prop}
include hT Aq
end
section
variable {P:Program} {T:TT} (hT:TT.Ok P T) {call:Lm} (Aq:Jq P call) (bY:P.follows .mixedOrders=true)
include hT Aq bY
end
/-! ### A region that draws the order of operations that need no heap -/
end Go.Am
end

section
namespace Go.Am
inductive TK where
 | int (k:IntKind)
 | bool
 | str
 | ptr
 | map
 | agg
 | any
 | aN (l:List TK)
def WT (T:TT) (t:TypeId):TK:=match T.cR t with
 | some (.int k)=>.int k
 | some .bool=>.bool
 | some .string=>.str
 | some (.pointer _)=>.ptr
 | some (.map _ _)=>.map
 | some (.struct _)=>.agg
 | some (.array _ _)=>.agg
 | _=>.any
def Ln (T:TT) (t:TypeId):TK:=match T.cR t with
 | some (.tuple es)=>.aN (es.toList.map (WT T))
 | _=>WT T t
/-! ### the words -/
def aU (k:IntKind) (o:Option AV) (K:Int->Prop):Prop:=∃ n,o=some (.int k n)/\K n
def NM (o:Option AV) (K:Bool->Prop):Prop:=∃ b,o=some (.bool b)/\K b
def rG (o:Option AV) (K:List UInt8->Prop):Prop:=∃ b,o=some (.str b)/\K b
def pL (o:Option AV) (K:Option (Nat×Nat)->Prop):Prop:=∃ a,o=some (.ptr a)/\K a
def yD (o:Option AV) (K:Option Nat->Prop):Prop:=∃ r,o=some (.map r)/\K r
def nQ (o:Option AV) (K:List AV->Prop):Prop:=∃ l,o=some (.agg l)/\K l
def dI (o:Option AV) (K:AV->Prop):Prop:=∃ v,o=some v/\K v
def aR (o:Option (List AV)) (K:List AV->Prop):Prop:=∃ l,o=some l/\K l
def uC (o:Option Bool) (K:Bool->Prop):Prop:=∃ b,o=some b/\K b
def bu (o:Option AS) (K:AS->Prop):Prop:=∃ s,o=some s/\K s
def iT (o:Option (AV×AS)) (K:AV->AS->Prop):Prop:=∃ v s,o=some (v,s)/\K v s
def bJ (o:Option AV) (K:Nat->Nat->Prop):Prop:=∃ l i,o=some (.ptr (some (l,i)))/\K l i
def ai (a:Option (Nat×Nat)) (K:Nat->Nat->Prop):Prop:=match a with
 | some (l,i)=>K l i
 | none=>False
def fC (n:Option Nat) (l:List AV) (P:Prop):Prop:=(l.all AV.one=true/\n=some l.length)/\P
def cH (l:List AV) (P:Prop):Prop:=l.all AV.one=true/\P
def af (b:Bool) (X Y:Prop):Prop:=match b with
 | true=>X
 | false=>Y
def NZ (b:Int) (P:Prop):Prop:=b≠0/\P
def NN (b:Int) (P:Prop):Prop:=0<=b/\P
def Pr (n:Nat) (P:Prop):Prop:=(n:Int)<=9223372036854775807/\P
def ez (P:Program) (v:AV) (args:List AV) (s:AS) (R:AV->AS->Prop):Prop:=match v with
 | .func g cap=>aa P g (args++cap) s R
 | .uk g ft cap=>aa P g (ft++(args++cap)) s R
 | _=>False
def aj (o:AO) (s:AS) (K:Nat->AS->Prop):Prop:=K s.nl (s.new o)
def bG (A:(List AV->AS->Prop)->Prop):Prop:=∃ J,A J
def bA (A:(Nat->List AV->AS->Prop)->Nat->Prop):Prop:=∃ I m,A I m
def gL (A:(Nat->List AV->AV->AS->Prop)->(Nat->List AV->AV->Prop)->Prop):Prop:=∃ S V,(∀ i k v s s',Ext s s'->S i k v s->S i k v s')/\A S V
def rS (s:AS) (A:(AS->AS->Prop)->(Nat->List AV->AV->AS->Prop)->(AS->Prop)->(Nat->List AV->AV->AS->Prop)->(Nat->List AV->AV->Prop)->Prop):Prop :=
 ∃ X C c S V,(∀ s s',Ext s s'->X s s')/\(∀ a b c,X a b->X b c->X a c)/\(∀ i k v s s',Ext s s'->C i k v s->C i k v s')/\(∀ i k v s s',X s s'->S i k v s->S i k v s')/\(∀ s s',Ext s s'->c s->c s')/\c s/\A X C c S V
def RK:List TK->List AV->(List AV->Prop)->Prop
 | [],acc,F=>F acc
 | .int k::c,acc,F=>∃ n:Int,RK c (acc++[.int k n]) F
 | .bool::c,acc,F=>∃ b:Bool,RK c (acc++[.bool b]) F
 | .str::c,acc,F=>∃ b:List UInt8,RK c (acc++[.str b]) F
 | .ptr::c,acc,F=>∃ a:Option (Nat×Nat),RK c (acc++[.ptr a]) F
 | .map::c,acc,F=>∃ r:Option Nat,RK c (acc++[.map r]) F
 | .agg::c,acc,F=>∃ l:List AV,RK c (acc++[.agg l]) F
 | _::c,acc,F=>∃ v:AV,RK c (acc++[v]) F
theorem Fp:∀ {b:List TK} {acc:List AV} {F:List AV->Prop},RK b acc F->∃ l,F l
 | [],acc,F,h=>⟨acc,h⟩
 | k::b,acc,F,h=>by
  cases k <;> (simp only [RK] at h;obtain ⟨_,h⟩:=h;exact Fp h)
def rd (k:TK) (o:Option AV) (K:AV->Prop):Prop:=match k with
 | .int k=>aU k o fun n=>K (.int k n)
 | .bool=>NM o fun b=>K (.bool b)
 | .str=>rG o fun b=>K (.str b)
 | .ptr=>pL o fun a=>K (.ptr a)
 | .map=>yD o fun a=>K (.map a)
 | .agg=>nQ o fun a=>K (.agg a)
 | .any=>dI o K
 | .aN c=>RK c [] fun l=>o=some (.aN l)/\K (.aN l)
theorem rd_some {k:TK} {o:Option AV} {K:AV->Prop} (h:rd k o K):∃ v,o=some v/\K v:=by
 cases k with
 | aN c=>obtain ⟨l,b,h2⟩:=Fp h;exact ⟨_,b,h2⟩
 | _=>obtain ⟨n,b,h2⟩:=h;exact ⟨_,b,h2⟩
def WU (k:TK) (v:AV) (K:AV->Prop):Prop:=match k with
 | .int k=>∃ n,v=.int k n/\K (.int k n)
 | .bool=>∃ b,v=.bool b/\K (.bool b)
 | .str=>∃ b,v=.str b/\K (.str b)
 | .ptr=>∃ a,v=.ptr a/\K (.ptr a)
 | .map=>∃ a,v=.map a/\K (.map a)
 | .agg=>∃ a,v=.agg a/\K (.agg a)
 | .any=>K v
 | .aN c=>RK c [] fun l=>v=.aN l/\K (.aN l)
theorem Ar {k:TK} {v:AV} {K:AV->Prop} (h:WU k v K):K v:=by
 cases k with
 | aN b=>obtain ⟨l,rfl,h2⟩:=Fp h;exact h2
 | any=>exact h
 | _=>obtain ⟨n,rfl,h2⟩:=h;exact h2
def dw (T:TT) (t:TypeId) (len:Nat) (parts:List (Nat×AV)):Option (List AV) :=
 match T.cR t with
 | some (.slice elem) =>
  (T.eU elem).bind fun n=>(T.rP elem).bind fun z=>(bO z).bind fun zc =>
   if zc.length=n/\len*n<=2 ^ 24 then jt (fun i=>some (i*n,n)) (rep len zc) parts else none
 | _=>none
def RL (op:BinOp) (k:IntKind) (a b:Int) (K:AV->Prop):Prop:=match op with
 | .add=>K (.int k (k.wrap (a+b)))
 | .sub=>K (.int k (k.wrap (a - b)))
 | .mul=>K (.int k (k.wrap (a*b)))
 | .quo=>NZ b (K (.int k (k.wrap (a.tdiv b))))
 | .rem=>NZ b (K (.int k (a.tmod b)))
 | .eql=>K (.bool (a==b))
 | .neq=>K (.bool (a != b))
 | .lss=>K (.bool (decide (a<b)))
 | .leq=>K (.bool (decide (a<=b)))
 | .gtr=>K (.bool (decide (a>b)))
 | .geq=>K (.bool (decide (a>=b)))
 | op=>aU k (bD op k a b) fun n=>K (.int k n)
def Qm (T:TT) (t:TypeId) (c:Bool):AV->AV->Bool
 | .agg _,.agg _=>T.Rv t
 | .nilIface,.nilIface=>c
 | .bad,_=>false
 | _,.bad=>false
 | _,_=>true
theorem Jr (T:TT) (t:TypeId) (x y:Operand) (u v:AV):Nw T t x y u v=Qm T t (Nv x||Nv y) u v:=by
 cases u <;> cases v <;> rfl
def VI (T:TT) (op:BinOp) (t:TypeId) (c:Bool) (x y:AV) (K:AV->Prop):Prop :=
 match op,x,y with
 | .shl,.int k a,.int _ b=>NN b (K (.int k (k.wrap (a*2 ^ min b.toNat k.bits))))
 | .shr,.int k a,.int _ b=>NN b (K (.int k (a.fdiv (2 ^ min b.toNat k.bits))))
 | op,.int k a,.int k' b=>bif k==k' then RL op k a b K else False
 | .add,.str a,.str b=>Pr (a.length+b.length) (K (.str (a++b)))
 | .eql,.str a,.str b=>K (.bool (a==b))
 | .neq,.str a,.str b=>K (.bool !(a==b))
 | .lss,.str a,.str b=>K (.bool (jf a b))
 | .leq,.str a,.str b=>K (.bool (jf a b||a==b))
 | .gtr,.str a,.str b=>K (.bool !(jf a b||a==b))
 | .geq,.str a,.str b=>K (.bool !(jf a b))
 | .eql,.bool a,.bool b=>(match T.cR t with | some .bool=>K (.bool (a==b)) | _=>False)
 | .neq,.bool a,.bool b=>(match T.cR t with | some .bool=>K (.bool !(a==b)) | _=>False)
 | .eql,.agg xs,.agg ys=>bif T.Rv t then uC (je T 100 t (.agg xs) (.agg ys)) fun b=>K (.bool b) else False
 | .neq,.agg xs,.agg ys=>bif T.Rv t then uC (je T 100 t (.agg xs) (.agg ys)) fun b=>K (.bool !b) else False
 | .eql,.ptr a,.ptr b=>uC (je T 100 t (.ptr a) (.ptr b)) fun b=>K (.bool b)
 | .neq,.ptr a,.ptr b=>uC (je T 100 t (.ptr a) (.ptr b)) fun b=>K (.bool !b)
 | .eql,.map a,.map b=>uC (je T 100 t (.map a) (.map b)) fun b=>K (.bool b)
 | .neq,.map a,.map b=>uC (je T 100 t (.map a) (.map b)) fun b=>K (.bool !b)
 | .eql,x,y=>Qm T t c x y=true/\uC (je T 100 t x y) fun b=>K (.bool b)
 | .neq,x,y=>Qm T t c x y=true/\uC (je T 100 t x y) fun b=>K (.bool !b)
 | _,_,_=>False
def RM:Option TypeDesc->Bool
 | some (.slice _)=>true
 | some (.func _ _ _)=>true
 | some (.interface _)=>true
 | _=>false
def Rw (T:TT) (t:TypeId) (c:Bool) (x y:AV):Option Bool:=if Qm T t c x y=true then je T 100 t x y else none
def RN (T:TT) (op:BinOp) (t:TypeId) (c:Bool) (x y:AV) (K:AV->Prop):Prop :=
 match RM (T.cR t),op with
 | true,.eql=>uC (Rw T t c x y) fun b=>K (.bool b)
 | true,.neq=>uC (Rw T t c x y) fun b=>K (.bool !b)
 | _,op=>VI T op t c x y K
def NO (v:AV) (F:List AV->Prop):Prop:=match v with
 | .agg l=>cH l (F l)
 | .aN _=>False
 | .bad=>False
 | v=>F [v]
def fQ (T:TT) (t:TypeId) (s:AS) (l off:Nat) (v:AV) (K:AS->Prop):Prop:=match v with
 | .agg cs=>fC (T.eU t) cs (bu (cU s l off cs) K)
 | .aN _=>False
 | .bad=>False
 | v=>bif T.eU t==some 1 then bu (cU s l off [v]) K else False
def VJ (T:TT) (t:TypeId) (x:AV) (s:AS):Option (AV×AS):=match T.cR t,x with
 | some .string,.str b=>some (.ptr (some (s.nl,0)),s.new (.qb b 0 false))
 | some (.map _ _),.map none=>some (.ptr (some (s.nl,0)),s.new (.fP none 0 [] 0 false))
 | some (.map _ _),.map (some m)=>match s.h m with
  | some (.map _ clock _)=>some (.ptr (some (s.nl,0)),s.new (.fP (some m) clock [] clock false))
  | _=>none
 | _,_=>none
def yU (x:AV) (s:AS):Option (Bool×List (AV×AV×AS)):=match x with
 | .ptr (some (l,0))=>match s.h l with
  | some (.fP none _ _ _ _)=>some (true,[])
  | some (.fP (some m) since seen last false)=>match s.h m with
   | some (.map es clock _) =>
    if seen≠[]/\es≠[]/\(es.all fun e=>decide (last<=e.2.2)) then none else
    let left:=es.filter fun e=>!seen.contains e.2.2
    let old:=left.filter fun e=>decide (e.2.2<since)
    let new:=left.filter fun e=>decide (since<=e.2.2)
    some (old.isEmpty,(old++new).map fun e=>(e.1,e.2.1,s.put l (.fP (some m) since (seen++[e.2.2]) clock false)))
   | _=>none
  | _=>none
 | _=>none
def Vi (o:Option (Bool×List (AV×AV×AS))) (A:Prop) (B:AV->AV->AS->Prop):Prop :=
 ∃ b l,o=some (b,l)/\(b=true->A)/\∀ k v s',(k,v,s')∈l->B k v s'
def Pt (o:Option (Bool×List (AV×AV×AS))) (s:AS) (K:AV->AS->Prop):Prop:=Vi o (K (.aN [.bool false]) s) fun k v s'=>K (.aN [.bool true,k,v]) s'
def X1 (o:Option AV) (K:AV->AV->Prop):Prop:=∃ k v,o=some (.aN [k,v])/\K k v
def NP (x:AV) (s:AS):Option (Option (Int×Int×AS)):=match x with
 | .ptr (some (l,0))=>match s.h l with
  | some (.qb b pos false) =>
   if pos<b.length then some (some (pos,(Utf8.decode ⟨b.toArray⟩ pos).1,s.put l (.qb b (pos+(Utf8.decode ⟨b.toArray⟩ pos).2) false)))
   else some none
  | _=>none
 | _=>none
def WV (o:Option (Option (Int×Int×AS))) (A:Prop) (B:Int->Int->AS->Prop):Prop :=
 ∃ r,o=some r/\(r=none->A)/\∀ i c s',r=some (i,c,s')->B i c s'
def Vj (o:Option (Option (Int×Int×AS))) (s:AS) (K:AV->AS->Prop):Prop:=WV o (K (.aN [.bool false]) s) fun i c s'=>K (.aN [.bool true,.int .i64 i,.int .i32 c]) s'
theorem Ig {it:Operand} {ρ:Operand->AV} {s:AS} {K:AV->AS->Prop} (h:Pt (yU (ρ it) s) s K):∃ l,Dd (.next it false) ρ s=some l/\∀ p∈l,K p.1 p.2:=by
 obtain ⟨b,l,c,h2,h3⟩:=h;unfold yU at c;unfold Dd;simp only;split at c
 ·rename_i l0 d;rw [d];simp only;split at c
  ·rename_i since seen last ro i;obtain ⟨rfl,rfl⟩:true=b/\[]=l:=by simpa using c
   rw [i];exact ⟨_,rfl,fun p d=>by obtain rfl:=List.mem_singleton.1 d;exact h2 rfl⟩
  ·rename_i m since seen last i;rw [i];simp only;split at c
   ·rename_i es clock ro hm;rw [hm];simp only;split at c
    ·cases c
    ·rename_i k;rw [if_neg k];simp only [Option.some.injEq,Prod.mk.injEq] at c;obtain ⟨rfl,rfl⟩:=c;refine ⟨_,rfl,fun p d=>?_⟩;rcases List.mem_append.1 d with d | d
     ·split at d
      ·rename_i j;obtain rfl:=List.mem_singleton.1 d;exact h2 j
      ·cases d
     ·obtain ⟨e,j,rfl⟩:=List.mem_map.1 d;exact h3 _ _ _ (List.mem_map.2 ⟨e,j,rfl⟩)
   ·cases c
  ·cases c
 ·cases c
theorem Qn {it:Operand} {ρ:Operand->AV} {s:AS} {K:AV->AS->Prop} (h:Vj (NP (ρ it) s) s K):∃ l,Dd (.next it true) ρ s=some l/\∀ p∈l,K p.1 p.2:=by
 obtain ⟨r,c,h2,h3⟩:=h;unfold NP at c;unfold Dd;simp only;split at c
 ·rename_i l0 d;rw [d];simp only;split at c
  ·rename_i b pos i;rw [i];simp only [if_true];split at c
   ·rename_i e;obtain rfl:=Option.some.inj c;rw [if_pos e];exact ⟨_,rfl,fun p d=>by obtain rfl:=List.mem_singleton.1 d;exact h3 _ _ _ rfl⟩
   ·rename_i e;obtain rfl:=Option.some.inj c;rw [if_neg e];exact ⟨_,rfl,fun p d=>by obtain rfl:=List.mem_singleton.1 d;exact h2 rfl⟩
  ·cases c
 ·cases c
def Fq (T:TT) (tk:TK) (b:Builtin) (ts:List TypeId) (args:List AV) (s:AS) (K:AV->AS->Prop):Prop :=
 match b,ts,args with
 | .len,t::_,x::_=>aU .i64 (aQ T t x s) fun n=>K (.int .i64 n) s
 | .cap,t::_,x::_=>aU .i64 (vZ T t x) fun n=>K (.int .i64 n) s
 | .append,t::xt::_,dst::x::_=>iT (aL T t xt dst x s) K
 | .copy,t::_::_,dst::x::_=>iT (qO T t dst x s) K
 | .delete,t::_,m::k::_=>bu (qi T t m k s) fun s=>K .undef s
 | .clear,t::_,x::_=>bu (Jj T t x s) fun s=>K .undef s
 | .max,_,l=>rd tk (K8 true l) fun v=>K v s
 | .min,_,l=>rd tk (K8 false l) fun v=>K v s
 | _,_,_=>False
def Rx (P:Program) (T:TT) (o:Oper) (ρ:Operand->AV) (s:AS) (K:AV->AS->Prop):Prop :=
 match o.op with
 | .move x=>K (ρ x) s
 | .assign x=>K (ρ x) s
 | .pick c a b=>(match ρ c with | .bool t=>af t (K (ρ a) s) (K (ρ b) s) | _=>False)
 | .alloc e=>(match T.rP e with | some z=>(bif z.cells.all AV.one then K (.ptr (some (s.nl,0))) (s.new (.cells z.cells 0 false)) else False) | none=>False)
 | .box _ x=>NO (ρ x) fun cs=>K (.ptr (some (s.nl,0))) (s.new (.cells cs 0 false))
 | .build t parts=>nQ (aS T t (parts.toList.map fun p=>(p.1,ρ p.2))) fun cs=>K (.agg cs) s
 | .buildSlice t len parts=>aR (dw T t len (parts.toList.map fun p=>(p.1,ρ p.2))) fun cs=>K (.slc (some (s.nl,0)) len len true) (s.new (.cells cs (T8 T t len) false))
 | .load t a=>(match ρ a with
  | .ptr a=>ai a fun l off=>(match T.agg t with
   | some true=>(match T.eU t with | some n=>aR (aC s l off n) fun cs=>K (.agg cs) s | none=>False)
   | some false=>rd (WT T t) (au s l off) fun v=>K v s
   | none=>False)
  | _=>False)
 | .store t a x=>(match ρ a with | .ptr a=>ai a fun l off=>fQ T t s l off (ρ x) fun s=>K .undef s | _=>False)
 | .nilCheck x=>(match ρ x with
  | .ptr a=>ai a fun l off=>K (.ptr (some (l,off))) s
  | .func f c=>K (.func f c) s
  | .uk f ft c=>K (.uk f ft c) s
  | .iface t v=>K (.iface t v) s
  | _=>False)
 | .binOp op t x y _=>RN T op t (Nv x||Nv y) (ρ x) (ρ y) fun v=>K v s
 | .unOp op _ x=>(match op,ρ x with
  | .neg,.int k n=>K (.int k (k.wrap (0 - n))) s
  | .not,.bool b=>K (.bool !b) s
  | .xor,.int k n=>aU k (Vg .xor (.int k n)) fun m=>K (.int k m) s
  | op,v=>dI (Vg op v) fun v=>K v s)
 | .convert src dst x=>(match T.cR src,T.cR dst,ρ x with
  | some (.slice _),some .string,v=>rG ((cW T src dst v s).map (·.1)) fun b=>K (.str b) s
  | some _,some (.int k),.int _ n=>K (.int k (k.wrap n)) s
  | some _,some .string,.str b=>K (.str b) s
  | some _,some (.slice _),v=>iT (cW T src dst v s) K
  | some _,some .string,v=>rG ((cW T src dst v s).map (·.1)) fun b=>K (.str b) s
  | _,_,_=>False)
 | .makeInterface t x=>(match T.cR t with | some (.interface _)=>False | some _=>K (.iface t (ρ x)) s | none=>False)
 | .makeFunc (.func f) first captured=>bif first.isEmpty then K (.func f (captured.toList.map ρ)) s else K (.uk f (first.toList.map ρ) (captured.toList.map ρ)) s
 | .makeMap t none=>(match T.cR t with | some _=>K (.map (some s.nl)) (s.new (.map [] 0 false)) | none=>False)
 | .makeSlice t l c=>iT (ur T t (ρ l) (ρ c) s) K
 | .slice t x lo hi d=>rd (Ln T o.type) (bg T t (ρ x) (lo.map ρ) (hi.map ρ) (d.map ρ)) fun v=>K v s
 | .fieldAddr t x f=>(match ρ x with | .ptr a=>ai a fun l off=>(match uq T t (.ptr (some (l,off))) f with | some v=>K v s | none=>False) | _=>False)
 | .field t x f=>(match T.cR t,ρ x with
  | some (.struct fields),.agg cs=>(match fields[f]? with
   | some fd=>(match T.agg fd.type with
    | some true=>(match T.eU fd.type with | some n=>K (.agg ((cs.drop fd.offset).take n)) s | none=>False)
    | some false=>rd (WT T fd.type) (cs[fd.offset]?) fun v=>K v s
    | none=>False)
   | none=>False)
  | _,_=>False)
 | .indexAddr t x ix=>bJ (ag T t (ρ x) (ρ ix)) fun l off=>K (.ptr (some (l,off))) s
 | .index t x ix=>rd (Ln T o.type) (ju T t (ρ x) (ρ ix)) fun v=>K v s
 | .lookup t x ix ok=>rd (Ln T o.type) (bR T t (ρ x) (ρ ix) ok s) fun v=>K v s
 | .mapUpdate t m k v=>bu (bK T t (ρ m) (ρ k) (ρ v) s) fun s=>K .undef s
 | .insert t m k v=>bu (bK T t (ρ m) (ρ k) (ρ v) s) fun s=>K .undef s
 | .extract t i=>(match ρ t with | .aN vs=>(match vs[i]? with | some v=>K v s | none=>False) | _=>False)
 | .call c=>(match c.callee with
  | .builtin b=>Fq T (Ln T o.type) b c.argTypes.toList (c.args.toList.map ρ) s K
  | .value x=>ez P (ρ x) (c.args.toList.map ρ) s fun v s=>WU (Ln T o.type) v fun v=>K v s
  | _=>False)
 | .range t x=>iT (VJ T t (ρ x) s) K
 | .entry it=>rd (Ln T o.type) (v_ (ρ it) s) fun v=>K v s
 | .sliceToArrayPointer t x=>pL (Qc T t (ρ x)) fun a=>K (.ptr a) s
 | _=>False
section
variable {P:Program} {T:TT}
theorem Cc {b:Bool} {X Y:Prop} (h:af b X Y):if b=true then X else Y:=by cases b <;> simpa [af] using h
theorem yV {a:Option (Nat×Nat)} {F:Nat->Nat->Prop} (h:ai a F):∃ l o,a=some (l,o)/\F l o:=by
 unfold ai at h;split at h
 ·exact ⟨_,_,rfl,h⟩
 ·exact h.elim
theorem Pu {t:TypeId} {len:Nat} {parts:List (Nat×AV)} {s:AS} {cs:List AV} (h:dw T t len parts=some cs):lU T t len parts s=some (.slc (some (s.nl,0)) len len true,s.new (.cells cs (T8 T t len) false)):=by
 unfold dw at h;unfold lU;cases hu:T.cR t with
 | none=>rw [hu] at h;cases h
 | some d =>
  rw [hu] at h;cases d with
  | slice e =>
   simp only [Option.bind_eq_some_iff] at h;obtain ⟨n,c,z,i,zc,b,h⟩:=h;simp only [c,i,b,Option.bind_some];split at h
   ·rename_i j;rw [if_pos j,h];rfl
   ·cases h
  | _=>cases h
theorem NQ {v:AV} {F:List AV->Prop} (h:NO v F):∃ cs,bO v=some cs/\F cs:=by
 unfold NO at h;split at h
 ·rename_i l;obtain ⟨b,h2⟩:=h;exact ⟨l,by simp only [bO,AV.cells,b,if_true],h2⟩
 ·exact h.elim
 ·exact h.elim
 ·rename_i b h2 h3;refine ⟨[v],?_,h⟩;cases v <;> first | rfl | exact (b _ rfl).elim | exact (h2 _ rfl).elim | exact (h3 rfl).elim
theorem NR {t:TypeId} {s:AS} {l off:Nat} {v:AV} {K:AS->Prop} (h:fQ T t s l off v K):∃ s',T7 T t s (.ptr (some (l,off))) v=some s'/\K s':=by
 unfold fQ at h;split at h
 ·rename_i cs;obtain ⟨⟨b,h2⟩,s',h3,h4⟩:=h;refine ⟨s',?_,h4⟩;simp only [T7,bO,AV.cells,b,if_true,Option.bind_some,h2,h3]
 ·exact h.elim
 ·exact h.elim
 ·rename_i b h2 h3;cases hs:(T.eU t==some 1) with
  | false=>rw [hs] at h;exact h.elim
  | true =>
   rw [hs] at h;obtain ⟨s',h4,d⟩:=h;have c:T.eU t=some 1:=by simpa using hs
   refine ⟨s',?_,d⟩;have e:bO v=some [v]:=by cases v <;> first | rfl | exact (b _ rfl).elim | exact (h2 _ rfl).elim | exact (h3 rfl).elim
   simp only [T7,e,Option.bind_some,c,List.length_cons,List.length_nil,Nat.zero_add,if_true,h4]
theorem Qo {op:BinOp} {k:IntKind} {a b:Int} {K:AV->Prop} (h:RL op k a b K):∃ v,bD op k a b=some v/\K v:=by
 unfold RL at h;split at h
 case h_4=>exact ⟨_,by simp only [bD,if_neg h.1],h.2⟩
 case h_5=>exact ⟨_,by simp only [bD,if_neg h.1],h.2⟩
 case h_12=>obtain ⟨n,c,h2⟩:=h;exact ⟨_,c,h2⟩
 all_goals exact ⟨_,by simp only [bD],h⟩
theorem RP {op:BinOp} {t:TypeId} {x y:Operand} {u v:AV} {K:AV->Prop} (h:VI T op t (Nv x||Nv y) u v K):Nw T t x y u v=true/\∃ r,lG T op t u v=some r/\K r:=by
 unfold VI at h;split at h
 ·rename_i k a k' b;exact ⟨rfl,_,by simp only [lG];rw [if_neg (by have:=h.1;omega)],h.2⟩
 ·rename_i k a k' b;exact ⟨rfl,_,by simp only [lG];rw [if_neg (by have:=h.1;omega)],h.2⟩
 ·rename_i op k a k' b c h2;refine ⟨rfl,?_⟩;cases i:(k==k') with
  | false=>rw [i] at h;exact h.elim
  | true =>
   rw [i] at h;obtain rfl:k=k':=by simpa using i
   obtain ⟨r,hr,l⟩:=Qo h;refine ⟨r,?_,l⟩;rw [<- hr];cases op <;> first | (exact absurd rfl c) | (exact absurd rfl h2) | simp only [lG,if_true]
 ·exact ⟨rfl,_,by simp only [lG];rw [if_pos (by have:=h.1;simpa using this)],h.2⟩
 ·exact ⟨rfl,_,by simp only [lG],h⟩
 ·exact ⟨rfl,_,by simp only [lG],h⟩
 ·exact ⟨rfl,_,by simp only [lG],h⟩
 ·exact ⟨rfl,_,by simp only [lG],h⟩
 ·exact ⟨rfl,_,by simp only [lG],h⟩
 ·exact ⟨rfl,_,by simp only [lG],h⟩
 ·rename_i a b;split at h
  ·rename_i hu;exact ⟨rfl,_,by simp only [lG,je,hu,Option.map_some],h⟩
  ·exact h.elim
 ·rename_i a b;split at h
  ·rename_i hu;exact ⟨rfl,_,by simp only [lG,je,hu,Option.map_some],h⟩
  ·exact h.elim
 ·rename_i xs ys;cases d:T.Rv t with
  | false=>rw [d] at h;exact h.elim
  | true=>rw [d] at h;obtain ⟨b,c,h2⟩:=h;exact ⟨d,_,by simp only [lG,c,Option.map_some],h2⟩
 ·rename_i xs ys;cases d:T.Rv t with
  | false=>rw [d] at h;exact h.elim
  | true=>rw [d] at h;obtain ⟨b,c,h2⟩:=h;exact ⟨d,_,by simp only [lG,c,Option.map_some],h2⟩
 ·obtain ⟨b,c,h2⟩:=h;exact ⟨rfl,_,by simp only [lG,c,Option.map_some],h2⟩
 ·obtain ⟨b,c,h2⟩:=h;exact ⟨rfl,_,by simp only [lG,c,Option.map_some],h2⟩
 ·obtain ⟨b,c,h2⟩:=h;exact ⟨rfl,_,by simp only [lG,c,Option.map_some],h2⟩
 ·obtain ⟨b,c,h2⟩:=h;exact ⟨rfl,_,by simp only [lG,c,Option.map_some],h2⟩
 ·obtain ⟨j,b,c,h2⟩:=h;refine ⟨by rw [Jr];exact j,.bool b,?_,h2⟩;unfold lG;split <;> first | (simp_all;done) | (exfalso;simp_all;rename_i e;exact e _ _ _ _ rfl rfl rfl rfl) | (exfalso;rename_i e;simp_all;exact e _ _ _ _ rfl rfl rfl rfl)
 ·obtain ⟨j,b,c,h2⟩:=h;refine ⟨by rw [Jr];exact j,.bool !b,?_,h2⟩;unfold lG;split <;> first | (simp_all;done) | (exfalso;simp_all;rename_i e;exact e _ _ _ _ rfl rfl rfl rfl) | (exfalso;rename_i e;simp_all;exact e _ _ _ _ rfl rfl rfl rfl)
 ·exact h.elim
theorem Qp {op:BinOp} {t:TypeId} {x y:Operand} {u v:AV} {K:AV->Prop} (h:RN T op t (Nv x||Nv y) u v K):Nw T t x y u v=true/\∃ r,lG T op t u v=some r/\K r:=by
 unfold RN at h;have key:∀ b,Rw T t (Nv x||Nv y) u v=some b->Nw T t x y u v=true/\je T 100 t u v=some b:=by
  intro b hb;unfold Rw at hb;split at hb
  ·rename_i p;exact ⟨by rw [Jr];exact p,hb⟩
  ·cases hb
 have i:RM (T.cR t)=true->∀ b,je T 100 t u v=some b->lG T .eql t u v=some (.bool b)/\lG T .neq t u v=some (.bool !b):=by
  intro hd b hb;have:∀ d,T.cR t=some d->RM (some d)=true:=fun d h=>by rw [<- h];exact hd
  have c:(∀ k n k' n',¬ (u=.int k n/\v=.int k' n'))/\(∀ a b,¬ (u=.str a/\v=.str b)):=by
   cases hu:T.cR t with
   | none=>rw [hu] at hd;cases hd
   | some d =>
    have j:=this d hu;refine ⟨fun k n k' n' e=>?_,fun a b e=>?_⟩
    ·obtain ⟨rfl,rfl⟩:=e;cases d <;> first | (cases j;done) | (simp only [je,hu] at hb;cases hb)
    ·obtain ⟨rfl,rfl⟩:=e;cases d <;> first | (cases j;done) | (simp only [je,hu] at hb;cases hb)
  constructor
  ·unfold lG;split <;> first
    | (exact absurd ⟨rfl,rfl⟩ (c.1 _ _ _ _))
    | (exact absurd ⟨rfl,rfl⟩ (c.2 _ _))
    | (rename_i e;cases e;done)
    | (rw [hb];rfl)
    | simp_all
  ·unfold lG;split <;> first
    | (exact absurd ⟨rfl,rfl⟩ (c.1 _ _ _ _))
    | (exact absurd ⟨rfl,rfl⟩ (c.2 _ _))
    | (rename_i e;cases e;done)
    | (rw [hb];rfl)
    | simp_all
 split at h
 ·rename_i hd;obtain ⟨b,l,h2⟩:=h;obtain ⟨m,o⟩:=key b l;exact ⟨m,_,(i hd b o).1,h2⟩
 ·rename_i hd;obtain ⟨b,l,h2⟩:=h;obtain ⟨m,o⟩:=key b l;exact ⟨m,_,(i hd b o).2,h2⟩
 ·exact RP h
theorem Jt {tk:TK} {b:Builtin} {ts:List TypeId} {args:List AV} {s:AS} {K:AV->AS->Prop} (h:Fq T tk b ts args s K):∃ v s',ec T b ts args s=some (v,s')/\K v s':=by
 unfold Fq at h;split at h
 ·obtain ⟨n,c,h2⟩:=h;exact ⟨_,s,by simp only [ec,c,Option.map_some],h2⟩
 ·obtain ⟨n,c,h2⟩:=h;exact ⟨_,s,by simp only [ec,c,Option.map_some],h2⟩
 ·exact h
 ·exact h
 ·obtain ⟨s',c,h2⟩:=h;exact ⟨_,s',by simp only [ec,c,Option.map_some],h2⟩
 ·obtain ⟨s',c,h2⟩:=h;exact ⟨_,s',by simp only [ec,c,Option.map_some],h2⟩
 ·obtain ⟨v,c,h2⟩:=rd_some h;exact ⟨v,s,by simp only [ec,c,Option.map_some],h2⟩
 ·obtain ⟨v,c,h2⟩:=rd_some h;exact ⟨v,s,by simp only [ec,c,Option.map_some],h2⟩
 ·exact h.elim
def Ju:Op->Bool
 | .call c=>match c.callee with
  | .value _=>true
  | _=>false
 | _=>false
theorem EG {o:Oper} {ρ:Operand->AV} {s:AS} {K:AV->AS->Prop} (H:Ju o.op=false) (h:Rx P T o ρ s K):∃ v s',cM T o.op ρ s=some (v,s')/\K v s':=by
 unfold Rx at h;cases G:o.op <;> rw [G] at h <;> simp only at h
 case move x=>exact ⟨_,_,rfl,h⟩
 case assign x=>exact ⟨_,_,rfl,h⟩
 case pick c a b =>
  split at h
  ·rename_i t ht;have:=Cc h;refine ⟨if t then ρ a else ρ b,s,by simp only [cM,ht],?_⟩;cases t <;> simpa using this
  ·exact h.elim
 case alloc e =>
  split at h
  ·rename_i z J;cases D:z.cells.all AV.one with
   | false=>rw [D] at h;exact h.elim
   | true=>rw [D] at h;exact ⟨_,_,by simp only [cM,J,Option.bind_some,bO,D,if_true,Option.map_some],h⟩
  ·exact h.elim
 case box e x =>
  obtain ⟨cs,j,h2⟩:=NQ h;exact ⟨_,_,by simp only [cM,j,Option.map_some],h2⟩
 case build t parts =>
  obtain ⟨l,j,h2⟩:=h;exact ⟨_,_,by simp only [cM,j,Option.map_some],h2⟩
 case buildSlice t len parts =>
  obtain ⟨l,j,h2⟩:=h;exact ⟨_,_,by simp only [cM];exact Pu j,h2⟩
 case load t a =>
  split at h
  ·rename_i a' A;have h2:=yV h;clear h;obtain ⟨l,off,rfl,h⟩:=h2;split at h
   ·rename_i w;split at h
    ·rename_i n I;obtain ⟨cs,j,h2⟩:=h;exact ⟨_,_,by simp only [cM,Hf,A,w,I,Option.bind_some,j,Option.map_some],h2⟩
    ·exact h.elim
   ·rename_i w;obtain ⟨v,j,h2⟩:=rd_some h;exact ⟨_,_,by simp only [cM,Hf,A,w,j,Option.map_some],h2⟩
   ·exact h.elim
  ·exact h.elim
 case store t a x =>
  split at h
  ·rename_i a' A;have h2:=yV h;clear h;obtain ⟨l,off,rfl,h⟩:=h2;obtain ⟨s',j,h2⟩:=NR h;exact ⟨_,_,by simp only [cM,A,j,Option.map_some],h2⟩
  ·exact h.elim
 case nilCheck x =>
  split at h
  ·rename_i a A;cases a with
   | none=>exact h.elim
   | some p=>exact ⟨_,_,by simp only [cM,A],h⟩
  ·rename_i A;exact ⟨_,_,by simp only [cM,A],h⟩
  ·rename_i A;exact ⟨_,_,by simp only [cM,A],h⟩
  ·rename_i A;exact ⟨_,_,by simp only [cM,A],h⟩
  ·exact h.elim
 case binOp op t x y L =>
  obtain ⟨j,r,h2,h3⟩:=Qp h;exact ⟨_,_,by simp only [cM,j,if_true,h2,Option.map_some],h3⟩
 case unOp op t x =>
  split at h
  ·rename_i B;exact ⟨_,_,by simp only [cM,Vg,B,Option.map_some],h⟩
  ·rename_i B;exact ⟨_,_,by simp only [cM,Vg,B,Option.map_some],h⟩
  ·rename_i B;obtain ⟨n,j,h2⟩:=h;exact ⟨_,_,by simp only [cM,B,j,Option.map_some],h2⟩
  ·obtain ⟨v,j,h2⟩:=h;exact ⟨_,_,by simp only [cM,j,Option.map_some],h2⟩
 case convert src dst x =>
  split at h
  ·rename_i hs hd;obtain ⟨b,j,h2⟩:=h;simp only [Option.map_eq_some_iff] at j;obtain ⟨⟨v,s'⟩,h3,h4⟩:=j;simp only at h4;subst h4;have F:s'=s:=by
    unfold cW at h3;split at h3 <;> try (first | (cases h3;done) | (simp only [Option.some.injEq,Prod.mk.injEq] at h3;exact h3.2.symm))
    ·rename_i e1 e2;rw [hd] at e1;cases e1
    ·split at h3
     ·split at h3
      ·simp only [Option.some.injEq,Prod.mk.injEq] at h3;exact h3.2.symm
      ·cases h3
     ·cases h3
    ·split at h3
     ·simp only [Option.some.injEq,Prod.mk.injEq] at h3;exact h3.2.symm
     ·cases h3
    ·split at h3
     ·split at h3
      ·simp only [Option.some.injEq,Prod.mk.injEq] at h3;exact h3.2.symm
      simp only [Option.bind_eq_some_iff,Option.map_eq_some_iff] at h3;obtain ⟨_,_,_,_,h3⟩:=h3;simp only [Prod.mk.injEq] at h3;exact h3.2.symm
     ·cases h3
    ·rename_i e1 e2;rw [hd] at e1;cases e1
   subst F;exact ⟨_,_,by simp only [cM];exact h3,h2⟩
  ·rename_i hs hd B;exact ⟨_,_,by simp only [cM,cW,hs,hd,B],h⟩
  ·rename_i hs hd B;exact ⟨_,_,by simp only [cM,cW,hs,hd,B],h⟩
  ·exact h
  ·rename_i hs hd B;obtain ⟨b,j,h2⟩:=h;simp only [Option.map_eq_some_iff] at j;obtain ⟨⟨v,s'⟩,h3,h4⟩:=j;simp only at h4;subst h4;have F:s'=s:=by
    unfold cW at h3;split at h3 <;> try (first | (cases h3;done) | (simp only [Option.some.injEq,Prod.mk.injEq] at h3;exact h3.2.symm))
    ·rename_i e1 e2;rw [hd] at e1;cases e1
    ·split at h3
     ·split at h3
      ·simp only [Option.some.injEq,Prod.mk.injEq] at h3;exact h3.2.symm
      ·cases h3
     ·cases h3
    ·split at h3
     ·simp only [Option.some.injEq,Prod.mk.injEq] at h3;exact h3.2.symm
     ·cases h3
    ·split at h3
     ·split at h3
      ·simp only [Option.some.injEq,Prod.mk.injEq] at h3;exact h3.2.symm
      simp only [Option.bind_eq_some_iff,Option.map_eq_some_iff] at h3;obtain ⟨_,_,_,_,h3⟩:=h3;simp only [Prod.mk.injEq] at h3;exact h3.2.symm
     ·cases h3
    ·rename_i e1 e2;rw [hd] at e1;cases e1
   subst F;exact ⟨_,_,by simp only [cM];exact h3,h2⟩
  ·exact h.elim
 case makeInterface t x =>
  split at h
  ·exact h.elim
  ·rename_i d hd hu;refine ⟨_,_,?_,h⟩;simp only [cM,hu]
  ·exact h.elim
 case makeFunc fn first captured =>
  cases fn with
  | func g =>
   simp only at h;cases D:first.isEmpty with
   | true=>rw [D] at h;exact ⟨_,_,by simp only [cM,D,if_true],h⟩
   | false=>rw [D] at h;exact ⟨_,_,by simp only [cM,D,Bool.false_eq_true,if_false],h⟩
  | _=>exact h.elim
 case makeMap t r =>
  cases r with
  | none =>
   simp only at h;split at h
   ·rename_i d hd;exact ⟨_,_,by simp only [cM,hd],h⟩
   ·exact h.elim
  | some r=>exact h.elim
 case makeSlice t l c=>exact h
 case slice t x lo hi M =>
  obtain ⟨v,j,h2⟩:=rd_some h;exact ⟨_,_,by simp only [cM,j,Option.map_some],h2⟩
 case fieldAddr t x f =>
  split at h
  ·rename_i a' A;have h2:=yV h;clear h;obtain ⟨l,off,rfl,h⟩:=h2;split at h
   ·rename_i v hv;exact ⟨_,_,by simp only [cM,A,hv,Option.map_some],h⟩
   ·exact h.elim
  ·exact h.elim
 case field t x f =>
  split at h
  ·rename_i fields cs hu B;split at h
   ·rename_i fd hf;split at h
    ·rename_i w;split at h
     ·rename_i n I;exact ⟨_,_,by simp only [cM,E0,hu,B,hf,Option.bind_some,part,w,I,Option.map_some],h⟩
     ·exact h.elim
    ·rename_i w;obtain ⟨v,j,h2⟩:=rd_some h;exact ⟨_,_,by simp only [cM,E0,hu,B,hf,Option.bind_some,part,w,j,Option.map_some],h2⟩
    ·exact h.elim
   ·exact h.elim
  ·exact h.elim
 case indexAddr t x ix =>
  obtain ⟨l,i,j,h2⟩:=h;exact ⟨_,_,by simp only [cM,j,Option.map_some],h2⟩
 case index t x ix =>
  obtain ⟨v,j,h2⟩:=rd_some h;exact ⟨_,_,by simp only [cM,j,Option.map_some],h2⟩
 case lookup t x ix ok =>
  obtain ⟨v,j,h2⟩:=rd_some h;exact ⟨_,_,by simp only [cM,j,Option.map_some],h2⟩
 case mapUpdate t m k v =>
  obtain ⟨s',j,h2⟩:=h;exact ⟨_,_,by simp only [cM,j,Option.map_some],h2⟩
 case insert t m k v =>
  obtain ⟨s',j,h2⟩:=h;exact ⟨_,_,by simp only [cM,j,Option.map_some],h2⟩
 case extract t i =>
  split at h
  ·rename_i vs hv;split at h
   ·rename_i v hi;exact ⟨_,_,by simp only [cM,hv,hi,Option.map_some],h⟩
   ·exact h.elim
  ·exact h.elim
 case call c =>
  cases C:c.callee with
  | value x=>rw [G] at H;simp only [Ju,C] at H;cases H
  | builtin b =>
   rw [C] at h;simp only at h;obtain ⟨v,s',j,h2⟩:=Jt h;exact ⟨v,s',by simp only [cM,C,j],h2⟩
  | invoke x m=>rw [C] at h;exact h.elim
 case range t x=>exact h
 case entry it =>
  obtain ⟨v,j,h2⟩:=rd_some h;exact ⟨_,_,by simp only [cM,j,Option.map_some],h2⟩
 case sliceToArrayPointer t x =>
  obtain ⟨a,j,h2⟩:=h;exact ⟨_,_,by simp only [cM,j,Option.map_some],h2⟩
 all_goals exact h.elim
theorem tw {o:Oper} {f:Fr} {s:AS} {K:AV->AS->Prop} (h:Rx P T o (pM f) s K):Ca P T o f s K:=by
 cases b:Ju o.op with
 | false =>
  have j:fj f o.op=none:=by
   unfold Ju at b;unfold fj;split
   ·rename_i c d;rw [d] at b;simp only at b;split
    ·rename_i x e;rw [e] at b;cases b
    ·rfl
   ·rfl
  unfold Ca;rw [j];exact EG b h
 | true =>
  unfold Ju at b;split at b
  ·rename_i c d;split at b
   ·rename_i x e;unfold Rx at h;rw [d] at h;simp only [e] at h;unfold Ca fj;rw [d];simp only [e];unfold ez at h;split at h
    ·rename_i g cap hv;rw [hv];exact h.mono fun v s i=>Ar i
    ·rename_i g ft cap hv;rw [hv];exact h.mono fun v s i=>Ar i
    ·exact h.elim
   ·cases b
  ·cases b
end
end Go.Am
end

section
namespace Go.Am
def fW:Op->Bool
 | .move _ | .assign _ | .pick .. | .binOp .. | .unOp .. | .fieldAddr .. | .field .. | .indexAddr .. | .index .. | .slice .. | .extract ..=>true
 | _=>false
def tC:Op->Bool
 | .call _=>false
 | _=>true
theorem gA {op:Op} (h:tC op=true) (f:Fr):fj f op=none:=by
 cases op <;> first | rfl | cases h
theorem wz {op:Op} (h:fW op=true):tC op=true:=by
 cases op <;> first | rfl | cases h
theorem As {T:TT} {op:Op} (k:fW op=true) {ρ:Operand->AV} {s s1:AS} {v:AV} (h:cM T op ρ s=some (v,s1)):s1=s/\∀ s',cM T op ρ s'=some (v,s'):=by
 have key:∀ x:Option AV,x.map (·,s)=some (v,s1)->s1=s/\∀ s':AS,x.map (·,s')=some (v,s'):=by
  intro x e;cases x with
  | none=>cases e
  | some u =>
   obtain ⟨rfl,rfl⟩:u=v/\s=s1:=by simpa using e
   exact ⟨rfl,fun s'=>rfl⟩
 have d:∀ u:AV,some (u,s)=some (v,s1)->s1=s/\∀ s':AS,some (u,s')=some (v,s'):=by
  intro u e;obtain ⟨rfl,rfl⟩:u=v/\s=s1:=by simpa using e
  exact ⟨rfl,fun s'=>rfl⟩
 cases op with
 | pick c a b =>
  simp only [cM] at h ⊢;generalize ρ c=x at h ⊢;cases x <;> first | exact d _ h | cases h
 | binOp op t x y l =>
  simp only [cM] at h ⊢;by_cases j:Nw T t x y (ρ x) (ρ y)=true
  ·rw [if_pos j] at h;simp only [if_pos j];exact key _ h
  ·rw [if_neg j] at h;cases h
 | extract t i =>
  simp only [cM] at h ⊢;generalize ρ t=x at h ⊢;cases x <;> first | exact key _ h | cases h
 | _=>first
  | (simp [fW] at k;done)
  | (simp only [cM] at h ⊢;exact key _ h)
  | (simp only [cM] at h ⊢;exact d _ h)
def mB:Op->Bool
 | .load .. | .lookup .. | .nilCheck _=>true
 | o=>fW o
theorem Dk {op:Op} (h:mB op=true):tC op=true:=by
 cases op <;> first | rfl | cases h
theorem RQ {T : TT} {op : Op} (d : mB op = true) {ρ : Operand -> AV} {s s1 : AS} {v : AV} (h : cM T op ρ s = some (v, s1)) : s1 = s := by
  have key : ∀ x : Option AV, x.map (·, s) = some (v, s1) -> s1 = s := by
    intro x b;cases x with
    | none => cases b
    | some u =>
      obtain ⟨rfl, rfl⟩ : u = v /\ s = s1 := by simpa using b
      rfl
  by_cases c : fW op = true
  · exact (As c h).1
  cases op <;> first
    | (simp only [cM] at h
       split at h <;> first
         | (simp only [Option.some.injEq, Prod.mk.injEq] at h; exact h.2.symm)
         | cases h)
    | exact absurd d c
    | (simp only [cM] at h; exact key _ h)
def qj:Op->Bool
 | .alloc _=>true
 | _=>false
theorem Lp {op:Op} (h:mB op=true):mA op=true:=by
 cases op <;> first | rfl | cases h
theorem NS {T:TT} {op:Op} (d:qj op=true) {ρ:Operand->AV} {s s1:AS} {v:AV} (i:aG s) (h:cM T op ρ s=some (v,s1)):Ext s s1/\∀ b,cM T op b s=some (v,s1):=by
 cases op with
 | alloc e =>
  refine ⟨?_,fun b=>h⟩;simp only [cM,Option.bind_eq_some_iff,Option.map_eq_some_iff,Prod.mk.injEq] at h;obtain ⟨z,_,cs,_,_,rfl⟩:=h;have j:s.h s.nl=none:=by simpa using i.2 0
  refine ⟨fun l x c=>?_,by rw [AS.um];omega⟩;rw [AS.oW _ rfl,if_neg]
  ·exact c
  ·rintro rfl;rw [j] at c;cases c
 | _=>cases d
section
variable {P:Program} {T:TT} {n:Nat} {ops:Array Oper}
theorem Ca.mono {o:Oper} {f:Fr} {s:AS} {R R':AV->AS->Prop} (h:Ca P T o f s R) (hr:∀ v s',R v s'->R' v s'):Ca P T o f s R':=by
 unfold Ca at h ⊢;split
 ·rename_i g args c;rw [c] at h;exact h.mono hr
 ·rename_i c;rw [c] at h;obtain ⟨v,s',a,b⟩:=h;exact ⟨v,s',a,hr _ _ b⟩
def tD (P:Program) (T:TT) (n:Nat) (ops:Array Oper) (o:Oper) (f:Fr) (s:AS) (K:Fr->AS->Prop):Prop :=
 match dn ops f o with
 | some true=>ee n o.dst=true/\Ca P T o f s fun v s'=>K (bT f o.dst v) s'
 | some false=>ee n o.dst=true/\K (bT f o.dst .undef) s
 | none=>False
theorem tD.mono {o:Oper} {f:Fr} {s:AS} {K K':Fr->AS->Prop} (h:tD P T n ops o f s K) (c:∀ f s,K f s->K' f s):tD P T n ops o f s K':=by
 unfold tD at h ⊢;split
 ·rename_i b;rw [b] at h;exact ⟨h.1,Ca.mono h.2 fun v s' d=>c _ _ d⟩
 ·rename_i b;rw [b] at h;exact ⟨h.1,c _ _ h.2⟩
 ·rename_i b;rw [b] at h;exact h
def rH (P:Program) (T:TT) (n:Nat) (ops:Array Oper) (K:Fr->AS->Prop):List Nat->Fr->AS->Prop
 | [],f,s=>K f s
 | i::is,f,s=>match ops[i]? with
  | some o=>tD P T n ops o f s (rH P T n ops K is)
  | none=>False
theorem uD (c:∀ (i:Nat) o,ops[i]? = some o->yR o.op=false) {K:Fr->AS->Prop}:∀ (j k:Nat) (f:Fr) (s:AS),k+j=ops.size->fD P T n ops (ops.toList.drop k) f s K->rH P T n ops K (List.range' k j) f s
 | 0,k,f,s,w,h=>by
  rw [List.drop_eq_nil_of_le (by simp;omega)] at h;exact h
 | j+1,k,f,s,w,h=>by
  have d:k<ops.size:=by omega
  have e:ops.toList.drop k=ops[k]::ops.toList.drop (k+1):=by
   rw [List.drop_eq_getElem_cons (by simpa using d)];simp
  rw [e] at h;simp only [List.range'_succ,rH,Array.getElem?_eq_getElem d];simp only [fD] at h;unfold tD;split at h
  ·rename_i m;rw [m];obtain ⟨x,h2⟩:=h;refine ⟨x,?_⟩;rcases h2 with h2 | ⟨l,r,_⟩
   rotate_left
   ·rw [yS (c k _ (Array.getElem?_eq_getElem d))] at r;cases r
   unfold Ca;split
   ·rename_i g args p;rw [p] at h2;exact h2.mono fun v s' y=>uD c j (k+1) _ _ (by omega) y
   ·rename_i p;rw [p] at h2;obtain ⟨v,s',a,b⟩:=h2;exact ⟨v,s',a,uD c j (k+1) _ _ (by omega) b⟩
  ·rename_i m;rw [m];exact ⟨h.1,uD c j (k+1) _ _ (by omega) h.2⟩
  ·exact h.elim
def gY (T:TT) (n:Nat) (ops:Array Oper) (o:Oper) (f:Fr) (u:AV):Prop :=
 ee n o.dst=true/\((dn ops f o=some false/\u=.undef)\/(dn ops f o=some true/\∀ s,cM T o.op (pM f) s=some (u,s)))
theorem Cd {o:Oper} (e:fW o.op=true) {f:Fr} {s:AS} {K:Fr->AS->Prop} (h:tD P T n ops o f s K):∃ u,gY T n ops o f u/\K (bT f o.dst u) s:=by
 unfold tD at h;split at h
 ·rename_i d;obtain ⟨i,h2⟩:=h;unfold Ca at h2;rw [gA (wz e)] at h2;obtain ⟨v,s',a,b⟩:=h2;obtain ⟨rfl,c⟩:=As e a;exact ⟨v,⟨i,.inr ⟨d,c⟩⟩,b⟩
 ·rename_i d;exact ⟨_,⟨h.1,.inl ⟨d,rfl⟩⟩,h.2⟩
 ·exact h.elim
theorem gY.step {o:Oper} (e:fW o.op=true) {f:Fr} {u:AV} (h:gY T n ops o f u) {s:AS} {K:Fr->AS->Prop} (c:K (bT f o.dst u) s):tD P T n ops o f s K:=by
 obtain ⟨d,⟨b,rfl⟩ | ⟨b,i⟩⟩:=h
 ·unfold tD;rw [b];exact ⟨d,c⟩
 ·unfold tD;rw [b];refine ⟨d,?_⟩;unfold Ca;rw [gA (wz e)];exact ⟨_,_,i s,c⟩
theorem gY.same {o:Oper} {f:Fr} {d:Option Nat} {v u:AV} (h:∀ t,d=some t->t ∉ o.looksAt ops):gY T n ops o (bT f d v) u↔gY T n ops o f u:=by
 obtain ⟨l1,_,l3⟩:=fu (T:=T) (ops:=ops) (o:=o) (f:=f) (d:=d) (v:=v) h;unfold gY;rw [l1];simp only [l3]
def Lq (T:TT) (n:Nat) (ops:Array Oper) (o:Oper) (f:Fr) (s:AS) (u:AV):Prop :=
 ee n o.dst=true/\((dn ops f o=some false/\u=.undef)\/(dn ops f o=some true/\cM T o.op (pM f) s=some (u,s)))
theorem xR {o:Oper} (d:mB o.op=true) {f:Fr} {s:AS} {K:Fr->AS->Prop} (h:tD P T n ops o f s K):∃ u,Lq T n ops o f s u/\K (bT f o.dst u) s:=by
 unfold tD at h;split at h
 ·rename_i c;obtain ⟨e,h2⟩:=h;unfold Ca at h2;rw [gA (Dk d)] at h2;obtain ⟨v,s',a,b⟩:=h2;obtain rfl:=RQ d a;exact ⟨v,⟨e,.inr ⟨c,a⟩⟩,b⟩
 ·rename_i c;exact ⟨_,⟨h.1,.inl ⟨c,rfl⟩⟩,h.2⟩
 ·exact h.elim
theorem Lq.step {o:Oper} (e:mB o.op=true) {f:Fr} {s:AS} {u:AV} (h:Lq T n ops o f s u) {K:Fr->AS->Prop} (c:K (bT f o.dst u) s):tD P T n ops o f s K:=by
 obtain ⟨d,⟨b,rfl⟩ | ⟨b,i⟩⟩:=h
 ·unfold tD;rw [b];exact ⟨d,c⟩
 ·unfold tD;rw [b];refine ⟨d,?_⟩;unfold Ca;rw [gA (Dk e)];exact ⟨_,_,i,c⟩
theorem Lq.same {o:Oper} {f:Fr} {d:Option Nat} {v u:AV} {s:AS} (h:∀ t,d=some t->t ∉ o.looksAt ops):Lq T n ops o (bT f d v) s u↔Lq T n ops o f s u:=by
 obtain ⟨l1,_,l3⟩:=fu (T:=T) (ops:=ops) (o:=o) (f:=f) (d:=d) (v:=v) h;unfold Lq;rw [l1];simp only [l3]
theorem RR {j oj:Oper} (x:j.apart ops oj=true) (i:fW j.op=true\/(fW oj.op=true/\tC j.op=true)\/(mB j.op=true/\mB oj.op=true)) {f:Fr} {s:AS} {K:Fr->AS->Prop}
  (h:tD P T n ops j f s fun f s=>tD P T n ops oj f s K):tD P T n ops oj f s fun f s=>tD P T n ops j f s K:=by
 obtain ⟨k,y,m⟩:=Oper.apart_spec x;have c:∀ u v,bT (bT f j.dst u) oj.dst v=bT (bT f oj.dst v) j.dst u:=fun u v=>Cb y;rcases i with i | ⟨i,z⟩ | ⟨i,w⟩
 rotate_left 2
 ·obtain ⟨u,hu,e⟩:=xR i h;obtain ⟨v,hv,e⟩:=xR w e;refine Lq.step w ((Lq.same k).1 hv) (Lq.step i ((Lq.same m).2 hu) ?_);rw [<- c];exact e
 ·obtain ⟨u,hu,e⟩:=Cd i h;have l:=fu (T:=T) (ops:=ops) (o:=oj) (f:=f) (d:=j.dst) (v:=u) k;unfold tD at e ⊢;rw [l.1] at e;split
  ·rename_i p;rw [p] at e;refine ⟨e.1,Ca.mono ((wv k).1 e.2) fun v s' A=>?_⟩;refine gY.step i ((gY.same m).2 hu) ?_;rw [<- c];exact A
  ·rename_i p;rw [p] at e;refine ⟨e.1,gY.step i ((gY.same m).2 hu) ?_⟩;rw [<- c];exact e.2
  ·rename_i p;rw [p] at e;exact e
 ·unfold tD at h;split at h
  ·rename_i p;obtain ⟨B,h2⟩:=h;unfold Ca at h2;rw [gA z] at h2;obtain ⟨v,s',a,b⟩:=h2;obtain ⟨u,hu,e⟩:=Cd i b;have r:=(gY.same k).1 hu;refine gY.step i r ?_;have l:=fu (T:=T) (ops:=ops) (o:=j) (f:=f) (d:=oj.dst) (v:=u) m;unfold tD;rw [l.1,p];refine ⟨B,?_⟩;unfold Ca;rw [gA z];exact ⟨v,s',by rw [l.2.2];exact a,by show K (bT (bT f oj.dst u) j.dst v) s';rw [<- c];exact e⟩
  ·rename_i p;obtain ⟨u,hu,e⟩:=Cd i h.2;have r:=(gY.same k).1 hu;refine gY.step i r ?_;have l:=fu (T:=T) (ops:=ops) (o:=j) (f:=f) (d:=oj.dst) (v:=u) m;unfold tD;rw [l.1,p];exact ⟨h.1,by rw [<- c];exact e⟩
  ·exact h.elim
theorem Ft {j oj:Oper} (w:j.apart ops oj=true) (r:mB j.op=true) (k:qj oj.op=true) {f:Fr} {s:AS} (B:aG s) {K:Fr->AS->Prop}
  (h:tD P T n ops j f s fun f s=>tD P T n ops oj f s K):tD P T n ops oj f s fun f s=>tD P T n ops j f s K:=by
 obtain ⟨x,y,m⟩:=Oper.apart_spec w;have c:∀ u v,bT (bT f j.dst u) oj.dst v=bT (bT f oj.dst v) j.dst u:=fun u v=>Cb y;have z:∀ f,fj f oj.op=none:=fun f=>by
  cases C:oj.op <;> first | rfl | (rw [C] at k;cases k)
 obtain ⟨u,hu,i⟩:=xR r h;have l:=fu (T:=T) (ops:=ops) (o:=oj) (f:=f) (d:=j.dst) (v:=u) x;unfold tD at i ⊢;rw [l.1] at i;split
 ·rename_i e;rw [e] at i;obtain ⟨D,h2⟩:=i;refine ⟨D,?_⟩;unfold Ca at h2 ⊢;rw [z] at h2 ⊢;obtain ⟨v,s',a,b⟩:=h2;obtain ⟨F,p⟩:=NS k B a;refine ⟨v,s',p _,?_⟩;have A:Lq T n ops j f s' u:=by
   obtain ⟨G,H⟩:=hu;refine ⟨G,H.imp id fun ⟨I,J⟩=>⟨I,B_ (Lp r) B.1 J F⟩⟩
  refine Lq.step r ((Lq.same m).2 A) ?_;rw [<- c];exact b
 ·rename_i e;rw [e] at i;refine ⟨i.1,Lq.step r ((Lq.same m).2 hu) ?_⟩;rw [<- c];exact i.2
 ·rename_i e;rw [e] at i;exact i
def Ih (ops:Array Oper) (b oj:Oper):Prop:=b.apart ops oj=true/\((mB b.op=true/\qj oj.op=true)\/(qj oj.op=false/\(fW b.op=true\/(fW oj.op=true/\tC b.op=true)\/(mB b.op=true/\mB oj.op=true))))
theorem xS {K:Fr->AS->Prop} {j:Nat} {oj:Oper} (l:ops[j]? = some oj):∀ (pre post:List Nat) (f:Fr) (s:AS),(qj oj.op=true->aG s)->(∀ i∈pre,∀ m,ops[i]? = some m->Ih ops m oj) ->
  rH P T n ops K (pre++j::post) f s->tD P T n ops oj f s (rH P T n ops K (pre++post))
 | [],post,f,s,_,_,h=>by simpa only [List.nil_append,rH,l] using h
 | i::pre,post,f,s,o,b,h=>by
  simp only [List.cons_append,rH] at h;cases d:ops[i]? with
  | none=>rw [d] at h;exact h.elim
  | some m =>
   rw [d] at h;obtain ⟨x,h2⟩:=b i (by simp) m d;rcases h2 with ⟨c,e⟩ | ⟨e,h2⟩
   ·have p:=o e;obtain ⟨u,hu,y⟩:=xR c h;have h3:tD P T n ops m f s fun f s=>tD P T n ops oj f s (rH P T n ops K (pre++post)) :=
     Lq.step c hu (xS l pre post _ s o (fun k w=>b k (List.mem_cons_of_mem _ w)) y)
    refine tD.mono (Ft x c e p h3) fun f s r=>?_;simp only [List.cons_append,rH,d];exact r
   have h3:tD P T n ops m f s fun f s=>tD P T n ops oj f s (rH P T n ops K (pre++post)) :=
    tD.mono h fun f s r=>xS l pre post f s (fun h=>by rw [e] at h;cases h) (fun k w=>b k (List.mem_cons_of_mem _ w)) r
   refine tD.mono (RR x h2 h3) fun f s r=>?_;simp only [List.cons_append,rH,d];exact r
def Jv (ops:Array Oper) (bs:List Nat):Bool :=
 decide (Region.before ops=bs.toArray) &&
 (List.range ops.size).all fun i=>(ops[i]?).all (fun o=>o.after.toList.all fun e=>decide (e.on<i)||!Region.binds .any e) &&
  (List.range i).all fun j=>(bs.getD i 0).testBit j||((ops[j]?).any fun x=>(ops[i]?).any fun y=>x.apart ops y&&((mB x.op&&qj y.op)||(!qj y.op&&(fW x.op||(fW y.op&&tC x.op)||(mB x.op&&mB y.op)))))
structure Ii (ops:Array Oper):Prop where
 back:∀ (i:Nat) o,ops[i]? = some o->∀ e∈o.after.toList,Region.binds .any e=true->e.on<i
 free:∀ i,i<ops.size->∀ j,j<i->gZ ops j i=true\/∃ x y,ops[j]? = some x/\ops[i]? = some y/\Ih ops x y
theorem Qq {ops:Array Oper} {bs:List Nat} (h:Jv ops bs=true):Ii ops:=by
 simp only [Jv,Bool.and_eq_true,decide_eq_true_eq,List.all_eq_true,List.mem_range] at h;obtain ⟨hb,h⟩:=h;have b:∀ j i,gZ ops j i=(bs.getD i 0).testBit j:=by
  intro j i;unfold gZ;rw [hb];simp [List.getD_eq_getElem?_getD]
 have d:∀ (i:Nat) o,ops[i]? = some o->i<ops.size:=by
  intro i o c;rcases Nat.lt_or_ge i ops.size with h | h
  ·exact h
  ·simp [Array.getElem?_eq_none h] at c
 refine ⟨fun i o c e l k=>?_,fun i hi j hj=>?_⟩
 ·have:=(h i (d i o c)).1;rw [c] at this;simp only [Option.all_some,List.all_eq_true,Bool.or_eq_true,decide_eq_true_eq] at this;rcases this e l with h | h
  ·exact h
  ·rw [k] at h;simp at h
 ·have:=(h i hi).2 j hj;simp only [Bool.or_eq_true] at this;rcases this with h | h
  ·exact .inl (by rw [b];exact h)
  ·simp only [Option.any_eq_true,Bool.and_eq_true,Bool.or_eq_true] at h;obtain ⟨x,m,y,n,p,h2⟩:=h;exact .inr ⟨x,y,m,n,p,h2.elim .inl fun h=>.inr ⟨by simpa using h.1,h.2.elim (fun h=>h.elim .inl fun h=>.inr (.inl h)) fun h=>.inr (.inr h)⟩⟩
theorem NT (hT:TT.Ok P T) (hD:Ii ops) {Q:Exit->Fr->AS->Prop} {B:Nat} {Fl:bS} {s0:AS} {w0:World} :
  ∀ (fuel:Nat) (q:List Nat) (listed:Array Bool) (f:Fr) (s:AS) (γ:bS) (a:Act) (w:World),
  q.Pairwise (·<·)->(∀ i∈q,i<ops.size)->iy ops listed (fun i=>i<ops.size/\i ∉ q)->q.length<=fuel ->
  rH P T n ops (fun f s=>Q .normal f s) q f s ->
  nP γ n f a->Rel B γ s w->fV B Fl s0 w0 γ s w->Down ops listed ->
  wpAny P .any ops (vu B Fl s0 w0 n Q) fuel listed a w:=by
 have D:∀ {listed:Array Bool},iy ops listed (fun i=>i<ops.size/\i ∉ ([]:List Nat))->Region.ready .any ops listed=[]:=by
  intro listed r;rw [List.eq_nil_iff_forall_not_mem];intro i hi;obtain ⟨o,F,Z,_⟩:=(fk r i).1 hi;refine Z ⟨?_,by simp⟩;rcases Nat.lt_or_ge i ops.size with h | h
  ·exact h
  ·simp [Array.getElem?_eq_none h] at F
 intro fuel
 induction fuel with
 | zero =>
  intro q listed f s γ a w c A r hf h d hr hd j;obtain rfl:q=[]:=List.length_eq_zero_iff.1 (by omega);exact ⟨D r,γ,f,s,d,hd,hr,h⟩
 | succ fuel ih =>
  intro q listed f s γ a w c A r hf h d hr hd j;cases q with
  | nil =>
   refine ⟨fun _=>⟨γ,f,s,d,hd,hr,h⟩,fun i hi=>?_⟩;rw [D r] at hi;cases hi
  | cons L q' =>
   refine ⟨fun M=>?_,fun i hi=>?_⟩
   ·exfalso;have O:=A L (by simp);have:L∈Region.ready .any ops listed:=by
     refine (fk r L).2 ⟨_,Array.getElem?_eq_getElem O,by simp,fun e W hb=>?_⟩;have:=hD.back L _ (Array.getElem?_eq_getElem O) e W hb;refine (r.iff e.on (by omega)).2 ⟨by omega,?_⟩;simp only [List.mem_cons,not_or];refine ⟨by omega,fun hm=>?_⟩;have:=(List.pairwise_cons.1 c).1 e.on hm;omega
    rw [M] at this;cases this
   ·obtain ⟨o,F,Z,W⟩:=(fk r i).1 hi;have J:i<ops.size:=by
     rcases Nat.lt_or_ge i ops.size with h | h
     ·exact h
     ·simp [Array.getElem?_eq_none h] at F
    have ab:i∈L::q':=by
     by_cases h:i∈L::q'
     ·exact h
     ·exact absurd ⟨J,h⟩ Z
    obtain ⟨pre,post,hq⟩:=List.append_of_mem ab;rw [hq] at h c A r hf;have G:∀ k∈pre,k<i:=by
     intro k p;have:=(List.pairwise_append.1 c).2.2 k p i (by simp);exact this
    have K:∀ k∈pre,∀ ok,ops[k]? = some ok->Ih ops ok o:=by
     intro k p ok z;have C:=G k p;have ad:k<ops.size:=by omega
     rcases hD.free i J k C with h | ⟨x,y,X,Y,h⟩
     ·exfalso;have:=jB j i o F W h;have:=(r.iff k ad).1 this;exact absurd (by simp [p]:k∈pre++i::post) this.2
     ·rw [z] at X;rw [F] at Y;obtain rfl:=Option.some.inj X;obtain rfl:=Option.some.inj Y;exact h
    have b:=xS F pre post f s (fun _=>hr.Ns) K h;have l:(pre++post).Pairwise (·<·):=by
     have:=List.pairwise_append.1 c;rw [List.pairwise_append];exact ⟨this.1,(List.pairwise_cons.1 this.2.1).2,fun x X y Y=>this.2.2 x X y (by simp [Y])⟩
    have H:i ∉ pre++post:=by
     intro hm;rcases List.mem_append.1 hm with h | h
     ·have:=G i h;omega
     ·have:=(List.pairwise_cons.1 (List.pairwise_append.1 c).2.1).1 i h;omega
    have R:iy ops (listed.setIfInBounds i true) (fun k=>k<ops.size/\k ∉ pre++post):=by
     refine r.set fun k=>?_;simp only [List.mem_append,List.mem_cons,not_or];constructor
     ·rintro ⟨S,h2,h3⟩;by_cases p:k=i
      ·exact .inl p
      ·exact .inr ⟨S,h2,p,h3⟩
     ·rintro (rfl | ⟨S,h2,h3,h4⟩)
      ·simp only [List.mem_append,not_or] at H;exact ⟨J,H⟩
      ·exact ⟨S,h2,h4⟩
    have m:Down ops (listed.setIfInBounds i true):=by
     intro k ok z p e U hb;have mono:listed.getD e.on false=true->(listed.setIfInBounds i true).getD e.on false=true:=by
      intro h;have ae:e.on<listed.size:=by
       rcases Nat.lt_or_ge e.on listed.size with h' | h'
       ·exact h'
       ·simp [Array.getD_eq_getD_getElem?,Array.getElem?_eq_none h'] at h
      simp only [Array.getD_eq_getD_getElem?,Array.getElem?_setIfInBounds] at h ⊢;split
      ·rename_i al;subst al;simp [ae]
      ·exact h
     by_cases C:i=k
     ·subst C;rw [F] at z;obtain rfl:=Option.some.inj z;exact mono (W e U hb)
     ·refine mono (j k ok z ?_ e U hb);simp only [Array.getD_eq_getD_getElem?,Array.getElem?_setIfInBounds] at p ⊢;rw [if_neg C] at p;exact p
    have hlen:(pre++post).length<=fuel:=by simp at hf ⊢;omega
    have I:∀ k∈pre++post,k<ops.size:=fun k p=>A k (by rcases List.mem_append.1 p with h | h <;> simp [h]);unfold wpOp;rw [F];simp only;unfold tD at b;split at b
    ·rename_i hw;rw [ew d hw,if_pos rfl];have am:Fk P T n o f s (rH P T n ops (fun f s=>Q .normal f s) (pre++post)):=lV b.1 b.2 fun v s' hh=>hh;refine .inl (jA hT am d hr ?_);intro γ' f' s' a' w' S h2 h3 h4;exact ih _ _ _ s' γ' a' w' l I R hlen h4 S h3 (hd.trans h2) m
    ·rename_i hw;rw [ew d hw,if_neg (by simp)];exact ih _ _ _ s γ _ w l I R hlen b.2 (d.put b.1 (pN γ)) hr hd m
    ·exact b.elim
theorem kK.calm (hT:TT.Ok P T) (bY:P.follows .mixedOrders=true) {id:Nat} {f:Fr} {s:AS} {Q:Exit->Fr->AS->Prop} {bs:List Nat} (c:Jv ops bs=true) (b:(ops.toList.all fun o=>!yR o.op)=true)
  (h:fD P T n ops ops.toList f s fun f s=>Q .normal f s):kK P n (.region id ops true) f s Q:=by
 intro B γ a w hf hr;have k:=Qq c;refine wp_region_any bY ?_;have e:=uD (ops:=ops) (fun i o j=>by
  rw [List.all_eq_true] at b;simpa using b o (List.mem_iff_getElem?.2 ⟨i,by simpa using j⟩)) ops.size 0 f s (by omega) (by simpa using h)
 rw [<- List.range_eq_range'] at e;refine NT hT k ops.size (List.range ops.size) _ f s γ a { w with drawn:=w.drawn+1 } List.pairwise_lt_range (fun i hi=>List.mem_range.1 hi) ⟨by simp,fun i hi=>?_⟩ (by simp) e hf (hr.of_heap rfl) (fV.of_heap rfl) ?_
 ·simp [Array.getD_eq_getD_getElem?,hi]
 ·intro i o j d;simp only [Array.getD_eq_getD_getElem?] at d;by_cases hi:i<ops.size
  ·simp [hi] at d
  ·simp [hi] at d
end
end Go.Am
end

section
namespace Go.Am
section
variable {P:Program} {T:TT} {n:Nat} {ops:Array Oper}
theorem Dl {K:Fr->AS->Prop}:∀ (L:List Nat) (f:Fr) (s:AS),(∀ i∈L,i<ops.size)->(∀ i∈L,∀ o,ops[i]? = some o->yR o.op=false) ->
  fD P T n ops (L.filterMap fun i=>ops[i]?) f s K->rH P T n ops K L f s
 | [],f,s,_,_,h=>h
 | i::L,f,s,c,d,h=>by
  have e:=c i (by simp);have k:ops[i]? = some ops[i]:=Array.getElem?_eq_getElem e;simp only [List.filterMap_cons,k] at h;simp only [rH,k];have rc:=fun f s=>Dl (K:=K) L f s (fun j hj=>c j (by simp [hj])) (fun j hj=>d j (by simp [hj]));simp only [fD] at h;unfold tD;split at h
  ·rename_i m;rw [m];obtain ⟨w,h2⟩:=h;refine ⟨w,?_⟩;rcases h2 with h2 | ⟨l,r,_⟩
   rotate_left
   ·rw [yS (d i (by simp) _ k)] at r;cases r
   unfold Ca;split
   ·rename_i g args p;rw [p] at h2;exact h2.mono fun v s' x=>rc _ _ x
   ·rename_i p;rw [p] at h2;obtain ⟨v,s',a,b⟩:=h2;exact ⟨v,s',a,rc _ _ b⟩
  ·rename_i m;rw [m];exact ⟨h.1,rc _ _ h.2⟩
  ·exact h.elim
theorem exists_least:∀ (L:List Nat),L≠[]->∃ m∈L,∀ j∈L,m<=j
 | [],h=>absurd rfl h
 | [x],_=>⟨x,by simp,by simp⟩
 | x::y::L,_=>by
  obtain ⟨m,hm,b⟩:=exists_least (y::L) (by simp);rcases Nat.le_total x m with h | h
  ·exact ⟨x,by simp,fun j hj=>by
    rcases List.mem_cons.1 hj with rfl | hj
    ·exact Nat.le_refl _
    ·exact Nat.le_trans h (b j hj)⟩
  ·exact ⟨m,by simp [hm],fun j hj=>by
    rcases List.mem_cons.1 hj with rfl | hj
    ·exact h
    ·exact b j hj⟩
def X2 (ops:Array Oper) (k i:Nat):Prop:=gZ ops k i=true\/∃ x y,ops[k]? = some x/\ops[i]? = some y/\Ih ops x y
theorem Lr (hT:TT.Ok P T) (M:∀ (i:Nat) o,ops[i]? = some o->∀ e∈o.after.toList,Region.binds .any e=true->e.on<i) {Q:Exit->Fr->AS->Prop} {B:Nat} {Fl:bS} {s0:AS} {w0:World} :
  ∀ (fuel:Nat) (q:List Nat) (listed:Array Bool) (f:Fr) (s:AS) (γ:bS) (a:Act) (w:World),
  q.Nodup->q.Pairwise (X2 ops)->(∀ i∈q,i<ops.size)->iy ops listed (fun i=>i<ops.size/\i ∉ q)->q.length<=fuel ->
  rH P T n ops (fun f s=>Q .normal f s) q f s ->
  nP γ n f a->Rel B γ s w->fV B Fl s0 w0 γ s w->Down ops listed ->
  wpAny P .any ops (vu B Fl s0 w0 n Q) fuel listed a w:=by
 have D:∀ {listed:Array Bool},iy ops listed (fun i=>i<ops.size/\i ∉ ([]:List Nat))->Region.ready .any ops listed=[]:=by
  intro listed m;rw [List.eq_nil_iff_forall_not_mem];intro i hi;obtain ⟨o,F,hp,_⟩:=(fk m i).1 hi;refine hp ⟨?_,by simp⟩;rcases Nat.lt_or_ge i ops.size with h | h
  ·exact h
  ·simp [Array.getElem?_eq_none h] at F
 intro fuel
 induction fuel with
 | zero =>
  intro q listed f s γ a w z A p m hf h c hr hd d;obtain rfl:q=[]:=List.length_eq_zero_iff.1 (by omega);exact ⟨D m,γ,f,s,c,hd,hr,h⟩
 | succ fuel ih =>
  intro q listed f s γ a w z A p m hf h c hr hd d;by_cases R:q=[]
  ·subst R;refine ⟨fun _=>⟨γ,f,s,c,hd,hr,h⟩,fun i hi=>?_⟩;rw [D m] at hi;cases hi
  ·refine ⟨fun S=>?_,fun i hi=>?_⟩
   ·exfalso;obtain ⟨q0,U,C⟩:=exists_least q R;have W:=p q0 U;have:q0∈Region.ready .any ops listed:=by
     refine (fk m q0).2 ⟨_,Array.getElem?_eq_getElem W,fun h=>h.2 U,fun e he hb=>?_⟩;have:=M q0 _ (Array.getElem?_eq_getElem W) e he hb;refine (m.iff e.on (by omega)).2 ⟨by omega,fun hm=>?_⟩;have:=C e.on hm;omega
    rw [S] at this;cases this
   ·obtain ⟨o,F,hp,he⟩:=(fk m i).1 hi;have X:i<ops.size:=by
     rcases Nat.lt_or_ge i ops.size with h | h
     ·exact h
     ·simp [Array.getElem?_eq_none h] at F
    have ad:i∈q:=by
     by_cases h:i∈q
     ·exact h
     ·exact absurd ⟨X,h⟩ hp
    obtain ⟨pre,post,hq⟩:=List.append_of_mem ad;rw [hq] at h z A p m hf;have O:∀ k∈pre,∀ ok,ops[k]? = some ok->Ih ops ok o:=by
     intro k l ok r;have ae:k<ops.size:=p k (by simp [l]);rcases (List.pairwise_append.1 A).2.2 k l i (by simp) with h | ⟨x,y,hx,hy,h⟩
     ·exfalso;have:=jB d i o F he h;have:=(m.iff k ae).1 this;exact absurd (by simp [l]:k∈pre++i::post) this.2
     ·rw [r] at hx;rw [F] at hy;obtain rfl:=Option.some.inj hx;obtain rfl:=Option.some.inj hy;exact h
    have b:=xS F pre post f s (fun _=>hr.Ns) O h;have G:(pre++post).Sublist (pre++i::post):=List.Sublist.append_left (List.sublist_cons_self _ _) _;have H:=z.sublist G;have I:=A.sublist G;have J:i ∉ pre++post:=by
     intro hm;have K:=List.nodup_append.1 z;rcases List.mem_append.1 hm with h | h
     ·exact K.2.2 i h i (by simp) rfl
     ·exact (List.nodup_cons.1 K.2.1).1 h
    have Y:iy ops (listed.setIfInBounds i true) (fun k=>k<ops.size/\k ∉ pre++post):=by
     refine m.set fun k=>?_;simp only [List.mem_append,List.mem_cons,not_or];constructor
     ·rintro ⟨K,h2,h3⟩;by_cases l:k=i
      ·exact .inl l
      ·exact .inr ⟨K,h2,l,h3⟩
     ·rintro (rfl | ⟨K,h2,h3,h4⟩)
      ·simp only [List.mem_append,not_or] at J;exact ⟨X,J⟩
      ·exact ⟨K,h2,h4⟩
    have j:Down ops (listed.setIfInBounds i true):=by
     intro k ok r l e Z hb;have mono:listed.getD e.on false=true->(listed.setIfInBounds i true).getD e.on false=true:=by
      intro h;have al:e.on<listed.size:=by
       rcases Nat.lt_or_ge e.on listed.size with h' | h'
       ·exact h'
       ·simp [Array.getD_eq_getD_getElem?,Array.getElem?_eq_none h'] at h
      simp only [Array.getD_eq_getD_getElem?,Array.getElem?_setIfInBounds] at h ⊢;split
      ·rename_i am;subst am;simp [al]
      ·exact h
     by_cases ab:i=k
     ·subst ab;rw [F] at r;obtain rfl:=Option.some.inj r;exact mono (he e Z hb)
     ·refine mono (d k ok r ?_ e Z hb);simp only [Array.getD_eq_getD_getElem?,Array.getElem?_setIfInBounds] at l ⊢;rw [if_neg ab] at l;exact l
    have hlen:(pre++post).length<=fuel:=by simp at hf ⊢;omega
    have L:∀ k∈pre++post,k<ops.size:=fun k l=>p k (by rcases List.mem_append.1 l with h | h <;> simp [h]);unfold wpOp;rw [F];simp only;unfold tD at b;split at b
    ·rename_i hw;rw [ew c hw,if_pos rfl];have an:Fk P T n o f s (rH P T n ops (fun f s=>Q .normal f s) (pre++post)):=lV b.1 b.2 fun v s' hh=>hh;refine .inl (jA hT an c hr ?_);intro γ' f' s' a' w' K h2 h3 h4;exact ih _ _ _ s' γ' a' w' H I L Y hlen h4 K h3 (hd.trans h2) j
    ·rename_i hw;rw [ew c hw,if_neg (by simp)];exact ih _ _ _ s γ _ w H I L Y hlen b.2 (c.put b.1 (pN γ)) hr hd j
    ·exact b.elim
end
theorem Ij {P:Program} {T:TT} {n:Nat} {ops:Array Oper} {A:List (List Nat)} {H:List Nat} {V:Nat->List AV->AV->Prop} {S:Nat->List AV->AV->AS->Prop} {X:AS->AS->Prop} {C:Nat->List AV->AV->AS->Prop} {M:List Nat} {s:AS} {K2:Fr->AS->Prop} {t:List Nat} :
  ∀ (q:List Nat) (f:Fr) (F:ki) (c:AS->Prop) (s1:AS),(∀ k∈q,∃ o,ops[k]? = some o/\fW o.op=true/\H.contains k=false)->dq P T n ops A H V S X C M s (fun f s'=>rH P T n ops K2 t f s') q f F c ->
  X s s1->aG s1->(∀ p∈F,p.2 s1)->c s1->(H=[]->s1=s)->rH P T n ops K2 (q++t) f s1
 | [],f,F,c,s1,_,h,e,h2,h3,i,h4=>h s1 e h2 h3 i h4
 | k::q,f,F,c,s1,l,h,e,h2,h3,i,h4=>by
  obtain ⟨o,m,b,r⟩:=l k (by simp);have rc:=fun f F w h=>Ij (P:=P) (T:=T) (n:=n) (A:=A) (V:=V) (S:=S) (M:=M) (C:=C) (K2:=K2) (t:=t) q f F c s1 (fun k x=>l k (by simp [x])) h e h2 w i h4;simp only [dq,m] at h;simp only [List.cons_append,rH,m];obtain ⟨hd,h⟩:=h;unfold tD;split at h
  ·exact h.elim
  ·rename_i j;rw [j];exact ⟨hd,rc _ _ h3 h.2⟩
  ·rename_i j;rw [j];rw [if_neg (by rw [r];simp)] at h;obtain ⟨_,z,v,⟨hv,_⟩,y⟩:=h;obtain ⟨_,d⟩:=As b hv;refine ⟨hd,?_⟩;unfold Ca;rw [gA (wz b)];exact ⟨v,s1,d s1,rc _ _ h3 y⟩
def Qr:List Nat->Bool
 | []=>true
 | x::l=>(l.all fun y=>decide (x<y))&&Qr l
theorem EH:∀ {l:List Nat},Qr l=true->l.Pairwise (·<·)
 | [],_=>List.Pairwise.nil
 | x::l,h=>by
  simp only [Qr,Bool.and_eq_true,List.all_eq_true,decide_eq_true_eq] at h;exact List.pairwise_cons.2 ⟨h.1,EH h.2⟩
def Fu (ops:Array Oper) (D t:List Nat) (A:List (List Nat)) (H:List Nat) (bs:List Nat):Bool :=
 decide (Region.before ops=bs.toArray) &&
 ((List.range ops.size).all fun i=>(ops[i]?).all (fun o=>o.after.toList.all fun e=>decide (e.on<i)||!Region.binds .any e)&&(D.contains i||t.contains i)) &&
 Qr D&&Qr t &&
 (D.all fun i=>decide (i<ops.size)&&!t.contains i&&((A.getD i []).all fun j=>(bs.getD i 0).testBit j&&decide (j<i)) &&
  ((ops[i]?).all fun o=>o.after.toList.all fun e=>D.contains e.on||!Region.binds .any e) &&
  (D.all fun j=>!decide (j<i)||(bs.getD i 0).testBit j||((ops[j]?).any fun x=>(ops[i]?).any fun y=>x.apart ops y)) &&
  (t.all fun u=>(bs.getD u 0).testBit i||((ops[i]?).any fun x=>(ops[u]?).any fun y=>x.apart ops y&&fW x.op&&!qj y.op&&!H.contains i))) &&
 (t.all fun u=>decide (u<ops.size)&&((ops[u]?).all fun o=>!yR o.op)&&t.all fun v=>!decide (v<u)||(bs.getD u 0).testBit v||((ops[v]?).any fun x=>(ops[u]?).any fun y=>x.apart ops y&&fW x.op&&!qj y.op))
structure Ik (ops:Array Oper) (D t:List Nat) (A:List (List Nat)) (H:List Nat):Prop where
 back:∀ (i:Nat) o,ops[i]? = some o->∀ e∈o.after.toList,Region.binds .any e=true->e.on<i
 all:∀ i,i<ops.size->i∈D\/i∈t
 sD:D.Pairwise (·<·)
 st:t.Pairwise (·<·)
 WH:∀ i∈D,i<ops.size
 XC:∀ i∈t,i<ops.size
 XD:∀ i∈D,i ∉ t
 VB:∀ i∈D,∀ j∈A.getD i [],gZ ops j i=true/\j<i
 dep:∀ i∈D,∀ o,ops[i]? = some o->∀ e∈o.after.toList,Region.binds .any e=true->e.on∈D
 free:∀ i∈D,∀ j∈D,j<i->gZ ops j i=true\/∃ x y,ops[j]? = some x/\ops[i]? = some y/\x.apart ops y=true
 dt:∀ i∈D,∀ u∈t,gZ ops i u=true\/∃ x y,ops[i]? = some x/\ops[u]? = some y/\Ih ops x y/\fW x.op=true/\H.contains i=false
 nx:∀ u∈t,∀ o,ops[u]? = some o->yR o.op=false
 tt:∀ u∈t,∀ v∈t,v<u->X2 ops v u
theorem Qs {ops:Array Oper} {D t:List Nat} {A:List (List Nat)} {H bs:List Nat} (h:Fu ops D t A H bs=true):Ik ops D t A H:=by
 simp only [Fu,Bool.and_eq_true,decide_eq_true_eq] at h;obtain ⟨⟨⟨⟨⟨hb,d⟩,h2⟩,h3⟩,h4⟩,C⟩:=h;have b:∀ j i,gZ ops j i=(bs.getD i 0).testBit j:=by
  intro j i;unfold gZ;rw [hb];simp [List.getD_eq_getElem?_getD]
 have p:∀ (i:Nat) o,ops[i]? = some o->i<ops.size:=by
  intro i o c;rcases Nat.lt_or_ge i ops.size with h | h
  ·exact h
  ·simp [Array.getElem?_eq_none h] at c
 rw [List.all_eq_true] at d h4 C;have l:=fun i hi=>by
  have:=h4 i hi;simp only [Bool.and_eq_true,decide_eq_true_eq,Bool.not_eq_true'] at this;exact this
 have r:=fun i hi=>by
  have:=C i hi;simp only [Bool.and_eq_true,decide_eq_true_eq] at this;exact this
 refine ⟨fun i o c e w k=>?_,fun i hi=>?_,EH h2,EH h3,fun i hi=>(l i hi).1.1.1.1.1,fun i hi=>(r i hi).1.1,fun i hi ht=>?_,fun i hi j hj=>?_,fun i hi o c e w k=>?_,fun i hi j hj z=>?_,fun i hi u hu=>?_,fun u hu o c=>?_,fun u hu v hv B=>?_⟩
 ·have:=d i (List.mem_range.2 (p i o c));simp only [Bool.and_eq_true] at this;have:=this.1;rw [c] at this;simp only [Option.all_some,List.all_eq_true,Bool.or_eq_true,decide_eq_true_eq] at this;rcases this e w with h | h
  ·exact h
  ·rw [k] at h;simp at h
 ·have:=d i (List.mem_range.2 hi);simp only [Bool.and_eq_true,Bool.or_eq_true,List.contains_iff_mem] at this;exact this.2
 ·have:=(l i hi).1.1.1.1.2;rw [<- List.contains_iff_mem] at ht;rw [ht] at this;cases this
 ·have:=(l i hi).1.1.1.2;simp only [List.all_eq_true,Bool.and_eq_true,decide_eq_true_eq] at this;rw [b];exact this j hj
 ·have:=(l i hi).1.1.2;rw [c] at this;simp only [Option.all_some,List.all_eq_true,Bool.or_eq_true,List.contains_iff_mem] at this;rcases this e w with h | h
  ·exact h
  ·rw [k] at h;simp at h
 ·have:=(l i hi).1.2;simp only [List.all_eq_true,Bool.or_eq_true,Bool.not_eq_true',decide_eq_false_iff_not] at this;rcases this j hj with (h | h) | h
  ·exact absurd z h
  ·exact .inl (by rw [b];exact h)
  ·simp only [Option.any_eq_true] at h;obtain ⟨x,m,y,n,h⟩:=h;exact .inr ⟨x,y,m,n,h⟩
 ·have:=(l i hi).2;simp only [List.all_eq_true,Bool.or_eq_true] at this;rcases this u hu with h | h
  ·exact .inl (by rw [b];exact h)
  ·simp only [Option.any_eq_true,Bool.and_eq_true,Bool.not_eq_true'] at h;obtain ⟨x,m,y,n,⟨⟨d,h2⟩,h3⟩,h4⟩:=h;exact .inr ⟨x,y,m,n,⟨d,.inr ⟨h3,.inl h2⟩⟩,h2,h4⟩
 ·have:=(r u hu).1.2;rw [c] at this;simpa using this
 ·have:=(r u hu).2;simp only [List.all_eq_true,Bool.or_eq_true,Bool.not_eq_true',decide_eq_false_iff_not] at this;rcases this v hv with (h | h) | h
  ·exact absurd B h
  ·exact .inl (by rw [b];exact h)
  ·simp only [Option.any_eq_true,Bool.and_eq_true,Bool.not_eq_true'] at h;obtain ⟨x,m,y,n,⟨d,h2⟩,h3⟩:=h;exact .inr ⟨x,y,m,n,d,.inr ⟨h3,.inl h2⟩⟩
def VK (bs:List Nat):List Nat->Bool
 | []=>true
 | a::M=>(M.all fun b=>(bs.getD b 0).testBit a)&&VK bs M
def XE (ops:Array Oper) (D H M:List Nat) (bs:List Nat):Bool:=decide (Region.before ops=bs.toArray)&&Qr M&&(M.all fun i=>D.contains i&&H.contains i)&&VK bs M
structure Jx (ops:Array Oper) (D H M:List Nat):Prop where
 WW:M.Pairwise (·<·)
 sub:∀ i∈M,i∈D
 Yd:∀ i∈M,H.contains i=true
 VB:M.Pairwise fun a b=>gZ ops a b=true
theorem VL {ops:Array Oper} {D H M bs:List Nat} (h:XE ops D H M bs=true):Jx ops D H M:=by
 simp only [XE,Bool.and_eq_true,decide_eq_true_eq,List.all_eq_true] at h;obtain ⟨⟨⟨hb,d⟩,h2⟩,h3⟩:=h;refine ⟨EH d,fun i hi=>List.contains_iff_mem.1 (h2 i hi).1,fun i hi=>(h2 i hi).2,?_⟩;clear d h2
 induction M with
 | nil=>exact List.Pairwise.nil
 | cons a M e =>
  simp only [VK,Bool.and_eq_true,List.all_eq_true] at h3;refine List.pairwise_cons.2 ⟨fun b c=>?_,e h3.2⟩;have:=h3.1 b c;unfold gZ;rw [hb];simpa [List.getD_eq_getElem?_getD] using this
theorem NU {ops:Array Oper} {D H:List Nat}:Jx ops D H []:=⟨List.Pairwise.nil,by simp,by simp,List.Pairwise.nil⟩
section
variable {P:Program} {T:TT} {n:Nat} {ops:Array Oper} {A:List (List Nat)} {H:List Nat} {V:Nat->List AV->AV->Prop} {S:Nat->List AV->AV->AS->Prop} {X:AS->AS->Prop} {C:Nat->List AV->AV->AS->Prop} {M:List Nat} {s:AS}
theorem Jy (hT:TT.Ok P T) (cc:1<=s.st) {D t:List Nat} (G:Ik ops D t A H) (bb:Jx ops D H M) (hX:∀ s s',Ext s s'->X s s') (bm:∀ a b c,X a b->X b c->X a c) (hC:∀ i k v s s',Ext s s'->C i k v s->C i k v s') (hS:∀ i k v s s',X s s'->S i k v s->S i k v s') {Q:Exit->Fr->AS->Prop} {B:Nat} {Fl:bS} {s0:AS} {w0:World} :
  ∀ (fuel:Nat) (q:List Nat) (listed:Array Bool) (f:Fr) (F:ki) (c:AS->Prop) (s1:AS) (γ:bS) (a:Act) (w:World),
  q.Sublist D->iy ops listed (fun i=>i∈D/\i ∉ q)->q.length+t.length<=fuel ->
  dq P T n ops A H V S X C M s (fun f s'=>rH P T n ops (fun f s=>Q .normal f s) t f s') q f F c->X s s1->c s1->(∀ s s',Ext s s'->c s->c s')->(H=[]->s1=s)->(∀ p∈F,p.2 s1)->(∀ p∈F,∀ s s',X s s'->p.2 s->p.2 s') ->
  nP γ n f a->Rel B γ s1 w->fV B Fl s0 w0 γ s1 w->Down ops listed ->
  wpAny P .any ops (vu B Fl s0 w0 n Q) fuel listed a w:=by
 intro fuel;have Z:∀ (fuel:Nat) (q:List Nat) (listed:Array Bool) (f:Fr) (F:ki) (c:AS->Prop) (s1:AS) (γ:bS) (a:Act) (w:World),
   q.Sublist D->iy ops listed (fun i=>i∈D/\i ∉ q)->q.length+t.length<=fuel->(∀ k∈q,∃ o,ops[k]? = some o/\fW o.op=true/\H.contains k=false) ->
   dq P T n ops A H V S X C M s (fun f s'=>rH P T n ops (fun f s=>Q .normal f s) t f s') q f F c->X s s1->c s1->(H=[]->s1=s)->(∀ p∈F,p.2 s1) ->
   nP γ n f a->Rel B γ s1 w->fV B Fl s0 w0 γ s1 w->Down ops listed ->
   wpAny P .any ops (vu B Fl s0 w0 n Q) fuel listed a w:=by
  intro fuel q listed f F c s1 γ a w l hL hf hc h m J R hF K hr hd j;have z:=fun i hi=>l.subset (a:=i) hi;refine Lr hT G.back fuel (q++t) listed f s1 γ a w ?_ ?_ ?_ ⟨hL.size,fun i hi=>?_⟩ (by simpa using hf) (Ij q f F c s1 hc h m hr.Ns hF J R) K hr hd j
  ·refine List.nodup_append.2 ⟨(G.sD.imp fun h=>Nat.ne_of_lt h).sublist l,G.st.imp fun h=>Nat.ne_of_lt h,fun a ha b hb=>?_⟩;rintro rfl;exact G.XD a (z a ha) hb
  ·refine List.pairwise_append.2 ⟨?_,?_,fun k r u hu=>?_⟩
   ·refine List.Pairwise.imp_of_mem ?_ (G.sD.sublist l);intro k i r hi U;rcases G.free i (z i hi) k (z k r) U with h | ⟨x,y,hx,hy,h⟩
    ·exact .inl h
    ·obtain ⟨o,ho,bo,_⟩:=hc k r;obtain ⟨o2,bc,a2,_⟩:=hc i hi;rw [hx] at ho;rw [hy] at bc;obtain rfl:=Option.some.inj ho;obtain rfl:=Option.some.inj bc;refine .inr ⟨x,y,hx,hy,h,.inr ⟨?_,.inl bo⟩⟩;cases ab:y.op <;> first | rfl | (rw [ab] at a2;cases a2)
   ·refine List.Pairwise.imp_of_mem ?_ G.st;intro v u hv hu U;exact G.tt u hu v hv U
   ·rcases G.dt k (z k r) u hu with h | ⟨x,y,hx,hy,h,_⟩
    ·exact .inl h
    ·exact .inr ⟨x,y,hx,hy,h⟩
  ·intro i hi;rcases List.mem_append.1 hi with h | h
   ·exact G.WH i (z i h)
   ·exact G.XC i h
  ·rw [hL.iff i hi];simp only [List.mem_append,not_or];constructor
   ·rintro ⟨O,h2⟩;exact ⟨hi,h2,G.XD i O⟩
   ·rintro ⟨_,h2,h3⟩;exact ⟨(G.all i hi).resolve_right h3,h2⟩
 induction fuel with
 | zero =>
  intro q listed f F c s1 γ a w l hL hf h m J ad R hF I K hr hd j;obtain rfl:q=[]:=List.length_eq_zero_iff.1 (by omega);exact Z 0 [] listed f F c s1 γ a w l hL hf (by simp) h m J R hF K hr hd j
 | succ fuel ih =>
  intro q listed f F c s1 γ a w l hL hf h m J ad R hF I K hr hd j;by_cases a3:∀ k∈q,∃ o,ops[k]? = some o/\fW o.op=true/\H.contains k=false
  ·exact Z _ q listed f F c s1 γ a w l hL hf a3 h m J R hF K hr hd j
  ·have z:=fun i hi=>l.subset (a:=i) hi;obtain ⟨kn,ar,bd⟩:∃ k∈q,¬ ∃ o,ops[k]? = some o/\fW o.op=true/\H.contains k=false:=by
    apply Classical.byContradiction;intro bs;exact a3 fun k r=>Classical.byContradiction fun hb=>bs ⟨k,r,hb⟩
   have bx:q≠[]:=by rintro rfl;cases ar
   have a5:∀ u∈t,gZ ops kn u=true:=fun u hu=>by
    rcases G.dt kn (z kn ar) u hu with h | ⟨x,y,hx,_,_,O,h2⟩
    ·exact h
    ·exact absurd ⟨x,hx,O,h2⟩ bd
   refine ⟨fun be=>?_,fun i hi=>?_⟩
   ·exfalso;obtain ⟨q0,a6,aw⟩:=exists_least q bx;have U:=G.WH q0 (z q0 a6);have:q0∈Region.ready .any ops listed:=by
     refine (fk hL q0).2 ⟨_,Array.getElem?_eq_getElem U,fun h=>h.2 a6,fun e he hb=>?_⟩;have O:=G.back q0 _ (Array.getElem?_eq_getElem U) e he hb;have h2:=G.dep q0 (z q0 a6) _ (Array.getElem?_eq_getElem U) e he hb;refine (hL.iff e.on (by omega)).2 ⟨h2,fun hm=>?_⟩;have:=aw e.on hm;omega
    rw [be] at this;cases this
   ·obtain ⟨o,ho,hp,he⟩:=(fk hL i).1 hi;have b0:i<ops.size:=by
     rcases Nat.lt_or_ge i ops.size with h | h
     ·exact h
     ·simp [Array.getElem?_eq_none h] at ho
    have a0:i∈D:=by
     rcases G.all i b0 with h | h
     ·exact h
     ·exfalso;have:=jB j i o ho he (a5 i h);have:=(hL.iff kn (G.WH kn (z kn ar))).1 this;exact this.2 ar
    have b1:i∈q:=by
     by_cases h:i∈q
     ·exact h
     ·exact absurd ⟨a0,h⟩ hp
    obtain ⟨pre,post,hq⟩:=List.append_of_mem b1;rw [hq] at h l hL hf z;have ae:=G.sD.sublist l;have al:∀ k∈pre,k<i:=by
     intro k r;exact (List.pairwise_append.1 ae).2.2 k r i (by simp)
    have a7:∀ k∈pre,∀ ok,ops[k]? = some ok->Ue ops A k i ok o:=by
     intro k r ok am;have an:=al k r;have a8:k∈D:=z k (by simp [r]);have b2:k<ops.size:=G.WH k a8;have bh:gZ ops k i=false:=by
      cases b3:gZ ops k i with
      | false=>rfl
      | true =>
       have:=jB j i o ho he b3;have:=(hL.iff k b2).1 this;exact absurd (by simp [r]:k∈pre++i::post) this.2
     refine ⟨?_,?_,?_⟩
     ·rcases G.free i a0 k a8 an with h | ⟨x,y,hx,hy,h⟩
      ·rw [bh] at h;cases h
      ·rw [am] at hx;rw [ho] at hy;obtain rfl:=Option.some.inj hx;obtain rfl:=Option.some.inj hy;exact h
     ·cases hc:(A.getD i []).contains k with
      | false=>rfl
      | true =>
       have:=(G.VB i a0 k (by simpa using hc)).1;rw [bh] at this;cases this
     ·cases hc:(A.getD k []).contains i with
      | false=>rfl
      | true =>
       have:=(G.VB k a8 i (by simpa using hc)).2;omega
    have b4:∀ k∈pre,M.contains k=true->M.contains i=false:=by
     intro k r b5;cases b6:M.contains i with
     | false=>rfl
     | true =>
      exfalso;have an:=al k r;have O:gZ ops k i=true:=by
       obtain ⟨M1,M2,e⟩:=List.append_of_mem (List.contains_iff_mem.1 b5);have bi:=bb.VB;have bj:=bb.WW;have bk:=List.contains_iff_mem.1 b6;rw [e] at bi bj bk;rcases List.mem_append.1 bk with h | h
       ·have:=(List.pairwise_append.1 bj).2.2 i h k (by simp);omega
       ·rcases List.mem_cons.1 h with rfl | h
        ·omega
        ·exact (List.pairwise_cons.1 (List.pairwise_append.1 bi).2.1).1 i h
      have h2:=jB j i o ho he O;exact ((hL.iff k (G.WH k (z k (by simp [r])))).1 h2).2 (by simp [r])
    have d:=Ao ho pre post f F c a7 b4 h;have a9:(pre++post).Sublist (pre++i::post):=List.Sublist.append_left (List.sublist_cons_self _ _) _;have W:(pre++post).Sublist D:=a9.trans l;have a4:i ∉ pre++post:=by
     intro hm;rcases List.mem_append.1 hm with h | h
     ·have:=al i h;omega
     ·have:=(List.pairwise_cons.1 (List.pairwise_append.1 ae).2.1).1 i h;omega
    have ba:iy ops (listed.setIfInBounds i true) (fun k=>k∈D/\k ∉ pre++post):=by
     refine hL.set fun k=>?_;simp only [List.mem_append,List.mem_cons,not_or];constructor
     ·rintro ⟨O,h2,h3⟩;by_cases r:k=i
      ·exact .inl r
      ·exact .inr ⟨O,h2,r,h3⟩
     ·rintro (rfl | ⟨O,h2,h3,h4⟩)
      ·simp only [List.mem_append,not_or] at a4;exact ⟨a0,a4⟩
      ·exact ⟨O,h2,h4⟩
    have L:Down ops (listed.setIfInBounds i true):=by
     intro k ok am r e bl hb;have mono:listed.getD e.on false=true->(listed.setIfInBounds i true).getD e.on false=true:=by
      intro h;have b7:e.on<listed.size:=by
       rcases Nat.lt_or_ge e.on listed.size with h' | h'
       ·exact h'
       ·simp [Array.getD_eq_getD_getElem?,Array.getElem?_eq_none h'] at h
      simp only [Array.getD_eq_getD_getElem?,Array.getElem?_setIfInBounds] at h ⊢;split
      ·rename_i b8;subst b8;simp [b7]
      ·exact h
     by_cases an:i=k
     ·subst an;rw [ho] at am;obtain rfl:=Option.some.inj am;exact mono (he e bl hb)
     ·refine mono (j k ok am ?_ e bl hb);simp only [Array.getD_eq_getD_getElem?,Array.getElem?_setIfInBounds] at r ⊢;rw [if_neg an] at r;exact r
    have hlen:(pre++post).length+t.length<=fuel:=by simp at hf ⊢;omega
    obtain ⟨ao,d⟩:=d;unfold wpOp;rw [ho];simp only;cases hw:dn ops f o with
    | none=>rw [hw] at d;exact d.elim
    | some b =>
     rw [hw] at d;rw [ew K hw];cases b with
     | false =>
      rw [if_neg (by simp)];exact ih _ _ _ F c s1 γ _ w W ba hlen d.2 m J ad R hF I (K.put ao (pN γ)) hr hd L
     | true =>
      rw [if_pos rfl];simp only at d;by_cases hh:H.contains i=true
      ·rw [if_pos hh] at d;obtain ⟨hA,_,hK⟩:=d;have hv:=hA s1 m hr.Ns (fun p hp _=>hF p hp) (fun _=>J);have Y:∀ v s2,(if M.contains i then X s1 s2/\C i (keyOf f o) v s2 else Ext s1 s2)->X s1 s2/\nI C M i (keyOf f o) v c s2:=by
        intro v s2 hm;unfold nI;split at hm
        ·rename_i r;rw [if_pos r];exact hm
        ·rename_i r;rw [if_neg r];exact ⟨hX _ _ hm,ad _ _ hm J⟩
       have b9:∀ v s s',Ext s s'->nI C M i (keyOf f o) v c s->nI C M i (keyOf f o) v c s':=by
        intro v s s' e h;unfold nI at h ⊢;split at h
        ·rename_i r;rw [if_pos r];exact hC _ _ _ _ _ e h
        ·rename_i r;rw [if_neg r];exact ad _ _ e h
       have ab:Fk P T n o f s1 (fun f2 s2=>∃ v,f2=bT f o.dst v/\(if M.contains i then X s1 s2/\C i (keyOf f o) v s2 else Ext s1 s2)/\S i (keyOf f o) v s2/\V i (keyOf f o) v):=lV ao hv fun v s2 ⟨O,h2,h3⟩=>⟨v,rfl,O,h2,h3⟩;refine .inl (jA hT ab K hr ?_);rintro γ' f' s' a' w' O h2 h3 ⟨v,rfl,h4,h5,h6⟩;refine ih _ _ _ _ _ s' γ' a' w' W ba hlen (hK v h6) (bm _ _ _ m (Y _ _ h4).1) (Y _ _ h4).2 (b9 v) (fun e=>by rw [e] at hh;cases hh) ?_ ?_ O h3 (hd.trans h2) L
       ·intro p hp;rcases List.mem_append.1 hp with h | h
        ·exact I p h _ _ (Y _ _ h4).1 (hF p h)
        ·obtain rfl:=List.mem_singleton.1 h;exact h5
       ·intro p hp;rcases List.mem_append.1 hp with h | h
        ·exact I p h
        ·obtain rfl:=List.mem_singleton.1 h;exact fun s s' he=>hS i _ v s s' he
      ·rw [if_neg hh] at d;obtain ⟨h0,a1,v,⟨_,b'⟩,hK⟩:=d;have ca:=b' _ m hr.Ns;have cb:fj f o.op=none:=by
        unfold fj;split
        ·rename_i c hc;rw [hc] at a1;simp only [mA] at a1;split
         ·rename_i x hx;rw [hx] at a1;cases a1
         ·rfl
        ·rfl
       have ab:Fk P T n o f s1 (fun f2 s2=>f2=bT f o.dst v/\s2=s1):=by
        refine ⟨ao,.inl ?_⟩;rw [cb];exact ⟨v,s1,ca,rfl,rfl⟩
       refine .inl (jA hT ab K hr ?_);rintro γ' f' s' a' w' O h2 h3 ⟨rfl,rfl⟩;exact ih _ _ _ F c _ γ' a' w' W ba hlen hK m J ad R hF I O h3 (hd.trans h2) L
end
open Classical in
theorem Fx {α:Type}:∀ {d es:List α},d.Nodup->(∀ e∈d,e∈es)->d.length<=es.length
 | [],es,_,_=>Nat.zero_le _
 | x::d,es,h,hs=>by
  obtain ⟨i,n2⟩:=List.nodup_cons.1 h;have b:=hs x (by simp);have:=Fx (d:=d) (es:=es.erase x) n2 fun e c=>(List.mem_erase_of_ne (fun h=>i (by rw [<- h];exact c))).2 (hs e (by simp [c]));have j:0<es.length:=List.length_pos_of_mem b;rw [List.length_erase_of_mem b] at this;simp only [List.length_cons];omega
theorem kK.tail {P:Program} {T:TT} (hT:TT.Ok P T) (bY:P.follows .mixedOrders=true) {n id:Nat} {ops:Array Oper} {f:Fr} {s:AS} {Q:Exit->Fr->AS->Prop} (D t:List Nat) (A:List (List Nat)) (bs:List Nat) (H:List Nat)
  (V:Nat->List AV->AV->Prop) (S:Nat->List AV->AV->AS->Prop) (X:AS->AS->Prop) (C:Nat->List AV->AV->AS->Prop) (M:List Nat) (j:Fu ops D t A H bs=true) (l:Jx ops D H M) (x:∀ s s',Ext s s'->X s s') (m:∀ a b c,X a b->X b c->X a c) (y:∀ i k v s s',Ext s s'->C i k v s->C i k v s') (z:∀ i k v s s',X s s'->S i k v s->S i k v s')
  {c:AS->Prop} (F:∀ s s',Ext s s'->c s->c s') (G:c s) (h:dq P T n ops A H V S X C M s (fun f s'=>fD P T n ops (t.filterMap fun i=>ops[i]?) f s' (fun f s=>Q .normal f s)) D f [] c):kK P n (.region id ops true) f s Q:=by
 intro B γ a w hf hr;have d:=Qs j;refine wp_region_any bY ?_;have hlen:D.length+t.length<=ops.size:=by
  have p:(D++t).Nodup:=by
   refine List.nodup_append.2 ⟨d.sD.imp fun h=>Nat.ne_of_lt h,d.st.imp fun h=>Nat.ne_of_lt h,fun a I b hb=>?_⟩;rintro rfl;exact d.XD a I hb
  have e:∀ i∈D++t,i∈List.range ops.size:=by
   intro i hi;rw [List.mem_range];rcases List.mem_append.1 hi with h | h
   ·exact d.WH i h
   ·exact d.XC i h
  have:=Fx p e;simpa using this
 have J:=Al (fun f s K=>Dl t f s d.XC d.nx K) D f [] c h;refine Jy hT hr.RD d l x m y z ops.size D _ f [] c s γ a { w with drawn:=w.drawn+1 } (List.Sublist.refl _) ⟨by simp,fun i hi=>?_⟩ hlen J (x _ _ (Ext.refl s)) G F (fun _=>rfl) (by simp) (by simp) hf (hr.of_heap rfl) (fV.of_heap rfl) ?_
 ·simp [Array.getD_eq_getD_getElem?,hi]
 ·intro i o L r;simp only [Array.getD_eq_getD_getElem?] at r;by_cases hi:i<ops.size
  ·simp [hi] at r
  ·simp [hi] at r
end Go.Am
end

section
namespace Go.Am
inductive QA where
 | leaf
 | calm
 | draw (m:Nat)
 | g_ (m:Nat) (A:List (List Nat)) (H:List Nat)
 | RS (D t:List Nat) (A:List (List Nat)) (H:List Nat)
 | tE (D t:List Nat) (A:List (List Nat)) (H M:List Nat)
 | seq (a b:QA)
 | join (L:List (Nat×TK)) (W:List (Nat×Nat)) (a b:QA)
 | cond (a b:QA)
 | loop (L:List (Nat×TK)) (W:List (Nat×Nat)) (a:QA)
 | wrap (a:QA)
def VM (l:List Oper) (j:Nat):Option Nat:=(l[j]?).bind (·.dst)
def Fy (l:List Oper) (g:Option (Nat×Bool)) (f:Fr) (A B:Fr->Prop):Prop:=match g with
 | none=>A f
 | some (j,want)=>match VM l j with
  | none=>B f
  | some d=>match f d with
   | .bool b=>af b (match want with | true=>A (nH f d (.bool true)) | false=>B (nH f d (.bool true))) (match want with | true=>B (nH f d (.bool false)) | false=>A (nH f d (.bool false)))
   | .aN _=>B f
   | _=>False
def Vk (l:List Oper) (d:Nat):Bool:=l.any fun o=>match o.op,o.dst with
 | .entry _,some b=>b==d
 | _,_=>false
def WX (v:AV) (i:Nat) (K:AV->Prop):Prop:=match v with
 | .aN vs=>(match vs[i]? with | some v=>K v | none=>False)
 | _=>False
def WY (P:Program) (T:TT) (l:List Oper) (o:Oper) (ρ:Operand->AV) (s:AS) (K:AV->AS->Prop):Prop:=match o.op with
 | .next it false=>Pt (yU (ρ it) s) s K
 | .next it true=>Vj (NP (ρ it) s) s K
 | .entry it=>X1 (v_ (ρ it) s) fun k v=>K (.aN [k,v]) s
 | .extract (.tmp d) i=>bif Vk l d then WX (ρ (.tmp d)) i fun v=>WU (Ln T o.type) v fun v=>K v s else Rx P T o ρ s K
 | _=>Rx P T o ρ s K
def FA (P:Program) (T:TT) (l:List Oper):List Oper->Fr->AS->(Fr->AS->Prop)->Prop
 | [],f,s,K=>K f s
 | o::os,f,s,K=>Fy l o.guard f (fun f=>WY P T l o (pM f) s fun v s=>FA P T l os (bT f o.dst v) s K) (fun f=>FA P T l os (bT f o.dst .undef) s K)
def Ls:ki->AS->Prop
 | [],_=>True
 | p::ps,s=>p.2 s/\Ls ps s
def X3 (T:TT) (o:Oper):TK:=match o.op with
 | .alloc _=>.ptr
 | .box ..=>.ptr
 | .sliceToArrayPointer ..=>.ptr
 | _=>Ln T o.type
def Uh (P:Program) (T:TT) (l:List Oper) (A:List (List Nat)) (H:List Nat) (V:Nat->List AV->AV->Prop) (S:Nat->List AV->AV->AS->Prop) (s:AS) (K:Fr->AS->Prop):List Nat->Fr->ki->Prop
 | [],f,F=>∀ s',Ext s s'->aG s'->Ls F s'->K f s'
 | i::is,f,F=>match l[i]? with
  | none=>False
  | some o=>Fy l o.guard f
   (fun f=>match H.contains i with
    | true=>(∀ s',Ext s s'->aG s'->Ls (F.filter fun p=>(A.getD i []).contains p.1) s'->Rx P T o (pM f) s' fun v s''=>Ext s' s''/\S i (keyOf f o) v s''/\V i (keyOf f o) v) /\
     (∃ v,V i (keyOf f o) v)/\∀ v,V i (keyOf f o) v->WU (X3 T o) v fun v=>Uh P T l A H V S s K is (bT f o.dst v) (F++[(i,S i (keyOf f o) v)])
    | false=>Rx P T o (pM f) s fun v _=>Uh P T l A H V S s K is (bT f o.dst v) F)
   (fun f=>Uh P T l A H V S s K is (bT f o.dst .undef) F)
def RT:Op->Bool
 | .build ..=>true
 | o=>fW o
theorem Qt {T:TT} {op:Op} (b:RT op=true) {ρ:Operand->AV} {s s1:AS} {v:AV} (h:cM T op ρ s=some (v,s1)) (s':AS):cM T op ρ s'=some (v,s'):=by
 by_cases hb:fW op=true
 ·exact (As hb h).2 s'
 ·cases op <;> first | exact absurd b hb | skip
  simp only [cM,Option.map_eq_some_iff,Prod.mk.injEq] at h ⊢;obtain ⟨u,c,rfl,rfl⟩:=h;exact ⟨_,c,by simp⟩
def Lu (P:Program) (T:TT) (l:List Oper) (A:List (List Nat)) (H:List Nat) (V:Nat->List AV->AV->Prop) (S:Nat->List AV->AV->AS->Prop) (X:AS->AS->Prop) (C:Nat->List AV->AV->AS->Prop) (M:List Nat) (s:AS) (K:Fr->AS->Prop):List Nat->Fr->ki->(AS->Prop)->Prop
 | [],f,F,c=>∀ s',X s s'->aG s'->Ls F s'->c s'->K f s'
 | i::is,f,F,c=>match l[i]? with
  | none=>False
  | some o=>Fy l o.guard f
   (fun f=>match H.contains i with
    | true=>(∀ s',X s s'->aG s'->Ls (F.filter fun p=>(A.getD i []).contains p.1) s'->match M.contains i with
      | true=>c s'->Rx P T o (pM f) s' fun v s''=>(X s' s''/\C i (keyOf f o) v s'')/\S i (keyOf f o) v s''/\V i (keyOf f o) v
      | false=>Rx P T o (pM f) s' fun v s''=>Ext s' s''/\S i (keyOf f o) v s''/\V i (keyOf f o) v) /\
     (∃ v,V i (keyOf f o) v)/\∀ v,V i (keyOf f o) v->WU (X3 T o) v fun v=>Lu P T l A H V S X C M s K is (bT f o.dst v) (F++[(i,S i (keyOf f o) v)]) (match M.contains i with | true=>C i (keyOf f o) v | false=>c)
    | false=>match M.contains i with
     | true=>False
     | false=>Rx P T o (pM f) s fun v _=>match RT o.op with
      | true=>Lu P T l A H V S X C M s K is (bT f o.dst v) F c
      | false=>(∀ s',X s s'->aG s'->Rx P T o (pM f) s' fun v' _=>v'=v)/\Lu P T l A H V S X C M s K is (bT f o.dst v) F c)
   (fun f=>match M.contains i with
    | true=>False
    | false=>Lu P T l A H V S X C M s K is (bT f o.dst .undef) F c)
def WZ (k:TK) (K:AV->Prop):Prop:=match k with
 | .int k=>∀ n:Int,K (.int k n)
 | .bool=>∀ b:Bool,K (.bool b)
 | .str=>∀ b:List UInt8,K (.str b)
 | .ptr=>∀ a:Option (Nat×Nat),K (.ptr a)
 | .map=>∀ r:Option Nat,K (.map r)
 | .agg=>∀ l:List AV,K (.agg l)
 | _=>∀ v:AV,K v
def RU (k:TK) (v:AV) (K:AV->Prop):Prop:=match k,v with
 | .int k,.int k' n=>bif k'==k then K (.int k n) else False
 | .bool,.bool b=>K (.bool b)
 | .str,.str b=>K (.str b)
 | .ptr,.ptr a=>K (.ptr a)
 | .map,.map r=>K (.map r)
 | .agg,.agg l=>K (.agg l)
 | .any,v=>K v
 | .aN _,v=>K v
 | _,_=>False
theorem RV {k : TK} {v : AV} {K K' : AV -> Prop} (h : WZ k K) (b : RU k v K') : K v /\ K' v := by
  unfold RU at b;split at b
  · rename_i k k' n;cases c : (k' == k) with
    | false => rw [c] at b; exact b.elim
    | true => rw [c] at b; obtain rfl : k' = k := by simpa using c
              exact ⟨h n, b⟩
  all_goals first | exact ⟨h _, b⟩ | exact b.elim
def Ui:List (Nat×TK)->Fr->(List AV->Fr->Prop)->Prop
 | [],f,K=>K [] f
 | p::L,f,K=>WZ p.2 fun v=>Ui L (nH f p.1 v) fun vs f=>K (v::vs) f
def Lv:List (Nat×TK)->Fr->(List AV->Prop)->Prop
 | [],_,K=>K []
 | p::L,f,K=>RU p.2 (f p.1) fun v=>Lv L f fun vs=>K (v::vs)
def Dm (W:List (Nat×Nat)) (t:Nat):Bool:=W.any fun p=>Nat.ble p.1 t&&Nat.ble t p.2
def forget (W:List (Nat×Nat)) (f:Fr):Fr:=fun t=>bif Dm W t then .bad else f t
theorem FB:∀ (L:List (Nat×TK)) (f0 f:Fr) {K:List AV->Fr->Prop} {K':List AV->Prop},Ui L f0 K->Lv L f K'->∃ vs f1,K vs f1/\K' vs/\∀ t,f1 t=if t∈L.map (·.1) then f t else f0 t
 | [],f0,f,K,K',h,c=>⟨[],f0,h,c,fun t=>by simp⟩
 | p::L,f0,f,K,K',h,c=>by
  obtain ⟨d,h2⟩:=RV h c;obtain ⟨vs,f1,h3,h4,e⟩:=FB L _ f d h2;refine ⟨_,f1,h3,h4,fun t=>?_⟩;rw [e t];simp only [List.map_cons,List.mem_cons,nH];by_cases ht:t∈L.map (·.1)
  ·rw [if_pos ht,if_pos (.inr ht)]
  ·rw [if_neg ht];by_cases b:t=p.1
   ·rw [if_pos b,if_pos (.inl b),b]
   ·rw [if_neg b,if_neg (by simp [b,ht])]
def vz (P:Program) (T:TT):QA->Code->Fr->AS->(Exit->Fr->AS->Prop)->Prop
 | .leaf,.skip,f,s,Q=>Q .normal f s
 | .leaf,.label _,f,s,Q=>Q .normal f s
 | .leaf,.exit id,f,s,Q=>Q (.exit id) f s
 | .leaf,.ret,f,s,Q=>Q .ret f s
 | .leaf,.region _ ops false,f,s,Q=>FA P T ops.toList ops.toList f s fun f s=>Q .normal f s
 | .calm,.region _ ops true,f,s,Q=>FA P T ops.toList ops.toList f s fun f s=>Q .normal f s
 | .draw _,.region _ ops true,f,s,Q=>FA P T ops.toList ops.toList f s fun f s=>Q .normal f s
 | .g_ m A H,.region _ ops true,f,s,Q=>gL fun S V=>Uh P T ops.toList A H V S s (fun f s=>FA P T ops.toList (ops.toList.drop m) f s fun f s=>Q .normal f s) (List.range m) f []
 | .RS D t A H,.region _ ops true,f,s,Q=>gL fun S V=>Uh P T ops.toList A H V S s (fun f s=>FA P T ops.toList (t.filterMap fun i=>ops[i]?) f s fun f s=>Q .normal f s) D f []
 | .tE D t A H M,.region _ ops true,f,s,Q=>rS s fun X C c S V=>Lu P T ops.toList A H V S X C M s (fun f s=>FA P T ops.toList (t.filterMap fun i=>ops[i]?) f s fun f s=>Q .normal f s) D f [] c
 | .seq a b,.seq x y,f,s,Q=>vz P T a x f s (Dg (fun f s=>vz P T b y f s Q) Q)
 | .join L W a b,.seq x y,f,s,Q=>bG fun J=>(Ui L (forget W f) fun vs f=>∀ s,J vs s->vz P T b y f s Q)/\vz P T a x f s (Dg (fun f s=>Lv L f fun vs=>J vs s) Q)
 | .cond a b,.cond c x y,f,s,Q=>(match pM f c with | .bool t=>af t (vz P T a x f s Q) (vz P T b y f s Q) | _=>False)
 | .wrap a,.block id x,f,s,Q=>vz P T a x f s (yQ id Q)
 | .wrap a,.scope x,f,s,Q=>vz P T a x f s (RJ Q)
 | .loop L W a,.loop x,f,s,Q=>bA fun I d=>(Lv L f fun vs=>I d vs s)/\∀ m,Ui L (forget W f) fun vs f=>∀ s,I m vs s->vz P T a x f s (Dg (fun f s=>Lv L f fun vs=>∃ m',m'<m/\I m' vs s) Q)
 | _,_,_,_,_=>False
def FC:QA->Code->List (Nat×Nat)
 | .join _ W _ b,.seq _ y=>W++FC b y
 | .loop _ W _,_=>W
 | .seq a b,.seq x y=>FC a x++FC b y
 | .cond a b,.cond _ x y=>FC a x++FC b y
 | .wrap a,.block _ x=>FC a x
 | .wrap a,.scope x=>FC a x
 | _,.region _ ops _=>ops.toList.filterMap fun o=>o.dst.map fun d=>(d,d)
 | _,_=>[]
def nR (T:TT) (o:Op):Bool:=mA o&&(match o with
 | .convert _ d _=>(match T.cR d with | some (.slice _)=>false | _=>true)
 | _=>true)
def Uj (l W:List (Nat×Nat)):Bool:=l.all fun p=>W.any fun q=>Nat.ble q.1 p.1&&Nat.ble p.2 q.2
def codeOk (T:TT) (n:Nat):QA->Code->Bool
 | .leaf,.region _ ops false=>ops.toList.all fun o=>ee n o.dst
 | .leaf,_=>true
 | .calm,.region _ ops true=>(ops.toList.all fun o=>ee n o.dst)&&Jv ops (Region.before ops).toList&&ops.toList.all fun o=>!yR o.op
 | .draw m,.region _ ops true=>(ops.toList.all fun o=>ee n o.dst)&&Fm ops m [] (Region.before ops).toList&&(ops.toList.take m).all fun o=>nR T o.op
 | .g_ m A H,.region _ ops true=>(ops.toList.all fun o=>ee n o.dst)&&Fm ops m A (Region.before ops).toList&&!H.isEmpty&&(List.range m).all fun i=>H.contains i||(ops.toList[i]?).any fun o=>nR T o.op
 | .RS D t A H,.region _ ops true=>(ops.toList.all fun o=>ee n o.dst)&&Fu ops D t A H (Region.before ops).toList&&!H.isEmpty&&D.all fun i=>H.contains i||(ops.toList[i]?).any fun o=>nR T o.op
 | .tE D t A H M,.region _ ops true=>(ops.toList.all fun o=>ee n o.dst)&&Fu ops D t A H (Region.before ops).toList&&XE ops D H M (Region.before ops).toList&&D.all fun i=>H.contains i||(ops.toList[i]?).any fun o=>nR T o.op
 | .seq a b,.seq x y=>codeOk T n a x&&codeOk T n b y
 | .join L W a b,.seq x y=>codeOk T n a x&&codeOk T n b y&&Uj (FC a x) W&&L.all fun p=>Dm W p.1
 | .cond a b,.cond _ x y=>codeOk T n a x&&codeOk T n b y
 | .wrap a,.block _ x=>codeOk T n a x
 | .wrap a,.scope x=>codeOk T n a x
 | .loop L W a,.loop x=>codeOk T n a x&&Uj (FC a x) W&&L.all fun p=>Dm W p.1
 | _,_=>false
def sY (W:List (Nat×Nat)) (f f':Fr):Prop:=∀ t,Dm W t=false->f' t=f t
theorem sY.refl (W:List (Nat×Nat)) (f:Fr):sY W f f:=fun _ _=>rfl
theorem sY.trans {W:List (Nat×Nat)} {f g h:Fr} (a:sY W f g) (b:sY W g h):sY W f h:=fun t ht=>(b t ht).trans (a t ht)
theorem yW (W W':List (Nat×Nat)) (t:Nat):Dm (W++W') t=(Dm W t||Dm W' t):=by simp [Dm,List.any_append]
theorem sY.left {W W':List (Nat×Nat)} {f f':Fr} (h:sY W f f'):sY (W++W') f f':=fun t ht=>h t (by rw [yW] at ht;simp at ht;exact ht.1)
theorem sY.right {W W':List (Nat×Nat)} {f f':Fr} (h:sY W' f f'):sY (W++W') f f':=fun t ht=>h t (by rw [yW] at ht;simp at ht;exact ht.2)
theorem sY.sub {W W':List (Nat×Nat)} {f f':Fr} (h:sY W f f') (hs:Uj W W'=true):sY W' f f':=by
 intro t ht;refine h t ?_;cases b:Dm W t with
 | false=>rfl
 | true =>
  exfalso;simp only [Dm,List.any_eq_true,Bool.and_eq_true,Nat.ble_eq] at b;obtain ⟨p,c,d,h2⟩:=b;simp only [Uj,List.all_eq_true,List.any_eq_true,Bool.and_eq_true,Nat.ble_eq] at hs;obtain ⟨q,e,h3,h4⟩:=hs p c;have:Dm W' t=true:=by
   simp only [Dm,List.any_eq_true,Bool.and_eq_true,Nat.ble_eq];exact ⟨q,e,Nat.le_trans h3 d,Nat.le_trans h2 h4⟩
  rw [this] at ht;cases ht
def KZ (os:List Oper):List (Nat×Nat):=os.filterMap fun o=>o.dst.map fun d=>(d,d)
theorem sY.nH {os:List Oper} {o:Oper} {f:Fr} {v:AV}:sY (KZ (o::os)) f (bT f o.dst v):=by
 intro t ht;cases hd:o.dst with
 | none=>rfl
 | some d =>
  simp only [bT,Am.nH];rw [if_neg];intro e;subst e;simp only [KZ,List.filterMap_cons,hd,Option.map_some,Dm,List.any_cons,Bool.or_eq_false_iff,Bool.and_eq_false_iff] at ht;have e:Nat.ble t t=true:=by simp
  rcases ht.1 with h | h <;> (rw [e] at h;cases h)
theorem sY.cons {os:List Oper} {o:Oper} {f f':Fr} (h:sY (KZ os) f f'):sY (KZ (o::os)) f f':=by
 intro t ht;refine h t ?_;simp only [KZ,List.filterMap_cons] at ht;cases hd:o.dst with
 | none=>rw [hd] at ht;exact ht
 | some d =>
  rw [hd] at ht;simp only [Dm,Option.map_some,List.any_cons,Bool.or_eq_false_iff] at ht;exact ht.2
section
variable {P:Program} {T:TT} {n:Nat}
theorem kK.weaken {c:Code} {f f1:Fr} {s:AS} {Q:Exit->Fr->AS->Prop} (h:∀ t,f1 t=f t\/f1 t=.bad) (b:kK P n c f1 s Q):kK P n c f s Q:=by
 intro B γ a w hf hr;refine b B γ a w ⟨hf.size,hf.defers,fun t=>?_⟩ hr;rcases h t with e | e
 ·rw [e];exact hf.vals t
 ·rw [e];simp [ah]
theorem RW {f:Fr} {d:Nat} {v:AV} (h:f d=v):nH f d v=f:=by
 funext t;simp only [nH];split
 ·rename_i e;rw [e,h]
 ·rfl
theorem yX {ops:Array Oper} {o:Oper} {f:Fr} {A B:Fr->Prop} (h:Fy ops.toList o.guard f A B):(dn ops f o=some true/\A f)\/(dn ops f o=some false/\B f):=by
 have k:∀ j,(ops[j]?).bind (·.dst)=VM ops.toList j:=by intro j;simp [VM]
 unfold Fy at h;unfold dn;split at h
 ·rename_i e;rw [e];exact .inl ⟨rfl,h⟩
 ·rename_i j want e;rw [e];simp only [k];split at h
  ·rename_i e2;rw [e2];exact .inr ⟨rfl,h⟩
  ·rename_i d e2;rw [e2];simp only;split at h
   ·rename_i b i;rw [i];have c:=Cc h;cases b <;> cases want <;> simp only [Bool.false_eq_true,if_false,if_true] at c <;> rw [RW i] at c
    ·exact .inl ⟨rfl,c⟩
    ·exact .inr ⟨rfl,c⟩
    ·exact .inr ⟨rfl,c⟩
    ·exact .inl ⟨rfl,c⟩
   ·rename_i i;rw [i];exact .inr ⟨rfl,h⟩
   ·exact h.elim
theorem uE {f:Fr} {o:Op} (b:Ju o=false):fj f o=none:=by
 unfold Ju at b;unfold fj;split
 ·rename_i c;simp only at b;split
  ·rename_i x d;rw [d] at b;cases b
  ·rfl
 ·rfl
theorem jC {ops:Array Oper} {K:Fr->AS->Prop}:∀ (os:List Oper) (f:Fr) (s:AS),(os.all fun o=>ee n o.dst)=true->FA P T ops.toList os f s K->fD P T n ops os f s fun f' s'=>K f' s'/\sY (KZ os) f f'
 | [],f,s,_,h=>⟨h,sY.refl _ _⟩
 | o::os,f,s,hd,h=>by
  simp only [List.all_cons,Bool.and_eq_true] at hd;simp only [FA] at h;simp only [fD];have mono:∀ (os:List Oper) (f:Fr) (s:AS) (K K':Fr->AS->Prop),(∀ f s,K f s->K' f s)->fD P T n ops os f s K->fD P T n ops os f s K':=by
   intro os
   induction os with
   | nil=>intro f s K K' j h;exact j _ _ h
   | cons o os r =>
    intro f s K K' j h;simp only [fD] at h ⊢;split at h
    ·obtain ⟨e,h2⟩:=h;rcases h2 with h2 | ⟨l,z,h2⟩
     rotate_left
     ·exact ⟨e,.inr ⟨l,z,fun p m=>r _ _ _ _ j (h2 p m)⟩⟩
     refine ⟨e,.inl ?_⟩;split at h2
     ·exact h2.mono fun v s' w=>r _ _ _ _ j w
     ·obtain ⟨v,s',h3,h4⟩:=h2;exact ⟨v,s',h3,r _ _ _ _ j h4⟩
    ·exact ⟨h.1,r _ _ _ _ j h.2⟩
    ·exact h
  rcases yX h with ⟨x,h⟩ | ⟨x,h⟩
  ·rw [x];have key:∀ v s',FA P T ops.toList os (bT f o.dst v) s' K->fD P T n ops os (bT f o.dst v) s' fun f' s'=>K f' s'/\sY (KZ (o::os)) f f' :=
    fun v s' w=>mono _ _ _ _ _ (fun f' s'' ⟨a,b⟩=>⟨a,sY.nH.trans b.cons⟩) (jC os _ _ hd.2 w)
   unfold WY at h;split at h
   ·rename_i it c;obtain ⟨l,e,h2⟩:=Ig h;exact ⟨hd.1,.inr ⟨l,by rw [c];exact e,fun p m=>key _ _ (h2 p m)⟩⟩
   ·rename_i it c;obtain ⟨l,e,h2⟩:=Qn h;exact ⟨hd.1,.inr ⟨l,by rw [c];exact e,fun p m=>key _ _ (h2 p m)⟩⟩
   ·rename_i it c;obtain ⟨k,v,e,h2⟩:=h;refine ⟨hd.1,.inl ?_⟩;rw [uE (by rw [c];rfl)];exact ⟨_,s,by rw [c];simp only [cM,e,Option.map_some],key _ _ h2⟩
   ·rename_i d i c;cases y:Vk ops.toList d with
    | false=>rw [y] at h;simp only [cond_false] at h;exact lV hd.1 (tw h) key
    | true =>
     rw [y] at h;simp only [cond_true] at h;unfold WX at h;split at h
     ·rename_i vs hv;split at h
      ·rename_i v hi;refine ⟨hd.1,.inl ?_⟩;rw [uE (by rw [c];rfl)];exact ⟨v,s,by rw [c];simp only [cM,hv,hi,Option.map_some],key _ _ (Ar h)⟩
      ·exact h.elim
     ·exact h.elim
   ·exact lV hd.1 (tw h) key
  ·rw [x];exact ⟨hd.1,mono _ _ _ _ _ (fun f' s'' ⟨a,b⟩=>⟨a,sY.nH.trans b.cons⟩) (jC os _ _ hd.2 h)⟩
theorem uF {o:Op} (h:nR T o=true):mA o=true/\Ju o=false:=by
 simp only [nR,Bool.and_eq_true] at h;refine ⟨h.1,?_⟩;unfold Ju;split
 ·rename_i c;have:=h.1;simp only [mA] at this;split
  ·rename_i x b;rw [b] at this;cases this
  ·rfl
 ·rfl
theorem uG {o:Op} {ρ:Operand->AV} {s s':AS} {v:AV} (i:nR T o=true) (h:cM T o ρ s=some (v,s')):s'=s:=by
 have e:=(uF i).1;cases o <;> first | (cases e;done) | skip
 case convert src dst x =>
  simp only [cM] at h;simp only [nR,Bool.and_eq_true] at i;have d:=i.2;unfold cW at h;split at h
  ·simp_all
  ·simp_all
  ·rename_i e1 e2;rw [e1] at d;cases d
  ·split at h
   ·split at h <;> simp_all
   ·cases h
  ·split at h <;> simp_all
  ·split at h
   ·split at h
    ·simp only [Option.some.injEq,Prod.mk.injEq] at h;exact h.2.symm
    simp only [Option.bind_eq_some_iff,Option.map_eq_some_iff] at h;obtain ⟨_,_,_,_,h3⟩:=h;simp only [Prod.mk.injEq] at h3;exact h3.2.symm
   ·cases h
  ·rename_i e1 e2;rw [e1] at d;cases d
  ·cases h
 case call c =>
  simp only [mA] at e;simp only [cM] at h;cases j:c.callee with
  | value x=>rw [j] at e;cases e
  | invoke x m=>rw [j] at h;cases h
  | builtin b =>
   rw [j] at e h;simp only at h;unfold ec at h;split at h <;> first
    | (cases e;done)
    | (cases h;done)
    | (simp only [Option.map_eq_some_iff,Prod.mk.injEq] at h;obtain ⟨_,_,_,h⟩:=h;exact h.symm)
 case makeFunc fn first captured =>
  cases fn with
  | func g=>simp only [cM] at h;split at h <;> simp_all
  | _=>simp [cM] at h
 all_goals
  simp only [cM] at h
  first
  | (simp only [Option.some.injEq,Prod.mk.injEq] at h;exact h.2.symm)
  | (simp only [Option.map_eq_some_iff,Prod.mk.injEq] at h;obtain ⟨_,_,_,h⟩:=h;exact h.symm)
  | (split at h <;> first | (cases h;done) | (simp only [Option.some.injEq,Prod.mk.injEq] at h;exact h.2.symm) | (simp only [Option.map_eq_some_iff,Prod.mk.injEq] at h;obtain ⟨_,_,_,h⟩:=h;exact h.symm))
theorem RX {ops:Array Oper} {s:AS} {K:Fr->AS->Prop} {m:Nat} {V:Nat->List AV->AV->Prop} {S:Nat->List AV->AV->AS->Prop} (b:1<=s.st) (hm:m<=ops.size) (p:∀ i o,i<m->ops[i]? = some o->nR T o.op=true):∀ (k a:Nat) (f:Fr),a+k=m ->
  fD P T n ops (ops.toList.drop a) f s K->WO P T n ops [] [] V S s (fun f s'=>fD P T n ops (ops.toList.drop m) f s' K) (List.range' a k) f []
 | 0,a,f,r,h=>by
  simp only [Nat.add_zero] at r;subst r;simp only [List.range'_zero,dq];intro s' _ _ _ _ hs;rw [hs (by trivial)];exact h
 | k+1,a,f,r,h=>by
  have c:a<ops.size:=by omega
  have w:ops.toList.drop a=ops[a]::ops.toList.drop (a+1):=by
   rw [List.drop_eq_getElem_cons (by simpa using c)];simp
  have d:ops[a]? = some ops[a]:=Array.getElem?_eq_getElem c;rw [w] at h;simp only [fD] at h;rw [List.range'_succ];simp only [dq,d];have e:=p a _ (by omega) d;obtain ⟨x,C⟩:=uF e;split at h
  ·rename_i y;obtain ⟨hd,h⟩:=h;rcases h with h | ⟨l,B,_⟩
   rotate_left
   ·rw [yS (by
     have j:=x;cases z:ops[a].op <;> first | rfl | (rw [z] at j;cases j))] at B
    cases B
   rw [uE C] at h;obtain ⟨v,s',A,h2⟩:=h;obtain rfl:=uG e A;refine ⟨hd,?_⟩;rw [y];simp only [List.contains_nil,Bool.false_eq_true,if_false];exact ⟨by trivial,x,v,⟨A,fun s' D _=>B_ x b A D⟩,RX b hm p k (a+1) _ (by omega) h2⟩
  ·rename_i y;refine ⟨h.1,?_⟩;rw [y];exact ⟨rfl,RX b hm p k (a+1) _ (by omega) h.2⟩
  ·exact h.elim
theorem Au {F:ki} {s:AS}:Ls F s↔∀ p∈F,p.2 s:=by
 induction F with
 | nil=>simp [Ls]
 | cons p ps b=>simp [Ls,b]
theorem Il {ops:Array Oper} {A:List (List Nat)} {H:List Nat} {V:Nat->List AV->AV->Prop} {S:Nat->List AV->AV->AS->Prop} {s:AS} {K:Fr->AS->Prop} {W:List (Nat×Nat)} (C:1<=s.st) (X:H≠[]) (hd:∀ (i:Nat) (o:Oper),ops[i]? = some o->ee n o.dst=true)
  (O:∀ (i:Nat) (o:Oper) (d:Nat),ops[i]? = some o->o.dst=some d->Dm W d=true) :
  ∀ (is:List Nat) (f:Fr) (F:ki),(∀ i∈is,H.contains i=true\/∃ o,ops[i]? = some o/\nR T o.op=true)->Uh P T ops.toList A H V S s K is f F->WO P T n ops A H V S s (fun f' s'=>K f' s'/\sY W f f') is f F:=by
 intro is;have key:∀ (f0:Fr) (is:List Nat) (f:Fr) (F:ki),sY W f0 f->(∀ i∈is,H.contains i=true\/∃ o,ops[i]? = some o/\nR T o.op=true)->Uh P T ops.toList A H V S s K is f F->WO P T n ops A H V S s (fun f' s'=>K f' s'/\sY W f0 f') is f F:=by
  intro f0 is
  induction is with
  | nil =>
   intro f F B c h;simp only [Uh] at h;simp only [dq];intro s' r k Q _ _;exact ⟨h s' r k (Au.2 Q),B⟩
  | cons i is D =>
   intro f F B c h;simp only [Uh] at h;simp only [dq];cases b:ops[i]? with
   | none=>simp [b] at h
   | some o =>
    have w:ops.toList[i]? = some o:=by simpa using b
    rw [w] at h;simp only at h ⊢;refine ⟨hd i o b,?_⟩;have l:∀ v,sY W f0 (bT f o.dst v):=by
     intro v t ht;cases G:o.dst with
     | none=>exact B t ht
     | some d =>
      have:=O i o d b G;simp only [bT,nH];rw [if_neg (fun e=>by rw [e,this] at ht;cases ht)];exact B t ht
    rcases yX h with ⟨I,h⟩ | ⟨I,h⟩
    ·rw [I];simp only;cases J:H.contains i with
     | true =>
      rw [J] at h;simp only at h;rw [if_pos rfl];obtain ⟨x,h2,h3⟩:=h;refine ⟨fun s' r k R _=>?_,h2,fun v hv=>D _ _ (l v) (fun j hj=>c j (List.mem_cons_of_mem _ hj)) (Ar (h3 v hv))⟩;refine tw (x s' r k (Au.2 fun p m=>?_));simp only [List.mem_filter] at m;exact R p m.1 m.2
     | false =>
      rw [J] at h;simp only at h;rw [if_neg (by simp)];rcases c i (by simp) with L | ⟨o',y,z⟩
      ·rw [J] at L;cases L
      ·rw [b] at y;obtain rfl:=Option.some.inj y;obtain ⟨M,U⟩:=uF z;obtain ⟨v,s',x,h2⟩:=EG U h;obtain rfl:=uG z x;exact ⟨rfl,M,v,⟨x,fun s' r _=>B_ M C x r⟩,D _ _ (l v) (fun j hj=>c j (List.mem_cons_of_mem _ hj)) h2⟩
    ·rw [I];exact ⟨rfl,D _ _ (l _) (fun j hj=>c j (List.mem_cons_of_mem _ hj)) h⟩
 exact fun f F c h=>key f is f F (sY.refl _ _) c h
theorem FD {ops:Array Oper} {A:List (List Nat)} {H:List Nat} {V:Nat->List AV->AV->Prop} {S:Nat->List AV->AV->AS->Prop} {X:AS->AS->Prop} {C:Nat->List AV->AV->AS->Prop} {M:List Nat} {s:AS} {K:Fr->AS->Prop} {W:List (Nat×Nat)} (hd:∀ (i:Nat) (o:Oper),ops[i]? = some o->ee n o.dst=true)
  (hW:∀ (i:Nat) (o:Oper) (d:Nat),ops[i]? = some o->o.dst=some d->Dm W d=true) :
  ∀ (f0:Fr) (is:List Nat) (f:Fr) (F:ki) (c:AS->Prop),sY W f0 f->(∀ i∈is,H.contains i=true\/∃ o,ops[i]? = some o/\nR T o.op=true)->Lu P T ops.toList A H V S X C M s K is f F c->dq P T n ops A H V S X C M s (fun f' s'=>K f' s'/\sY W f0 f') is f F c
 | f0,[],f,F,c,O,D,h=>by
  simp only [Lu] at h;simp only [dq];intro s' I l hF R _;exact ⟨h s' I l (Au.2 hF) R,O⟩
 | f0,i::is,f,F,c,O,D,h=>by
  have Q:=fun f F c0 a b c=>FD (A:=A) (H:=H) (V:=V) (S:=S) (X:=X) (C:=C) (M:=M) (s:=s) (K:=K) hd hW f0 is f F c0 a b c;simp only [Lu] at h;simp only [dq];cases m:ops[i]? with
  | none=>simp [m] at h
  | some o =>
   have J:ops.toList[i]? = some o:=by simpa using m
   rw [J] at h;simp only at h ⊢;refine ⟨hd i o m,?_⟩;have w:∀ v,sY W f0 (bT f o.dst v):=by
    intro v t ht;cases U:o.dst with
    | none=>exact O t ht
    | some d =>
     have:=hW i o d m U;simp only [bT,nH];rw [if_neg (fun e=>by rw [e,this] at ht;cases ht)];exact O t ht
   rcases yX h with ⟨Y,h⟩ | ⟨Y,h⟩
   ·rw [Y];simp only;cases Z:H.contains i with
    | true =>
     rw [Z] at h;simp only at h;rw [if_pos rfl];obtain ⟨G,h2,h3⟩:=h;refine ⟨fun s' I l R hm=>?_,h2,fun v hv=>?_⟩
     ·have x:=G s' I l (Au.2 fun p y=>by
       simp only [List.mem_filter] at y;exact R p y.1 y.2)
      cases z:M.contains i with
      | true =>
       rw [z] at x;simp only [if_true];exact tw (x (hm z))
      | false =>
       rw [z] at x;simp only [Bool.false_eq_true,if_false];exact tw x
     ·have ab:=Ar (h3 v hv);have e:nI C M i (keyOf f o) v c=(match M.contains i with | true=>C i (keyOf f o) v | false=>c):=by
       unfold nI;cases M.contains i <;> simp
      rw [e];exact Q _ _ _ (w v) (fun j hj=>D j (List.mem_cons_of_mem _ hj)) ab
    | false =>
     rw [Z] at h;simp only at h;rw [if_neg (by simp)];rcases D i (by simp) with h' | ⟨o',L,B⟩
     ·rw [Z] at h';cases h'
     ·rw [m] at L;obtain rfl:=Option.some.inj L;obtain ⟨q1,q2⟩:=uF B;split at h
      ·exact h.elim
      ·rename_i k;obtain ⟨v,s',G,h2⟩:=EG q2 h;obtain rfl:=uG B G;cases r:RT o.op with
       | true =>
        rw [r] at h2;exact ⟨k,q1,v,⟨G,fun s' _ _=>Qt r G s'⟩,Q _ _ _ (w v) (fun j hj=>D j (List.mem_cons_of_mem _ hj)) h2⟩
       | false =>
        rw [r] at h2;refine ⟨k,q1,v,⟨G,fun s' I l=>?_⟩,Q _ _ _ (w v) (fun j hj=>D j (List.mem_cons_of_mem _ hj)) h2.2⟩;obtain ⟨v',s'',h3,h4⟩:=EG q2 (h2.1 s' I l);obtain rfl:=uG B h3;rw [<- h4];exact h3
   ·rw [Y];split at h
    ·exact h.elim
    ·rename_i k;exact ⟨k,Q _ _ _ (w _) (fun j hj=>D j (List.mem_cons_of_mem _ hj)) h⟩
end
end Go.Am
end

section
namespace Go.Am
section
variable {P:Program} {T:TT} {n:Nat}
theorem kK.pre {c:Code} {f:Fr} {s:AS} {Q:Exit->Fr->AS->Prop} (h:aG s->kK P n c f s Q):kK P n c f s Q:=fun B γ a w hf hr=>h hr.Ns B γ a w hf hr
theorem qG {os:List Oper} {n:Nat} (h:(os.all fun o=>ee n o.dst)=true):(∀ o∈os,ee n o.dst=true):=by
 simpa [List.all_eq_true] using h
theorem xT {os:List Oper} {o:Oper} {d:Nat} (b:o∈os) (hd:o.dst=some d):Dm (KZ os) d=true:=by
 simp only [Dm,List.any_eq_true,Bool.and_eq_true,Nat.ble_eq,KZ,List.mem_filterMap,Option.map_eq_some_iff];exact ⟨(d,d),⟨o,b,d,hd,rfl⟩,Nat.le_refl _,Nat.le_refl _⟩
theorem Lw (hT:TT.Ok P T) (bY:P.follows .mixedOrders=true):∀ (a:QA) (c:Code) (f:Fr) (s:AS) (Q:Exit->Fr->AS->Prop),codeOk T n a c=true->vz P T a c f s Q->kK P n c f s fun e f' s'=>Q e f' s'/\sY (FC a c) f f':=by
 intro a
 induction a with
 | leaf =>
  intro c f s Q j h;cases c with
  | skip=>exact kK.skip ⟨h,sY.refl _ _⟩
  | label l=>exact kK.label ⟨h,sY.refl _ _⟩
  | exit id=>exact kK.exit ⟨h,sY.refl _ _⟩
  | ret=>exact kK.ret ⟨h,sY.refl _ _⟩
  | region id ops dr =>
   cases dr with
   | false=>exact kK.region hT (jC ops.toList f s j h)
   | true=>exact h.elim
  | _=>exact h.elim
 | calm =>
  intro c f s Q j h;cases c with
  | region id ops dr =>
   cases dr with
   | false=>exact h.elim
   | true =>
    simp only [codeOk,Bool.and_eq_true] at j;exact kK.calm hT bY j.1.2 j.2 (jC ops.toList f s j.1.1 h)
  | _=>exact h.elim
 | draw m =>
  intro c f s Q j h;cases c with
  | region id ops dr =>
   cases dr with
   | false=>exact h.elim
   | true =>
    simp only [codeOk,Bool.and_eq_true] at j;obtain ⟨⟨hd,R⟩,hq⟩:=j;have hv:=jC (n:=n) ops.toList f s hd h;have hD:=Ie R;refine kK.pre fun ad=>?_;have a4:∀ i o,i<m->ops[i]? = some o->nR T o.op=true:=by
     intro i o hi w;rw [List.all_eq_true] at hq;refine hq o ?_;rw [List.mem_iff_getElem?];exact ⟨i,by rw [List.getElem?_take,if_pos hi];simpa using w⟩
    refine kK.draw hT bY m [] (Region.before ops).toList [] (fun _ _ _=>True) (fun _ _ _ _=>True) R (fun _ _ _ _ _ _ _=>trivial) ?_;have:=RX (n:=n) (V:=fun _ _ _=>True) (S:=fun _ _ _ _=>True) ad.1 hD.le a4 m 0 f (by omega) (by simpa using hv);rw [<- List.range_eq_range'] at this;exact this
  | _=>exact h.elim
 | g_ m A H =>
  intro c f s Q j h;cases c with
  | region id ops dr =>
   cases dr with
   | false=>exact h.elim
   | true =>
    simp only [codeOk,Bool.and_eq_true] at j;obtain ⟨⟨⟨hd,R⟩,hH⟩,hq⟩:=j;obtain ⟨S,V,hS,h⟩:=h;refine kK.pre fun ad=>?_;have ar:H≠[]:=by intro e;rw [e] at hH;cases hH
    have z:∀ (i:Nat) (o:Oper),ops[i]? = some o->o∈ops.toList:=fun i o w=>List.mem_iff_getElem?.2 ⟨i,by simpa using w⟩;have ae:=Il (n:=n) (W:=KZ ops.toList) ad.1 ar (fun i o w=>qG hd o (z i o w)) (fun i o d w F=>xT (z i o w) F) (List.range m) f [] (by
     intro i hi;rw [List.all_eq_true] at hq;have:=hq i hi;simp only [Bool.or_eq_true,Option.any_eq_true] at this;rcases this with h | ⟨o,r,h2⟩
     ·exact .inl h
     ·exact .inr ⟨o,by simpa using r,h2⟩) h
    refine kK.draw hT bY m A (Region.before ops).toList H V S R hS ?_;refine Al (fun f' s' ⟨r,h2⟩=>?_) _ _ _ _ ae;have al:((ops.toList.drop m).all fun o=>ee n o.dst)=true:=by
     rw [List.all_eq_true];intro o w;exact qG hd o (List.mem_of_mem_drop w)
    have hv:=jC (n:=n) (ops.toList.drop m) f' s' al r;have mono:∀ (os:List Oper) (f:Fr) (s:AS) (K K':Fr->AS->Prop),(∀ f s,K f s->K' f s)->fD P T n ops os f s K->fD P T n ops os f s K':=by
     intro os
     induction os with
     | nil=>intro f s K K' B h;exact B _ _ h
     | cons o os U =>
      intro f s K K' B h;simp only [fD] at h ⊢;split at h
      ·obtain ⟨r,h2⟩:=h;rcases h2 with h2 | ⟨l,hl,h2⟩
       rotate_left
       ·exact ⟨r,.inr ⟨l,hl,fun p Y=>U _ _ _ _ B (h2 p Y)⟩⟩
       refine ⟨r,.inl ?_⟩;split at h2
       ·exact h2.mono fun v s' hh=>U _ _ _ _ B hh
       ·obtain ⟨v,s',h3,h4⟩:=h2;exact ⟨v,s',h3,U _ _ _ _ B h4⟩
      ·exact ⟨h.1,U _ _ _ _ B h.2⟩
      ·exact h
    refine mono _ _ _ _ _ (fun f2 s2 ⟨g1,g2⟩=>⟨g1,h2.trans (fun t ht=>g2 t ?_)⟩) hv;cases hw:Dm (KZ (ops.toList.drop m)) t with
    | false=>rfl
    | true =>
     exfalso;simp only [Dm,List.any_eq_true,KZ,List.mem_filterMap,Option.map_eq_some_iff] at hw;obtain ⟨p,⟨o,w,d,F,rfl⟩,Y⟩:=hw;simp only [Bool.and_eq_true,Nat.ble_eq] at Y;obtain rfl:d=t:=by omega
     rw [xT (List.mem_of_mem_drop w) F] at ht;cases ht
  | _=>exact h.elim
 | RS D t A H =>
  intro c f s Q j h;cases c with
  | region id ops dr =>
   cases dr with
   | false=>exact h.elim
   | true =>
    simp only [codeOk,Bool.and_eq_true] at j;obtain ⟨⟨⟨hd,R⟩,hH⟩,hq⟩:=j;obtain ⟨S,V,hS,h⟩:=h;refine kK.pre fun ad=>?_;have ar:H≠[]:=by intro e;rw [e] at hH;cases hH
    have z:∀ (i:Nat) (o:Oper),ops[i]? = some o->o∈ops.toList:=fun i o w=>List.mem_iff_getElem?.2 ⟨i,by simpa using w⟩;have Z:∀ o,o∈(t.filterMap fun i=>ops[i]?)->o∈ops.toList:=fun o w=>by
     obtain ⟨i,_,hi⟩:=List.mem_filterMap.1 w;exact z i o hi
    have ae:=Il (n:=n) (W:=KZ ops.toList) ad.1 ar (fun i o w=>qG hd o (z i o w)) (fun i o d w F=>xT (z i o w) F) D f [] (by
     intro i hi;rw [List.all_eq_true] at hq;have:=hq i hi;simp only [Bool.or_eq_true,Option.any_eq_true] at this;rcases this with h | ⟨o,r,h2⟩
     ·exact .inl h
     ·exact .inr ⟨o,by simpa using r,h2⟩) h
    refine kK.tail hT bY D t A (Region.before ops).toList H V S Ext (fun _ _ _ _=>True) [] R NU (fun _ _ h=>h) (fun _ _ _=>Ext.trans) (fun _ _ _ _ _ _ _=>trivial) hS (c:=fun _=>True) (fun _ _ _ _=>trivial) trivial ?_;refine Al (fun f' s' ⟨r,h2⟩=>?_) _ _ _ _ ae;have al:((t.filterMap fun i=>ops[i]?).all fun o=>ee n o.dst)=true:=by
     rw [List.all_eq_true];intro o w;exact qG hd o (Z _ w)
    have hv:=jC (n:=n) (t.filterMap fun i=>ops[i]?) f' s' al r;have mono:∀ (os:List Oper) (f:Fr) (s:AS) (K K':Fr->AS->Prop),(∀ f s,K f s->K' f s)->fD P T n ops os f s K->fD P T n ops os f s K':=by
     intro os
     induction os with
     | nil=>intro f s K K' B h;exact B _ _ h
     | cons o os U =>
      intro f s K K' B h;simp only [fD] at h ⊢;split at h
      ·obtain ⟨r,h2⟩:=h;rcases h2 with h2 | ⟨l,hl,h2⟩
       rotate_left
       ·exact ⟨r,.inr ⟨l,hl,fun p Y=>U _ _ _ _ B (h2 p Y)⟩⟩
       refine ⟨r,.inl ?_⟩;split at h2
       ·exact h2.mono fun v s' hh=>U _ _ _ _ B hh
       ·obtain ⟨v,s',h3,h4⟩:=h2;exact ⟨v,s',h3,U _ _ _ _ B h4⟩
      ·exact ⟨h.1,U _ _ _ _ B h.2⟩
      ·exact h
    refine mono _ _ _ _ _ (fun f2 s2 ⟨g1,g2⟩=>⟨g1,h2.trans (fun tt ht=>g2 tt ?_)⟩) hv;cases hw:Dm (KZ (t.filterMap fun i=>ops[i]?)) tt with
    | false=>rfl
    | true =>
     exfalso;simp only [Dm,List.any_eq_true,KZ,List.mem_filterMap,Option.map_eq_some_iff] at hw;obtain ⟨p,⟨o,w,d,F,rfl⟩,Y⟩:=hw;simp only [Bool.and_eq_true,Nat.ble_eq] at Y;obtain rfl:d=tt:=by omega
     rw [xT (by obtain ⟨i,_,hi⟩:=w;exact z i o hi) F] at ht;cases ht
  | _=>exact h.elim
 | tE D t A H M =>
  intro c f s Q j h;cases c with
  | region id ops dr =>
   cases dr with
   | false=>exact h.elim
   | true =>
    simp only [codeOk,Bool.and_eq_true] at j;obtain ⟨⟨⟨hd,R⟩,hM⟩,hq⟩:=j;obtain ⟨X,C,c0,S,V,hX,a5,hC,hS,hc,h0,h⟩:=h;have z:∀ (i:Nat) (o:Oper),ops[i]? = some o->o∈ops.toList:=fun i o w=>List.mem_iff_getElem?.2 ⟨i,by simpa using w⟩;have Z:∀ o,o∈(t.filterMap fun i=>ops[i]?)->o∈ops.toList:=fun o w=>by
     obtain ⟨i,_,hi⟩:=List.mem_filterMap.1 w;exact z i o hi
    have ae:=FD (n:=n) (W:=KZ ops.toList) (fun i o w=>qG hd o (z i o w)) (fun i o d w F=>xT (z i o w) F) f D f [] c0 (sY.refl _ _) (by
     intro i hi;rw [List.all_eq_true] at hq;have:=hq i hi;simp only [Bool.or_eq_true,Option.any_eq_true] at this;rcases this with h | ⟨o,r,h2⟩
     ·exact .inl h
     ·exact .inr ⟨o,by simpa using r,h2⟩) h
    refine kK.tail hT bY D t A (Region.before ops).toList H V S X C M R (VL hM) hX a5 hC hS hc h0 ?_;refine Al (fun f' s' ⟨r,h2⟩=>?_) _ _ _ _ ae;have al:((t.filterMap fun i=>ops[i]?).all fun o=>ee n o.dst)=true:=by
     rw [List.all_eq_true];intro o w;exact qG hd o (Z _ w)
    have hv:=jC (n:=n) (t.filterMap fun i=>ops[i]?) f' s' al r;have mono:∀ (os:List Oper) (f:Fr) (s:AS) (K K':Fr->AS->Prop),(∀ f s,K f s->K' f s)->fD P T n ops os f s K->fD P T n ops os f s K':=by
     intro os
     induction os with
     | nil=>intro f s K K' B h;exact B _ _ h
     | cons o os U =>
      intro f s K K' B h;simp only [fD] at h ⊢;split at h
      ·obtain ⟨r,h2⟩:=h;rcases h2 with h2 | ⟨l,hl,h2⟩
       rotate_left
       ·exact ⟨r,.inr ⟨l,hl,fun p Y=>U _ _ _ _ B (h2 p Y)⟩⟩
       refine ⟨r,.inl ?_⟩;split at h2
       ·exact h2.mono fun v s' hh=>U _ _ _ _ B hh
       ·obtain ⟨v,s',h3,h4⟩:=h2;exact ⟨v,s',h3,U _ _ _ _ B h4⟩
      ·exact ⟨h.1,U _ _ _ _ B h.2⟩
      ·exact h
    refine mono _ _ _ _ _ (fun f2 s2 ⟨g1,g2⟩=>⟨g1,h2.trans (fun tt ht=>g2 tt ?_)⟩) hv;cases hw:Dm (KZ (t.filterMap fun i=>ops[i]?)) tt with
    | false=>rfl
    | true =>
     exfalso;simp only [Dm,List.any_eq_true,KZ,List.mem_filterMap,Option.map_eq_some_iff] at hw;obtain ⟨p,⟨o,w,d,F,rfl⟩,Y⟩:=hw;simp only [Bool.and_eq_true,Nat.ble_eq] at Y;obtain rfl:d=tt:=by omega
     rw [xT (by obtain ⟨i,_,hi⟩:=w;exact z i o hi) F] at ht;cases ht
  | _=>exact h.elim
 | seq a b O am =>
  intro c f s Q j h;cases c with
  | seq x y =>
   simp only [codeOk,Bool.and_eq_true] at j;refine kK.seq ((O x f s _ j.1 h).mono ?_);rintro e f1 s1 ⟨r,h2⟩;cases e with
   | normal =>
    exact (am y f1 s1 Q j.2 r).mono fun e f2 s2 ⟨g1,g2⟩=>⟨g1,h2.left.trans g2.right⟩
   | _=>exact ⟨r,h2.left⟩
  | _=>exact h.elim
 | join L W a b O am =>
  intro c f s Q j h;cases c with
  | seq x y =>
   simp only [codeOk,Bool.and_eq_true] at j;obtain ⟨⟨⟨an,a2⟩,ab⟩,hL⟩:=j;obtain ⟨J,hJ,h⟩:=h;refine kK.seq ((O x f s _ an h).mono ?_);rintro e f1 s1 ⟨r,h2⟩;cases e with
   | normal =>
    obtain ⟨vs,g,aw,a0,ao⟩:=FB L _ _ hJ r;have w:=h2.sub ab;refine kK.weaken (f1:=g) (fun t=>?_) ?_
    ·rw [ao t];split
     ·exact .inl rfl
     ·simp only [forget];cases hw:Dm W t with
      | true=>exact .inr rfl
      | false=>exact .inl (w t hw).symm
    ·refine (am y g s1 Q a2 (aw s1 a0)).mono fun e f2 s2 ⟨k1,k2⟩=>⟨k1,fun t ht=>?_⟩;simp only [FC] at ht;rw [yW] at ht;simp only [Bool.or_eq_false_iff] at ht;rw [k2 t ht.2,ao t,if_neg,forget,ht.1]
     ·rfl
     ·intro hm;obtain ⟨p,Y,rfl⟩:=List.mem_map.1 hm;rw [List.all_eq_true] at hL;have:=hL p Y;rw [this] at ht;cases ht.1
   | _=>exact ⟨r,(h2.sub ab).left⟩
  | _=>exact h.elim
 | cond a b O am =>
  intro c f s Q j h;cases c with
  | cond v x y =>
   simp only [codeOk,Bool.and_eq_true] at j;simp only [vz] at h;split at h
   ·rename_i t ht;have h':=Cc h;refine kK.cond ht ?_;cases t with
    | true=>exact (O x f s Q j.1 (by simpa using h')).mono fun e f2 s2 ⟨k1,k2⟩=>⟨k1,k2.left⟩
    | false=>exact (am y f s Q j.2 (by simpa using h')).mono fun e f2 s2 ⟨k1,k2⟩=>⟨k1,k2.right⟩
   ·exact h.elim
  | _=>exact h.elim
 | wrap a O =>
  intro c f s Q j h;cases c with
  | block id x =>
   refine kK.block ((O x f s _ j h).mono ?_);rintro e f1 s1 ⟨r,h2⟩;cases e with
   | exit a8 =>
    simp only [yQ] at r ⊢;split
    ·rename_i a1;rw [if_pos a1] at r;exact ⟨r,h2⟩
    ·rename_i a1;rw [if_neg a1] at r;exact ⟨r,h2⟩
   | _=>exact ⟨r,h2⟩
  | scope x =>
   refine kK.scope ((O x f s _ j h).mono ?_);rintro e f1 s1 ⟨r,h2⟩;cases e with
   | goto l=>exact r.elim
   | _=>exact ⟨r,h2⟩
  | _=>exact h.elim
 | loop L W a O =>
  intro c f s Q j h;cases c with
  | loop x =>
   simp only [codeOk,Bool.and_eq_true] at j;obtain ⟨⟨an,ab⟩,hL⟩:=j;obtain ⟨I,m0,h0,hr⟩:=h;refine kK.loop (fun m f' s'=>(Lv L f' fun vs=>I m vs s')/\sY W f f') m0 ⟨h0,sY.refl _ _⟩ ?_;rintro m f1 s1 ⟨r,w⟩;obtain ⟨vs,g,aw,a0,ao⟩:=FB L _ _ (hr m) r;have a6:sY W f g:=by
    intro t ht;rw [ao t,if_neg,forget,ht]
    ·rfl
    ·intro hm;obtain ⟨p,Y,rfl⟩:=List.mem_map.1 hm;rw [List.all_eq_true] at hL;have:=hL p Y;rw [this] at ht;cases ht
   refine kK.weaken (f1:=g) (fun t=>?_) ?_
   ·rw [ao t];split
    ·exact .inl rfl
    ·simp only [forget];cases hw:Dm W t with
     | true=>exact .inr rfl
     | false=>exact .inl (w t hw).symm
   ·refine (O x g s1 _ an (aw s1 a0)).mono ?_;rintro e f2 s2 ⟨k1,k2⟩;have k3:=a6.trans (k2.sub ab);cases e with
    | normal =>
     have key:∀ (L:List (Nat×TK)) (f:Fr) (K:List AV->Nat->Prop),(Lv L f fun vs=>∃ m',m'<m/\K vs m')->∃ m',m'<m/\Lv L f fun vs=>K vs m':=by
      intro L
      induction L with
      | nil=>intro f K h;exact h
      | cons p L U =>
       intro f K h;have a3:∀ (k:TK) (v:AV) (G:AV->Nat->Prop),(RU k v fun u=>∃ m',m'<m/\G u m')->∃ m',m'<m/\RU k v fun u=>G u m':=by
        intro k v G h;unfold RU at h;split at h
        ·rename_i k k' n;cases B:(k'==k) with
         | false=>rw [B] at h;exact h.elim
         | true=>rw [B] at h;obtain ⟨m',r,h2⟩:=h;exact ⟨m',r,by simp only [RU,B,cond_true];exact h2⟩
        all_goals first | exact h.elim | (obtain ⟨m',r,h2⟩:=h;exact ⟨m',r,by simp only [RU];exact h2⟩)
       refine a3 _ _ _ ?_;have hm:∀ (k:TK) (v:AV) (G G':AV->Prop),(∀ u,G u->G' u)->RU k v G->RU k v G':=by
        intro k v G G' hg h;unfold RU at h ⊢;split at h
        ·rename_i k k' n;cases B:(k'==k) with
         | false=>rw [B] at h;exact h.elim
         | true=>rw [B] at h;exact hg _ h
        all_goals first | exact hg _ h | exact h.elim
       exact hm _ _ _ _ (fun u hu=>U f (fun vs m'=>K (u::vs) m') hu) h
     obtain ⟨m',a7,hj⟩:=key L f2 (fun vs m'=>I m' vs s2) k1;exact ⟨m',a7,hj,k3⟩
    | _=>exact ⟨k1,k3⟩
  | _=>exact h.elim
def Pv:List AV->AV
 | [v]=>v
 | l=>.aN l
def Jz (T:TT):List ResultVar->Fr->AS->List AV->(List AV->Prop)->Prop
 | [],_,_,acc,K=>K acc
 | .tmp t::rs,f,s,acc,K=>Jz T rs f s (acc++[f t]) K
 | .cell x t::rs,f,s,acc,K=>(match f x with
  | .ptr (some (l,off))=>(match T.agg t with
   | some true=>(match T.eU t with | some n=>aR (aC s l off n) fun cs=>Jz T rs f s (acc++[.agg cs]) K | none=>False)
   | some false=>rd (WT T t) (au s l off) fun v=>Jz T rs f s (acc++[v]) K
   | none=>False)
  | _=>False)
theorem Av:∀ (rs:List ResultVar) (f:Fr) (s:AS) (acc:List AV) {K:List AV->Prop},Jz T rs f s acc K->∃ vs,x9.DE T f s rs=some vs/\K (acc++vs)
 | [],f,s,acc,K,h=>⟨[],rfl,by simpa [Jz] using h⟩
 | .tmp t::rs,f,s,acc,K,h=>by
  obtain ⟨vs,c,h2⟩:=Av rs f s _ h;exact ⟨f t::vs,by simp only [x9.DE,c,Option.map_some],by simpa using h2⟩
 | .cell x t::rs,f,s,acc,K,h=>by
  simp only [Jz] at h;split at h
  ·rename_i l off i;split at h
   ·rename_i b;split at h
    ·rename_i n j;obtain ⟨cs,d,e⟩:=h;obtain ⟨vs,c,h2⟩:=Av rs f s _ e;exact ⟨.agg cs::vs,by simp only [x9.DE,Hf,i,b,j,Option.bind_some,d,Option.map_some,c],by simpa using h2⟩
    ·exact h.elim
   ·rename_i b;obtain ⟨v,d,e⟩:=rd_some h;obtain ⟨vs,c,h2⟩:=Av rs f s _ e;exact ⟨v::vs,by simp only [x9.DE,Hf,i,b,d,Option.bind_some,c,Option.map_some],by simpa using h2⟩
   ·exact h.elim
  ·exact h.elim
def XF (T:TT) (rs:List ResultVar) (R:AV->AS->Prop):Exit->Fr->AS->Prop
 | .normal,f,s=>Jz T rs f s [] fun l=>R (Pv l) s
 | .ret,f,s=>Jz T rs f s [] fun l=>R (Pv l) s
 | _,_,_=>False
theorem aa.q (hT:TT.Ok P T) (bY:P.follows .mixedOrders=true) {g:FuncId} {fn:Func} {c:Code} {args:List AV} {s:AS} {R:AV->AS->Prop} {n:Nat} {rs:List ResultVar} {A:QA} (hf:P.funcs[g]? = some fn) (j:gj P g=true) (hb:fn.body=some c)
  (k:args.length+(fn.ntmps - args.length)=n) (b:fn.results.toList=rs) (d:codeOk T n A c=true) {Q:Prop} (m:Q=vz P T A c (rR args) s (XF T rs R)) (h:Q):aa P g args s R:=by
 rw [m] at h;refine aa.body hT hf j hb k b ((Lw hT bY A c _ s _ d h).mono ?_);rintro e f s ⟨i,_⟩;have key:(Jz T rs f s [] fun l=>R (Pv l) s)->∃ v,x9 T rs f s=some v/\R v s:=by
  intro h;obtain ⟨vs,h2,h3⟩:=Av rs f s [] h;refine ⟨Pv vs,?_,by simpa using h3⟩;unfold x9;rw [h2];simp only [Option.map_some];cases vs with
  | nil=>rfl
  | cons a l=>cases l <;> rfl
 cases e with
 | normal=>exact key i
 | ret=>exact key i
 | _=>exact i.elim
end
end Go.Am
end

section
namespace Go.av
structure aJ where
 r:Int
 c:Int
 deriving DecidableEq
def aJ.may (d:aJ):Bool:=decide (1<=d.r)&&decide (d.r<=16)&&decide (1<=d.c)&&decide (d.c<=4611686018427387904)
def aJ.lt (a b:aJ):Bool:=decide (a.r<b.r)||(a.r==b.r&&decide (a.c<b.c))
def tF (a b:Int):Int:=if a<b then -1 else if a>b then 1 else 0
def aJ.cmp (a b:aJ):Int:=if tF a.r b.r≠0 then tF a.r b.r else tF a.c b.c
theorem aJ.gQ {d:aJ}:d.may=true↔1<=d.r/\d.r<=16/\1<=d.c/\d.c<=4611686018427387904:=by simp [aJ.may,and_assoc]
theorem aJ.lt_iff {a b:aJ}:a.lt b=true↔a.r<b.r\/a.r=b.r/\a.c<b.c:=by simp [aJ.lt]
theorem aJ.fX {a b:aJ}:a.cmp b<0↔a.lt b=true:=by
 rw [aJ.lt_iff];simp only [aJ.cmp,tF];grind
theorem aJ.VN {a b:aJ}:a.cmp b=0↔a=b:=by
 cases a;cases b;simp only [aJ.cmp,tF,aJ.mk.injEq];grind
theorem aJ.lt_trans {a b c:aJ} (h:a.lt b=true) (d:b.lt c=true):a.lt c=true:=by
 rw [aJ.lt_iff] at *;omega
theorem aJ.lt_irrefl (a:aJ):¬ a.lt a=true:=by rw [aJ.lt_iff];omega
theorem aJ.VO (a b:aJ):a.lt b=true\/a=b\/b.lt a=true:=by
 cases a;cases b;simp only [aJ.lt_iff,aJ.mk.injEq];omega
end Go.av
namespace Go.av
def pos (l:List aJ) (d:aJ):Nat:=(l.takeWhile fun x=>x.lt d).length
theorem JA (l:List aJ) (d:aJ):pos l d<=l.length:=(List.takeWhile_sublist _).length_le
theorem pos_eq {l:List aJ} {d:aJ} {p:Nat} (b:p<=l.length) (e:∀ (k:Nat) x,k<p->l[k]? = some x->x.lt d=true) (h2:∀ x,l[p]? = some x->x.lt d=false):pos l d=p:=by
 induction l generalizing p with
 | nil=>simp at b;subst b;rfl
 | cons a l i =>
  simp only [pos,List.takeWhile_cons];cases p with
  | zero=>have:=h2 a rfl;simp [this]
  | succ p =>
   have:=e 0 a (by omega) rfl;simp only [this,if_true,List.length_cons];have:=i (p:=p) (by simpa using b) (fun k x j c=>e (k+1) x (by omega) (by simpa using c)) (fun x c=>h2 x (by simpa using c));simp only [pos] at this;rw [this]
def ef (l:List aJ):Prop:=l.Pairwise fun a b=>a.lt b=true
theorem ef.lt {l:List aJ} (h:ef l) {i j:Nat} {a b:aJ} (c:i<j) (e:l[i]? = some a) (hb:l[j]? = some b):a.lt b=true:=by
 have hj:j<l.length:=by
  rcases Nat.lt_or_ge j l.length with d | d
  ·exact d
  ·rw [List.getElem?_eq_none d] at hb;cases hb
 have:=List.pairwise_iff_getElem.1 h i j (by omega) hj c;rw [List.getElem?_eq_getElem (by omega)] at e hb;rw [Option.some.inj e,Option.some.inj hb] at this;exact this
theorem ef.mem {l:List aJ} (h:ef l) (d:aJ):l[pos l d]? = some d↔d∈l:=by
 constructor
 ·intro h;exact List.mem_of_getElem? h
 ·intro hm;obtain ⟨i,hi⟩:=List.mem_iff_getElem?.1 hm;have e:i<l.length:=by
   rcases Nat.lt_or_ge i l.length with c | c
   ·exact c
   ·rw [List.getElem?_eq_none c] at hi;cases hi
  have:pos l d=i:=pos_eq (by omega) (fun k x j b=>h.lt j b hi) (fun x b=>by
   rw [hi] at b;obtain rfl:=Option.some.inj b;cases m:d.lt d with
   | false=>rfl
   | true=>exact absurd m (aJ.lt_irrefl d))
  rw [this];exact hi
end Go.av
namespace Go.av
structure FE (v:List Int):Prop where
 len:v.length=16
 Xs:∀ x∈v,0<=x/\x<=4611686018427387904
theorem FE.get {v:List Int} (h:FE v) (i:Nat):0<=v.getD i 0/\v.getD i 0<=4611686018427387904:=by
 rw [List.getD_eq_getElem?_getD];cases b:v[i]? with
 | none=>simp
 | some x=>exact h.Xs x (List.mem_of_getElem? b)
theorem FE.set {v:List Int} (h:FE v) (i:Nat) {x:Int} (b:0<=x/\x<=4611686018427387904):FE (v.set i x):=by
 refine ⟨by rw [List.length_set];exact h.len,fun y c=>?_⟩;rcases List.mem_or_eq_of_mem_set c with d | rfl
 ·exact h.Xs y d
 ·exact b
def gl (st:List Int×List aJ) (d:aJ):List Int×List aJ :=
 if d.c<=st.1.getD (d.r - 1).toNat 0 then st else if d.c=st.1.getD (d.r - 1).toNat 0+1 then (st.1.set (d.r - 1).toNat d.c,st.2) else (st.1,st.2++[d])
def compact (v:List Int) (l:List aJ):List Int×List aJ:=l.foldl gl (v,[])
theorem FF {st:List Int×List aJ} {d:aJ} (h:FE st.1) (hd:d.may=true):FE (gl st d).1:=by
 have:=aJ.gQ.1 hd;unfold gl;split
 ·exact h
 ·split
  ·exact h.set _ (by omega)
  ·exact h
theorem EI:∀ (l:List aJ) (st:List Int×List aJ),FE st.1->(∀ d∈l,d.may=true)->FE (l.foldl gl st).1
 | [],st,h,_=>h
 | d::l,st,h,hd=>EI l _ (FF h (hd d (by simp))) (fun x b=>hd x (by simp [b]))
theorem Qu (st:List Int×List aJ) (d:aJ):(gl st d).2.length<=st.2.length+1:=by
 unfold gl;split
 ·omega
 ·split <;> simp
theorem Aw:∀ (l:List aJ) (st:List Int×List aJ),(l.foldl gl st).2.length<=st.2.length+l.length
 | [],st=>by simp
 | d::l,st=>by have:=Aw l (gl st d);have:=Qu st d;simp only [List.foldl_cons,List.length_cons];omega
end Go.av
namespace Go.av
def ins (l:List aJ) (d:aJ):List aJ:=l.take (pos l d)++d::l.drop (pos l d)
theorem xU (l:List aJ) (d:aJ):(ins l d).length=l.length+1:=by
 have:=JA l d;simp only [ins,List.length_append,List.length_cons,List.length_take,List.length_drop];omega
theorem uH {l:List aJ} {d x:aJ}:x∈ins l d↔x=d\/x∈l:=by
 simp only [ins,List.mem_append,List.mem_cons]
 conv=>rhs;rw [<- List.take_append_drop (pos l d) l,List.mem_append]
 constructor
 ·rintro (h | h | h)
  ·exact .inr (.inl h)
  ·exact .inl h
  ·exact .inr (.inr h)
 ·rintro (h | h | h)
  ·exact .inr (.inl h)
  ·exact .inl h
  ·exact .inr (.inr h)
theorem RY {l:List aJ} {d x:aJ} (h:x∈l.take (pos l d)):x.lt d=true:=by
 have:l.take (pos l d)=l.takeWhile fun x=>x.lt d:=by
  simp only [pos];exact (List.prefix_iff_eq_take.1 (List.takeWhile_prefix _)).symm
 rw [this] at h
 induction l with
 | nil=>simp at h
 | cons a l b =>
  rw [List.takeWhile_cons] at h;split at h
  ·rename_i c;rcases List.mem_cons.1 h with rfl | h
   ·exact c
   ·refine b h ?_;simp only [pos];exact (List.prefix_iff_eq_take.1 (List.takeWhile_prefix _)).symm
  ·simp at h
theorem pos_at {l:List aJ} {d x:aJ} (h:l[pos l d]? = some x):x.lt d=false:=by
 induction l with
 | nil=>simp at h
 | cons a l c =>
  simp only [pos,List.takeWhile_cons] at h;cases b:a.lt d with
  | true=>simp only [b,if_true,List.length_cons,List.getElem?_cons_succ] at h;exact c h
  | false=>simp only [b,Bool.false_eq_true,if_false,List.length_nil,List.getElem?_cons_zero,Option.some.injEq] at h;subst h;exact b
theorem ef.sub {l l':List aJ} (h:ef l) (hs:l'.Sublist l):ef l':=List.Pairwise.sublist hs h
theorem ef.ins {l:List aJ} (h:ef l) {d:aJ} (hd:d ∉ l):ef (ins l d):=by
 unfold ef av.ins;rw [List.pairwise_append];refine ⟨h.sub (List.take_sublist _ _),?_,fun a o b hb=>?_⟩
 ·rw [List.pairwise_cons];refine ⟨fun b hb=>?_,h.sub (List.drop_sublist _ _)⟩;obtain ⟨k,e⟩:=List.mem_iff_getElem?.1 hb;rw [List.getElem?_drop] at e;have m:∀ x,l[pos l d]? = some x->d.lt x=true:=by
   intro x n;rcases aJ.VO d x with c | c | c
   ·exact c
   ·subst c;exact absurd (List.mem_of_getElem? n) hd
   ·rw [pos_at n] at c;cases c
  cases k with
  | zero=>exact m b (by simpa using e)
  | succ k =>
   have p:pos l d<l.length:=by
    rcases Nat.lt_or_ge (pos l d) l.length with r | r
    ·exact r
    ·rw [List.getElem?_eq_none (by omega)] at e;cases e
   have n:=m _ (List.getElem?_eq_getElem p);exact aJ.lt_trans n (h.lt (by omega) (List.getElem?_eq_getElem p) e)
 ·have c:=RY o;rcases List.mem_cons.1 hb with rfl | hb
  ·exact c
  ·obtain ⟨i,hi⟩:=List.mem_iff_getElem?.1 o;obtain ⟨j,hj⟩:=List.mem_iff_getElem?.1 hb;rw [List.getElem?_take] at hi;rw [List.getElem?_drop] at hj;split at hi
   ·exact h.lt (by omega) hi hj
   ·cases hi
theorem Lx:∀ (l:List aJ) (st:List Int×List aJ),(l.foldl gl st).2.Sublist (st.2++l)
 | [],st=>by simp
 | d::l,st=>by
  have:=Lx l (gl st d);simp only [List.foldl_cons];refine this.trans ?_;unfold gl;split
  ·exact List.Sublist.append_left (List.sublist_cons_self _ _) _
  ·split
   ·exact List.Sublist.append_left (List.sublist_cons_self _ _) _
   ·simp
theorem rT (v:List Int) (l:List aJ):(compact v l).2.Sublist l:=by simpa [compact] using Lx l (v,[])
theorem NV {v:List Int} {l:List aJ} (h:FE v) (hm:∀ d∈l,d.may=true):FE (compact v l).1:=EI l _ h hm
end Go.av
end

section
namespace Go.av.SG
structure OE where
 α:Type
 d0:α
 lt:α->α->Bool
 cmp:α->α->Int
 fX:∀ a b,cmp a b<0↔lt a b=true
 le_trans:∀ a b c,lt b a=false->lt c b=false->lt c a=false
 le_refl:∀ a,lt a a=false
 Ax:∀ a b,lt a b=true->lt b a=false
def El (O:OE):Type:=O.α
variable {O:OE}
noncomputable instance X4:DecidableEq (El O):=fun a b=>Classical.propDecidable (a=b)
def El.d0:El O:=O.d0
def El.lt (a b:El O):Bool:=O.lt a b
def El.cmp (a b:El O):Int:=O.cmp a b
def El.le (x y:El O):Prop:=y.lt x=false
theorem El.fX {a b:El O}:a.cmp b<0↔a.lt b=true:=O.fX a b
theorem El.le_trans {a b c:El O} (h:a.le b) (d:b.le c):a.le c:=O.le_trans a b c h d
theorem El.le_refl (a:El O):a.le a:=O.le_refl a
theorem El.Ax {a b:El O} (h:a.lt b=true):a.le b:=O.Ax a b h
theorem El.wA {a b:El O} (h:¬ a.lt b=true):b.le a:=by unfold El.le;simpa using h
def el (l:List (El O)) (i:Nat):El O:=l.getD i El.d0
theorem yY {l:List (El O)} {i:Nat} (h:i<l.length):l[i]? = some (el l i):=by
 rw [el,List.getD_eq_getElem?_getD,List.getElem?_eq_getElem h];rfl
theorem RZ {l:List (El O)} {i k:Nat} {x:El O} (h:i<l.length):el (l.set i x) k=if k=i then x else el l k:=by
 simp only [el,List.getD_eq_getElem?_getD,List.getElem?_set];by_cases b:i=k
 ·subst b;simp [h]
 ·rw [if_neg b,if_neg (fun e=>b e.symm)]
def B3 (l:List (El O)) (i j:Nat):List (El O):=(l.set i (el l j)).set j (el l i)
theorem EJ (l:List (El O)) (i j:Nat):(B3 l i j).length=l.length:=by simp [B3]
theorem mC {l:List (El O)} {i j:Nat} (hi:i<l.length) (hj:j<l.length) (k:Nat):el (B3 l i j) k=if k=j then el l i else if k=i then el l j else el l k:=by
 unfold B3;rw [RZ (by simpa using hj),RZ hi]
inductive Sw (a b:Nat):List (El O)->List (El O)->Prop
 | refl (l:List (El O)):Sw a b l l
 | step {l l':List (El O)} {i j:Nat} (h:Sw a b l l') (hi:a<=i/\i<b) (hj:a<=j/\j<b) (hb:b<=l'.length):Sw a b l (B3 l' i j)
theorem Sw.len {a b:Nat} {l l':List (El O)} (h:Sw a b l l'):l'.length=l.length:=by
 induction h with
 | refl=>rfl
 | step h hi hj hb c=>rw [EJ,c]
theorem Sw.trans {a b:Nat} {l l' l'':List (El O)} (h:Sw a b l l') (c:Sw a b l' l''):Sw a b l l'':=by
 induction c with
 | refl=>exact h
 | step _ hi hj hb d=>exact .step d hi hj hb
theorem Sw.Vl {a b a' c:Nat} {l l':List (El O)} (h:Sw a b l l') (j:a'<=a) (hb:b<=c) (e:c<=l.length):Sw a' c l l':=by
 induction h with
 | refl=>exact .refl _
 | step h hi hj i d=>exact .step d ⟨by omega,by omega⟩ ⟨by omega,by omega⟩ (by rw [d.len];exact e)
theorem Sw.out {a b:Nat} {l l':List (El O)} (h:Sw a b l l') {k:Nat} (d:k<a\/b<=k):el l' k=el l k:=by
 induction h with
 | refl=>rfl
 | step h hi hj hb c=>rw [mC (by omega) (by omega),if_neg (by omega),if_neg (by omega),c]
theorem Sw.mem {a b:Nat} {l l':List (El O)} (h:Sw a b l l') {k:Nat} (d:a<=k/\k<b):∃ j,(a<=j/\j<b)/\el l' k=el l j:=by
 induction h generalizing k with
 | refl=>exact ⟨k,d,rfl⟩
 | step h hi hj hb c =>
  rw [mC (by omega) (by omega)];split
  ·exact c hi
  ·split
   ·exact c hj
   ·exact c d
theorem R1 {l:List (El O)} {i j:Nat} (hi:i<l.length) (hj:j<l.length):(B3 l i j).Perm l:=by
 rw [List.perm_iff_count];intro x;unfold B3;rw [List.count_set (by simpa using hj),List.count_set hi];have e1:l[i]=el l i:=by have:=yY hi;rw [List.getElem?_eq_getElem hi] at this;exact Option.some.inj this
 have e2:(l.set i (el l j))[j]'(by simpa using hj)=el l j:=by
  rw [List.getElem_set];split
  ·rfl
  ·have:=yY hj;rw [List.getElem?_eq_getElem hj] at this;exact Option.some.inj this
 rw [e1,e2];have c:el l i=x->0<l.count x:=fun e=>List.count_pos_iff.2 (e ▸ List.mem_of_getElem? (yY hi));by_cases b:el l i=x <;> by_cases d:el l j=x <;> simp [b,d]
 ·have:=c b;omega
 ·have:=c b;omega
theorem Sw.perm {a b:Nat} {l l':List (El O)} (h:Sw a b l l'):l'.Perm l:=by
 induction h with
 | refl=>exact .refl _
 | step h hi hj hb c=>exact (R1 (by omega) (by omega)).trans c
def Dn (l:List (El O)) (a b:Nat):Prop:=∀ i j,a<=i->i<j->j<b->(el l i).le (el l j)
theorem Ly {l:List (El O)} {a i j:Nat} (w:i<l.length) (hj:a<j) (r:j<=i) (e:(el l j).lt (el l (j - 1))=true)
  (h:∀ p q,a<=p->p<q->q<=i->q≠j->(el l p).le (el l q)):∀ p q,a<=p->p<q->q<=i->q≠j - 1->(el (B3 l j (j - 1)) p).le (el (B3 l j (j - 1)) q):=by
 intro p q o k m n;rw [mC (by omega) (by omega),mC (by omega) (by omega),if_neg n];by_cases b:q=j
 ·rw [if_pos b];by_cases c:p=j - 1
  ·rw [if_pos c];exact El.Ax e
  ·rw [if_neg c,if_neg (by omega)];exact h p (j - 1) o (by omega) (by omega) (by omega)
 ·rw [if_neg b];by_cases c:p=j - 1
  ·rw [if_pos c];exact h j q (by omega) (by omega) m b
  ·rw [if_neg c];by_cases d:p=j
   ·rw [if_pos d];exact h (j - 1) q (by omega) (by omega) m b
   ·rw [if_neg d];exact h p q o k m b
theorem JB {l:List (El O)} {a i j:Nat} (hj:a<=j) (k:j<=i) (hle:j=a\/(el l (j - 1)).le (el l j))
  (h:∀ p q,a<=p->p<q->q<=i->q≠j->(el l p).le (el l q)):Dn l a (i+1):=by
 intro p q e c m;by_cases b:q=j
 ·subst b;rcases hle with rfl | hle
  ·omega
  ·by_cases d:p=q - 1
   ·rw [d];exact hle
   ·exact El.le_trans (h p (q - 1) e (by omega) (by omega) (by omega)) hle
 ·exact h p q e c (by omega) b
def DF (l:List (El O)) (f n k:Nat):Prop:=∀ c,0<c->c<n->k<=(c - 1) / 2->(el l (f+c)).le (el l (f+(c - 1) / 2))
structure NW (l:List (El O)) (f n k root:Nat):Prop where
 lo:k<=root
 other:∀ c,0<c->c<n->k<=(c - 1) / 2->(c - 1) / 2≠root->(el l (f+c)).le (el l (f+(c - 1) / 2))
 up:k<root->k<=(root - 1) / 2->∀ c,0<c->c<n->(c - 1) / 2=root->(el l (f+c)).le (el l (f+(root - 1) / 2))
theorem DF.XG {l:List (El O)} {f n k:Nat} (h:DF l f n (k+1)):NW l f n k k :=
 ⟨by omega,fun c b d i e=>h c b d (by omega),fun h=>by omega⟩
theorem NW.done {l:List (El O)} {f n k root:Nat} (h:NW l f n k root) (i:∀ c,0<c->c<n->(c - 1) / 2=root->(el l (f+c)).le (el l (f+root))):DF l f n k:=by
 intro c e b j;by_cases d:(c - 1) / 2=root
 ·rw [d];exact i c e b d
 ·exact h.other c e b j d
theorem NW.step {l:List (El O)} {f n k root child:Nat} (h:NW l f n k root) (D:f+n<=l.length) (y:child=2*root+1\/child=2*root+2) (p:child<n)
  (r:(el l (f+root)).lt (el l (f+child))=true) (b:∀ c,0<c->c<n->(c - 1) / 2=root->(el l (f+c)).le (el l (f+child))):NW (B3 l (f+root) (f+child)) f n k child:=by
 have z:=h.lo;have E:=fun q=>mC (l:=l) (i:=f+root) (j:=f+child) (by omega) (by omega) q;refine ⟨by omega,fun c m o x A=>?_,fun _ _ c m o B=>?_⟩
 ·rw [E,E];rw [if_neg (show ¬ f+(c - 1) / 2=f+child by omega)];by_cases d:(c - 1) / 2=root
  ·rw [if_pos (show f+(c - 1) / 2=f+root by omega)];by_cases C:c=child
   ·rw [if_pos (by omega)];exact El.Ax r
   ·rw [if_neg (by omega),if_neg (by omega)];exact b c m o d
  ·rw [if_neg (show ¬ f+(c - 1) / 2=f+root by omega),if_neg (show ¬ f+c=f+child by omega)];by_cases w:c=root
   ·rw [if_pos (by omega)];subst w;exact h.up (by omega) x child (by omega) p (by omega)
   ·rw [if_neg (by omega)];exact h.other c m o x d
 ·rw [E,E];have e:(child - 1) / 2=root:=by omega
  rw [if_neg (show ¬ f+c=f+child by omega),if_neg (show ¬ f+c=f+root by omega),e,if_neg (show ¬ f+root=f+child by omega),if_pos rfl];have:=h.other c m o (by omega) (by omega);rw [B] at this;exact this
theorem DF.top {l:List (El O)} {f n:Nat} (h:DF l f n 0):∀ c,c<n->(el l (f+c)).le (el l f):=by
 intro c
 induction c using Nat.strongRecOn with
 | _ c b =>
  intro d;by_cases e:c=0
  ·subst e;exact El.le_refl _
  ·exact El.le_trans (h c (by omega) d (by omega)) (b ((c - 1) / 2) (by omega) (by omega))
def NX (l:List (El O)) (f b n:Nat):Prop:=∀ p q,f<=p->p<q->q<b->f+n<=q->(el l p).le (el l q)
theorem NX.swap {l:List (El O)} {f b n:Nat} (w:b<=l.length) (hb:f+(n+1)<=b) (h:NX l f b (n+1)) (k:DF l f (n+1) 0):NX (B3 l f (f+n)) f b n/\DF (B3 l f (f+n)) f n 1:=by
 have E:=fun q=>mC (l:=l) (i:=f) (j:=f+n) (by omega) (by omega) q;constructor
 ·intro p q o m d x;rw [E,E];by_cases e:q=f+n
  ·rw [if_pos e,if_neg (by omega)];split
   ·exact k.top n (by omega)
   ·have:=k.top (p - f) (by omega);rw [show f+(p - f)=p by omega] at this;exact this
  ·rw [if_neg e,if_neg (show ¬ q=f by omega)];split
   ·exact h f q (by omega) (by omega) d (by omega)
   ·split
    ·exact h (f+n) q (by omega) (by omega) d (by omega)
    ·exact h p q o m d (by omega)
 ·intro c r y z;rw [E,E,if_neg (by omega),if_neg (by omega),if_neg (by omega),if_neg (by omega)];exact k c r (by omega) (by omega)
theorem NX.sw {l l':List (El O)} {f b n:Nat} (h:NX l f b n) (hs:Sw f (f+n) l l'):NX l' f b n:=by
 intro p q o d c i;rw [hs.out (k:=q) (.inr i)];by_cases m:p<f+n
 ·obtain ⟨j,hj,e⟩:=hs.mem (k:=p) ⟨o,m⟩;rw [e];exact h j q hj.1 (by omega) c i
 ·rw [hs.out (.inr (by omega))];exact h p q o d c i
structure JC (L G:El O->El O->Prop) (l:List (El O)) (x y i j:Nat):Prop where
 xi:x<i
 ij:i<=j+1
 jy:j<y
 lt:∀ k,x<k->k<i->L (el l k) (el l x)
 ge:∀ k,j<k->k<y->G (el l k) (el l x)
theorem JC.left {L G:El O->El O->Prop} {l:List (El O)} {x y i j:Nat} (h:JC L G l x y i j) (b:i<=j) (c:L (el l i) (el l x)):JC L G l x y (i+1) j :=
 ⟨by have:=h.xi;omega,by omega,h.jy,fun k d h2=>by
  by_cases e:k=i
  ·rw [e];exact c
  ·exact h.lt k d (by omega),h.ge⟩
theorem JC.right {L G:El O->El O->Prop} {l:List (El O)} {x y i j:Nat} (h:JC L G l x y i j) (b:i<=j) (c:G (el l j) (el l x)):JC L G l x y i (j - 1) :=
 ⟨h.xi,by have:=h.xi;omega,by have:=h.jy;omega,h.lt,fun k d h2=>by
  by_cases e:k=j
  ·rw [e];exact c
  ·exact h.ge k (by omega) h2⟩
theorem JC.swap {L G:El O->El O->Prop} {l:List (El O)} {x y i j:Nat} (h:JC L G l x y i j) (e:y<=l.length) (b:i<j) (c:L (el l j) (el l x)) (d:G (el l i) (el l x)):JC L G (B3 l i j) x y (i+1) (j - 1):=by
 have m:=h.xi;have h2:=h.jy;have E:=fun q=>mC (l:=l) (i:=i) (j:=j) (by omega) (by omega) q;have ex:el (B3 l i j) x=el l x:=by rw [E,if_neg (by omega),if_neg (by omega)]
 refine ⟨by omega,by omega,by omega,fun k h3 h4=>?_,fun k h3 h4=>?_⟩
 ·rw [ex,E,if_neg (by omega)];split
  ·exact c
  ·exact h.lt k h3 (by omega)
 ·rw [ex,E];split
  ·exact d
  ·rw [if_neg (by omega)];exact h.ge k (by omega) h4
def Lt (a p:El O):Prop:=a.lt p=true
def Ge (a p:El O):Prop:=p.le a
structure FG (l:List (El O)) (x y m:Nat):Prop where
 xm:x<=m
 my:m<y
 lt:∀ k,x<=k->k<m->(el l k).le (el l m)
 ge:∀ k,m<k->k<y->(el l m).le (el l k)
theorem JC.fin {l:List (El O)} {x y i j:Nat} (h:JC Lt Ge l x y i j) (n:y<=l.length) (m:j<i):FG (B3 l j x) x y j:=by
 have o:=h.xi;have h2:=h.jy;have h3:=h.ij;have E:=fun q=>mC (l:=l) (i:=j) (j:=x) (by omega) (by omega) q;have b:el (B3 l j x) j=el l x:=by
  rw [E];split
  ·rename_i e;rw [e]
  ·rw [if_pos rfl]
 refine ⟨by omega,h2,fun k h4 c=>?_,fun k h4 c=>?_⟩
 ·rw [b,E];by_cases d:k=x
  ·rw [if_pos d];exact El.Ax (h.lt j (by omega) (by omega))
  ·rw [if_neg d,if_neg (by omega)];exact El.Ax (h.lt k (by omega) (by omega))
 ·rw [b,E,if_neg (by omega),if_neg (by omega)];exact h.ge k h4 c
theorem JC.start {L G:El O->El O->Prop} {l:List (El O)} {x y:Nat} (h:x<y):JC L G l x y (x+1) (y - 1):=⟨by omega,by omega,by omega,fun k b h2=>by omega,fun k b h2=>by omega⟩
def TY (a p:El O):Prop:=a.le p
def TZ (a p:El O):Prop:=p.lt a=true
def iW (l:List (El O)) (a0 b0 a b:Nat):Prop:=∀ p q,a0<=p->p<q->q<b0->(p<a\/b<=q)->(el l p).le (el l q)
theorem iW.sw {l l':List (El O)} {a0 b0 a b:Nat} (k:a0<=a) (hb:b<=b0) (h:iW l a0 b0 a b) (hs:Sw a b l l'):iW l' a0 b0 a b:=by
 intro p q i h2 h3 h4;have P:(p<a\/b<=p)\/(a<=p/\p<b):=by omega
 have Q:(q<a\/b<=q)\/(a<=q/\q<b):=by omega
 rcases P with c | c <;> rcases Q with d | d
 ·rw [hs.out c,hs.out d];exact h p q i h2 h3 h4
 ·obtain ⟨j,hj,e⟩:=hs.mem d;rw [hs.out c,e];exact h p j i (by omega) (by omega) (by omega)
 ·obtain ⟨j,hj,e⟩:=hs.mem c;rw [hs.out d,e];exact h j q (by omega) (by omega) h3 (by omega)
 ·omega
theorem iW.WW {l:List (El O)} {a0 b0 a b:Nat} (h:iW l a0 b0 a b) (hs:Dn l a b):Dn l a0 b0:=by
 intro p q c h2 h3;by_cases h4:p<a\/b<=q
 ·exact h p q c h2 h3 h4
 ·exact hs p q (by omega) h2 (by omega)
theorem iW.start (l:List (El O)) (a b:Nat):iW l a b a b:=fun p q _ _ _ _=>by omega
theorem iW.right {l l':List (El O)} {a0 b0 a b m:Nat} (B:a0<=a) (hb:b<=b0) (h:iW l a0 b0 a b) (i:FG l a b m) (hs:Sw a m l l') (o:Dn l' a m):iW l' a0 b0 (m+1) b:=by
 have C:=i.xm;have h2:=i.my;intro p q D x F G;have src:∀ k,∃ j,el l' k=el l j/\((a<=k/\k<m/\a<=j/\j<m)\/(j=k/\(k<a\/m<=k))):=by
  intro k;by_cases n:a<=k/\k<m
  ·obtain ⟨j,hj,e⟩:=hs.mem n;exact ⟨j,e,.inl ⟨n.1,n.2,hj.1,hj.2⟩⟩
  ·exact ⟨k,hs.out (by omega),.inr ⟨rfl,by omega⟩⟩
 by_cases c:a<=p/\q<b
 ·
  by_cases y:q<m
  ·exact o p q c.1 x y
  ·obtain ⟨j,e,hj⟩:=src p;rw [e,hs.out (k:=q) (by omega)];have z:p<=m:=by omega
   have d:(el l j).le (el l m):=by
    by_cases r:j=m
    ·rw [r];exact El.le_refl _
    ·exact i.lt j (by omega) (by omega)
   by_cases w:q=m
   ·rw [w];exact d
   ·exact El.le_trans d (i.ge q (by omega) c.2)
 ·obtain ⟨j,e,hj⟩:=src p;obtain ⟨k,A,n⟩:=src q;rw [e,A];exact h j k (by omega) (by omega) (by omega) (by omega)
theorem iW.left {l l':List (El O)} {a0 b0 a b m:Nat} (A:a0<=a) (hb:b<=b0) (h:iW l a0 b0 a b) (i:FG l a b m) (hs:Sw (m+1) b l l') (o:Dn l' (m+1) b):iW l' a0 b0 a m:=by
 have B:=i.xm;have h2:=i.my;intro p q C x D F;have src:∀ k,∃ j,el l' k=el l j/\((m<k/\k<b/\m<j/\j<b)\/(j=k/\(k<=m\/b<=k))):=by
  intro k;by_cases n:m+1<=k/\k<b
  ·obtain ⟨j,hj,e⟩:=hs.mem n;exact ⟨j,e,.inl ⟨by omega,n.2,by omega,hj.2⟩⟩
  ·exact ⟨k,hs.out (by omega),.inr ⟨rfl,by omega⟩⟩
 by_cases c:a<=p/\q<b
 ·by_cases y:m<p
  ·exact o p q (by omega) x c.2
  ·obtain ⟨k,e,n⟩:=src q;rw [e,hs.out (k:=p) (by omega)];have d:(el l m).le (el l k):=by
    by_cases r:k=m
    ·rw [r];exact El.le_refl _
    ·exact i.ge k (by omega) (by omega)
   by_cases w:p=m
   ·rw [w];exact d
   ·exact El.le_trans (i.lt p c.1 (by omega)) d
 ·obtain ⟨j,e,hj⟩:=src p;obtain ⟨k,z,n⟩:=src q;rw [e,z];exact h j k (by omega) (by omega) (by omega) (by omega)
theorem iW.equal {l:List (El O)} {a0 b0 a b i j:Nat} (h:iW l a0 b0 a b) (x:a0<=a) (hb:b<=b0) (d:JC TY TZ l a b i j) (n:j<i) (c:∀ k,a<=k->k<b->(el l a).le (el l k)):iW l a0 b0 i b:=by
 have y:=d.xi;have h2:=d.ij;have h3:=d.jy;intro p q o r w z;by_cases m:a<=p/\q<b
 ·have hle:(el l p).le (el l a):=by
   by_cases e:p=a
   ·rw [e];exact El.le_refl _
   ·exact d.lt p (by omega) (by omega)
  exact El.le_trans hle (c q (by omega) m.2)
 ·exact h p q o r w (by omega)
end Go.av.SG
end

section
namespace Go.Am
section
variable {P:Program} {T:TT} (hT:TT.Ok P T) {call:Lm} (Aq:Jq P call) (bY:P.follows .mixedOrders=true)
include hT Aq bY
end
end Go.Am
end

section
namespace Go.Am
open Go.ChangeShapes Go.WideShapes Go.ChangeAt Go.RowKit
def s0:AS:={ lay:=[],cur:=.E,nl:=0,st:=1 }
theorem fV.below {B:Nat} {γ γ':bS} {s s':AS} {w w':World} (h:fV B γ s w γ' s' w') (b:∀ l o,s.h l=some o->o.ro=true):Below w.heap.size w w' :=
 ⟨h.env.1,h.env.2.1,h.env.2.2,h.eU,fun k c=>h.Vf k c fun l o i d h2 _=>by rw [b l o d] at h2;cases h2⟩
theorem R2 {H:Type} {enc:TypeId×Value->H} {P:Program} {f:Func} {s:ChangeSpec} {fresh:Bool} {W W':World} {args:Array Value} {ds:List (DataW H)} {before pa:List MemPlace} {rt:TypeId}
  (j:DataW.Whole enc P f.params.toList s.vars false W args.toList ds [] before) (hv:s.vars=[]) (hb:Below W.heap.size W W') (d:f.resultTypes=#[rt]) (e:P.underlying rt=some .bool)
  (c:(s.fn H (ds++[]))={ results:=[.lit (.bool true)],args:=ds }) (i:DataW.TrodAll enc P W' 0 (fun b=>decide (b<W.heap.size)) true f.params.toList args.toList ds pa) :
  s.post enc P f false fresh false false W args (.bool true) W':=by
 refine ⟨ds,[],before,[],pa,[],j,?_,?_,?_,hb.frame _,fun h=>by cases h⟩
 ·rw [c,d];exact trodAll_mk1 (shut_bool e true)
 ·rw [c];exact i
 ·rw [c,hv];rfl
end Go.Am
end

section
namespace Go.Am
/-! ### heaps -/
theorem aG.none {s:AS} (h:aG s):s.h s.nl=none:=by simpa using h.2 0
def bz (L:List Nat) (s s':AS):Prop:=(∀ x o,x ∉ L->s.h x=some o->s'.h x=some o)/\s.nl<=s'.nl
theorem bz.refl (L:List Nat) (s:AS):bz L s s:=⟨fun _ _ _ h=>h,Nat.le_refl _⟩
theorem bz.trans {L:List Nat} {a b c:AS} (h:bz L a b) (d:bz L b c):bz L a c:=⟨fun x o i e=>d.1 x o i (h.1 x o i e),Nat.le_trans h.2 d.2⟩
theorem Ext.mut {L:List Nat} {s s':AS} (h:Ext s s'):bz L s s':=⟨fun x o _ e=>h.1 x o e,h.2⟩
theorem bz.ext {s s':AS} (h:bz [] s s'):Ext s s':=⟨fun x o e=>h.1 x o (by simp) e,h.2⟩
theorem bz.mono {L b:List Nat} {s s':AS} (h:bz L s s') (c:∀ x∈L,x∈b):bz b s s':=⟨fun x o d e=>h.1 x o (fun m=>d (c x m)) e,h.2⟩
def At (s:AS) (l:Nat) (cs:List AV):Prop:=∃ g ro,s.h l=some (.cells cs g ro)
def Own (s:AS) (l:Nat) (cs:List AV):Prop:=s.h l=some (.cells cs 0 false)
theorem Own.at {s:AS} {l:Nat} {cs:List AV} (h:Own s l cs):At s l cs:=⟨_,_,h⟩
theorem At.ext {s s':AS} {l:Nat} {cs:List AV} (h:At s l cs) (e:Ext s s'):At s' l cs:=by obtain ⟨g,ro,h⟩:=h;exact ⟨g,ro,e.1 _ _ h⟩
theorem At.mut {s s':AS} {L:List Nat} {l:Nat} {cs:List AV} (h:At s l cs) (e:bz L s s') (b:l ∉ L):At s' l cs:=by obtain ⟨g,ro,h⟩:=h;exact ⟨g,ro,e.1 _ _ b h⟩
theorem Own.ext {s s':AS} {l:Nat} {cs:List AV} (h:Own s l cs) (e:Ext s s'):Own s' l cs:=e.1 _ _ h
theorem Own.mut {s s':AS} {L:List Nat} {l:Nat} {cs:List AV} (h:Own s l cs) (e:bz L s s') (b:l ∉ L):Own s' l cs:=e.1 _ _ b h
theorem At.au {s:AS} {l:Nat} {cs:List AV} (h:At s l cs) (o:Nat):au s l o=cs[o]? := by obtain ⟨g,ro,h⟩:=h;exact VH h
theorem At.aC {s:AS} {l:Nat} {cs:List AV} (h:At s l cs) {o n:Nat} (b:o+n<=cs.length):aC s l o n=some ((cs.drop o).take n):=by obtain ⟨g,ro,h⟩:=h;exact uB h b
theorem At.inj {s:AS} {l:Nat} {cs cs':List AV} (h:At s l cs) (b:At s l cs'):cs=cs':=by
 obtain ⟨g,ro,h⟩:=h;obtain ⟨d,c,b⟩:=b;rw [h] at b;simp only [Option.some.injEq,AO.cells.injEq] at b;exact b.1
structure qd (s s':AS) (l:Nat) (o:AO):Prop where
 «at»:s'.h l=some o
 ext:Ext s s'
 wf:aG s'
 no:s.h l=none
 eq:∀ x,x≠l->s'.h x=s.h x
 nl:s.nl<=l/\l<s'.nl
 st:s'.st=s.st
theorem qd.ne {s s':AS} {l:Nat} {o:AO} (h:qd s s' l o) {x:Nat} {o':AO} (b:s.h x=some o'):x≠l:=by
 intro e;subst e;rw [h.no] at b;cases b
theorem qd.own {s s':AS} {l:Nat} {cs:List AV} (h:qd s s' l (.cells cs 0 false)):Own s' l cs:=h.at
theorem aG.new {s:AS} (h:aG s) {o:AO} (c:o.live=true):qd s (s.new o) s.nl o:=by
 have d:=h.1;refine ⟨by rw [AS.oW _ c,if_pos rfl],⟨fun x p b=>?_,by rw [AS.um];omega⟩,⟨d,fun k=>?_⟩,h.none,fun x b=>by rw [AS.oW _ c,if_neg b],⟨Nat.le_refl _,by rw [AS.um];omega⟩,rfl⟩
 ·rw [AS.oW _ c,if_neg]
  ·exact b
  ·intro e;subst e;rw [h.none] at b;cases b
 ·rw [AS.um,AS.Nt,AS.oW _ c];have e1:s.nl+s.st+k*s.st=s.nl+(k+1)*s.st:=by rw [Nat.add_mul,Nat.one_mul];omega
  rw [if_neg (by omega),e1];exact h.2 (k+1)
theorem aj.intro {o:AO} {s:AS} {K:Nat->AS->Prop} (b:aG s) (c:o.live=true) (h:∀ l s',qd s s' l o->K l s'):aj o s K:=h _ _ (b.new c)
structure Vm (s s':AS) (l:Nat) (o:AO):Prop where
 «at»:s'.h l=some o
 wf:aG s'
 eq:∀ x,x≠l->s'.h x=s.h x
 nl:s'.nl=s.nl
 st:s'.st=s.st
theorem Vm.mut {s s':AS} {l:Nat} {o:AO} (h:Vm s s' l o):bz [l] s s':=⟨fun x p b c=>by rw [h.eq x (by simpa using b)];exact c,by rw [h.nl];exact Nat.le_refl _⟩
theorem aG.put {s:AS} (h:aG s) {l:Nat} {o o':AO} (c:s.h l=some o') (b:o.live=true):Vm s (s.put l o) l o:=by
 refine ⟨by rw [AS.oV _ _ b,if_pos rfl],⟨h.1,fun k=>?_⟩,fun x d=>by rw [AS.oV _ _ b,if_neg d],rfl,rfl⟩;rw [AS.B8,AS.Vz,AS.oV _ _ b,if_neg]
 ·exact h.2 k
 ·intro e;rw [<- e,h.2 k] at c;cases c
theorem bu.cU {s:AS} {l o g:Nat} {cs vs:List AV} {K:AS->Prop} (c:aG s) (b:s.h l=some (.cells cs g false)) (d:o+vs.length<=cs.length) (h:∀ s',Vm s s' l (.cells (qC cs o vs) g false)->K s'):bu (cU s l o vs) K:=by
 refine ⟨s.put l (.cells (qC cs o vs) g false),?_,h _ (c.put b rfl)⟩;simp only [Am.cU,b,if_pos d]
theorem bu.own {s:AS} {l o:Nat} {cs vs:List AV} {K:AS->Prop} (b:aG s) (c:Own s l cs) (d:o+vs.length<=cs.length) (h:∀ s',Vm s s' l (.cells (qC cs o vs) 0 false)->K s'):bu (Am.cU s l o vs) K:=bu.cU b c d h
/-! ### calls -/
def Ye (s s':AS):Prop:=(∃ k,s'.nl=s.nl+k*s.st)/\s'.st=s.st
section
variable {P:Program} {g:FuncId} {args:List AV} {s:AS} {R:AV->AS->Prop}
theorem aa.pre (h:aG s->aa P g args s R):aa P g args s R :=
 fun B γ ca w b h2=>h h2.Ns B γ ca w b h2
theorem aa.post (h:aa P g args s R):aa P g args s fun v s'=>R v s'/\aG s'/\Ye s s' :=
 fun B γ ca w i h2=>(h B γ ca w i h2).mono fun e w' ⟨γ',v,cv,s',a,b,c,d,e⟩=>⟨γ',v,cv,s',a,b,c,d,e,d.Ns,c.nl,c.st⟩
theorem aa.use {R':AV->AS->Prop} (h:aa P g args s R) (hr:∀ v s',R v s'->aG s'->R' v s'):aa P g args s R' :=
 h.post.mono fun v s' ⟨a,b,_⟩=>hr v s' a b
end
/-! ### words -/
theorem R3 {k:IntKind} {n:Int} {K:Int->Prop}:aU k (some (.int k n)) K↔K n:=⟨fun ⟨m,h,b⟩=>by simp only [Option.some.injEq,AV.int.injEq] at h;rw [h.2];exact b,fun h=>⟨n,rfl,h⟩⟩
theorem R4 {b:Bool} {K:Bool->Prop}:NM (some (.bool b)) K↔K b:=⟨fun ⟨m,h,c⟩=>by simp only [Option.some.injEq,AV.bool.injEq] at h;rw [h];exact c,fun h=>⟨b,rfl,h⟩⟩
theorem R5 {b:List UInt8} {K:List UInt8->Prop}:rG (some (.str b)) K↔K b:=⟨fun ⟨m,h,c⟩=>by simp only [Option.some.injEq,AV.str.injEq] at h;rw [h];exact c,fun h=>⟨b,rfl,h⟩⟩
theorem R6 {a:Option (Nat×Nat)} {K:Option (Nat×Nat)->Prop}:pL (some (.ptr a)) K↔K a:=⟨fun ⟨m,h,b⟩=>by simp only [Option.some.injEq,AV.ptr.injEq] at h;rw [h];exact b,fun h=>⟨a,rfl,h⟩⟩
theorem R7 {a:Option Nat} {K:Option Nat->Prop}:yD (some (.map a)) K↔K a:=⟨fun ⟨m,h,b⟩=>by simp only [Option.some.injEq,AV.map.injEq] at h;rw [h];exact b,fun h=>⟨a,rfl,h⟩⟩
theorem R8 {a:List AV} {K:List AV->Prop}:nQ (some (.agg a)) K↔K a:=⟨fun ⟨m,h,b⟩=>by simp only [Option.some.injEq,AV.agg.injEq] at h;rw [h];exact b,fun h=>⟨a,rfl,h⟩⟩
theorem R9 {a:AV} {K:AV->Prop}:dI (some a) K↔K a:=⟨fun ⟨m,h,b⟩=>by simp only [Option.some.injEq] at h;rw [h];exact b,fun h=>⟨a,rfl,h⟩⟩
theorem R_ {a:List AV} {K:List AV->Prop}:aR (some a) K↔K a:=⟨fun ⟨m,h,b⟩=>by simp only [Option.some.injEq] at h;rw [h];exact b,fun h=>⟨a,rfl,h⟩⟩
theorem Sa {a:Bool} {K:Bool->Prop}:uC (some a) K↔K a:=⟨fun ⟨m,h,b⟩=>by simp only [Option.some.injEq] at h;rw [h];exact b,fun h=>⟨a,rfl,h⟩⟩
theorem Sb {a:AS} {K:AS->Prop}:bu (some a) K↔K a:=⟨fun ⟨m,h,b⟩=>by simp only [Option.some.injEq] at h;rw [h];exact b,fun h=>⟨a,rfl,h⟩⟩
theorem Sc {a:AV} {s:AS} {K:AV->AS->Prop}:iT (some (a,s)) K↔K a s:=⟨fun ⟨m,t,h,b⟩=>by simp only [Option.some.injEq,Prod.mk.injEq] at h;rw [h.1,h.2];exact b,fun h=>⟨a,s,rfl,h⟩⟩
theorem Sd {l i:Nat} {K:Nat->Nat->Prop}:bJ (some (.ptr (some (l,i)))) K↔K l i:=⟨fun ⟨m,t,h,b⟩=>by simp only [Option.some.injEq,AV.ptr.injEq,Prod.mk.injEq] at h;rw [h.1,h.2];exact b,fun h=>⟨l,i,rfl,h⟩⟩
theorem Lz {l i:Nat} {K:Nat->Nat->Prop}:ai (some (l,i)) K↔K l i:=Iff.rfl
theorem LA {X Y:Prop}:af true X Y↔X:=Iff.rfl
theorem JD {X Y:Prop}:af false X Y↔Y:=Iff.rfl
theorem gB {b:Bool} {X Y:Prop}:af b X Y↔(b=true->X)/\(b=false->Y):=by cases b <;> simp [af]
theorem af.mk {b:Bool} {X Y:Prop} (c:b=true->X) (h2:b=false->Y):af b X Y:=gB.2 ⟨c,h2⟩
theorem af.dec {p:Prop} [Decidable p] {X Y:Prop} (b:p->X) (h2:¬ p->Y):af (decide p) X Y:=gB.2 ⟨fun h=>b (by simpa using h),fun h=>h2 (by simpa using h)⟩
theorem af.yes {b:Bool} {X Y:Prop} (hb:b=true) (h:X):af b X Y:=by subst hb;exact h
theorem af.no {b:Bool} {X Y:Prop} (hb:b=false) (h:Y):af b X Y:=by subst hb;exact h
@[congr] theorem aU.congr {k:IntKind} {o o':Option AV} {K:Int->Prop} (h:o=o'):aU k o K=aU k o' K:=by rw [h]
@[congr] theorem NM.congr {o o':Option AV} {K:Bool->Prop} (h:o=o'):NM o K=NM o' K:=by rw [h]
@[congr] theorem rG.congr {o o':Option AV} {K:List UInt8->Prop} (h:o=o'):rG o K=rG o' K:=by rw [h]
@[congr] theorem pL.congr {o o':Option AV} {K:Option (Nat×Nat)->Prop} (h:o=o'):pL o K=pL o' K:=by rw [h]
@[congr] theorem yD.congr {o o':Option AV} {K:Option Nat->Prop} (h:o=o'):yD o K=yD o' K:=by rw [h]
@[congr] theorem nQ.congr {o o':Option AV} {K:List AV->Prop} (h:o=o'):nQ o K=nQ o' K:=by rw [h]
@[congr] theorem dI.congr {o o':Option AV} {K:AV->Prop} (h:o=o'):dI o K=dI o' K:=by rw [h]
@[congr] theorem aR.congr {o o':Option (List AV)} {K:List AV->Prop} (h:o=o'):aR o K=aR o' K:=by rw [h]
@[congr] theorem uC.congr {o o':Option Bool} {K:Bool->Prop} (h:o=o'):uC o K=uC o' K:=by rw [h]
@[congr] theorem bu.congr {o o':Option AS} {K:AS->Prop} (h:o=o'):bu o K=bu o' K:=by rw [h]
@[congr] theorem iT.congr {o o':Option (AV×AS)} {K:AV->AS->Prop} (h:o=o'):iT o K=iT o' K:=by rw [h]
@[congr] theorem bJ.congr {o o':Option AV} {K:Nat->Nat->Prop} (h:o=o'):bJ o K=bJ o' K:=by rw [h]
@[congr] theorem ai.congr {o o':Option (Nat×Nat)} {K:Nat->Nat->Prop} (h:o=o'):ai o K=ai o' K:=by rw [h]
@[congr] theorem af.congr {b c:Bool} {X Y:Prop} (h:b=c):af b X Y=af c X Y:=by rw [h]
@[congr] theorem cH.congr {l l':List AV} {X:Prop} (h:l=l'):cH l X=cH l' X:=by rw [h]
@[congr] theorem fC.congr {n:Option Nat} {l l':List AV} {X:Prop} (h:l=l'):fC n l X=fC n l' X:=by rw [h]
@[congr] theorem aj.congr {o o':AO} {s:AS} {K:Nat->AS->Prop} (h:o=o'):aj o s K=aj o' s K:=by rw [h]
@[congr] theorem aa.congr {P:Program} {g:FuncId} {a a':List AV} {s:AS} {R:AV->AS->Prop} (h:a=a'):aa P g a s R=aa P g a' s R:=by rw [h]
@[congr] theorem bG.congr {A:(List AV->AS->Prop)->Prop}:bG A=bG A:=rfl
@[congr] theorem bA.congr {A:(Nat->List AV->AS->Prop)->Nat->Prop}:bA A=bA A:=rfl
@[congr] theorem gL.congr {A:(Nat->List AV->AV->AS->Prop)->(Nat->List AV->AV->Prop)->Prop}:gL A=gL A:=rfl
@[congr] theorem rS.congr {s:AS} {A:(AS->AS->Prop)->(Nat->List AV->AV->AS->Prop)->(AS->Prop)->(Nat->List AV->AV->AS->Prop)->(Nat->List AV->AV->Prop)->Prop}:rS s A=rS s A:=rfl
@[congr] theorem Pr.congr {n:Nat} {X:Prop}:Pr n X=Pr n X:=rfl
@[congr] theorem NZ.congr {n n':Int} {X:Prop} (h:n=n'):NZ n X=NZ n' X:=by rw [h]
@[congr] theorem NN.congr {n n':Int} {X:Prop} (h:n=n'):NN n X=NN n' X:=by rw [h]
attribute [go_sem] R3 R4 R5 R6 R7 R8 R9 R_ Sa Sb Sc Sd Lz LA JD
end Go.Am
end

section
namespace Go.Am
def ct (s:AS) (v:AV) (sz:Nat) (cs:List AV) (n:Nat):Prop :=
 (v=.emp/\n=0/\cs=[])\/∃ a c e,v=.slc a n c e/\(cs.length=n*sz/\n<=c)/\(n=0\/∃ la o C,a=some (la,o)/\At s la C/\(C.drop o).take (n*sz)=cs)
theorem ct.ext {s s':AS} {v:AV} {sz n:Nat} {cs:List AV} (h:ct s v sz cs n) (e:Ext s s'):ct s' v sz cs n:=by
 rcases h with h | ⟨a,c,b,d,h2,h3⟩
 ·exact .inl h
 ·refine .inr ⟨a,c,b,d,h2,?_⟩;rcases h3 with h3 | ⟨la,o,C,i,j,k⟩
  ·exact .inl h3
  ·exact .inr ⟨la,o,C,i,j.ext e,k⟩
theorem ct.mut {s s':AS} {v:AV} {sz n:Nat} {cs:List AV} {L:List Nat} (h:ct s v sz cs n) (e:bz L s s')
  (b:n≠0->∀ l∈L,∀ C o,At s l C->(C.drop o).take (n*sz)=cs->False):ct s' v sz cs n:=by
 rcases h with h | ⟨a,c,k,m,h2,h3⟩
 ·exact .inl h
 ·refine .inr ⟨a,c,k,m,h2,?_⟩;rcases h3 with h3 | ⟨la,o,C,p,d,i⟩
  ·exact .inl h3
  ·by_cases j:n=0
   ·exact .inl j
   ·exact .inr ⟨la,o,C,p,d.mut e fun hm=>b j la hm C o d i,i⟩
section
variable {T:TT} {t el:TypeId} {sz:Nat} (hu:T.cR t=some (.slice el)) (hs:T.eU el=some sz)
include hu
theorem ct.cJ {s s':AS} {v:AV} {n sz:Nat} {cs:List AV} (h:ct s v sz cs n):aQ T t v s'=some (.int .i64 (n:Nat)):=by
 rcases h with ⟨rfl,rfl,rfl⟩ | ⟨a,c,e,rfl,_⟩
 ·simp [aQ,hu]
 ·simp [aQ,hu]
include hs
theorem ct.ix (r:0<sz) {s:AS} {v:AV} {n:Nat} {cs:List AV} (h:ct s v sz cs n) {i:Nat} (hi:i<n):∃ la o,(∀ k,ag T t v (.int k (i:Nat))=some (.ptr (some (la,o)))) /\
  ∀ s',Ext s s'->(∀ j,j<sz->au s' la (o+j)=cs[i*sz+j]?)/\aC s' la o sz=some ((cs.drop (i*sz)).take sz):=by
 rcases h with ⟨_,rfl,_⟩ | ⟨a,c,e,rfl,d,h3⟩
 ·omega
 ·obtain ⟨d,p⟩:=d;rcases h3 with h3 | ⟨la,o,C,rfl,l,b⟩
  ·omega
  ·have hlen:=congrArg List.length b;rw [List.length_take,List.length_drop,d] at hlen;have hmul:i*sz+sz<=n*sz:=by rw [<- Nat.succ_mul];exact Nat.mul_le_mul_right _ hi
   refine ⟨la,o+i*sz,fun k=>?_,fun s' m=>⟨fun j hj=>?_,?_⟩⟩
   ·have:(0:Int)<=(i:Int)/\(i:Int)<(n:Int):=by omega
    simp only [ag,hu,hs,Option.bind_some];rw [if_pos this];simp
   ·rw [(l.ext m).au,<- b,List.getElem?_take,if_pos (by omega),List.getElem?_drop];congr 1;omega
   ·rw [(l.ext m).aC (by omega),<- b];congr 1;apply List.ext_getElem?;intro k;simp only [List.getElem?_take,List.getElem?_drop];split
    ·rw [if_pos (by omega)];congr 1;omega
    ·rfl
end
section
variable {T:TT} {t el:TypeId} {sz:Nat} (hu:T.cR t=some (.slice el)) (hs:T.eU el=some sz)
include hu hs
theorem ct.from {s:AS} {v:AV} {n:Nat} {cs:List AV} (h:ct s v sz cs n) (hv:v≠.emp) {i:Nat} (hi:i<=n) (k:IntKind):∃ v',bg T t v (some (.int k (i:Nat))) none none=some v'/\ct s v' sz (cs.drop (i*sz)) (n - i):=by
 rcases h with ⟨rfl,_⟩ | ⟨a,c,e,rfl,⟨w,d⟩,h3⟩
 ·exact absurd rfl hv
 ·have j:cV n c (some (.int k (i:Nat))) none none=some (i,n,c):=by
   have:(0:Int)<=(i:Int)/\(i:Int)<=((n:Nat):Int):=by omega
   simp only [cV,sZ,qc,gP,Option.isNone_none,Option.isSome_none,Bool.false_eq_true,and_false,if_false,Option.bind_some,d,if_true,this,and_self,Option.map_some,Int.toNat_natCast]
  have hlen:(cs.drop (i*sz)).length=(n - i)*sz:=by rw [List.length_drop,w,Nat.mul_sub_right_distrib]
  have x:n - i=0->cs.drop (i*sz)=[]:=fun h=>List.length_eq_zero_iff.1 (by rw [hlen,h,Nat.zero_mul]);simp only [bg,hu,hs,Option.bind_some,j];rcases a with _ | ⟨b,o⟩
  ·refine ⟨_,rfl,.inr ⟨_,_,_,rfl,⟨hlen,by omega⟩,.inl ?_⟩⟩;rcases h3 with h3 | ⟨la,o,C,h,_⟩
   ·omega
   ·cases h
  ·have key:∀ o' p,(n - i=0\/o'=o+i*sz)->ct s (.slc (some (b,o')) (n - i) (c - i) p) sz (cs.drop (i*sz)) (n - i):=by
    intro o' p l;refine .inr ⟨_,_,_,rfl,⟨hlen,by omega⟩,?_⟩;by_cases r:n - i=0
    ·exact .inl r
    ·rcases l with l | rfl
     ·exact absurd l r
     ·rcases h3 with h3 | ⟨la,o2,C,h,y,m⟩
      ·omega
      ·simp only [Option.some.injEq,Prod.mk.injEq] at h;obtain ⟨rfl,rfl⟩:=h;refine .inr ⟨b,_,C,rfl,y,?_⟩;rw [<- m,List.drop_take,List.drop_drop,Nat.mul_sub_right_distrib]
   by_cases hm:c=i
   ·cases e
    ·refine ⟨.emp,by simp [hm],.inl ⟨rfl,by omega,x (by omega)⟩⟩
    ·refine ⟨.slc (some (b,o)) (n - i) (c - i) true,by simp [hm],key _ _ (.inl (by omega))⟩
   ·cases e
    ·refine ⟨.slc (some (b,o+i*sz)) (n - i) (c - i) false,by simp [hm],key _ _ (.inr rfl)⟩
    ·refine ⟨.slc (some (b,o+i*sz)) (n - i) (c - i) true,by simp [hm],key _ _ (.inr rfl)⟩
end
theorem ct.nil {s:AS} {sz c:Nat} {e:Bool} {a:Option (Nat×Nat)}:ct s (.slc a 0 c e) sz [] 0:=.inr ⟨a,c,e,rfl,⟨by simp,Nat.zero_le _⟩,.inl rfl⟩
theorem ct.mk {s:AS} {la o n c sz:Nat} {e:Bool} {C cs:List AV} (b:At s la C) (d:cs.length=n*sz) (h:(C.drop o).take (n*sz)=cs) (i:n<=c:=by first | omega | simp):ct s (.slc (some (la,o)) n c e) sz cs n :=
 .inr ⟨_,c,e,rfl,⟨d,i⟩,.inr ⟨la,o,C,rfl,b,h⟩⟩
theorem ek {α:Type} {f:α->List AV} {sz:Nat} (hf:∀ x,(f x).length=sz) (l:List α):(l.flatMap f).length=l.length*sz:=by
 induction l with
 | nil=>simp
 | cons x xs b=>simp [b,hf,Nat.add_mul];omega
theorem qH {α:Type} {f:α->List AV} {sz:Nat} (hf:∀ x,(f x).length=sz):∀ (l:List α) (i:Nat),(l.flatMap f).drop (i*sz)=(l.drop i).flatMap f
 | l,0=>by simp
 | [],i+1=>by simp
 | x::xs,i+1=>by
  rw [List.flatMap_cons,List.drop_succ_cons,<- qH hf xs i,Nat.add_mul,Nat.one_mul,Nat.add_comm,<- List.drop_drop];congr 1;rw [List.drop_append_of_le_length (by rw [hf];exact Nat.le_refl _),List.drop_eq_nil_of_le (by rw [hf];exact Nat.le_refl _),List.nil_append]
theorem tH {α:Type} {f:α->List AV} {sz:Nat} (hf:∀ x,(f x).length=sz):∀ (l:List α) (i:Nat),(l.flatMap f).take (i*sz)=(l.take i).flatMap f
 | l,0=>by simp
 | [],i+1=>by simp
 | x::xs,i+1=>by
  rw [List.flatMap_cons,List.take_succ_cons,List.flatMap_cons,<- tH hf xs i,Nat.add_mul,Nat.one_mul,Nat.add_comm,List.take_append];rw [hf,List.take_of_length_le (by rw [hf];omega),Nat.add_sub_cancel_left]
theorem Ce {α:Type} {f:α->List AV} {sz:Nat} (hf:∀ x,(f x).length=sz) {l:List α} {i:Nat} {x:α} (h:l[i]? = some x):((l.flatMap f).drop (i*sz)).take sz=f x:=by
 rw [qH hf];have hi:i<l.length:=by
  rcases Nat.lt_or_ge i l.length with b | b
  ·exact b
  ·rw [List.getElem?_eq_none b] at h;cases h
 rw [List.drop_eq_getElem_cons hi,List.flatMap_cons,List.take_append_of_le_length (by rw [hf];exact Nat.le_refl _),List.take_of_length_le (by rw [hf];exact Nat.le_refl _)];rw [List.getElem?_eq_getElem hi] at h;rw [Option.some.inj h]
theorem Se {α:Type} {f:α->List AV} {sz:Nat} (hf:∀ x,(f x).length=sz) {l:List α} {i j:Nat} {x:α} (h:l[i]? = some x) (hj:j<sz):(l.flatMap f)[i*sz+j]? = (f x)[j]? := by
 have:=congrArg (fun c:List AV=>c[j]?) (Ce hf h);simp only [List.getElem?_take,List.getElem?_drop,if_pos hj] at this;exact this
def Sl {α:Type} (f:α->List AV) (sz:Nat) (s:AS) (v:AV) (l:List α):Prop:=ct s v sz (l.flatMap f) l.length
section
variable {α:Type} {f:α->List AV} {sz:Nat} {s s':AS} {v:AV} {l:List α}
theorem Sl.ext (h:Sl f sz s v l) (e:Ext s s'):Sl f sz s' v l:=ct.ext h e
theorem Sl.nil {c:Nat} {e:Bool} {a:Option (Nat×Nat)}:Sl f sz s (.slc a 0 c e) []:=ct.nil
theorem Sl.cJ {T:TT} {t el:TypeId} (hu:T.cR t=some (.slice el)) (h:Sl f sz s v l) (s':AS):aQ T t v s'=some (.int .i64 (l.length:Nat)):=ct.cJ hu h
theorem Sl.ix (e:0<sz) {T:TT} {t el:TypeId} (hf:∀ x,(f x).length=sz) (hu:T.cR t=some (.slice el)) (hs:T.eU el=some sz) (h:Sl f sz s v l) {i:Nat} {x:α} (hi:l[i]? = some x):∃ la o,(∀ k,ag T t v (.int k (i:Nat))=some (.ptr (some (la,o)))) /\
  ∀ s',Ext s s'->(∀ j,j<sz->au s' la (o+j)=(f x)[j]?)/\aC s' la o sz=some (f x):=by
 have b:i<l.length:=by
  rcases Nat.lt_or_ge i l.length with c | c
  ·exact c
  ·rw [List.getElem?_eq_none c] at hi;cases hi
 obtain ⟨la,o,m,h2⟩:=ct.ix hu hs e h b;refine ⟨la,o,m,fun s' d=>⟨fun j hj=>?_,?_⟩⟩
 ·rw [(h2 s' d).1 j hj,Se hf hi hj]
 ·rw [(h2 s' d).2,Ce hf hi]
theorem Sl.from {T:TT} {t el:TypeId} (hf:∀ x,(f x).length=sz) (hu:T.cR t=some (.slice el)) (hs:T.eU el=some sz) (h:Sl f sz s v l) (hv:v≠.emp) {i:Nat} (hi:i<=l.length) (k:IntKind):∃ v',bg T t v (some (.int k (i:Nat))) none none=some v'/\Sl f sz s v' (l.drop i):=by
 obtain ⟨v',b,h2⟩:=ct.from hu hs h hv hi k
 exact ⟨v',b,by rw [qH hf] at h2;simpa [Sl] using h2⟩
theorem Sl.mut {L:List Nat} (h:Sl f sz s v l) (e:bz L s s') (hf:∀ x,(f x).length=sz) (j:0<sz) (b:∀ p∈L,∀ C,At s p C->∀ x∈l,∀ (i:Nat) c,(f x)[0]? = some c->C[i]? ≠ some c):Sl f sz s' v l:=by
 refine ct.mut h e fun m p n C o r d=>?_;cases l with
 | nil=>simp at m
 | cons x xs =>
  have k:(f x)[0]? = some ((f x)[0]'(by rw [hf];exact j)):=List.getElem?_eq_getElem _;refine b p n C r x (by simp) o _ k ?_;have:=congrArg (fun c:List AV=>c[0]?) d;simp only [List.getElem?_take,List.getElem?_drop,List.flatMap_cons,Nat.add_zero] at this;rw [if_pos (by simp;omega),List.getElem?_append_left (by rw [hf];exact j)] at this;rw [this,k]
end
end Go.Am
end

section
namespace Go.Am
theorem dD {cs vs:List AV} (h:vs.length=cs.length):qC cs 0 vs=vs:=by
 apply List.ext_getElem?;intro k;rw [jW _ _ _ _ (by omega)];by_cases b:k<vs.length
 ·rw [if_pos (by omega),Nat.sub_zero]
 ·rw [if_neg (by omega),List.getElem?_eq_none (by omega),List.getElem?_eq_none (by omega)]
structure Cf (T:TT) (t el:TypeId) (sz qD:Nat):Prop where
 u:T.cR t=some (.slice el)
 z:T.eU el=some sz
 b:T.He el=some qD
 zr:∃ z zc,T.rP el=some z/\bO z=some zc/\zc.length=sz
 pos:0<sz
 small:sz<=1024/\qD<=65536
def ax:AV->List Nat
 | .slc (some (la,_)) _ _ false=>[la]
 | _=>[]
def bq {α:Type} (f:α->List AV) (sz:Nat) (s:AS) (v:AV) (l:List α):Prop :=
 (l=[]/\∃ a,v=.slc a 0 0 true)\/∃ la,v=.slc (some (la,0)) l.length l.length false/\s.h la=some (.cells (l.flatMap f) sz false)
theorem bq.nil {α:Type} {f:α->List AV} {sz:Nat} {s:AS} {a:Option (Nat×Nat)}:bq f sz s (.slc a 0 0 true) ([]:List α):=.inl ⟨rfl,a,rfl⟩
theorem bq.mut {α:Type} {f:α->List AV} {sz:Nat} {s s':AS} {v:AV} {l:List α} {L:List Nat} (h:bq f sz s v l) (e:bz L s s') (b:∀ x∈ax v,x ∉ L):bq f sz s' v l:=by
 rcases h with h | ⟨la,rfl,h⟩
 ·exact .inl h
 ·exact .inr ⟨la,rfl,e.1 _ _ (b la (by simp [ax])) h⟩
theorem bq.ext {α:Type} {f:α->List AV} {sz:Nat} {s s':AS} {v:AV} {l:List α} (h:bq f sz s v l) (e:Ext s s'):bq f sz s' v l:=h.mut (L:=[]) e.mut (by simp)
theorem bq.sl {α:Type} {f:α->List AV} {sz:Nat} (hf:∀ x,(f x).length=sz) {s:AS} {v:AV} {l:List α} (h:bq f sz s v l):Sl f sz s v l:=by
 rcases h with ⟨rfl,a,rfl⟩ | ⟨la,rfl,h⟩
 ·exact Sl.nil
 ·exact ct.mk ⟨_,_,h⟩ (ek hf l) (by rw [List.drop_zero,List.take_of_length_le (by rw [ek hf];exact Nat.le_refl _)])
section
variable {T:TT} {t el:TypeId} {sz qD:Nat} (ht:Cf T t el sz qD)
include ht
theorem kL {c:List AV} (e:c.length=sz) (j:c.all AV.one=true):dw T t 1 [(0,.agg c)]=some c:=by
 obtain ⟨z,zc,l,d,i⟩:=ht.zr;have m:=ht.pos;have hs:=ht.small;simp only [dw,ht.u,ht.z,l,d,Option.bind_some];rw [if_pos ⟨i,by omega⟩];have h2:bO (.agg c)=some c:=by simp [bO,AV.cells,j]
 have b:(rep 1 zc).length=sz:=by simp [rep,i]
 simp only [jt,h2,Nat.zero_mul,Nat.zero_add,e,b,true_and,Nat.le_refl,if_true];congr 1;apply List.ext_getElem?;intro k;rw [jW _ _ _ _ (by rw [b,e];omega)];by_cases n:k<sz
 ·rw [if_pos (by omega)];simp
 ·rw [if_neg (by omega),List.getElem?_eq_none (by omega),List.getElem?_eq_none (by omega)]
theorem LB {v:AV} (c:sz=1) (hv:v.one=true):dw T t 1 [(0,v)]=some [v]:=by
 obtain ⟨z,zc,j,d,e⟩:=ht.zr;simp only [dw,ht.u,ht.z,j,d,Option.bind_some];subst c;rw [if_pos ⟨e,by omega⟩];have h2:bO v=some [v]:=by cases v <;> first | rfl | cases hv
 have b:(rep 1 zc).length=1:=by simp [rep,e]
 simp only [jt,h2,Nat.zero_mul,Nat.zero_add,List.length_cons,List.length_nil,b,true_and,Nat.le_refl,if_true];congr 1
 match i:rep 1 zc with
 | []=>rw [i] at b;simp at b
 | [x]=>rfl
 | x::y::r=>rw [i] at b;simp at b
theorem Ay:dw T t 0 []=some []:=by
 obtain ⟨z,zc,c,b,d⟩:=ht.zr;simp only [dw,ht.u,ht.z,c,b,Option.bind_some];rw [if_pos ⟨d,by omega⟩];simp [jt,rep]
theorem ct.src {s:AS} {v:AV} {n:Nat} {cs:List AV} (h:ct s v sz cs n):nM sz n s v=some cs/\DB v=some n:=by
 rcases h with ⟨rfl,rfl,rfl⟩ | ⟨a,c,e,rfl,d,h3⟩
 ·exact ⟨rfl,rfl⟩
 ·obtain ⟨d,_⟩:=d;refine ⟨?_,rfl⟩;by_cases i:n=0
  ·subst i;obtain rfl:cs=[]:=List.length_eq_zero_iff.1 (by simpa using d);rcases a with _ | ⟨l,o⟩
   ·rfl
   ·simp [nM]
  ·rcases h3 with h3 | ⟨la,o,C,rfl,j,b⟩
   ·exact absurd h3 i
   ·have hlen:=congrArg List.length b;rw [List.length_take,List.length_drop,d] at hlen;have k:=ht.pos;have:0<n*sz:=Nat.mul_pos (by omega) k;simp only [nM,if_neg i];rw [j.aC (by omega),b]
theorem jX {base:Option (Nat×Nat)} {len cap n:Nat} {ex:Bool} {x:AV} {new:List AV} {s:AS} {xt:TypeId} (i:T.cR xt=some (.slice el)) (hlen:DB x=some n) (d:nM sz n s x=some new) (e:new.length=n*sz) (hb:len+n<=2 ^ 30) :
  aL T t xt (.slc base len cap ex) x s=if len+n<=cap then
    (match base with
     | none=>some (.slc none (len+n) cap ex,s)
     | some (l,o) =>
      if new=[] then some (.slc base (len+n) cap ex,s)
      else (cU s l (o+len*sz) new).map fun s'=>(.slc base (len+n) cap ex,s'))
   else
    (nM sz len s (.slc base len cap ex)).bind fun old =>
     if ex then some (.slc (some (s.nl,0)) (len+n) (len+n) false,s.new (.cells (old++new) sz false))
     else match base with
      | none=>none
      | some (l,o) =>
       match s.h l with
       | some (.cells cs g false) =>
        if g=sz/\sz≠0/\o+cap*sz=cs.length then
         some (.slc (some (s.nl,0)) (len+n) (len+n) false,(s.kill l).new (.cells (old++new) sz false))
        else none
       | _=>none:=by
 obtain ⟨z,zc,p,j,r⟩:=ht.zr;obtain ⟨w,k⟩:=ht.small;have c:(match TypeDesc.slice el with | .int _=>true | _=>false)=false:=rfl;have m:¬ (zc.length≠sz\/new.length≠n*sz\/2 ^ 40<len+n\/2*((len+n+256)*qD)>2 ^ 48):=by
  have:(len+n+256)*qD<=(2 ^ 30+256)*65536:=Nat.mul_le_mul (by omega) k;rw [r,e];omega
 simp only [aL,ht.u,i,c,Bool.false_eq_true,if_false,ht.z,ht.b,p,j,Option.bind_some,hlen,d];rw [if_neg m];rfl
theorem bq.append {α:Type} {f:α->List AV} (hf:∀ x,(f x).length=sz) (A:∀ x,(f x).all AV.one=true) {s:AS} (e:aG s) {v x:AV} {l xs:List α} (h:bq f sz s v l) (B:Sl f sz s x xs) (hb:l.length+xs.length<=2 ^ 30) {xt:TypeId} (m:T.cR xt=some (.slice el)) :
  ∃ v' s',aL T t xt v x s=some (v',s')/\bq f sz s' v' (l++xs)/\bz (ax v) s s'/\aG s'/\(∀ la∈ax v',la∈ax v\/s.h la=none):=by
 have G:=ht.pos;obtain ⟨c,hlen⟩:=ct.src ht B;have i:=ek hf xs;have w:=e.1;have z:xs.flatMap f=[]↔xs=[]:=by
  rw [<- List.length_eq_zero_iff,i,<- List.length_eq_zero_iff];constructor
  ·intro h;rcases Nat.mul_eq_zero.1 h with h | h <;> omega
  ·intro h;rw [h,Nat.zero_mul]
 rcases h with ⟨rfl,a,rfl⟩ | ⟨la,rfl,j⟩
 ·rw [jX ht m hlen c i (by simpa using hb)];by_cases n:xs=[]
  ·subst n;refine ⟨.slc a 0 0 true,s,?_,by simpa using bq.nil,bz.refl _ _,e,fun la h=>.inl h⟩;rw [if_pos (by simp)];rcases a with _ | ⟨l,o⟩ <;> simp
  ·have p:0<xs.length:=List.length_pos_iff.2 n;have d:=e.new (o:=.cells (xs.flatMap f) sz false) rfl;refine ⟨.slc (some (s.nl,0)) xs.length xs.length false,s.new (.cells (xs.flatMap f) sz false),?_,.inr ⟨s.nl,by simp,by simpa using d.at⟩,d.ext.mut,d.wf,fun la h=>?_⟩
   ·rw [if_neg (by omega)];have:nM sz 0 s (.slc a 0 0 true)=some []:=by rcases a with _ | ⟨l,o⟩ <;> rfl
    rw [this];simp
   ·simp only [ax,List.mem_singleton] at h;subst h;exact .inr e.none
 ·have b:=ek hf l;have hold:nM sz l.length s (.slc (some (la,0)) l.length l.length false)=some (l.flatMap f):=by
   by_cases r:l.length=0
   ·rw [List.length_eq_zero_iff.1 r];simp [nM]
   ·simp only [nM,if_neg r];rw [uB j (by rw [b];omega),List.drop_zero,List.take_of_length_le (by rw [b];exact Nat.le_refl _)]
  rw [jX ht m hlen c i hb];by_cases n:xs=[]
  ·subst n;refine ⟨.slc (some (la,0)) l.length l.length false,s,?_,by rw [List.append_nil];exact Or.inr ⟨la,rfl,j⟩,bz.refl _ _,e,fun la h=>.inl h⟩;rw [if_pos (by simp)];simp
  ·have p:0<xs.length:=List.length_pos_iff.2 n;have C:aG (s.kill la):=by
    refine ⟨w,fun k=>?_⟩;rw [AS.sq,AS.oL,AS.EB];split
    ·rfl
    ·exact e.2 k
   have d:=C.new (o:=.cells (l.flatMap f++xs.flatMap f) sz false) rfl;refine ⟨.slc (some (s.nl,0)) (l.length+xs.length) (l.length+xs.length) false,(s.kill la).new (.cells (l.flatMap f++xs.flatMap f) sz false),?_,.inr ⟨s.nl,by simp,by rw [List.flatMap_append];exact d.at⟩,⟨fun y o D F=>d.ext.1 y o ?_,d.ext.2⟩,d.wf,fun la h=>?_⟩
   ·rw [if_neg (by omega),hold];simp only [Option.bind_some,j,Nat.zero_add,b,Bool.false_eq_true,if_false];rw [if_pos ⟨trivial,by omega,trivial⟩]
   ·rw [AS.sq,if_neg (by simpa [ax] using D)];exact F
   ·simp only [ax,List.mem_singleton] at h;subst h;exact .inr e.none
end
structure aV {α:Type} (f:α->List AV) (sz:Nat) (M:List Nat) (s0 s:AS) (v:AV) (l:List α):Prop where
 tI:bq f sz s v l
 eC:bz M s0 s
 new:∀ la∈ax v,s0.h la=none
theorem aV.nil {α:Type} {f:α->List AV} {sz:Nat} {M:List Nat} {s:AS} {a:Option (Nat×Nat)}:aV f sz M s s (.slc a 0 0 true) ([]:List α):=⟨bq.nil,bz.refl _ _,by simp [ax]⟩
theorem aV.start {α:Type} {f:α->List AV} {sz:Nat} {M:List Nat} {s0 s:AS} {a:Option (Nat×Nat)} (h:bz M s0 s):aV f sz M s0 s (.slc a 0 0 true) ([]:List α):=⟨bq.nil,h,by simp [ax]⟩
theorem Ext.none {s s':AS} (h:Ext s s') {l:Nat} (b:s'.h l=none):s.h l=none:=by
 cases c:s.h l with
 | none=>rfl
 | some o=>rw [h.1 l o c] at b;cases b
theorem bz.fresh {M:List Nat} {s s':AS} (h:bz M s s') (c:∀ x∈M,s'.h x≠none) {l:Nat} (b:s'.h l=none):s.h l=none:=by
 cases d:s.h l with
 | none=>rfl
 | some o =>
  by_cases hm:l∈M
  ·exact absurd b (c l hm)
  ·rw [h.1 l o hm d] at b;cases b
section
variable {α:Type} {f:α->List AV} {sz:Nat} {M:List Nat} {s0 s s':AS} {v:AV} {l:List α}
theorem aV.step (h:aV f sz M s0 s v l) (e:Ext s s'):aV f sz M s0 s' v l:=⟨h.tI.ext e,h.eC.trans e.mut,h.new⟩
theorem aV.wr (h:aV f sz M s0 s v l) (b:∀ x∈M,s0.h x≠none) (e:bz M s s'):aV f sz M s0 s' v l :=
 ⟨h.tI.mut e fun x c hm=>b x hm (h.new x c),h.eC.trans e,h.new⟩
theorem aV.jh (h:aV f sz M s0 s v l):v≠.emp/\v.one=true:=by
 rcases h.tI with ⟨_,a,rfl⟩ | ⟨la,rfl,_⟩ <;> exact ⟨(fun e=>by cases e),rfl⟩
theorem aV.sl (hf:∀ x,(f x).length=sz) (h:aV f sz M s0 s v l):Sl f sz s v l:=h.tI.sl hf
end
section
variable {T:TT} {t el:TypeId} {sz qD:Nat} (ht:Cf T t el sz qD)
include ht
theorem aV.k_ {α:Type} {f:α->List AV} (hf:∀ x,(f x).length=sz) (b:∀ x,(f x).all AV.one=true) {M:List Nat} {s0 s:AS} (k:aG s) {v x:AV} {l xs:List α} (h:aV f sz M s0 s v l) (m:∀ x∈M,s.h x≠none) (n:Sl f sz s x xs) (hb:l.length+xs.length<=2 ^ 30) {xt:TypeId} (c:T.cR xt=some (.slice el))
  {K:AV->AS->Prop} (p:∀ v' s',aV f sz M s0 s' v' (l++xs)->aG s'->bz (ax v) s s'->K v' s'):iT (aL T t xt v x s) K:=by
 obtain ⟨v',s',r,h2,h3,h4,w⟩:=bq.append ht hf b k h.tI n hb c;refine ⟨v',s',r,p v' s' ⟨h2,⟨fun y o d e=>h3.1 y o (fun hm=>?_) (h.eC.1 y o d e),Nat.le_trans h.eC.2 h3.2⟩,fun la i=>?_⟩ h4 h3⟩
 ·rw [h.new y hm] at e;cases e
 ·rcases w la i with j | j
  ·exact h.new la j
  ·exact h.eC.fresh m j
theorem aV.ji {α:Type} {f:α->List AV} (hf:∀ x,(f x).length=sz) (b:∀ x,(f x).all AV.one=true) {M:List Nat} {s0 s:AS} (d:aG s) {v:AV} {l:List α} (h:aV f sz M s0 s v l) (e:∀ x∈M,s.h x≠none) (x:α) (hb:l.length+1<=2 ^ 30)
  {K:AV->AS->Prop} (i:∀ v' s',aV f sz M s0 s' v' (l++[x])->aG s'->bz (ax v) s s'->K v' s'):aR (dw T t 1 [(0,.agg (f x))]) fun g=>aj (.cells g 0 false) s fun la s1=>iT (aL T t t v (.slc (some (la,0)) 1 1 true) s1) K:=by
 refine ⟨_,kL ht (hf x) (b x),aj.intro d rfl fun la s1 F=>?_⟩;have c:∀ x∈M,s1.h x≠none:=fun x j k=>e x j (F.ext.none k);refine aV.k_ ht hf b F.wf (h.step F.ext) c (xs:=[x]) (ct.mk F.own.at (by simp [hf]) (by simp [List.take_of_length_le,hf])) (by simpa using hb) ht.u fun v' s' g w m=>i v' s' g w (F.ext.mut.trans m)
theorem aV.LC {α:Type} {f:α->AV} (b:sz=1) (c:∀ x,(f x).one=true) {M:List Nat} {s0 s:AS} (e:aG s) {v:AV} {l:List α} (h:aV (fun x=>[f x]) sz M s0 s v l) (i:∀ x∈M,s.h x≠none) (x:α) (hb:l.length+1<=2 ^ 30)
  {K:AV->AS->Prop} (j:∀ v' s',aV (fun x=>[f x]) sz M s0 s' v' (l++[x])->aG s'->bz (ax v) s s'->K v' s'):aR (dw T t 1 [(0,f x)]) fun g=>aj (.cells g 0 false) s fun la s1=>iT (aL T t t v (.slc (some (la,0)) 1 1 true) s1) K:=by
 refine ⟨_,LB ht b (c x),aj.intro e rfl fun la s1 F=>?_⟩;have d:∀ x∈M,s1.h x≠none:=fun x k n=>i x k (F.ext.none n);refine aV.k_ ht (by simp [b]) (by simp [c]) F.wf (h.step F.ext) d (xs:=[x]) (ct.mk F.own.at (by simp [b]) (by simp [b])) (by simpa using hb) ht.u fun v' s' g w m=>j v' s' g w (F.ext.mut.trans m)
end
theorem cS {T:TT} {t:TypeId} {s:AS} {l off:Nat} {v:AV} {K:AS->Prop} (hv:v.one=true) (hs:T.eU t=some 1) (h:bu (cU s l off [v]) K):fQ T t s l off v K:=by
 unfold fQ;split
 ·cases hv
 ·cases hv
 ·cases hv
 ·rw [hs];exact h
theorem kj {zc g:List AV} {n:Nat} {s:AS} {K:Nat->AS->Prop} (e:aG s) (i:g.length=n) (k:zc.length=n) (j:g.all AV.one=true) (h:∀ l s',qd s s' l (.cells g 0 false)->K l s') :
  aj (.cells zc 0 false) s fun l s1=>fC (some n) g (bu (cU s1 l 0 g) fun s2=>K l s2):=by
 refine aj.intro e rfl fun l s1 F=>⟨⟨j,by rw [i]⟩,bu.own F.wf F.own (by omega) fun s2 P=>h l s2 ?_⟩;have b:s2.h l=some (.cells g 0 false):=by rw [P.at,dD (by omega)]
 exact ⟨b,⟨fun x o c=>by rw [P.eq x (F.ne c)];exact F.ext.1 x o c,by rw [P.nl];exact F.ext.2⟩,P.wf,F.no,fun x d=>by rw [P.eq x d,F.eq x d],by rw [P.nl];exact F.nl,by rw [P.st,F.st]⟩
end Go.Am
end

section
namespace Go.Am
def triples (d:Option TypeDesc):Option (List (Bool×TypeId×Nat)):=match d with
 | some (.struct fs) => some (fs.toList.map fun f => (f.name == "_", f.type, f.offset))
 | _=>none
def FH (T:TT) (eqv:TypeId->AV->AV->Option Bool) (xs ys:List AV):List (Bool×TypeId×Nat)->Option Bool
 | []=>some true
 | f::fs=>bif f.1 then FH T eqv xs ys fs else
   (part T f.2.1 xs f.2.2).bind fun a=>(part T f.2.1 ys f.2.2).bind fun b =>
    match eqv f.2.1 a b with
    | some true=>FH T eqv xs ys fs
    | r=>r
theorem Az {T : TT} {eqv : TypeId -> AV -> AV -> Option Bool} {xs ys : List AV} : ∀ (fs : List Field), eqFields T eqv xs ys fs = FH T eqv xs ys (fs.map fun f => (f.name == "_", f.type, f.offset))
 | []=>rfl
 | f::fs=>by
  simp only [eqFields,List.map_cons,FH];have c:=Az (T:=T) (eqv:=eqv) (xs:=xs) (ys:=ys) fs;rw [c];by_cases h : f.name = "_"
  ·simp [h]
  ·have : (f.name == "_") = false := by simpa using h
   simp only [ne_eq,h,not_false_eq_true,if_true,this,cond_false]
   first
    | done
    | (congr 1;done)
    | (congr 1;funext a;congr 1;funext b;cases eqv f.type a b with
     | none=>rfl
     | some x=>cases x <;> rfl)
theorem Pw {T:TT} {t:TypeId} {l:List (Bool×TypeId×Nat)} (h:triples (T.cR t)=some l) (b:T.T6 t=true) (d:Nat) (xs ys:List AV):je T (d+1) t (.agg xs) (.agg ys)=FH T (je T d) xs ys l:=by
 unfold triples at h;split at h
 ·rename_i fs hu;obtain rfl:=Option.some.inj h;simp only [je,hu,b,if_true,Az]
 ·cases h
theorem Sf {T:TT} {t:TypeId} {k k':IntKind} (hu:T.cR t=some (.int k)) (d:Nat) (a b:Int):je T (d+1) t (.int k' a) (.int k' b)=some (a==b):=by simp [je,hu]
theorem JE {T:TT} {t:TypeId} (hu:T.cR t=some .string) (d:Nat) (a b:List UInt8):je T (d+1) t (.str a) (.str b)=some (a==b):=by simp [je,hu]
theorem Cg {T:TT} {t:TypeId} (h:T.agg t=some false) (cs:List AV) (o:Nat):part T t cs o=cs[o]? := by simp [part,h]
theorem uI {T:TT} {t e:TypeId} {n sz:Nat} (hu:T.cR t=some (.array n e)) (hs:T.eU e=some sz) {l o:Nat} {k:IntKind} {i:Int} (h:0<=i/\i<n):ag T t (.ptr (some (l,o))) (.int k i)=some (.ptr (some (l,o+i.toNat*sz))):=by
 simp only [ag,hu,hs,Option.bind_some,if_pos h]
theorem iU {T:TT} {t e:TypeId} (hu:T.cR t=some (.pointer e)) (a:Option (Nat×Nat)):je T 100 t (.ptr a) (.ptr none)=some a.isNone:=by
 cases a <;> simp [je,hu]
theorem rU {T:TT} {t e:TypeId} (hu:T.cR t=some (.slice e)) (c:Bool) (a:Option (Nat×Nat)) (n m n' m':Nat) (ex b:Bool):Rw T t c (.slc a n m ex) (.slc none n' m' b)=some a.isNone:=by
 cases a <;> simp [Rw,Qm,je,hu]
theorem rV {T:TT} {t e:TypeId} (hu:T.cR t=some (.slice e)) (c:Bool) (n' m':Nat) (b:Bool):Rw T t c .emp (.slc none n' m' b)=some false:=by
 simp [Rw,Qm,je,hu]
theorem Uk {cs vs:List AV} (h:vs.length=cs.length):qC cs 0 vs=vs:=by
 apply List.ext_getElem?;intro k;rw [jW _ _ _ _ (by omega)];by_cases b:k<vs.length
 ·rw [if_pos (by omega),Nat.sub_zero]
 ·rw [if_neg (by omega),List.getElem?_eq_none (by omega),List.getElem?_eq_none (by omega)]
theorem fF {cs:List AV} {o:Nat} {v:AV}:qC cs o [v]=cs.set o v:=rfl
end Go.Am
namespace Go.Am
/-! ### a struct built of its parts -/
def places (T:TT) (t:TypeId):Option (List (Nat×Nat)):=match T.cR t with
 | some (.struct fs)=>if fs.all (fun f=>(T.eU f.type).isSome) then some (fs.toList.map fun f=>(f.offset,(T.eU f.type).getD 0)) else none
 | _=>none
theorem qI {T:TT} {t:TypeId} {pl:List (Nat×Nat)} {z:AV} {zc:List AV} (h:places T t=some pl) (e:T.rP t=some z) (c:bO z=some zc) (parts:List (Nat×AV)):aS T t parts=(jt (fun i=>pl[i]?) zc parts).map .agg:=by
 unfold places at h;split at h
 ·rename_i fs hu;split at h
  ·rename_i b;obtain rfl:=Option.some.inj h;simp only [aS,e,c,Option.bind_some,hu,b,if_true];congr 2;funext i;simp only [List.getElem?_map];cases hf:fs[i]? with
   | none=>simp [show fs.toList[i]? = none by simpa using hf]
   | some f =>
    have d:fs.toList[i]? = some f:=by simpa using hf
    have hm:f∈fs:=Array.mem_of_getElem? hf;have:=Array.all_eq_true'.1 b f hm;obtain ⟨n,j⟩:=Option.isSome_iff_exists.1 this;simp [d,j]
  ·cases h
 ·cases h
theorem JF (pre mid b post:List AV) (h:b.length=mid.length):qC (pre++mid++post) pre.length b=pre++b++post:=by
 apply List.ext_getElem?;intro k;rw [jW _ _ _ _ (by simp;omega)];by_cases c:k<pre.length
 ·rw [if_neg (by omega),List.append_assoc,List.append_assoc,List.getElem?_append_left c,List.getElem?_append_left c]
 ·by_cases h2:k<pre.length+b.length
  ·rw [if_pos (by omega),List.append_assoc,List.getElem?_append_right (by omega),List.getElem?_append_left (by omega)]
  ·rw [if_neg (by omega),List.append_assoc,List.append_assoc,List.getElem?_append_right (by omega),List.getElem?_append_right (by omega),List.getElem?_append_right (by omega),List.getElem?_append_right (by omega),h]
theorem nS {pl:Nat->Option (Nat×Nat)} {pre mid post c:List AV} {i sz:Nat} {v:AV} {rest:List (Nat×AV)} (b:pl i=some (pre.length,sz)) (d:bO v=some c) (e:c.length=sz) (h2:mid.length=sz) :
  jt pl (pre++mid++post) ((i,v)::rest)=jt pl (pre++c++post) rest:=by
 simp only [jt,b,d];rw [if_pos ⟨e,by simp;omega⟩,JF _ _ _ _ (by omega)]
end Go.Am
end

section
namespace Go.av
def el (l:List aJ) (i:Nat):aJ:=l.getD i ⟨0,0⟩
theorem yY {l:List aJ} {i:Nat} (h:i<l.length):l[i]? = some (el l i):=by
 rw [el,List.getD_eq_getElem?_getD,List.getElem?_eq_getElem h];rfl
def aJ.le (x y:aJ):Prop:=y.lt x=false
theorem aJ.le_iff {x y:aJ}:x.le y↔x.r<y.r\/x.r=y.r/\x.c<=y.c:=by
 unfold aJ.le;rw [<- Bool.not_eq_true,aJ.lt_iff];omega
theorem aJ.le_trans {a b c:aJ} (h:a.le b) (d:b.le c):a.le c:=by rw [aJ.le_iff] at *;omega
theorem aJ.le_refl (a:aJ):a.le a:=by rw [aJ.le_iff];omega
theorem aJ.Ax {a b:aJ} (h:a.lt b=true):a.le b:=by rw [aJ.lt_iff] at h;rw [aJ.le_iff];omega
def Dn (l:List aJ) (a b:Nat):Prop:=∀ i j,a<=i->i<j->j<b->(el l i).le (el l j)
end Go.av
end

section
namespace Go.av
end Go.av
end

section
namespace Go.Am
theorem aa.extern {P : Program} {g : FuncId} {fn : Func} {e : Array Value -> Sem Value} (hf : P.funcs[g]? = some fn) (c : (fn.name == "runtime.NumGoroutine") = false) (hb : fn.body.isNone = true) (d : Extern.findNext fn = none) (i : Extern.find fn = some e)
  {args:List AV} {s:AS} {R:AV->AS->Prop} (h:∀ (B:Nat) (γ:bS) (b:Array Value) (w:World),ak γ args b.toList->Rel B γ s w ->
   ∃ γ' v cv s' w',(e b).run P w=.ok cv w'/\ah γ' v cv/\fV B γ s w γ' s' w'/\Rel B γ' s' w'/\R v s'):aa P g args s R:=by
 intro B γ b w j h2;obtain ⟨γ',v,cv,s',w',hr,hv,hd,hr',k⟩:=h B γ b w j h2;refine .inr ⟨cv,w',?_,γ',v,cv,s',rfl,hv,hd,hr',k⟩;rw [run_callFunc_extern hf c hb d i,hr];rfl
theorem DG {P : Program} {T : TT} (hT : TT.Ok P T) {g : FuncId} {fn : Func} {t tR elem : TypeId} {size : Nat} (hf : P.funcs[g]? = some fn) (i : (fn.name == "runtime.NumGoroutine") = false) (hb : fn.body.isNone = true) (U : Extern.findNext fn = none)
  (W:Extern.find fn=some (Extern.SlicesOverlaps.overlaps #[t,t] #[tR])) (hu:T.cR t=some (.slice elem)) (hs:T.eU elem=some size)
  {s:AS} {la oa na ca lb ob nb cb:Nat} {ea eb:Bool} {C j:List AV} {O X:Nat} {Y:Bool} (Q:s.h la=some (.cells C O false)) (Z:O≠1) (l:s.h lb=some (.cells j X Y)) (D:j≠[]) (F:la≠lb) :
  aa P g [.slc (some (la,oa)) na ca ea,.slc (some (lb,ob)) nb cb eb] s fun v s'=>v=.bool false/\s'=s:=by
 refine aa.extern hf i hb U W ?_;intro B γ k w c hr;obtain ⟨c1,r1,e1,R,c⟩:=ak.cL.1 c;obtain ⟨c2,r2,rfl,h2,c⟩:=ak.cL.1 c;obtain rfl:=ak.iq.1 c;simp only [ah] at R h2;obtain ⟨m,n,rfl⟩:=R;obtain ⟨o,p,rfl⟩:=h2;have G:k=#[.slice (some ⟨m.b,m.d+oa,none⟩) na (if ea then ca else ca+m.x),.slice (some ⟨o.b,o.d+ob,none⟩) nb (if eb then cb else cb+o.x)]:=by
  apply Array.ext';rw [e1]
 subst G;obtain ⟨ja,r,H,_⟩:=hr.obj la _ Q;rw [n] at r;obtain rfl:=Option.some.inj r;obtain ⟨jb,y,I,_⟩:=hr.obj lb _ l;rw [p] at y;obtain rfl:=Option.some.inj y;have z:m.b≠o.b:=fun e=>F (hr.inj la lb _ _ m o Q l rfl n p e);obtain ⟨cA,eA,ab,J,_,_,_,K⟩:=H;obtain ⟨S,eB,ad,hB,L,_⟩:=I;obtain rfl:=(K rfl).1 Z;have M:S.size≠0:=by
  cases j with
  | nil=>exact absurd rfl D
  | cons x xs =>
   obtain ⟨_,cv,A,_⟩:=L 0 x rfl;intro h0;rw [Array.getElem?_eq_none (by omega)] at A;cases A
 refine ⟨γ,.bool false,.bool false,s,w,?_,by simp [ah],fV.refl,hr,rfl,rfl⟩;exact Lib.run_overlaps_apart w t tR elem (hT.cR t _ hu) size (run_sizeOf hT hs) _ _ _ _ _ _ z eA eB cA.size S.size (by simp [World.shape?,J]) (by simp [World.shape?,hB]) M (by simp [World.frozen?,J]) (by simp [World.frozen?,J])
theorem Px {B:Nat} {γ γ':bS} {s s' s'':AS} {w w':World} (hd:fV B γ s w γ' s' w') (hr:Rel B γ' s' w') {F L:Nat} {O M:AO} {i i2:CI}
  (c:∀ k o,k≠F->s''.h k=some o->s'.h k=some o) (hF:s''.h F=some O) (X:s'.h L=some M) (am:O.ro=false) (m:M.ro=false) (n:L=F\/s''.h L=none) (hi:γ' L=some i) (A:i2.b=i.b) (hO:lF γ' w' i2 O)
  (Z:∃ k,F=s'.nl+k*s.st) (H:s''.st=s.st) (D:s''.nl=F+s.st) (Q:s''.lay=s.lay) (R:∀ l o,s''.cur.get l=some o->o.live=true->o.ro=true->s.cur.get l=some o) :
  Rel B (d_ γ' F i2) s'' w'/\fV B γ s w (d_ γ' F i2) s'' w':=by
 obtain ⟨k,hk⟩:=Z;have r:=hd.st;have ab:γ' F=none:=by rw [hk,<- r];exact hr.fin k
 have hle:bS.le γ' (d_ γ' F i2):=bS.uo ab;have S:1<=s.st:=by rw [<- r];exact hr.RD
 have U:∃ k,F=s.nl+k*s.st:=by
  obtain ⟨k',I⟩:=hd.nl;exact ⟨k'+k,by rw [hk,I,Nat.add_mul,Nat.add_assoc]⟩
 have W:∀ x j,x≠F->d_ γ' F i2 x=some j->γ' x=some j:=by
  intro x j d h;simpa [d_,d] using h
 refine ⟨⟨fun x p z=>?_,fun x y p q a b z Y C G hb J=>?_,fun j=>?_,by rw [H];exact S,hr.base⟩,
  ⟨bS.le_trans hd.le hle,hd.Vf,hd.eU,fun x p a z C G=>?_,?_,H,Q,fun x h1 h2=>?_,R,hd.env⟩⟩
 ·by_cases d:x=F
  ·subst d;rw [hF] at z;obtain rfl:=Option.some.inj z;refine ⟨i2,cE _ _ _,hO.mono hle,fun _=>?_⟩;obtain ⟨j,hj,_,hB⟩:=hr.obj L M X;rw [hi] at hj;obtain rfl:=Option.some.inj hj;rw [A];exact hB m
  ·obtain ⟨j,hj,ad,hB⟩:=hr.obj x p (c x p d z);exact ⟨j,hle _ _ hj,ad.mono hle,hB⟩
 ·by_cases d:x=F <;> by_cases K:y=F
  ·rw [d,K]
  ·exfalso;subst d;rw [cE] at G;obtain rfl:=Option.some.inj G;have ae:=W y b K hb;have:=hr.inj L y M q i b X (c y q K Y) m hi ae (by rw [<- A];exact J);subst this;rcases n with h | h
   ·exact K h
   ·rw [h] at Y;cases Y
  ·exfalso;subst K;rw [cE] at hb;obtain rfl:=Option.some.inj hb;have al:=W x a d G;have:=hr.inj x L p M a i (c x p d z) X C al hi (by rw [<- A];exact J);subst this;rcases n with h | h
   ·exact d h
   ·rw [h] at z;cases z
  ·exact hr.inj x y p q a b (c x p d z) (c y q K Y) C (W x a d G) (W y b K hb) J
 ·rw [D,H];have e:F+s.st+j*s.st=s'.nl+(k+(j+1))*s.st:=by rw [hk,Nat.add_mul,Nat.add_mul,Nat.one_mul];omega
  simp only [d_];rw [if_neg (by omega),e,<- r];exact hr.fin _
 ·by_cases d:x=F
  ·subst d;rw [cE] at G;obtain rfl:=Option.some.inj G;rw [A];exact hd.new L M i X m hi
  ·exact hd.new x p a (c x p d z) C (W x a d G)
 ·obtain ⟨k',I⟩:=U;exact ⟨k'+1,by rw [D,I,Nat.add_mul,Nat.one_mul,Nat.add_assoc]⟩
 ·by_cases d:x=F
  ·rw [d];exact U
  ·exact hd.dom x h1 (by simpa [d_,d] using h2)
def AS.DH (s:AS) (l K:Nat) (o:AO):AS:={ s with cur:=(s.cur.set l .dead).set (s.nl+K*s.st) o,nl:=s.nl+K*s.st+s.st }
theorem AS.Ch (s:AS) (l K:Nat) {o:AO} (b:o.live=true) (x:Nat):(s.DH l K o).h x=if x=s.nl+K*s.st then some o else if x=l then none else s.h x:=by
 have c:(s.DH l K o).h x=((s.kill l).put (s.nl+K*s.st) o).h x:=rfl;rw [c,AS.oV _ _ b,AS.sq]
theorem aa.VP {P : Program} {g : FuncId} {l o len cap n K sz : Nat} {cs cs' : List AV} {post : List AV} {s : AS} (hl : s.h l = some (.cells cs sz false)) (am : sz ≠ 0) (bl : o + cap * sz = cs.length)
    (h : ∀ x C, C.length = x * sz -> C.all AV.one = true -> (∀ k, s.h (s.nl + k * s.st) = none) -> aa P g (.slc (some (s.nl, o)) len (cap + x) true :: post) ((s.kill l).new (.cells (cs ++ C) sz false)) fun v s' =>
      (∃ k, k <= K /\ s'.nl = s.nl + k * s.st) /\ (∀ k ob, k ≠ l -> s.h k = some ob -> s'.h k = some ob) /\
      ((v = .slc (some (s.nl, o)) n (cap + x) true /\ n <= cap + x /\ ∃ D, s'.h s.nl = some (.cells D sz false) /\ D.length = cs.length + x * sz /\ (D.drop o).take (n * sz) = cs') \/
       (∃ L, v = .slc (some (L, 0)) n n false /\ s.h L = none /\ s'.h L = some (.cells cs' sz false) /\ cs'.length = n * sz))) :
    aa P g (.slc (some (l, o)) len cap false :: post) s fun v s' => v = .slc (some (s.nl + K * s.st, 0)) n n false /\ s' = s.DH l K (.cells cs' sz false) := by
  intro B γ G w U hr;obtain ⟨i, hi, hO, hB⟩ := hr.obj l _ hl;obtain ⟨c, e, fz, hb, hc, hf, hg, an⟩ := hO;obtain ⟨bm, a3⟩ := hg am;have W : ∀ j : Fin (i.x * sz), ∃ v, v.one = true /\ ∃ cv, c[i.d + cs.length + j.1]? = some cv /\ ah γ v cv := by
    intro j;obtain ⟨v, cv, y, h2, h3⟩ := a3 (i.d + cs.length + j.1) (by omega) (by have := j.2; omega);exact ⟨v, y, cv, h2, h3⟩
  let C : List AV := List.ofFn fun j => Classical.choose (W j)
  have X : C.length = i.x * sz := by simp [C]
  have ao : ∀ (k : Nat) v, C[k]? = some v -> v.one = true /\ ∃ cv, c[i.d + cs.length + k]? = some cv /\ ah γ v cv := by
    intro k v r;have Y : k < i.x * sz := by
      rcases Nat.lt_or_ge k (i.x * sz) with h | h
      · exact h
      · rw [List.getElem?_eq_none (by omega)] at r; cases r
    have : C[k]? = some (Classical.choose (W ⟨k, Y⟩)) := by simp [C, List.getElem?_ofFn, Y]
    rw [this] at r; obtain rfl := Option.some.inj r;exact Classical.choose_spec (W ⟨k, Y⟩)
  have a4 : C.all AV.one = true := by
    rw [List.all_eq_true];intro v hv;obtain ⟨k, r⟩ := List.mem_iff_getElem?.1 hv;exact (ao k v r).1
  have hle : bS.le γ (d_ γ s.nl ⟨i.b, i.d, 0⟩) := bS.uo hr.K5;have a5 : lF (d_ γ s.nl ⟨i.b, i.d, 0⟩) w ⟨i.b, i.d, 0⟩ (.cells (cs ++ C) sz false) := by
    refine ⟨c, e, fz, hb, fun k v r => ?_, hf, fun _ => ⟨by simp only [List.length_append, X]; omega, fun k y h2 => ?_⟩, an⟩
    · rw [List.getElem?_append] at r;split at r
      · obtain ⟨y, cv, h2, h3⟩ := hc k v r;exact ⟨y, cv, h2, h3.mono hle⟩
      · obtain ⟨y, cv, h2, h3⟩ := ao _ v r;exact ⟨y, cv, by rw [<- h2]; simp only; congr 1; omega, h3.mono hle⟩
    · simp only [List.length_append, X] at y;omega
  have a6 : w.heap = w.heap.setIfInBounds i.b (.cells c e fz) := by
    apply Array.ext_getElem?;intro k;rw [Array.getElem?_setIfInBounds];have a7 := lF.lt (γ := γ) (o := .cells cs sz false) ⟨c, e, fz, hb, hc, hf, hg, an⟩;by_cases r : i.b = k
    · subst r; rw [if_pos rfl, if_pos a7, hb]
    · rw [if_neg r]
  obtain ⟨a8, a9⟩ := hr.take (w' := w) hl rfl rfl hi (i' := ⟨i.b, i.d, 0⟩) (o' := .cells (cs ++ C) sz false) rfl a6 a5;obtain ⟨c1, r1, e1, y, J⟩ := ak.cL.1 U;simp only [ah, Bool.false_eq_true, if_false] at y;obtain ⟨i', ar, rfl⟩ := y;rw [hi] at ar; obtain rfl := Option.some.inj ar;have z : ∀ k, s.h (s.nl + k * s.st) = none := by
    intro k;cases Z : s.h (s.nl + k * s.st) with
    | none => rfl
    | some p =>
      obtain ⟨j, hj, _⟩ := hr.obj _ p Z;rw [hr.fin k] at hj; cases hj
  have M : ak (d_ γ s.nl ⟨i.b, i.d, 0⟩) (.slc (some (s.nl, o)) len (cap + i.x) true :: post) G.toList := by
    rw [e1];exact ak.cons (by simp only [ah]; exact ⟨_, cE _ _ _, by simp⟩) (J.mono hle)
  refine (h i.x C X a4 z B _ G w M a8).mono ?_;rintro e w' ⟨γ', v, cv, s', rfl, hv, hd, hr', ⟨k, bo, a'⟩, ab, ad⟩;have aw := a9.trans hd;have H : γ' s.nl = some ⟨i.b, i.d, 0⟩ := hd.le _ _ (cE _ _ _);have O : ∃ k, s.nl + K * s.st = s'.nl + k * s.st := ⟨K - k, by rw [a', Nat.add_assoc, <- Nat.add_mul]; congr 2; omega⟩;have bs : s.h (s.nl + K * s.st) = none := z K;have Q : ∀ x ob, x ≠ s.nl + K * s.st -> (s.DH l K (.cells cs' sz false)).h x = some ob -> s'.h x = some ob := by
    intro x ob hx m;rw [AS.Ch _ _ _ rfl, if_neg hx] at m;split at m
    · cases m
    · rename_i ba; exact ab x ob ba m
  have R : ∀ x ob, (s.DH l K (.cells cs' sz false)).cur.get x = some ob -> ob.live = true -> ob.ro = true -> s.cur.get x = some ob := by
    intro x ob m y h2;simp only [AS.DH, Tr.rO] at m;split at m
    · obtain rfl := Option.some.inj m; cases h2
    · split at m
      · obtain rfl := Option.some.inj m; cases y
      · exact m
  have hF : (s.DH l K (.cells cs' sz false)).h (s.nl + K * s.st) = some (.cells cs' sz false) := by rw [AS.Ch _ _ _ rfl, if_pos rfl]
  rcases ad with ⟨rfl, hn, D, hL, bx, S⟩ | ⟨L, rfl, bb, hL, hlen⟩
  · obtain ⟨j, hj, ae, _⟩ := hr'.obj s.nl _ hL;rw [H] at hj; obtain rfl := Option.some.inj hj;obtain ⟨c2, e2, bc, a0, al, bd, be, a1⟩ := ae;obtain ⟨a2, _⟩ := be am;simp only at a0 al a2;have hmul : n * sz <= (cap + i.x) * sz := Nat.mul_le_mul_right _ hn;have bh : (cap + i.x) * sz = cap * sz + i.x * sz := Nat.add_mul _ _ _;have bi : (cap + i.x - n) * sz = (cap + i.x) * sz - n * sz := Nat.mul_sub_right_distrib _ _ _;have bj : cs'.length = n * sz := by rw [<- S, List.length_take, List.length_drop]; omega
    have bk : lF γ' w' ⟨i.b, i.d + o, cap + i.x - n⟩ (.cells cs' sz false) := by
      refine ⟨c2, e2, bc, a0, fun k v r => ?_, bd, fun _ => ⟨by simp only; omega, fun k y h2 => ?_⟩, a1⟩
      · rw [<- S, List.getElem?_take, List.getElem?_drop] at r;split at r
        · obtain ⟨y, cv, h2, h3⟩ := al _ v r;exact ⟨y, cv, by rw [<- h2]; simp only; congr 1; omega, h3⟩
        · cases r
      · simp only at y;obtain ⟨h3, cv, h4, h5⟩ := al (k - i.d) _ (List.getElem?_eq_getElem (show k - i.d < D.length by omega));exact ⟨_, cv, h3, by rw [<- h4]; congr 1; omega, h5⟩
    have A : s.nl = s.nl + K * s.st \/ (s.DH l K (.cells cs' sz false)).h s.nl = none := by
      by_cases Z : s.nl = s.nl + K * s.st
      · exact .inl Z
      · right;rw [AS.Ch _ _ _ rfl, if_neg Z];split
        · rfl
        · have := z 0; simpa using this
    obtain ⟨g1, g2⟩ := Px (s'' := s.DH l K (.cells cs' sz false)) aw hr' (F := s.nl + K * s.st) (L := s.nl) Q hF hL rfl rfl A H (i2 := ⟨i.b, i.d + o, cap + i.x - n⟩) rfl bk O rfl rfl rfl R;simp only [ah, if_true] at hv;obtain ⟨i3, I, rfl⟩ := hv;rw [H] at I; obtain rfl := Option.some.inj I;refine ⟨_, _, _, _, rfl, ?_, g2, g1, rfl, rfl⟩;simp only [ah];refine ⟨_, cE _ _ _, ?_⟩;simp only [Bool.false_eq_true, if_false, Nat.add_zero];rw [show n + (cap + i.x - n) = cap + i.x by omega]
  · obtain ⟨j, hj, ae, _⟩ := hr'.obj L _ hL;have A : L = s.nl + K * s.st \/ (s.DH l K (.cells cs' sz false)).h L = none := by
      by_cases Z : L = s.nl + K * s.st
      · exact .inl Z
      · right;rw [AS.Ch _ _ _ rfl, if_neg Z];split
        · rfl
        · exact bb
    obtain ⟨g1, g2⟩ := Px (s'' := s.DH l K (.cells cs' sz false)) aw hr' (F := s.nl + K * s.st) (L := L) Q hF hL rfl rfl A hj (i2 := j) rfl ae O rfl rfl rfl R;simp only [ah, Bool.false_eq_true, if_false] at hv;obtain ⟨i3, I, rfl⟩ := hv;rw [hj] at I; obtain rfl := Option.some.inj I;refine ⟨_, _, _, _, rfl, ?_, g2, g1, rfl, rfl⟩;simp only [ah];exact ⟨_, cE _ _ _, by simp⟩
end Go.Am
end

section
namespace Go.Am
open Go.ChangeShapes Go.WideShapes Go.Deep
/-! ### a table from a list -/
def Tr.W_ {α:Type} (F:Nat->α):List Nat->Tr α
 | []=>.E
 | x::xs=>(Tr.W_ F xs).set x (F x)
theorem Tr.JG {α:Type} (F:Nat->α):∀ (l:List Nat) (x:Nat),(Tr.W_ F l).get x=if x∈l then some (F x) else none
 | [],x=>by simp [Tr.W_,Tr.get]
 | y::ys,x=>by
  simp only [Tr.W_,Tr.rO,Tr.JG F ys x,List.mem_cons];by_cases h:x=y
  ·subst h;simp
  ·simp [h]
def blockSize:Obj->Nat
 | .cells c _ _=>c.size
 | _=>0
def Ul:List Nat->Nat
 | []=>0
 | x::xs=>max x (Ul xs)
theorem Um {l:List Nat} {x:Nat} (h:x∈l):x<=Ul l:=by
 induction l with
 | nil=>cases h
 | cons y ys b =>
  simp only [Ul];rcases List.mem_cons.1 h with rfl | h
  ·omega
  ·have:=b h;omega
def MW (w:World):Nat:=Ul (w.heap.toList.map blockSize)+1
theorem Vn {w:World} {b:Nat} {c:Array Value} {e:TypeId} {fz:Nat×Nat} (h:w.heap[b]? = some (.cells c e fz)):c.size<MW w:=by
 have:c.size∈w.heap.toList.map blockSize:=by
  rw [List.mem_map];refine ⟨.cells c e fz,?_,rfl⟩;rw [List.mem_iff_getElem?];exact ⟨b,by simpa using h⟩
 have:=Um this;unfold MW;omega
mutual
def gC (n M:Nat):Value->AV
 | .bool b=>.bool b
 | .int k x=>.int k x
 | .string s=>.str s.data.toList
 | .pointer none=>.ptr none
 | .pointer (some ⟨b,o,none⟩)=>if b<n/\o<M then .ptr (some (b*M+o,0)) else .bad
 | .slice none x y=>.slc none x y true
 | .slice (some ⟨b,o,none⟩) x y=>if b<n/\0<M then (if o<M then .slc (some (b*M+o,0)) x y true else .slc (some (b*M,o)) x y true) else if x=0 then .emp else .bad
 | .slice (some ⟨_,_,some _⟩) x _=>if x=0 then .emp else .bad
 | .map none=>.map none
 | .agg ⟨l⟩=>.agg (FJ n M l)
 | .nilFunc=>.nilFunc
 | .nilIface=>.nilIface
 | _=>.bad
def FJ (n M:Nat):List Value->List AV
 | []=>[]
 | v::vs=>gC n M v::FJ n M vs
end
theorem Im (n M:Nat):∀ l,FJ n M l=l.map (gC n M)
 | []=>rfl
 | v::vs=>by simp [FJ,Im n M vs]
def gW (n M:Nat):bS:=fun x=>if x<n*M then some ⟨x / M,x % M,0⟩ else none
theorem EK {b o M:Nat} (h:o<M):(b*M+o) / M=b/\(b*M+o) % M=o:=by
 rw [Nat.mul_comm];constructor
 ·rw [Nat.mul_add_div (by omega),Nat.div_eq_of_lt h,Nat.add_zero]
 ·rw [Nat.mul_add_mod,Nat.mod_eq_of_lt h]
theorem Sg {b o n M:Nat} (hb:b<n) (h:o<M):b*M+o<n*M:=by
 have:(b+1)*M<=n*M:=Nat.mul_le_mul_right _ hb;rw [Nat.add_mul,Nat.one_mul] at this;omega
theorem Sh {b o n M:Nat} (hb:b<n) (h:o<M):gW n M (b*M+o)=some ⟨b,o,0⟩:=by
 simp only [gW,if_pos (Sg hb h),(EK h).1,(EK h).2]
mutual
theorem LD (n M:Nat):∀ v,ah (gW n M) (gC n M v) v
 | .bool b=>by simp [gC,ah]
 | .int k x=>by simp [gC,ah]
 | .string s=>by simp [gC,ah]
 | .pointer none=>by simp [gC,ah]
 | .pointer (some ⟨b,o,none⟩)=>by
  simp only [gC]
  split
  ·rename_i h;simp only [ah];exact ⟨_,Sh h.1 h.2,rfl⟩
  ·simp [ah]
 | .pointer (some ⟨b,o,some _⟩)=>by simp [gC,ah]
 | .slice none x y=>by simp [gC,ah]
 | .slice (some ⟨b,o,none⟩) x y=>by
  simp only [gC]
  split
  ·rename_i h
   split
   ·rename_i h2;simp only [ah];exact ⟨_,Sh h.1 h2,by simp⟩
   ·simp only [ah];exact ⟨_,Sh (o:=0) h.1 h.2,by simp⟩
  ·split
   ·rename_i h;subst h;simp only [ah];exact ⟨_,_,rfl⟩
   ·simp [ah]
 | .slice (some ⟨b,o,some _⟩) x y=>by
  simp only [gC]
  split
  ·rename_i h;subst h;simp only [ah];exact ⟨_,_,rfl⟩
  ·simp [ah]
 | .map none=>by simp [gC,ah]
 | .map (some _)=>by simp [gC,ah]
 | .agg ⟨l⟩=>by simp only [gC,ah];exact ⟨⟨l⟩,rfl,Ci n M l⟩
 | .nilFunc=>by simp [gC,ah]
 | .nilIface=>by simp [gC,ah]
 | .func _ _ _=>by simp [gC,ah]
 | .iface _ _=>by simp [gC,ah]
 | .tuple _=>by simp [gC,ah]
 | .float _ _=>by simp [gC,ah]
 | .complex _ _ _=>by simp [gC,ah]
 | .chan _=>by simp [gC,ah]
theorem Ci (n M:Nat):∀ l,ak (gW n M) (FJ n M l) l
 | []=>by simp [FJ,ak]
 | v::vs=>by simp only [FJ];exact ak.cons (LD n M v) (Ci n M vs)
end
def win (w:World) (c:Array Value) (o:Nat):List AV:=((c.toList.drop o).map (gC w.heap.size (MW w))).takeWhile AV.one
def VQ (w:World) (x:Nat):AO:=match w.heap[x / MW w]? with
 | some (.cells c _ _)=>.cells (win w c (x % MW w)) 0 true
 | _=>.dead
def sW (w:World):AS:={ lay:=[Tr.W_ (VQ w) (List.range (w.heap.size*MW w))],cur:=.E,nl:=w.heap.size*MW w,st:=1 }
theorem VR {w:World} {x:Nat} {o:AO} (h:(sW w).h x=some o):x<w.heap.size*MW w/\∃ c e fz,w.heap[x / MW w]? = some (.cells c e fz)/\o=.cells (win w c (x % MW w)) 0 true:=by
 simp only [AS.h,sW,Tr.get,Ji,Tr.JG,List.mem_range] at h;by_cases b:x<w.heap.size*MW w
 ·refine ⟨b,?_⟩;rw [if_pos b] at h;simp only [VQ] at h;cases hb:w.heap[x / MW w]? with
  | none=>rw [hb] at h;cases h
  | some ob =>
   rw [hb] at h;cases ob with
   | cells c e fz =>
    simp only [AO.Vy,Option.some.injEq] at h;exact ⟨c,e,fz,rfl,h.symm⟩
   | _=>cases h
 ·rw [if_neg b] at h;cases h
theorem Xa {w:World} {b o:Nat} {c:Array Value} {e:TypeId} {fz:Nat×Nat} (hb:w.heap[b]? = some (.cells c e fz)) (j:o<=c.size):At (sW w) (b*MW w+o) (win w c o):=by
 have k:=Vn hb;have d:b<w.heap.size:=by
  rcases Nat.lt_or_ge b w.heap.size with h | h
  ·exact h
  ·rw [Array.getElem?_eq_none h] at hb;cases hb
 have i:=Sg d (show o<MW w by omega);refine ⟨0,true,?_⟩;simp only [AS.h,sW,Tr.get,Ji,Tr.JG,List.mem_range,if_pos i,VQ,(EK (show o<MW w by omega)).1,(EK (show o<MW w by omega)).2,hb,AO.Vy]
theorem yE {p:AV->Bool}:∀ (l:List AV) (k:Nat) (v:AV),(l.takeWhile p)[k]? = some v->p v=true/\l[k]? = some v
 | [],k,v,h=>by simp at h
 | a::l,k,v,h=>by
  rw [List.takeWhile_cons] at h;split at h
  ·rename_i b;cases k with
   | zero=>simp at h;subst h;exact ⟨b,rfl⟩
   | succ k=>simp at h;simpa using yE l k v h
  ·simp at h
theorem wB {p:AV->Bool}:∀ (l:List AV) (N:Nat),(∀ v∈l.take N,p v=true)->(l.takeWhile p).take N=l.take N
 | l,0,_=>by simp
 | [],N+1,_=>by simp
 | a::l,N+1,h=>by
  have b:p a=true:=h a (by simp);rw [List.takeWhile_cons,if_pos b,List.take_succ_cons,List.take_succ_cons,wB l N fun v hv=>h v (by simp [hv])]
theorem chunks (l:List AV) (sz:Nat):∀ n,l.take (n*sz)=((List.range n).map fun i=>(l.drop (i*sz)).take sz).flatten
 | 0=>by simp
 | n+1=>by
  rw [Nat.add_mul,Nat.one_mul,List.take_add,chunks l sz n,List.range_succ,List.map_append,List.flatten_append];simp
theorem VS (w:World):Rel w.heap.size (gW w.heap.size (MW w)) (sW w) w:=by
 refine ⟨fun x o h=>?_,fun x y o o' i i' h n b=>?_,fun j=>?_,Nat.le_refl 1,Nat.le_refl _⟩
 ·obtain ⟨d,c,e,fz,hb,rfl⟩:=VR h;refine ⟨⟨x / MW w,x % MW w,0⟩,by simp only [gW,if_pos d],⟨c,e,fz,hb,fun k v l=>?_,(fun h=>by cases h),(fun h=>absurd rfl h),(fun h=>by cases h)⟩,(fun h=>by cases h)⟩;obtain ⟨m,h2⟩:=yE _ _ _ l;refine ⟨m,?_⟩;rw [List.getElem?_map,List.getElem?_drop,Option.map_eq_some_iff] at h2;obtain ⟨cv,h3,rfl⟩:=h2;exact ⟨cv,by simpa using h3,LD _ _ _⟩
 ·obtain ⟨_,c,e,fz,_,rfl⟩:=VR h;cases b
 ·simp only [gW,sW,Nat.mul_one];rw [if_neg (by omega)]
/-! ### data of flat types -/
inductive LK where
 | int (k:IntKind)
 | bool
 | str
def JH:LK->AV->Prop
 | .int k,v=>∃ n,v=.int k n/\k.min<=n/\n<=k.max
 | .bool,v=>∃ b,v=.bool b
 | .str,v=>∃ b,v=.str b/\b.length<=maxLen
def eF:List LK->List AV->Prop
 | [],[]=>True
 | k::b,v::vs=>JH k v/\eF b vs
 | _,_=>False
theorem JH.one {k:LK} {v:AV} (h:JH k v):v.one=true:=by
 cases k
 ·obtain ⟨n,rfl,_⟩:=h;rfl
 ·obtain ⟨n,rfl⟩:=h;rfl
 ·obtain ⟨n,rfl,_⟩:=h;rfl
theorem eF.len:∀ {b:List LK} {vs:List AV},eF b vs->vs.length=b.length
 | [],[],_=>rfl
 | [],_::_,h=>h.elim
 | _::_,[],h=>h.elim
 | k::b,v::vs,h=>by simp [eF.len h.2]
theorem eF.one:∀ {b:List LK} {vs:List AV},eF b vs->∀ v∈vs,v.one=true
 | [],[],_,v,hv=>by cases hv
 | [],_::_,h,_,_=>h.elim
 | _::_,[],h,_,_=>h.elim
 | k::b,u::vs,h,v,hv=>by
  rcases List.mem_cons.1 hv with rfl | hv
  ·exact h.1.one
  ·exact eF.one h.2 v hv
theorem eF.append:∀ {d b:List LK} {vs c:List AV},eF d vs->eF b c->eF (d++b) (vs++c)
 | [],_,[],_,_,e=>by simpa using e
 | [],_,_::_,_,h,_=>h.elim
 | _::_,_,[],_,h,_=>h.elim
 | k::d,_,v::vs,_,h,e=>⟨h.1,eF.append h.2 e⟩
def LF (P:Program) (rec:TypeId->Option (List LK)):List Field->Nat->Option (List LK)
 | [],_=>some []
 | f::fs,o=>(rec f.type).bind fun b=>if f.offset=o/\P.cellsOf f.type=b.length then (LF P rec fs (o+b.length)).map (b++·) else none
def Dp (P:Program):Nat->TypeId->Option (List LK)
 | 0,_=>none
 | d+1,t=>match P.underlying t with
  | some .bool=>some [.bool]
  | some (.int k)=>some [.int k]
  | some .string=>some [.str]
  | some (.struct fs)=>(LF P (Dp P d) fs.toList 0).bind fun b=>if P.cellsOf t=b.length then some b else none
  | some (.array n e)=>(Dp P d e).bind fun b=>if P.cellsOf e=b.length/\P.cellsOf t=n*b.length then some (List.replicate n b).flatten else none
  | _=>none
section
variable {H:Type} {enc:TypeId×Value->H} {P:Program} {w:World} {base:Nat} {spare:Nat->Bool} {held:Bool}
theorem Qv:∀ (d:Nat) (t:TypeId) (p:List LK) (fuel:Nat) (cs:List Value) (x:DataW H×List MemPlace) (n M:Nat),Dp P d t=some p->DataW.trod enc P w base spare held fuel t cs=some x->eF p (cs.map (gC n M)):=by
 intro d
 induction d with
 | zero=>intro t p fuel cs x n M h;simp [Dp] at h
 | succ d Y =>
  intro t p fuel cs x n M h ht;unfold Dp at h;split at h
  ·rename_i hu;obtain rfl:=Option.some.inj h;obtain ⟨b,rfl,_⟩:=DataW.trod_bool hu ht;exact ⟨⟨b,by simp [gC]⟩,trivial⟩
  ·rename_i k hu;obtain rfl:=Option.some.inj h;obtain ⟨b,rfl,_,D⟩:=DataW.trod_int hu ht;simp only [Lit.wf,Bool.and_eq_true,decide_eq_true_eq] at D;exact ⟨⟨b,by simp [gC],D⟩,trivial⟩
  ·rename_i hu;obtain rfl:=Option.some.inj h;obtain ⟨b,rfl,_,Z⟩:=DataW.trod_string hu ht;exact ⟨⟨b.data.toList,by simp [gC],by simpa using Z⟩,trivial⟩
  ·rename_i fs hu;obtain ⟨xs,m,rfl,_,hlen,F,hf⟩:=DataW.trod_struct hu ht;simp only [Option.bind_eq_some_iff] at h;obtain ⟨K,L,h⟩:=h;split at h
   ·rename_i G;obtain rfl:=Option.some.inj h;have key:∀ (l:List Field) (o:Nat) (p:List LK),LF P (Dp P d) l o=some p->(∀ f∈l,∃ y,DataW.trod enc P w base spare held m f.type ((cs.drop f.offset).take (P.cellsOf f.type))=some y)->o+p.length<=cs.length->eF p (((cs.drop o).take p.length).map (gC n M)):=by
     intro l
     induction l with
     | nil=>intro o p h _ _;simp only [LF] at h;obtain rfl:=Option.some.inj h;simp [eF]
     | cons f l O =>
      intro o p h c hle;simp only [LF,Option.bind_eq_some_iff] at h;obtain ⟨r,z,h⟩:=h;split at h
      ·rename_i Q;obtain ⟨A,B⟩:=Q;simp only [Option.map_eq_some_iff] at h;obtain ⟨k2,R,rfl⟩:=h;obtain ⟨y,J⟩:=c f (by simp);have I:=Y _ _ _ _ _ n M z J;rw [A,B] at I;rw [List.length_append] at hle;have S:=O (o+r.length) k2 R (fun f hf=>c f (by simp [hf])) (by omega);have:=I.append S;rw [List.length_append,List.take_add,List.map_append,List.drop_drop];exact this
      ·cases h
    have c:∀ f∈fs.toList,∃ y,DataW.trod enc P w base spare held m f.type ((cs.drop f.offset).take (P.cellsOf f.type))=some y:=by
     intro f U;obtain ⟨i,hi⟩:=List.mem_iff_getElem?.1 U;have C:fs[i]? = some f:=by simpa using hi
     have W:i<xs.length:=by
      rw [F];rcases Nat.lt_or_ge i fs.size with h | h
      ·exact h
      ·rw [Array.getElem?_eq_none h] at C;cases C
     exact ⟨_,(hf i f C).trans (List.getElem?_eq_getElem W)⟩
    have:=key fs.toList 0 K L c (by rw [hlen,G];omega);rw [List.drop_zero,List.take_of_length_le (by rw [hlen,G];exact Nat.le_refl _)] at this;exact this
   ·cases h
  ·rename_i len e hu;obtain ⟨xs,m,rfl,_,hlen,F,hf⟩:=DataW.trod_array hu ht;simp only [Option.bind_eq_some_iff] at h;obtain ⟨r,z,h⟩:=h;split at h
   ·rename_i Q;obtain ⟨A,B⟩:=Q;obtain rfl:=Option.some.inj h;have key:∀ (j i:Nat),i+j=len->eF (List.replicate j r).flatten (((cs.drop (i*r.length)).take (j*r.length)).map (gC n M)):=by
     intro j
     induction j with
     | zero=>intro i _;simp [eF]
     | succ j X =>
      intro i ab;have J:=hf i (by omega);rw [List.getElem?_eq_getElem (by omega)] at J;have I:=Y _ _ _ _ _ n M z J;rw [A] at I;have S:=X (i+1) (by omega);have:=I.append S;rw [List.replicate_succ,List.flatten_cons];have e1:(j+1)*r.length=r.length+j*r.length:=by rw [Nat.add_mul,Nat.one_mul,Nat.add_comm]
      rw [e1,List.take_add,List.map_append,List.drop_drop];have e2:i*r.length+r.length=(i+1)*r.length:=by rw [Nat.add_mul,Nat.one_mul]
      rw [e2];exact this
    have:=key len 0 (by omega);rw [Nat.zero_mul,List.drop_zero,List.take_of_length_le (by rw [hlen,B];exact Nat.le_refl _)] at this;exact this
   ·cases h
  ·cases h
theorem Qw {t e:TypeId} {d:Nat} {k:List LK} (hu:P.underlying t=some (.slice e)) (Z:Dp P d e=some k) (S:P.cellsOf e=k.length) (Y:0<k.length) {v:Value} {y:DataW H} {ps:List MemPlace}
  (hv:Value.okWide P w .any base t v) (h:DataW.Trod enc P w 0 (fun _=>true) true t v y ps) :
  ∃ C:List (List AV),ct (sW w) (gC w.heap.size (MW w) v) k.length C.flatten C.length/\(∀ c∈C,eF k c)/\C.length<=maxLen:=by
 obtain ⟨fuel,h⟩:=h;rcases open_slice hu h with ⟨A,_⟩ | ⟨a,len,cap,m,n,D,Pl,A,hb,hl,hm,vt,_,hx⟩
 ·have G:v=.slice none 0 0:=by
   cases v with
   | agg l=>exfalso;unfold Value.okWide at hv;rw [hu] at hv;simp only [Cell.okWide,hu,Cell.ok] at hv
   | _=>first | (simp [Value.cells] at A;done) | simpa [Value.cells] using A
  subst G;exact ⟨[],by simp only [gC,List.flatten_nil,List.length_nil];exact ct.nil,by simp,by simp⟩
 ·have G:v=.slice (some a) len cap:=by
   cases v with
   | agg l=>exfalso;unfold Value.okWide at hv;rw [hu] at hv;simp only [Cell.okWide,hu,Cell.ok] at hv
   | _=>first | (simp [Value.cells] at A;done) | simpa [Value.cells] using A
  subst G;simp only [if_true] at vt;subst vt;have L:w.has P .any base a e m:=by
   unfold Value.okWide at hv;rw [hu] at hv;simp only [Cell.okWide,hu,Cell.ok] at hv;exact hv.2.2
  obtain ⟨_,B,row,cells,r,_⟩:=L;obtain ⟨b,o,sp⟩:=a;simp only at B;subst B;obtain ⟨c,R,fz,p⟩:∃ c R fz,w.heap[b]? = some (.cells c R fz):=by
   unfold World.shape? at r;split at r
   ·rename_i c R fz p;exact ⟨c,R,fz,p⟩
   ·cases r
  have M:b<w.heap.size:=by
   rcases Nat.lt_or_ge b w.heap.size with h | h
   ·exact h
   ·rw [Array.getElem?_eq_none h] at p;cases p
  have ab:=Vn p;have F:∀ i,i<m->∃ I,I=((c.toList.drop (o+i*k.length)).take k.length)/\I.length=k.length/\eF k (I.map (gC w.heap.size (MW w))):=by
   intro i hi;obtain ⟨cs',z,h2⟩:=hx i hi;rw [S] at z;obtain ⟨_,hlen,J⟩:=World.cells?_some z;have O:cs'=(c.toList.drop (o+i*k.length)).take k.length:=by
    apply List.ext_getElem?;intro j;rw [List.getElem?_take,List.getElem?_drop];split
    ·rename_i hj;rw [<- J j hj];simp only [World.cell?];have x:(((⟨b,o,none⟩:Addr).add (i*k.length)).add j).block=b/\(((⟨b,o,none⟩:Addr).add (i*k.length)).add j).off=o+i*k.length+j/\(((⟨b,o,none⟩:Addr).add (i*k.length)).add j).spot=none:=by
      unfold Addr.add;by_cases U:i*k.length=0 <;> by_cases z:j=0 <;> simp [U,z]
     rw [x.1,x.2.1,x.2.2,p];simp
    ·rw [List.getElem?_eq_none (by omega)]
   exact ⟨cs',O,hlen,Qv d e k n cs' _ _ _ Z h2⟩
  refine ⟨(List.range len).map fun i=>((c.toList.drop (o+i*k.length)).take k.length).map (gC w.heap.size (MW w)),?_,?_,?_⟩
  ·rw [List.length_map,List.length_range];by_cases U:len=0
   ·subst U;simp only [List.range_zero,List.map_nil,List.flatten_nil];simp only [gC];rw [if_pos ⟨M,by omega⟩];split <;> exact ct.nil
   ·have ho:o<c.size:=by
     obtain ⟨I,z,h2,_⟩:=F 0 (by omega);have:=congrArg List.length z;rw [h2,List.length_take,List.length_drop,Nat.zero_mul,Nat.add_zero,show c.toList.length=c.size from Array.length_toList] at this;omega
    simp only [gC];rw [if_pos ⟨M,by omega⟩,if_pos (by omega)];have W:((List.range len).map fun i=>((c.toList.drop (o+i*k.length)).take k.length).map (gC w.heap.size (MW w))).flatten=((c.toList.drop o).map (gC w.heap.size (MW w))).take (len*k.length):=by
     rw [chunks];congr 1;apply List.map_congr_left;intro i _;rw [List.map_take,<- List.map_drop,List.drop_drop]
    have Q:∀ v∈((c.toList.drop o).map (gC w.heap.size (MW w))).take (len*k.length),v.one=true:=by
     intro v hv;rw [<- W] at hv;obtain ⟨cc,K,X⟩:=List.mem_flatten.1 hv;obtain ⟨i,hi,rfl⟩:=List.mem_map.1 K;obtain ⟨I,z,_,h3⟩:=F i (by have:=List.mem_range.1 hi;omega);rw [z] at h3;exact h3.one v X
    refine ct.mk (Xa p (by omega)) ?_ ?_ hl
    ·rw [W,List.length_take,List.length_map,List.length_drop,show c.toList.length=c.size from Array.length_toList];obtain ⟨I,z,h2,_⟩:=F (len - 1) (by omega);have:=congrArg List.length z;rw [h2,List.length_take,List.length_drop,show c.toList.length=c.size from Array.length_toList] at this;have e:(len - 1)*k.length+k.length=len*k.length:=by
      rw [<- Nat.succ_mul];congr 1;omega
     omega
    ·rw [List.drop_zero];unfold win;rw [wB _ _ Q,W]
  ·intro cc K;obtain ⟨i,hi,rfl⟩:=List.mem_map.1 K;obtain ⟨I,z,_,h3⟩:=F i (by have:=List.mem_range.1 hi;omega);rw [z] at h3;exact h3
  ·rw [List.length_map,List.length_range];omega
end
end Go.Am
end
