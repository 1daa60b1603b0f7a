/-
  A part of O4 proof: an abstract machine Bo O4 model, and qi of qj of this program Bo it.
-/
import Derived.Attr
import Derived.ProofKit
import Derived.Lib.Overlaps
import Derived.OpenShut
import Derived.Deep.Slices
import Derived.Carry
import Derived.Test.YtohgmogbabkkeaaGreatP1
set_option linter.unusedVariables false
set_option linter.unusedSimpArgs false
set_option linter.unusedSectionVars false
section
namespace Go.Am
def Ext (s s':AS):Prop:=(∀ l o,s.h l=some o->s'.h l=some o)/\s.nl<=s'.nl
theorem Ext.refl (s:AS):Ext s s:=⟨fun _ _ h=>h,Nat.le_refl _⟩
theorem Ext.trans {a b c:AS} (h:Ext a b) (d:Ext b c):Ext a c:=⟨fun l o e=>d.1 l o (h.1 l o e),Nat.le_trans h.2 d.2⟩
def aM (s:AS):Prop:=1<=s.st/\∀ k,s.h (s.nl+k*s.st)=none
theorem Rel.Mh {B:Nat} {γ:bM} {s:AS} {w:World} (h:Rel B γ s w):aM s:=by
 refine ⟨h.QC,fun k=>?_⟩;cases b:s.h (s.nl+k*s.st) with
 | none=>rfl
 | some p =>
  obtain ⟨j,hj,_⟩:=h.obj _ p b;rw [h.fin k] at hj;cases hj
def lQ:Op->Bool
 | .move _ | .assign _ | .pick .. | .nilCheck _ | .binOp .. | .unOp .. | .fieldAddr .. | .field .. | .indexAddr .. | .index .. | .slice .. | .extract .. | .load .. | .lookup .. | .makeInterface .. | .makeFunc .. | .convert .. | .build ..=>true
 | .call c=>match c.callee with
  | .builtin .len | .builtin .cap | .builtin .max | .builtin .min=>true
  | _=>false
 | _=>false
theorem Om {s s':AS} (h:Ext s s') {l o n:Nat} {cs:List AV} (hr:aD s l o n=some cs):aD s' l o n=some cs:=by
 unfold aD at hr ⊢;cases b:s.h l with
 | none=>simp [b] at hr
 | some x=>rw [h.1 l x b];rw [b] at hr;exact hr
theorem Te {s s':AS} (h:Ext s s') {l o:Nat} {v:AV} (hr:av s l o=some v):av s' l o=some v:=by
 unfold av at hr ⊢;cases b:s.h l with
 | none=>simp [b] at hr
 | some x=>rw [h.1 l x b];rw [b] at hr;exact hr
theorem Tf {s s':AS} (h:Ext s s') {T:TT} {t:TypeId} {p v:AV} (hr:Gc T t s p=some v):Gc T t s' p=some v:=by
 unfold Gc at hr ⊢;split at hr
 ·rename_i l o;split at hr
  ·rename_i c;cases hs:T.eU t with
   | none=>simp [hs] at hr
   | some n =>
    simp only [hs,Option.bind_some,Option.map_eq_some_iff] at hr ⊢;obtain ⟨cs,b,e⟩:=hr;exact ⟨cs,Om h b,e⟩
  ·rename_i c;exact Te h hr
  ·cases hr
 ·cases hr
theorem Pc {s s':AS} (h:Ext s s') {T:TT} {t:TypeId} {x v:AV} (hr:aQ T t x s=some v):aQ T t x s'=some v:=by
 unfold aQ at hr ⊢;split at hr <;> try (first | exact hr | (cases hr;done))
 rename_i l _;cases b:s.h l with
 | none=>simp [b] at hr
 | some o=>rw [h.1 l o b];rw [b] at hr;exact hr
theorem Br {T:TT} {op:Op} (p:lQ op=true) {ρ:Operand->AV} {s s':AS} {v:AV} (D:1<=s.st) (h:cF T op ρ s=some (v,s)) (k:Ext s s'):cF T op ρ s'=some (v,s'):=by
 cases op <;> (first | (cases p;done) | skip)
 case move x=>simp only [cF] at h ⊢;simpa using h
 case assign x=>simp only [cF] at h ⊢;simpa using h
 case pick c a b=>simp only [cF] at h ⊢;split at h <;> simp_all
 case build t parts=>simp only [cF,Option.map_eq_some_iff] at h ⊢;obtain ⟨u,hu,e⟩:=h;exact ⟨u,hu,by simp_all⟩
 case load t x=>simp only [cF,Option.map_eq_some_iff] at h ⊢;obtain ⟨u,hu,e⟩:=h;exact ⟨u,Tf k hu,by simp_all⟩
 case nilCheck x=>simp only [cF] at h ⊢;split at h <;> simp_all
 case binOp op t x y H =>
  simp only [cF] at h ⊢;split at h
  ·rename_i F;rw [if_pos F];simp only [Option.map_eq_some_iff] at h ⊢;obtain ⟨u,hu,e⟩:=h;exact ⟨u,hu,by simp_all⟩
  ·cases h
 case unOp op t x=>simp only [cF,Option.map_eq_some_iff] at h ⊢;obtain ⟨u,hu,e⟩:=h;exact ⟨u,hu,by simp_all⟩
 case convert src dst x =>
  simp only [cF] at h ⊢;unfold cO at h ⊢;split at h
  ·simp_all
  ·simp_all
  ·split at h
   ·simp only [Option.some.injEq,Prod.mk.injEq] at h;have:s.nl+s.st=s.nl:=congrArg AS.nl h.2;omega
   ·cases h
  ·split at h
   ·split at h <;> simp_all
   ·cases h
  ·split at h <;> simp_all
  ·split at h
   ·rename_i hu;split at h
    ·rename_i j;rw [if_pos j];simp only [Option.some.injEq,Prod.mk.injEq] at h ⊢;exact ⟨h.1,trivial⟩
    rename_i j;rw [if_neg j];simp only [Option.bind_eq_some_iff,Option.map_eq_some_iff] at h ⊢;obtain ⟨cs,w,bs,z,e⟩:=h;exact ⟨cs,Om k w,bs,z,by simp_all⟩
   ·cases h
  ·split at h
   ·rename_i A;rw [if_pos A];split at h
    ·rename_i hu n;rw [hu,k.1 _ _ n];simp only [Option.some.injEq,Prod.mk.injEq] at h ⊢;exact ⟨h.1,trivial⟩
    ·cases h
   ·cases h
  ·cases h
 case makeInterface t x=>simp only [cF] at h ⊢;split at h <;> simp_all
 case makeFunc fn first captured =>
  cases fn with
  | func g=>simp only [cF] at h ⊢;split at h <;> simp_all
  | _=>simp [cF] at h
 case slice t x lo hi I=>simp only [cF,Option.map_eq_some_iff] at h ⊢;obtain ⟨u,hu,e⟩:=h;exact ⟨u,hu,by simp_all⟩
 case fieldAddr t x f=>simp only [cF,Option.map_eq_some_iff] at h ⊢;obtain ⟨u,hu,e⟩:=h;exact ⟨u,hu,by simp_all⟩
 case field t x f=>simp only [cF,Option.map_eq_some_iff] at h ⊢;obtain ⟨u,hu,e⟩:=h;exact ⟨u,hu,by simp_all⟩
 case indexAddr t x ix=>simp only [cF,Option.map_eq_some_iff] at h ⊢;obtain ⟨u,hu,e⟩:=h;exact ⟨u,hu,by simp_all⟩
 case index t x ix=>simp only [cF,Option.map_eq_some_iff] at h ⊢;obtain ⟨u,hu,e⟩:=h;exact ⟨u,hu,by simp_all⟩
 case lookup t x ix ok =>
  simp only [cF,Option.map_eq_some_iff] at h ⊢;obtain ⟨u,hu,e⟩:=h;refine ⟨u,?_,by simp_all⟩;unfold dh at hu ⊢;split at hu
  ·rename_i kt et r ht _;split at hu
   ·rename_i B;rw [if_pos B];simp only [Option.bind_eq_some_iff] at hu ⊢;obtain ⟨es,d,rest⟩:=hu;refine ⟨es,?_,rest⟩;cases r with
    | none=>exact d
    | some l =>
     simp only at d ⊢;cases n:s.h l with
     | none=>simp [n] at d
     | some o=>rw [k.1 l o n];rw [n] at d;exact d
   ·cases hu
  ·cases hu
 case extract t i =>
  simp only [cF] at h ⊢;split at h
  ·rename_i vs G;simp only [Option.map_eq_some_iff] at h ⊢;obtain ⟨u,hu,e⟩:=h;exact ⟨u,hu,by simp_all⟩
  ·cases h
 case call c =>
  simp only [lQ] at p;simp only [cF] at h ⊢;cases C:c.callee with
  | value x=>simp [C] at h
  | invoke x m=>simp [C] at h
  | builtin b =>
   simp only [C] at h p ⊢;generalize c.argTypes.toList=ts at h ⊢;generalize c.args.toList.map ρ=args at h ⊢;cases b <;> first | (cases p;done) | skip
   ·cases ts with
    | nil=>simp [dX] at h
    | cons t ts =>
     cases args with
     | nil=>simp [dX] at h
     | cons x xs =>
      simp only [dX,Option.map_eq_some_iff] at h ⊢;obtain ⟨u,hu,e⟩:=h;exact ⟨u,hu,by simp_all⟩
   ·cases ts with
    | nil=>simp [dX] at h
    | cons t ts =>
     cases args with
     | nil=>simp [dX] at h
     | cons x xs =>
      simp only [dX,Option.map_eq_some_iff] at h ⊢;obtain ⟨u,hu,e⟩:=h;exact ⟨u,Pc k hu,by simp_all⟩
   ·simp only [dX,Option.map_eq_some_iff] at h ⊢;obtain ⟨u,hu,e⟩:=h;exact ⟨u,hu,by simp_all⟩
   ·simp only [dX,Option.map_eq_some_iff] at h ⊢;obtain ⟨u,hu,e⟩:=h;exact ⟨u,hu,by simp_all⟩
def gQ (ops:Array Oper) (j i:Nat):Bool:=((Region.before ops).getD i 0).testBit j
theorem Kc (acc:Array Nat) (j:Nat):∀ (l:List Edge) (s:Nat),(l.foldl (fun s e=>if Region.binds .any e then s ||| 2 ^ e.on ||| acc.getD e.on 0 else s) s).testBit j=true ->
  s.testBit j=true\/∃ e∈l,Region.binds .any e=true/\(e.on=j\/(acc.getD e.on 0).testBit j=true)
 | [],s,h=>.inl h
 | e::l,s,h=>by
  simp only [List.foldl_cons] at h;rcases Kc acc j l _ h with b | ⟨d,c,h2⟩
  ·split at b
   ·rename_i hb;simp only [Nat.testBit_or,Bool.or_eq_true] at b;rcases b with (b | b) | b
    ·exact .inl b
    ·refine .inr ⟨e,by simp,hb,.inl ?_⟩;rw [Nat.testBit_two_pow] at b;simpa using b
    ·exact .inr ⟨e,by simp,hb,.inr b⟩
   ·exact .inl b
  ·exact .inr ⟨d,by simp [c],h2⟩
theorem CG (j:Nat):∀ (l:List Oper) (acc:Array Nat),
  let r:=l.foldl (fun acc o=>acc.push (o.after.foldl (fun s e=>if Region.binds .any e then s ||| 2 ^ e.on ||| acc.getD e.on 0 else s) 0)) acc
  (∀ i,i<acc.size->r.getD i 0=acc.getD i 0)/\(∀ (k:Nat) o,l[k]? = some o->(r.getD (acc.size+k) 0).testBit j=true ->
   ∃ e∈o.after.toList,Region.binds .any e=true/\(e.on=j\/(e.on<acc.size+k/\(r.getD e.on 0).testBit j=true)))/\r.size=acc.size+l.length
 | [],acc=>by simp
 | o::l,acc=>by
  simp only [List.foldl_cons];obtain ⟨c,h2,h3⟩:=CG j l (acc.push (o.after.foldl (fun s e=>if Region.binds .any e then s ||| 2 ^ e.on ||| acc.getD e.on 0 else s) 0));generalize hr:l.foldl (fun acc o=>acc.push (o.after.foldl (fun s e=>if Region.binds .any e then s ||| 2 ^ e.on ||| acc.getD e.on 0 else s) 0)) (acc.push (o.after.foldl (fun s e=>if Region.binds .any e then s ||| 2 ^ e.on ||| acc.getD e.on 0 else s) 0))=r at c h2 h3;simp only [Array.size_push] at c h2 h3;have hold:∀ i,i<acc.size->r.getD i 0=acc.getD i 0:=by
   intro i hi;rw [c i (by omega)];simp only [Array.getD_eq_getD_getElem?,Array.getElem?_push];rw [if_neg (by omega)]
  refine ⟨hold,fun k o' w hb=>?_,by simp only [List.length_cons];omega⟩;cases k with
  | zero =>
   obtain rfl:o=o':=by simpa using w
   rw [Nat.add_zero,c acc.size (by omega)] at hb;simp only [Array.getD_eq_getD_getElem?,Array.getElem?_push,if_true,Option.getD_some] at hb;rw [<- Array.foldl_toList] at hb;have d:(o.after.toList.foldl (fun s e=>if Region.binds .any e then s ||| 2 ^ e.on ||| acc.getD e.on 0 else s) 0).testBit j=true:=by
    simpa only [Array.getD_eq_getD_getElem?] using hb
   rcases Kc acc j _ _ d with h | ⟨e,m,b,h⟩
   ·simp at h
   ·refine ⟨e,m,b,?_⟩;rcases h with h | h
    ·exact .inl h
    ·right;have n:e.on<acc.size:=by
      rcases Nat.lt_or_ge e.on acc.size with p | p
      ·exact p
      ·simp [Array.getD_eq_getD_getElem?,Array.getElem?_eq_none p] at h
     exact ⟨by omega,by rw [hold _ n];exact h⟩
  | succ k =>
   have:=h2 k o' (by simpa using w) (by rw [show acc.size+1+k=acc.size+(k+1) by omega];exact hb);obtain ⟨e,m,b,h⟩:=this;exact ⟨e,m,b,h.imp id fun ⟨x,hb⟩=>⟨by omega,hb⟩⟩
theorem MD {ops:Array Oper} {j i:Nat} {o:Oper} (b:ops[i]? = some o) (h:gQ ops j i=true):∃ e∈o.after.toList,Region.binds .any e=true/\(e.on=j\/(e.on<i/\gQ ops j e.on=true)):=by
 obtain ⟨_,h2,_⟩:=CG j ops.toList #[];have hb:Region.before ops=ops.toList.foldl (fun acc o=>acc.push (o.after.foldl (fun s e=>if Region.binds .any e then s ||| 2 ^ e.on ||| acc.getD e.on 0 else s) 0)) #[]:=by
  unfold Region.before;rw [<- Array.foldl_toList]
 unfold gQ at h ⊢;rw [hb] at h ⊢;have:=h2 i o (by simpa using b) (by simpa using h);simpa using this
def Down (ops:Array Oper) (listed:Array Bool):Prop:=∀ (i:Nat) o,ops[i]? = some o->listed.getD i false=true->∀ e∈o.after.toList,Region.binds .any e=true->listed.getD e.on false=true
theorem ji {ops:Array Oper} {listed:Array Bool} (hd:Down ops listed) {j:Nat}:∀ (i:Nat) (o:Oper),ops[i]? = some o->(∀ e∈o.after.toList,Region.binds .any e=true->listed.getD e.on false=true)->gQ ops j i=true->listed.getD j false=true:=by
 intro i
 induction i using Nat.strongRecOn with
 | _ i m =>
  intro o k l n;obtain ⟨e,c,hb,h⟩:=MD k n;rcases h with rfl | ⟨d,h⟩
  ·exact l e c hb
  ·have p:=l e c hb;cases b:ops[e.on]? with
   | none =>
    have hi:i<ops.size:=by
     rcases Nat.lt_or_ge i ops.size with h | h
     ·exact h
     ·simp [Array.getElem?_eq_none h] at k
    rw [Array.getElem?_eq_getElem (by omega)] at b;cases b
   | some o'=>exact m e.on d o' b (hd e.on o' b p) h
def Bs (P:Program) (T:TT) (o:Oper) (f:Fr) (s:AS) (R:AV->AS->Prop):Prop :=
 match eW f o.op with
 | some (g,args)=>aa P g args s R
 | none=>∃ v s',cF T o.op (oU f) s=some (v,s')/\R v s'
theorem lf {P:Program} {T:TT} {n:Nat} {o:Oper} {f:Fr} {s:AS} {R:AV->AS->Prop} {K:Fr->AS->Prop} (hd:dY n o.dst=true) (h:Bs P T o f s R) (c:∀ v s',R v s'->K (bN f o.dst v) s'):Es P T n o f s K:=by
 refine ⟨hd,.inl ?_⟩;unfold Bs at h;split
 ·rename_i g args b;rw [b] at h;exact h.mono c
 ·rename_i b;rw [b] at h;obtain ⟨v,s',d,h2⟩:=h;exact ⟨v,s',d,c _ _ h2⟩
abbrev jQ:=List (Nat×(AS->Prop))
def keyOf (f:Fr) (o:Oper):List AV:=o.op.operands.toList.map (oU f)
section
variable (P:Program) (T:TT) (n:Nat) (ops:Array Oper) (A:List (List Nat)) (H:List Nat) (V:Nat->List AV->AV->Prop) (S:Nat->List AV->AV->AS->Prop) (X:AS->AS->Prop) (C:Nat->List AV->AV->AS->Prop) (M:List Nat) (s:AS)
def mS (i:Nat) (k:List AV) (v:AV) (c:AS->Prop):AS->Prop:=if M.contains i then C i k v else c
def rZ (i:Nat) (o:Oper) (f:Fr) (F:jQ) (c:AS->Prop) (K':Fr->jQ->(AS->Prop)->Prop):Prop :=
 dY n o.dst=true /\
 match cY ops f o with
 | none=>False
 | some false=>M.contains i=false/\K' (bN f o.dst .undef) F c
 | some true =>
  if H.contains i then
   (∀ s',X s s'->aM s'->(∀ p∈F,(A.getD i []).contains p.1=true->p.2 s')->(M.contains i=true->c s')->Bs P T o f s' fun v s''=>(if M.contains i then X s' s''/\C i (keyOf f o) v s'' else Ext s' s'')/\S i (keyOf f o) v s''/\V i (keyOf f o) v) /\
   (∃ v,V i (keyOf f o) v)/\∀ v,V i (keyOf f o) v->K' (bN f o.dst v) (F++[(i,S i (keyOf f o) v)]) (mS C M i (keyOf f o) v c)
  else M.contains i=false/\lQ o.op=true/\∃ v,(cF T o.op (oU f) s=some (v,s)/\∀ s',X s s'->aM s'->cF T o.op (oU f) s'=some (v,s'))/\K' (bN f o.dst v) F c
def dq (K:Fr->AS->Prop):List Nat->Fr->jQ->(AS->Prop)->Prop
 | [],f,F,c=>∀ s',X s s'->aM s'->(∀ p∈F,p.2 s')->c s'->(H=[]->s'=s)->K f s'
 | i::is,f,F,c=>match ops[i]? with
  | some o=>rZ P T n ops A H V S X C M s i o f F c (dq K is)
  | none=>False
abbrev VP (K:Fr->AS->Prop) (is:List Nat) (f:Fr) (F:jQ):=dq P T n ops A H V S Ext (fun _ _ _ _=>True) [] s K is f F (fun _=>True)
end
section
variable {P:Program} {T:TT} {n:Nat} {ops:Array Oper} {A:List (List Nat)} {H:List Nat} {V:Nat->List AV->AV->Prop} {S:Nat->List AV->AV->AS->Prop} {X:AS->AS->Prop} {C:Nat->List AV->AV->AS->Prop} {M:List Nat} {s:AS} {K:Fr->AS->Prop}
theorem rZ.mono {i:Nat} {o:Oper} {f:Fr} {F:jQ} {c:AS->Prop} {j K2:Fr->jQ->(AS->Prop)->Prop} (h:rZ P T n ops A H V S X C M s i o f F c j) (d:∀ f F c,j f F c->K2 f F c):rZ P T n ops A H V S X C M s i o f F c K2:=by
 obtain ⟨hd,h⟩:=h;refine ⟨hd,?_⟩;split
 ·rename_i b;rw [b] at h;exact h
 ·rename_i b;rw [b] at h;exact ⟨h.1,d _ _ _ h.2⟩
 ·rename_i b;rw [b] at h;simp only at h;split
  ·rename_i e;rw [if_pos e] at h;exact ⟨h.1,h.2.1,fun v hv=>d _ _ _ (h.2.2 v hv)⟩
  ·rename_i e;rw [if_neg e] at h;obtain ⟨k,l,v,h2,h3⟩:=h;exact ⟨k,l,v,h2,d _ _ _ h3⟩
theorem zM {K K':Fr->AS->Prop} (d:∀ f s,K f s->K' f s):∀ (is:List Nat) (f:Fr) (F:jQ) (c:AS->Prop),dq P T n ops A H V S X C M s K is f F c->dq P T n ops A H V S X C M s K' is f F c
 | [],f,F,c,h=>fun s' e h2 h3 h4 j=>d _ _ (h s' e h2 h3 h4 j)
 | i::is,f,F,c,h=>by
  simp only [dq] at h ⊢;split
  ·rename_i o b;rw [b] at h;exact rZ.mono h fun f F c k=>zM d is f F c k
  ·rename_i b;rw [b] at h;exact h
theorem zN:∀ (is:List Nat) (f:Fr) (F F':jQ) (c:AS->Prop),(∀ p,p∈F↔p∈F')->dq P T n ops A H V S X C M s K is f F c->dq P T n ops A H V S X C M s K is f F' c
 | [],f,F,F',c,d,h=>fun s' j b k=>h s' j b fun p hm=>k p ((d p).1 hm)
 | i::is,f,F,F',c,d,h=>by
  simp only [dq] at h ⊢;cases m:ops[i]? with
  | none=>rw [m] at h;exact h
  | some o =>
   rw [m] at h;obtain ⟨hd,h⟩:=h;refine ⟨hd,?_⟩;split
   ·rename_i e;rw [e] at h;exact h
   ·rename_i e;rw [e] at h;exact ⟨h.1,zN is _ F F' _ d h.2⟩
   ·rename_i e;rw [e] at h;simp only at h;split
    ·rename_i l;rw [if_pos l] at h;refine ⟨fun s' j b k=>h.1 s' j b fun p hm=>k p ((d p).1 hm),h.2.1,fun v hv=>zN is _ _ _ _ ?_ (h.2.2 v hv)⟩;intro p;simp [d]
    ·rename_i l;rw [if_neg l] at h;obtain ⟨r,w,v,h2,h3⟩:=h;exact ⟨r,w,v,h2,zN is _ F F' _ d h3⟩
theorem Pd {T:TT} {op:Op} {ρ d:Operand->AV} (h:∀ x∈op.operands,ρ x=d x) (s:AS):cF T op ρ s=cF T op d s:=by
 have w:∀ (l:List Operand),(∀ x∈l,ρ x=d x)->l.map ρ=l.map d:=fun l w=>List.map_congr_left w;have z:∀ (o:Option Operand),(∀ x∈o,ρ x=d x)->o.map ρ=o.map d:=by
  intro o z;cases o with
  | none=>rfl
  | some x=>simp [z x (by simp)]
 have A:∀ (l:List (Nat×Operand)),(∀ x∈l.map (·.2),ρ x=d x)->(l.map fun p=>(p.1,ρ p.2))=(l.map fun p=>(p.1,d p.2)):=by
  intro l w;refine List.map_congr_left fun p hm=>?_;rw [w p.2 (List.mem_map.2 ⟨p,hm,rfl⟩)]
 cases op with
 | move x=>simp only [cF,h x (by simp [Op.operands])]
 | assign x=>simp only [cF,h x (by simp [Op.operands])]
 | pick c a b=>simp only [cF,h c (by simp [Op.operands]),h a (by simp [Op.operands]),h b (by simp [Op.operands])]
 | box t x=>simp only [cF,h x (by simp [Op.operands])]
 | load t x=>simp only [cF,h x (by simp [Op.operands])]
 | nilCheck x=>simp only [cF,h x (by simp [Op.operands])]
 | unOp o t x=>simp only [cF,h x (by simp [Op.operands])]
 | convert t u x=>simp only [cF,h x (by simp [Op.operands])]
 | makeInterface t x=>simp only [cF,h x (by simp [Op.operands])]
 | fieldAddr t x f=>simp only [cF,h x (by simp [Op.operands])]
 | field t x f=>simp only [cF,h x (by simp [Op.operands])]
 | extract x i=>simp only [cF,h x (by simp [Op.operands])]
 | range t x=>simp only [cF,h x (by simp [Op.operands])]
 | entry x=>simp only [cF,h x (by simp [Op.operands])]
 | sliceToArrayPointer t x=>simp only [cF,h x (by simp [Op.operands])]
 | build t ps=>simp only [cF];rw [A ps.toList (by intro x e;exact h x (by simpa [Op.operands] using e))]
 | buildSlice t n ps=>simp only [cF];rw [A ps.toList (by intro x e;exact h x (by simpa [Op.operands] using e))]
 | store t a v=>simp only [cF,h a (by simp [Op.operands]),h v (by simp [Op.operands])]
 | binOp o t a v u=>simp only [cF,h a (by simp [Op.operands]),h v (by simp [Op.operands])]
 | makeSlice t a v=>simp only [cF,h a (by simp [Op.operands]),h v (by simp [Op.operands])]
 | indexAddr t a v=>simp only [cF,h a (by simp [Op.operands]),h v (by simp [Op.operands])]
 | index t a v=>simp only [cF,h a (by simp [Op.operands]),h v (by simp [Op.operands])]
 | lookup t a v ok=>simp only [cF,h a (by simp [Op.operands]),h v (by simp [Op.operands])]
 | mapUpdate t m k v=>simp only [cF,h m (by simp [Op.operands]),h k (by simp [Op.operands]),h v (by simp [Op.operands])]
 | insert t m k v=>simp only [cF,h m (by simp [Op.operands]),h k (by simp [Op.operands]),h v (by simp [Op.operands])]
 | slice t x lo hi B =>
  simp only [cF,h x (by simp [Op.operands])];rw [z lo (by intro y j;exact h y (by simp [Op.operands];simp at j;simp [j])),z hi (by intro y j;exact h y (by simp [Op.operands];simp at j;simp [j])),z B (by intro y j;exact h y (by simp [Op.operands];simp at j;simp [j]))]
 | makeFunc fn first captured =>
  cases fn with
  | func g=>simp only [cF];rw [w captured.toList (by intro x e;exact h x (by simp only [Op.operands,Array.mem_append];exact .inr (by simpa using e))),w first.toList (by intro x e;exact h x (by simp only [Op.operands,Array.mem_append];exact .inl (by simpa using e)))]
  | _=>rfl
 | makeMap t r=>cases r <;> rfl
 | call c =>
  simp only [cF];cases C:c.callee with
  | builtin b =>
   simp only;rw [w c.args.toList (by intro x e;exact h x (by simp only [Op.operands,Call.operands,C,Array.mem_append];exact .inr (by simpa using e)))]
  | _=>rfl
 | _=>rfl
theorem Ke {f:Fr} {d:Option Nat} {v:AV} {x:Operand} (h:∀ t,d=some t->x≠.tmp t):oU (bN f d v) x=oU f x:=by
 cases x with
 | tmp t =>
  cases d with
  | none=>rfl
  | some d=>simp only [oU,bN];exact QH f v (fun e=>h d rfl (by rw [e]))
 | _=>cases d <;> rfl
theorem ff {o:Oper} {f:Fr} {d:Option Nat} {v:AV} (h:∀ t,d=some t->t ∉ o.looksAt ops):cY ops (bN f d v) o=cY ops f o/\eW (bN f d v) o.op=eW f o.op/\∀ s,cF T o.op (oU (bN f d v)) s=cF T o.op (oU f) s:=by
 have b:∀ x∈o.op.operands,oU (bN f d v) x=oU f x:=by
  intro x i;refine Ke fun t ht e=>h t ht ?_;subst e;simp only [Oper.looksAt,List.mem_append,List.mem_filterMap];exact .inl ⟨.tmp t,by simpa using i,rfl⟩
 refine ⟨?_,?_,?_⟩
 ·unfold cY;cases l:o.guard with
  | none=>rfl
  | some p =>
   obtain ⟨j,want⟩:=p;simp only;cases hd:(ops[j]?).bind (·.dst) with
   | none=>rfl
   | some t =>
    simp only;have ht:bN f d v t=f t:=by
     cases d with
     | none=>rfl
     | some d =>
      simp only [bN];refine QH f v fun e=>h d rfl ?_;subst e;simp only [Oper.looksAt,List.mem_append,l,hd];right;simp
    rw [ht]
 ·unfold eW;cases m:o.op <;> try rfl
  rename_i c;simp only;rw [m] at b;cases k:c.callee with
  | value x =>
   simp only;have i:=b x (by simp [Op.operands,Call.operands,k]);have n:c.args.toList.map (oU (bN f d v))=c.args.toList.map (oU f):=by
    refine List.map_congr_left fun y r=>b y ?_;simp only [Op.operands,Call.operands,k,Array.mem_append];exact .inr (by simpa using r)
   rw [i,n]
  | _=>rfl
 ·intro s
  revert b
  generalize oU (bN f d v)=ρ;generalize oU f=w;intro b;exact Pd b s
theorem qx {o:Oper} {f:Fr} {d:Option Nat} {v:AV} (h:∀ t,d=some t->t ∉ o.looksAt ops):keyOf (bN f d v) o=keyOf f o:=by
 refine List.map_congr_left fun x b=>Ke fun t ht e=>h t ht ?_;subst e;simp only [Oper.looksAt,List.mem_append,List.mem_filterMap];exact .inl ⟨.tmp t,by simpa using b,rfl⟩
theorem Bt {f:Fr} {d e:Option Nat} {u v:AV} (h:∀ t,d=some t->e≠some t):bN (bN f d u) e v=bN (bN f e v) d u:=by
 cases d with
 | none=>rfl
 | some d =>
  cases e with
  | none=>rfl
  | some e =>
   have b:e≠d:=fun x=>h d rfl (by rw [x]);funext t;simp only [bN,oW];by_cases c:t=e
   ·subst c;rw [if_pos rfl,if_neg b,if_pos rfl]
   ·rw [if_neg c];by_cases h2:t=d
    ·subst h2;rw [if_pos rfl,if_pos rfl]
    ·rw [if_neg h2,if_neg h2,if_neg c]
def Tg (ops:Array Oper) (A:List (List Nat)) (i j:Nat) (b oj:Oper):Prop :=
 b.apart ops oj=true/\(A.getD j []).contains i=false/\(A.getD i []).contains j=false
theorem v_ {o:Oper} {f:Fr} {d:Option Nat} {v:AV} (h:∀ t,d=some t->t ∉ o.looksAt ops) {s:AS} {R:AV->AS->Prop}:Bs P T o (bN f d v) s R↔Bs P T o f s R:=by
 obtain ⟨_,h2,h3⟩:=ff (T:=T) (ops:=ops) (f:=f) (v:=v) h;unfold Bs;rw [h2];constructor
 ·intro c;split at c
  ·exact c
  ·obtain ⟨v,s',a,b⟩:=c;exact ⟨v,s',by rw [<- h3];exact a,b⟩
 ·intro c;split at c
  ·exact c
  ·obtain ⟨v,s',a,b⟩:=c;exact ⟨v,s',by rw [h3];exact a,b⟩
theorem ME {i j:Nat} (h:M.contains i=true->M.contains j=false) (k k':List AV) (v v':AV) (c:AS->Prop):mS C M i k v (mS C M j k' v' c)=mS C M j k' v' (mS C M i k v c):=by
 unfold mS;cases hi:M.contains i with
 | false=>simp
 | true=>rw [h hi];simp
theorem zO {j : Nat} {oj : Oper} (Y : ops[j]? = some oj) : ∀ (pre post : List Nat) (f : Fr) (F : jQ) (c : AS -> Prop), (∀ i ∈ pre, ∀ r, ops[i]? = some r -> Tg ops A i j r oj) -> (∀ i ∈ pre, M.contains i = true -> M.contains j = false) ->
    dq P T n ops A H V S X C M s K (pre ++ j :: post) f F c -> rZ P T n ops A H V S X C M s j oj f F c (dq P T n ops A H V S X C M s K (pre ++ post))
  | [], post, f, F, c, _, _, h => by simpa only [List.nil_append, dq, Y] using h
  | i :: pre, post, f, F, c, L, ao, h => by
    simp only [List.cons_append, dq] at h ⊢;cases ab : ops[i]? with
    | none => rw [ab] at h; exact h.elim
    | some r =>
      rw [ab] at h;simp only at h;obtain ⟨aw, a0, a6⟩ := L i (by simp) r ab;obtain ⟨w, a1, ad⟩ := Oper.apart_spec aw;have B : ∀ i ∈ pre, ∀ r, ops[i]? = some r -> Tg ops A i j r oj := fun i hi => L i (List.mem_cons_of_mem _ hi);have O : ∀ i ∈ pre, M.contains i = true -> M.contains j = false := fun i hi => ao i (List.mem_cons_of_mem _ hi);have Q := ao i (by simp);have a2 : ∀ k v, M.contains i = false -> ∀ c, mS C M i k v c = c := fun k v h c => by simp only [mS, h, Bool.false_eq_true, if_false]
      have back : ∀ (u : AV) (D : jQ) (c2 : AS -> Prop), (∀ p ∈ D, (A.getD j []).contains p.1 = true -> p ∈ F) -> (M.contains j = true -> c2 = c) -> ∀ K1 K2 : Fr -> jQ -> (AS -> Prop) -> Prop,
          rZ P T n ops A H V S X C M s j oj (bN f r.dst u) D c2 K1 ->
          ((dY n oj.dst = true /\ cY ops f oj = some false /\ M.contains j = false) \/
           (dY n oj.dst = true /\ cY ops f oj = some true /\ H.contains j = true /\ (∀ s', X s s' -> aM s' -> (∀ p ∈ F, (A.getD j []).contains p.1 = true -> p.2 s') -> (M.contains j = true -> c s') -> Bs P T oj f s' fun v s'' => (if M.contains j then X s' s'' /\ C j (keyOf f oj) v s'' else Ext s' s'') /\ S j (keyOf f oj) v s'' /\ V j (keyOf f oj) v) /\ ∃ v, V j (keyOf f oj) v) \/
           (dY n oj.dst = true /\ cY ops f oj = some true /\ H.contains j = false /\ M.contains j = false /\ lQ oj.op = true /\ ∃ v, cF T oj.op (oU f) s = some (v, s) /\ ∀ s', X s s' -> aM s' -> cF T oj.op (oU f) s' = some (v, s'))) := by
        intro u D c2 ae al K1 K2 hs;obtain ⟨hd, hs⟩ := hs;obtain ⟨l1, l2, l3⟩ := ff (T := T) (ops := ops) (o := oj) (f := f) (d := r.dst) (v := u) w;rw [l1, qx (ops := ops) w] at hs;cases x : cY ops f oj with
        | none => rw [x] at hs; exact hs.elim
        | some b =>
          rw [x] at hs;cases b with
          | false => exact .inl ⟨hd, rfl, hs.1⟩
          | true =>
            simp only at hs;by_cases z : H.contains j = true
            · rw [if_pos z] at hs;refine .inr (.inl ⟨hd, rfl, z, fun s' G I R => ?_, hs.2.1⟩);exact fun hm => (v_ w).1 (hs.1 s' G I (fun p hm hc => R p (ae p hm hc) hc) fun hj => by rw [al hj]; exact hm hj)
            · rw [if_neg z] at hs;obtain ⟨h0, h1, v, h2, _⟩ := hs;exact .inr (.inr ⟨hd, rfl, by simpa using z, h0, h1, v, by rw [<- l3]; exact h2.1, fun s' G x => by rw [<- l3]; exact h2.2 s' G x⟩)
      have li := fun (u : AV) => ff (T := T) (ops := ops) (o := r) (f := f) (d := oj.dst) (v := u) ad;have J : ∀ u v, bN (bN f r.dst u) oj.dst v = bN (bN f oj.dst v) r.dst u := fun u v => Bt a1;obtain ⟨am, h⟩ := h;cases U : cY ops f r with
      | none => rw [U] at h; exact h.elim
      | some bi =>
        rw [U] at h;cases bi with
        | false =>
          simp only at h;obtain ⟨h0, h⟩ := h;have m := zO Y pre post _ F c B O h;have y : ∀ v D c2, dq P T n ops A H V S X C M s K (pre ++ post) (bN (bN f r.dst .undef) oj.dst v) D c2 -> rZ P T n ops A H V S X C M s i r (bN f oj.dst v) D c2 (dq P T n ops A H V S X C M s K (pre ++ post)) := by
            intro v D c2 z;refine ⟨am, ?_⟩;rw [(li v).1, U];simp only;rw [<- J]; exact ⟨h0, z⟩
          obtain ⟨l1, l2, l3⟩ := ff (T := T) (ops := ops) (o := oj) (f := f) (d := r.dst) (v := .undef) w;obtain ⟨hd, m⟩ := m;refine ⟨hd, ?_⟩;rw [l1, qx (ops := ops) w] at m;cases x : cY ops f oj with
          | none => rw [x] at m; exact m
          | some b =>
            rw [x] at m;cases b with
            | false => exact ⟨m.1, y _ _ _ m.2⟩
            | true =>
              simp only at m ⊢;by_cases z : H.contains j = true
              · rw [if_pos z] at m ⊢;exact ⟨fun s' G I R hm => (v_ w).1 (m.1 s' G I R hm), m.2.1, fun v hv => y _ _ _ (m.2.2 v hv)⟩
              · rw [if_neg z] at m ⊢;obtain ⟨an, h1, v, h2, h3⟩ := m;exact ⟨an, h1, v, ⟨by rw [<- l3]; exact h2.1, fun s' G x => by rw [<- l3]; exact h2.2 s' G x⟩, y _ _ _ h3⟩
        | true =>
          simp only at h;by_cases Z : H.contains i = true
          · rw [if_pos Z] at h;obtain ⟨hA, ⟨v0, ap⟩, hK⟩ := h;have m := fun v hv => zO Y pre post _ _ _ B O (hK v hv);have ae : ∀ v, ∀ p ∈ F ++ [(i, S i (keyOf f r) v)], (A.getD j []).contains p.1 = true -> p ∈ F := by
              intro v p R hc;rcases List.mem_append.1 R with h | h
              · exact h
              · obtain rfl := List.mem_singleton.1 h;rw [a0] at hc; cases hc
            have y : ∀ v D c2, (∀ p ∈ F, p ∈ D) -> (M.contains i = true -> c2 = c) -> (∀ u, V i (keyOf f r) u -> dq P T n ops A H V S X C M s K (pre ++ post) (bN (bN f r.dst u) oj.dst v) (D ++ [(i, S i (keyOf f r) u)]) (mS C M i (keyOf f r) u c2)) ->
                rZ P T n ops A H V S X C M s i r (bN f oj.dst v) D c2 (dq P T n ops A H V S X C M s K (pre ++ post)) := by
              intro v D c2 a3 al z;refine ⟨am, ?_⟩;rw [(li v).1, U, qx (ops := ops) ad];simp only;rw [if_pos Z];exact ⟨fun s' G I R hm => (v_ ad).2 (hA s' G I (fun p hm hc => R p (a3 p hm) hc) fun hi => by rw [<- al hi]; exact hm hi), ⟨v0, ap⟩, fun u hu => by rw [<- J]; exact z u hu⟩
            have l := fun (u : AV) => ff (T := T) (ops := ops) (o := oj) (f := f) (d := r.dst) (v := u) w;have a4 : ∀ v, M.contains j = true -> mS C M i (keyOf f r) v c = c := fun v hj => a2 _ _ (by
              cases hi : M.contains i with
              | false => rfl
              | true => rw [Q hi] at hj; cases hj) c
            rcases back v0 _ _ (ae v0) (a4 v0) _ (fun _ _ _ => True) (m v0 ap) with ⟨hd, x, W⟩ | ⟨hd, x, z, ar, a5⟩ | ⟨hd, x, z, W, hq, v, hv⟩
            · refine ⟨hd, ?_⟩;rw [x];refine ⟨W, y _ F c (fun _ h => h) (fun _ => rfl) fun u hu => ?_⟩;have := (m u hu).2;rw [(l u).1, x, qx (ops := ops) w] at this;exact this.2
            · refine ⟨hd, ?_⟩;rw [x];simp only;rw [if_pos z];refine ⟨ar, a5, fun v hv => y v _ _ (fun p R => List.mem_append_left _ R) (fun hi => by simp only [mS, Q hi, Bool.false_eq_true, if_false]) fun u hu => ?_⟩;have := (m u hu).2;rw [(l u).1, x, qx (ops := ops) w] at this;simp only at this;rw [if_pos z] at this;rw [ME Q];refine zN _ _ _ _ _ ?_ (this.2.2 v hv);intro p;simp only [List.mem_append, List.mem_singleton];constructor
              · rintro ((h | h) | h)
                · exact .inl (.inl h)
                · exact .inr h
                · exact .inl (.inr h)
              · rintro ((h | h) | h)
                · exact .inl (.inl h)
                · exact .inr h
                · exact .inl (.inr h)
            · refine ⟨hd, ?_⟩;rw [x];simp only;rw [if_neg (by rw [z]; simp)];refine ⟨W, hq, v, hv, y v F c (fun _ h => h) (fun _ => rfl) fun u hu => ?_⟩;have := (m u hu).2;rw [(l u).1, x, qx (ops := ops) w] at this;simp only at this;rw [if_neg (by rw [z]; simp)] at this;obtain ⟨_, _, v', ⟨oX, _⟩, hk⟩ := this;rw [(l u).2.2, hv.1] at oX;have e : v = v' := by simpa using oX
              rw [e]; exact hk
          · rw [if_neg Z] at h;obtain ⟨W, hq, u, hu, hK⟩ := h;have m := zO Y pre post _ F c B O hK;have y : ∀ v D c2, dq P T n ops A H V S X C M s K (pre ++ post) (bN (bN f r.dst u) oj.dst v) D c2 -> rZ P T n ops A H V S X C M s i r (bN f oj.dst v) D c2 (dq P T n ops A H V S X C M s K (pre ++ post)) := by
              intro v D c2 z;refine ⟨am, ?_⟩;rw [(li v).1, U];simp only;rw [if_neg Z];exact ⟨W, hq, u, ⟨by rw [(li v).2.2]; exact hu.1, fun s' G x => by rw [(li v).2.2]; exact hu.2 s' G x⟩, by rw [<- J]; exact z⟩
            obtain ⟨l1, l2, l3⟩ := ff (T := T) (ops := ops) (o := oj) (f := f) (d := r.dst) (v := u) w;obtain ⟨hd, m⟩ := m;refine ⟨hd, ?_⟩;rw [l1, qx (ops := ops) w] at m;cases x : cY ops f oj with
            | none => rw [x] at m; exact m
            | some b =>
              rw [x] at m;cases b with
              | false => exact ⟨m.1, y _ _ _ m.2⟩
              | true =>
                simp only at m ⊢;by_cases z : H.contains j = true
                · rw [if_pos z] at m ⊢;exact ⟨fun s' G I R hm => (v_ w).1 (m.1 s' G I R hm), m.2.1, fun v hv => y _ _ _ (m.2.2 v hv)⟩
                · rw [if_neg z] at m ⊢;obtain ⟨an, h1, v, h2, h3⟩ := m;exact ⟨an, h1, v, ⟨by rw [<- l3]; exact h2.1, fun s' G x => by rw [<- l3]; exact h2.2 s' G x⟩, y _ _ _ h3⟩
def Eu (ops:Array Oper) (m:Nat) (A:List (List Nat)) (bs:List Nat):Bool :=
 decide (Region.before ops=bs.toArray)&&decide (m<=ops.size) &&
 (List.range ops.size).all fun i=>(ops[i]?).all (fun o=>o.after.toList.all fun e=>decide (e.on<i)||!Region.binds .any e) &&
  if m<=i then (List.range i).all fun j=>(bs.getD i 0).testBit j
  else ((A.getD i []).all fun j=>(bs.getD i 0).testBit j&&decide (j<i)) &&
   (List.range i).all fun j=>(bs.getD i 0).testBit j||((ops[j]?).any fun x=>(ops[i]?).any fun y=>x.apart ops y)
structure xB (ops:Array Oper) (m:Nat) (A:List (List Nat)):Prop where
 le:m<=ops.size
 back:∀ (i:Nat) o,ops[i]? = some o->∀ e∈o.after.toList,Region.binds .any e=true->e.on<i
 tail:∀ i,i<ops.size->m<=i->∀ j,j<i->gQ ops j i=true
 UA:∀ i,i<m->∀ j∈A.getD i [],gQ ops j i=true/\j<i
 free:∀ i,i<m->∀ j,j<i->gQ ops j i=true\/∃ x y,ops[j]? = some x/\ops[i]? = some y/\x.apart ops y=true
theorem G_ {ops:Array Oper} {m:Nat} {A:List (List Nat)} {bs:List Nat} (h:Eu ops m A bs=true):xB ops m A:=by
 simp only [Eu,Bool.and_eq_true,decide_eq_true_eq,List.all_eq_true,List.mem_range] at h;obtain ⟨⟨hb,hm⟩,h⟩:=h;have b:∀ j i,gQ ops j i=(bs.getD i 0).testBit j:=by
  intro j i;unfold gQ;rw [hb];simp [List.getD_eq_getElem?_getD]
 have d:∀ (i:Nat) o,ops[i]? = some o->i<ops.size:=by
  intro i o c;rcases Nat.lt_or_ge i ops.size with h | h
  ·exact h
  ·simp [Array.getElem?_eq_none h] at c
 refine ⟨hm,fun i o c e n k=>?_,fun i hi l j hj=>?_,fun i hi j hj=>?_,fun i hi j hj=>?_⟩
 ·have:=(h i (d i o c)).1;rw [c] at this;simp only [Option.all_some,List.all_eq_true,Bool.or_eq_true,decide_eq_true_eq] at this;rcases this e n with h | h
  ·exact h
  ·rw [k] at h;simp at h
 ·have:=(h i hi).2;rw [if_pos l] at this;rw [b];simp only [List.all_eq_true,List.mem_range] at this;exact this j hj
 ·have:=(h i (by omega)).2;rw [if_neg (by omega)] at this;simp only [Bool.and_eq_true,List.all_eq_true,decide_eq_true_eq] at this;rw [b];exact this.1 j hj
 ·have:=(h i (by omega)).2;rw [if_neg (by omega)] at this;simp only [Bool.and_eq_true,List.all_eq_true,List.mem_range,Bool.or_eq_true] at this;rcases this.2 j hj with h | h
  ·exact .inl (by rw [b];exact h)
  ·simp only [Option.any_eq_true] at h;obtain ⟨x,p,y,r,h⟩:=h;exact .inr ⟨x,y,p,r,h⟩
structure gZ (ops:Array Oper) (listed:Array Bool) (p:Nat->Prop):Prop where
 size:listed.size=ops.size
 iff:∀ i,i<ops.size->(listed.getD i false=true↔p i)
theorem eX {ops:Array Oper} {listed:Array Bool} {p:Nat->Prop} (b:gZ ops listed p) (i:Nat) :
  i∈Region.ready .any ops listed↔∃ o,ops[i]? = some o/\¬ p i/\∀ e∈o.after.toList,Region.binds .any e=true->listed.getD e.on false=true:=by
 unfold Region.ready;simp only [List.mem_filter,List.mem_range,Bool.and_eq_true,Bool.not_eq_true'];constructor
 ·rintro ⟨hi,c,h2⟩;refine ⟨ops[i],Array.getElem?_eq_getElem hi,?_,?_⟩
  ·intro d;have:=(b.iff i hi).2 d;simp only [Array.getD_eq_getD_getElem?] at c this;rw [Array.getElem?_eq_getElem (by rw [b.size];exact hi)] at c this;simp only [Option.getD_some] at c this;rw [c] at this;cases this
  ·intro e j hb;rw [Array.getElem?_eq_getElem hi] at h2;simp only [Option.map_some,Option.getD_some] at h2;have:=Array.all_eq_true'.1 h2 e (by simpa using j);rw [hb] at this;simpa using this
 ·rintro ⟨o,l,d,h⟩;have hi:i<ops.size:=by
   rcases Nat.lt_or_ge i ops.size with h | h
   ·exact h
   ·simp [Array.getElem?_eq_none h] at l
  refine ⟨hi,?_,?_⟩
  ·cases k:listed.getD i true with
   | false=>rfl
   | true =>
    exfalso;apply d;rw [<- b.iff i hi];simp only [Array.getD_eq_getD_getElem?] at k ⊢;rw [Array.getElem?_eq_getElem (by rw [b.size];exact hi)] at k ⊢;exact k
  ·rw [l];simp only [Option.map_some,Option.getD_some];rw [Array.all_eq_true'];intro e j;cases hb:Region.binds .any e with
   | false=>simp
   | true=>simp [h e (by simpa using j) hb]
theorem gZ.set {ops:Array Oper} {listed:Array Bool} {p p':Nat->Prop} (b:gZ ops listed p) {i:Nat} (d:∀ j,p' j↔(j=i\/p j)):gZ ops (listed.setIfInBounds i true) p':=by
 refine ⟨by simp [b.size],fun j hj=>?_⟩;simp only [Array.getD_eq_getD_getElem?];rw [Array.getElem?_setIfInBounds];have:=b.iff j hj;simp only [Array.getD_eq_getD_getElem?] at this;by_cases h:i=j
 ·subst h;simp [b.size,hj,d]
 ·rw [if_neg h,d,this];constructor
  ·exact .inr
  ·rintro (c | c)
   ·exact absurd c.symm h
   ·exact c
theorem gZ.down {ops:Array Oper} {m:Nat} {A:List (List Nat)} (j:xB ops m A) {listed:Array Bool} {p:Nat->Prop} (c:gZ ops listed p)
  (k:∀ i,i<ops.size->p i->∀ o,ops[i]? = some o->∀ e∈o.after.toList,Region.binds .any e=true->p e.on):Down ops listed:=by
 intro i o b l e d hb;have hi:i<ops.size:=by
  rcases Nat.lt_or_ge i ops.size with h | h
  ·exact h
  ·simp [Array.getElem?_eq_none h] at b
 have n:=j.back i o b e d hb;exact (c.iff e.on (by omega)).2 (k i hi ((c.iff i hi).1 l) o b e d hb)
theorem Ew (hT:TT.Ok P T) {m:Nat} (G:xB ops m A) {Q:Exit->Fr->AS->Prop} {B:Nat} {Et:bM} {s0:AS} {w0:World}:∀ (fuel k:Nat) (listed:Array Bool) (f:Fr) (s:AS) (γ:bM) (a:Act) (w:World),
  m<=k->k<=ops.size->gZ ops listed (·<k)->ops.size - k<=fuel->fq P T n ops (ops.toList.drop k) f s (fun f s=>Q .normal f s)->m_ γ n f a->Rel B γ s w->fM B Et s0 w0 γ s w ->
  wpAny P .any ops (va B Et s0 w0 n Q) fuel listed a w:=by
 intro fuel
 induction fuel with
 | zero =>
  intro k listed f s γ a w hm L d M h b hr hd;have r:k=ops.size:=by omega
  subst r;rw [List.drop_eq_nil_of_le (by simp)] at h;refine ⟨?_,γ,f,s,b,hd,hr,h⟩;rw [List.eq_nil_iff_forall_not_mem];intro i hi;obtain ⟨o,p,C,_⟩:=(eX d i).1 hi;apply C;rcases Nat.lt_or_ge i ops.size with h | h
  ·exact h
  ·simp [Array.getElem?_eq_none h] at p
 | succ fuel K =>
  intro k listed f s γ a w hm L d M h b hr hd;rcases Nat.lt_or_ge k ops.size with x | O
  ·have H:ops.toList.drop k=ops[k]::ops.toList.drop (k+1):=by
    rw [List.drop_eq_getElem_cons (by simpa using x)];simp
   have y:ops[k]? = some ops[k]:=Array.getElem?_eq_getElem x;have l:∀ i,i∈Region.ready .any ops listed->i=k:=by
    intro i hi;obtain ⟨o,p,C,D⟩:=(eX d i).1 hi;have I:i<ops.size:=by
     rcases Nat.lt_or_ge i ops.size with h | h
     ·exact h
     ·simp [Array.getElem?_eq_none h] at p
    rcases Nat.lt_trichotomy i k with h | h | h
    ·exact absurd h C
    ·exact h
    ·exfalso;have z:=d.down G (fun i _ R o p e D hb=>by have:=G.back i o p e D hb;omega);have:=ji z i o p D (G.tail i I (by omega) k h);have:=(d.iff k x).1 this;omega
   refine ⟨fun c=>?_,fun i hi=>?_⟩
   ·exfalso;have:k∈Region.ready .any ops listed:=by
     refine (eX d k).2 ⟨_,y,by omega,fun e D hb=>?_⟩;have:=G.back k _ y e D hb;exact (d.iff e.on (by omega)).2 this
    rw [c] at this;cases this
   ·obtain rfl:=l i hi;rw [H] at h;simp only [fq] at h;have F:gZ ops (listed.setIfInBounds i true) (·<i+1):=d.set fun j=>by omega
    unfold wpOp;rw [y];simp only;split at h
    ·rename_i J;rw [ep b J,if_pos rfl];exact .inl (jh hT h b hr fun γ' f' s' a' w' S h2 h3 h4=>K (i+1) _ f' s' γ' a' w' (by omega) (by omega) F (by omega) h4 S h3 (hd.trans h2))
    ·rename_i J;rw [ep b J,if_neg (by simp)];exact K (i+1) _ _ s γ _ w (by omega) (by omega) F (by omega) h.2 (b.put h.1 (oV γ)) hr hd
    ·exact h.elim
  ·have r:k=ops.size:=by omega
   subst r;rw [List.drop_eq_nil_of_le (by simp)] at h;have c:Region.ready .any ops listed=[]:=by
    rw [List.eq_nil_iff_forall_not_mem];intro i hi;obtain ⟨o,p,C,_⟩:=(eX d i).1 hi;apply C;rcases Nat.lt_or_ge i ops.size with h | h
    ·exact h
    ·simp [Array.getElem?_eq_none h] at p
   refine ⟨fun _=>⟨γ,f,s,b,hd,hr,h⟩,fun i hi=>?_⟩;rw [c] at hi;cases hi
theorem Kf (hT:TT.Ok P T) (a9:1<=s.st) {m:Nat} (K:xB ops m A) (hS:∀ i k v s s',Ext s s'->S i k v s->S i k v s') {Q:Exit->Fr->AS->Prop} {B:Nat} {Et:bM} {s0:AS} {w0:World} :
  ∀ (fuel:Nat) (q:List Nat) (listed:Array Bool) (f:Fr) (F:jQ) (s1:AS) (γ:bM) (a:Act) (w:World),
  q.Pairwise (·<·)->(∀ i∈q,i<m)->gZ ops listed (fun i=>i<m/\i ∉ q)->q.length+(ops.size - m)<=fuel ->
  VP P T n ops A H V S s (fun f s'=>fq P T n ops (ops.toList.drop m) f s' (fun f s=>Q .normal f s)) q f F->Ext s s1->(H=[]->s1=s)->(∀ p∈F,p.2 s1)->(∀ p∈F,∀ s s',Ext s s'->p.2 s->p.2 s') ->
  m_ γ n f a->Rel B γ s1 w->fM B Et s0 w0 γ s1 w->Down ops listed ->
  wpAny P .any ops (va B Et s0 w0 n Q) fuel listed a w:=by
 intro fuel
 induction fuel with
 | zero =>
  intro q listed f F s1 γ a w j L J hf h l M hF r G hr hd z;obtain rfl:q=[]:=List.length_eq_zero_iff.1 (by omega);have hle:=K.le;refine Ew hT K 0 m listed f s1 γ a w (Nat.le_refl _) K.le ⟨J.size,fun i hi=>by rw [J.iff i hi];simp⟩ (by omega) (h s1 l hr.Mh hF trivial M) G hr hd
 | succ fuel ih =>
  intro q listed f F s1 γ a w j L J hf h l M hF r G hr hd z;have hle:=K.le;cases q with
  | nil=>exact Ew hT K (fuel+1) m listed f s1 γ a w (Nat.le_refl _) K.le ⟨J.size,fun i hi=>by rw [J.iff i hi];simp⟩ (by simpa using hf) (h s1 l hr.Mh hF trivial M) G hr hd
  | cons W q' =>
   refine ⟨fun ao=>?_,fun i hi=>?_⟩
   ·exfalso;have aw:=L W (by simp);have:W∈Region.ready .any ops listed:=by
     refine (eX J W).2 ⟨_,Array.getElem?_eq_getElem (by omega),by simp,fun e he hb=>?_⟩;have:=K.back W _ (Array.getElem?_eq_getElem (by omega)) e he hb;refine (J.iff e.on (by omega)).2 ⟨by omega,?_⟩;simp only [List.mem_cons,not_or];refine ⟨by omega,fun hm=>?_⟩;have:=(List.pairwise_cons.1 j).1 e.on hm;omega
    rw [ao] at this;cases this
   ·obtain ⟨o,ho,hp,he⟩:=(eX J i).1 hi;have a0:i<ops.size:=by
     rcases Nat.lt_or_ge i ops.size with h | h
     ·exact h
     ·simp [Array.getElem?_eq_none h] at ho
    have X:i<m:=by
     rcases Nat.lt_or_ge i m with h | h
     ·exact h
     ·exfalso;have aw:=L W (by simp);have:=ji z i o ho he (K.tail i a0 h W (by omega));have:=(J.iff W (by omega)).1 this;exact this.2 (by simp)
    have a1:i∈W::q':=by
     by_cases h:i∈W::q'
     ·exact h
     ·exact absurd ⟨X,h⟩ hp
    obtain ⟨pre,post,hq⟩:=List.append_of_mem a1;rw [hq] at h j L J hf;have ad:∀ k∈pre,k<i:=by
     intro k I;have:=(List.pairwise_append.1 j).2.2 k I i (by simp);exact this
    have al:∀ k∈pre,∀ ok,ops[k]? = some ok->Tg ops A k i ok o:=by
     intro k I ok O;have Y:=ad k I;have a2:k<ops.size:=by omega
     have ap:gQ ops k i=false:=by
      cases a3:gQ ops k i with
      | false=>rfl
      | true =>
       have:=ji z i o ho he a3;have:=(J.iff k a2).1 this;exact absurd (by simp [I]:k∈pre++i::post) this.2
     refine ⟨?_,?_,?_⟩
     ·rcases K.free i X k Y with h | ⟨x,y,hx,hy,h⟩
      ·rw [ap] at h;cases h
      ·rw [O] at hx;rw [ho] at hy;obtain rfl:=Option.some.inj hx;obtain rfl:=Option.some.inj hy;exact h
     ·cases hc:(A.getD i []).contains k with
      | false=>rfl
      | true =>
       have:=(K.UA i X k (by simpa using hc)).1;rw [ap] at this;cases this
     ·cases hc:(A.getD k []).contains i with
      | false=>rfl
      | true =>
       have:=(K.UA k (by omega) i (by simpa using hc)).2;omega
    have d:=zO ho pre post f F _ al (by simp) h;have C:(pre++post).Pairwise (·<·):=by
     have:=List.pairwise_append.1 j;rw [List.pairwise_append];exact ⟨this.1,(List.pairwise_cons.1 this.2.1).2,fun x hx y hy=>this.2.2 x hx y (by simp [hy])⟩
    have ae:i ∉ pre++post:=by
     intro hm;rcases List.mem_append.1 hm with h | h
     ·have:=ad i h;omega
     ·have:=(List.pairwise_cons.1 (List.pairwise_append.1 j).2.1).1 i h;omega
    have am:gZ ops (listed.setIfInBounds i true) (fun k=>k<m/\k ∉ pre++post):=by
     refine J.set fun k=>?_;simp only [List.mem_append,List.mem_cons,not_or];constructor
     ·rintro ⟨Z,h2,h3⟩;by_cases I:k=i
      ·exact .inl I
      ·exact .inr ⟨Z,h2,I,h3⟩
     ·rintro (rfl | ⟨Z,h2,h3,h4⟩)
      ·simp only [List.mem_append,not_or] at ae;exact ⟨X,ae⟩
      ·exact ⟨Z,h2,h4⟩
    have D:Down ops (listed.setIfInBounds i true):=by
     intro k ok O I e ar hb;have mono:listed.getD e.on false=true->(listed.setIfInBounds i true).getD e.on false=true:=by
      intro h;have a4:e.on<listed.size:=by
       rcases Nat.lt_or_ge e.on listed.size with h' | h'
       ·exact h'
       ·simp [Array.getD_eq_getD_getElem?,Array.getElem?_eq_none h'] at h
      simp only [Array.getD_eq_getD_getElem?,Array.getElem?_setIfInBounds] at h ⊢;split
      ·rename_i a5;subst a5;simp [a4]
      ·exact h
     by_cases Y:i=k
     ·subst Y;rw [ho] at O;obtain rfl:=Option.some.inj O;exact mono (he e ar hb)
     ·refine mono (z k ok O ?_ e ar hb);simp only [Array.getD_eq_getD_getElem?,Array.getElem?_setIfInBounds] at I ⊢;rw [if_neg Y] at I;exact I
    have hlen:(pre++post).length+(ops.size - m)<=fuel:=by simp at hf ⊢;omega
    have R:∀ k∈pre++post,k<m:=fun k I=>L k (by rcases List.mem_append.1 I with h | h <;> simp [h]);obtain ⟨U,d⟩:=d;unfold wpOp;rw [ho];simp only;cases hw:cY ops f o with
    | none=>rw [hw] at d;exact d.elim
    | some b =>
     rw [hw] at d;rw [ep G hw];cases b with
     | false =>
      rw [if_neg (by simp)];exact ih _ _ _ F s1 γ _ w C R am hlen d.2 l M hF r (G.put U (oV γ)) hr hd D
     | true =>
      rw [if_pos rfl];simp only at d;by_cases hh:H.contains i=true
      ·rw [if_pos hh] at d;obtain ⟨hA,_,hK⟩:=d;have hv:=hA s1 l hr.Mh (fun p hp _=>hF p hp) (fun _=>trivial);have an:Es P T n o f s1 (fun f2 s2=>∃ v,f2=bN f o.dst v/\Ext s1 s2/\S i (keyOf f o) v s2/\V i (keyOf f o) v):=lf U hv fun v s2 ⟨Z,h2,h3⟩=>⟨v,rfl,Z,h2,h3⟩;refine .inl (jh hT an G hr ?_);rintro γ' f' s' a' w' Z h2 h3 ⟨v,rfl,h4,h5,h6⟩;refine ih _ _ _ _ s' γ' a' w' C R am hlen (hK v h6) (l.trans h4) (fun e=>by rw [e] at hh;cases hh) ?_ ?_ Z h3 (hd.trans h2) D
       ·intro p hp;rcases List.mem_append.1 hp with h | h
        ·exact r p h _ _ h4 (hF p h)
        ·obtain rfl:=List.mem_singleton.1 h;exact h5
       ·intro p hp;rcases List.mem_append.1 hp with h | h
        ·exact r p h
        ·obtain rfl:=List.mem_singleton.1 h;exact fun s s' he=>hS i _ v s s' he
      ·rw [if_neg hh] at d;obtain ⟨_,ab,v,⟨hv,a6⟩,hK⟩:=d;have a7:=a6 _ l hr.Mh;have a8:eW f o.op=none:=by
        unfold eW;split
        ·rename_i c hc;rw [hc] at ab;simp only [lQ] at ab;split
         ·rename_i x hx;rw [hx] at ab;cases ab
         ·rfl
        ·rfl
       have an:Es P T n o f s1 (fun f2 s2=>f2=bN f o.dst v/\s2=s1):=by
        refine ⟨U,.inl ?_⟩;rw [a8];exact ⟨v,s1,a7,rfl,rfl⟩
       refine .inl (jh hT an G hr ?_);rintro γ' f' s' a' w' Z h2 h3 ⟨rfl,rfl⟩;exact ih _ _ _ F _ γ' a' w' C R am hlen hK l M hF r Z h3 (hd.trans h2) D
end
theorem ke.draw {P:Program} {T:TT} (hT:TT.Ok P T) (bW:P.follows .mixedOrders=true) {n id:Nat} {ops:Array Oper} {f:Fr} {s:AS} {Q:Exit->Fr->AS->Prop} (m:Nat) (A:List (List Nat)) (bs:List Nat) (H:List Nat)
  (V:Nat->List AV->AV->Prop) (S:Nat->List AV->AV->AS->Prop) (b:Eu ops m A bs=true) (e:∀ i k v s s',Ext s s'->S i k v s->S i k v s')
  (h:VP P T n ops A H V S s (fun f s'=>fq P T n ops (ops.toList.drop m) f s' (fun f s=>Q .normal f s)) (List.range m) f []):ke P n (.region id ops true) f s Q:=by
 intro B γ a w j hr;have d:=G_ b;have hle:=d.le;refine wp_region_any bW ?_;refine Kf hT hr.QC d e ops.size (List.range m) _ f [] s γ a { w with drawn:=w.drawn+1 } List.pairwise_lt_range (fun i hi=>List.mem_range.1 hi) ⟨by simp,fun i hi=>?_⟩ (by simp;omega) h (Ext.refl s) (fun _=>rfl) (by simp) (by simp) j (hr.of_heap rfl) (fM.of_heap rfl) ?_
 ·simp [Array.getD_eq_getD_getElem?,hi]
 ·intro i o l c;simp only [Array.getD_eq_getD_getElem?] at c;by_cases hi:i<ops.size
  ·simp [hi] at c
  ·simp [hi] at c
end Go.Am
end

section
namespace Go.Am
def TT.of (P:Program):TT where
 cR t:=P.underlying t
 eU t:=(P.info? t).map (·.size)
 Gb t:=(P.info? t).map (·.bytes)
 rY t:=(P.info? t).bind fun i=>i.zero.map Bm
 Qt t:=!P.eqGuardType P.depth t
 S8 t:=!P.stoodInHeld t
theorem TT.VQ (P:Program):TT.Ok P (TT.of P) where
 cR _ _ h:=h
 eU _ _ h:=h
 Gb _ _ h:=h
 rY t v h:=by
  simp only [TT.of,Option.bind_eq_some_iff,Option.map_eq_some_iff] at h;obtain ⟨i,hi,c,b,rfl⟩:=h;exact ⟨i,c,hi,b,fun γ=>DV γ c⟩
 Qt t h:=by simpa [TT.of] using h
 S8 t h:=by simpa [TT.of] using h
section
variable (T:TT) (ρ:Operand->AV) (s:AS)
end
@[simp] theorem uk (k:IntKind) (n:Int):bI (.int k n)=some [.int k n]:=rfl
@[simp] theorem Ul (b:Bool):bI (.bool b)=some [.bool b]:=rfl
@[simp] theorem UB (b:List UInt8):bI (.str b)=some [.str b]:=rfl
@[simp] theorem UC (a:Option (Nat×Nat)):bI (.ptr a)=some [.ptr a]:=rfl
@[simp] theorem UD (a:Option (Nat×Nat)) (n m:Nat) (e:Bool):bI (.slc a n m e)=some [.slc a n m e]:=rfl
@[simp] theorem UE:bI .emp=some [.emp]:=rfl
@[simp] theorem UF (a:Option Nat):bI (.map a)=some [.map a]:=rfl
theorem MF (l:List AV):bI (.agg l)=if l.all AV.one then some l else none:=rfl
@[simp] theorem Th (k:IntKind) (n:Int):(AV.int k n).one=true:=rfl
@[simp] theorem VR (b:Bool):(AV.bool b).one=true:=rfl
@[simp] theorem Wg (b:List UInt8):(AV.str b).one=true:=rfl
@[simp] theorem Wh (a:Option (Nat×Nat)):(AV.ptr a).one=true:=rfl
@[simp] theorem Wi (a:Option (Nat×Nat)) (n m:Nat) (e:Bool):(AV.slc a n m e).one=true:=rfl
@[simp] theorem Wj (a:Option Nat):(AV.map a).one=true:=rfl
section
variable (T:TT) (t:TypeId) (k:IntKind) (a b:Int)
end
def gd (ops:Array Oper) (f:Fr):Option (Nat×Bool)->Option Bool
 | none=>some true
 | some (j,want)=>c want (((ops[j]?).bind (·.dst)).map f)
where
 c (want:Bool):Option AV->Option Bool
  | some (.bool b)=>some (b==want)
  | some (.aP _)=>some false
  | some _=>none
  | none=>some false
section
variable {P:Program} {T:TT} {n:Nat} {ops:Array Oper} {o:Oper} {os:List Oper} {f:Fr} {s:AS} {K:Fr->AS->Prop}
end
def VS (T:TT) (rs:List ResultVar) (R:AV->AS->Prop):Exit->Fr->AS->Prop:=fun e f s'=>match e with
 | .normal | .ret=>∃ v,xM T rs f s'=some v/\R v s'
 | _=>False
theorem aa.body {P:Program} {T:TT} (hT:TT.Ok P T) {g:FuncId} {fn:Func} {c:Code} {args:List AV} {s:AS} {R:AV->AS->Prop} {n:Nat} {rs:List ResultVar} (d:P.funcs[g]? = some fn) (e:fU P g=true) (hb:fn.body=some c)
  (i:args.length+(fn.ntmps - args.length)=n) (b:fn.results.toList=rs) (h:ke P n c (rC args) s (VS T rs R)):aa P g args s R:=by
 subst i b;exact aa.Td hT d e hb h
theorem yF {T:TT} {t:TypeId} (h:T.agg t=some false) (s:AS) (l o:Nat):Gc T t s (.ptr (some (l,o)))=av s l o:=by unfold Gc;simp only [h]
theorem Ti {T:TT} {t n:Nat} (h:T.agg t=some true) (b:T.eU t=some n) (s:AS) (l o:Nat):Gc T t s (.ptr (some (l,o)))=(aD s l o n).map .agg:=by unfold Gc;simp only [h,b,Option.bind_some]
theorem UG {s:AS} {l o:Nat} {cs:List AV} {g:Nat} {ro:Bool} (h:s.h l=some (.cells cs g ro)):av s l o=cs[o]? := by simp [av,h]
theorem um {s:AS} {l o n:Nat} {cs:List AV} {g:Nat} {ro:Bool} (h:s.h l=some (.cells cs g ro)) (b:o+n<=cs.length):aD s l o n=some ((cs.drop o).take n):=by simp [aD,h,b]
end Go.Am
end

section
namespace Go.Am
abbrev Kg:=FuncId->List AV->AS->Option (AV×AS)
def HY (P:Program) (call:Kg):Prop:=∀ g args s v s',call g args s=some (v,s')->aa P g args s fun b s2=>b=v/\s2=s'
section
variable {P:Program} {T:TT} (hT:TT.Ok P T) {call:Kg} (zP:HY P call)
include hT zP
end
/-! ### A region that draws its order -/
end Go.Am
end

section
namespace Go.Am
section
variable (P:Program) (T:TT) (n:Nat) (ops:Array Oper) (Wu:Nat->Option (AV×AS)) (vw:Nat->AS)
end
section
variable {P:Program} {T:TT} {n:Nat} {ops:Array Oper} {Wu:Nat->Option (AV×AS)} {vw:Nat->AS} {K:Fr->Prop}
end
/-! ### The heap,half way -/
section
variable {B:Nat} {Et γ:bM} {s:AS} {w0 w:World} {m:Nat} {Wu:Nat->Option (AV×AS)} {L:Nat->Prop}
end
/-! ### Every order -/
section
variable {P:Program} {T:TT} {n:Nat} {ops:Array Oper} {Wu:Nat->Option (AV×AS)} {vw:Nat->AS} {s sm:AS}
end
end Go.Am
end

section
namespace Go.Am
section
variable {P:Program} {T:TT} (hT:TT.Ok P T) {call:Kg} (zP:HY P call) {n:Nat} {ops:Array Oper} {bs:List Nat} {m:Nat} {s:AS} {K:Fr->Prop}
include hT zP
end
section
variable {P:Program} {T:TT} (hT:TT.Ok P T) {call:Kg} (zP:HY P call) (bW:P.follows .mixedOrders=true)
include hT zP bW
end
/-! ### A region that draws the order of operations that need no heap -/
end Go.Am
end

section
namespace Go.Am
inductive TK where
 | int (k:IntKind)
 | bool
 | str
 | ptr
 | map
 | agg
 | any
 | aP (l:List TK)
def VT (T:TT) (t:TypeId):TK:=match T.cR t with
 | some (.int k)=>.int k
 | some .bool=>.bool
 | some .string=>.str
 | some (.pointer _)=>.ptr
 | some (.map _ _)=>.map
 | some (.struct _)=>.agg
 | some (.array _ _)=>.agg
 | _=>.any
def Kh (T:TT) (t:TypeId):TK:=match T.cR t with
 | some (.tuple es)=>.aP (es.toList.map (VT T))
 | _=>VT T t
/-! ### the words -/
def aV (k:IntKind) (o:Option AV) (K:Int->Prop):Prop:=∃ n,o=some (.int k n)/\K n
def On (o:Option AV) (K:Bool->Prop):Prop:=∃ b,o=some (.bool b)/\K b
def FY (o:Option AV) (K:List UInt8->Prop):Prop:=∃ b,o=some (.str b)/\K b
def ng (o:Option AV) (K:Option (Nat×Nat)->Prop):Prop:=∃ a,o=some (.ptr a)/\K a
def vL (o:Option AV) (K:Option Nat->Prop):Prop:=∃ r,o=some (.map r)/\K r
def oS (o:Option AV) (K:List AV->Prop):Prop:=∃ l,o=some (.agg l)/\K l
def dS (o:Option AV) (K:AV->Prop):Prop:=∃ v,o=some v/\K v
def aR (o:Option (List AV)) (K:List AV->Prop):Prop:=∃ l,o=some l/\K l
def sJ (o:Option Bool) (K:Bool->Prop):Prop:=∃ b,o=some b/\K b
def bt (o:Option AS) (K:AS->Prop):Prop:=∃ s,o=some s/\K s
def iD (o:Option (AV×AS)) (K:AV->AS->Prop):Prop:=∃ v s,o=some (v,s)/\K v s
def bG (o:Option AV) (K:Nat->Nat->Prop):Prop:=∃ l i,o=some (.ptr (some (l,i)))/\K l i
def ah (a:Option (Nat×Nat)) (K:Nat->Nat->Prop):Prop:=match a with
 | some (l,i)=>K l i
 | none=>False
def fh (n:Option Nat) (l:List AV) (P:Prop):Prop:=(l.all AV.one=true/\n=some l.length)/\P
def cH (l:List AV) (P:Prop):Prop:=l.all AV.one=true/\P
def af (b:Bool) (X Y:Prop):Prop:=match b with
 | true=>X
 | false=>Y
def NZ (b:Int) (P:Prop):Prop:=b≠0/\P
def NN (b:Int) (P:Prop):Prop:=0<=b/\P
def Oo (n:Nat) (P:Prop):Prop:=(n:Int)<=9223372036854775807/\P
def er (P:Program) (v:AV) (args:List AV) (s:AS) (R:AV->AS->Prop):Prop:=match v with
 | .func g cap=>aa P g (args++cap) s R
 | .tX g ft cap=>aa P g (ft++(args++cap)) s R
 | _=>False
def aj (o:AO) (s:AS) (K:Nat->AS->Prop):Prop:=K s.nl (s.new o)
def bz (A:(List AV->AS->Prop)->Prop):Prop:=∃ J,A J
def bB (A:(Nat->List AV->AS->Prop)->Nat->Prop):Prop:=∃ I m,A I m
def gy (A:(Nat->List AV->AV->AS->Prop)->(Nat->List AV->AV->Prop)->Prop):Prop:=∃ S V,(∀ i k v s s',Ext s s'->S i k v s->S i k v s')/\A S V
def sR (s:AS) (A:(AS->AS->Prop)->(Nat->List AV->AV->AS->Prop)->(AS->Prop)->(Nat->List AV->AV->AS->Prop)->(Nat->List AV->AV->Prop)->Prop):Prop :=
 ∃ X C c S V,(∀ s s',Ext s s'->X s s')/\(∀ a b c,X a b->X b c->X a c)/\(∀ i k v s s',Ext s s'->C i k v s->C i k v s')/\(∀ i k v s s',X s s'->S i k v s->S i k v s')/\(∀ s s',Ext s s'->c s->c s')/\c s/\A X C c S V
def QJ:List TK->List AV->(List AV->Prop)->Prop
 | [],acc,F=>F acc
 | .int k::c,acc,F=>∃ n:Int,QJ c (acc++[.int k n]) F
 | .bool::c,acc,F=>∃ b:Bool,QJ c (acc++[.bool b]) F
 | .str::c,acc,F=>∃ b:List UInt8,QJ c (acc++[.str b]) F
 | .ptr::c,acc,F=>∃ a:Option (Nat×Nat),QJ c (acc++[.ptr a]) F
 | .map::c,acc,F=>∃ r:Option Nat,QJ c (acc++[.map r]) F
 | .agg::c,acc,F=>∃ l:List AV,QJ c (acc++[.agg l]) F
 | _::c,acc,F=>∃ v:AV,QJ c (acc++[v]) F
theorem Ex:∀ {b:List TK} {acc:List AV} {F:List AV->Prop},QJ b acc F->∃ l,F l
 | [],acc,F,h=>⟨acc,h⟩
 | k::b,acc,F,h=>by
  cases k <;> (simp only [QJ] at h;obtain ⟨_,h⟩:=h;exact Ex h)
def rd (k:TK) (o:Option AV) (K:AV->Prop):Prop:=match k with
 | .int k=>aV k o fun n=>K (.int k n)
 | .bool=>On o fun b=>K (.bool b)
 | .str=>FY o fun b=>K (.str b)
 | .ptr=>ng o fun a=>K (.ptr a)
 | .map=>vL o fun a=>K (.map a)
 | .agg=>oS o fun a=>K (.agg a)
 | .any=>dS o K
 | .aP c=>QJ c [] fun l=>o=some (.aP l)/\K (.aP l)
theorem rd_some {k:TK} {o:Option AV} {K:AV->Prop} (h:rd k o K):∃ v,o=some v/\K v:=by
 cases k with
 | aP c=>obtain ⟨l,b,h2⟩:=Ex h;exact ⟨_,b,h2⟩
 | _=>obtain ⟨n,b,h2⟩:=h;exact ⟨_,b,h2⟩
def VU (k:TK) (v:AV) (K:AV->Prop):Prop:=match k with
 | .int k=>∃ n,v=.int k n/\K (.int k n)
 | .bool=>∃ b,v=.bool b/\K (.bool b)
 | .str=>∃ b,v=.str b/\K (.str b)
 | .ptr=>∃ a,v=.ptr a/\K (.ptr a)
 | .map=>∃ a,v=.map a/\K (.map a)
 | .agg=>∃ a,v=.agg a/\K (.agg a)
 | .any=>K v
 | .aP c=>QJ c [] fun l=>v=.aP l/\K (.aP l)
theorem zQ {k:TK} {v:AV} {K:AV->Prop} (h:VU k v K):K v:=by
 cases k with
 | aP b=>obtain ⟨l,rfl,h2⟩:=Ex h;exact h2
 | any=>exact h
 | _=>obtain ⟨n,rfl,h2⟩:=h;exact h2
def cV (T:TT) (t:TypeId) (len:Nat) (parts:List (Nat×AV)):Option (List AV) :=
 match T.cR t with
 | some (.slice elem) =>
  (T.eU elem).bind fun n=>(T.rY elem).bind fun z=>(bI z).bind fun zc =>
   if zc.length=n/\len*n<=2 ^ 24 then jc (fun i=>some (i*n,n)) (rep len zc) parts else none
 | _=>none
def QK (op:BinOp) (k:IntKind) (a b:Int) (K:AV->Prop):Prop:=match op with
 | .add=>K (.int k (k.wrap (a+b)))
 | .sub=>K (.int k (k.wrap (a - b)))
 | .mul=>K (.int k (k.wrap (a*b)))
 | .quo=>NZ b (K (.int k (k.wrap (a.tdiv b))))
 | .rem=>NZ b (K (.int k (a.tmod b)))
 | .eql=>K (.bool (a==b))
 | .neq=>K (.bool (a != b))
 | .lss=>K (.bool (decide (a<b)))
 | .leq=>K (.bool (decide (a<=b)))
 | .gtr=>K (.bool (decide (a>b)))
 | .geq=>K (.bool (decide (a>=b)))
 | op=>aV k (bA op k a b) fun n=>K (.int k n)
def Pe (T:TT) (t:TypeId) (c:Bool):AV->AV->Bool
 | .agg _,.agg _=>T.Qt t
 | .nilIface,.nilIface=>c
 | .bad,_=>false
 | _,.bad=>false
 | _,_=>true
theorem HZ (T:TT) (t:TypeId) (x y:Operand) (u v:AV):Mr T t x y u v=Pe T t (Mq x||Mq y) u v:=by
 cases u <;> cases v <;> rfl
def UH (T:TT) (op:BinOp) (t:TypeId) (c:Bool) (x y:AV) (K:AV->Prop):Prop :=
 match op,x,y with
 | .shl,.int k a,.int _ b=>NN b (K (.int k (k.wrap (a*2 ^ min b.toNat k.bits))))
 | .shr,.int k a,.int _ b=>NN b (K (.int k (a.fdiv (2 ^ min b.toNat k.bits))))
 | op,.int k a,.int k' b=>bif k==k' then QK op k a b K else False
 | .add,.str a,.str b=>Oo (a.length+b.length) (K (.str (a++b)))
 | .eql,.str a,.str b=>K (.bool (a==b))
 | .neq,.str a,.str b=>K (.bool !(a==b))
 | .lss,.str a,.str b=>K (.bool (iW a b))
 | .leq,.str a,.str b=>K (.bool (iW a b||a==b))
 | .gtr,.str a,.str b=>K (.bool !(iW a b||a==b))
 | .geq,.str a,.str b=>K (.bool !(iW a b))
 | .eql,.bool a,.bool b=>(match T.cR t with | some .bool=>K (.bool (a==b)) | _=>False)
 | .neq,.bool a,.bool b=>(match T.cR t with | some .bool=>K (.bool !(a==b)) | _=>False)
 | .eql,.agg xs,.agg ys=>bif T.Qt t then sJ (iB T 100 t (.agg xs) (.agg ys)) fun b=>K (.bool b) else False
 | .neq,.agg xs,.agg ys=>bif T.Qt t then sJ (iB T 100 t (.agg xs) (.agg ys)) fun b=>K (.bool !b) else False
 | .eql,.ptr a,.ptr b=>sJ (iB T 100 t (.ptr a) (.ptr b)) fun b=>K (.bool b)
 | .neq,.ptr a,.ptr b=>sJ (iB T 100 t (.ptr a) (.ptr b)) fun b=>K (.bool !b)
 | .eql,.map a,.map b=>sJ (iB T 100 t (.map a) (.map b)) fun b=>K (.bool b)
 | .neq,.map a,.map b=>sJ (iB T 100 t (.map a) (.map b)) fun b=>K (.bool !b)
 | .eql,x,y=>Pe T t c x y=true/\sJ (iB T 100 t x y) fun b=>K (.bool b)
 | .neq,x,y=>Pe T t c x y=true/\sJ (iB T 100 t x y) fun b=>K (.bool !b)
 | _,_,_=>False
def QL:Option TypeDesc->Bool
 | some (.slice _)=>true
 | some (.func _ _ _)=>true
 | some (.interface _)=>true
 | _=>false
def Qu (T:TT) (t:TypeId) (c:Bool) (x y:AV):Option Bool:=if Pe T t c x y=true then iB T 100 t x y else none
def QM (T:TT) (op:BinOp) (t:TypeId) (c:Bool) (x y:AV) (K:AV->Prop):Prop :=
 match QL (T.cR t),op with
 | true,.eql=>sJ (Qu T t c x y) fun b=>K (.bool b)
 | true,.neq=>sJ (Qu T t c x y) fun b=>K (.bool !b)
 | _,op=>UH T op t c x y K
def MG (v:AV) (F:List AV->Prop):Prop:=match v with
 | .agg l=>cH l (F l)
 | .aP _=>False
 | .bad=>False
 | v=>F [v]
def fu (T:TT) (t:TypeId) (s:AS) (l off:Nat) (v:AV) (K:AS->Prop):Prop:=match v with
 | .agg cs=>fh (T.eU t) cs (bt (cK s l off cs) K)
 | .aP _=>False
 | .bad=>False
 | v=>bif T.eU t==some 1 then bt (cK s l off [v]) K else False
def QN (T:TT) (t:TypeId) (x:AV) (s:AS):Option (AV×AS):=match T.cR t,x with
 | some .string,.str b=>some (.ptr (some (s.nl,0)),s.new (.pM b 0 false))
 | some (.map _ _),.map none=>some (.ptr (some (s.nl,0)),s.new (.fH none 0 [] 0 false))
 | some (.map _ _),.map (some m)=>match s.h m with
  | some (.map _ clock _)=>some (.ptr (some (s.nl,0)),s.new (.fH (some m) clock [] clock false))
  | _=>none
 | _,_=>none
def we (x:AV) (s:AS):Option (Bool×List (AV×AV×AS)):=match x with
 | .ptr (some (l,0))=>match s.h l with
  | some (.fH none _ _ _ _)=>some (true,[])
  | some (.fH (some m) since seen last false)=>match s.h m with
   | some (.map es clock _) =>
    if seen≠[]/\es≠[]/\(es.all fun e=>decide (last<=e.2.2)) then none else
    let left:=es.filter fun e=>!seen.contains e.2.2
    let old:=left.filter fun e=>decide (e.2.2<since)
    let new:=left.filter fun e=>decide (since<=e.2.2)
    some (old.isEmpty,(old++new).map fun e=>(e.1,e.2.1,s.put l (.fH (some m) since (seen++[e.2.2]) clock false)))
   | _=>none
  | _=>none
 | _=>none
def QO (o:Option (Bool×List (AV×AV×AS))) (A:Prop) (B:AV->AV->AS->Prop):Prop :=
 ∃ b l,o=some (b,l)/\(b=true->A)/\∀ k v s',(k,v,s')∈l->B k v s'
def Oq (o:Option (Bool×List (AV×AV×AS))) (s:AS) (K:AV->AS->Prop):Prop:=QO o (K (.aP [.bool false]) s) fun k v s'=>K (.aP [.bool true,k,v]) s'
def Wv (o:Option AV) (K:AV->AV->Prop):Prop:=∃ k v,o=some (.aP [k,v])/\K k v
def MH (x:AV) (s:AS):Option (Option (Int×Int×AS)):=match x with
 | .ptr (some (l,0))=>match s.h l with
  | some (.pM b pos false) =>
   if pos<b.length then some (some (pos,(Utf8.decode ⟨b.toArray⟩ pos).1,s.put l (.pM b (pos+(Utf8.decode ⟨b.toArray⟩ pos).2) false)))
   else some none
  | _=>none
 | _=>none
def VV (o:Option (Option (Int×Int×AS))) (A:Prop) (B:Int->Int->AS->Prop):Prop :=
 ∃ r,o=some r/\(r=none->A)/\∀ i c s',r=some (i,c,s')->B i c s'
def Um (o:Option (Option (Int×Int×AS))) (s:AS) (K:AV->AS->Prop):Prop:=VV o (K (.aP [.bool false]) s) fun i c s'=>K (.aP [.bool true,.int .i64 i,.int .i32 c]) s'
theorem He {it:Operand} {ρ:Operand->AV} {s:AS} {K:AV->AS->Prop} (h:Oq (we (ρ it) s) s K):∃ l,CB (.next it false) ρ s=some l/\∀ p∈l,K p.1 p.2:=by
 obtain ⟨b,l,c,h2,h3⟩:=h;unfold we at c;unfold CB;simp only;split at c
 ·rename_i l0 d;rw [d];simp only;split at c
  ·rename_i since seen last ro i;obtain ⟨rfl,rfl⟩:true=b/\[]=l:=by simpa using c
   rw [i];exact ⟨_,rfl,fun p d=>by obtain rfl:=List.mem_singleton.1 d;exact h2 rfl⟩
  ·rename_i m since seen last i;rw [i];simp only;split at c
   ·rename_i es clock ro hm;rw [hm];simp only;split at c
    ·cases c
    ·rename_i k;rw [if_neg k];simp only [Option.some.injEq,Prod.mk.injEq] at c;obtain ⟨rfl,rfl⟩:=c;refine ⟨_,rfl,fun p d=>?_⟩;rcases List.mem_append.1 d with d | d
     ·split at d
      ·rename_i j;obtain rfl:=List.mem_singleton.1 d;exact h2 j
      ·cases d
     ·obtain ⟨e,j,rfl⟩:=List.mem_map.1 d;exact h3 _ _ _ (List.mem_map.2 ⟨e,j,rfl⟩)
   ·cases c
  ·cases c
 ·cases c
theorem Pf {it:Operand} {ρ:Operand->AV} {s:AS} {K:AV->AS->Prop} (h:Um (MH (ρ it) s) s K):∃ l,CB (.next it true) ρ s=some l/\∀ p∈l,K p.1 p.2:=by
 obtain ⟨r,c,h2,h3⟩:=h;unfold MH at c;unfold CB;simp only;split at c
 ·rename_i l0 d;rw [d];simp only;split at c
  ·rename_i b pos i;rw [i];simp only [if_true];split at c
   ·rename_i e;obtain rfl:=Option.some.inj c;rw [if_pos e];exact ⟨_,rfl,fun p d=>by obtain rfl:=List.mem_singleton.1 d;exact h3 _ _ _ rfl⟩
   ·rename_i e;obtain rfl:=Option.some.inj c;rw [if_neg e];exact ⟨_,rfl,fun p d=>by obtain rfl:=List.mem_singleton.1 d;exact h2 rfl⟩
  ·cases c
 ·cases c
def Ey (T:TT) (tk:TK) (b:Builtin) (ts:List TypeId) (args:List AV) (s:AS) (K:AV->AS->Prop):Prop :=
 match b,ts,args with
 | .len,t::_,x::_=>aV .i64 (aQ T t x s) fun n=>K (.int .i64 n) s
 | .cap,t::_,x::_=>aV .i64 (vP T t x) fun n=>K (.int .i64 n) s
 | .append,t::xt::_,dst::x::_=>iD (aI T t xt dst x s) K
 | .copy,t::_::_,dst::x::_=>iD (qt T t dst x s) K
 | .delete,t::_,m::k::_=>bt (pS T t m k s) fun s=>K .undef s
 | .clear,t::_,x::_=>bt (HR T t x s) fun s=>K .undef s
 | .max,_,l=>rd tk (JT true l) fun v=>K v s
 | .min,_,l=>rd tk (JT false l) fun v=>K v s
 | _,_,_=>False
def Qv (P:Program) (T:TT) (o:Oper) (ρ:Operand->AV) (s:AS) (K:AV->AS->Prop):Prop :=
 match o.op with
 | .move x=>K (ρ x) s
 | .assign x=>K (ρ x) s
 | .pick c a b=>(match ρ c with | .bool t=>af t (K (ρ a) s) (K (ρ b) s) | _=>False)
 | .alloc e=>(match T.rY e with | some z=>(bif z.cells.all AV.one then K (.ptr (some (s.nl,0))) (s.new (.cells z.cells 0 false)) else False) | none=>False)
 | .box _ x=>MG (ρ x) fun cs=>K (.ptr (some (s.nl,0))) (s.new (.cells cs 0 false))
 | .build t parts=>oS (aS T t (parts.toList.map fun p=>(p.1,ρ p.2))) fun cs=>K (.agg cs) s
 | .buildSlice t len parts=>aR (cV T t len (parts.toList.map fun p=>(p.1,ρ p.2))) fun cs=>K (.slc (some (s.nl,0)) len len true) (s.new (.cells cs (S_ T t len) false))
 | .load t a=>(match ρ a with
  | .ptr a=>ah a fun l off=>(match T.agg t with
   | some true=>(match T.eU t with | some n=>aR (aD s l off n) fun cs=>K (.agg cs) s | none=>False)
   | some false=>rd (VT T t) (av s l off) fun v=>K v s
   | none=>False)
  | _=>False)
 | .store t a x=>(match ρ a with | .ptr a=>ah a fun l off=>fu T t s l off (ρ x) fun s=>K .undef s | _=>False)
 | .nilCheck x=>(match ρ x with
  | .ptr a=>ah a fun l off=>K (.ptr (some (l,off))) s
  | .func f c=>K (.func f c) s
  | .tX f ft c=>K (.tX f ft c) s
  | .iface t v=>K (.iface t v) s
  | _=>False)
 | .binOp op t x y _=>QM T op t (Mq x||Mq y) (ρ x) (ρ y) fun v=>K v s
 | .unOp op _ x=>(match op,ρ x with
  | .neg,.int k n=>K (.int k (k.wrap (0 - n))) s
  | .not,.bool b=>K (.bool !b) s
  | .xor,.int k n=>aV k (Uk .xor (.int k n)) fun m=>K (.int k m) s
  | op,v=>dS (Uk op v) fun v=>K v s)
 | .convert src dst x=>(match T.cR src,T.cR dst,ρ x with
  | some (.slice _),some .string,v=>FY ((cO T src dst v s).map (·.1)) fun b=>K (.str b) s
  | some _,some (.int k),.int _ n=>K (.int k (k.wrap n)) s
  | some _,some .string,.str b=>K (.str b) s
  | some _,some (.slice _),v=>iD (cO T src dst v s) K
  | some _,some .string,v=>FY ((cO T src dst v s).map (·.1)) fun b=>K (.str b) s
  | _,_,_=>False)
 | .makeInterface t x=>(match T.cR t with | some (.interface _)=>False | some _=>K (.iface t (ρ x)) s | none=>False)
 | .makeFunc (.func f) first captured=>bif first.isEmpty then K (.func f (captured.toList.map ρ)) s else K (.tX f (first.toList.map ρ) (captured.toList.map ρ)) s
 | .makeMap t none=>(match T.cR t with | some _=>K (.map (some s.nl)) (s.new (.map [] 0 false)) | none=>False)
 | .makeSlice t l c=>iD (ua T t (ρ l) (ρ c) s) K
 | .slice t x lo hi d=>rd (Kh T o.type) (aZ T t (ρ x) (lo.map ρ) (hi.map ρ) (d.map ρ)) fun v=>K v s
 | .fieldAddr t x f=>(match ρ x with | .ptr a=>ah a fun l off=>(match t_ T t (.ptr (some (l,off))) f with | some v=>K v s | none=>False) | _=>False)
 | .field t x f=>(match T.cR t,ρ x with
  | some (.struct fields),.agg cs=>(match fields[f]? with
   | some fd=>(match T.agg fd.type with
    | some true=>(match T.eU fd.type with | some n=>K (.agg ((cs.drop fd.offset).take n)) s | none=>False)
    | some false=>rd (VT T fd.type) (cs[fd.offset]?) fun v=>K v s
    | none=>False)
   | none=>False)
  | _,_=>False)
 | .indexAddr t x ix=>bG (ag T t (ρ x) (ρ ix)) fun l off=>K (.ptr (some (l,off))) s
 | .index t x ix=>rd (Kh T o.type) (jd T t (ρ x) (ρ ix)) fun v=>K v s
 | .lookup t x ix ok=>rd (Kh T o.type) (dh T t (ρ x) (ρ ix) ok s) fun v=>K v s
 | .mapUpdate t m k v=>bt (dJ T t (ρ m) (ρ k) (ρ v) s) fun s=>K .undef s
 | .insert t m k v=>bt (dJ T t (ρ m) (ρ k) (ρ v) s) fun s=>K .undef s
 | .extract t i=>(match ρ t with | .aP vs=>(match vs[i]? with | some v=>K v s | none=>False) | _=>False)
 | .call c=>(match c.callee with
  | .builtin b=>Ey T (Kh T o.type) b c.argTypes.toList (c.args.toList.map ρ) s K
  | .value x=>er P (ρ x) (c.args.toList.map ρ) s fun v s=>VU (Kh T o.type) v fun v=>K v s
  | _=>False)
 | .range t x=>iD (QN T t (ρ x) s) K
 | .entry it=>rd (Kh T o.type) (uc (ρ it) s) fun v=>K v s
 | .sliceToArrayPointer t x=>ng (O5 T t (ρ x)) fun a=>K (.ptr a) s
 | _=>False
section
variable {P:Program} {T:TT}
theorem Bu {b:Bool} {X Y:Prop} (h:af b X Y):if b=true then X else Y:=by cases b <;> simpa [af] using h
theorem yG {a:Option (Nat×Nat)} {F:Nat->Nat->Prop} (h:ah a F):∃ l o,a=some (l,o)/\F l o:=by
 unfold ah at h;split at h
 ·exact ⟨_,_,rfl,h⟩
 ·exact h.elim
theorem Ot {t:TypeId} {len:Nat} {parts:List (Nat×AV)} {s:AS} {cs:List AV} (h:cV T t len parts=some cs):k_ T t len parts s=some (.slc (some (s.nl,0)) len len true,s.new (.cells cs (S_ T t len) false)):=by
 unfold cV at h;unfold k_;cases hu:T.cR t with
 | none=>rw [hu] at h;cases h
 | some d =>
  rw [hu] at h;cases d with
  | slice e =>
   simp only [Option.bind_eq_some_iff] at h;obtain ⟨n,c,z,i,zc,b,h⟩:=h;simp only [c,i,b,Option.bind_some];split at h
   ·rename_i j;rw [if_pos j,h];rfl
   ·cases h
  | _=>cases h
theorem MI {v:AV} {F:List AV->Prop} (h:MG v F):∃ cs,bI v=some cs/\F cs:=by
 unfold MG at h;split at h
 ·rename_i l;obtain ⟨b,h2⟩:=h;exact ⟨l,by simp only [bI,AV.cells,b,if_true],h2⟩
 ·exact h.elim
 ·exact h.elim
 ·rename_i b h2 h3;refine ⟨[v],?_,h⟩;cases v <;> first | rfl | exact (b _ rfl).elim | exact (h2 _ rfl).elim | exact (h3 rfl).elim
theorem MJ {t:TypeId} {s:AS} {l off:Nat} {v:AV} {K:AS->Prop} (h:fu T t s l off v K):∃ s',S9 T t s (.ptr (some (l,off))) v=some s'/\K s':=by
 unfold fu at h;split at h
 ·rename_i cs;obtain ⟨⟨b,h2⟩,s',h3,h4⟩:=h;refine ⟨s',?_,h4⟩;simp only [S9,bI,AV.cells,b,if_true,Option.bind_some,h2,h3]
 ·exact h.elim
 ·exact h.elim
 ·rename_i b h2 h3;cases hs:(T.eU t==some 1) with
  | false=>rw [hs] at h;exact h.elim
  | true =>
   rw [hs] at h;obtain ⟨s',h4,d⟩:=h;have c:T.eU t=some 1:=by simpa using hs
   refine ⟨s',?_,d⟩;have e:bI v=some [v]:=by cases v <;> first | rfl | exact (b _ rfl).elim | exact (h2 _ rfl).elim | exact (h3 rfl).elim
   simp only [S9,e,Option.bind_some,c,List.length_cons,List.length_nil,Nat.zero_add,if_true,h4]
theorem Pg {op:BinOp} {k:IntKind} {a b:Int} {K:AV->Prop} (h:QK op k a b K):∃ v,bA op k a b=some v/\K v:=by
 unfold QK at h;split at h
 case h_4=>exact ⟨_,by simp only [bA,if_neg h.1],h.2⟩
 case h_5=>exact ⟨_,by simp only [bA,if_neg h.1],h.2⟩
 case h_12=>obtain ⟨n,c,h2⟩:=h;exact ⟨_,c,h2⟩
 all_goals exact ⟨_,by simp only [bA],h⟩
theorem QS {op:BinOp} {t:TypeId} {x y:Operand} {u v:AV} {K:AV->Prop} (h:UH T op t (Mq x||Mq y) u v K):Mr T t x y u v=true/\∃ r,kP T op t u v=some r/\K r:=by
 unfold UH at h;split at h
 ·rename_i k a k' b;exact ⟨rfl,_,by simp only [kP];rw [if_neg (by have:=h.1;omega)],h.2⟩
 ·rename_i k a k' b;exact ⟨rfl,_,by simp only [kP];rw [if_neg (by have:=h.1;omega)],h.2⟩
 ·rename_i op k a k' b c h2;refine ⟨rfl,?_⟩;cases i:(k==k') with
  | false=>rw [i] at h;exact h.elim
  | true =>
   rw [i] at h;obtain rfl:k=k':=by simpa using i
   obtain ⟨r,hr,l⟩:=Pg h;refine ⟨r,?_,l⟩;rw [<- hr];cases op <;> first | (exact absurd rfl c) | (exact absurd rfl h2) | simp only [kP,if_true]
 ·exact ⟨rfl,_,by simp only [kP];rw [if_pos (by have:=h.1;simpa using this)],h.2⟩
 ·exact ⟨rfl,_,by simp only [kP],h⟩
 ·exact ⟨rfl,_,by simp only [kP],h⟩
 ·exact ⟨rfl,_,by simp only [kP],h⟩
 ·exact ⟨rfl,_,by simp only [kP],h⟩
 ·exact ⟨rfl,_,by simp only [kP],h⟩
 ·exact ⟨rfl,_,by simp only [kP],h⟩
 ·rename_i a b;split at h
  ·rename_i hu;exact ⟨rfl,_,by simp only [kP,iB,hu,Option.map_some],h⟩
  ·exact h.elim
 ·rename_i a b;split at h
  ·rename_i hu;exact ⟨rfl,_,by simp only [kP,iB,hu,Option.map_some],h⟩
  ·exact h.elim
 ·rename_i xs ys;cases d:T.Qt t with
  | false=>rw [d] at h;exact h.elim
  | true=>rw [d] at h;obtain ⟨b,c,h2⟩:=h;exact ⟨d,_,by simp only [kP,c,Option.map_some],h2⟩
 ·rename_i xs ys;cases d:T.Qt t with
  | false=>rw [d] at h;exact h.elim
  | true=>rw [d] at h;obtain ⟨b,c,h2⟩:=h;exact ⟨d,_,by simp only [kP,c,Option.map_some],h2⟩
 ·obtain ⟨b,c,h2⟩:=h;exact ⟨rfl,_,by simp only [kP,c,Option.map_some],h2⟩
 ·obtain ⟨b,c,h2⟩:=h;exact ⟨rfl,_,by simp only [kP,c,Option.map_some],h2⟩
 ·obtain ⟨b,c,h2⟩:=h;exact ⟨rfl,_,by simp only [kP,c,Option.map_some],h2⟩
 ·obtain ⟨b,c,h2⟩:=h;exact ⟨rfl,_,by simp only [kP,c,Option.map_some],h2⟩
 ·obtain ⟨j,b,c,h2⟩:=h;refine ⟨by rw [HZ];exact j,.bool b,?_,h2⟩;unfold kP;split <;> first | (simp_all;done) | (exfalso;simp_all;rename_i e;exact e _ _ _ _ rfl rfl rfl rfl) | (exfalso;rename_i e;simp_all;exact e _ _ _ _ rfl rfl rfl rfl)
 ·obtain ⟨j,b,c,h2⟩:=h;refine ⟨by rw [HZ];exact j,.bool !b,?_,h2⟩;unfold kP;split <;> first | (simp_all;done) | (exfalso;simp_all;rename_i e;exact e _ _ _ _ rfl rfl rfl rfl) | (exfalso;rename_i e;simp_all;exact e _ _ _ _ rfl rfl rfl rfl)
 ·exact h.elim
theorem Ph {op:BinOp} {t:TypeId} {x y:Operand} {u v:AV} {K:AV->Prop} (h:QM T op t (Mq x||Mq y) u v K):Mr T t x y u v=true/\∃ r,kP T op t u v=some r/\K r:=by
 unfold QM at h;have key:∀ b,Qu T t (Mq x||Mq y) u v=some b->Mr T t x y u v=true/\iB T 100 t u v=some b:=by
  intro b hb;unfold Qu at hb;split at hb
  ·rename_i p;exact ⟨by rw [HZ];exact p,hb⟩
  ·cases hb
 have i:QL (T.cR t)=true->∀ b,iB T 100 t u v=some b->kP T .eql t u v=some (.bool b)/\kP T .neq t u v=some (.bool !b):=by
  intro hd b hb;have:∀ d,T.cR t=some d->QL (some d)=true:=fun d h=>by rw [<- h];exact hd
  have c:(∀ k n k' n',¬ (u=.int k n/\v=.int k' n'))/\(∀ a b,¬ (u=.str a/\v=.str b)):=by
   cases hu:T.cR t with
   | none=>rw [hu] at hd;cases hd
   | some d =>
    have j:=this d hu;refine ⟨fun k n k' n' e=>?_,fun a b e=>?_⟩
    ·obtain ⟨rfl,rfl⟩:=e;cases d <;> first | (cases j;done) | (simp only [iB,hu] at hb;cases hb)
    ·obtain ⟨rfl,rfl⟩:=e;cases d <;> first | (cases j;done) | (simp only [iB,hu] at hb;cases hb)
  constructor
  ·unfold kP;split <;> first
    | (exact absurd ⟨rfl,rfl⟩ (c.1 _ _ _ _))
    | (exact absurd ⟨rfl,rfl⟩ (c.2 _ _))
    | (rename_i e;cases e;done)
    | (rw [hb];rfl)
    | simp_all
  ·unfold kP;split <;> first
    | (exact absurd ⟨rfl,rfl⟩ (c.1 _ _ _ _))
    | (exact absurd ⟨rfl,rfl⟩ (c.2 _ _))
    | (rename_i e;cases e;done)
    | (rw [hb];rfl)
    | simp_all
 split at h
 ·rename_i hd;obtain ⟨b,l,h2⟩:=h;obtain ⟨m,o⟩:=key b l;exact ⟨m,_,(i hd b o).1,h2⟩
 ·rename_i hd;obtain ⟨b,l,h2⟩:=h;obtain ⟨m,o⟩:=key b l;exact ⟨m,_,(i hd b o).2,h2⟩
 ·exact QS h
theorem H6 {tk:TK} {b:Builtin} {ts:List TypeId} {args:List AV} {s:AS} {K:AV->AS->Prop} (h:Ey T tk b ts args s K):∃ v s',dX T b ts args s=some (v,s')/\K v s':=by
 unfold Ey at h;split at h
 ·obtain ⟨n,c,h2⟩:=h;exact ⟨_,s,by simp only [dX,c,Option.map_some],h2⟩
 ·obtain ⟨n,c,h2⟩:=h;exact ⟨_,s,by simp only [dX,c,Option.map_some],h2⟩
 ·exact h
 ·exact h
 ·obtain ⟨s',c,h2⟩:=h;exact ⟨_,s',by simp only [dX,c,Option.map_some],h2⟩
 ·obtain ⟨s',c,h2⟩:=h;exact ⟨_,s',by simp only [dX,c,Option.map_some],h2⟩
 ·obtain ⟨v,c,h2⟩:=rd_some h;exact ⟨v,s,by simp only [dX,c,Option.map_some],h2⟩
 ·obtain ⟨v,c,h2⟩:=rd_some h;exact ⟨v,s,by simp only [dX,c,Option.map_some],h2⟩
 ·exact h.elim
def H7:Op->Bool
 | .call c=>match c.callee with
  | .value _=>true
  | _=>false
 | _=>false
theorem DZ {o:Oper} {ρ:Operand->AV} {s:AS} {K:AV->AS->Prop} (H:H7 o.op=false) (h:Qv P T o ρ s K):∃ v s',cF T o.op ρ s=some (v,s')/\K v s':=by
 unfold Qv at h;cases G:o.op <;> rw [G] at h <;> simp only at h
 case move x=>exact ⟨_,_,rfl,h⟩
 case assign x=>exact ⟨_,_,rfl,h⟩
 case pick c a b =>
  split at h
  ·rename_i t ht;have:=Bu h;refine ⟨if t then ρ a else ρ b,s,by simp only [cF,ht],?_⟩;cases t <;> simpa using this
  ·exact h.elim
 case alloc e =>
  split at h
  ·rename_i z L;cases D:z.cells.all AV.one with
   | false=>rw [D] at h;exact h.elim
   | true=>rw [D] at h;exact ⟨_,_,by simp only [cF,L,Option.bind_some,bI,D,if_true,Option.map_some],h⟩
  ·exact h.elim
 case box e x =>
  obtain ⟨cs,j,h2⟩:=MI h;exact ⟨_,_,by simp only [cF,j,Option.map_some],h2⟩
 case build t parts =>
  obtain ⟨l,j,h2⟩:=h;exact ⟨_,_,by simp only [cF,j,Option.map_some],h2⟩
 case buildSlice t len parts =>
  obtain ⟨l,j,h2⟩:=h;exact ⟨_,_,by simp only [cF];exact Ot j,h2⟩
 case load t a =>
  split at h
  ·rename_i a' A;have h2:=yG h;clear h;obtain ⟨l,off,rfl,h⟩:=h2;split at h
   ·rename_i w;split at h
    ·rename_i n I;obtain ⟨cs,j,h2⟩:=h;exact ⟨_,_,by simp only [cF,Gc,A,w,I,Option.bind_some,j,Option.map_some],h2⟩
    ·exact h.elim
   ·rename_i w;obtain ⟨v,j,h2⟩:=rd_some h;exact ⟨_,_,by simp only [cF,Gc,A,w,j,Option.map_some],h2⟩
   ·exact h.elim
  ·exact h.elim
 case store t a x =>
  split at h
  ·rename_i a' A;have h2:=yG h;clear h;obtain ⟨l,off,rfl,h⟩:=h2;obtain ⟨s',j,h2⟩:=MJ h;exact ⟨_,_,by simp only [cF,A,j,Option.map_some],h2⟩
  ·exact h.elim
 case nilCheck x =>
  split at h
  ·rename_i a A;cases a with
   | none=>exact h.elim
   | some p=>exact ⟨_,_,by simp only [cF,A],h⟩
  ·rename_i A;exact ⟨_,_,by simp only [cF,A],h⟩
  ·rename_i A;exact ⟨_,_,by simp only [cF,A],h⟩
  ·rename_i A;exact ⟨_,_,by simp only [cF,A],h⟩
  ·exact h.elim
 case binOp op t x y M =>
  obtain ⟨j,r,h2,h3⟩:=Ph h;exact ⟨_,_,by simp only [cF,j,if_true,h2,Option.map_some],h3⟩
 case unOp op t x =>
  split at h
  ·rename_i B;exact ⟨_,_,by simp only [cF,Uk,B,Option.map_some],h⟩
  ·rename_i B;exact ⟨_,_,by simp only [cF,Uk,B,Option.map_some],h⟩
  ·rename_i B;obtain ⟨n,j,h2⟩:=h;exact ⟨_,_,by simp only [cF,B,j,Option.map_some],h2⟩
  ·obtain ⟨v,j,h2⟩:=h;exact ⟨_,_,by simp only [cF,j,Option.map_some],h2⟩
 case convert src dst x =>
  split at h
  ·rename_i hs hd;obtain ⟨b,j,h2⟩:=h;simp only [Option.map_eq_some_iff] at j;obtain ⟨⟨v,s'⟩,h3,h4⟩:=j;simp only at h4;subst h4;have F:s'=s:=by
    unfold cO at h3;split at h3 <;> try (first | (cases h3;done) | (simp only [Option.some.injEq,Prod.mk.injEq] at h3;exact h3.2.symm))
    ·rename_i e1 e2;rw [hd] at e1;cases e1
    ·split at h3
     ·split at h3
      ·simp only [Option.some.injEq,Prod.mk.injEq] at h3;exact h3.2.symm
      ·cases h3
     ·cases h3
    ·split at h3
     ·simp only [Option.some.injEq,Prod.mk.injEq] at h3;exact h3.2.symm
     ·cases h3
    ·split at h3
     ·split at h3
      ·simp only [Option.some.injEq,Prod.mk.injEq] at h3;exact h3.2.symm
      simp only [Option.bind_eq_some_iff,Option.map_eq_some_iff] at h3;obtain ⟨_,_,_,_,h3⟩:=h3;simp only [Prod.mk.injEq] at h3;exact h3.2.symm
     ·cases h3
    ·rename_i e1 e2;rw [hd] at e1;cases e1
   subst F;exact ⟨_,_,by simp only [cF];exact h3,h2⟩
  ·rename_i hs hd B;exact ⟨_,_,by simp only [cF,cO,hs,hd,B],h⟩
  ·rename_i hs hd B;exact ⟨_,_,by simp only [cF,cO,hs,hd,B],h⟩
  ·exact h
  ·rename_i hs hd B;obtain ⟨b,j,h2⟩:=h;simp only [Option.map_eq_some_iff] at j;obtain ⟨⟨v,s'⟩,h3,h4⟩:=j;simp only at h4;subst h4;have F:s'=s:=by
    unfold cO at h3;split at h3 <;> try (first | (cases h3;done) | (simp only [Option.some.injEq,Prod.mk.injEq] at h3;exact h3.2.symm))
    ·rename_i e1 e2;rw [hd] at e1;cases e1
    ·split at h3
     ·split at h3
      ·simp only [Option.some.injEq,Prod.mk.injEq] at h3;exact h3.2.symm
      ·cases h3
     ·cases h3
    ·split at h3
     ·simp only [Option.some.injEq,Prod.mk.injEq] at h3;exact h3.2.symm
     ·cases h3
    ·split at h3
     ·split at h3
      ·simp only [Option.some.injEq,Prod.mk.injEq] at h3;exact h3.2.symm
      simp only [Option.bind_eq_some_iff,Option.map_eq_some_iff] at h3;obtain ⟨_,_,_,_,h3⟩:=h3;simp only [Prod.mk.injEq] at h3;exact h3.2.symm
     ·cases h3
    ·rename_i e1 e2;rw [hd] at e1;cases e1
   subst F;exact ⟨_,_,by simp only [cF];exact h3,h2⟩
  ·exact h.elim
 case makeInterface t x =>
  split at h
  ·exact h.elim
  ·rename_i d hd hu;refine ⟨_,_,?_,h⟩;simp only [cF,hu]
  ·exact h.elim
 case makeFunc fn first captured =>
  cases fn with
  | func g =>
   simp only at h;cases D:first.isEmpty with
   | true=>rw [D] at h;exact ⟨_,_,by simp only [cF,D,if_true],h⟩
   | false=>rw [D] at h;exact ⟨_,_,by simp only [cF,D,Bool.false_eq_true,if_false],h⟩
  | _=>exact h.elim
 case makeMap t r =>
  cases r with
  | none =>
   simp only at h;split at h
   ·rename_i d hd;exact ⟨_,_,by simp only [cF,hd],h⟩
   ·exact h.elim
  | some r=>exact h.elim
 case makeSlice t l c=>exact h
 case slice t x lo hi O =>
  obtain ⟨v,j,h2⟩:=rd_some h;exact ⟨_,_,by simp only [cF,j,Option.map_some],h2⟩
 case fieldAddr t x f =>
  split at h
  ·rename_i a' A;have h2:=yG h;clear h;obtain ⟨l,off,rfl,h⟩:=h2;split at h
   ·rename_i v hv;exact ⟨_,_,by simp only [cF,A,hv,Option.map_some],h⟩
   ·exact h.elim
  ·exact h.elim
 case field t x f =>
  split at h
  ·rename_i fields cs hu B;split at h
   ·rename_i fd J;split at h
    ·rename_i w;split at h
     ·rename_i n I;exact ⟨_,_,by simp only [cF,Ed,hu,B,J,Option.bind_some,part,w,I,Option.map_some],h⟩
     ·exact h.elim
    ·rename_i w;obtain ⟨v,j,h2⟩:=rd_some h;exact ⟨_,_,by simp only [cF,Ed,hu,B,J,Option.bind_some,part,w,j,Option.map_some],h2⟩
    ·exact h.elim
   ·exact h.elim
  ·exact h.elim
 case indexAddr t x ix =>
  obtain ⟨l,i,j,h2⟩:=h;exact ⟨_,_,by simp only [cF,j,Option.map_some],h2⟩
 case index t x ix =>
  obtain ⟨v,j,h2⟩:=rd_some h;exact ⟨_,_,by simp only [cF,j,Option.map_some],h2⟩
 case lookup t x ix ok =>
  obtain ⟨v,j,h2⟩:=rd_some h;exact ⟨_,_,by simp only [cF,j,Option.map_some],h2⟩
 case mapUpdate t m k v =>
  obtain ⟨s',j,h2⟩:=h;exact ⟨_,_,by simp only [cF,j,Option.map_some],h2⟩
 case insert t m k v =>
  obtain ⟨s',j,h2⟩:=h;exact ⟨_,_,by simp only [cF,j,Option.map_some],h2⟩
 case extract t i =>
  split at h
  ·rename_i vs hv;split at h
   ·rename_i v hi;exact ⟨_,_,by simp only [cF,hv,hi,Option.map_some],h⟩
   ·exact h.elim
  ·exact h.elim
 case call c =>
  cases C:c.callee with
  | value x=>rw [G] at H;simp only [H7,C] at H;cases H
  | builtin b =>
   rw [C] at h;simp only at h;obtain ⟨v,s',j,h2⟩:=H6 h;exact ⟨v,s',by simp only [cF,C,j],h2⟩
  | invoke x m=>rw [C] at h;exact h.elim
 case range t x=>exact h
 case entry it =>
  obtain ⟨v,j,h2⟩:=rd_some h;exact ⟨_,_,by simp only [cF,j,Option.map_some],h2⟩
 case sliceToArrayPointer t x =>
  obtain ⟨a,j,h2⟩:=h;exact ⟨_,_,by simp only [cF,j,Option.map_some],h2⟩
 all_goals exact h.elim
theorem sS {o:Oper} {f:Fr} {s:AS} {K:AV->AS->Prop} (h:Qv P T o (oU f) s K):Bs P T o f s K:=by
 cases b:H7 o.op with
 | false =>
  have j:eW f o.op=none:=by
   unfold H7 at b;unfold eW;split
   ·rename_i c d;rw [d] at b;simp only at b;split
    ·rename_i x e;rw [e] at b;cases b
    ·rfl
   ·rfl
  unfold Bs;rw [j];exact DZ b h
 | true =>
  unfold H7 at b;split at b
  ·rename_i c d;split at b
   ·rename_i x e;unfold Qv at h;rw [d] at h;simp only [e] at h;unfold Bs eW;rw [d];simp only [e];unfold er at h;split at h
    ·rename_i g cap hv;rw [hv];exact h.mono fun v s i=>zQ i
    ·rename_i g ft cap hv;rw [hv];exact h.mono fun v s i=>zQ i
    ·exact h.elim
   ·cases b
  ·cases b
end
end Go.Am
end

section
namespace Go.Am
def fN:Op->Bool
 | .move _ | .assign _ | .pick .. | .binOp .. | .unOp .. | .fieldAddr .. | .field .. | .indexAddr .. | .index .. | .slice .. | .extract ..=>true
 | _=>false
def sU:Op->Bool
 | .call _=>false
 | _=>true
theorem gj {op:Op} (h:sU op=true) (f:Fr):eW f op=none:=by
 cases op <;> first | rfl | cases h
theorem wg {op:Op} (h:fN op=true):sU op=true:=by
 cases op <;> first | rfl | cases h
theorem zR {T:TT} {op:Op} (k:fN op=true) {ρ:Operand->AV} {s s1:AS} {v:AV} (h:cF T op ρ s=some (v,s1)):s1=s/\∀ s',cF T op ρ s'=some (v,s'):=by
 have key:∀ x:Option AV,x.map (·,s)=some (v,s1)->s1=s/\∀ s':AS,x.map (·,s')=some (v,s'):=by
  intro x e;cases x with
  | none=>cases e
  | some u =>
   obtain ⟨rfl,rfl⟩:u=v/\s=s1:=by simpa using e
   exact ⟨rfl,fun s'=>rfl⟩
 have d:∀ u:AV,some (u,s)=some (v,s1)->s1=s/\∀ s':AS,some (u,s')=some (v,s'):=by
  intro u e;obtain ⟨rfl,rfl⟩:u=v/\s=s1:=by simpa using e
  exact ⟨rfl,fun s'=>rfl⟩
 cases op with
 | pick c a b =>
  simp only [cF] at h ⊢;generalize ρ c=x at h ⊢;cases x <;> first | exact d _ h | cases h
 | binOp op t x y l =>
  simp only [cF] at h ⊢;by_cases j:Mr T t x y (ρ x) (ρ y)=true
  ·rw [if_pos j] at h;simp only [if_pos j];exact key _ h
  ·rw [if_neg j] at h;cases h
 | extract t i =>
  simp only [cF] at h ⊢;generalize ρ t=x at h ⊢;cases x <;> first | exact key _ h | cases h
 | _=>first
  | (simp [fN] at k;done)
  | (simp only [cF] at h ⊢;exact key _ h)
  | (simp only [cF] at h ⊢;exact d _ h)
def lR:Op->Bool
 | .load .. | .lookup .. | .nilCheck _=>true
 | o=>fN o
theorem CH {op:Op} (h:lR op=true):sU op=true:=by
 cases op <;> first | rfl | cases h
theorem QT {T : TT} {op : Op} (d : lR op = true) {ρ : Operand -> AV} {s s1 : AS} {v : AV} (h : cF T op ρ s = some (v, s1)) : s1 = s := by
  have key : ∀ x : Option AV, x.map (·, s) = some (v, s1) -> s1 = s := by
    intro x b;cases x with
    | none => cases b
    | some u =>
      obtain ⟨rfl, rfl⟩ : u = v /\ s = s1 := by simpa using b
      rfl
  by_cases c : fN op = true
  · exact (zR c h).1
  cases op <;> first
    | (simp only [cF] at h
       split at h <;> first
         | (simp only [Option.some.injEq, Prod.mk.injEq] at h; exact h.2.symm)
         | cases h)
    | exact absurd d c
    | (simp only [cF] at h; exact key _ h)
def pT:Op->Bool
 | .alloc _=>true
 | _=>false
theorem Ki {op:Op} (h:lR op=true):lQ op=true:=by
 cases op <;> first | rfl | cases h
theorem MK {T:TT} {op:Op} (d:pT op=true) {ρ:Operand->AV} {s s1:AS} {v:AV} (i:aM s) (h:cF T op ρ s=some (v,s1)):Ext s s1/\∀ b,cF T op b s=some (v,s1):=by
 cases op with
 | alloc e =>
  refine ⟨?_,fun b=>h⟩;simp only [cF,Option.bind_eq_some_iff,Option.map_eq_some_iff,Prod.mk.injEq] at h;obtain ⟨z,_,cs,_,_,rfl⟩:=h;have j:s.h s.nl=none:=by simpa using i.2 0
  refine ⟨fun l x c=>?_,by rw [AS.tY];omega⟩;rw [AS.ot _ rfl,if_neg]
  ·exact c
  ·rintro rfl;rw [j] at c;cases c
 | _=>cases d
section
variable {P:Program} {T:TT} {n:Nat} {ops:Array Oper}
theorem Bs.mono {o:Oper} {f:Fr} {s:AS} {R R':AV->AS->Prop} (h:Bs P T o f s R) (hr:∀ v s',R v s'->R' v s'):Bs P T o f s R':=by
 unfold Bs at h ⊢;split
 ·rename_i g args c;rw [c] at h;exact h.mono hr
 ·rename_i c;rw [c] at h;obtain ⟨v,s',a,b⟩:=h;exact ⟨v,s',a,hr _ _ b⟩
def sV (P:Program) (T:TT) (n:Nat) (ops:Array Oper) (o:Oper) (f:Fr) (s:AS) (K:Fr->AS->Prop):Prop :=
 match cY ops f o with
 | some true=>dY n o.dst=true/\Bs P T o f s fun v s'=>K (bN f o.dst v) s'
 | some false=>dY n o.dst=true/\K (bN f o.dst .undef) s
 | none=>False
theorem sV.mono {o:Oper} {f:Fr} {s:AS} {K K':Fr->AS->Prop} (h:sV P T n ops o f s K) (c:∀ f s,K f s->K' f s):sV P T n ops o f s K':=by
 unfold sV at h ⊢;split
 ·rename_i b;rw [b] at h;exact ⟨h.1,Bs.mono h.2 fun v s' d=>c _ _ d⟩
 ·rename_i b;rw [b] at h;exact ⟨h.1,c _ _ h.2⟩
 ·rename_i b;rw [b] at h;exact h
def q8 (P:Program) (T:TT) (n:Nat) (ops:Array Oper) (K:Fr->AS->Prop):List Nat->Fr->AS->Prop
 | [],f,s=>K f s
 | i::is,f,s=>match ops[i]? with
  | some o=>sV P T n ops o f s (q8 P T n ops K is)
  | none=>False
theorem uo (c:∀ (i:Nat) o,ops[i]? = some o->yD o.op=false) {K:Fr->AS->Prop}:∀ (j k:Nat) (f:Fr) (s:AS),k+j=ops.size->fq P T n ops (ops.toList.drop k) f s K->q8 P T n ops K (List.range' k j) f s
 | 0,k,f,s,w,h=>by
  rw [List.drop_eq_nil_of_le (by simp;omega)] at h;exact h
 | j+1,k,f,s,w,h=>by
  have d:k<ops.size:=by omega
  have e:ops.toList.drop k=ops[k]::ops.toList.drop (k+1):=by
   rw [List.drop_eq_getElem_cons (by simpa using d)];simp
  rw [e] at h;simp only [List.range'_succ,q8,Array.getElem?_eq_getElem d];simp only [fq] at h;unfold sV;split at h
  ·rename_i m;rw [m];obtain ⟨x,h2⟩:=h;refine ⟨x,?_⟩;rcases h2 with h2 | ⟨l,r,_⟩
   rotate_left
   ·rw [yE (c k _ (Array.getElem?_eq_getElem d))] at r;cases r
   unfold Bs;split
   ·rename_i g args p;rw [p] at h2;exact h2.mono fun v s' y=>uo c j (k+1) _ _ (by omega) y
   ·rename_i p;rw [p] at h2;obtain ⟨v,s',a,b⟩:=h2;exact ⟨v,s',a,uo c j (k+1) _ _ (by omega) b⟩
  ·rename_i m;rw [m];exact ⟨h.1,uo c j (k+1) _ _ (by omega) h.2⟩
  ·exact h.elim
def iM (T:TT) (n:Nat) (ops:Array Oper) (o:Oper) (f:Fr) (u:AV):Prop :=
 dY n o.dst=true/\((cY ops f o=some false/\u=.undef)\/(cY ops f o=some true/\∀ s,cF T o.op (oU f) s=some (u,s)))
theorem Bv {o:Oper} (e:fN o.op=true) {f:Fr} {s:AS} {K:Fr->AS->Prop} (h:sV P T n ops o f s K):∃ u,iM T n ops o f u/\K (bN f o.dst u) s:=by
 unfold sV at h;split at h
 ·rename_i d;obtain ⟨i,h2⟩:=h;unfold Bs at h2;rw [gj (wg e)] at h2;obtain ⟨v,s',a,b⟩:=h2;obtain ⟨rfl,c⟩:=zR e a;exact ⟨v,⟨i,.inr ⟨d,c⟩⟩,b⟩
 ·rename_i d;exact ⟨_,⟨h.1,.inl ⟨d,rfl⟩⟩,h.2⟩
 ·exact h.elim
theorem iM.step {o:Oper} (e:fN o.op=true) {f:Fr} {u:AV} (h:iM T n ops o f u) {s:AS} {K:Fr->AS->Prop} (c:K (bN f o.dst u) s):sV P T n ops o f s K:=by
 obtain ⟨d,⟨b,rfl⟩ | ⟨b,i⟩⟩:=h
 ·unfold sV;rw [b];exact ⟨d,c⟩
 ·unfold sV;rw [b];refine ⟨d,?_⟩;unfold Bs;rw [gj (wg e)];exact ⟨_,_,i s,c⟩
theorem iM.same {o:Oper} {f:Fr} {d:Option Nat} {v u:AV} (h:∀ t,d=some t->t ∉ o.looksAt ops):iM T n ops o (bN f d v) u↔iM T n ops o f u:=by
 obtain ⟨l1,_,l3⟩:=ff (T:=T) (ops:=ops) (o:=o) (f:=f) (d:=d) (v:=v) h;unfold iM;rw [l1];simp only [l3]
def Kj (T:TT) (n:Nat) (ops:Array Oper) (o:Oper) (f:Fr) (s:AS) (u:AV):Prop :=
 dY n o.dst=true/\((cY ops f o=some false/\u=.undef)\/(cY ops f o=some true/\cF T o.op (oU f) s=some (u,s)))
theorem xC {o:Oper} (d:lR o.op=true) {f:Fr} {s:AS} {K:Fr->AS->Prop} (h:sV P T n ops o f s K):∃ u,Kj T n ops o f s u/\K (bN f o.dst u) s:=by
 unfold sV at h;split at h
 ·rename_i c;obtain ⟨e,h2⟩:=h;unfold Bs at h2;rw [gj (CH d)] at h2;obtain ⟨v,s',a,b⟩:=h2;obtain rfl:=QT d a;exact ⟨v,⟨e,.inr ⟨c,a⟩⟩,b⟩
 ·rename_i c;exact ⟨_,⟨h.1,.inl ⟨c,rfl⟩⟩,h.2⟩
 ·exact h.elim
theorem Kj.step {o:Oper} (e:lR o.op=true) {f:Fr} {s:AS} {u:AV} (h:Kj T n ops o f s u) {K:Fr->AS->Prop} (c:K (bN f o.dst u) s):sV P T n ops o f s K:=by
 obtain ⟨d,⟨b,rfl⟩ | ⟨b,i⟩⟩:=h
 ·unfold sV;rw [b];exact ⟨d,c⟩
 ·unfold sV;rw [b];refine ⟨d,?_⟩;unfold Bs;rw [gj (CH e)];exact ⟨_,_,i,c⟩
theorem Kj.same {o:Oper} {f:Fr} {d:Option Nat} {v u:AV} {s:AS} (h:∀ t,d=some t->t ∉ o.looksAt ops):Kj T n ops o (bN f d v) s u↔Kj T n ops o f s u:=by
 obtain ⟨l1,_,l3⟩:=ff (T:=T) (ops:=ops) (o:=o) (f:=f) (d:=d) (v:=v) h;unfold Kj;rw [l1];simp only [l3]
theorem QU {j oj:Oper} (x:j.apart ops oj=true) (i:fN j.op=true\/(fN oj.op=true/\sU j.op=true)\/(lR j.op=true/\lR oj.op=true)) {f:Fr} {s:AS} {K:Fr->AS->Prop}
  (h:sV P T n ops j f s fun f s=>sV P T n ops oj f s K):sV P T n ops oj f s fun f s=>sV P T n ops j f s K:=by
 obtain ⟨k,y,m⟩:=Oper.apart_spec x;have c:∀ u v,bN (bN f j.dst u) oj.dst v=bN (bN f oj.dst v) j.dst u:=fun u v=>Bt y;rcases i with i | ⟨i,z⟩ | ⟨i,w⟩
 rotate_left 2
 ·obtain ⟨u,hu,e⟩:=xC i h;obtain ⟨v,hv,e⟩:=xC w e;refine Kj.step w ((Kj.same k).1 hv) (Kj.step i ((Kj.same m).2 hu) ?_);rw [<- c];exact e
 ·obtain ⟨u,hu,e⟩:=Bv i h;have l:=ff (T:=T) (ops:=ops) (o:=oj) (f:=f) (d:=j.dst) (v:=u) k;unfold sV at e ⊢;rw [l.1] at e;split
  ·rename_i p;rw [p] at e;refine ⟨e.1,Bs.mono ((v_ k).1 e.2) fun v s' A=>?_⟩;refine iM.step i ((iM.same m).2 hu) ?_;rw [<- c];exact A
  ·rename_i p;rw [p] at e;refine ⟨e.1,iM.step i ((iM.same m).2 hu) ?_⟩;rw [<- c];exact e.2
  ·rename_i p;rw [p] at e;exact e
 ·unfold sV at h;split at h
  ·rename_i p;obtain ⟨B,h2⟩:=h;unfold Bs at h2;rw [gj z] at h2;obtain ⟨v,s',a,b⟩:=h2;obtain ⟨u,hu,e⟩:=Bv i b;have r:=(iM.same k).1 hu;refine iM.step i r ?_;have l:=ff (T:=T) (ops:=ops) (o:=j) (f:=f) (d:=oj.dst) (v:=u) m;unfold sV;rw [l.1,p];refine ⟨B,?_⟩;unfold Bs;rw [gj z];exact ⟨v,s',by rw [l.2.2];exact a,by show K (bN (bN f oj.dst u) j.dst v) s';rw [<- c];exact e⟩
  ·rename_i p;obtain ⟨u,hu,e⟩:=Bv i h.2;have r:=(iM.same k).1 hu;refine iM.step i r ?_;have l:=ff (T:=T) (ops:=ops) (o:=j) (f:=f) (d:=oj.dst) (v:=u) m;unfold sV;rw [l.1,p];exact ⟨h.1,by rw [<- c];exact e⟩
  ·exact h.elim
theorem Ez {j oj:Oper} (w:j.apart ops oj=true) (r:lR j.op=true) (k:pT oj.op=true) {f:Fr} {s:AS} (B:aM s) {K:Fr->AS->Prop}
  (h:sV P T n ops j f s fun f s=>sV P T n ops oj f s K):sV P T n ops oj f s fun f s=>sV P T n ops j f s K:=by
 obtain ⟨x,y,m⟩:=Oper.apart_spec w;have c:∀ u v,bN (bN f j.dst u) oj.dst v=bN (bN f oj.dst v) j.dst u:=fun u v=>Bt y;have z:∀ f,eW f oj.op=none:=fun f=>by
  cases C:oj.op <;> first | rfl | (rw [C] at k;cases k)
 obtain ⟨u,hu,i⟩:=xC r h;have l:=ff (T:=T) (ops:=ops) (o:=oj) (f:=f) (d:=j.dst) (v:=u) x;unfold sV at i ⊢;rw [l.1] at i;split
 ·rename_i e;rw [e] at i;obtain ⟨D,h2⟩:=i;refine ⟨D,?_⟩;unfold Bs at h2 ⊢;rw [z] at h2 ⊢;obtain ⟨v,s',a,b⟩:=h2;obtain ⟨F,p⟩:=MK k B a;refine ⟨v,s',p _,?_⟩;have A:Kj T n ops j f s' u:=by
   obtain ⟨G,H⟩:=hu;refine ⟨G,H.imp id fun ⟨I,J⟩=>⟨I,Br (Ki r) B.1 J F⟩⟩
  refine Kj.step r ((Kj.same m).2 A) ?_;rw [<- c];exact b
 ·rename_i e;rw [e] at i;refine ⟨i.1,Kj.step r ((Kj.same m).2 hu) ?_⟩;rw [<- c];exact i.2
 ·rename_i e;rw [e] at i;exact i
def Hf (ops:Array Oper) (b oj:Oper):Prop:=b.apart ops oj=true/\((lR b.op=true/\pT oj.op=true)\/(pT oj.op=false/\(fN b.op=true\/(fN oj.op=true/\sU b.op=true)\/(lR b.op=true/\lR oj.op=true))))
theorem xD {K:Fr->AS->Prop} {j:Nat} {oj:Oper} (l:ops[j]? = some oj):∀ (pre post:List Nat) (f:Fr) (s:AS),(pT oj.op=true->aM s)->(∀ i∈pre,∀ m,ops[i]? = some m->Hf ops m oj) ->
  q8 P T n ops K (pre++j::post) f s->sV P T n ops oj f s (q8 P T n ops K (pre++post))
 | [],post,f,s,_,_,h=>by simpa only [List.nil_append,q8,l] using h
 | i::pre,post,f,s,o,b,h=>by
  simp only [List.cons_append,q8] at h;cases d:ops[i]? with
  | none=>rw [d] at h;exact h.elim
  | some m =>
   rw [d] at h;obtain ⟨x,h2⟩:=b i (by simp) m d;rcases h2 with ⟨c,e⟩ | ⟨e,h2⟩
   ·have p:=o e;obtain ⟨u,hu,y⟩:=xC c h;have h3:sV P T n ops m f s fun f s=>sV P T n ops oj f s (q8 P T n ops K (pre++post)) :=
     Kj.step c hu (xD l pre post _ s o (fun k w=>b k (List.mem_cons_of_mem _ w)) y)
    refine sV.mono (Ez x c e p h3) fun f s r=>?_;simp only [List.cons_append,q8,d];exact r
   have h3:sV P T n ops m f s fun f s=>sV P T n ops oj f s (q8 P T n ops K (pre++post)) :=
    sV.mono h fun f s r=>xD l pre post f s (fun h=>by rw [e] at h;cases h) (fun k w=>b k (List.mem_cons_of_mem _ w)) r
   refine sV.mono (QU x h2 h3) fun f s r=>?_;simp only [List.cons_append,q8,d];exact r
def H8 (ops:Array Oper) (bs:List Nat):Bool :=
 decide (Region.before ops=bs.toArray) &&
 (List.range ops.size).all fun i=>(ops[i]?).all (fun o=>o.after.toList.all fun e=>decide (e.on<i)||!Region.binds .any e) &&
  (List.range i).all fun j=>(bs.getD i 0).testBit j||((ops[j]?).any fun x=>(ops[i]?).any fun y=>x.apart ops y&&((lR x.op&&pT y.op)||(!pT y.op&&(fN x.op||(fN y.op&&sU x.op)||(lR x.op&&lR y.op)))))
structure Hg (ops:Array Oper):Prop where
 back:∀ (i:Nat) o,ops[i]? = some o->∀ e∈o.after.toList,Region.binds .any e=true->e.on<i
 free:∀ i,i<ops.size->∀ j,j<i->gQ ops j i=true\/∃ x y,ops[j]? = some x/\ops[i]? = some y/\Hf ops x y
theorem Pj {ops:Array Oper} {bs:List Nat} (h:H8 ops bs=true):Hg ops:=by
 simp only [H8,Bool.and_eq_true,decide_eq_true_eq,List.all_eq_true,List.mem_range] at h;obtain ⟨hb,h⟩:=h;have b:∀ j i,gQ ops j i=(bs.getD i 0).testBit j:=by
  intro j i;unfold gQ;rw [hb];simp [List.getD_eq_getElem?_getD]
 have d:∀ (i:Nat) o,ops[i]? = some o->i<ops.size:=by
  intro i o c;rcases Nat.lt_or_ge i ops.size with h | h
  ·exact h
  ·simp [Array.getElem?_eq_none h] at c
 refine ⟨fun i o c e l k=>?_,fun i hi j hj=>?_⟩
 ·have:=(h i (d i o c)).1;rw [c] at this;simp only [Option.all_some,List.all_eq_true,Bool.or_eq_true,decide_eq_true_eq] at this;rcases this e l with h | h
  ·exact h
  ·rw [k] at h;simp at h
 ·have:=(h i hi).2 j hj;simp only [Bool.or_eq_true] at this;rcases this with h | h
  ·exact .inl (by rw [b];exact h)
  ·simp only [Option.any_eq_true,Bool.and_eq_true,Bool.or_eq_true] at h;obtain ⟨x,m,y,n,p,h2⟩:=h;exact .inr ⟨x,y,m,n,p,h2.elim .inl fun h=>.inr ⟨by simpa using h.1,h.2.elim (fun h=>h.elim .inl fun h=>.inr (.inl h)) fun h=>.inr (.inr h)⟩⟩
theorem ML (hT:TT.Ok P T) (hD:Hg ops) {Q:Exit->Fr->AS->Prop} {B:Nat} {Et:bM} {s0:AS} {w0:World} :
  ∀ (fuel:Nat) (q:List Nat) (listed:Array Bool) (f:Fr) (s:AS) (γ:bM) (a:Act) (w:World),
  q.Pairwise (·<·)->(∀ i∈q,i<ops.size)->gZ ops listed (fun i=>i<ops.size/\i ∉ q)->q.length<=fuel ->
  q8 P T n ops (fun f s=>Q .normal f s) q f s ->
  m_ γ n f a->Rel B γ s w->fM B Et s0 w0 γ s w->Down ops listed ->
  wpAny P .any ops (va B Et s0 w0 n Q) fuel listed a w:=by
 have D:∀ {listed:Array Bool},gZ ops listed (fun i=>i<ops.size/\i ∉ ([]:List Nat))->Region.ready .any ops listed=[]:=by
  intro listed r;rw [List.eq_nil_iff_forall_not_mem];intro i hi;obtain ⟨o,F,Z,_⟩:=(eX r i).1 hi;refine Z ⟨?_,by simp⟩;rcases Nat.lt_or_ge i ops.size with h | h
  ·exact h
  ·simp [Array.getElem?_eq_none h] at F
 intro fuel
 induction fuel with
 | zero =>
  intro q listed f s γ a w c A r hf h d hr hd j;obtain rfl:q=[]:=List.length_eq_zero_iff.1 (by omega);exact ⟨D r,γ,f,s,d,hd,hr,h⟩
 | succ fuel ih =>
  intro q listed f s γ a w c A r hf h d hr hd j;cases q with
  | nil =>
   refine ⟨fun _=>⟨γ,f,s,d,hd,hr,h⟩,fun i hi=>?_⟩;rw [D r] at hi;cases hi
  | cons L q' =>
   refine ⟨fun M=>?_,fun i hi=>?_⟩
   ·exfalso;have O:=A L (by simp);have:L∈Region.ready .any ops listed:=by
     refine (eX r L).2 ⟨_,Array.getElem?_eq_getElem O,by simp,fun e W hb=>?_⟩;have:=hD.back L _ (Array.getElem?_eq_getElem O) e W hb;refine (r.iff e.on (by omega)).2 ⟨by omega,?_⟩;simp only [List.mem_cons,not_or];refine ⟨by omega,fun hm=>?_⟩;have:=(List.pairwise_cons.1 c).1 e.on hm;omega
    rw [M] at this;cases this
   ·obtain ⟨o,F,Z,W⟩:=(eX r i).1 hi;have J:i<ops.size:=by
     rcases Nat.lt_or_ge i ops.size with h | h
     ·exact h
     ·simp [Array.getElem?_eq_none h] at F
    have ab:i∈L::q':=by
     by_cases h:i∈L::q'
     ·exact h
     ·exact absurd ⟨J,h⟩ Z
    obtain ⟨pre,post,hq⟩:=List.append_of_mem ab;rw [hq] at h c A r hf;have G:∀ k∈pre,k<i:=by
     intro k p;have:=(List.pairwise_append.1 c).2.2 k p i (by simp);exact this
    have K:∀ k∈pre,∀ ok,ops[k]? = some ok->Hf ops ok o:=by
     intro k p ok z;have C:=G k p;have ad:k<ops.size:=by omega
     rcases hD.free i J k C with h | ⟨x,y,X,Y,h⟩
     ·exfalso;have:=ji j i o F W h;have:=(r.iff k ad).1 this;exact absurd (by simp [p]:k∈pre++i::post) this.2
     ·rw [z] at X;rw [F] at Y;obtain rfl:=Option.some.inj X;obtain rfl:=Option.some.inj Y;exact h
    have b:=xD F pre post f s (fun _=>hr.Mh) K h;have l:(pre++post).Pairwise (·<·):=by
     have:=List.pairwise_append.1 c;rw [List.pairwise_append];exact ⟨this.1,(List.pairwise_cons.1 this.2.1).2,fun x X y Y=>this.2.2 x X y (by simp [Y])⟩
    have H:i ∉ pre++post:=by
     intro hm;rcases List.mem_append.1 hm with h | h
     ·have:=G i h;omega
     ·have:=(List.pairwise_cons.1 (List.pairwise_append.1 c).2.1).1 i h;omega
    have R:gZ ops (listed.setIfInBounds i true) (fun k=>k<ops.size/\k ∉ pre++post):=by
     refine r.set fun k=>?_;simp only [List.mem_append,List.mem_cons,not_or];constructor
     ·rintro ⟨S,h2,h3⟩;by_cases p:k=i
      ·exact .inl p
      ·exact .inr ⟨S,h2,p,h3⟩
     ·rintro (rfl | ⟨S,h2,h3,h4⟩)
      ·simp only [List.mem_append,not_or] at H;exact ⟨J,H⟩
      ·exact ⟨S,h2,h4⟩
    have m:Down ops (listed.setIfInBounds i true):=by
     intro k ok z p e U hb;have mono:listed.getD e.on false=true->(listed.setIfInBounds i true).getD e.on false=true:=by
      intro h;have ae:e.on<listed.size:=by
       rcases Nat.lt_or_ge e.on listed.size with h' | h'
       ·exact h'
       ·simp [Array.getD_eq_getD_getElem?,Array.getElem?_eq_none h'] at h
      simp only [Array.getD_eq_getD_getElem?,Array.getElem?_setIfInBounds] at h ⊢;split
      ·rename_i al;subst al;simp [ae]
      ·exact h
     by_cases C:i=k
     ·subst C;rw [F] at z;obtain rfl:=Option.some.inj z;exact mono (W e U hb)
     ·refine mono (j k ok z ?_ e U hb);simp only [Array.getD_eq_getD_getElem?,Array.getElem?_setIfInBounds] at p ⊢;rw [if_neg C] at p;exact p
    have hlen:(pre++post).length<=fuel:=by simp at hf ⊢;omega
    have I:∀ k∈pre++post,k<ops.size:=fun k p=>A k (by rcases List.mem_append.1 p with h | h <;> simp [h]);unfold wpOp;rw [F];simp only;unfold sV at b;split at b
    ·rename_i hw;rw [ep d hw,if_pos rfl];have am:Es P T n o f s (q8 P T n ops (fun f s=>Q .normal f s) (pre++post)):=lf b.1 b.2 fun v s' hh=>hh;refine .inl (jh hT am d hr ?_);intro γ' f' s' a' w' S h2 h3 h4;exact ih _ _ _ s' γ' a' w' l I R hlen h4 S h3 (hd.trans h2) m
    ·rename_i hw;rw [ep d hw,if_neg (by simp)];exact ih _ _ _ s γ _ w l I R hlen b.2 (d.put b.1 (oV γ)) hr hd m
    ·exact b.elim
theorem ke.calm (hT:TT.Ok P T) (bW:P.follows .mixedOrders=true) {id:Nat} {f:Fr} {s:AS} {Q:Exit->Fr->AS->Prop} {bs:List Nat} (c:H8 ops bs=true) (b:(ops.toList.all fun o=>!yD o.op)=true)
  (h:fq P T n ops ops.toList f s fun f s=>Q .normal f s):ke P n (.region id ops true) f s Q:=by
 intro B γ a w k hr;have l:=Pj c;refine wp_region_any bW ?_;have e:=uo (ops:=ops) (fun i o j=>by
  rw [List.all_eq_true] at b;simpa using b o (List.mem_iff_getElem?.2 ⟨i,by simpa using j⟩)) ops.size 0 f s (by omega) (by simpa using h)
 rw [<- List.range_eq_range'] at e;refine ML hT l ops.size (List.range ops.size) _ f s γ a { w with drawn:=w.drawn+1 } List.pairwise_lt_range (fun i hi=>List.mem_range.1 hi) ⟨by simp,fun i hi=>?_⟩ (by simp) e k (hr.of_heap rfl) (fM.of_heap rfl) ?_
 ·simp [Array.getD_eq_getD_getElem?,hi]
 ·intro i o j d;simp only [Array.getD_eq_getD_getElem?] at d;by_cases hi:i<ops.size
  ·simp [hi] at d
  ·simp [hi] at d
end
end Go.Am
end

section
namespace Go.Am
section
variable {P:Program} {T:TT} {n:Nat} {ops:Array Oper}
theorem CJ {K:Fr->AS->Prop}:∀ (L:List Nat) (f:Fr) (s:AS),(∀ i∈L,i<ops.size)->(∀ i∈L,∀ o,ops[i]? = some o->yD o.op=false) ->
  fq P T n ops (L.filterMap fun i=>ops[i]?) f s K->q8 P T n ops K L f s
 | [],f,s,_,_,h=>h
 | i::L,f,s,c,d,h=>by
  have e:=c i (by simp);have k:ops[i]? = some ops[i]:=Array.getElem?_eq_getElem e;simp only [List.filterMap_cons,k] at h;simp only [q8,k];have rc:=fun f s=>CJ (K:=K) L f s (fun j hj=>c j (by simp [hj])) (fun j hj=>d j (by simp [hj]));simp only [fq] at h;unfold sV;split at h
  ·rename_i m;rw [m];obtain ⟨w,h2⟩:=h;refine ⟨w,?_⟩;rcases h2 with h2 | ⟨l,r,_⟩
   rotate_left
   ·rw [yE (d i (by simp) _ k)] at r;cases r
   unfold Bs;split
   ·rename_i g args p;rw [p] at h2;exact h2.mono fun v s' x=>rc _ _ x
   ·rename_i p;rw [p] at h2;obtain ⟨v,s',a,b⟩:=h2;exact ⟨v,s',a,rc _ _ b⟩
  ·rename_i m;rw [m];exact ⟨h.1,rc _ _ h.2⟩
  ·exact h.elim
theorem exists_least:∀ (L:List Nat),L≠[]->∃ m∈L,∀ j∈L,m<=j
 | [],h=>absurd rfl h
 | [x],_=>⟨x,by simp,by simp⟩
 | x::y::L,_=>by
  obtain ⟨m,hm,b⟩:=exists_least (y::L) (by simp);rcases Nat.le_total x m with h | h
  ·exact ⟨x,by simp,fun j hj=>by
    rcases List.mem_cons.1 hj with rfl | hj
    ·exact Nat.le_refl _
    ·exact Nat.le_trans h (b j hj)⟩
  ·exact ⟨m,by simp [hm],fun j hj=>by
    rcases List.mem_cons.1 hj with rfl | hj
    ·exact h
    ·exact b j hj⟩
def WW (ops:Array Oper) (k i:Nat):Prop:=gQ ops k i=true\/∃ x y,ops[k]? = some x/\ops[i]? = some y/\Hf ops x y
theorem Kk (hT:TT.Ok P T) (M:∀ (i:Nat) o,ops[i]? = some o->∀ e∈o.after.toList,Region.binds .any e=true->e.on<i) {Q:Exit->Fr->AS->Prop} {B:Nat} {Et:bM} {s0:AS} {w0:World} :
  ∀ (fuel:Nat) (q:List Nat) (listed:Array Bool) (f:Fr) (s:AS) (γ:bM) (a:Act) (w:World),
  q.Nodup->q.Pairwise (WW ops)->(∀ i∈q,i<ops.size)->gZ ops listed (fun i=>i<ops.size/\i ∉ q)->q.length<=fuel ->
  q8 P T n ops (fun f s=>Q .normal f s) q f s ->
  m_ γ n f a->Rel B γ s w->fM B Et s0 w0 γ s w->Down ops listed ->
  wpAny P .any ops (va B Et s0 w0 n Q) fuel listed a w:=by
 have D:∀ {listed:Array Bool},gZ ops listed (fun i=>i<ops.size/\i ∉ ([]:List Nat))->Region.ready .any ops listed=[]:=by
  intro listed m;rw [List.eq_nil_iff_forall_not_mem];intro i hi;obtain ⟨o,F,hp,_⟩:=(eX m i).1 hi;refine hp ⟨?_,by simp⟩;rcases Nat.lt_or_ge i ops.size with h | h
  ·exact h
  ·simp [Array.getElem?_eq_none h] at F
 intro fuel
 induction fuel with
 | zero =>
  intro q listed f s γ a w z A p m hf h c hr hd d;obtain rfl:q=[]:=List.length_eq_zero_iff.1 (by omega);exact ⟨D m,γ,f,s,c,hd,hr,h⟩
 | succ fuel ih =>
  intro q listed f s γ a w z A p m hf h c hr hd d;by_cases R:q=[]
  ·subst R;refine ⟨fun _=>⟨γ,f,s,c,hd,hr,h⟩,fun i hi=>?_⟩;rw [D m] at hi;cases hi
  ·refine ⟨fun S=>?_,fun i hi=>?_⟩
   ·exfalso;obtain ⟨q0,U,C⟩:=exists_least q R;have W:=p q0 U;have:q0∈Region.ready .any ops listed:=by
     refine (eX m q0).2 ⟨_,Array.getElem?_eq_getElem W,fun h=>h.2 U,fun e he hb=>?_⟩;have:=M q0 _ (Array.getElem?_eq_getElem W) e he hb;refine (m.iff e.on (by omega)).2 ⟨by omega,fun hm=>?_⟩;have:=C e.on hm;omega
    rw [S] at this;cases this
   ·obtain ⟨o,F,hp,he⟩:=(eX m i).1 hi;have X:i<ops.size:=by
     rcases Nat.lt_or_ge i ops.size with h | h
     ·exact h
     ·simp [Array.getElem?_eq_none h] at F
    have ad:i∈q:=by
     by_cases h:i∈q
     ·exact h
     ·exact absurd ⟨X,h⟩ hp
    obtain ⟨pre,post,hq⟩:=List.append_of_mem ad;rw [hq] at h z A p m hf;have O:∀ k∈pre,∀ ok,ops[k]? = some ok->Hf ops ok o:=by
     intro k l ok r;have ae:k<ops.size:=p k (by simp [l]);rcases (List.pairwise_append.1 A).2.2 k l i (by simp) with h | ⟨x,y,hx,hy,h⟩
     ·exfalso;have:=ji d i o F he h;have:=(m.iff k ae).1 this;exact absurd (by simp [l]:k∈pre++i::post) this.2
     ·rw [r] at hx;rw [F] at hy;obtain rfl:=Option.some.inj hx;obtain rfl:=Option.some.inj hy;exact h
    have b:=xD F pre post f s (fun _=>hr.Mh) O h;have G:(pre++post).Sublist (pre++i::post):=List.Sublist.append_left (List.sublist_cons_self _ _) _;have H:=z.sublist G;have I:=A.sublist G;have J:i ∉ pre++post:=by
     intro hm;have K:=List.nodup_append.1 z;rcases List.mem_append.1 hm with h | h
     ·exact K.2.2 i h i (by simp) rfl
     ·exact (List.nodup_cons.1 K.2.1).1 h
    have Y:gZ ops (listed.setIfInBounds i true) (fun k=>k<ops.size/\k ∉ pre++post):=by
     refine m.set fun k=>?_;simp only [List.mem_append,List.mem_cons,not_or];constructor
     ·rintro ⟨K,h2,h3⟩;by_cases l:k=i
      ·exact .inl l
      ·exact .inr ⟨K,h2,l,h3⟩
     ·rintro (rfl | ⟨K,h2,h3,h4⟩)
      ·simp only [List.mem_append,not_or] at J;exact ⟨X,J⟩
      ·exact ⟨K,h2,h4⟩
    have j:Down ops (listed.setIfInBounds i true):=by
     intro k ok r l e Z hb;have mono:listed.getD e.on false=true->(listed.setIfInBounds i true).getD e.on false=true:=by
      intro h;have al:e.on<listed.size:=by
       rcases Nat.lt_or_ge e.on listed.size with h' | h'
       ·exact h'
       ·simp [Array.getD_eq_getD_getElem?,Array.getElem?_eq_none h'] at h
      simp only [Array.getD_eq_getD_getElem?,Array.getElem?_setIfInBounds] at h ⊢;split
      ·rename_i am;subst am;simp [al]
      ·exact h
     by_cases ab:i=k
     ·subst ab;rw [F] at r;obtain rfl:=Option.some.inj r;exact mono (he e Z hb)
     ·refine mono (d k ok r ?_ e Z hb);simp only [Array.getD_eq_getD_getElem?,Array.getElem?_setIfInBounds] at l ⊢;rw [if_neg ab] at l;exact l
    have hlen:(pre++post).length<=fuel:=by simp at hf ⊢;omega
    have L:∀ k∈pre++post,k<ops.size:=fun k l=>p k (by rcases List.mem_append.1 l with h | h <;> simp [h]);unfold wpOp;rw [F];simp only;unfold sV at b;split at b
    ·rename_i hw;rw [ep c hw,if_pos rfl];have an:Es P T n o f s (q8 P T n ops (fun f s=>Q .normal f s) (pre++post)):=lf b.1 b.2 fun v s' hh=>hh;refine .inl (jh hT an c hr ?_);intro γ' f' s' a' w' K h2 h3 h4;exact ih _ _ _ s' γ' a' w' H I L Y hlen h4 K h3 (hd.trans h2) j
    ·rename_i hw;rw [ep c hw,if_neg (by simp)];exact ih _ _ _ s γ _ w H I L Y hlen b.2 (c.put b.1 (oV γ)) hr hd j
    ·exact b.elim
end
theorem Hh {P:Program} {T:TT} {n:Nat} {ops:Array Oper} {A:List (List Nat)} {H:List Nat} {V:Nat->List AV->AV->Prop} {S:Nat->List AV->AV->AS->Prop} {X:AS->AS->Prop} {C:Nat->List AV->AV->AS->Prop} {M:List Nat} {s:AS} {K2:Fr->AS->Prop} {t:List Nat} :
  ∀ (q:List Nat) (f:Fr) (F:jQ) (c:AS->Prop) (s1:AS),(∀ k∈q,∃ o,ops[k]? = some o/\fN o.op=true/\H.contains k=false)->dq P T n ops A H V S X C M s (fun f s'=>q8 P T n ops K2 t f s') q f F c ->
  X s s1->aM s1->(∀ p∈F,p.2 s1)->c s1->(H=[]->s1=s)->q8 P T n ops K2 (q++t) f s1
 | [],f,F,c,s1,_,h,e,h2,h3,i,h4=>h s1 e h2 h3 i h4
 | k::q,f,F,c,s1,l,h,e,h2,h3,i,h4=>by
  obtain ⟨o,m,b,r⟩:=l k (by simp);have rc:=fun f F w h=>Hh (P:=P) (T:=T) (n:=n) (A:=A) (V:=V) (S:=S) (M:=M) (C:=C) (K2:=K2) (t:=t) q f F c s1 (fun k x=>l k (by simp [x])) h e h2 w i h4;simp only [dq,m] at h;simp only [List.cons_append,q8,m];obtain ⟨hd,h⟩:=h;unfold sV;split at h
  ·exact h.elim
  ·rename_i j;rw [j];exact ⟨hd,rc _ _ h3 h.2⟩
  ·rename_i j;rw [j];rw [if_neg (by rw [r];simp)] at h;obtain ⟨_,z,v,⟨hv,_⟩,y⟩:=h;obtain ⟨_,d⟩:=zR b hv;refine ⟨hd,?_⟩;unfold Bs;rw [gj (wg b)];exact ⟨v,s1,d s1,rc _ _ h3 y⟩
def Pk:List Nat->Bool
 | []=>true
 | x::l=>(l.all fun y=>decide (x<y))&&Pk l
theorem D0:∀ {l:List Nat},Pk l=true->l.Pairwise (·<·)
 | [],_=>List.Pairwise.nil
 | x::l,h=>by
  simp only [Pk,Bool.and_eq_true,List.all_eq_true,decide_eq_true_eq] at h;exact List.pairwise_cons.2 ⟨h.1,D0 h.2⟩
def EA (ops:Array Oper) (D t:List Nat) (A:List (List Nat)) (H:List Nat) (bs:List Nat):Bool :=
 decide (Region.before ops=bs.toArray) &&
 ((List.range ops.size).all fun i=>(ops[i]?).all (fun o=>o.after.toList.all fun e=>decide (e.on<i)||!Region.binds .any e)&&(D.contains i||t.contains i)) &&
 Pk D&&Pk t &&
 (D.all fun i=>decide (i<ops.size)&&!t.contains i&&((A.getD i []).all fun j=>(bs.getD i 0).testBit j&&decide (j<i)) &&
  ((ops[i]?).all fun o=>o.after.toList.all fun e=>D.contains e.on||!Region.binds .any e) &&
  (D.all fun j=>!decide (j<i)||(bs.getD i 0).testBit j||((ops[j]?).any fun x=>(ops[i]?).any fun y=>x.apart ops y)) &&
  (t.all fun u=>(bs.getD u 0).testBit i||((ops[i]?).any fun x=>(ops[u]?).any fun y=>x.apart ops y&&fN x.op&&!pT y.op&&!H.contains i))) &&
 (t.all fun u=>decide (u<ops.size)&&((ops[u]?).all fun o=>!yD o.op)&&t.all fun v=>!decide (v<u)||(bs.getD u 0).testBit v||((ops[v]?).any fun x=>(ops[u]?).any fun y=>x.apart ops y&&fN x.op&&!pT y.op))
structure Hi (ops:Array Oper) (D t:List Nat) (A:List (List Nat)) (H:List Nat):Prop where
 back:∀ (i:Nat) o,ops[i]? = some o->∀ e∈o.after.toList,Region.binds .any e=true->e.on<i
 all:∀ i,i<ops.size->i∈D\/i∈t
 sD:D.Pairwise (·<·)
 st:t.Pairwise (·<·)
 VI:∀ i∈D,i<ops.size
 Ww:∀ i∈t,i<ops.size
 Wx:∀ i∈D,i ∉ t
 UA:∀ i∈D,∀ j∈A.getD i [],gQ ops j i=true/\j<i
 dep:∀ i∈D,∀ o,ops[i]? = some o->∀ e∈o.after.toList,Region.binds .any e=true->e.on∈D
 free:∀ i∈D,∀ j∈D,j<i->gQ ops j i=true\/∃ x y,ops[j]? = some x/\ops[i]? = some y/\x.apart ops y=true
 dt:∀ i∈D,∀ u∈t,gQ ops i u=true\/∃ x y,ops[i]? = some x/\ops[u]? = some y/\Hf ops x y/\fN x.op=true/\H.contains i=false
 nx:∀ u∈t,∀ o,ops[u]? = some o->yD o.op=false
 tt:∀ u∈t,∀ v∈t,v<u->WW ops v u
theorem Pm {ops:Array Oper} {D t:List Nat} {A:List (List Nat)} {H bs:List Nat} (h:EA ops D t A H bs=true):Hi ops D t A H:=by
 simp only [EA,Bool.and_eq_true,decide_eq_true_eq] at h;obtain ⟨⟨⟨⟨⟨hb,d⟩,h2⟩,h3⟩,h4⟩,C⟩:=h;have b:∀ j i,gQ ops j i=(bs.getD i 0).testBit j:=by
  intro j i;unfold gQ;rw [hb];simp [List.getD_eq_getElem?_getD]
 have p:∀ (i:Nat) o,ops[i]? = some o->i<ops.size:=by
  intro i o c;rcases Nat.lt_or_ge i ops.size with h | h
  ·exact h
  ·simp [Array.getElem?_eq_none h] at c
 rw [List.all_eq_true] at d h4 C;have l:=fun i hi=>by
  have:=h4 i hi;simp only [Bool.and_eq_true,decide_eq_true_eq,Bool.not_eq_true'] at this;exact this
 have r:=fun i hi=>by
  have:=C i hi;simp only [Bool.and_eq_true,decide_eq_true_eq] at this;exact this
 refine ⟨fun i o c e w k=>?_,fun i hi=>?_,D0 h2,D0 h3,fun i hi=>(l i hi).1.1.1.1.1,fun i hi=>(r i hi).1.1,fun i hi ht=>?_,fun i hi j hj=>?_,fun i hi o c e w k=>?_,fun i hi j hj z=>?_,fun i hi u hu=>?_,fun u hu o c=>?_,fun u hu v hv B=>?_⟩
 ·have:=d i (List.mem_range.2 (p i o c));simp only [Bool.and_eq_true] at this;have:=this.1;rw [c] at this;simp only [Option.all_some,List.all_eq_true,Bool.or_eq_true,decide_eq_true_eq] at this;rcases this e w with h | h
  ·exact h
  ·rw [k] at h;simp at h
 ·have:=d i (List.mem_range.2 hi);simp only [Bool.and_eq_true,Bool.or_eq_true,List.contains_iff_mem] at this;exact this.2
 ·have:=(l i hi).1.1.1.1.2;rw [<- List.contains_iff_mem] at ht;rw [ht] at this;cases this
 ·have:=(l i hi).1.1.1.2;simp only [List.all_eq_true,Bool.and_eq_true,decide_eq_true_eq] at this;rw [b];exact this j hj
 ·have:=(l i hi).1.1.2;rw [c] at this;simp only [Option.all_some,List.all_eq_true,Bool.or_eq_true,List.contains_iff_mem] at this;rcases this e w with h | h
  ·exact h
  ·rw [k] at h;simp at h
 ·have:=(l i hi).1.2;simp only [List.all_eq_true,Bool.or_eq_true,Bool.not_eq_true',decide_eq_false_iff_not] at this;rcases this j hj with (h | h) | h
  ·exact absurd z h
  ·exact .inl (by rw [b];exact h)
  ·simp only [Option.any_eq_true] at h;obtain ⟨x,m,y,n,h⟩:=h;exact .inr ⟨x,y,m,n,h⟩
 ·have:=(l i hi).2;simp only [List.all_eq_true,Bool.or_eq_true] at this;rcases this u hu with h | h
  ·exact .inl (by rw [b];exact h)
  ·simp only [Option.any_eq_true,Bool.and_eq_true,Bool.not_eq_true'] at h;obtain ⟨x,m,y,n,⟨⟨d,h2⟩,h3⟩,h4⟩:=h;exact .inr ⟨x,y,m,n,⟨d,.inr ⟨h3,.inl h2⟩⟩,h2,h4⟩
 ·have:=(r u hu).1.2;rw [c] at this;simpa using this
 ·have:=(r u hu).2;simp only [List.all_eq_true,Bool.or_eq_true,Bool.not_eq_true',decide_eq_false_iff_not] at this;rcases this v hv with (h | h) | h
  ·exact absurd B h
  ·exact .inl (by rw [b];exact h)
  ·simp only [Option.any_eq_true,Bool.and_eq_true,Bool.not_eq_true'] at h;obtain ⟨x,m,y,n,⟨d,h2⟩,h3⟩:=h;exact .inr ⟨x,y,m,n,d,.inr ⟨h3,.inl h2⟩⟩
def UI (bs:List Nat):List Nat->Bool
 | []=>true
 | a::M=>(M.all fun b=>(bs.getD b 0).testBit a)&&UI bs M
def Wy (ops:Array Oper) (D H M:List Nat) (bs:List Nat):Bool:=decide (Region.before ops=bs.toArray)&&Pk M&&(M.all fun i=>D.contains i&&H.contains i)&&UI bs M
structure H9 (ops:Array Oper) (D H M:List Nat):Prop where
 VW:M.Pairwise (·<·)
 sub:∀ i∈M,i∈D
 Xf:∀ i∈M,H.contains i=true
 UA:M.Pairwise fun a b=>gQ ops a b=true
theorem UJ {ops:Array Oper} {D H M bs:List Nat} (h:Wy ops D H M bs=true):H9 ops D H M:=by
 simp only [Wy,Bool.and_eq_true,decide_eq_true_eq,List.all_eq_true] at h;obtain ⟨⟨⟨hb,d⟩,h2⟩,h3⟩:=h;refine ⟨D0 d,fun i hi=>List.contains_iff_mem.1 (h2 i hi).1,fun i hi=>(h2 i hi).2,?_⟩;clear d h2
 induction M with
 | nil=>exact List.Pairwise.nil
 | cons a M e =>
  simp only [UI,Bool.and_eq_true,List.all_eq_true] at h3;refine List.pairwise_cons.2 ⟨fun b c=>?_,e h3.2⟩;have:=h3.1 b c;unfold gQ;rw [hb];simpa [List.getD_eq_getElem?_getD] using this
theorem MN {ops:Array Oper} {D H:List Nat}:H9 ops D H []:=⟨List.Pairwise.nil,by simp,by simp,List.Pairwise.nil⟩
section
variable {P:Program} {T:TT} {n:Nat} {ops:Array Oper} {A:List (List Nat)} {H:List Nat} {V:Nat->List AV->AV->Prop} {S:Nat->List AV->AV->AS->Prop} {X:AS->AS->Prop} {C:Nat->List AV->AV->AS->Prop} {M:List Nat} {s:AS}
theorem H_ (hT:TT.Ok P T) (cb:1<=s.st) {D t:List Nat} (G:Hi ops D t A H) (ba:H9 ops D H M) (hX:∀ s s',Ext s s'->X s s') (bl:∀ a b c,X a b->X b c->X a c) (hC:∀ i k v s s',Ext s s'->C i k v s->C i k v s') (hS:∀ i k v s s',X s s'->S i k v s->S i k v s') {Q:Exit->Fr->AS->Prop} {B:Nat} {Et:bM} {s0:AS} {w0:World} :
  ∀ (fuel:Nat) (q:List Nat) (listed:Array Bool) (f:Fr) (F:jQ) (c:AS->Prop) (s1:AS) (γ:bM) (a:Act) (w:World),
  q.Sublist D->gZ ops listed (fun i=>i∈D/\i ∉ q)->q.length+t.length<=fuel ->
  dq P T n ops A H V S X C M s (fun f s'=>q8 P T n ops (fun f s=>Q .normal f s) t f s') q f F c->X s s1->c s1->(∀ s s',Ext s s'->c s->c s')->(H=[]->s1=s)->(∀ p∈F,p.2 s1)->(∀ p∈F,∀ s s',X s s'->p.2 s->p.2 s') ->
  m_ γ n f a->Rel B γ s1 w->fM B Et s0 w0 γ s1 w->Down ops listed ->
  wpAny P .any ops (va B Et s0 w0 n Q) fuel listed a w:=by
 intro fuel;have Z:∀ (fuel:Nat) (q:List Nat) (listed:Array Bool) (f:Fr) (F:jQ) (c:AS->Prop) (s1:AS) (γ:bM) (a:Act) (w:World),
   q.Sublist D->gZ ops listed (fun i=>i∈D/\i ∉ q)->q.length+t.length<=fuel->(∀ k∈q,∃ o,ops[k]? = some o/\fN o.op=true/\H.contains k=false) ->
   dq P T n ops A H V S X C M s (fun f s'=>q8 P T n ops (fun f s=>Q .normal f s) t f s') q f F c->X s s1->c s1->(H=[]->s1=s)->(∀ p∈F,p.2 s1) ->
   m_ γ n f a->Rel B γ s1 w->fM B Et s0 w0 γ s1 w->Down ops listed ->
   wpAny P .any ops (va B Et s0 w0 n Q) fuel listed a w:=by
  intro fuel q listed f F c s1 γ a w l hL hf hc h m J R hF K hr hd j;have z:=fun i hi=>l.subset (a:=i) hi;refine Kk hT G.back fuel (q++t) listed f s1 γ a w ?_ ?_ ?_ ⟨hL.size,fun i hi=>?_⟩ (by simpa using hf) (Hh q f F c s1 hc h m hr.Mh hF J R) K hr hd j
  ·refine List.nodup_append.2 ⟨(G.sD.imp fun h=>Nat.ne_of_lt h).sublist l,G.st.imp fun h=>Nat.ne_of_lt h,fun a ha b hb=>?_⟩;rintro rfl;exact G.Wx a (z a ha) hb
  ·refine List.pairwise_append.2 ⟨?_,?_,fun k r u hu=>?_⟩
   ·refine List.Pairwise.imp_of_mem ?_ (G.sD.sublist l);intro k i r hi U;rcases G.free i (z i hi) k (z k r) U with h | ⟨x,y,hx,hy,h⟩
    ·exact .inl h
    ·obtain ⟨o,ho,bm,_⟩:=hc k r;obtain ⟨o2,bb,a1,_⟩:=hc i hi;rw [hx] at ho;rw [hy] at bb;obtain rfl:=Option.some.inj ho;obtain rfl:=Option.some.inj bb;refine .inr ⟨x,y,hx,hy,h,.inr ⟨?_,.inl bm⟩⟩;cases ab:y.op <;> first | rfl | (rw [ab] at a1;cases a1)
   ·refine List.Pairwise.imp_of_mem ?_ G.st;intro v u hv hu U;exact G.tt u hu v hv U
   ·rcases G.dt k (z k r) u hu with h | ⟨x,y,hx,hy,h,_⟩
    ·exact .inl h
    ·exact .inr ⟨x,y,hx,hy,h⟩
  ·intro i hi;rcases List.mem_append.1 hi with h | h
   ·exact G.VI i (z i h)
   ·exact G.Ww i h
  ·rw [hL.iff i hi];simp only [List.mem_append,not_or];constructor
   ·rintro ⟨O,h2⟩;exact ⟨hi,h2,G.Wx i O⟩
   ·rintro ⟨_,h2,h3⟩;exact ⟨(G.all i hi).resolve_right h3,h2⟩
 induction fuel with
 | zero =>
  intro q listed f F c s1 γ a w l hL hf h m J ad R hF I K hr hd j;obtain rfl:q=[]:=List.length_eq_zero_iff.1 (by omega);exact Z 0 [] listed f F c s1 γ a w l hL hf (by simp) h m J R hF K hr hd j
 | succ fuel ih =>
  intro q listed f F c s1 γ a w l hL hf h m J ad R hF I K hr hd j;by_cases a2:∀ k∈q,∃ o,ops[k]? = some o/\fN o.op=true/\H.contains k=false
  ·exact Z _ q listed f F c s1 γ a w l hL hf a2 h m J R hF K hr hd j
  ·have z:=fun i hi=>l.subset (a:=i) hi;obtain ⟨kn,ap,bc⟩:∃ k∈q,¬ ∃ o,ops[k]? = some o/\fN o.op=true/\H.contains k=false:=by
    apply Classical.byContradiction;intro bo;exact a2 fun k r=>Classical.byContradiction fun hb=>bo ⟨k,r,hb⟩
   have bs:q≠[]:=by rintro rfl;cases ap
   have a4:∀ u∈t,gQ ops kn u=true:=fun u hu=>by
    rcases G.dt kn (z kn ap) u hu with h | ⟨x,y,hx,_,_,O,h2⟩
    ·exact h
    ·exact absurd ⟨x,hx,O,h2⟩ bc
   refine ⟨fun bd=>?_,fun i hi=>?_⟩
   ·exfalso;obtain ⟨q0,a5,ar⟩:=exists_least q bs;have U:=G.VI q0 (z q0 a5);have:q0∈Region.ready .any ops listed:=by
     refine (eX hL q0).2 ⟨_,Array.getElem?_eq_getElem U,fun h=>h.2 a5,fun e he hb=>?_⟩;have O:=G.back q0 _ (Array.getElem?_eq_getElem U) e he hb;have h2:=G.dep q0 (z q0 a5) _ (Array.getElem?_eq_getElem U) e he hb;refine (hL.iff e.on (by omega)).2 ⟨h2,fun hm=>?_⟩;have:=ar e.on hm;omega
    rw [bd] at this;cases this
   ·obtain ⟨o,ho,hp,he⟩:=(eX hL i).1 hi;have bx:i<ops.size:=by
     rcases Nat.lt_or_ge i ops.size with h | h
     ·exact h
     ·simp [Array.getElem?_eq_none h] at ho
    have aw:i∈D:=by
     rcases G.all i bx with h | h
     ·exact h
     ·exfalso;have:=ji j i o ho he (a4 i h);have:=(hL.iff kn (G.VI kn (z kn ap))).1 this;exact this.2 ap
    have b0:i∈q:=by
     by_cases h:i∈q
     ·exact h
     ·exact absurd ⟨aw,h⟩ hp
    obtain ⟨pre,post,hq⟩:=List.append_of_mem b0;rw [hq] at h l hL hf z;have ae:=G.sD.sublist l;have al:∀ k∈pre,k<i:=by
     intro k r;exact (List.pairwise_append.1 ae).2.2 k r i (by simp)
    have a6:∀ k∈pre,∀ ok,ops[k]? = some ok->Tg ops A k i ok o:=by
     intro k r ok am;have an:=al k r;have a7:k∈D:=z k (by simp [r]);have b1:k<ops.size:=G.VI k a7;have be:gQ ops k i=false:=by
      cases b2:gQ ops k i with
      | false=>rfl
      | true =>
       have:=ji j i o ho he b2;have:=(hL.iff k b1).1 this;exact absurd (by simp [r]:k∈pre++i::post) this.2
     refine ⟨?_,?_,?_⟩
     ·rcases G.free i aw k a7 an with h | ⟨x,y,hx,hy,h⟩
      ·rw [be] at h;cases h
      ·rw [am] at hx;rw [ho] at hy;obtain rfl:=Option.some.inj hx;obtain rfl:=Option.some.inj hy;exact h
     ·cases hc:(A.getD i []).contains k with
      | false=>rfl
      | true =>
       have:=(G.UA i aw k (by simpa using hc)).1;rw [be] at this;cases this
     ·cases hc:(A.getD k []).contains i with
      | false=>rfl
      | true =>
       have:=(G.UA k a7 i (by simpa using hc)).2;omega
    have b3:∀ k∈pre,M.contains k=true->M.contains i=false:=by
     intro k r b4;cases b5:M.contains i with
     | false=>rfl
     | true =>
      exfalso;have an:=al k r;have O:gQ ops k i=true:=by
       obtain ⟨M1,M2,e⟩:=List.append_of_mem (List.contains_iff_mem.1 b4);have bh:=ba.UA;have bi:=ba.VW;have bj:=List.contains_iff_mem.1 b5;rw [e] at bh bi bj;rcases List.mem_append.1 bj with h | h
       ·have:=(List.pairwise_append.1 bi).2.2 i h k (by simp);omega
       ·rcases List.mem_cons.1 h with rfl | h
        ·omega
        ·exact (List.pairwise_cons.1 (List.pairwise_append.1 bh).2.1).1 i h
      have h2:=ji j i o ho he O;exact ((hL.iff k (G.VI k (z k (by simp [r])))).1 h2).2 (by simp [r])
    have d:=zO ho pre post f F c a6 b3 h;have a8:(pre++post).Sublist (pre++i::post):=List.Sublist.append_left (List.sublist_cons_self _ _) _;have W:(pre++post).Sublist D:=a8.trans l;have a3:i ∉ pre++post:=by
     intro hm;rcases List.mem_append.1 hm with h | h
     ·have:=al i h;omega
     ·have:=(List.pairwise_cons.1 (List.pairwise_append.1 ae).2.1).1 i h;omega
    have a9:gZ ops (listed.setIfInBounds i true) (fun k=>k∈D/\k ∉ pre++post):=by
     refine hL.set fun k=>?_;simp only [List.mem_append,List.mem_cons,not_or];constructor
     ·rintro ⟨O,h2,h3⟩;by_cases r:k=i
      ·exact .inl r
      ·exact .inr ⟨O,h2,r,h3⟩
     ·rintro (rfl | ⟨O,h2,h3,h4⟩)
      ·simp only [List.mem_append,not_or] at a3;exact ⟨aw,a3⟩
      ·exact ⟨O,h2,h4⟩
    have L:Down ops (listed.setIfInBounds i true):=by
     intro k ok am r e bk hb;have mono:listed.getD e.on false=true->(listed.setIfInBounds i true).getD e.on false=true:=by
      intro h;have b6:e.on<listed.size:=by
       rcases Nat.lt_or_ge e.on listed.size with h' | h'
       ·exact h'
       ·simp [Array.getD_eq_getD_getElem?,Array.getElem?_eq_none h'] at h
      simp only [Array.getD_eq_getD_getElem?,Array.getElem?_setIfInBounds] at h ⊢;split
      ·rename_i b7;subst b7;simp [b6]
      ·exact h
     by_cases an:i=k
     ·subst an;rw [ho] at am;obtain rfl:=Option.some.inj am;exact mono (he e bk hb)
     ·refine mono (j k ok am ?_ e bk hb);simp only [Array.getD_eq_getD_getElem?,Array.getElem?_setIfInBounds] at r ⊢;rw [if_neg an] at r;exact r
    have hlen:(pre++post).length+t.length<=fuel:=by simp at hf ⊢;omega
    obtain ⟨ao,d⟩:=d;unfold wpOp;rw [ho];simp only;cases hw:cY ops f o with
    | none=>rw [hw] at d;exact d.elim
    | some b =>
     rw [hw] at d;rw [ep K hw];cases b with
     | false =>
      rw [if_neg (by simp)];exact ih _ _ _ F c s1 γ _ w W a9 hlen d.2 m J ad R hF I (K.put ao (oV γ)) hr hd L
     | true =>
      rw [if_pos rfl];simp only at d;by_cases hh:H.contains i=true
      ·rw [if_pos hh] at d;obtain ⟨hA,_,hK⟩:=d;have hv:=hA s1 m hr.Mh (fun p hp _=>hF p hp) (fun _=>J);have Y:∀ v s2,(if M.contains i then X s1 s2/\C i (keyOf f o) v s2 else Ext s1 s2)->X s1 s2/\mS C M i (keyOf f o) v c s2:=by
        intro v s2 hm;unfold mS;split at hm
        ·rename_i r;rw [if_pos r];exact hm
        ·rename_i r;rw [if_neg r];exact ⟨hX _ _ hm,ad _ _ hm J⟩
       have b8:∀ v s s',Ext s s'->mS C M i (keyOf f o) v c s->mS C M i (keyOf f o) v c s':=by
        intro v s s' e h;unfold mS at h ⊢;split at h
        ·rename_i r;rw [if_pos r];exact hC _ _ _ _ _ e h
        ·rename_i r;rw [if_neg r];exact ad _ _ e h
       have ab:Es P T n o f s1 (fun f2 s2=>∃ v,f2=bN f o.dst v/\(if M.contains i then X s1 s2/\C i (keyOf f o) v s2 else Ext s1 s2)/\S i (keyOf f o) v s2/\V i (keyOf f o) v):=lf ao hv fun v s2 ⟨O,h2,h3⟩=>⟨v,rfl,O,h2,h3⟩;refine .inl (jh hT ab K hr ?_);rintro γ' f' s' a' w' O h2 h3 ⟨v,rfl,h4,h5,h6⟩;refine ih _ _ _ _ _ s' γ' a' w' W a9 hlen (hK v h6) (bl _ _ _ m (Y _ _ h4).1) (Y _ _ h4).2 (b8 v) (fun e=>by rw [e] at hh;cases hh) ?_ ?_ O h3 (hd.trans h2) L
       ·intro p hp;rcases List.mem_append.1 hp with h | h
        ·exact I p h _ _ (Y _ _ h4).1 (hF p h)
        ·obtain rfl:=List.mem_singleton.1 h;exact h5
       ·intro p hp;rcases List.mem_append.1 hp with h | h
        ·exact I p h
        ·obtain rfl:=List.mem_singleton.1 h;exact fun s s' he=>hS i _ v s s' he
      ·rw [if_neg hh] at d;obtain ⟨h0,a0,v,⟨_,b9⟩,hK⟩:=d;have b':=b9 _ m hr.Mh;have ca:eW f o.op=none:=by
        unfold eW;split
        ·rename_i c hc;rw [hc] at a0;simp only [lQ] at a0;split
         ·rename_i x hx;rw [hx] at a0;cases a0
         ·rfl
        ·rfl
       have ab:Es P T n o f s1 (fun f2 s2=>f2=bN f o.dst v/\s2=s1):=by
        refine ⟨ao,.inl ?_⟩;rw [ca];exact ⟨v,s1,b',rfl,rfl⟩
       refine .inl (jh hT ab K hr ?_);rintro γ' f' s' a' w' O h2 h3 ⟨rfl,rfl⟩;exact ih _ _ _ F c _ γ' a' w' W a9 hlen hK m J ad R hF I O h3 (hd.trans h2) L
end
open Classical in
theorem EB {α:Type}:∀ {d es:List α},d.Nodup->(∀ e∈d,e∈es)->d.length<=es.length
 | [],es,_,_=>Nat.zero_le _
 | x::d,es,h,hs=>by
  obtain ⟨i,n2⟩:=List.nodup_cons.1 h;have b:=hs x (by simp);have:=EB (d:=d) (es:=es.erase x) n2 fun e c=>(List.mem_erase_of_ne (fun h=>i (by rw [<- h];exact c))).2 (hs e (by simp [c]));have j:0<es.length:=List.length_pos_of_mem b;rw [List.length_erase_of_mem b] at this;simp only [List.length_cons];omega
theorem ke.tail {P:Program} {T:TT} (hT:TT.Ok P T) (bW:P.follows .mixedOrders=true) {n id:Nat} {ops:Array Oper} {f:Fr} {s:AS} {Q:Exit->Fr->AS->Prop} (D t:List Nat) (A:List (List Nat)) (bs:List Nat) (H:List Nat)
  (V:Nat->List AV->AV->Prop) (S:Nat->List AV->AV->AS->Prop) (X:AS->AS->Prop) (C:Nat->List AV->AV->AS->Prop) (M:List Nat) (j:EA ops D t A H bs=true) (l:H9 ops D H M) (x:∀ s s',Ext s s'->X s s') (m:∀ a b c,X a b->X b c->X a c) (y:∀ i k v s s',Ext s s'->C i k v s->C i k v s') (z:∀ i k v s s',X s s'->S i k v s->S i k v s')
  {c:AS->Prop} (F:∀ s s',Ext s s'->c s->c s') (G:c s) (h:dq P T n ops A H V S X C M s (fun f s'=>fq P T n ops (t.filterMap fun i=>ops[i]?) f s' (fun f s=>Q .normal f s)) D f [] c):ke P n (.region id ops true) f s Q:=by
 intro B γ a w I hr;have d:=Pm j;refine wp_region_any bW ?_;have hlen:D.length+t.length<=ops.size:=by
  have p:(D++t).Nodup:=by
   refine List.nodup_append.2 ⟨d.sD.imp fun h=>Nat.ne_of_lt h,d.st.imp fun h=>Nat.ne_of_lt h,fun a J b hb=>?_⟩;rintro rfl;exact d.Wx a J hb
  have e:∀ i∈D++t,i∈List.range ops.size:=by
   intro i hi;rw [List.mem_range];rcases List.mem_append.1 hi with h | h
   ·exact d.VI i h
   ·exact d.Ww i h
  have:=EB p e;simpa using this
 have K:=zM (fun f s L=>CJ t f s d.Ww d.nx L) D f [] c h;refine H_ hT hr.QC d l x m y z ops.size D _ f [] c s γ a { w with drawn:=w.drawn+1 } (List.Sublist.refl _) ⟨by simp,fun i hi=>?_⟩ hlen K (x _ _ (Ext.refl s)) G F (fun _=>rfl) (by simp) (by simp) I (hr.of_heap rfl) (fM.of_heap rfl) ?_
 ·simp [Array.getD_eq_getD_getElem?,hi]
 ·intro i o O r;simp only [Array.getD_eq_getD_getElem?] at r;by_cases hi:i<ops.size
  ·simp [hi] at r
  ·simp [hi] at r
end Go.Am
end

section
namespace Go.Am
inductive QA where
 | leaf
 | calm
 | draw (m:Nat)
 | gR (m:Nat) (A:List (List Nat)) (H:List Nat)
 | QV (D t:List Nat) (A:List (List Nat)) (H:List Nat)
 | ve (D t:List Nat) (A:List (List Nat)) (H M:List Nat)
 | seq (a b:QA)
 | join (L:List (Nat×TK)) (W:List (Nat×Nat)) (a b:QA)
 | cond (a b:QA)
 | loop (L:List (Nat×TK)) (W:List (Nat×Nat)) (a:QA)
 | wrap (a:QA)
def UK (l:List Oper) (j:Nat):Option Nat:=(l[j]?).bind (·.dst)
def EC (l:List Oper) (g:Option (Nat×Bool)) (f:Fr) (A B:Fr->Prop):Prop:=match g with
 | none=>A f
 | some (j,want)=>match UK l j with
  | none=>B f
  | some d=>match f d with
   | .bool b=>af b (match want with | true=>A (oW f d (.bool true)) | false=>B (oW f d (.bool true))) (match want with | true=>B (oW f d (.bool false)) | false=>A (oW f d (.bool false)))
   | .aP _=>B f
   | _=>False
def Un (l:List Oper) (d:Nat):Bool:=l.any fun o=>match o.op,o.dst with
 | .entry _,some b=>b==d
 | _,_=>false
def VX (v:AV) (i:Nat) (K:AV->Prop):Prop:=match v with
 | .aP vs=>(match vs[i]? with | some v=>K v | none=>False)
 | _=>False
def VY (P:Program) (T:TT) (l:List Oper) (o:Oper) (ρ:Operand->AV) (s:AS) (K:AV->AS->Prop):Prop:=match o.op with
 | .next it false=>Oq (we (ρ it) s) s K
 | .next it true=>Um (MH (ρ it) s) s K
 | .entry it=>Wv (uc (ρ it) s) fun k v=>K (.aP [k,v]) s
 | .extract (.tmp d) i=>bif Un l d then VX (ρ (.tmp d)) i fun v=>VU (Kh T o.type) v fun v=>K v s else Qv P T o ρ s K
 | _=>Qv P T o ρ s K
def ED (P:Program) (T:TT) (l:List Oper):List Oper->Fr->AS->(Fr->AS->Prop)->Prop
 | [],f,s,K=>K f s
 | o::os,f,s,K=>EC l o.guard f (fun f=>VY P T l o (oU f) s fun v s=>ED P T l os (bN f o.dst v) s K) (fun f=>ED P T l os (bN f o.dst .undef) s K)
def Kl:jQ->AS->Prop
 | [],_=>True
 | p::ps,s=>p.2 s/\Kl ps s
def WX (T:TT) (o:Oper):TK:=match o.op with
 | .alloc _=>.ptr
 | .box ..=>.ptr
 | .sliceToArrayPointer ..=>.ptr
 | _=>Kh T o.type
def Tj (P:Program) (T:TT) (l:List Oper) (A:List (List Nat)) (H:List Nat) (V:Nat->List AV->AV->Prop) (S:Nat->List AV->AV->AS->Prop) (s:AS) (K:Fr->AS->Prop):List Nat->Fr->jQ->Prop
 | [],f,F=>∀ s',Ext s s'->aM s'->Kl F s'->K f s'
 | i::is,f,F=>match l[i]? with
  | none=>False
  | some o=>EC l o.guard f
   (fun f=>match H.contains i with
    | true=>(∀ s',Ext s s'->aM s'->Kl (F.filter fun p=>(A.getD i []).contains p.1) s'->Qv P T o (oU f) s' fun v s''=>Ext s' s''/\S i (keyOf f o) v s''/\V i (keyOf f o) v) /\
     (∃ v,V i (keyOf f o) v)/\∀ v,V i (keyOf f o) v->VU (WX T o) v fun v=>Tj P T l A H V S s K is (bN f o.dst v) (F++[(i,S i (keyOf f o) v)])
    | false=>Qv P T o (oU f) s fun v _=>Tj P T l A H V S s K is (bN f o.dst v) F)
   (fun f=>Tj P T l A H V S s K is (bN f o.dst .undef) F)
def QW:Op->Bool
 | .build ..=>true
 | o=>fN o
theorem Pn {T:TT} {op:Op} (b:QW op=true) {ρ:Operand->AV} {s s1:AS} {v:AV} (h:cF T op ρ s=some (v,s1)) (s':AS):cF T op ρ s'=some (v,s'):=by
 by_cases hb:fN op=true
 ·exact (zR hb h).2 s'
 ·cases op <;> first | exact absurd b hb | skip
  simp only [cF,Option.map_eq_some_iff,Prod.mk.injEq] at h ⊢;obtain ⟨u,c,rfl,rfl⟩:=h;exact ⟨_,c,by simp⟩
def Km (P:Program) (T:TT) (l:List Oper) (A:List (List Nat)) (H:List Nat) (V:Nat->List AV->AV->Prop) (S:Nat->List AV->AV->AS->Prop) (X:AS->AS->Prop) (C:Nat->List AV->AV->AS->Prop) (M:List Nat) (s:AS) (K:Fr->AS->Prop):List Nat->Fr->jQ->(AS->Prop)->Prop
 | [],f,F,c=>∀ s',X s s'->aM s'->Kl F s'->c s'->K f s'
 | i::is,f,F,c=>match l[i]? with
  | none=>False
  | some o=>EC l o.guard f
   (fun f=>match H.contains i with
    | true=>(∀ s',X s s'->aM s'->Kl (F.filter fun p=>(A.getD i []).contains p.1) s'->match M.contains i with
      | true=>c s'->Qv P T o (oU f) s' fun v s''=>(X s' s''/\C i (keyOf f o) v s'')/\S i (keyOf f o) v s''/\V i (keyOf f o) v
      | false=>Qv P T o (oU f) s' fun v s''=>Ext s' s''/\S i (keyOf f o) v s''/\V i (keyOf f o) v) /\
     (∃ v,V i (keyOf f o) v)/\∀ v,V i (keyOf f o) v->VU (WX T o) v fun v=>Km P T l A H V S X C M s K is (bN f o.dst v) (F++[(i,S i (keyOf f o) v)]) (match M.contains i with | true=>C i (keyOf f o) v | false=>c)
    | false=>match M.contains i with
     | true=>False
     | false=>Qv P T o (oU f) s fun v _=>match QW o.op with
      | true=>Km P T l A H V S X C M s K is (bN f o.dst v) F c
      | false=>(∀ s',X s s'->aM s'->Qv P T o (oU f) s' fun v' _=>v'=v)/\Km P T l A H V S X C M s K is (bN f o.dst v) F c)
   (fun f=>match M.contains i with
    | true=>False
    | false=>Km P T l A H V S X C M s K is (bN f o.dst .undef) F c)
def VZ (k:TK) (K:AV->Prop):Prop:=match k with
 | .int k=>∀ n:Int,K (.int k n)
 | .bool=>∀ b:Bool,K (.bool b)
 | .str=>∀ b:List UInt8,K (.str b)
 | .ptr=>∀ a:Option (Nat×Nat),K (.ptr a)
 | .map=>∀ r:Option Nat,K (.map r)
 | .agg=>∀ l:List AV,K (.agg l)
 | _=>∀ v:AV,K v
def QX (k:TK) (v:AV) (K:AV->Prop):Prop:=match k,v with
 | .int k,.int k' n=>bif k'==k then K (.int k n) else False
 | .bool,.bool b=>K (.bool b)
 | .str,.str b=>K (.str b)
 | .ptr,.ptr a=>K (.ptr a)
 | .map,.map r=>K (.map r)
 | .agg,.agg l=>K (.agg l)
 | .any,v=>K v
 | .aP _,v=>K v
 | _,_=>False
theorem QY {k : TK} {v : AV} {K K' : AV -> Prop} (h : VZ k K) (b : QX k v K') : K v /\ K' v := by
  unfold QX at b;split at b
  · rename_i k k' n;cases c : (k' == k) with
    | false => rw [c] at b; exact b.elim
    | true => rw [c] at b; obtain rfl : k' = k := by simpa using c
              exact ⟨h n, b⟩
  all_goals first | exact ⟨h _, b⟩ | exact b.elim
def Tk:List (Nat×TK)->Fr->(List AV->Fr->Prop)->Prop
 | [],f,K=>K [] f
 | p::L,f,K=>VZ p.2 fun v=>Tk L (oW f p.1 v) fun vs f=>K (v::vs) f
def Kn:List (Nat×TK)->Fr->(List AV->Prop)->Prop
 | [],_,K=>K []
 | p::L,f,K=>QX p.2 (f p.1) fun v=>Kn L f fun vs=>K (v::vs)
def CK (W:List (Nat×Nat)) (t:Nat):Bool:=W.any fun p=>Nat.ble p.1 t&&Nat.ble t p.2
def forget (W:List (Nat×Nat)) (f:Fr):Fr:=fun t=>bif CK W t then .bad else f t
theorem EE:∀ (L:List (Nat×TK)) (f0 f:Fr) {K:List AV->Fr->Prop} {K':List AV->Prop},Tk L f0 K->Kn L f K'->∃ vs f1,K vs f1/\K' vs/\∀ t,f1 t=if t∈L.map (·.1) then f t else f0 t
 | [],f0,f,K,K',h,c=>⟨[],f0,h,c,fun t=>by simp⟩
 | p::L,f0,f,K,K',h,c=>by
  obtain ⟨d,h2⟩:=QY h c;obtain ⟨vs,f1,h3,h4,e⟩:=EE L _ f d h2;refine ⟨_,f1,h3,h4,fun t=>?_⟩;rw [e t];simp only [List.map_cons,List.mem_cons,oW];by_cases ht:t∈L.map (·.1)
  ·rw [if_pos ht,if_pos (.inr ht)]
  ·rw [if_neg ht];by_cases b:t=p.1
   ·rw [if_pos b,if_pos (.inl b),b]
   ·rw [if_neg b,if_neg (by simp [b,ht])]
def vg (P:Program) (T:TT):QA->Code->Fr->AS->(Exit->Fr->AS->Prop)->Prop
 | .leaf,.skip,f,s,Q=>Q .normal f s
 | .leaf,.label _,f,s,Q=>Q .normal f s
 | .leaf,.exit id,f,s,Q=>Q (.exit id) f s
 | .leaf,.ret,f,s,Q=>Q .ret f s
 | .leaf,.region _ ops false,f,s,Q=>ED P T ops.toList ops.toList f s fun f s=>Q .normal f s
 | .calm,.region _ ops true,f,s,Q=>ED P T ops.toList ops.toList f s fun f s=>Q .normal f s
 | .draw _,.region _ ops true,f,s,Q=>ED P T ops.toList ops.toList f s fun f s=>Q .normal f s
 | .gR m A H,.region _ ops true,f,s,Q=>gy fun S V=>Tj P T ops.toList A H V S s (fun f s=>ED P T ops.toList (ops.toList.drop m) f s fun f s=>Q .normal f s) (List.range m) f []
 | .QV D t A H,.region _ ops true,f,s,Q=>gy fun S V=>Tj P T ops.toList A H V S s (fun f s=>ED P T ops.toList (t.filterMap fun i=>ops[i]?) f s fun f s=>Q .normal f s) D f []
 | .ve D t A H M,.region _ ops true,f,s,Q=>sR s fun X C c S V=>Km P T ops.toList A H V S X C M s (fun f s=>ED P T ops.toList (t.filterMap fun i=>ops[i]?) f s fun f s=>Q .normal f s) D f [] c
 | .seq a b,.seq x y,f,s,Q=>vg P T a x f s (CE (fun f s=>vg P T b y f s Q) Q)
 | .join L W a b,.seq x y,f,s,Q=>bz fun J=>(Tk L (forget W f) fun vs f=>∀ s,J vs s->vg P T b y f s Q)/\vg P T a x f s (CE (fun f s=>Kn L f fun vs=>J vs s) Q)
 | .cond a b,.cond c x y,f,s,Q=>(match oU f c with | .bool t=>af t (vg P T a x f s Q) (vg P T b y f s Q) | _=>False)
 | .wrap a,.block id x,f,s,Q=>vg P T a x f s (yC id Q)
 | .wrap a,.scope x,f,s,Q=>vg P T a x f s (QI Q)
 | .loop L W a,.loop x,f,s,Q=>bB fun I d=>(Kn L f fun vs=>I d vs s)/\∀ m,Tk L (forget W f) fun vs f=>∀ s,I m vs s->vg P T a x f s (CE (fun f s=>Kn L f fun vs=>∃ m',m'<m/\I m' vs s) Q)
 | _,_,_,_,_=>False
def EF:QA->Code->List (Nat×Nat)
 | .join _ W _ b,.seq _ y=>W++EF b y
 | .loop _ W _,_=>W
 | .seq a b,.seq x y=>EF a x++EF b y
 | .cond a b,.cond _ x y=>EF a x++EF b y
 | .wrap a,.block _ x=>EF a x
 | .wrap a,.scope x=>EF a x
 | _,.region _ ops _=>ops.toList.filterMap fun o=>o.dst.map fun d=>(d,d)
 | _,_=>[]
def ni (T:TT) (o:Op):Bool:=lQ o&&(match o with
 | .convert _ d _=>(match T.cR d with | some (.slice _)=>false | _=>true)
 | _=>true)
def Tm (l W:List (Nat×Nat)):Bool:=l.all fun p=>W.any fun q=>Nat.ble q.1 p.1&&Nat.ble p.2 q.2
def codeOk (T:TT) (n:Nat):QA->Code->Bool
 | .leaf,.region _ ops false=>ops.toList.all fun o=>dY n o.dst
 | .leaf,_=>true
 | .calm,.region _ ops true=>(ops.toList.all fun o=>dY n o.dst)&&H8 ops (Region.before ops).toList&&ops.toList.all fun o=>!yD o.op
 | .draw m,.region _ ops true=>(ops.toList.all fun o=>dY n o.dst)&&Eu ops m [] (Region.before ops).toList&&(ops.toList.take m).all fun o=>ni T o.op
 | .gR m A H,.region _ ops true=>(ops.toList.all fun o=>dY n o.dst)&&Eu ops m A (Region.before ops).toList&&!H.isEmpty&&(List.range m).all fun i=>H.contains i||(ops.toList[i]?).any fun o=>ni T o.op
 | .QV D t A H,.region _ ops true=>(ops.toList.all fun o=>dY n o.dst)&&EA ops D t A H (Region.before ops).toList&&!H.isEmpty&&D.all fun i=>H.contains i||(ops.toList[i]?).any fun o=>ni T o.op
 | .ve D t A H M,.region _ ops true=>(ops.toList.all fun o=>dY n o.dst)&&EA ops D t A H (Region.before ops).toList&&Wy ops D H M (Region.before ops).toList&&D.all fun i=>H.contains i||(ops.toList[i]?).any fun o=>ni T o.op
 | .seq a b,.seq x y=>codeOk T n a x&&codeOk T n b y
 | .join L W a b,.seq x y=>codeOk T n a x&&codeOk T n b y&&Tm (EF a x) W&&L.all fun p=>CK W p.1
 | .cond a b,.cond _ x y=>codeOk T n a x&&codeOk T n b y
 | .wrap a,.block _ x=>codeOk T n a x
 | .wrap a,.scope x=>codeOk T n a x
 | .loop L W a,.loop x=>codeOk T n a x&&Tm (EF a x) W&&L.all fun p=>CK W p.1
 | _,_=>false
def sL (W:List (Nat×Nat)) (f f':Fr):Prop:=∀ t,CK W t=false->f' t=f t
theorem sL.refl (W:List (Nat×Nat)) (f:Fr):sL W f f:=fun _ _=>rfl
theorem sL.trans {W:List (Nat×Nat)} {f g h:Fr} (a:sL W f g) (b:sL W g h):sL W f h:=fun t ht=>(b t ht).trans (a t ht)
theorem yH (W W':List (Nat×Nat)) (t:Nat):CK (W++W') t=(CK W t||CK W' t):=by simp [CK,List.any_append]
theorem sL.left {W W':List (Nat×Nat)} {f f':Fr} (h:sL W f f'):sL (W++W') f f':=fun t ht=>h t (by rw [yH] at ht;simp at ht;exact ht.1)
theorem sL.right {W W':List (Nat×Nat)} {f f':Fr} (h:sL W' f f'):sL (W++W') f f':=fun t ht=>h t (by rw [yH] at ht;simp at ht;exact ht.2)
theorem sL.sub {W W':List (Nat×Nat)} {f f':Fr} (h:sL W f f') (hs:Tm W W'=true):sL W' f f':=by
 intro t ht;refine h t ?_;cases b:CK W t with
 | false=>rfl
 | true =>
  exfalso;simp only [CK,List.any_eq_true,Bool.and_eq_true,Nat.ble_eq] at b;obtain ⟨p,c,d,h2⟩:=b;simp only [Tm,List.all_eq_true,List.any_eq_true,Bool.and_eq_true,Nat.ble_eq] at hs;obtain ⟨q,e,h3,h4⟩:=hs p c;have:CK W' t=true:=by
   simp only [CK,List.any_eq_true,Bool.and_eq_true,Nat.ble_eq];exact ⟨q,e,Nat.le_trans h3 d,Nat.le_trans h2 h4⟩
  rw [this] at ht;cases ht
def JL (os:List Oper):List (Nat×Nat):=os.filterMap fun o=>o.dst.map fun d=>(d,d)
theorem sL.oW {os:List Oper} {o:Oper} {f:Fr} {v:AV}:sL (JL (o::os)) f (bN f o.dst v):=by
 intro t ht;cases hd:o.dst with
 | none=>rfl
 | some d =>
  simp only [bN,Am.oW];rw [if_neg];intro e;subst e;simp only [JL,List.filterMap_cons,hd,Option.map_some,CK,List.any_cons,Bool.or_eq_false_iff,Bool.and_eq_false_iff] at ht;have e:Nat.ble t t=true:=by simp
  rcases ht.1 with h | h <;> (rw [e] at h;cases h)
theorem sL.cons {os:List Oper} {o:Oper} {f f':Fr} (h:sL (JL os) f f'):sL (JL (o::os)) f f':=by
 intro t ht;refine h t ?_;simp only [JL,List.filterMap_cons] at ht;cases hd:o.dst with
 | none=>rw [hd] at ht;exact ht
 | some d =>
  rw [hd] at ht;simp only [CK,Option.map_some,List.any_cons,Bool.or_eq_false_iff] at ht;exact ht.2
section
variable {P:Program} {T:TT} {n:Nat}
theorem ke.weaken {c:Code} {f f1:Fr} {s:AS} {Q:Exit->Fr->AS->Prop} (h:∀ t,f1 t=f t\/f1 t=.bad) (d:ke P n c f1 s Q):ke P n c f s Q:=by
 intro B γ a w b hr;refine d B γ a w ⟨b.size,b.defers,fun t=>?_⟩ hr;rcases h t with e | e
 ·rw [e];exact b.vals t
 ·rw [e];simp [ai]
theorem QZ {f:Fr} {d:Nat} {v:AV} (h:f d=v):oW f d v=f:=by
 funext t;simp only [oW];split
 ·rename_i e;rw [e,h]
 ·rfl
theorem yI {ops:Array Oper} {o:Oper} {f:Fr} {A B:Fr->Prop} (h:EC ops.toList o.guard f A B):(cY ops f o=some true/\A f)\/(cY ops f o=some false/\B f):=by
 have k:∀ j,(ops[j]?).bind (·.dst)=UK ops.toList j:=by intro j;simp [UK]
 unfold EC at h;unfold cY;split at h
 ·rename_i e;rw [e];exact .inl ⟨rfl,h⟩
 ·rename_i j want e;rw [e];simp only [k];split at h
  ·rename_i e2;rw [e2];exact .inr ⟨rfl,h⟩
  ·rename_i d e2;rw [e2];simp only;split at h
   ·rename_i b i;rw [i];have c:=Bu h;cases b <;> cases want <;> simp only [Bool.false_eq_true,if_false,if_true] at c <;> rw [QZ i] at c
    ·exact .inl ⟨rfl,c⟩
    ·exact .inr ⟨rfl,c⟩
    ·exact .inr ⟨rfl,c⟩
    ·exact .inl ⟨rfl,c⟩
   ·rename_i i;rw [i];exact .inr ⟨rfl,h⟩
   ·exact h.elim
theorem uq {f:Fr} {o:Op} (b:H7 o=false):eW f o=none:=by
 unfold H7 at b;unfold eW;split
 ·rename_i c;simp only at b;split
  ·rename_i x d;rw [d] at b;cases b
  ·rfl
 ·rfl
theorem jk {ops:Array Oper} {K:Fr->AS->Prop}:∀ (os:List Oper) (f:Fr) (s:AS),(os.all fun o=>dY n o.dst)=true->ED P T ops.toList os f s K->fq P T n ops os f s fun f' s'=>K f' s'/\sL (JL os) f f'
 | [],f,s,_,h=>⟨h,sL.refl _ _⟩
 | o::os,f,s,hd,h=>by
  simp only [List.all_cons,Bool.and_eq_true] at hd;simp only [ED] at h;simp only [fq];have mono:∀ (os:List Oper) (f:Fr) (s:AS) (K K':Fr->AS->Prop),(∀ f s,K f s->K' f s)->fq P T n ops os f s K->fq P T n ops os f s K':=by
   intro os
   induction os with
   | nil=>intro f s K K' j h;exact j _ _ h
   | cons o os r =>
    intro f s K K' j h;simp only [fq] at h ⊢;split at h
    ·obtain ⟨e,h2⟩:=h;rcases h2 with h2 | ⟨l,z,h2⟩
     rotate_left
     ·exact ⟨e,.inr ⟨l,z,fun p m=>r _ _ _ _ j (h2 p m)⟩⟩
     refine ⟨e,.inl ?_⟩;split at h2
     ·exact h2.mono fun v s' w=>r _ _ _ _ j w
     ·obtain ⟨v,s',h3,h4⟩:=h2;exact ⟨v,s',h3,r _ _ _ _ j h4⟩
    ·exact ⟨h.1,r _ _ _ _ j h.2⟩
    ·exact h
  rcases yI h with ⟨x,h⟩ | ⟨x,h⟩
  ·rw [x];have key:∀ v s',ED P T ops.toList os (bN f o.dst v) s' K->fq P T n ops os (bN f o.dst v) s' fun f' s'=>K f' s'/\sL (JL (o::os)) f f' :=
    fun v s' w=>mono _ _ _ _ _ (fun f' s'' ⟨a,b⟩=>⟨a,sL.oW.trans b.cons⟩) (jk os _ _ hd.2 w)
   unfold VY at h;split at h
   ·rename_i it c;obtain ⟨l,e,h2⟩:=He h;exact ⟨hd.1,.inr ⟨l,by rw [c];exact e,fun p m=>key _ _ (h2 p m)⟩⟩
   ·rename_i it c;obtain ⟨l,e,h2⟩:=Pf h;exact ⟨hd.1,.inr ⟨l,by rw [c];exact e,fun p m=>key _ _ (h2 p m)⟩⟩
   ·rename_i it c;obtain ⟨k,v,e,h2⟩:=h;refine ⟨hd.1,.inl ?_⟩;rw [uq (by rw [c];rfl)];exact ⟨_,s,by rw [c];simp only [cF,e,Option.map_some],key _ _ h2⟩
   ·rename_i d i c;cases y:Un ops.toList d with
    | false=>rw [y] at h;simp only [cond_false] at h;exact lf hd.1 (sS h) key
    | true =>
     rw [y] at h;simp only [cond_true] at h;unfold VX at h;split at h
     ·rename_i vs hv;split at h
      ·rename_i v hi;refine ⟨hd.1,.inl ?_⟩;rw [uq (by rw [c];rfl)];exact ⟨v,s,by rw [c];simp only [cF,hv,hi,Option.map_some],key _ _ (zQ h)⟩
      ·exact h.elim
     ·exact h.elim
   ·exact lf hd.1 (sS h) key
  ·rw [x];exact ⟨hd.1,mono _ _ _ _ _ (fun f' s'' ⟨a,b⟩=>⟨a,sL.oW.trans b.cons⟩) (jk os _ _ hd.2 h)⟩
theorem ur {o:Op} (h:ni T o=true):lQ o=true/\H7 o=false:=by
 simp only [ni,Bool.and_eq_true] at h;refine ⟨h.1,?_⟩;unfold H7;split
 ·rename_i c;have:=h.1;simp only [lQ] at this;split
  ·rename_i x b;rw [b] at this;cases this
  ·rfl
 ·rfl
theorem uu {o:Op} {ρ:Operand->AV} {s s':AS} {v:AV} (i:ni T o=true) (h:cF T o ρ s=some (v,s')):s'=s:=by
 have e:=(ur i).1;cases o <;> first | (cases e;done) | skip
 case convert src dst x =>
  simp only [cF] at h;simp only [ni,Bool.and_eq_true] at i;have d:=i.2;unfold cO at h;split at h
  ·simp_all
  ·simp_all
  ·rename_i e1 e2;rw [e1] at d;cases d
  ·split at h
   ·split at h <;> simp_all
   ·cases h
  ·split at h <;> simp_all
  ·split at h
   ·split at h
    ·simp only [Option.some.injEq,Prod.mk.injEq] at h;exact h.2.symm
    simp only [Option.bind_eq_some_iff,Option.map_eq_some_iff] at h;obtain ⟨_,_,_,_,h3⟩:=h;simp only [Prod.mk.injEq] at h3;exact h3.2.symm
   ·cases h
  ·rename_i e1 e2;rw [e1] at d;cases d
  ·cases h
 case call c =>
  simp only [lQ] at e;simp only [cF] at h;cases j:c.callee with
  | value x=>rw [j] at e;cases e
  | invoke x m=>rw [j] at h;cases h
  | builtin b =>
   rw [j] at e h;simp only at h;unfold dX at h;split at h <;> first
    | (cases e;done)
    | (cases h;done)
    | (simp only [Option.map_eq_some_iff,Prod.mk.injEq] at h;obtain ⟨_,_,_,h⟩:=h;exact h.symm)
 case makeFunc fn first captured =>
  cases fn with
  | func g=>simp only [cF] at h;split at h <;> simp_all
  | _=>simp [cF] at h
 all_goals
  simp only [cF] at h
  first
  | (simp only [Option.some.injEq,Prod.mk.injEq] at h;exact h.2.symm)
  | (simp only [Option.map_eq_some_iff,Prod.mk.injEq] at h;obtain ⟨_,_,_,h⟩:=h;exact h.symm)
  | (split at h <;> first | (cases h;done) | (simp only [Option.some.injEq,Prod.mk.injEq] at h;exact h.2.symm) | (simp only [Option.map_eq_some_iff,Prod.mk.injEq] at h;obtain ⟨_,_,_,h⟩:=h;exact h.symm))
theorem Q0 {ops:Array Oper} {s:AS} {K:Fr->AS->Prop} {m:Nat} {V:Nat->List AV->AV->Prop} {S:Nat->List AV->AV->AS->Prop} (b:1<=s.st) (hm:m<=ops.size) (p:∀ i o,i<m->ops[i]? = some o->ni T o.op=true):∀ (k a:Nat) (f:Fr),a+k=m ->
  fq P T n ops (ops.toList.drop a) f s K->VP P T n ops [] [] V S s (fun f s'=>fq P T n ops (ops.toList.drop m) f s' K) (List.range' a k) f []
 | 0,a,f,r,h=>by
  simp only [Nat.add_zero] at r;subst r;simp only [List.range'_zero,dq];intro s' _ _ _ _ hs;rw [hs (by trivial)];exact h
 | k+1,a,f,r,h=>by
  have c:a<ops.size:=by omega
  have w:ops.toList.drop a=ops[a]::ops.toList.drop (a+1):=by
   rw [List.drop_eq_getElem_cons (by simpa using c)];simp
  have d:ops[a]? = some ops[a]:=Array.getElem?_eq_getElem c;rw [w] at h;simp only [fq] at h;rw [List.range'_succ];simp only [dq,d];have e:=p a _ (by omega) d;obtain ⟨x,C⟩:=ur e;split at h
  ·rename_i y;obtain ⟨hd,h⟩:=h;rcases h with h | ⟨l,B,_⟩
   rotate_left
   ·rw [yE (by
     have j:=x;cases z:ops[a].op <;> first | rfl | (rw [z] at j;cases j))] at B
    cases B
   rw [uq C] at h;obtain ⟨v,s',A,h2⟩:=h;obtain rfl:=uu e A;refine ⟨hd,?_⟩;rw [y];simp only [List.contains_nil,Bool.false_eq_true,if_false];exact ⟨by trivial,x,v,⟨A,fun s' D _=>Br x b A D⟩,Q0 b hm p k (a+1) _ (by omega) h2⟩
  ·rename_i y;refine ⟨h.1,?_⟩;rw [y];exact ⟨rfl,Q0 b hm p k (a+1) _ (by omega) h.2⟩
  ·exact h.elim
theorem zS {F:jQ} {s:AS}:Kl F s↔∀ p∈F,p.2 s:=by
 induction F with
 | nil=>simp [Kl]
 | cons p ps b=>simp [Kl,b]
theorem Hj {ops:Array Oper} {A:List (List Nat)} {H:List Nat} {V:Nat->List AV->AV->Prop} {S:Nat->List AV->AV->AS->Prop} {s:AS} {K:Fr->AS->Prop} {W:List (Nat×Nat)} (C:1<=s.st) (X:H≠[]) (hd:∀ (i:Nat) (o:Oper),ops[i]? = some o->dY n o.dst=true)
  (O:∀ (i:Nat) (o:Oper) (d:Nat),ops[i]? = some o->o.dst=some d->CK W d=true) :
  ∀ (is:List Nat) (f:Fr) (F:jQ),(∀ i∈is,H.contains i=true\/∃ o,ops[i]? = some o/\ni T o.op=true)->Tj P T ops.toList A H V S s K is f F->VP P T n ops A H V S s (fun f' s'=>K f' s'/\sL W f f') is f F:=by
 intro is;have key:∀ (f0:Fr) (is:List Nat) (f:Fr) (F:jQ),sL W f0 f->(∀ i∈is,H.contains i=true\/∃ o,ops[i]? = some o/\ni T o.op=true)->Tj P T ops.toList A H V S s K is f F->VP P T n ops A H V S s (fun f' s'=>K f' s'/\sL W f0 f') is f F:=by
  intro f0 is
  induction is with
  | nil =>
   intro f F B c h;simp only [Tj] at h;simp only [dq];intro s' r k Q _ _;exact ⟨h s' r k (zS.2 Q),B⟩
  | cons i is D =>
   intro f F B c h;simp only [Tj] at h;simp only [dq];cases b:ops[i]? with
   | none=>simp [b] at h
   | some o =>
    have w:ops.toList[i]? = some o:=by simpa using b
    rw [w] at h;simp only at h ⊢;refine ⟨hd i o b,?_⟩;have l:∀ v,sL W f0 (bN f o.dst v):=by
     intro v t ht;cases G:o.dst with
     | none=>exact B t ht
     | some d =>
      have:=O i o d b G;simp only [bN,oW];rw [if_neg (fun e=>by rw [e,this] at ht;cases ht)];exact B t ht
    rcases yI h with ⟨I,h⟩ | ⟨I,h⟩
    ·rw [I];simp only;cases J:H.contains i with
     | true =>
      rw [J] at h;simp only at h;rw [if_pos rfl];obtain ⟨x,h2,h3⟩:=h;refine ⟨fun s' r k R _=>?_,h2,fun v hv=>D _ _ (l v) (fun j hj=>c j (List.mem_cons_of_mem _ hj)) (zQ (h3 v hv))⟩;refine sS (x s' r k (zS.2 fun p m=>?_));simp only [List.mem_filter] at m;exact R p m.1 m.2
     | false =>
      rw [J] at h;simp only at h;rw [if_neg (by simp)];rcases c i (by simp) with L | ⟨o',y,z⟩
      ·rw [J] at L;cases L
      ·rw [b] at y;obtain rfl:=Option.some.inj y;obtain ⟨M,U⟩:=ur z;obtain ⟨v,s',x,h2⟩:=DZ U h;obtain rfl:=uu z x;exact ⟨rfl,M,v,⟨x,fun s' r _=>Br M C x r⟩,D _ _ (l v) (fun j hj=>c j (List.mem_cons_of_mem _ hj)) h2⟩
    ·rw [I];exact ⟨rfl,D _ _ (l _) (fun j hj=>c j (List.mem_cons_of_mem _ hj)) h⟩
 exact fun f F c h=>key f is f F (sL.refl _ _) c h
theorem EG {ops:Array Oper} {A:List (List Nat)} {H:List Nat} {V:Nat->List AV->AV->Prop} {S:Nat->List AV->AV->AS->Prop} {X:AS->AS->Prop} {C:Nat->List AV->AV->AS->Prop} {M:List Nat} {s:AS} {K:Fr->AS->Prop} {W:List (Nat×Nat)} (hd:∀ (i:Nat) (o:Oper),ops[i]? = some o->dY n o.dst=true)
  (hW:∀ (i:Nat) (o:Oper) (d:Nat),ops[i]? = some o->o.dst=some d->CK W d=true) :
  ∀ (f0:Fr) (is:List Nat) (f:Fr) (F:jQ) (c:AS->Prop),sL W f0 f->(∀ i∈is,H.contains i=true\/∃ o,ops[i]? = some o/\ni T o.op=true)->Km P T ops.toList A H V S X C M s K is f F c->dq P T n ops A H V S X C M s (fun f' s'=>K f' s'/\sL W f0 f') is f F c
 | f0,[],f,F,c,O,D,h=>by
  simp only [Km] at h;simp only [dq];intro s' I l hF R _;exact ⟨h s' I l (zS.2 hF) R,O⟩
 | f0,i::is,f,F,c,O,D,h=>by
  have Q:=fun f F c0 a b c=>EG (A:=A) (H:=H) (V:=V) (S:=S) (X:=X) (C:=C) (M:=M) (s:=s) (K:=K) hd hW f0 is f F c0 a b c;simp only [Km] at h;simp only [dq];cases m:ops[i]? with
  | none=>simp [m] at h
  | some o =>
   have J:ops.toList[i]? = some o:=by simpa using m
   rw [J] at h;simp only at h ⊢;refine ⟨hd i o m,?_⟩;have w:∀ v,sL W f0 (bN f o.dst v):=by
    intro v t ht;cases U:o.dst with
    | none=>exact O t ht
    | some d =>
     have:=hW i o d m U;simp only [bN,oW];rw [if_neg (fun e=>by rw [e,this] at ht;cases ht)];exact O t ht
   rcases yI h with ⟨Y,h⟩ | ⟨Y,h⟩
   ·rw [Y];simp only;cases Z:H.contains i with
    | true =>
     rw [Z] at h;simp only at h;rw [if_pos rfl];obtain ⟨G,h2,h3⟩:=h;refine ⟨fun s' I l R hm=>?_,h2,fun v hv=>?_⟩
     ·have x:=G s' I l (zS.2 fun p y=>by
       simp only [List.mem_filter] at y;exact R p y.1 y.2)
      cases z:M.contains i with
      | true =>
       rw [z] at x;simp only [if_true];exact sS (x (hm z))
      | false =>
       rw [z] at x;simp only [Bool.false_eq_true,if_false];exact sS x
     ·have ab:=zQ (h3 v hv);have e:mS C M i (keyOf f o) v c=(match M.contains i with | true=>C i (keyOf f o) v | false=>c):=by
       unfold mS;cases M.contains i <;> simp
      rw [e];exact Q _ _ _ (w v) (fun j hj=>D j (List.mem_cons_of_mem _ hj)) ab
    | false =>
     rw [Z] at h;simp only at h;rw [if_neg (by simp)];rcases D i (by simp) with h' | ⟨o',L,B⟩
     ·rw [Z] at h';cases h'
     ·rw [m] at L;obtain rfl:=Option.some.inj L;obtain ⟨q1,q2⟩:=ur B;split at h
      ·exact h.elim
      ·rename_i k;obtain ⟨v,s',G,h2⟩:=DZ q2 h;obtain rfl:=uu B G;cases r:QW o.op with
       | true =>
        rw [r] at h2;exact ⟨k,q1,v,⟨G,fun s' _ _=>Pn r G s'⟩,Q _ _ _ (w v) (fun j hj=>D j (List.mem_cons_of_mem _ hj)) h2⟩
       | false =>
        rw [r] at h2;refine ⟨k,q1,v,⟨G,fun s' I l=>?_⟩,Q _ _ _ (w v) (fun j hj=>D j (List.mem_cons_of_mem _ hj)) h2.2⟩;obtain ⟨v',s'',h3,h4⟩:=DZ q2 (h2.1 s' I l);obtain rfl:=uu B h3;rw [<- h4];exact h3
   ·rw [Y];split at h
    ·exact h.elim
    ·rename_i k;exact ⟨k,Q _ _ _ (w _) (fun j hj=>D j (List.mem_cons_of_mem _ hj)) h⟩
end
end Go.Am
end

section
namespace Go.Am
section
variable {P:Program} {T:TT} {n:Nat}
theorem ke.pre {c:Code} {f:Fr} {s:AS} {Q:Exit->Fr->AS->Prop} (h:aM s->ke P n c f s Q):ke P n c f s Q:=fun B γ a w b hr=>h hr.Mh B γ a w b hr
theorem qn {os:List Oper} {n:Nat} (h:(os.all fun o=>dY n o.dst)=true):(∀ o∈os,dY n o.dst=true):=by
 simpa [List.all_eq_true] using h
theorem xE {os:List Oper} {o:Oper} {d:Nat} (b:o∈os) (hd:o.dst=some d):CK (JL os) d=true:=by
 simp only [CK,List.any_eq_true,Bool.and_eq_true,Nat.ble_eq,JL,List.mem_filterMap,Option.map_eq_some_iff];exact ⟨(d,d),⟨o,b,d,hd,rfl⟩,Nat.le_refl _,Nat.le_refl _⟩
theorem Ko (hT:TT.Ok P T) (bW:P.follows .mixedOrders=true):∀ (a:QA) (c:Code) (f:Fr) (s:AS) (Q:Exit->Fr->AS->Prop),codeOk T n a c=true->vg P T a c f s Q->ke P n c f s fun e f' s'=>Q e f' s'/\sL (EF a c) f f':=by
 intro a
 induction a with
 | leaf =>
  intro c f s Q j h;cases c with
  | skip=>exact ke.skip ⟨h,sL.refl _ _⟩
  | label l=>exact ke.label ⟨h,sL.refl _ _⟩
  | exit id=>exact ke.exit ⟨h,sL.refl _ _⟩
  | ret=>exact ke.ret ⟨h,sL.refl _ _⟩
  | region id ops dr =>
   cases dr with
   | false=>exact ke.region hT (jk ops.toList f s j h)
   | true=>exact h.elim
  | _=>exact h.elim
 | calm =>
  intro c f s Q j h;cases c with
  | region id ops dr =>
   cases dr with
   | false=>exact h.elim
   | true =>
    simp only [codeOk,Bool.and_eq_true] at j;exact ke.calm hT bW j.1.2 j.2 (jk ops.toList f s j.1.1 h)
  | _=>exact h.elim
 | draw m =>
  intro c f s Q j h;cases c with
  | region id ops dr =>
   cases dr with
   | false=>exact h.elim
   | true =>
    simp only [codeOk,Bool.and_eq_true] at j;obtain ⟨⟨hd,R⟩,hq⟩:=j;have hv:=jk (n:=n) ops.toList f s hd h;have hD:=G_ R;refine ke.pre fun ad=>?_;have a3:∀ i o,i<m->ops[i]? = some o->ni T o.op=true:=by
     intro i o hi w;rw [List.all_eq_true] at hq;refine hq o ?_;rw [List.mem_iff_getElem?];exact ⟨i,by rw [List.getElem?_take,if_pos hi];simpa using w⟩
    refine ke.draw hT bW m [] (Region.before ops).toList [] (fun _ _ _=>True) (fun _ _ _ _=>True) R (fun _ _ _ _ _ _ _=>trivial) ?_;have:=Q0 (n:=n) (V:=fun _ _ _=>True) (S:=fun _ _ _ _=>True) ad.1 hD.le a3 m 0 f (by omega) (by simpa using hv);rw [<- List.range_eq_range'] at this;exact this
  | _=>exact h.elim
 | gR m A H =>
  intro c f s Q j h;cases c with
  | region id ops dr =>
   cases dr with
   | false=>exact h.elim
   | true =>
    simp only [codeOk,Bool.and_eq_true] at j;obtain ⟨⟨⟨hd,R⟩,hH⟩,hq⟩:=j;obtain ⟨S,V,hS,h⟩:=h;refine ke.pre fun ad=>?_;have ap:H≠[]:=by intro e;rw [e] at hH;cases hH
    have z:∀ (i:Nat) (o:Oper),ops[i]? = some o->o∈ops.toList:=fun i o w=>List.mem_iff_getElem?.2 ⟨i,by simpa using w⟩;have ae:=Hj (n:=n) (W:=JL ops.toList) ad.1 ap (fun i o w=>qn hd o (z i o w)) (fun i o d w F=>xE (z i o w) F) (List.range m) f [] (by
     intro i hi;rw [List.all_eq_true] at hq;have:=hq i hi;simp only [Bool.or_eq_true,Option.any_eq_true] at this;rcases this with h | ⟨o,r,h2⟩
     ·exact .inl h
     ·exact .inr ⟨o,by simpa using r,h2⟩) h
    refine ke.draw hT bW m A (Region.before ops).toList H V S R hS ?_;refine zM (fun f' s' ⟨r,h2⟩=>?_) _ _ _ _ ae;have al:((ops.toList.drop m).all fun o=>dY n o.dst)=true:=by
     rw [List.all_eq_true];intro o w;exact qn hd o (List.mem_of_mem_drop w)
    have hv:=jk (n:=n) (ops.toList.drop m) f' s' al r;have mono:∀ (os:List Oper) (f:Fr) (s:AS) (K K':Fr->AS->Prop),(∀ f s,K f s->K' f s)->fq P T n ops os f s K->fq P T n ops os f s K':=by
     intro os
     induction os with
     | nil=>intro f s K K' B h;exact B _ _ h
     | cons o os U =>
      intro f s K K' B h;simp only [fq] at h ⊢;split at h
      ·obtain ⟨r,h2⟩:=h;rcases h2 with h2 | ⟨l,hl,h2⟩
       rotate_left
       ·exact ⟨r,.inr ⟨l,hl,fun p Y=>U _ _ _ _ B (h2 p Y)⟩⟩
       refine ⟨r,.inl ?_⟩;split at h2
       ·exact h2.mono fun v s' hh=>U _ _ _ _ B hh
       ·obtain ⟨v,s',h3,h4⟩:=h2;exact ⟨v,s',h3,U _ _ _ _ B h4⟩
      ·exact ⟨h.1,U _ _ _ _ B h.2⟩
      ·exact h
    refine mono _ _ _ _ _ (fun f2 s2 ⟨g1,g2⟩=>⟨g1,h2.trans (fun t ht=>g2 t ?_)⟩) hv;cases hw:CK (JL (ops.toList.drop m)) t with
    | false=>rfl
    | true =>
     exfalso;simp only [CK,List.any_eq_true,JL,List.mem_filterMap,Option.map_eq_some_iff] at hw;obtain ⟨p,⟨o,w,d,F,rfl⟩,Y⟩:=hw;simp only [Bool.and_eq_true,Nat.ble_eq] at Y;obtain rfl:d=t:=by omega
     rw [xE (List.mem_of_mem_drop w) F] at ht;cases ht
  | _=>exact h.elim
 | QV D t A H =>
  intro c f s Q j h;cases c with
  | region id ops dr =>
   cases dr with
   | false=>exact h.elim
   | true =>
    simp only [codeOk,Bool.and_eq_true] at j;obtain ⟨⟨⟨hd,R⟩,hH⟩,hq⟩:=j;obtain ⟨S,V,hS,h⟩:=h;refine ke.pre fun ad=>?_;have ap:H≠[]:=by intro e;rw [e] at hH;cases hH
    have z:∀ (i:Nat) (o:Oper),ops[i]? = some o->o∈ops.toList:=fun i o w=>List.mem_iff_getElem?.2 ⟨i,by simpa using w⟩;have Z:∀ o,o∈(t.filterMap fun i=>ops[i]?)->o∈ops.toList:=fun o w=>by
     obtain ⟨i,_,hi⟩:=List.mem_filterMap.1 w;exact z i o hi
    have ae:=Hj (n:=n) (W:=JL ops.toList) ad.1 ap (fun i o w=>qn hd o (z i o w)) (fun i o d w F=>xE (z i o w) F) D f [] (by
     intro i hi;rw [List.all_eq_true] at hq;have:=hq i hi;simp only [Bool.or_eq_true,Option.any_eq_true] at this;rcases this with h | ⟨o,r,h2⟩
     ·exact .inl h
     ·exact .inr ⟨o,by simpa using r,h2⟩) h
    refine ke.tail hT bW D t A (Region.before ops).toList H V S Ext (fun _ _ _ _=>True) [] R MN (fun _ _ h=>h) (fun _ _ _=>Ext.trans) (fun _ _ _ _ _ _ _=>trivial) hS (c:=fun _=>True) (fun _ _ _ _=>trivial) trivial ?_;refine zM (fun f' s' ⟨r,h2⟩=>?_) _ _ _ _ ae;have al:((t.filterMap fun i=>ops[i]?).all fun o=>dY n o.dst)=true:=by
     rw [List.all_eq_true];intro o w;exact qn hd o (Z _ w)
    have hv:=jk (n:=n) (t.filterMap fun i=>ops[i]?) f' s' al r;have mono:∀ (os:List Oper) (f:Fr) (s:AS) (K K':Fr->AS->Prop),(∀ f s,K f s->K' f s)->fq P T n ops os f s K->fq P T n ops os f s K':=by
     intro os
     induction os with
     | nil=>intro f s K K' B h;exact B _ _ h
     | cons o os U =>
      intro f s K K' B h;simp only [fq] at h ⊢;split at h
      ·obtain ⟨r,h2⟩:=h;rcases h2 with h2 | ⟨l,hl,h2⟩
       rotate_left
       ·exact ⟨r,.inr ⟨l,hl,fun p Y=>U _ _ _ _ B (h2 p Y)⟩⟩
       refine ⟨r,.inl ?_⟩;split at h2
       ·exact h2.mono fun v s' hh=>U _ _ _ _ B hh
       ·obtain ⟨v,s',h3,h4⟩:=h2;exact ⟨v,s',h3,U _ _ _ _ B h4⟩
      ·exact ⟨h.1,U _ _ _ _ B h.2⟩
      ·exact h
    refine mono _ _ _ _ _ (fun f2 s2 ⟨g1,g2⟩=>⟨g1,h2.trans (fun tt ht=>g2 tt ?_)⟩) hv;cases hw:CK (JL (t.filterMap fun i=>ops[i]?)) tt with
    | false=>rfl
    | true =>
     exfalso;simp only [CK,List.any_eq_true,JL,List.mem_filterMap,Option.map_eq_some_iff] at hw;obtain ⟨p,⟨o,w,d,F,rfl⟩,Y⟩:=hw;simp only [Bool.and_eq_true,Nat.ble_eq] at Y;obtain rfl:d=tt:=by omega
     rw [xE (by obtain ⟨i,_,hi⟩:=w;exact z i o hi) F] at ht;cases ht
  | _=>exact h.elim
 | ve D t A H M =>
  intro c f s Q j h;cases c with
  | region id ops dr =>
   cases dr with
   | false=>exact h.elim
   | true =>
    simp only [codeOk,Bool.and_eq_true] at j;obtain ⟨⟨⟨hd,R⟩,hM⟩,hq⟩:=j;obtain ⟨X,C,c0,S,V,hX,a4,hC,hS,hc,h0,h⟩:=h;have z:∀ (i:Nat) (o:Oper),ops[i]? = some o->o∈ops.toList:=fun i o w=>List.mem_iff_getElem?.2 ⟨i,by simpa using w⟩;have Z:∀ o,o∈(t.filterMap fun i=>ops[i]?)->o∈ops.toList:=fun o w=>by
     obtain ⟨i,_,hi⟩:=List.mem_filterMap.1 w;exact z i o hi
    have ae:=EG (n:=n) (W:=JL ops.toList) (fun i o w=>qn hd o (z i o w)) (fun i o d w F=>xE (z i o w) F) f D f [] c0 (sL.refl _ _) (by
     intro i hi;rw [List.all_eq_true] at hq;have:=hq i hi;simp only [Bool.or_eq_true,Option.any_eq_true] at this;rcases this with h | ⟨o,r,h2⟩
     ·exact .inl h
     ·exact .inr ⟨o,by simpa using r,h2⟩) h
    refine ke.tail hT bW D t A (Region.before ops).toList H V S X C M R (UJ hM) hX a4 hC hS hc h0 ?_;refine zM (fun f' s' ⟨r,h2⟩=>?_) _ _ _ _ ae;have al:((t.filterMap fun i=>ops[i]?).all fun o=>dY n o.dst)=true:=by
     rw [List.all_eq_true];intro o w;exact qn hd o (Z _ w)
    have hv:=jk (n:=n) (t.filterMap fun i=>ops[i]?) f' s' al r;have mono:∀ (os:List Oper) (f:Fr) (s:AS) (K K':Fr->AS->Prop),(∀ f s,K f s->K' f s)->fq P T n ops os f s K->fq P T n ops os f s K':=by
     intro os
     induction os with
     | nil=>intro f s K K' B h;exact B _ _ h
     | cons o os U =>
      intro f s K K' B h;simp only [fq] at h ⊢;split at h
      ·obtain ⟨r,h2⟩:=h;rcases h2 with h2 | ⟨l,hl,h2⟩
       rotate_left
       ·exact ⟨r,.inr ⟨l,hl,fun p Y=>U _ _ _ _ B (h2 p Y)⟩⟩
       refine ⟨r,.inl ?_⟩;split at h2
       ·exact h2.mono fun v s' hh=>U _ _ _ _ B hh
       ·obtain ⟨v,s',h3,h4⟩:=h2;exact ⟨v,s',h3,U _ _ _ _ B h4⟩
      ·exact ⟨h.1,U _ _ _ _ B h.2⟩
      ·exact h
    refine mono _ _ _ _ _ (fun f2 s2 ⟨g1,g2⟩=>⟨g1,h2.trans (fun tt ht=>g2 tt ?_)⟩) hv;cases hw:CK (JL (t.filterMap fun i=>ops[i]?)) tt with
    | false=>rfl
    | true =>
     exfalso;simp only [CK,List.any_eq_true,JL,List.mem_filterMap,Option.map_eq_some_iff] at hw;obtain ⟨p,⟨o,w,d,F,rfl⟩,Y⟩:=hw;simp only [Bool.and_eq_true,Nat.ble_eq] at Y;obtain rfl:d=tt:=by omega
     rw [xE (by obtain ⟨i,_,hi⟩:=w;exact z i o hi) F] at ht;cases ht
  | _=>exact h.elim
 | seq a b O am =>
  intro c f s Q j h;cases c with
  | seq x y =>
   simp only [codeOk,Bool.and_eq_true] at j;refine ke.seq ((O x f s _ j.1 h).mono ?_);rintro e f1 s1 ⟨r,h2⟩;cases e with
   | normal =>
    exact (am y f1 s1 Q j.2 r).mono fun e f2 s2 ⟨g1,g2⟩=>⟨g1,h2.left.trans g2.right⟩
   | _=>exact ⟨r,h2.left⟩
  | _=>exact h.elim
 | join L W a b O am =>
  intro c f s Q j h;cases c with
  | seq x y =>
   simp only [codeOk,Bool.and_eq_true] at j;obtain ⟨⟨⟨an,a1⟩,ab⟩,hL⟩:=j;obtain ⟨J,hJ,h⟩:=h;refine ke.seq ((O x f s _ an h).mono ?_);rintro e f1 s1 ⟨r,h2⟩;cases e with
   | normal =>
    obtain ⟨vs,g,ar,aw,ao⟩:=EE L _ _ hJ r;have w:=h2.sub ab;refine ke.weaken (f1:=g) (fun t=>?_) ?_
    ·rw [ao t];split
     ·exact .inl rfl
     ·simp only [forget];cases hw:CK W t with
      | true=>exact .inr rfl
      | false=>exact .inl (w t hw).symm
    ·refine (am y g s1 Q a1 (ar s1 aw)).mono fun e f2 s2 ⟨k1,k2⟩=>⟨k1,fun t ht=>?_⟩;simp only [EF] at ht;rw [yH] at ht;simp only [Bool.or_eq_false_iff] at ht;rw [k2 t ht.2,ao t,if_neg,forget,ht.1]
     ·rfl
     ·intro hm;obtain ⟨p,Y,rfl⟩:=List.mem_map.1 hm;rw [List.all_eq_true] at hL;have:=hL p Y;rw [this] at ht;cases ht.1
   | _=>exact ⟨r,(h2.sub ab).left⟩
  | _=>exact h.elim
 | cond a b O am =>
  intro c f s Q j h;cases c with
  | cond v x y =>
   simp only [codeOk,Bool.and_eq_true] at j;simp only [vg] at h;split at h
   ·rename_i t ht;have h':=Bu h;refine ke.cond ht ?_;cases t with
    | true=>exact (O x f s Q j.1 (by simpa using h')).mono fun e f2 s2 ⟨k1,k2⟩=>⟨k1,k2.left⟩
    | false=>exact (am y f s Q j.2 (by simpa using h')).mono fun e f2 s2 ⟨k1,k2⟩=>⟨k1,k2.right⟩
   ·exact h.elim
  | _=>exact h.elim
 | wrap a O =>
  intro c f s Q j h;cases c with
  | block id x =>
   refine ke.block ((O x f s _ j h).mono ?_);rintro e f1 s1 ⟨r,h2⟩;cases e with
   | exit a7 =>
    simp only [yC] at r ⊢;split
    ·rename_i a0;rw [if_pos a0] at r;exact ⟨r,h2⟩
    ·rename_i a0;rw [if_neg a0] at r;exact ⟨r,h2⟩
   | _=>exact ⟨r,h2⟩
  | scope x =>
   refine ke.scope ((O x f s _ j h).mono ?_);rintro e f1 s1 ⟨r,h2⟩;cases e with
   | goto l=>exact r.elim
   | _=>exact ⟨r,h2⟩
  | _=>exact h.elim
 | loop L W a O =>
  intro c f s Q j h;cases c with
  | loop x =>
   simp only [codeOk,Bool.and_eq_true] at j;obtain ⟨⟨an,ab⟩,hL⟩:=j;obtain ⟨I,m0,h0,hr⟩:=h;refine ke.loop (fun m f' s'=>(Kn L f' fun vs=>I m vs s')/\sL W f f') m0 ⟨h0,sL.refl _ _⟩ ?_;rintro m f1 s1 ⟨r,w⟩;obtain ⟨vs,g,ar,aw,ao⟩:=EE L _ _ (hr m) r;have a5:sL W f g:=by
    intro t ht;rw [ao t,if_neg,forget,ht]
    ·rfl
    ·intro hm;obtain ⟨p,Y,rfl⟩:=List.mem_map.1 hm;rw [List.all_eq_true] at hL;have:=hL p Y;rw [this] at ht;cases ht
   refine ke.weaken (f1:=g) (fun t=>?_) ?_
   ·rw [ao t];split
    ·exact .inl rfl
    ·simp only [forget];cases hw:CK W t with
     | true=>exact .inr rfl
     | false=>exact .inl (w t hw).symm
   ·refine (O x g s1 _ an (ar s1 aw)).mono ?_;rintro e f2 s2 ⟨k1,k2⟩;have k3:=a5.trans (k2.sub ab);cases e with
    | normal =>
     have key:∀ (L:List (Nat×TK)) (f:Fr) (K:List AV->Nat->Prop),(Kn L f fun vs=>∃ m',m'<m/\K vs m')->∃ m',m'<m/\Kn L f fun vs=>K vs m':=by
      intro L
      induction L with
      | nil=>intro f K h;exact h
      | cons p L U =>
       intro f K h;have a2:∀ (k:TK) (v:AV) (G:AV->Nat->Prop),(QX k v fun u=>∃ m',m'<m/\G u m')->∃ m',m'<m/\QX k v fun u=>G u m':=by
        intro k v G h;unfold QX at h;split at h
        ·rename_i k k' n;cases B:(k'==k) with
         | false=>rw [B] at h;exact h.elim
         | true=>rw [B] at h;obtain ⟨m',r,h2⟩:=h;exact ⟨m',r,by simp only [QX,B,cond_true];exact h2⟩
        all_goals first | exact h.elim | (obtain ⟨m',r,h2⟩:=h;exact ⟨m',r,by simp only [QX];exact h2⟩)
       refine a2 _ _ _ ?_;have hm:∀ (k:TK) (v:AV) (G G':AV->Prop),(∀ u,G u->G' u)->QX k v G->QX k v G':=by
        intro k v G G' hg h;unfold QX at h ⊢;split at h
        ·rename_i k k' n;cases B:(k'==k) with
         | false=>rw [B] at h;exact h.elim
         | true=>rw [B] at h;exact hg _ h
        all_goals first | exact hg _ h | exact h.elim
       exact hm _ _ _ _ (fun u hu=>U f (fun vs m'=>K (u::vs) m') hu) h
     obtain ⟨m',a6,hj⟩:=key L f2 (fun vs m'=>I m' vs s2) k1;exact ⟨m',a6,hj,k3⟩
    | _=>exact ⟨k1,k3⟩
  | _=>exact h.elim
def Ou:List AV->AV
 | [v]=>v
 | l=>.aP l
def Ia (T:TT):List ResultVar->Fr->AS->List AV->(List AV->Prop)->Prop
 | [],_,_,acc,K=>K acc
 | .tmp t::rs,f,s,acc,K=>Ia T rs f s (acc++[f t]) K
 | .cell x t::rs,f,s,acc,K=>(match f x with
  | .ptr (some (l,off))=>(match T.agg t with
   | some true=>(match T.eU t with | some n=>aR (aD s l off n) fun cs=>Ia T rs f s (acc++[.agg cs]) K | none=>False)
   | some false=>rd (VT T t) (av s l off) fun v=>Ia T rs f s (acc++[v]) K
   | none=>False)
  | _=>False)
theorem zT:∀ (rs:List ResultVar) (f:Fr) (s:AS) (acc:List AV) {K:List AV->Prop},Ia T rs f s acc K->∃ vs,xM.CW T f s rs=some vs/\K (acc++vs)
 | [],f,s,acc,K,h=>⟨[],rfl,by simpa [Ia] using h⟩
 | .tmp t::rs,f,s,acc,K,h=>by
  obtain ⟨vs,c,h2⟩:=zT rs f s _ h;exact ⟨f t::vs,by simp only [xM.CW,c,Option.map_some],by simpa using h2⟩
 | .cell x t::rs,f,s,acc,K,h=>by
  simp only [Ia] at h;split at h
  ·rename_i l off i;split at h
   ·rename_i b;split at h
    ·rename_i n j;obtain ⟨cs,d,e⟩:=h;obtain ⟨vs,c,h2⟩:=zT rs f s _ e;exact ⟨.agg cs::vs,by simp only [xM.CW,Gc,i,b,j,Option.bind_some,d,Option.map_some,c],by simpa using h2⟩
    ·exact h.elim
   ·rename_i b;obtain ⟨v,d,e⟩:=rd_some h;obtain ⟨vs,c,h2⟩:=zT rs f s _ e;exact ⟨v::vs,by simp only [xM.CW,Gc,i,b,d,Option.bind_some,c,Option.map_some],by simpa using h2⟩
   ·exact h.elim
  ·exact h.elim
def Wz (T:TT) (rs:List ResultVar) (R:AV->AS->Prop):Exit->Fr->AS->Prop
 | .normal,f,s=>Ia T rs f s [] fun l=>R (Ou l) s
 | .ret,f,s=>Ia T rs f s [] fun l=>R (Ou l) s
 | _,_,_=>False
theorem aa.q (hT:TT.Ok P T) (bW:P.follows .mixedOrders=true) {g:FuncId} {fn:Func} {c:Code} {args:List AV} {s:AS} {R:AV->AS->Prop} {n:Nat} {rs:List ResultVar} {A:QA} (j:P.funcs[g]? = some fn) (k:fU P g=true) (hb:fn.body=some c)
  (m:args.length+(fn.ntmps - args.length)=n) (b:fn.results.toList=rs) (d:codeOk T n A c=true) {Q:Prop} (o:Q=vg P T A c (rC args) s (Wz T rs R)) (h:Q):aa P g args s R:=by
 rw [o] at h;refine aa.body hT j k hb m b ((Ko hT bW A c _ s _ d h).mono ?_);rintro e f s ⟨i,_⟩;have key:(Ia T rs f s [] fun l=>R (Ou l) s)->∃ v,xM T rs f s=some v/\R v s:=by
  intro h;obtain ⟨vs,h2,h3⟩:=zT rs f s [] h;refine ⟨Ou vs,?_,by simpa using h3⟩;unfold xM;rw [h2];simp only [Option.map_some];cases vs with
  | nil=>rfl
  | cons a l=>cases l <;> rfl
 cases e with
 | normal=>exact key i
 | ret=>exact key i
 | _=>exact i.elim
end
end Go.Am
end

section
namespace Go.au
structure aJ where
 r:Int
 c:Int
 deriving DecidableEq
def aJ.may (d:aJ):Bool:=decide (1<=d.r)&&decide (d.r<=16)&&decide (1<=d.c)&&decide (d.c<=4611686018427387904)
def aJ.lt (a b:aJ):Bool:=decide (a.r<b.r)||(a.r==b.r&&decide (a.c<b.c))
def sX (a b:Int):Int:=if a<b then -1 else if a>b then 1 else 0
def aJ.cmp (a b:aJ):Int:=if sX a.r b.r≠0 then sX a.r b.r else sX a.c b.c
theorem aJ.gD {d:aJ}:d.may=true↔1<=d.r/\d.r<=16/\1<=d.c/\d.c<=4611686018427387904:=by simp [aJ.may,and_assoc]
theorem aJ.lt_iff {a b:aJ}:a.lt b=true↔a.r<b.r\/a.r=b.r/\a.c<b.c:=by simp [aJ.lt]
theorem aJ.fO {a b:aJ}:a.cmp b<0↔a.lt b=true:=by
 rw [aJ.lt_iff];simp only [aJ.cmp,sX];grind
theorem aJ.UL {a b:aJ}:a.cmp b=0↔a=b:=by
 cases a;cases b;simp only [aJ.cmp,sX,aJ.mk.injEq];grind
theorem aJ.lt_trans {a b c:aJ} (h:a.lt b=true) (d:b.lt c=true):a.lt c=true:=by
 rw [aJ.lt_iff] at *;omega
theorem aJ.lt_irrefl (a:aJ):¬ a.lt a=true:=by rw [aJ.lt_iff];omega
theorem aJ.UM (a b:aJ):a.lt b=true\/a=b\/b.lt a=true:=by
 cases a;cases b;simp only [aJ.lt_iff,aJ.mk.injEq];omega
end Go.au
namespace Go.au
def pos (l:List aJ) (d:aJ):Nat:=(l.takeWhile fun x=>x.lt d).length
theorem Ib (l:List aJ) (d:aJ):pos l d<=l.length:=(List.takeWhile_sublist _).length_le
theorem pos_eq {l:List aJ} {d:aJ} {p:Nat} (b:p<=l.length) (e:∀ (k:Nat) x,k<p->l[k]? = some x->x.lt d=true) (h2:∀ x,l[p]? = some x->x.lt d=false):pos l d=p:=by
 induction l generalizing p with
 | nil=>simp at b;subst b;rfl
 | cons a l i =>
  simp only [pos,List.takeWhile_cons];cases p with
  | zero=>have:=h2 a rfl;simp [this]
  | succ p =>
   have:=e 0 a (by omega) rfl;simp only [this,if_true,List.length_cons];have:=i (p:=p) (by simpa using b) (fun k x j c=>e (k+1) x (by omega) (by simpa using c)) (fun x c=>h2 x (by simpa using c));simp only [pos] at this;rw [this]
def dZ (l:List aJ):Prop:=l.Pairwise fun a b=>a.lt b=true
theorem dZ.lt {l:List aJ} (h:dZ l) {i j:Nat} {a b:aJ} (c:i<j) (e:l[i]? = some a) (hb:l[j]? = some b):a.lt b=true:=by
 have hj:j<l.length:=by
  rcases Nat.lt_or_ge j l.length with d | d
  ·exact d
  ·rw [List.getElem?_eq_none d] at hb;cases hb
 have:=List.pairwise_iff_getElem.1 h i j (by omega) hj c;rw [List.getElem?_eq_getElem (by omega)] at e hb;rw [Option.some.inj e,Option.some.inj hb] at this;exact this
theorem dZ.mem {l:List aJ} (h:dZ l) (d:aJ):l[pos l d]? = some d↔d∈l:=by
 constructor
 ·intro h;exact List.mem_of_getElem? h
 ·intro hm;obtain ⟨i,hi⟩:=List.mem_iff_getElem?.1 hm;have e:i<l.length:=by
   rcases Nat.lt_or_ge i l.length with c | c
   ·exact c
   ·rw [List.getElem?_eq_none c] at hi;cases hi
  have:pos l d=i:=pos_eq (by omega) (fun k x j b=>h.lt j b hi) (fun x b=>by
   rw [hi] at b;obtain rfl:=Option.some.inj b;cases m:d.lt d with
   | false=>rfl
   | true=>exact absurd m (aJ.lt_irrefl d))
  rw [this];exact hi
end Go.au
namespace Go.au
structure EH (v:List Int):Prop where
 len:v.length=16
 Wk:∀ x∈v,0<=x/\x<=4611686018427387904
theorem EH.get {v:List Int} (h:EH v) (i:Nat):0<=v.getD i 0/\v.getD i 0<=4611686018427387904:=by
 rw [List.getD_eq_getElem?_getD];cases b:v[i]? with
 | none=>simp
 | some x=>exact h.Wk x (List.mem_of_getElem? b)
theorem EH.set {v:List Int} (h:EH v) (i:Nat) {x:Int} (b:0<=x/\x<=4611686018427387904):EH (v.set i x):=by
 refine ⟨by rw [List.length_set];exact h.len,fun y c=>?_⟩;rcases List.mem_or_eq_of_mem_set c with d | rfl
 ·exact h.Wk y d
 ·exact b
def fV (st:List Int×List aJ) (d:aJ):List Int×List aJ :=
 if d.c<=st.1.getD (d.r - 1).toNat 0 then st else if d.c=st.1.getD (d.r - 1).toNat 0+1 then (st.1.set (d.r - 1).toNat d.c,st.2) else (st.1,st.2++[d])
def compact (v:List Int) (l:List aJ):List Int×List aJ:=l.foldl fV (v,[])
theorem EI {st:List Int×List aJ} {d:aJ} (h:EH st.1) (hd:d.may=true):EH (fV st d).1:=by
 have:=aJ.gD.1 hd;unfold fV;split
 ·exact h
 ·split
  ·exact h.set _ (by omega)
  ·exact h
theorem D1:∀ (l:List aJ) (st:List Int×List aJ),EH st.1->(∀ d∈l,d.may=true)->EH (l.foldl fV st).1
 | [],st,h,_=>h
 | d::l,st,h,hd=>D1 l _ (EI h (hd d (by simp))) (fun x b=>hd x (by simp [b]))
theorem Po (st:List Int×List aJ) (d:aJ):(fV st d).2.length<=st.2.length+1:=by
 unfold fV;split
 ·omega
 ·split <;> simp
theorem zU:∀ (l:List aJ) (st:List Int×List aJ),(l.foldl fV st).2.length<=st.2.length+l.length
 | [],st=>by simp
 | d::l,st=>by have:=zU l (fV st d);have:=Po st d;simp only [List.foldl_cons,List.length_cons];omega
end Go.au
namespace Go.au
def ins (l:List aJ) (d:aJ):List aJ:=l.take (pos l d)++d::l.drop (pos l d)
theorem xF (l:List aJ) (d:aJ):(ins l d).length=l.length+1:=by
 have:=Ib l d;simp only [ins,List.length_append,List.length_cons,List.length_take,List.length_drop];omega
theorem uv {l:List aJ} {d x:aJ}:x∈ins l d↔x=d\/x∈l:=by
 simp only [ins,List.mem_append,List.mem_cons]
 conv=>rhs;rw [<- List.take_append_drop (pos l d) l,List.mem_append]
 constructor
 ·rintro (h | h | h)
  ·exact .inr (.inl h)
  ·exact .inl h
  ·exact .inr (.inr h)
 ·rintro (h | h | h)
  ·exact .inr (.inl h)
  ·exact .inl h
  ·exact .inr (.inr h)
theorem Q1 {l:List aJ} {d x:aJ} (h:x∈l.take (pos l d)):x.lt d=true:=by
 have:l.take (pos l d)=l.takeWhile fun x=>x.lt d:=by
  simp only [pos];exact (List.prefix_iff_eq_take.1 (List.takeWhile_prefix _)).symm
 rw [this] at h
 induction l with
 | nil=>simp at h
 | cons a l b =>
  rw [List.takeWhile_cons] at h;split at h
  ·rename_i c;rcases List.mem_cons.1 h with rfl | h
   ·exact c
   ·refine b h ?_;simp only [pos];exact (List.prefix_iff_eq_take.1 (List.takeWhile_prefix _)).symm
  ·simp at h
theorem pos_at {l:List aJ} {d x:aJ} (h:l[pos l d]? = some x):x.lt d=false:=by
 induction l with
 | nil=>simp at h
 | cons a l c =>
  simp only [pos,List.takeWhile_cons] at h;cases b:a.lt d with
  | true=>simp only [b,if_true,List.length_cons,List.getElem?_cons_succ] at h;exact c h
  | false=>simp only [b,Bool.false_eq_true,if_false,List.length_nil,List.getElem?_cons_zero,Option.some.injEq] at h;subst h;exact b
theorem dZ.sub {l l':List aJ} (h:dZ l) (hs:l'.Sublist l):dZ l':=List.Pairwise.sublist hs h
theorem dZ.ins {l:List aJ} (h:dZ l) {d:aJ} (hd:d ∉ l):dZ (ins l d):=by
 unfold dZ au.ins;rw [List.pairwise_append];refine ⟨h.sub (List.take_sublist _ _),?_,fun a o b hb=>?_⟩
 ·rw [List.pairwise_cons];refine ⟨fun b hb=>?_,h.sub (List.drop_sublist _ _)⟩;obtain ⟨k,e⟩:=List.mem_iff_getElem?.1 hb;rw [List.getElem?_drop] at e;have m:∀ x,l[pos l d]? = some x->d.lt x=true:=by
   intro x n;rcases aJ.UM d x with c | c | c
   ·exact c
   ·subst c;exact absurd (List.mem_of_getElem? n) hd
   ·rw [pos_at n] at c;cases c
  cases k with
  | zero=>exact m b (by simpa using e)
  | succ k =>
   have p:pos l d<l.length:=by
    rcases Nat.lt_or_ge (pos l d) l.length with r | r
    ·exact r
    ·rw [List.getElem?_eq_none (by omega)] at e;cases e
   have n:=m _ (List.getElem?_eq_getElem p);exact aJ.lt_trans n (h.lt (by omega) (List.getElem?_eq_getElem p) e)
 ·have c:=Q1 o;rcases List.mem_cons.1 hb with rfl | hb
  ·exact c
  ·obtain ⟨i,hi⟩:=List.mem_iff_getElem?.1 o;obtain ⟨j,hj⟩:=List.mem_iff_getElem?.1 hb;rw [List.getElem?_take] at hi;rw [List.getElem?_drop] at hj;split at hi
   ·exact h.lt (by omega) hi hj
   ·cases hi
theorem Kq:∀ (l:List aJ) (st:List Int×List aJ),(l.foldl fV st).2.Sublist (st.2++l)
 | [],st=>by simp
 | d::l,st=>by
  have:=Kq l (fV st d);simp only [List.foldl_cons];refine this.trans ?_;unfold fV;split
  ·exact List.Sublist.append_left (List.sublist_cons_self _ _) _
  ·split
   ·exact List.Sublist.append_left (List.sublist_cons_self _ _) _
   ·simp
theorem rD (v:List Int) (l:List aJ):(compact v l).2.Sublist l:=by simpa [compact] using Kq l (v,[])
theorem MO {v:List Int} {l:List aJ} (h:EH v) (hm:∀ d∈l,d.may=true):EH (compact v l).1:=D1 l _ h hm
end Go.au
end

section
namespace Go.au.SG
structure OE where
 α:Type
 d0:α
 lt:α->α->Bool
 cmp:α->α->Int
 fO:∀ a b,cmp a b<0↔lt a b=true
 le_trans:∀ a b c,lt b a=false->lt c b=false->lt c a=false
 le_refl:∀ a,lt a a=false
 zV:∀ a b,lt a b=true->lt b a=false
def El (O:OE):Type:=O.α
variable {O:OE}
noncomputable instance WY:DecidableEq (El O):=fun a b=>Classical.propDecidable (a=b)
def El.d0:El O:=O.d0
def El.lt (a b:El O):Bool:=O.lt a b
def El.cmp (a b:El O):Int:=O.cmp a b
def El.le (x y:El O):Prop:=y.lt x=false
theorem El.fO {a b:El O}:a.cmp b<0↔a.lt b=true:=O.fO a b
theorem El.le_trans {a b c:El O} (h:a.le b) (d:b.le c):a.le c:=O.le_trans a b c h d
theorem El.le_refl (a:El O):a.le a:=O.le_refl a
theorem El.zV {a b:El O} (h:a.lt b=true):a.le b:=O.zV a b h
theorem El.wh {a b:El O} (h:¬ a.lt b=true):b.le a:=by unfold El.le;simpa using h
def el (l:List (El O)) (i:Nat):El O:=l.getD i El.d0
theorem yJ {l:List (El O)} {i:Nat} (h:i<l.length):l[i]? = some (el l i):=by
 rw [el,List.getD_eq_getElem?_getD,List.getElem?_eq_getElem h];rfl
theorem Q2 {l:List (El O)} {i k:Nat} {x:El O} (h:i<l.length):el (l.set i x) k=if k=i then x else el l k:=by
 simp only [el,List.getD_eq_getElem?_getD,List.getElem?_set];by_cases b:i=k
 ·subst b;simp [h]
 ·rw [if_neg b,if_neg (fun e=>b e.symm)]
def Bn (l:List (El O)) (i j:Nat):List (El O):=(l.set i (el l j)).set j (el l i)
theorem D2 (l:List (El O)) (i j:Nat):(Bn l i j).length=l.length:=by simp [Bn]
theorem lS {l:List (El O)} {i j:Nat} (hi:i<l.length) (hj:j<l.length) (k:Nat):el (Bn l i j) k=if k=j then el l i else if k=i then el l j else el l k:=by
 unfold Bn;rw [Q2 (by simpa using hj),Q2 hi]
inductive Sw (a b:Nat):List (El O)->List (El O)->Prop
 | refl (l:List (El O)):Sw a b l l
 | step {l l':List (El O)} {i j:Nat} (h:Sw a b l l') (hi:a<=i/\i<b) (hj:a<=j/\j<b) (hb:b<=l'.length):Sw a b l (Bn l' i j)
theorem Sw.len {a b:Nat} {l l':List (El O)} (h:Sw a b l l'):l'.length=l.length:=by
 induction h with
 | refl=>rfl
 | step h hi hj hb c=>rw [D2,c]
theorem Sw.trans {a b:Nat} {l l' l'':List (El O)} (h:Sw a b l l') (c:Sw a b l' l''):Sw a b l l'':=by
 induction c with
 | refl=>exact h
 | step _ hi hj hb d=>exact .step d hi hj hb
theorem Sw.Uo {a b a' c:Nat} {l l':List (El O)} (h:Sw a b l l') (j:a'<=a) (hb:b<=c) (e:c<=l.length):Sw a' c l l':=by
 induction h with
 | refl=>exact .refl _
 | step h hi hj i d=>exact .step d ⟨by omega,by omega⟩ ⟨by omega,by omega⟩ (by rw [d.len];exact e)
theorem Sw.out {a b:Nat} {l l':List (El O)} (h:Sw a b l l') {k:Nat} (d:k<a\/b<=k):el l' k=el l k:=by
 induction h with
 | refl=>rfl
 | step h hi hj hb c=>rw [lS (by omega) (by omega),if_neg (by omega),if_neg (by omega),c]
theorem Sw.mem {a b:Nat} {l l':List (El O)} (h:Sw a b l l') {k:Nat} (d:a<=k/\k<b):∃ j,(a<=j/\j<b)/\el l' k=el l j:=by
 induction h generalizing k with
 | refl=>exact ⟨k,d,rfl⟩
 | step h hi hj hb c =>
  rw [lS (by omega) (by omega)];split
  ·exact c hi
  ·split
   ·exact c hj
   ·exact c d
theorem Q3 {l:List (El O)} {i j:Nat} (hi:i<l.length) (hj:j<l.length):(Bn l i j).Perm l:=by
 rw [List.perm_iff_count];intro x;unfold Bn;rw [List.count_set (by simpa using hj),List.count_set hi];have e1:l[i]=el l i:=by have:=yJ hi;rw [List.getElem?_eq_getElem hi] at this;exact Option.some.inj this
 have e2:(l.set i (el l j))[j]'(by simpa using hj)=el l j:=by
  rw [List.getElem_set];split
  ·rfl
  ·have:=yJ hj;rw [List.getElem?_eq_getElem hj] at this;exact Option.some.inj this
 rw [e1,e2];have c:el l i=x->0<l.count x:=fun e=>List.count_pos_iff.2 (e ▸ List.mem_of_getElem? (yJ hi));by_cases b:el l i=x <;> by_cases d:el l j=x <;> simp [b,d]
 ·have:=c b;omega
 ·have:=c b;omega
theorem Sw.perm {a b:Nat} {l l':List (El O)} (h:Sw a b l l'):l'.Perm l:=by
 induction h with
 | refl=>exact .refl _
 | step h hi hj hb c=>exact (Q3 (by omega) (by omega)).trans c
def CL (l:List (El O)) (a b:Nat):Prop:=∀ i j,a<=i->i<j->j<b->(el l i).le (el l j)
theorem Kr {l:List (El O)} {a i j:Nat} (w:i<l.length) (hj:a<j) (r:j<=i) (e:(el l j).lt (el l (j - 1))=true)
  (h:∀ p q,a<=p->p<q->q<=i->q≠j->(el l p).le (el l q)):∀ p q,a<=p->p<q->q<=i->q≠j - 1->(el (Bn l j (j - 1)) p).le (el (Bn l j (j - 1)) q):=by
 intro p q o k m n;rw [lS (by omega) (by omega),lS (by omega) (by omega),if_neg n];by_cases b:q=j
 ·rw [if_pos b];by_cases c:p=j - 1
  ·rw [if_pos c];exact El.zV e
  ·rw [if_neg c,if_neg (by omega)];exact h p (j - 1) o (by omega) (by omega) (by omega)
 ·rw [if_neg b];by_cases c:p=j - 1
  ·rw [if_pos c];exact h j q (by omega) (by omega) m b
  ·rw [if_neg c];by_cases d:p=j
   ·rw [if_pos d];exact h (j - 1) q (by omega) (by omega) m b
   ·rw [if_neg d];exact h p q o k m b
theorem Ic {l:List (El O)} {a i j:Nat} (hj:a<=j) (k:j<=i) (hle:j=a\/(el l (j - 1)).le (el l j))
  (h:∀ p q,a<=p->p<q->q<=i->q≠j->(el l p).le (el l q)):CL l a (i+1):=by
 intro p q e c m;by_cases b:q=j
 ·subst b;rcases hle with rfl | hle
  ·omega
  ·by_cases d:p=q - 1
   ·rw [d];exact hle
   ·exact El.le_trans (h p (q - 1) e (by omega) (by omega) (by omega)) hle
 ·exact h p q e c (by omega) b
def CX (l:List (El O)) (f n k:Nat):Prop:=∀ c,0<c->c<n->k<=(c - 1) / 2->(el l (f+c)).le (el l (f+(c - 1) / 2))
structure MP (l:List (El O)) (f n k root:Nat):Prop where
 lo:k<=root
 other:∀ c,0<c->c<n->k<=(c - 1) / 2->(c - 1) / 2≠root->(el l (f+c)).le (el l (f+(c - 1) / 2))
 up:k<root->k<=(root - 1) / 2->∀ c,0<c->c<n->(c - 1) / 2=root->(el l (f+c)).le (el l (f+(root - 1) / 2))
theorem CX.WA {l:List (El O)} {f n k:Nat} (h:CX l f n (k+1)):MP l f n k k :=
 ⟨by omega,fun c b d i e=>h c b d (by omega),fun h=>by omega⟩
theorem MP.done {l:List (El O)} {f n k root:Nat} (h:MP l f n k root) (i:∀ c,0<c->c<n->(c - 1) / 2=root->(el l (f+c)).le (el l (f+root))):CX l f n k:=by
 intro c e b j;by_cases d:(c - 1) / 2=root
 ·rw [d];exact i c e b d
 ·exact h.other c e b j d
theorem MP.step {l:List (El O)} {f n k root child:Nat} (h:MP l f n k root) (D:f+n<=l.length) (y:child=2*root+1\/child=2*root+2) (p:child<n)
  (r:(el l (f+root)).lt (el l (f+child))=true) (b:∀ c,0<c->c<n->(c - 1) / 2=root->(el l (f+c)).le (el l (f+child))):MP (Bn l (f+root) (f+child)) f n k child:=by
 have z:=h.lo;have E:=fun q=>lS (l:=l) (i:=f+root) (j:=f+child) (by omega) (by omega) q;refine ⟨by omega,fun c m o x A=>?_,fun _ _ c m o B=>?_⟩
 ·rw [E,E];rw [if_neg (show ¬ f+(c - 1) / 2=f+child by omega)];by_cases d:(c - 1) / 2=root
  ·rw [if_pos (show f+(c - 1) / 2=f+root by omega)];by_cases C:c=child
   ·rw [if_pos (by omega)];exact El.zV r
   ·rw [if_neg (by omega),if_neg (by omega)];exact b c m o d
  ·rw [if_neg (show ¬ f+(c - 1) / 2=f+root by omega),if_neg (show ¬ f+c=f+child by omega)];by_cases w:c=root
   ·rw [if_pos (by omega)];subst w;exact h.up (by omega) x child (by omega) p (by omega)
   ·rw [if_neg (by omega)];exact h.other c m o x d
 ·rw [E,E];have e:(child - 1) / 2=root:=by omega
  rw [if_neg (show ¬ f+c=f+child by omega),if_neg (show ¬ f+c=f+root by omega),e,if_neg (show ¬ f+root=f+child by omega),if_pos rfl];have:=h.other c m o (by omega) (by omega);rw [B] at this;exact this
theorem CX.top {l:List (El O)} {f n:Nat} (h:CX l f n 0):∀ c,c<n->(el l (f+c)).le (el l f):=by
 intro c
 induction c using Nat.strongRecOn with
 | _ c b =>
  intro d;by_cases e:c=0
  ·subst e;exact El.le_refl _
  ·exact El.le_trans (h c (by omega) d (by omega)) (b ((c - 1) / 2) (by omega) (by omega))
def MQ (l:List (El O)) (f b n:Nat):Prop:=∀ p q,f<=p->p<q->q<b->f+n<=q->(el l p).le (el l q)
theorem MQ.swap {l:List (El O)} {f b n:Nat} (w:b<=l.length) (hb:f+(n+1)<=b) (h:MQ l f b (n+1)) (k:CX l f (n+1) 0):MQ (Bn l f (f+n)) f b n/\CX (Bn l f (f+n)) f n 1:=by
 have E:=fun q=>lS (l:=l) (i:=f) (j:=f+n) (by omega) (by omega) q;constructor
 ·intro p q o m d x;rw [E,E];by_cases e:q=f+n
  ·rw [if_pos e,if_neg (by omega)];split
   ·exact k.top n (by omega)
   ·have:=k.top (p - f) (by omega);rw [show f+(p - f)=p by omega] at this;exact this
  ·rw [if_neg e,if_neg (show ¬ q=f by omega)];split
   ·exact h f q (by omega) (by omega) d (by omega)
   ·split
    ·exact h (f+n) q (by omega) (by omega) d (by omega)
    ·exact h p q o m d (by omega)
 ·intro c r y z;rw [E,E,if_neg (by omega),if_neg (by omega),if_neg (by omega),if_neg (by omega)];exact k c r (by omega) (by omega)
theorem MQ.sw {l l':List (El O)} {f b n:Nat} (h:MQ l f b n) (hs:Sw f (f+n) l l'):MQ l' f b n:=by
 intro p q o d c i;rw [hs.out (k:=q) (.inr i)];by_cases m:p<f+n
 ·obtain ⟨j,hj,e⟩:=hs.mem (k:=p) ⟨o,m⟩;rw [e];exact h j q hj.1 (by omega) c i
 ·rw [hs.out (.inr (by omega))];exact h p q o d c i
structure Ie (L G:El O->El O->Prop) (l:List (El O)) (x y i j:Nat):Prop where
 xi:x<i
 ij:i<=j+1
 jy:j<y
 lt:∀ k,x<k->k<i->L (el l k) (el l x)
 ge:∀ k,j<k->k<y->G (el l k) (el l x)
theorem Ie.left {L G:El O->El O->Prop} {l:List (El O)} {x y i j:Nat} (h:Ie L G l x y i j) (b:i<=j) (c:L (el l i) (el l x)):Ie L G l x y (i+1) j :=
 ⟨by have:=h.xi;omega,by omega,h.jy,fun k d h2=>by
  by_cases e:k=i
  ·rw [e];exact c
  ·exact h.lt k d (by omega),h.ge⟩
theorem Ie.right {L G:El O->El O->Prop} {l:List (El O)} {x y i j:Nat} (h:Ie L G l x y i j) (b:i<=j) (c:G (el l j) (el l x)):Ie L G l x y i (j - 1) :=
 ⟨h.xi,by have:=h.xi;omega,by have:=h.jy;omega,h.lt,fun k d h2=>by
  by_cases e:k=j
  ·rw [e];exact c
  ·exact h.ge k (by omega) h2⟩
theorem Ie.swap {L G:El O->El O->Prop} {l:List (El O)} {x y i j:Nat} (h:Ie L G l x y i j) (e:y<=l.length) (b:i<j) (c:L (el l j) (el l x)) (d:G (el l i) (el l x)):Ie L G (Bn l i j) x y (i+1) (j - 1):=by
 have m:=h.xi;have h2:=h.jy;have E:=fun q=>lS (l:=l) (i:=i) (j:=j) (by omega) (by omega) q;have ex:el (Bn l i j) x=el l x:=by rw [E,if_neg (by omega),if_neg (by omega)]
 refine ⟨by omega,by omega,by omega,fun k h3 h4=>?_,fun k h3 h4=>?_⟩
 ·rw [ex,E,if_neg (by omega)];split
  ·exact c
  ·exact h.lt k h3 (by omega)
 ·rw [ex,E];split
  ·exact d
  ·rw [if_neg (by omega)];exact h.ge k (by omega) h4
def Lt (a p:El O):Prop:=a.lt p=true
def Ge (a p:El O):Prop:=p.le a
structure EJ (l:List (El O)) (x y m:Nat):Prop where
 xm:x<=m
 my:m<y
 lt:∀ k,x<=k->k<m->(el l k).le (el l m)
 ge:∀ k,m<k->k<y->(el l m).le (el l k)
theorem Ie.fin {l:List (El O)} {x y i j:Nat} (h:Ie Lt Ge l x y i j) (n:y<=l.length) (m:j<i):EJ (Bn l j x) x y j:=by
 have o:=h.xi;have h2:=h.jy;have h3:=h.ij;have E:=fun q=>lS (l:=l) (i:=j) (j:=x) (by omega) (by omega) q;have b:el (Bn l j x) j=el l x:=by
  rw [E];split
  ·rename_i e;rw [e]
  ·rw [if_pos rfl]
 refine ⟨by omega,h2,fun k h4 c=>?_,fun k h4 c=>?_⟩
 ·rw [b,E];by_cases d:k=x
  ·rw [if_pos d];exact El.zV (h.lt j (by omega) (by omega))
  ·rw [if_neg d,if_neg (by omega)];exact El.zV (h.lt k (by omega) (by omega))
 ·rw [b,E,if_neg (by omega),if_neg (by omega)];exact h.ge k h4 c
theorem Ie.start {L G:El O->El O->Prop} {l:List (El O)} {x y:Nat} (h:x<y):Ie L G l x y (x+1) (y - 1):=⟨by omega,by omega,by omega,fun k b h2=>by omega,fun k b h2=>by omega⟩
def SY (a p:El O):Prop:=a.le p
def SZ (a p:El O):Prop:=p.lt a=true
def iO (l:List (El O)) (a0 b0 a b:Nat):Prop:=∀ p q,a0<=p->p<q->q<b0->(p<a\/b<=q)->(el l p).le (el l q)
theorem iO.sw {l l':List (El O)} {a0 b0 a b:Nat} (k:a0<=a) (hb:b<=b0) (h:iO l a0 b0 a b) (hs:Sw a b l l'):iO l' a0 b0 a b:=by
 intro p q i h2 h3 h4;have P:(p<a\/b<=p)\/(a<=p/\p<b):=by omega
 have Q:(q<a\/b<=q)\/(a<=q/\q<b):=by omega
 rcases P with c | c <;> rcases Q with d | d
 ·rw [hs.out c,hs.out d];exact h p q i h2 h3 h4
 ·obtain ⟨j,hj,e⟩:=hs.mem d;rw [hs.out c,e];exact h p j i (by omega) (by omega) (by omega)
 ·obtain ⟨j,hj,e⟩:=hs.mem c;rw [hs.out d,e];exact h j q (by omega) (by omega) h3 (by omega)
 ·omega
theorem iO.VW {l:List (El O)} {a0 b0 a b:Nat} (h:iO l a0 b0 a b) (hs:CL l a b):CL l a0 b0:=by
 intro p q c h2 h3;by_cases h4:p<a\/b<=q
 ·exact h p q c h2 h3 h4
 ·exact hs p q (by omega) h2 (by omega)
theorem iO.start (l:List (El O)) (a b:Nat):iO l a b a b:=fun p q _ _ _ _=>by omega
theorem iO.right {l l':List (El O)} {a0 b0 a b m:Nat} (B:a0<=a) (hb:b<=b0) (h:iO l a0 b0 a b) (i:EJ l a b m) (hs:Sw a m l l') (o:CL l' a m):iO l' a0 b0 (m+1) b:=by
 have C:=i.xm;have h2:=i.my;intro p q D x F G;have src:∀ k,∃ j,el l' k=el l j/\((a<=k/\k<m/\a<=j/\j<m)\/(j=k/\(k<a\/m<=k))):=by
  intro k;by_cases n:a<=k/\k<m
  ·obtain ⟨j,hj,e⟩:=hs.mem n;exact ⟨j,e,.inl ⟨n.1,n.2,hj.1,hj.2⟩⟩
  ·exact ⟨k,hs.out (by omega),.inr ⟨rfl,by omega⟩⟩
 by_cases c:a<=p/\q<b
 ·
  by_cases y:q<m
  ·exact o p q c.1 x y
  ·obtain ⟨j,e,hj⟩:=src p;rw [e,hs.out (k:=q) (by omega)];have z:p<=m:=by omega
   have d:(el l j).le (el l m):=by
    by_cases r:j=m
    ·rw [r];exact El.le_refl _
    ·exact i.lt j (by omega) (by omega)
   by_cases w:q=m
   ·rw [w];exact d
   ·exact El.le_trans d (i.ge q (by omega) c.2)
 ·obtain ⟨j,e,hj⟩:=src p;obtain ⟨k,A,n⟩:=src q;rw [e,A];exact h j k (by omega) (by omega) (by omega) (by omega)
theorem iO.left {l l':List (El O)} {a0 b0 a b m:Nat} (A:a0<=a) (hb:b<=b0) (h:iO l a0 b0 a b) (i:EJ l a b m) (hs:Sw (m+1) b l l') (o:CL l' (m+1) b):iO l' a0 b0 a m:=by
 have B:=i.xm;have h2:=i.my;intro p q C x D F;have src:∀ k,∃ j,el l' k=el l j/\((m<k/\k<b/\m<j/\j<b)\/(j=k/\(k<=m\/b<=k))):=by
  intro k;by_cases n:m+1<=k/\k<b
  ·obtain ⟨j,hj,e⟩:=hs.mem n;exact ⟨j,e,.inl ⟨by omega,n.2,by omega,hj.2⟩⟩
  ·exact ⟨k,hs.out (by omega),.inr ⟨rfl,by omega⟩⟩
 by_cases c:a<=p/\q<b
 ·by_cases y:m<p
  ·exact o p q (by omega) x c.2
  ·obtain ⟨k,e,n⟩:=src q;rw [e,hs.out (k:=p) (by omega)];have d:(el l m).le (el l k):=by
    by_cases r:k=m
    ·rw [r];exact El.le_refl _
    ·exact i.ge k (by omega) (by omega)
   by_cases w:p=m
   ·rw [w];exact d
   ·exact El.le_trans (i.lt p c.1 (by omega)) d
 ·obtain ⟨j,e,hj⟩:=src p;obtain ⟨k,z,n⟩:=src q;rw [e,z];exact h j k (by omega) (by omega) (by omega) (by omega)
theorem iO.equal {l:List (El O)} {a0 b0 a b i j:Nat} (h:iO l a0 b0 a b) (x:a0<=a) (hb:b<=b0) (d:Ie SY SZ l a b i j) (n:j<i) (c:∀ k,a<=k->k<b->(el l a).le (el l k)):iO l a0 b0 i b:=by
 have y:=d.xi;have h2:=d.ij;have h3:=d.jy;intro p q o r w z;by_cases m:a<=p/\q<b
 ·have hle:(el l p).le (el l a):=by
   by_cases e:p=a
   ·rw [e];exact El.le_refl _
   ·exact d.lt p (by omega) (by omega)
  exact El.le_trans hle (c q (by omega) m.2)
 ·exact h p q o r w (by omega)
end Go.au.SG
end

section
namespace Go.Am
section
variable {P:Program} {T:TT} (hT:TT.Ok P T) {call:Kg} (zP:HY P call) (bW:P.follows .mixedOrders=true)
include hT zP bW
end
end Go.Am
end

section
namespace Go.Am
open Go.ChangeShapes Go.WideShapes Go.ChangeAt Go.RowKit
def s0:AS:={ lay:=[],cur:=.E,nl:=0,st:=1 }
theorem fM.below {B:Nat} {γ γ':bM} {s s':AS} {w w':World} (h:fM B γ s w γ' s' w') (b:∀ l o,s.h l=some o->o.ro=true):Below w.heap.size w w' :=
 ⟨h.env.1,h.env.2.1,h.env.2.2,h.eU,fun k c=>h.Uj k c fun l o i d h2 _=>by rw [b l o d] at h2;cases h2⟩
theorem Q4 {H:Type} {enc:TypeId×Value->H} {P:Program} {f:Func} {s:ChangeSpec} {fresh:Bool} {W W':World} {args:Array Value} {ds:List (DataW H)} {before pa:List MemPlace} {rt:TypeId}
  (j:DataW.Whole enc P f.params.toList s.vars false W args.toList ds [] before) (hv:s.vars=[]) (hb:Below W.heap.size W W') (d:f.resultTypes=#[rt]) (e:P.underlying rt=some .bool)
  (c:(s.fn H (ds++[]))={ results:=[.lit (.bool true)],args:=ds }) (i:DataW.TrodAll enc P W' 0 (fun b=>decide (b<W.heap.size)) true f.params.toList args.toList ds pa) :
  s.post enc P f false fresh false false W args (.bool true) W':=by
 refine ⟨ds,[],before,[],pa,[],j,?_,?_,?_,hb.frame _,fun h=>by cases h⟩
 ·rw [c,d];exact trodAll_mk1 (shut_bool e true)
 ·rw [c];exact i
 ·rw [c,hv];rfl
end Go.Am
end

section
namespace Go.Am
/-! ### heaps -/
theorem aM.none {s:AS} (h:aM s):s.h s.nl=none:=by simpa using h.2 0
def bD (L:List Nat) (s s':AS):Prop:=(∀ x o,x ∉ L->s.h x=some o->s'.h x=some o)/\s.nl<=s'.nl
theorem bD.refl (L:List Nat) (s:AS):bD L s s:=⟨fun _ _ _ h=>h,Nat.le_refl _⟩
theorem bD.trans {L:List Nat} {a b c:AS} (h:bD L a b) (d:bD L b c):bD L a c:=⟨fun x o i e=>d.1 x o i (h.1 x o i e),Nat.le_trans h.2 d.2⟩
theorem Ext.mut {L:List Nat} {s s':AS} (h:Ext s s'):bD L s s':=⟨fun x o _ e=>h.1 x o e,h.2⟩
theorem bD.ext {s s':AS} (h:bD [] s s'):Ext s s':=⟨fun x o e=>h.1 x o (by simp) e,h.2⟩
theorem bD.mono {L b:List Nat} {s s':AS} (h:bD L s s') (c:∀ x∈L,x∈b):bD b s s':=⟨fun x o d e=>h.1 x o (fun m=>d (c x m)) e,h.2⟩
def At (s:AS) (l:Nat) (cs:List AV):Prop:=∃ g ro,s.h l=some (.cells cs g ro)
def Own (s:AS) (l:Nat) (cs:List AV):Prop:=s.h l=some (.cells cs 0 false)
theorem Own.at {s:AS} {l:Nat} {cs:List AV} (h:Own s l cs):At s l cs:=⟨_,_,h⟩
theorem At.ext {s s':AS} {l:Nat} {cs:List AV} (h:At s l cs) (e:Ext s s'):At s' l cs:=by obtain ⟨g,ro,h⟩:=h;exact ⟨g,ro,e.1 _ _ h⟩
theorem At.mut {s s':AS} {L:List Nat} {l:Nat} {cs:List AV} (h:At s l cs) (e:bD L s s') (b:l ∉ L):At s' l cs:=by obtain ⟨g,ro,h⟩:=h;exact ⟨g,ro,e.1 _ _ b h⟩
theorem Own.ext {s s':AS} {l:Nat} {cs:List AV} (h:Own s l cs) (e:Ext s s'):Own s' l cs:=e.1 _ _ h
theorem Own.mut {s s':AS} {L:List Nat} {l:Nat} {cs:List AV} (h:Own s l cs) (e:bD L s s') (b:l ∉ L):Own s' l cs:=e.1 _ _ b h
theorem At.av {s:AS} {l:Nat} {cs:List AV} (h:At s l cs) (o:Nat):av s l o=cs[o]? := by obtain ⟨g,ro,h⟩:=h;exact UG h
theorem At.aD {s:AS} {l:Nat} {cs:List AV} (h:At s l cs) {o n:Nat} (b:o+n<=cs.length):aD s l o n=some ((cs.drop o).take n):=by obtain ⟨g,ro,h⟩:=h;exact um h b
theorem At.inj {s:AS} {l:Nat} {cs cs':List AV} (h:At s l cs) (b:At s l cs'):cs=cs':=by
 obtain ⟨g,ro,h⟩:=h;obtain ⟨d,c,b⟩:=b;rw [h] at b;simp only [Option.some.injEq,AO.cells.injEq] at b;exact b.1
structure qy (s s':AS) (l:Nat) (o:AO):Prop where
 «at»:s'.h l=some o
 ext:Ext s s'
 wf:aM s'
 no:s.h l=none
 eq:∀ x,x≠l->s'.h x=s.h x
 nl:s.nl<=l/\l<s'.nl
 st:s'.st=s.st
theorem qy.ne {s s':AS} {l:Nat} {o:AO} (h:qy s s' l o) {x:Nat} {o':AO} (b:s.h x=some o'):x≠l:=by
 intro e;subst e;rw [h.no] at b;cases b
theorem qy.own {s s':AS} {l:Nat} {cs:List AV} (h:qy s s' l (.cells cs 0 false)):Own s' l cs:=h.at
theorem aM.new {s:AS} (h:aM s) {o:AO} (c:o.live=true):qy s (s.new o) s.nl o:=by
 have d:=h.1;refine ⟨by rw [AS.ot _ c,if_pos rfl],⟨fun x p b=>?_,by rw [AS.tY];omega⟩,⟨d,fun k=>?_⟩,h.none,fun x b=>by rw [AS.ot _ c,if_neg b],⟨Nat.le_refl _,by rw [AS.tY];omega⟩,rfl⟩
 ·rw [AS.ot _ c,if_neg]
  ·exact b
  ·intro e;subst e;rw [h.none] at b;cases b
 ·rw [AS.tY,AS.Mo,AS.ot _ c];have e1:s.nl+s.st+k*s.st=s.nl+(k+1)*s.st:=by rw [Nat.add_mul,Nat.one_mul];omega
  rw [if_neg (by omega),e1];exact h.2 (k+1)
theorem aj.intro {o:AO} {s:AS} {K:Nat->AS->Prop} (b:aM s) (c:o.live=true) (h:∀ l s',qy s s' l o->K l s'):aj o s K:=h _ _ (b.new c)
structure Up (s s':AS) (l:Nat) (o:AO):Prop where
 «at»:s'.h l=some o
 wf:aM s'
 eq:∀ x,x≠l->s'.h x=s.h x
 nl:s'.nl=s.nl
 st:s'.st=s.st
theorem Up.mut {s s':AS} {l:Nat} {o:AO} (h:Up s s' l o):bD [l] s s':=⟨fun x p b c=>by rw [h.eq x (by simpa using b)];exact c,by rw [h.nl];exact Nat.le_refl _⟩
theorem aM.put {s:AS} (h:aM s) {l:Nat} {o o':AO} (c:s.h l=some o') (b:o.live=true):Up s (s.put l o) l o:=by
 refine ⟨by rw [AS.oq _ _ b,if_pos rfl],⟨h.1,fun k=>?_⟩,fun x d=>by rw [AS.oq _ _ b,if_neg d],rfl,rfl⟩;rw [AS.Bp,AS.Uy,AS.oq _ _ b,if_neg]
 ·exact h.2 k
 ·intro e;rw [<- e,h.2 k] at c;cases c
theorem bt.cK {s:AS} {l o g:Nat} {cs vs:List AV} {K:AS->Prop} (c:aM s) (b:s.h l=some (.cells cs g false)) (d:o+vs.length<=cs.length) (h:∀ s',Up s s' l (.cells (qk cs o vs) g false)->K s'):bt (cK s l o vs) K:=by
 refine ⟨s.put l (.cells (qk cs o vs) g false),?_,h _ (c.put b rfl)⟩;simp only [Am.cK,b,if_pos d]
theorem bt.own {s:AS} {l o:Nat} {cs vs:List AV} {K:AS->Prop} (b:aM s) (c:Own s l cs) (d:o+vs.length<=cs.length) (h:∀ s',Up s s' l (.cells (qk cs o vs) 0 false)->K s'):bt (Am.cK s l o vs) K:=bt.cK b c d h
/-! ### calls -/
def Xg (s s':AS):Prop:=(∃ k,s'.nl=s.nl+k*s.st)/\s'.st=s.st
section
variable {P:Program} {g:FuncId} {args:List AV} {s:AS} {R:AV->AS->Prop}
theorem aa.pre (h:aM s->aa P g args s R):aa P g args s R :=
 fun B γ ca w b h2=>h h2.Mh B γ ca w b h2
theorem aa.post (h:aa P g args s R):aa P g args s fun v s'=>R v s'/\aM s'/\Xg s s' :=
 fun B γ ca w i h2=>(h B γ ca w i h2).mono fun e w' ⟨γ',v,cv,s',a,b,c,d,e⟩=>⟨γ',v,cv,s',a,b,c,d,e,d.Mh,c.nl,c.st⟩
theorem aa.use {R':AV->AS->Prop} (h:aa P g args s R) (hr:∀ v s',R v s'->aM s'->R' v s'):aa P g args s R' :=
 h.post.mono fun v s' ⟨a,b,_⟩=>hr v s' a b
end
/-! ### words -/
theorem Q5 {k:IntKind} {n:Int} {K:Int->Prop}:aV k (some (.int k n)) K↔K n:=⟨fun ⟨m,h,b⟩=>by simp only [Option.some.injEq,AV.int.injEq] at h;rw [h.2];exact b,fun h=>⟨n,rfl,h⟩⟩
theorem Q6 {b:Bool} {K:Bool->Prop}:On (some (.bool b)) K↔K b:=⟨fun ⟨m,h,c⟩=>by simp only [Option.some.injEq,AV.bool.injEq] at h;rw [h];exact c,fun h=>⟨b,rfl,h⟩⟩
theorem Q7 {b:List UInt8} {K:List UInt8->Prop}:FY (some (.str b)) K↔K b:=⟨fun ⟨m,h,c⟩=>by simp only [Option.some.injEq,AV.str.injEq] at h;rw [h];exact c,fun h=>⟨b,rfl,h⟩⟩
theorem Q8 {a:Option (Nat×Nat)} {K:Option (Nat×Nat)->Prop}:ng (some (.ptr a)) K↔K a:=⟨fun ⟨m,h,b⟩=>by simp only [Option.some.injEq,AV.ptr.injEq] at h;rw [h];exact b,fun h=>⟨a,rfl,h⟩⟩
theorem Q9 {a:Option Nat} {K:Option Nat->Prop}:vL (some (.map a)) K↔K a:=⟨fun ⟨m,h,b⟩=>by simp only [Option.some.injEq,AV.map.injEq] at h;rw [h];exact b,fun h=>⟨a,rfl,h⟩⟩
theorem Q_ {a:List AV} {K:List AV->Prop}:oS (some (.agg a)) K↔K a:=⟨fun ⟨m,h,b⟩=>by simp only [Option.some.injEq,AV.agg.injEq] at h;rw [h];exact b,fun h=>⟨a,rfl,h⟩⟩
theorem Ra {a:AV} {K:AV->Prop}:dS (some a) K↔K a:=⟨fun ⟨m,h,b⟩=>by simp only [Option.some.injEq] at h;rw [h];exact b,fun h=>⟨a,rfl,h⟩⟩
theorem Rb {a:List AV} {K:List AV->Prop}:aR (some a) K↔K a:=⟨fun ⟨m,h,b⟩=>by simp only [Option.some.injEq] at h;rw [h];exact b,fun h=>⟨a,rfl,h⟩⟩
theorem Rc {a:Bool} {K:Bool->Prop}:sJ (some a) K↔K a:=⟨fun ⟨m,h,b⟩=>by simp only [Option.some.injEq] at h;rw [h];exact b,fun h=>⟨a,rfl,h⟩⟩
theorem Rd {a:AS} {K:AS->Prop}:bt (some a) K↔K a:=⟨fun ⟨m,h,b⟩=>by simp only [Option.some.injEq] at h;rw [h];exact b,fun h=>⟨a,rfl,h⟩⟩
theorem Re {a:AV} {s:AS} {K:AV->AS->Prop}:iD (some (a,s)) K↔K a s:=⟨fun ⟨m,t,h,b⟩=>by simp only [Option.some.injEq,Prod.mk.injEq] at h;rw [h.1,h.2];exact b,fun h=>⟨a,s,rfl,h⟩⟩
theorem Rf {l i:Nat} {K:Nat->Nat->Prop}:bG (some (.ptr (some (l,i)))) K↔K l i:=⟨fun ⟨m,t,h,b⟩=>by simp only [Option.some.injEq,AV.ptr.injEq,Prod.mk.injEq] at h;rw [h.1,h.2];exact b,fun h=>⟨l,i,rfl,h⟩⟩
theorem Ks {l i:Nat} {K:Nat->Nat->Prop}:ah (some (l,i)) K↔K l i:=Iff.rfl
theorem Kt {X Y:Prop}:af true X Y↔X:=Iff.rfl
theorem Ig {X Y:Prop}:af false X Y↔Y:=Iff.rfl
theorem gl {b:Bool} {X Y:Prop}:af b X Y↔(b=true->X)/\(b=false->Y):=by cases b <;> simp [af]
theorem af.mk {b:Bool} {X Y:Prop} (c:b=true->X) (h2:b=false->Y):af b X Y:=gl.2 ⟨c,h2⟩
theorem af.dec {p:Prop} [Decidable p] {X Y:Prop} (b:p->X) (h2:¬ p->Y):af (decide p) X Y:=gl.2 ⟨fun h=>b (by simpa using h),fun h=>h2 (by simpa using h)⟩
theorem af.yes {b:Bool} {X Y:Prop} (hb:b=true) (h:X):af b X Y:=by subst hb;exact h
theorem af.no {b:Bool} {X Y:Prop} (hb:b=false) (h:Y):af b X Y:=by subst hb;exact h
@[congr] theorem aV.congr {k:IntKind} {o o':Option AV} {K:Int->Prop} (h:o=o'):aV k o K=aV k o' K:=by rw [h]
@[congr] theorem On.congr {o o':Option AV} {K:Bool->Prop} (h:o=o'):On o K=On o' K:=by rw [h]
@[congr] theorem FY.congr {o o':Option AV} {K:List UInt8->Prop} (h:o=o'):FY o K=FY o' K:=by rw [h]
@[congr] theorem ng.congr {o o':Option AV} {K:Option (Nat×Nat)->Prop} (h:o=o'):ng o K=ng o' K:=by rw [h]
@[congr] theorem vL.congr {o o':Option AV} {K:Option Nat->Prop} (h:o=o'):vL o K=vL o' K:=by rw [h]
@[congr] theorem oS.congr {o o':Option AV} {K:List AV->Prop} (h:o=o'):oS o K=oS o' K:=by rw [h]
@[congr] theorem dS.congr {o o':Option AV} {K:AV->Prop} (h:o=o'):dS o K=dS o' K:=by rw [h]
@[congr] theorem aR.congr {o o':Option (List AV)} {K:List AV->Prop} (h:o=o'):aR o K=aR o' K:=by rw [h]
@[congr] theorem sJ.congr {o o':Option Bool} {K:Bool->Prop} (h:o=o'):sJ o K=sJ o' K:=by rw [h]
@[congr] theorem bt.congr {o o':Option AS} {K:AS->Prop} (h:o=o'):bt o K=bt o' K:=by rw [h]
@[congr] theorem iD.congr {o o':Option (AV×AS)} {K:AV->AS->Prop} (h:o=o'):iD o K=iD o' K:=by rw [h]
@[congr] theorem bG.congr {o o':Option AV} {K:Nat->Nat->Prop} (h:o=o'):bG o K=bG o' K:=by rw [h]
@[congr] theorem ah.congr {o o':Option (Nat×Nat)} {K:Nat->Nat->Prop} (h:o=o'):ah o K=ah o' K:=by rw [h]
@[congr] theorem af.congr {b c:Bool} {X Y:Prop} (h:b=c):af b X Y=af c X Y:=by rw [h]
@[congr] theorem cH.congr {l l':List AV} {X:Prop} (h:l=l'):cH l X=cH l' X:=by rw [h]
@[congr] theorem fh.congr {n:Option Nat} {l l':List AV} {X:Prop} (h:l=l'):fh n l X=fh n l' X:=by rw [h]
@[congr] theorem aj.congr {o o':AO} {s:AS} {K:Nat->AS->Prop} (h:o=o'):aj o s K=aj o' s K:=by rw [h]
@[congr] theorem aa.congr {P:Program} {g:FuncId} {a a':List AV} {s:AS} {R:AV->AS->Prop} (h:a=a'):aa P g a s R=aa P g a' s R:=by rw [h]
@[congr] theorem bz.congr {A:(List AV->AS->Prop)->Prop}:bz A=bz A:=rfl
@[congr] theorem bB.congr {A:(Nat->List AV->AS->Prop)->Nat->Prop}:bB A=bB A:=rfl
@[congr] theorem gy.congr {A:(Nat->List AV->AV->AS->Prop)->(Nat->List AV->AV->Prop)->Prop}:gy A=gy A:=rfl
@[congr] theorem sR.congr {s:AS} {A:(AS->AS->Prop)->(Nat->List AV->AV->AS->Prop)->(AS->Prop)->(Nat->List AV->AV->AS->Prop)->(Nat->List AV->AV->Prop)->Prop}:sR s A=sR s A:=rfl
@[congr] theorem Oo.congr {n:Nat} {X:Prop}:Oo n X=Oo n X:=rfl
@[congr] theorem NZ.congr {n n':Int} {X:Prop} (h:n=n'):NZ n X=NZ n' X:=by rw [h]
@[congr] theorem NN.congr {n n':Int} {X:Prop} (h:n=n'):NN n X=NN n' X:=by rw [h]
attribute [go_sem] Q5 Q6 Q7 Q8 Q9 Q_ Ra Rb Rc Rd Re Rf Ks Kt Ig
end Go.Am
end

section
namespace Go.Am
def cq (s:AS) (v:AV) (sz:Nat) (cs:List AV) (n:Nat):Prop :=
 (v=.emp/\n=0/\cs=[])\/∃ a c e,v=.slc a n c e/\(cs.length=n*sz/\n<=c)/\(n=0\/∃ la o C,a=some (la,o)/\At s la C/\(C.drop o).take (n*sz)=cs)
theorem cq.ext {s s':AS} {v:AV} {sz n:Nat} {cs:List AV} (h:cq s v sz cs n) (e:Ext s s'):cq s' v sz cs n:=by
 rcases h with h | ⟨a,c,b,d,h2,h3⟩
 ·exact .inl h
 ·refine .inr ⟨a,c,b,d,h2,?_⟩;rcases h3 with h3 | ⟨la,o,C,i,j,k⟩
  ·exact .inl h3
  ·exact .inr ⟨la,o,C,i,j.ext e,k⟩
theorem cq.mut {s s':AS} {v:AV} {sz n:Nat} {cs:List AV} {L:List Nat} (h:cq s v sz cs n) (e:bD L s s')
  (b:n≠0->∀ l∈L,∀ C o,At s l C->(C.drop o).take (n*sz)=cs->False):cq s' v sz cs n:=by
 rcases h with h | ⟨a,c,k,m,h2,h3⟩
 ·exact .inl h
 ·refine .inr ⟨a,c,k,m,h2,?_⟩;rcases h3 with h3 | ⟨la,o,C,p,d,i⟩
  ·exact .inl h3
  ·by_cases j:n=0
   ·exact .inl j
   ·exact .inr ⟨la,o,C,p,d.mut e fun hm=>b j la hm C o d i,i⟩
section
variable {T:TT} {t el:TypeId} {sz:Nat} (hu:T.cR t=some (.slice el)) (hs:T.eU el=some sz)
include hu
theorem cq.cI {s s':AS} {v:AV} {n sz:Nat} {cs:List AV} (h:cq s v sz cs n):aQ T t v s'=some (.int .i64 (n:Nat)):=by
 rcases h with ⟨rfl,rfl,rfl⟩ | ⟨a,c,e,rfl,_⟩
 ·simp [aQ,hu]
 ·simp [aQ,hu]
include hs
theorem cq.ix (r:0<sz) {s:AS} {v:AV} {n:Nat} {cs:List AV} (h:cq s v sz cs n) {i:Nat} (hi:i<n):∃ la o,(∀ k,ag T t v (.int k (i:Nat))=some (.ptr (some (la,o)))) /\
  ∀ s',Ext s s'->(∀ j,j<sz->av s' la (o+j)=cs[i*sz+j]?)/\aD s' la o sz=some ((cs.drop (i*sz)).take sz):=by
 rcases h with ⟨_,rfl,_⟩ | ⟨a,c,e,rfl,d,h3⟩
 ·omega
 ·obtain ⟨d,p⟩:=d;rcases h3 with h3 | ⟨la,o,C,rfl,l,b⟩
  ·omega
  ·have hlen:=congrArg List.length b;rw [List.length_take,List.length_drop,d] at hlen;have hmul:i*sz+sz<=n*sz:=by rw [<- Nat.succ_mul];exact Nat.mul_le_mul_right _ hi
   refine ⟨la,o+i*sz,fun k=>?_,fun s' m=>⟨fun j hj=>?_,?_⟩⟩
   ·have:(0:Int)<=(i:Int)/\(i:Int)<(n:Int):=by omega
    simp only [ag,hu,hs,Option.bind_some];rw [if_pos this];simp
   ·rw [(l.ext m).av,<- b,List.getElem?_take,if_pos (by omega),List.getElem?_drop];congr 1;omega
   ·rw [(l.ext m).aD (by omega),<- b];congr 1;apply List.ext_getElem?;intro k;simp only [List.getElem?_take,List.getElem?_drop];split
    ·rw [if_pos (by omega)];congr 1;omega
    ·rfl
end
section
variable {T:TT} {t el:TypeId} {sz:Nat} (hu:T.cR t=some (.slice el)) (hs:T.eU el=some sz)
include hu hs
theorem cq.from {s:AS} {v:AV} {n:Nat} {cs:List AV} (h:cq s v sz cs n) (hv:v≠.emp) {i:Nat} (hi:i<=n) (k:IntKind):∃ v',aZ T t v (some (.int k (i:Nat))) none none=some v'/\cq s v' sz (cs.drop (i*sz)) (n - i):=by
 rcases h with ⟨rfl,_⟩ | ⟨a,c,e,rfl,⟨w,d⟩,h3⟩
 ·exact absurd rfl hv
 ·have j:cN n c (some (.int k (i:Nat))) none none=some (i,n,c):=by
   have:(0:Int)<=(i:Int)/\(i:Int)<=((n:Nat):Int):=by omega
   simp only [cN,sM,pN,gC,Option.isNone_none,Option.isSome_none,Bool.false_eq_true,and_false,if_false,Option.bind_some,d,if_true,this,and_self,Option.map_some,Int.toNat_natCast]
  have hlen:(cs.drop (i*sz)).length=(n - i)*sz:=by rw [List.length_drop,w,Nat.mul_sub_right_distrib]
  have x:n - i=0->cs.drop (i*sz)=[]:=fun h=>List.length_eq_zero_iff.1 (by rw [hlen,h,Nat.zero_mul]);simp only [aZ,hu,hs,Option.bind_some,j];rcases a with _ | ⟨b,o⟩
  ·refine ⟨_,rfl,.inr ⟨_,_,_,rfl,⟨hlen,by omega⟩,.inl ?_⟩⟩;rcases h3 with h3 | ⟨la,o,C,h,_⟩
   ·omega
   ·cases h
  ·have key:∀ o' p,(n - i=0\/o'=o+i*sz)->cq s (.slc (some (b,o')) (n - i) (c - i) p) sz (cs.drop (i*sz)) (n - i):=by
    intro o' p l;refine .inr ⟨_,_,_,rfl,⟨hlen,by omega⟩,?_⟩;by_cases r:n - i=0
    ·exact .inl r
    ·rcases l with l | rfl
     ·exact absurd l r
     ·rcases h3 with h3 | ⟨la,o2,C,h,y,m⟩
      ·omega
      ·simp only [Option.some.injEq,Prod.mk.injEq] at h;obtain ⟨rfl,rfl⟩:=h;refine .inr ⟨b,_,C,rfl,y,?_⟩;rw [<- m,List.drop_take,List.drop_drop,Nat.mul_sub_right_distrib]
   by_cases hm:c=i
   ·cases e
    ·refine ⟨.emp,by simp [hm],.inl ⟨rfl,by omega,x (by omega)⟩⟩
    ·refine ⟨.slc (some (b,o)) (n - i) (c - i) true,by simp [hm],key _ _ (.inl (by omega))⟩
   ·cases e
    ·refine ⟨.slc (some (b,o+i*sz)) (n - i) (c - i) false,by simp [hm],key _ _ (.inr rfl)⟩
    ·refine ⟨.slc (some (b,o+i*sz)) (n - i) (c - i) true,by simp [hm],key _ _ (.inr rfl)⟩
end
theorem cq.nil {s:AS} {sz c:Nat} {e:Bool} {a:Option (Nat×Nat)}:cq s (.slc a 0 c e) sz [] 0:=.inr ⟨a,c,e,rfl,⟨by simp,Nat.zero_le _⟩,.inl rfl⟩
theorem cq.mk {s:AS} {la o n c sz:Nat} {e:Bool} {C cs:List AV} (b:At s la C) (d:cs.length=n*sz) (h:(C.drop o).take (n*sz)=cs) (i:n<=c:=by first | omega | simp):cq s (.slc (some (la,o)) n c e) sz cs n :=
 .inr ⟨_,c,e,rfl,⟨d,i⟩,.inr ⟨la,o,C,rfl,b,h⟩⟩
theorem d_ {α:Type} {f:α->List AV} {sz:Nat} (b:∀ x,(f x).length=sz) (l:List α):(l.flatMap f).length=l.length*sz:=by
 induction l with
 | nil=>simp
 | cons x xs c=>simp [c,b,Nat.add_mul];omega
theorem qo {α:Type} {f:α->List AV} {sz:Nat} (b:∀ x,(f x).length=sz):∀ (l:List α) (i:Nat),(l.flatMap f).drop (i*sz)=(l.drop i).flatMap f
 | l,0=>by simp
 | [],i+1=>by simp
 | x::xs,i+1=>by
  rw [List.flatMap_cons,List.drop_succ_cons,<- qo b xs i,Nat.add_mul,Nat.one_mul,Nat.add_comm,<- List.drop_drop];congr 1;rw [List.drop_append_of_le_length (by rw [b];exact Nat.le_refl _),List.drop_eq_nil_of_le (by rw [b];exact Nat.le_refl _),List.nil_append]
theorem sY {α:Type} {f:α->List AV} {sz:Nat} (b:∀ x,(f x).length=sz):∀ (l:List α) (i:Nat),(l.flatMap f).take (i*sz)=(l.take i).flatMap f
 | l,0=>by simp
 | [],i+1=>by simp
 | x::xs,i+1=>by
  rw [List.flatMap_cons,List.take_succ_cons,List.flatMap_cons,<- sY b xs i,Nat.add_mul,Nat.one_mul,Nat.add_comm,List.take_append];rw [b,List.take_of_length_le (by rw [b];omega),Nat.add_sub_cancel_left]
theorem Bw {α:Type} {f:α->List AV} {sz:Nat} (b:∀ x,(f x).length=sz) {l:List α} {i:Nat} {x:α} (h:l[i]? = some x):((l.flatMap f).drop (i*sz)).take sz=f x:=by
 rw [qo b];have hi:i<l.length:=by
  rcases Nat.lt_or_ge i l.length with c | c
  ·exact c
  ·rw [List.getElem?_eq_none c] at h;cases h
 rw [List.drop_eq_getElem_cons hi,List.flatMap_cons,List.take_append_of_le_length (by rw [b];exact Nat.le_refl _),List.take_of_length_le (by rw [b];exact Nat.le_refl _)];rw [List.getElem?_eq_getElem hi] at h;rw [Option.some.inj h]
theorem Rg {α:Type} {f:α->List AV} {sz:Nat} (b:∀ x,(f x).length=sz) {l:List α} {i j:Nat} {x:α} (h:l[i]? = some x) (hj:j<sz):(l.flatMap f)[i*sz+j]? = (f x)[j]? := by
 have:=congrArg (fun c:List AV=>c[j]?) (Bw b h);simp only [List.getElem?_take,List.getElem?_drop,if_pos hj] at this;exact this
def Sl {α:Type} (f:α->List AV) (sz:Nat) (s:AS) (v:AV) (l:List α):Prop:=cq s v sz (l.flatMap f) l.length
section
variable {α:Type} {f:α->List AV} {sz:Nat} {s s':AS} {v:AV} {l:List α}
theorem Sl.ext (h:Sl f sz s v l) (e:Ext s s'):Sl f sz s' v l:=cq.ext h e
theorem Sl.nil {c:Nat} {e:Bool} {a:Option (Nat×Nat)}:Sl f sz s (.slc a 0 c e) []:=cq.nil
theorem Sl.cI {T:TT} {t el:TypeId} (hu:T.cR t=some (.slice el)) (h:Sl f sz s v l) (s':AS):aQ T t v s'=some (.int .i64 (l.length:Nat)):=cq.cI hu h
theorem Sl.ix (m:0<sz) {T:TT} {t el:TypeId} (d:∀ x,(f x).length=sz) (hu:T.cR t=some (.slice el)) (hs:T.eU el=some sz) (h:Sl f sz s v l) {i:Nat} {x:α} (hi:l[i]? = some x):∃ la o,(∀ k,ag T t v (.int k (i:Nat))=some (.ptr (some (la,o)))) /\
  ∀ s',Ext s s'->(∀ j,j<sz->av s' la (o+j)=(f x)[j]?)/\aD s' la o sz=some (f x):=by
 have b:i<l.length:=by
  rcases Nat.lt_or_ge i l.length with c | c
  ·exact c
  ·rw [List.getElem?_eq_none c] at hi;cases hi
 obtain ⟨la,o,n,h2⟩:=cq.ix hu hs m h b;refine ⟨la,o,n,fun s' e=>⟨fun j hj=>?_,?_⟩⟩
 ·rw [(h2 s' e).1 j hj,Rg d hi hj]
 ·rw [(h2 s' e).2,Bw d hi]
theorem Sl.from {T:TT} {t el:TypeId} (b:∀ x,(f x).length=sz) (hu:T.cR t=some (.slice el)) (hs:T.eU el=some sz) (h:Sl f sz s v l) (hv:v≠.emp) {i:Nat} (hi:i<=l.length) (k:IntKind):∃ v',aZ T t v (some (.int k (i:Nat))) none none=some v'/\Sl f sz s v' (l.drop i):=by
 obtain ⟨v',c,h2⟩:=cq.from hu hs h hv hi k
 exact ⟨v',c,by rw [qo b] at h2;simpa [Sl] using h2⟩
theorem Sl.mut {L:List Nat} (h:Sl f sz s v l) (e:bD L s s') (j:∀ x,(f x).length=sz) (k:0<sz) (b:∀ p∈L,∀ C,At s p C->∀ x∈l,∀ (i:Nat) c,(f x)[0]? = some c->C[i]? ≠ some c):Sl f sz s' v l:=by
 refine cq.mut h e fun n p r C o w d=>?_;cases l with
 | nil=>simp at n
 | cons x xs =>
  have m:(f x)[0]? = some ((f x)[0]'(by rw [j];exact k)):=List.getElem?_eq_getElem _;refine b p r C w x (by simp) o _ m ?_;have:=congrArg (fun c:List AV=>c[0]?) d;simp only [List.getElem?_take,List.getElem?_drop,List.flatMap_cons,Nat.add_zero] at this;rw [if_pos (by simp;omega),List.getElem?_append_left (by rw [j];exact k)] at this;rw [this,m]
end
end Go.Am
end

section
namespace Go.Am
theorem dz {cs vs:List AV} (h:vs.length=cs.length):qk cs 0 vs=vs:=by
 apply List.ext_getElem?;intro k;rw [jH _ _ _ _ (by omega)];by_cases b:k<vs.length
 ·rw [if_pos (by omega),Nat.sub_zero]
 ·rw [if_neg (by omega),List.getElem?_eq_none (by omega),List.getElem?_eq_none (by omega)]
structure Bx (T:TT) (t el:TypeId) (sz ql:Nat):Prop where
 u:T.cR t=some (.slice el)
 z:T.eU el=some sz
 b:T.Gb el=some ql
 zr:∃ z zc,T.rY el=some z/\bI z=some zc/\zc.length=sz
 pos:0<sz
 small:sz<=1024/\ql<=65536
def ay:AV->List Nat
 | .slc (some (la,_)) _ _ false=>[la]
 | _=>[]
def br {α:Type} (f:α->List AV) (sz:Nat) (s:AS) (v:AV) (l:List α):Prop :=
 (l=[]/\∃ a,v=.slc a 0 0 true)\/∃ la,v=.slc (some (la,0)) l.length l.length false/\s.h la=some (.cells (l.flatMap f) sz false)
theorem br.nil {α:Type} {f:α->List AV} {sz:Nat} {s:AS} {a:Option (Nat×Nat)}:br f sz s (.slc a 0 0 true) ([]:List α):=.inl ⟨rfl,a,rfl⟩
theorem br.mut {α:Type} {f:α->List AV} {sz:Nat} {s s':AS} {v:AV} {l:List α} {L:List Nat} (h:br f sz s v l) (e:bD L s s') (b:∀ x∈ay v,x ∉ L):br f sz s' v l:=by
 rcases h with h | ⟨la,rfl,h⟩
 ·exact .inl h
 ·exact .inr ⟨la,rfl,e.1 _ _ (b la (by simp [ay])) h⟩
theorem br.ext {α:Type} {f:α->List AV} {sz:Nat} {s s':AS} {v:AV} {l:List α} (h:br f sz s v l) (e:Ext s s'):br f sz s' v l:=h.mut (L:=[]) e.mut (by simp)
theorem br.sl {α:Type} {f:α->List AV} {sz:Nat} (b:∀ x,(f x).length=sz) {s:AS} {v:AV} {l:List α} (h:br f sz s v l):Sl f sz s v l:=by
 rcases h with ⟨rfl,a,rfl⟩ | ⟨la,rfl,h⟩
 ·exact Sl.nil
 ·exact cq.mk ⟨_,_,h⟩ (d_ b l) (by rw [List.drop_zero,List.take_of_length_le (by rw [d_ b];exact Nat.le_refl _)])
section
variable {T:TT} {t el:TypeId} {sz ql:Nat} (ht:Bx T t el sz ql)
include ht
theorem kh {c:List AV} (e:c.length=sz) (j:c.all AV.one=true):cV T t 1 [(0,.agg c)]=some c:=by
 obtain ⟨z,zc,l,d,i⟩:=ht.zr;have m:=ht.pos;have hs:=ht.small;simp only [cV,ht.u,ht.z,l,d,Option.bind_some];rw [if_pos ⟨i,by omega⟩];have h2:bI (.agg c)=some c:=by simp [bI,AV.cells,j]
 have b:(rep 1 zc).length=sz:=by simp [rep,i]
 simp only [jc,h2,Nat.zero_mul,Nat.zero_add,e,b,true_and,Nat.le_refl,if_true];congr 1;apply List.ext_getElem?;intro k;rw [jH _ _ _ _ (by rw [b,e];omega)];by_cases n:k<sz
 ·rw [if_pos (by omega)];simp
 ·rw [if_neg (by omega),List.getElem?_eq_none (by omega),List.getElem?_eq_none (by omega)]
theorem Ku {v:AV} (c:sz=1) (hv:v.one=true):cV T t 1 [(0,v)]=some [v]:=by
 obtain ⟨z,zc,j,d,e⟩:=ht.zr;simp only [cV,ht.u,ht.z,j,d,Option.bind_some];subst c;rw [if_pos ⟨e,by omega⟩];have h2:bI v=some [v]:=by cases v <;> first | rfl | cases hv
 have b:(rep 1 zc).length=1:=by simp [rep,e]
 simp only [jc,h2,Nat.zero_mul,Nat.zero_add,List.length_cons,List.length_nil,b,true_and,Nat.le_refl,if_true];congr 1
 match i:rep 1 zc with
 | []=>rw [i] at b;simp at b
 | [x]=>rfl
 | x::y::r=>rw [i] at b;simp at b
theorem zW:cV T t 0 []=some []:=by
 obtain ⟨z,zc,c,b,d⟩:=ht.zr;simp only [cV,ht.u,ht.z,c,b,Option.bind_some];rw [if_pos ⟨d,by omega⟩];simp [jc,rep]
theorem cq.src {s:AS} {v:AV} {n:Nat} {cs:List AV} (h:cq s v sz cs n):mX sz n s v=some cs/\CT v=some n:=by
 rcases h with ⟨rfl,rfl,rfl⟩ | ⟨a,c,e,rfl,d,h3⟩
 ·exact ⟨rfl,rfl⟩
 ·obtain ⟨d,_⟩:=d;refine ⟨?_,rfl⟩;by_cases i:n=0
  ·subst i;obtain rfl:cs=[]:=List.length_eq_zero_iff.1 (by simpa using d);rcases a with _ | ⟨l,o⟩
   ·rfl
   ·simp [mX]
  ·rcases h3 with h3 | ⟨la,o,C,rfl,j,b⟩
   ·exact absurd h3 i
   ·have hlen:=congrArg List.length b;rw [List.length_take,List.length_drop,d] at hlen;have k:=ht.pos;have:0<n*sz:=Nat.mul_pos (by omega) k;simp only [mX,if_neg i];rw [j.aD (by omega),b]
theorem jJ {base:Option (Nat×Nat)} {len cap n:Nat} {ex:Bool} {x:AV} {new:List AV} {s:AS} {xt:TypeId} (i:T.cR xt=some (.slice el)) (hlen:CT x=some n) (d:mX sz n s x=some new) (e:new.length=n*sz) (hb:len+n<=2 ^ 30) :
  aI T t xt (.slc base len cap ex) x s=if len+n<=cap then
    (match base with
     | none=>some (.slc none (len+n) cap ex,s)
     | some (l,o) =>
      if new=[] then some (.slc base (len+n) cap ex,s)
      else (cK s l (o+len*sz) new).map fun s'=>(.slc base (len+n) cap ex,s'))
   else
    (mX sz len s (.slc base len cap ex)).bind fun old =>
     if ex then some (.slc (some (s.nl,0)) (len+n) (len+n) false,s.new (.cells (old++new) sz false))
     else match base with
      | none=>none
      | some (l,o) =>
       match s.h l with
       | some (.cells cs g false) =>
        if g=sz/\sz≠0/\o+cap*sz=cs.length then
         some (.slc (some (s.nl,0)) (len+n) (len+n) false,(s.kill l).new (.cells (old++new) sz false))
        else none
       | _=>none:=by
 obtain ⟨z,zc,p,j,r⟩:=ht.zr;obtain ⟨w,k⟩:=ht.small;have c:(match TypeDesc.slice el with | .int _=>true | _=>false)=false:=rfl;have m:¬ (zc.length≠sz\/new.length≠n*sz\/2 ^ 40<len+n\/2*((len+n+256)*ql)>2 ^ 48):=by
  have:(len+n+256)*ql<=(2 ^ 30+256)*65536:=Nat.mul_le_mul (by omega) k;rw [r,e];omega
 simp only [aI,ht.u,i,c,Bool.false_eq_true,if_false,ht.z,ht.b,p,j,Option.bind_some,hlen,d];rw [if_neg m];rfl
theorem br.append {α:Type} {f:α->List AV} (A:∀ x,(f x).length=sz) (B:∀ x,(f x).all AV.one=true) {s:AS} (e:aM s) {v x:AV} {l xs:List α} (h:br f sz s v l) (C:Sl f sz s x xs) (hb:l.length+xs.length<=2 ^ 30) {xt:TypeId} (m:T.cR xt=some (.slice el)) :
  ∃ v' s',aI T t xt v x s=some (v',s')/\br f sz s' v' (l++xs)/\bD (ay v) s s'/\aM s'/\(∀ la∈ay v',la∈ay v\/s.h la=none):=by
 have H:=ht.pos;obtain ⟨c,hlen⟩:=cq.src ht C;have i:=d_ A xs;have w:=e.1;have z:xs.flatMap f=[]↔xs=[]:=by
  rw [<- List.length_eq_zero_iff,i,<- List.length_eq_zero_iff];constructor
  ·intro h;rcases Nat.mul_eq_zero.1 h with h | h <;> omega
  ·intro h;rw [h,Nat.zero_mul]
 rcases h with ⟨rfl,a,rfl⟩ | ⟨la,rfl,j⟩
 ·rw [jJ ht m hlen c i (by simpa using hb)];by_cases n:xs=[]
  ·subst n;refine ⟨.slc a 0 0 true,s,?_,by simpa using br.nil,bD.refl _ _,e,fun la h=>.inl h⟩;rw [if_pos (by simp)];rcases a with _ | ⟨l,o⟩ <;> simp
  ·have p:0<xs.length:=List.length_pos_iff.2 n;have d:=e.new (o:=.cells (xs.flatMap f) sz false) rfl;refine ⟨.slc (some (s.nl,0)) xs.length xs.length false,s.new (.cells (xs.flatMap f) sz false),?_,.inr ⟨s.nl,by simp,by simpa using d.at⟩,d.ext.mut,d.wf,fun la h=>?_⟩
   ·rw [if_neg (by omega)];have:mX sz 0 s (.slc a 0 0 true)=some []:=by rcases a with _ | ⟨l,o⟩ <;> rfl
    rw [this];simp
   ·simp only [ay,List.mem_singleton] at h;subst h;exact .inr e.none
 ·have b:=d_ A l;have hold:mX sz l.length s (.slc (some (la,0)) l.length l.length false)=some (l.flatMap f):=by
   by_cases r:l.length=0
   ·rw [List.length_eq_zero_iff.1 r];simp [mX]
   ·simp only [mX,if_neg r];rw [um j (by rw [b];omega),List.drop_zero,List.take_of_length_le (by rw [b];exact Nat.le_refl _)]
  rw [jJ ht m hlen c i hb];by_cases n:xs=[]
  ·subst n;refine ⟨.slc (some (la,0)) l.length l.length false,s,?_,by rw [List.append_nil];exact Or.inr ⟨la,rfl,j⟩,bD.refl _ _,e,fun la h=>.inl h⟩;rw [if_pos (by simp)];simp
  ·have p:0<xs.length:=List.length_pos_iff.2 n;have D:aM (s.kill la):=by
    refine ⟨w,fun k=>?_⟩;rw [AS.rX,AS.nY,AS.DU];split
    ·rfl
    ·exact e.2 k
   have d:=D.new (o:=.cells (l.flatMap f++xs.flatMap f) sz false) rfl;refine ⟨.slc (some (s.nl,0)) (l.length+xs.length) (l.length+xs.length) false,(s.kill la).new (.cells (l.flatMap f++xs.flatMap f) sz false),?_,.inr ⟨s.nl,by simp,by rw [List.flatMap_append];exact d.at⟩,⟨fun y o F G=>d.ext.1 y o ?_,d.ext.2⟩,d.wf,fun la h=>?_⟩
   ·rw [if_neg (by omega),hold];simp only [Option.bind_some,j,Nat.zero_add,b,Bool.false_eq_true,if_false];rw [if_pos ⟨trivial,by omega,trivial⟩]
   ·rw [AS.rX,if_neg (by simpa [ay] using F)];exact G
   ·simp only [ay,List.mem_singleton] at h;subst h;exact .inr e.none
end
structure aU {α:Type} (f:α->List AV) (sz:Nat) (M:List Nat) (s0 s:AS) (v:AV) (l:List α):Prop where
 vq:br f sz s v l
 eL:bD M s0 s
 new:∀ la∈ay v,s0.h la=none
theorem aU.nil {α:Type} {f:α->List AV} {sz:Nat} {M:List Nat} {s:AS} {a:Option (Nat×Nat)}:aU f sz M s s (.slc a 0 0 true) ([]:List α):=⟨br.nil,bD.refl _ _,by simp [ay]⟩
theorem aU.start {α:Type} {f:α->List AV} {sz:Nat} {M:List Nat} {s0 s:AS} {a:Option (Nat×Nat)} (h:bD M s0 s):aU f sz M s0 s (.slc a 0 0 true) ([]:List α):=⟨br.nil,h,by simp [ay]⟩
theorem Ext.none {s s':AS} (h:Ext s s') {l:Nat} (b:s'.h l=none):s.h l=none:=by
 cases c:s.h l with
 | none=>rfl
 | some o=>rw [h.1 l o c] at b;cases b
theorem bD.fresh {M:List Nat} {s s':AS} (h:bD M s s') (c:∀ x∈M,s'.h x≠none) {l:Nat} (b:s'.h l=none):s.h l=none:=by
 cases d:s.h l with
 | none=>rfl
 | some o =>
  by_cases hm:l∈M
  ·exact absurd b (c l hm)
  ·rw [h.1 l o hm d] at b;cases b
section
variable {α:Type} {f:α->List AV} {sz:Nat} {M:List Nat} {s0 s s':AS} {v:AV} {l:List α}
theorem aU.step (h:aU f sz M s0 s v l) (e:Ext s s'):aU f sz M s0 s' v l:=⟨h.vq.ext e,h.eL.trans e.mut,h.new⟩
theorem aU.wr (h:aU f sz M s0 s v l) (b:∀ x∈M,s0.h x≠none) (e:bD M s s'):aU f sz M s0 s' v l :=
 ⟨h.vq.mut e fun x c hm=>b x hm (h.new x c),h.eL.trans e,h.new⟩
theorem aU.iX (h:aU f sz M s0 s v l):v≠.emp/\v.one=true:=by
 rcases h.vq with ⟨_,a,rfl⟩ | ⟨la,rfl,_⟩ <;> exact ⟨(fun e=>by cases e),rfl⟩
theorem aU.sl (b:∀ x,(f x).length=sz) (h:aU f sz M s0 s v l):Sl f sz s v l:=h.vq.sl b
end
section
variable {T:TT} {t el:TypeId} {sz ql:Nat} (ht:Bx T t el sz ql)
include ht
theorem aU.kK {α:Type} {f:α->List AV} (k:∀ x,(f x).length=sz) (b:∀ x,(f x).all AV.one=true) {M:List Nat} {s0 s:AS} (m:aM s) {v x:AV} {l xs:List α} (h:aU f sz M s0 s v l) (n:∀ x∈M,s.h x≠none) (p:Sl f sz s x xs) (hb:l.length+xs.length<=2 ^ 30) {xt:TypeId} (c:T.cR xt=some (.slice el))
  {K:AV->AS->Prop} (r:∀ v' s',aU f sz M s0 s' v' (l++xs)->aM s'->bD (ay v) s s'->K v' s'):iD (aI T t xt v x s) K:=by
 obtain ⟨v',s',w,h2,h3,h4,z⟩:=br.append ht k b m h.vq p hb c;refine ⟨v',s',w,r v' s' ⟨h2,⟨fun y o d e=>h3.1 y o (fun hm=>?_) (h.eL.1 y o d e),Nat.le_trans h.eL.2 h3.2⟩,fun la i=>?_⟩ h4 h3⟩
 ·rw [h.new y hm] at e;cases e
 ·rcases z la i with j | j
  ·exact h.new la j
  ·exact h.eL.fresh n j
theorem aU.iY {α:Type} {f:α->List AV} (c:∀ x,(f x).length=sz) (b:∀ x,(f x).all AV.one=true) {M:List Nat} {s0 s:AS} (e:aM s) {v:AV} {l:List α} (h:aU f sz M s0 s v l) (i:∀ x∈M,s.h x≠none) (x:α) (hb:l.length+1<=2 ^ 30)
  {K:AV->AS->Prop} (j:∀ v' s',aU f sz M s0 s' v' (l++[x])->aM s'->bD (ay v) s s'->K v' s'):aR (cV T t 1 [(0,.agg (f x))]) fun g=>aj (.cells g 0 false) s fun la s1=>iD (aI T t t v (.slc (some (la,0)) 1 1 true) s1) K:=by
 refine ⟨_,kh ht (c x) (b x),aj.intro e rfl fun la s1 F=>?_⟩;have d:∀ x∈M,s1.h x≠none:=fun x k n=>i x k (F.ext.none n);refine aU.kK ht c b F.wf (h.step F.ext) d (xs:=[x]) (cq.mk F.own.at (by simp [c]) (by simp [List.take_of_length_le,c])) (by simpa using hb) ht.u fun v' s' g w m=>j v' s' g w (F.ext.mut.trans m)
theorem aU.Kv {α:Type} {f:α->AV} (b:sz=1) (c:∀ x,(f x).one=true) {M:List Nat} {s0 s:AS} (e:aM s) {v:AV} {l:List α} (h:aU (fun x=>[f x]) sz M s0 s v l) (i:∀ x∈M,s.h x≠none) (x:α) (hb:l.length+1<=2 ^ 30)
  {K:AV->AS->Prop} (j:∀ v' s',aU (fun x=>[f x]) sz M s0 s' v' (l++[x])->aM s'->bD (ay v) s s'->K v' s'):aR (cV T t 1 [(0,f x)]) fun g=>aj (.cells g 0 false) s fun la s1=>iD (aI T t t v (.slc (some (la,0)) 1 1 true) s1) K:=by
 refine ⟨_,Ku ht b (c x),aj.intro e rfl fun la s1 F=>?_⟩;have d:∀ x∈M,s1.h x≠none:=fun x k n=>i x k (F.ext.none n);refine aU.kK ht (by simp [b]) (by simp [c]) F.wf (h.step F.ext) d (xs:=[x]) (cq.mk F.own.at (by simp [b]) (by simp [b])) (by simpa using hb) ht.u fun v' s' g w m=>j v' s' g w (F.ext.mut.trans m)
end
theorem cM {T:TT} {t:TypeId} {s:AS} {l off:Nat} {v:AV} {K:AS->Prop} (hv:v.one=true) (hs:T.eU t=some 1) (h:bt (cK s l off [v]) K):fu T t s l off v K:=by
 unfold fu;split
 ·cases hv
 ·cases hv
 ·cases hv
 ·rw [hs];exact h
theorem lq {zc g:List AV} {n:Nat} {s:AS} {K:Nat->AS->Prop} (e:aM s) (i:g.length=n) (k:zc.length=n) (j:g.all AV.one=true) (h:∀ l s',qy s s' l (.cells g 0 false)->K l s') :
  aj (.cells zc 0 false) s fun l s1=>fh (some n) g (bt (cK s1 l 0 g) fun s2=>K l s2):=by
 refine aj.intro e rfl fun l s1 F=>⟨⟨j,by rw [i]⟩,bt.own F.wf F.own (by omega) fun s2 P=>h l s2 ?_⟩;have b:s2.h l=some (.cells g 0 false):=by rw [P.at,dz (by omega)]
 exact ⟨b,⟨fun x o c=>by rw [P.eq x (F.ne c)];exact F.ext.1 x o c,by rw [P.nl];exact F.ext.2⟩,P.wf,F.no,fun x d=>by rw [P.eq x d,F.eq x d],by rw [P.nl];exact F.nl,by rw [P.st,F.st]⟩
end Go.Am
end

section
namespace Go.Am
def triples (d:Option TypeDesc):Option (List (Bool×TypeId×Nat)):=match d with
 | some (.struct fs) => some (fs.toList.map fun f => (f.name == "_", f.type, f.offset))
 | _=>none
def EK (T:TT) (eqv:TypeId->AV->AV->Option Bool) (xs ys:List AV):List (Bool×TypeId×Nat)->Option Bool
 | []=>some true
 | f::fs=>bif f.1 then EK T eqv xs ys fs else
   (part T f.2.1 xs f.2.2).bind fun a=>(part T f.2.1 ys f.2.2).bind fun b =>
    match eqv f.2.1 a b with
    | some true=>EK T eqv xs ys fs
    | r=>r
theorem zX {T : TT} {eqv : TypeId -> AV -> AV -> Option Bool} {xs ys : List AV} : ∀ (fs : List Field), eqFields T eqv xs ys fs = EK T eqv xs ys (fs.map fun f => (f.name == "_", f.type, f.offset))
 | []=>rfl
 | f::fs=>by
  simp only [eqFields,List.map_cons,EK];have c:=zX (T:=T) (eqv:=eqv) (xs:=xs) (ys:=ys) fs;rw [c];by_cases h : f.name = "_"
  ·simp [h]
  ·have : (f.name == "_") = false := by simpa using h
   simp only [ne_eq,h,not_false_eq_true,if_true,this,cond_false]
   first
    | done
    | (congr 1;done)
    | (congr 1;funext a;congr 1;funext b;cases eqv f.type a b with
     | none=>rfl
     | some x=>cases x <;> rfl)
theorem Ov {T:TT} {t:TypeId} {l:List (Bool×TypeId×Nat)} (h:triples (T.cR t)=some l) (b:T.S8 t=true) (d:Nat) (xs ys:List AV):iB T (d+1) t (.agg xs) (.agg ys)=EK T (iB T d) xs ys l:=by
 unfold triples at h;split at h
 ·rename_i fs hu;obtain rfl:=Option.some.inj h;simp only [iB,hu,b,if_true,zX]
 ·cases h
theorem Rh {T:TT} {t:TypeId} {k k':IntKind} (hu:T.cR t=some (.int k)) (d:Nat) (a b:Int):iB T (d+1) t (.int k' a) (.int k' b)=some (a==b):=by simp [iB,hu]
theorem Ri {T:TT} {t:TypeId} (hu:T.cR t=some .string) (d:Nat) (a b:List UInt8):iB T (d+1) t (.str a) (.str b)=some (a==b):=by simp [iB,hu]
theorem By {T:TT} {t:TypeId} (h:T.agg t=some false) (cs:List AV) (o:Nat):part T t cs o=cs[o]? := by simp [part,h]
theorem uw {T:TT} {t e:TypeId} {n sz:Nat} (hu:T.cR t=some (.array n e)) (hs:T.eU e=some sz) {l o:Nat} {k:IntKind} {i:Int} (h:0<=i/\i<n):ag T t (.ptr (some (l,o))) (.int k i)=some (.ptr (some (l,o+i.toNat*sz))):=by
 simp only [ag,hu,hs,Option.bind_some,if_pos h]
theorem dn {T:TT} {t e:TypeId} (hu:T.cR t=some (.pointer e)) (a:Option (Nat×Nat)):iB T 100 t (.ptr a) (.ptr none)=some a.isNone:=by
 cases a <;> simp [iB,hu]
theorem rE {T:TT} {t e:TypeId} (hu:T.cR t=some (.slice e)) (c:Bool) (a:Option (Nat×Nat)) (n m n' m':Nat) (ex b:Bool):Qu T t c (.slc a n m ex) (.slc none n' m' b)=some a.isNone:=by
 cases a <;> simp [Qu,Pe,iB,hu]
theorem rF {T:TT} {t e:TypeId} (hu:T.cR t=some (.slice e)) (c:Bool) (n' m':Nat) (b:Bool):Qu T t c .emp (.slc none n' m' b)=some false:=by
 simp [Qu,Pe,iB,hu]
theorem Tn {cs vs:List AV} (h:vs.length=cs.length):qk cs 0 vs=vs:=by
 apply List.ext_getElem?;intro k;rw [jH _ _ _ _ (by omega)];by_cases b:k<vs.length
 ·rw [if_pos (by omega),Nat.sub_zero]
 ·rw [if_neg (by omega),List.getElem?_eq_none (by omega),List.getElem?_eq_none (by omega)]
theorem fy {cs:List AV} {o:Nat} {v:AV}:qk cs o [v]=cs.set o v:=rfl
end Go.Am
namespace Go.Am
/-! ### a struct built of its parts -/
def places (T:TT) (t:TypeId):Option (List (Nat×Nat)):=match T.cR t with
 | some (.struct fs)=>if fs.all (fun f=>(T.eU f.type).isSome) then some (fs.toList.map fun f=>(f.offset,(T.eU f.type).getD 0)) else none
 | _=>none
theorem qp {T:TT} {t:TypeId} {pl:List (Nat×Nat)} {z:AV} {zc:List AV} (h:places T t=some pl) (j:T.rY t=some z) (c:bI z=some zc) (parts:List (Nat×AV)):aS T t parts=(jc (fun i=>pl[i]?) zc parts).map .agg:=by
 unfold places at h;split at h
 ·rename_i fs hu;split at h
  ·rename_i b;obtain rfl:=Option.some.inj h;simp only [aS,j,c,Option.bind_some,hu,b,if_true];congr 2;funext i;simp only [List.getElem?_map];cases d:fs[i]? with
   | none=>simp [show fs.toList[i]? = none by simpa using d]
   | some f =>
    have e:fs.toList[i]? = some f:=by simpa using d
    have hm:f∈fs:=Array.mem_of_getElem? d;have:=Array.all_eq_true'.1 b f hm;obtain ⟨n,k⟩:=Option.isSome_iff_exists.1 this;simp [e,k]
  ·cases h
 ·cases h
theorem Ih (pre mid b post:List AV) (h:b.length=mid.length):qk (pre++mid++post) pre.length b=pre++b++post:=by
 apply List.ext_getElem?;intro k;rw [jH _ _ _ _ (by simp;omega)];by_cases c:k<pre.length
 ·rw [if_neg (by omega),List.append_assoc,List.append_assoc,List.getElem?_append_left c,List.getElem?_append_left c]
 ·by_cases h2:k<pre.length+b.length
  ·rw [if_pos (by omega),List.append_assoc,List.getElem?_append_right (by omega),List.getElem?_append_left (by omega)]
  ·rw [if_neg (by omega),List.append_assoc,List.append_assoc,List.getElem?_append_right (by omega),List.getElem?_append_right (by omega),List.getElem?_append_right (by omega),List.getElem?_append_right (by omega),h]
theorem nj {pl:Nat->Option (Nat×Nat)} {pre mid post c:List AV} {i sz:Nat} {v:AV} {rest:List (Nat×AV)} (b:pl i=some (pre.length,sz)) (d:bI v=some c) (e:c.length=sz) (h2:mid.length=sz) :
  jc pl (pre++mid++post) ((i,v)::rest)=jc pl (pre++c++post) rest:=by
 simp only [jc,b,d];rw [if_pos ⟨e,by simp;omega⟩,Ih _ _ _ _ (by omega)]
end Go.Am
end

section
namespace Go.au
def el (l:List aJ) (i:Nat):aJ:=l.getD i ⟨0,0⟩
theorem yJ {l:List aJ} {i:Nat} (h:i<l.length):l[i]? = some (el l i):=by
 rw [el,List.getD_eq_getElem?_getD,List.getElem?_eq_getElem h];rfl
def aJ.le (x y:aJ):Prop:=y.lt x=false
theorem aJ.le_iff {x y:aJ}:x.le y↔x.r<y.r\/x.r=y.r/\x.c<=y.c:=by
 unfold aJ.le;rw [<- Bool.not_eq_true,aJ.lt_iff];omega
theorem aJ.le_trans {a b c:aJ} (h:a.le b) (d:b.le c):a.le c:=by rw [aJ.le_iff] at *;omega
theorem aJ.le_refl (a:aJ):a.le a:=by rw [aJ.le_iff];omega
theorem aJ.zV {a b:aJ} (h:a.lt b=true):a.le b:=by rw [aJ.lt_iff] at h;rw [aJ.le_iff];omega
def CL (l:List aJ) (a b:Nat):Prop:=∀ i j,a<=i->i<j->j<b->(el l i).le (el l j)
end Go.au
end

section
namespace Go.au
end Go.au
end

section
namespace Go.Am
theorem aa.extern {P : Program} {g : FuncId} {fn : Func} {e : Array Value -> Sem Value} (d : P.funcs[g]? = some fn) (c : (fn.name == "runtime.NumGoroutine") = false) (hb : fn.body.isNone = true) (i : Extern.findNext fn = none) (j : Extern.find fn = some e)
  {args:List AV} {s:AS} {R:AV->AS->Prop} (h:∀ (B:Nat) (γ:bM) (b:Array Value) (w:World),ak γ args b.toList->Rel B γ s w ->
   ∃ γ' v cv s' w',(e b).run P w=.ok cv w'/\ai γ' v cv/\fM B γ s w γ' s' w'/\Rel B γ' s' w'/\R v s'):aa P g args s R:=by
 intro B γ b w k h2;obtain ⟨γ',v,cv,s',w',hr,hv,hd,hr',l⟩:=h B γ b w k h2;refine .inr ⟨cv,w',?_,γ',v,cv,s',rfl,hv,hd,hr',l⟩;rw [run_callFunc_extern d c hb i j,hr];rfl
theorem CY {P : Program} {T : TT} (hT : TT.Ok P T) {g : FuncId} {fn : Func} {t tR elem : TypeId} {size : Nat} (U : P.funcs[g]? = some fn) (i : (fn.name == "runtime.NumGoroutine") = false) (hb : fn.body.isNone = true) (W : Extern.findNext fn = none)
  (X:Extern.find fn=some (Extern.SlicesOverlaps.overlaps #[t,t] #[tR])) (hu:T.cR t=some (.slice elem)) (hs:T.eU elem=some size)
  {s:AS} {la oa na ca lb ob nb cb:Nat} {ea eb:Bool} {C j:List AV} {O Y:Nat} {Z:Bool} (Q:s.h la=some (.cells C O false)) (hg:O≠1) (l:s.h lb=some (.cells j Y Z)) (D:j≠[]) (F:la≠lb) :
  aa P g [.slc (some (la,oa)) na ca ea,.slc (some (lb,ob)) nb cb eb] s fun v s'=>v=.bool false/\s'=s:=by
 refine aa.extern U i hb W X ?_;intro B γ k w c hr;obtain ⟨c1,r1,e1,R,c⟩:=ak.cD.1 c;obtain ⟨c2,r2,rfl,h2,c⟩:=ak.cD.1 c;obtain rfl:=ak.gV.1 c;simp only [ai] at R h2;obtain ⟨m,n,rfl⟩:=R;obtain ⟨o,p,rfl⟩:=h2;have G:k=#[.slice (some ⟨m.b,m.d+oa,none⟩) na (if ea then ca else ca+m.x),.slice (some ⟨o.b,o.d+ob,none⟩) nb (if eb then cb else cb+o.x)]:=by
  apply Array.ext';rw [e1]
 subst G;obtain ⟨ja,r,H,_⟩:=hr.obj la _ Q;rw [n] at r;obtain rfl:=Option.some.inj r;obtain ⟨jb,y,I,_⟩:=hr.obj lb _ l;rw [p] at y;obtain rfl:=Option.some.inj y;have z:m.b≠o.b:=fun e=>F (hr.inj la lb _ _ m o Q l rfl n p e);obtain ⟨cA,eA,ab,J,_,_,_,K⟩:=H;obtain ⟨S,eB,ad,hB,L,_⟩:=I;obtain rfl:=(K rfl).1 hg;have M:S.size≠0:=by
  cases j with
  | nil=>exact absurd rfl D
  | cons x xs =>
   obtain ⟨_,cv,A,_⟩:=L 0 x rfl;intro h0;rw [Array.getElem?_eq_none (by omega)] at A;cases A
 refine ⟨γ,.bool false,.bool false,s,w,?_,by simp [ai],fM.refl,hr,rfl,rfl⟩;exact Lib.run_overlaps_apart w t tR elem (hT.cR t _ hu) size (run_sizeOf hT hs) _ _ _ _ _ _ z eA eB cA.size S.size (by simp [World.shape?,J]) (by simp [World.shape?,hB]) M (by simp [World.frozen?,J]) (by simp [World.frozen?,J])
theorem Ow {B:Nat} {γ γ':bM} {s s' s'':AS} {w w':World} (hd:fM B γ s w γ' s' w') (hr:Rel B γ' s' w') {F L:Nat} {O M:AO} {i i2:CI}
  (c:∀ k o,k≠F->s''.h k=some o->s'.h k=some o) (hF:s''.h F=some O) (X:s'.h L=some M) (am:O.ro=false) (m:M.ro=false) (n:L=F\/s''.h L=none) (hi:γ' L=some i) (A:i2.b=i.b) (hO:kO γ' w' i2 O)
  (Z:∃ k,F=s'.nl+k*s.st) (H:s''.st=s.st) (D:s''.nl=F+s.st) (Q:s''.lay=s.lay) (R:∀ l o,s''.cur.get l=some o->o.live=true->o.ro=true->s.cur.get l=some o) :
  Rel B (gX γ' F i2) s'' w'/\fM B γ s w (gX γ' F i2) s'' w':=by
 obtain ⟨k,hk⟩:=Z;have r:=hd.st;have ab:γ' F=none:=by rw [hk,<- r];exact hr.fin k
 have hle:bM.le γ' (gX γ' F i2):=bM.tZ ab;have S:1<=s.st:=by rw [<- r];exact hr.QC
 have U:∃ k,F=s.nl+k*s.st:=by
  obtain ⟨k',I⟩:=hd.nl;exact ⟨k'+k,by rw [hk,I,Nat.add_mul,Nat.add_assoc]⟩
 have W:∀ x j,x≠F->gX γ' F i2 x=some j->γ' x=some j:=by
  intro x j d h;simpa [gX,d] using h
 refine ⟨⟨fun x p z=>?_,fun x y p q a b z Y C G hb J=>?_,fun j=>?_,by rw [H];exact S,hr.base⟩,
  ⟨bM.le_trans hd.le hle,hd.Uj,hd.eU,fun x p a z C G=>?_,?_,H,Q,fun x h1 h2=>?_,R,hd.env⟩⟩
 ·by_cases d:x=F
  ·subst d;rw [hF] at z;obtain rfl:=Option.some.inj z;refine ⟨i2,cg _ _ _,hO.mono hle,fun _=>?_⟩;obtain ⟨j,hj,_,hB⟩:=hr.obj L M X;rw [hi] at hj;obtain rfl:=Option.some.inj hj;rw [A];exact hB m
  ·obtain ⟨j,hj,ad,hB⟩:=hr.obj x p (c x p d z);exact ⟨j,hle _ _ hj,ad.mono hle,hB⟩
 ·by_cases d:x=F <;> by_cases K:y=F
  ·rw [d,K]
  ·exfalso;subst d;rw [cg] at G;obtain rfl:=Option.some.inj G;have ae:=W y b K hb;have:=hr.inj L y M q i b X (c y q K Y) m hi ae (by rw [<- A];exact J);subst this;rcases n with h | h
   ·exact K h
   ·rw [h] at Y;cases Y
  ·exfalso;subst K;rw [cg] at hb;obtain rfl:=Option.some.inj hb;have al:=W x a d G;have:=hr.inj x L p M a i (c x p d z) X C al hi (by rw [<- A];exact J);subst this;rcases n with h | h
   ·exact d h
   ·rw [h] at z;cases z
  ·exact hr.inj x y p q a b (c x p d z) (c y q K Y) C (W x a d G) (W y b K hb) J
 ·rw [D,H];have e:F+s.st+j*s.st=s'.nl+(k+(j+1))*s.st:=by rw [hk,Nat.add_mul,Nat.add_mul,Nat.one_mul];omega
  simp only [gX];rw [if_neg (by omega),e,<- r];exact hr.fin _
 ·by_cases d:x=F
  ·subst d;rw [cg] at G;obtain rfl:=Option.some.inj G;rw [A];exact hd.new L M i X m hi
  ·exact hd.new x p a (c x p d z) C (W x a d G)
 ·obtain ⟨k',I⟩:=U;exact ⟨k'+1,by rw [D,I,Nat.add_mul,Nat.one_mul,Nat.add_assoc]⟩
 ·by_cases d:x=F
  ·rw [d];exact U
  ·exact hd.dom x h1 (by simpa [gX,d] using h2)
def AS.CZ (s:AS) (l K:Nat) (o:AO):AS:={ s with cur:=(s.cur.set l .dead).set (s.nl+K*s.st) o,nl:=s.nl+K*s.st+s.st }
theorem AS.Bz (s:AS) (l K:Nat) {o:AO} (b:o.live=true) (x:Nat):(s.CZ l K o).h x=if x=s.nl+K*s.st then some o else if x=l then none else s.h x:=by
 have c:(s.CZ l K o).h x=((s.kill l).put (s.nl+K*s.st) o).h x:=rfl;rw [c,AS.oq _ _ b,AS.rX]
theorem aa.UN {P : Program} {g : FuncId} {l o len cap n K sz : Nat} {cs cs' : List AV} {post : List AV} {s : AS} (hl : s.h l = some (.cells cs sz false)) (am : sz ≠ 0) (bk : o + cap * sz = cs.length)
    (h : ∀ x C, C.length = x * sz -> C.all AV.one = true -> (∀ k, s.h (s.nl + k * s.st) = none) -> aa P g (.slc (some (s.nl, o)) len (cap + x) true :: post) ((s.kill l).new (.cells (cs ++ C) sz false)) fun v s' =>
      (∃ k, k <= K /\ s'.nl = s.nl + k * s.st) /\ (∀ k ob, k ≠ l -> s.h k = some ob -> s'.h k = some ob) /\
      ((v = .slc (some (s.nl, o)) n (cap + x) true /\ n <= cap + x /\ ∃ D, s'.h s.nl = some (.cells D sz false) /\ D.length = cs.length + x * sz /\ (D.drop o).take (n * sz) = cs') \/
       (∃ L, v = .slc (some (L, 0)) n n false /\ s.h L = none /\ s'.h L = some (.cells cs' sz false) /\ cs'.length = n * sz))) :
    aa P g (.slc (some (l, o)) len cap false :: post) s fun v s' => v = .slc (some (s.nl + K * s.st, 0)) n n false /\ s' = s.CZ l K (.cells cs' sz false) := by
  intro B γ G w U hr;obtain ⟨i, hi, hO, hB⟩ := hr.obj l _ hl;obtain ⟨c, e, fz, hb, hc, hf, hg, an⟩ := hO;obtain ⟨bl, a2⟩ := hg am;have W : ∀ j : Fin (i.x * sz), ∃ v, v.one = true /\ ∃ cv, c[i.d + cs.length + j.1]? = some cv /\ ai γ v cv := by
    intro j;obtain ⟨v, cv, y, h2, h3⟩ := a2 (i.d + cs.length + j.1) (by omega) (by have := j.2; omega);exact ⟨v, y, cv, h2, h3⟩
  let C : List AV := List.ofFn fun j => Classical.choose (W j)
  have X : C.length = i.x * sz := by simp [C]
  have ao : ∀ (k : Nat) v, C[k]? = some v -> v.one = true /\ ∃ cv, c[i.d + cs.length + k]? = some cv /\ ai γ v cv := by
    intro k v r;have Y : k < i.x * sz := by
      rcases Nat.lt_or_ge k (i.x * sz) with h | h
      · exact h
      · rw [List.getElem?_eq_none (by omega)] at r; cases r
    have : C[k]? = some (Classical.choose (W ⟨k, Y⟩)) := by simp [C, List.getElem?_ofFn, Y]
    rw [this] at r; obtain rfl := Option.some.inj r;exact Classical.choose_spec (W ⟨k, Y⟩)
  have a3 : C.all AV.one = true := by
    rw [List.all_eq_true];intro v hv;obtain ⟨k, r⟩ := List.mem_iff_getElem?.1 hv;exact (ao k v r).1
  have hle : bM.le γ (gX γ s.nl ⟨i.b, i.d, 0⟩) := bM.tZ hr.JQ;have a4 : kO (gX γ s.nl ⟨i.b, i.d, 0⟩) w ⟨i.b, i.d, 0⟩ (.cells (cs ++ C) sz false) := by
    refine ⟨c, e, fz, hb, fun k v r => ?_, hf, fun _ => ⟨by simp only [List.length_append, X]; omega, fun k y h2 => ?_⟩, an⟩
    · rw [List.getElem?_append] at r;split at r
      · obtain ⟨y, cv, h2, h3⟩ := hc k v r;exact ⟨y, cv, h2, h3.mono hle⟩
      · obtain ⟨y, cv, h2, h3⟩ := ao _ v r;exact ⟨y, cv, by rw [<- h2]; simp only; congr 1; omega, h3.mono hle⟩
    · simp only [List.length_append, X] at y;omega
  have a5 : w.heap = w.heap.setIfInBounds i.b (.cells c e fz) := by
    apply Array.ext_getElem?;intro k;rw [Array.getElem?_setIfInBounds];have a6 := kO.lt (γ := γ) (o := .cells cs sz false) ⟨c, e, fz, hb, hc, hf, hg, an⟩;by_cases r : i.b = k
    · subst r; rw [if_pos rfl, if_pos a6, hb]
    · rw [if_neg r]
  obtain ⟨a7, a8⟩ := hr.take (w' := w) hl rfl rfl hi (i' := ⟨i.b, i.d, 0⟩) (o' := .cells (cs ++ C) sz false) rfl a5 a4;obtain ⟨c1, r1, e1, y, J⟩ := ak.cD.1 U;simp only [ai, Bool.false_eq_true, if_false] at y;obtain ⟨i', ap, rfl⟩ := y;rw [hi] at ap; obtain rfl := Option.some.inj ap;have z : ∀ k, s.h (s.nl + k * s.st) = none := by
    intro k;cases Z : s.h (s.nl + k * s.st) with
    | none => rfl
    | some p =>
      obtain ⟨j, hj, _⟩ := hr.obj _ p Z;rw [hr.fin k] at hj; cases hj
  have M : ak (gX γ s.nl ⟨i.b, i.d, 0⟩) (.slc (some (s.nl, o)) len (cap + i.x) true :: post) G.toList := by
    rw [e1];exact ak.cons (by simp only [ai]; exact ⟨_, cg _ _ _, by simp⟩) (J.mono hle)
  refine (h i.x C X a3 z B _ G w M a7).mono ?_;rintro e w' ⟨γ', v, cv, s', rfl, hv, hd, hr', ⟨k, bm, a9⟩, ab, ad⟩;have ar := a8.trans hd;have H : γ' s.nl = some ⟨i.b, i.d, 0⟩ := hd.le _ _ (cg _ _ _);have O : ∃ k, s.nl + K * s.st = s'.nl + k * s.st := ⟨K - k, by rw [a9, Nat.add_assoc, <- Nat.add_mul]; congr 2; omega⟩;have bo : s.h (s.nl + K * s.st) = none := z K;have Q : ∀ x ob, x ≠ s.nl + K * s.st -> (s.CZ l K (.cells cs' sz false)).h x = some ob -> s'.h x = some ob := by
    intro x ob hx m;rw [AS.Bz _ _ _ rfl, if_neg hx] at m;split at m
    · cases m
    · rename_i a'; exact ab x ob a' m
  have R : ∀ x ob, (s.CZ l K (.cells cs' sz false)).cur.get x = some ob -> ob.live = true -> ob.ro = true -> s.cur.get x = some ob := by
    intro x ob m y h2;simp only [AS.CZ, Tr.rA] at m;split at m
    · obtain rfl := Option.some.inj m; cases h2
    · split at m
      · obtain rfl := Option.some.inj m; cases y
      · exact m
  have hF : (s.CZ l K (.cells cs' sz false)).h (s.nl + K * s.st) = some (.cells cs' sz false) := by rw [AS.Bz _ _ _ rfl, if_pos rfl]
  rcases ad with ⟨rfl, hn, D, hL, bs, S⟩ | ⟨L, rfl, ba, hL, hlen⟩
  · obtain ⟨j, hj, ae, _⟩ := hr'.obj s.nl _ hL;rw [H] at hj; obtain rfl := Option.some.inj hj;obtain ⟨c2, e2, bb, aw, al, bc, bd, a0⟩ := ae;obtain ⟨a1, _⟩ := bd am;simp only at aw al a1;have hmul : n * sz <= (cap + i.x) * sz := Nat.mul_le_mul_right _ hn;have be : (cap + i.x) * sz = cap * sz + i.x * sz := Nat.add_mul _ _ _;have bh : (cap + i.x - n) * sz = (cap + i.x) * sz - n * sz := Nat.mul_sub_right_distrib _ _ _;have bi : cs'.length = n * sz := by rw [<- S, List.length_take, List.length_drop]; omega
    have bj : kO γ' w' ⟨i.b, i.d + o, cap + i.x - n⟩ (.cells cs' sz false) := by
      refine ⟨c2, e2, bb, aw, fun k v r => ?_, bc, fun _ => ⟨by simp only; omega, fun k y h2 => ?_⟩, a0⟩
      · rw [<- S, List.getElem?_take, List.getElem?_drop] at r;split at r
        · obtain ⟨y, cv, h2, h3⟩ := al _ v r;exact ⟨y, cv, by rw [<- h2]; simp only; congr 1; omega, h3⟩
        · cases r
      · simp only at y;obtain ⟨h3, cv, h4, h5⟩ := al (k - i.d) _ (List.getElem?_eq_getElem (show k - i.d < D.length by omega));exact ⟨_, cv, h3, by rw [<- h4]; congr 1; omega, h5⟩
    have A : s.nl = s.nl + K * s.st \/ (s.CZ l K (.cells cs' sz false)).h s.nl = none := by
      by_cases Z : s.nl = s.nl + K * s.st
      · exact .inl Z
      · right;rw [AS.Bz _ _ _ rfl, if_neg Z];split
        · rfl
        · have := z 0; simpa using this
    obtain ⟨g1, g2⟩ := Ow (s'' := s.CZ l K (.cells cs' sz false)) ar hr' (F := s.nl + K * s.st) (L := s.nl) Q hF hL rfl rfl A H (i2 := ⟨i.b, i.d + o, cap + i.x - n⟩) rfl bj O rfl rfl rfl R;simp only [ai, if_true] at hv;obtain ⟨i3, I, rfl⟩ := hv;rw [H] at I; obtain rfl := Option.some.inj I;refine ⟨_, _, _, _, rfl, ?_, g2, g1, rfl, rfl⟩;simp only [ai];refine ⟨_, cg _ _ _, ?_⟩;simp only [Bool.false_eq_true, if_false, Nat.add_zero];rw [show n + (cap + i.x - n) = cap + i.x by omega]
  · obtain ⟨j, hj, ae, _⟩ := hr'.obj L _ hL;have A : L = s.nl + K * s.st \/ (s.CZ l K (.cells cs' sz false)).h L = none := by
      by_cases Z : L = s.nl + K * s.st
      · exact .inl Z
      · right;rw [AS.Bz _ _ _ rfl, if_neg Z];split
        · rfl
        · exact ba
    obtain ⟨g1, g2⟩ := Ow (s'' := s.CZ l K (.cells cs' sz false)) ar hr' (F := s.nl + K * s.st) (L := L) Q hF hL rfl rfl A hj (i2 := j) rfl ae O rfl rfl rfl R;simp only [ai, Bool.false_eq_true, if_false] at hv;obtain ⟨i3, I, rfl⟩ := hv;rw [hj] at I; obtain rfl := Option.some.inj I;refine ⟨_, _, _, _, rfl, ?_, g2, g1, rfl, rfl⟩;simp only [ai];exact ⟨_, cg _ _ _, by simp⟩
end Go.Am
end

section
namespace Go.Am
open Go.ChangeShapes Go.WideShapes Go.Deep
/-! ### a table from a list -/
def Tr.V0 {α:Type} (F:Nat->α):List Nat->Tr α
 | []=>.E
 | x::xs=>(Tr.V0 F xs).set x (F x)
theorem Tr.Ox {α:Type} (F:Nat->α):∀ (l:List Nat) (x:Nat),(Tr.V0 F l).get x=if x∈l then some (F x) else none
 | [],x=>by simp [Tr.V0,Tr.get]
 | y::ys,x=>by
  simp only [Tr.V0,Tr.rA,Tr.Ox F ys x,List.mem_cons];by_cases h:x=y
  ·subst h;simp
  ·simp [h]
def blockSize:Obj->Nat
 | .cells c _ _=>c.size
 | _=>0
def V1:List Nat->Nat
 | []=>0
 | x::xs=>max x (V1 xs)
def MW (w:World):Nat:=V1 (w.heap.toList.map blockSize)+1
mutual
def nk (n M:Nat):Value->AV
 | .bool b=>.bool b
 | .int k x=>.int k x
 | .string s=>.str s.data.toList
 | .pointer none=>.ptr none
 | .pointer (some ⟨b,o,none⟩)=>if b<n/\o<M then .ptr (some (b*M+o,0)) else .bad
 | .slice none x y=>.slc none x y true
 | .slice (some ⟨b,o,none⟩) x y=>if b<n/\0<M then (if o<M then .slc (some (b*M+o,0)) x y true else .slc (some (b*M,o)) x y true) else if x=0 then .emp else .bad
 | .slice (some ⟨_,_,some _⟩) x _=>if x=0 then .emp else .bad
 | .map none=>.map none
 | .agg ⟨l⟩=>.agg (EL n M l)
 | .nilFunc=>.nilFunc
 | .nilIface=>.nilIface
 | _=>.bad
def EL (n M:Nat):List Value->List AV
 | []=>[]
 | v::vs=>nk n M v::EL n M vs
end
theorem Hl (n M:Nat):∀ l,EL n M l=l.map (nk n M)
 | []=>rfl
 | v::vs=>by simp [EL,Hl n M vs]
def gW (n M:Nat):bM:=fun x=>if x<n*M then some ⟨x / M,x % M,0⟩ else none
theorem Oy {b o M:Nat} (h:o<M):(b*M+o) / M=b/\(b*M+o) % M=o:=by
 rw [Nat.mul_comm];constructor
 ·rw [Nat.mul_add_div (by omega),Nat.div_eq_of_lt h,Nat.add_zero]
 ·rw [Nat.mul_add_mod,Nat.mod_eq_of_lt h]
theorem UO {b o n M:Nat} (hb:b<n) (h:o<M):b*M+o<n*M:=by
 have:(b+1)*M<=n*M:=Nat.mul_le_mul_right _ hb;rw [Nat.add_mul,Nat.one_mul] at this;omega
theorem Rj {b o n M:Nat} (hb:b<n) (h:o<M):gW n M (b*M+o)=some ⟨b,o,0⟩:=by
 simp only [gW,if_pos (UO hb h),(Oy h).1,(Oy h).2]
mutual
theorem Kw (n M:Nat):∀ v,ai (gW n M) (nk n M v) v
 | .bool b=>by simp [nk,ai]
 | .int k x=>by simp [nk,ai]
 | .string s=>by simp [nk,ai]
 | .pointer none=>by simp [nk,ai]
 | .pointer (some ⟨b,o,none⟩)=>by
  simp only [nk]
  split
  ·rename_i h;simp only [ai];exact ⟨_,Rj h.1 h.2,rfl⟩
  ·simp [ai]
 | .pointer (some ⟨b,o,some _⟩)=>by simp [nk,ai]
 | .slice none x y=>by simp [nk,ai]
 | .slice (some ⟨b,o,none⟩) x y=>by
  simp only [nk]
  split
  ·rename_i h
   split
   ·rename_i h2;simp only [ai];exact ⟨_,Rj h.1 h2,by simp⟩
   ·simp only [ai];exact ⟨_,Rj (o:=0) h.1 h.2,by simp⟩
  ·split
   ·rename_i h;subst h;simp only [ai];exact ⟨_,_,rfl⟩
   ·simp [ai]
 | .slice (some ⟨b,o,some _⟩) x y=>by
  simp only [nk]
  split
  ·rename_i h;subst h;simp only [ai];exact ⟨_,_,rfl⟩
  ·simp [ai]
 | .map none=>by simp [nk,ai]
 | .map (some _)=>by simp [nk,ai]
 | .agg ⟨l⟩=>by simp only [nk,ai];exact ⟨⟨l⟩,rfl,BA n M l⟩
 | .nilFunc=>by simp [nk,ai]
 | .nilIface=>by simp [nk,ai]
 | .func _ _ _=>by simp [nk,ai]
 | .iface _ _=>by simp [nk,ai]
 | .tuple _=>by simp [nk,ai]
 | .float _ _=>by simp [nk,ai]
 | .complex _ _ _=>by simp [nk,ai]
 | .chan _=>by simp [nk,ai]
theorem BA (n M:Nat):∀ l,ak (gW n M) (EL n M l) l
 | []=>by simp [EL,ak]
 | v::vs=>by simp only [EL];exact ak.cons (Kw n M v) (BA n M vs)
end
def win (w:World) (c:Array Value) (o:Nat):List AV:=((c.toList.drop o).map (nk w.heap.size (MW w))).takeWhile AV.one
def V2 (w:World) (x:Nat):AO:=match w.heap[x / MW w]? with
 | some (.cells c _ _)=>.cells (win w c (x % MW w)) 0 true
 | _=>.dead
def sW (w:World):AS:={ lay:=[Tr.V0 (V2 w) (List.range (w.heap.size*MW w))],cur:=.E,nl:=w.heap.size*MW w,st:=1 }
theorem UP {w:World} {x:Nat} {o:AO} (h:(sW w).h x=some o):x<w.heap.size*MW w/\∃ c e fz,w.heap[x / MW w]? = some (.cells c e fz)/\o=.cells (win w c (x % MW w)) 0 true:=by
 simp only [AS.h,sW,Tr.get,Mn,Tr.Ox,List.mem_range] at h;by_cases b:x<w.heap.size*MW w
 ·refine ⟨b,?_⟩;rw [if_pos b] at h;simp only [V2] at h;cases hb:w.heap[x / MW w]? with
  | none=>rw [hb] at h;cases h
  | some ob =>
   rw [hb] at h;cases ob with
   | cells c e fz =>
    simp only [AO.VM,Option.some.injEq] at h;exact ⟨c,e,fz,rfl,h.symm⟩
   | _=>cases h
 ·rw [if_neg b] at h;cases h
theorem yl {p:AV->Bool}:∀ (l:List AV) (k:Nat) (v:AV),(l.takeWhile p)[k]? = some v->p v=true/\l[k]? = some v
 | [],k,v,h=>by simp at h
 | a::l,k,v,h=>by
  rw [List.takeWhile_cons] at h;split at h
  ·rename_i b;cases k with
   | zero=>simp at h;subst h;exact ⟨b,rfl⟩
   | succ k=>simp at h;simpa using yl l k v h
  ·simp at h
theorem UQ (w:World):Rel w.heap.size (gW w.heap.size (MW w)) (sW w) w:=by
 refine ⟨fun x o h=>?_,fun x y o o' i i' h n b=>?_,fun j=>?_,Nat.le_refl 1,Nat.le_refl _⟩
 ·obtain ⟨d,c,e,fz,hb,rfl⟩:=UP h;refine ⟨⟨x / MW w,x % MW w,0⟩,by simp only [gW,if_pos d],⟨c,e,fz,hb,fun k v l=>?_,(fun h=>by cases h),(fun h=>absurd rfl h),(fun h=>by cases h)⟩,(fun h=>by cases h)⟩;obtain ⟨m,h2⟩:=yl _ _ _ l;refine ⟨m,?_⟩;rw [List.getElem?_map,List.getElem?_drop,Option.map_eq_some_iff] at h2;obtain ⟨cv,h3,rfl⟩:=h2;exact ⟨cv,by simpa using h3,Kw _ _ _⟩
 ·obtain ⟨_,c,e,fz,_,rfl⟩:=UP h;cases b
 ·simp only [gW,sW,Nat.mul_one];rw [if_neg (by omega)]
/-! ### data of flat types -/
section
variable {H:Type} {enc:TypeId×Value->H} {P:Program} {w:World} {base:Nat} {spare:Nat->Bool} {held:Bool}
end
end Go.Am
end

section
namespace Go.Am
open Go.ChangeShapes Go.WideShapes Go.ChangeAt Go.RowKit
theorem Gg {P:Program} {g:FuncId} {b:Bool} {d:Array Value} {W:World} (k:fU P g=true) (h:aa P g (d.toList.map (nk W.heap.size (MW W))) (sW W) fun v s'=>v=.bool b):Calls P g d W fun e W'=>e=.returned (.bool b)/\Below W.heap.size W W':=by
 have i:ak (gW W.heap.size (MW W)) (d.toList.map (nk W.heap.size (MW W))) d.toList:=by
  rw [<- Hl];exact BA _ _ _
 have m:Calls P g d W (fun e w'=>∃ γ' v cv s',e=.returned cv/\ai γ' v cv/\fM W.heap.size (gW W.heap.size (MW W)) (sW W) W γ' s' w'/\Rel W.heap.size γ' s' w'/\v=.bool b):=by
  rcases h W.heap.size _ d W i (UQ W) with ⟨_,j⟩ | ⟨cv,w',j,_⟩
  ·exact j
  ·rw [lP k] at j;cases j
 refine m.mono ?_;rintro e w' ⟨γ',v,cv,s',rfl,hv,hd,hr,rfl⟩;simp only [ai] at hv;subst hv;exact ⟨rfl,hd.below fun l o h=>by obtain ⟨_,c,e,fz,_,rfl⟩:=UP h;rfl⟩
theorem ym {H:Type} {enc:TypeId×Value->H} {P:Program} {W W':World} (k:laidOutB P=true) (hb:Below W.heap.size W W'):∀ (ts:List TypeId) (vs:List Value) (ds:List (DataW H)) (ps:List MemPlace),
  (ts.all fun t=>P.readableRec t&&decide (t<P.types.size))=true->DataW.TrodAll enc P W 0 (fun _=>true) true ts vs ds ps->(∀ x∈ps,x.block<W.heap.size) ->
  DataW.TrodAll enc P W' 0 (fun b=>decide (b<W.heap.size)) true ts vs ds ps
 | [],vs,ds,ps,_,h,_=>by
  obtain ⟨rfl,rfl,rfl⟩:=trodAll_nil h;exact h
 | t::ts,vs,ds,ps,hr,h,c=>by
  simp only [List.all_cons,Bool.and_eq_true,decide_eq_true_eq] at hr;obtain ⟨v,e,d,i,a,b,rfl,rfl,rfl,l,h2⟩:=trodAll_cons h;exact ⟨a,b,Below.trod k hr.1.1 hr.1.2 l hb (fun x j=>c x (by simp [j])),ym k hb ts e i b hr.2 h2 (fun x j=>c x (by simp [j])),rfl⟩
theorem EM {H:Type} {enc:TypeId×Value->H} {P:Program} {W:World} {base:Nat} {spare:Nat->Bool} {held:Bool}:∀ {ts:List TypeId} {vs:List Value} {ds:List (DataW H)} {ps:List MemPlace},DataW.TrodAll enc P W base spare held ts vs ds ps ->
  ∀ (i:Nat) t,ts[i]? = some t->∃ v d p,vs[i]? = some v/\ds[i]? = some d/\DataW.Trod enc P W base spare held t v d p
 | [],_,_,_,_,i,t,hi=>by simp at hi
 | t::ts,vs,ds,ps,h,i,c,hi=>by
  obtain ⟨v,e,d,j,a,b,rfl,rfl,rfl,k,h2⟩:=trodAll_cons h;cases i with
  | zero=>simp at hi;subst hi;exact ⟨v,d,a,rfl,rfl,k⟩
  | succ i=>simp at hi;obtain ⟨v',l,p',e1,e2,m⟩:=EM h2 i c hi;exact ⟨v',l,p',by simpa using e1,by simpa using e2,m⟩
theorem CM {H:Type} {enc:TypeId×Value->H} {P:Program} {W:World} {base:Nat} {spare:Nat->Bool} {held:Bool}:∀ {ts:List TypeId} {vs:List Value} {ds:List (DataW H)} {ps:List MemPlace},DataW.TrodAll enc P W base spare held ts vs ds ps->vs.length=ts.length/\ds.length=ts.length
 | [],_,_,_,h=>by obtain ⟨rfl,rfl,rfl⟩:=trodAll_nil h;exact ⟨rfl,rfl⟩
 | t::ts,vs,ds,ps,h=>by
  obtain ⟨v,c,d,e,a,b,rfl,rfl,rfl,i,h2⟩:=trodAll_cons h;have:=CM h2;simp [this.1,this.2]
end Go.Am
end

section
namespace Go.aC
open Go.au
structure Key where
 t:List UInt8
 d:List UInt8
 deriving DecidableEq
structure eC where
 dot:aJ
 key:Key
 gone:Bool
 deriving DecidableEq
end Go.aC
end

section
namespace Go.au.SI
end Go.au.SI
end
