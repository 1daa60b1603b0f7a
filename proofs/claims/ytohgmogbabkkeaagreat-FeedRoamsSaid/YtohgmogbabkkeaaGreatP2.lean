/-
  A part of OQ proof: an abstract machine Be OQ model, and qc of qd of this program Be it.
-/
import Derived.Attr
import Derived.ProofKit
import Derived.Lib.Overlaps
import Derived.OpenShut
import Derived.Deep.Slices
import Derived.Test.YtohgmogbabkkeaaGreatP1
set_option linter.unusedVariables false
set_option linter.unusedSimpArgs false
set_option linter.unusedSectionVars false
section
namespace Go.Am
def Ext (s s':AS):Prop:=(∀ l o,s.h l=some o->s'.h l=some o)/\s.nl<=s'.nl
theorem Ext.refl (s:AS):Ext s s:=⟨fun _ _ h=>h,Nat.le_refl _⟩
theorem Ext.trans {a b c:AS} (h:Ext a b) (d:Ext b c):Ext a c:=⟨fun l o e=>d.1 l o (h.1 l o e),Nat.le_trans h.2 d.2⟩
def aM (s:AS):Prop:=1<=s.st/\∀ k,s.h (s.nl+k*s.st)=none
theorem Rel.Mi {B:Nat} {γ:bN} {s:AS} {w:World} (h:Rel B γ s w):aM s:=by
 refine ⟨h.Qq,fun k=>?_⟩;cases b:s.h (s.nl+k*s.st) with
 | none=>rfl
 | some p =>
  obtain ⟨j,hj,_⟩:=h.obj _ p b;rw [h.fin k] at hj;cases hj
def lO:Op->Bool
 | .move _ | .assign _ | .pick .. | .nilCheck _ | .binOp .. | .unOp .. | .fieldAddr .. | .field .. | .indexAddr .. | .index .. | .slice .. | .extract .. | .load .. | .lookup .. | .makeInterface .. | .makeFunc .. | .convert .. | .build ..=>true
 | .call c=>match c.callee with
  | .builtin .len | .builtin .cap | .builtin .max | .builtin .min=>true
  | _=>false
 | _=>false
theorem Ob {s s':AS} (h:Ext s s') {l o n:Nat} {cs:List AV} (hr:aC s l o n=some cs):aC s' l o n=some cs:=by
 unfold aC at hr ⊢;cases b:s.h l with
 | none=>simp [b] at hr
 | some x=>rw [h.1 l x b];rw [b] at hr;exact hr
theorem SZ {s s':AS} (h:Ext s s') {l o:Nat} {v:AV} (hr:av s l o=some v):av s' l o=some v:=by
 unfold av at hr ⊢;cases b:s.h l with
 | none=>simp [b] at hr
 | some x=>rw [h.1 l x b];rw [b] at hr;exact hr
theorem S0 {s s':AS} (h:Ext s s') {T:TT} {t:TypeId} {p v:AV} (hr:FR T t s p=some v):FR T t s' p=some v:=by
 unfold FR at hr ⊢;split at hr
 ·rename_i l o;split at hr
  ·rename_i c;cases hs:T.eP t with
   | none=>simp [hs] at hr
   | some n =>
    simp only [hs,Option.bind_some,Option.map_eq_some_iff] at hr ⊢;obtain ⟨cs,b,e⟩:=hr;exact ⟨cs,Ob h b,e⟩
  ·rename_i c;exact SZ h hr
  ·cases hr
 ·cases hr
theorem O0 {s s':AS} (h:Ext s s') {T:TT} {t:TypeId} {x v:AV} (hr:aO T t x s=some v):aO T t x s'=some v:=by
 unfold aO at hr ⊢;split at hr <;> try (first | exact hr | (cases hr;done))
 rename_i l _;cases b:s.h l with
 | none=>simp [b] at hr
 | some o=>rw [h.1 l o b];rw [b] at hr;exact hr
theorem Bh {T:TT} {op:Op} (p:lO op=true) {ρ:Operand->AV} {s s':AS} {v:AV} (D:1<=s.st) (h:cF T op ρ s=some (v,s)) (k:Ext s s'):cF T op ρ s'=some (v,s'):=by
 cases op <;> (first | (cases p;done) | skip)
 case move x=>simp only [cF] at h ⊢;simpa using h
 case assign x=>simp only [cF] at h ⊢;simpa using h
 case pick c a b=>simp only [cF] at h ⊢;split at h <;> simp_all
 case build t parts=>simp only [cF,Option.map_eq_some_iff] at h ⊢;obtain ⟨u,hu,e⟩:=h;exact ⟨u,hu,by simp_all⟩
 case load t x=>simp only [cF,Option.map_eq_some_iff] at h ⊢;obtain ⟨u,hu,e⟩:=h;exact ⟨u,S0 k hu,by simp_all⟩
 case nilCheck x=>simp only [cF] at h ⊢;split at h <;> simp_all
 case binOp op t x y H =>
  simp only [cF] at h ⊢;split at h
  ·rename_i F;rw [if_pos F];simp only [Option.map_eq_some_iff] at h ⊢;obtain ⟨u,hu,e⟩:=h;exact ⟨u,hu,by simp_all⟩
  ·cases h
 case unOp op t x=>simp only [cF,Option.map_eq_some_iff] at h ⊢;obtain ⟨u,hu,e⟩:=h;exact ⟨u,hu,by simp_all⟩
 case convert src dst x =>
  simp only [cF] at h ⊢;unfold cN at h ⊢;split at h
  ·simp_all
  ·simp_all
  ·split at h
   ·simp only [Option.some.injEq,Prod.mk.injEq] at h;have:s.nl+s.st=s.nl:=congrArg AS.nl h.2;omega
   ·cases h
  ·split at h
   ·split at h <;> simp_all
   ·cases h
  ·split at h <;> simp_all
  ·split at h
   ·rename_i hu;split at h
    ·rename_i j;rw [if_pos j];simp only [Option.some.injEq,Prod.mk.injEq] at h ⊢;exact ⟨h.1,trivial⟩
    rename_i j;rw [if_neg j];simp only [Option.bind_eq_some_iff,Option.map_eq_some_iff] at h ⊢;obtain ⟨cs,w,bs,z,e⟩:=h;exact ⟨cs,Ob k w,bs,z,by simp_all⟩
   ·cases h
  ·split at h
   ·rename_i A;rw [if_pos A];split at h
    ·rename_i hu n;rw [hu,k.1 _ _ n];simp only [Option.some.injEq,Prod.mk.injEq] at h ⊢;exact ⟨h.1,trivial⟩
    ·cases h
   ·cases h
  ·cases h
 case makeInterface t x=>simp only [cF] at h ⊢;split at h <;> simp_all
 case makeFunc fn first captured =>
  cases fn with
  | func g=>simp only [cF] at h ⊢;split at h <;> simp_all
  | _=>simp [cF] at h
 case slice t x lo hi I=>simp only [cF,Option.map_eq_some_iff] at h ⊢;obtain ⟨u,hu,e⟩:=h;exact ⟨u,hu,by simp_all⟩
 case fieldAddr t x f=>simp only [cF,Option.map_eq_some_iff] at h ⊢;obtain ⟨u,hu,e⟩:=h;exact ⟨u,hu,by simp_all⟩
 case field t x f=>simp only [cF,Option.map_eq_some_iff] at h ⊢;obtain ⟨u,hu,e⟩:=h;exact ⟨u,hu,by simp_all⟩
 case indexAddr t x ix=>simp only [cF,Option.map_eq_some_iff] at h ⊢;obtain ⟨u,hu,e⟩:=h;exact ⟨u,hu,by simp_all⟩
 case index t x ix=>simp only [cF,Option.map_eq_some_iff] at h ⊢;obtain ⟨u,hu,e⟩:=h;exact ⟨u,hu,by simp_all⟩
 case lookup t x ix ok =>
  simp only [cF,Option.map_eq_some_iff] at h ⊢;obtain ⟨u,hu,e⟩:=h;refine ⟨u,?_,by simp_all⟩;unfold dN at hu ⊢;split at hu
  ·rename_i kt et r ht _;split at hu
   ·rename_i B;rw [if_pos B];simp only [Option.bind_eq_some_iff] at hu ⊢;obtain ⟨es,d,rest⟩:=hu;refine ⟨es,?_,rest⟩;cases r with
    | none=>exact d
    | some l =>
     simp only at d ⊢;cases n:s.h l with
     | none=>simp [n] at d
     | some o=>rw [k.1 l o n];rw [n] at d;exact d
   ·cases hu
  ·cases hu
 case extract t i =>
  simp only [cF] at h ⊢;split at h
  ·rename_i vs G;simp only [Option.map_eq_some_iff] at h ⊢;obtain ⟨u,hu,e⟩:=h;exact ⟨u,hu,by simp_all⟩
  ·cases h
 case call c =>
  simp only [lO] at p;simp only [cF] at h ⊢;cases C:c.callee with
  | value x=>simp [C] at h
  | invoke x m=>simp [C] at h
  | builtin b =>
   simp only [C] at h p ⊢;generalize c.argTypes.toList=ts at h ⊢;generalize c.args.toList.map ρ=args at h ⊢;cases b <;> first | (cases p;done) | skip
   ·cases ts with
    | nil=>simp [dQ] at h
    | cons t ts =>
     cases args with
     | nil=>simp [dQ] at h
     | cons x xs =>
      simp only [dQ,Option.map_eq_some_iff] at h ⊢;obtain ⟨u,hu,e⟩:=h;exact ⟨u,hu,by simp_all⟩
   ·cases ts with
    | nil=>simp [dQ] at h
    | cons t ts =>
     cases args with
     | nil=>simp [dQ] at h
     | cons x xs =>
      simp only [dQ,Option.map_eq_some_iff] at h ⊢;obtain ⟨u,hu,e⟩:=h;exact ⟨u,O0 k hu,by simp_all⟩
   ·simp only [dQ,Option.map_eq_some_iff] at h ⊢;obtain ⟨u,hu,e⟩:=h;exact ⟨u,hu,by simp_all⟩
   ·simp only [dQ,Option.map_eq_some_iff] at h ⊢;obtain ⟨u,hu,e⟩:=h;exact ⟨u,hu,by simp_all⟩
def gM (ops:Array Oper) (j i:Nat):Bool:=((Region.before ops).getD i 0).testBit j
theorem Kf (acc:Array Nat) (j:Nat):∀ (l:List Edge) (s:Nat),(l.foldl (fun s e=>if Region.binds .any e then s ||| 2 ^ e.on ||| acc.getD e.on 0 else s) s).testBit j=true ->
  s.testBit j=true\/∃ e∈l,Region.binds .any e=true/\(e.on=j\/(acc.getD e.on 0).testBit j=true)
 | [],s,h=>.inl h
 | e::l,s,h=>by
  simp only [List.foldl_cons] at h;rcases Kf acc j l _ h with b | ⟨d,c,h2⟩
  ·split at b
   ·rename_i hb;simp only [Nat.testBit_or,Bool.or_eq_true] at b;rcases b with (b | b) | b
    ·exact .inl b
    ·refine .inr ⟨e,by simp,hb,.inl ?_⟩;rw [Nat.testBit_two_pow] at b;simpa using b
    ·exact .inr ⟨e,by simp,hb,.inr b⟩
   ·exact .inl b
  ·exact .inr ⟨d,by simp [c],h2⟩
theorem Cq (j:Nat):∀ (l:List Oper) (acc:Array Nat),
  let r:=l.foldl (fun acc o=>acc.push (o.after.foldl (fun s e=>if Region.binds .any e then s ||| 2 ^ e.on ||| acc.getD e.on 0 else s) 0)) acc
  (∀ i,i<acc.size->r.getD i 0=acc.getD i 0)/\(∀ (k:Nat) o,l[k]? = some o->(r.getD (acc.size+k) 0).testBit j=true ->
   ∃ e∈o.after.toList,Region.binds .any e=true/\(e.on=j\/(e.on<acc.size+k/\(r.getD e.on 0).testBit j=true)))/\r.size=acc.size+l.length
 | [],acc=>by simp
 | o::l,acc=>by
  simp only [List.foldl_cons];obtain ⟨c,h2,h3⟩:=Cq j l (acc.push (o.after.foldl (fun s e=>if Region.binds .any e then s ||| 2 ^ e.on ||| acc.getD e.on 0 else s) 0));generalize hr:l.foldl (fun acc o=>acc.push (o.after.foldl (fun s e=>if Region.binds .any e then s ||| 2 ^ e.on ||| acc.getD e.on 0 else s) 0)) (acc.push (o.after.foldl (fun s e=>if Region.binds .any e then s ||| 2 ^ e.on ||| acc.getD e.on 0 else s) 0))=r at c h2 h3;simp only [Array.size_push] at c h2 h3;have hold:∀ i,i<acc.size->r.getD i 0=acc.getD i 0:=by
   intro i hi;rw [c i (by omega)];simp only [Array.getD_eq_getD_getElem?,Array.getElem?_push];rw [if_neg (by omega)]
  refine ⟨hold,fun k o' w hb=>?_,by simp only [List.length_cons];omega⟩;cases k with
  | zero =>
   obtain rfl:o=o':=by simpa using w
   rw [Nat.add_zero,c acc.size (by omega)] at hb;simp only [Array.getD_eq_getD_getElem?,Array.getElem?_push,if_true,Option.getD_some] at hb;rw [<- Array.foldl_toList] at hb;have d:(o.after.toList.foldl (fun s e=>if Region.binds .any e then s ||| 2 ^ e.on ||| acc.getD e.on 0 else s) 0).testBit j=true:=by
    simpa only [Array.getD_eq_getD_getElem?] using hb
   rcases Kf acc j _ _ d with h | ⟨e,m,b,h⟩
   ·simp at h
   ·refine ⟨e,m,b,?_⟩;rcases h with h | h
    ·exact .inl h
    ·right;have n:e.on<acc.size:=by
      rcases Nat.lt_or_ge e.on acc.size with p | p
      ·exact p
      ·simp [Array.getD_eq_getD_getElem?,Array.getElem?_eq_none p] at h
     exact ⟨by omega,by rw [hold _ n];exact h⟩
  | succ k =>
   have:=h2 k o' (by simpa using w) (by rw [show acc.size+1+k=acc.size+(k+1) by omega];exact hb);obtain ⟨e,m,b,h⟩:=this;exact ⟨e,m,b,h.imp id fun ⟨x,hb⟩=>⟨by omega,hb⟩⟩
theorem Mx {ops:Array Oper} {j i:Nat} {o:Oper} (b:ops[i]? = some o) (h:gM ops j i=true):∃ e∈o.after.toList,Region.binds .any e=true/\(e.on=j\/(e.on<i/\gM ops j e.on=true)):=by
 obtain ⟨_,h2,_⟩:=Cq j ops.toList #[];have hb:Region.before ops=ops.toList.foldl (fun acc o=>acc.push (o.after.foldl (fun s e=>if Region.binds .any e then s ||| 2 ^ e.on ||| acc.getD e.on 0 else s) 0)) #[]:=by
  unfold Region.before;rw [<- Array.foldl_toList]
 unfold gM at h ⊢;rw [hb] at h ⊢;have:=h2 i o (by simpa using b) (by simpa using h);simpa using this
def Down (ops:Array Oper) (listed:Array Bool):Prop:=∀ (i:Nat) o,ops[i]? = some o->listed.getD i false=true->∀ e∈o.after.toList,Region.binds .any e=true->listed.getD e.on false=true
theorem jf {ops:Array Oper} {listed:Array Bool} (hd:Down ops listed) {j:Nat}:∀ (i:Nat) (o:Oper),ops[i]? = some o->(∀ e∈o.after.toList,Region.binds .any e=true->listed.getD e.on false=true)->gM ops j i=true->listed.getD j false=true:=by
 intro i
 induction i using Nat.strongRecOn with
 | _ i m =>
  intro o k l n;obtain ⟨e,c,hb,h⟩:=Mx k n;rcases h with rfl | ⟨d,h⟩
  ·exact l e c hb
  ·have p:=l e c hb;cases b:ops[e.on]? with
   | none =>
    have hi:i<ops.size:=by
     rcases Nat.lt_or_ge i ops.size with h | h
     ·exact h
     ·simp [Array.getElem?_eq_none h] at k
    rw [Array.getElem?_eq_getElem (by omega)] at b;cases b
   | some o'=>exact m e.on d o' b (hd e.on o' b p) h
def Bi (P:Program) (T:TT) (o:Oper) (f:Fr) (s:AS) (R:AV->AS->Prop):Prop :=
 match eS f o.op with
 | some (g,args)=>aa P g args s R
 | none=>∃ v s',cF T o.op (oM f) s=some (v,s')/\R v s'
theorem k7 {P:Program} {T:TT} {n:Nat} {o:Oper} {f:Fr} {s:AS} {R:AV->AS->Prop} {K:Fr->AS->Prop} (hd:dR n o.dst=true) (h:Bi P T o f s R) (c:∀ v s',R v s'->K (bO f o.dst v) s'):Ed P T n o f s K:=by
 refine ⟨hd,.inl ?_⟩;unfold Bi at h;split
 ·rename_i g args b;rw [b] at h;exact h.mono c
 ·rename_i b;rw [b] at h;obtain ⟨v,s',d,h2⟩:=h;exact ⟨v,s',d,c _ _ h2⟩
abbrev jQ:=List (Nat×(AS->Prop))
def keyOf (f:Fr) (o:Oper):List AV:=o.op.operands.toList.map (oM f)
section
variable (P:Program) (T:TT) (n:Nat) (ops:Array Oper) (A:List (List Nat)) (H:List Nat) (V:Nat->List AV->AV->Prop) (S:Nat->List AV->AV->AS->Prop) (X:AS->AS->Prop) (C:Nat->List AV->AV->AS->Prop) (M:List Nat) (s:AS)
def mN (i:Nat) (k:List AV) (v:AV) (c:AS->Prop):AS->Prop:=if M.contains i then C i k v else c
def rP (i:Nat) (o:Oper) (f:Fr) (F:jQ) (c:AS->Prop) (K':Fr->jQ->(AS->Prop)->Prop):Prop :=
 dR n o.dst=true /\
 match cY ops f o with
 | none=>False
 | some false=>M.contains i=false/\K' (bO f o.dst .undef) F c
 | some true =>
  if H.contains i then
   (∀ s',X s s'->aM s'->(∀ p∈F,(A.getD i []).contains p.1=true->p.2 s')->(M.contains i=true->c s')->Bi P T o f s' fun v s''=>(if M.contains i then X s' s''/\C i (keyOf f o) v s'' else Ext s' s'')/\S i (keyOf f o) v s''/\V i (keyOf f o) v) /\
   (∃ v,V i (keyOf f o) v)/\∀ v,V i (keyOf f o) v->K' (bO f o.dst v) (F++[(i,S i (keyOf f o) v)]) (mN C M i (keyOf f o) v c)
  else M.contains i=false/\lO o.op=true/\∃ v,(cF T o.op (oM f) s=some (v,s)/\∀ s',X s s'->aM s'->cF T o.op (oM f) s'=some (v,s'))/\K' (bO f o.dst v) F c
def dq (K:Fr->AS->Prop):List Nat->Fr->jQ->(AS->Prop)->Prop
 | [],f,F,c=>∀ s',X s s'->aM s'->(∀ p∈F,p.2 s')->c s'->(H=[]->s'=s)->K f s'
 | i::is,f,F,c=>match ops[i]? with
  | some o=>rP P T n ops A H V S X C M s i o f F c (dq K is)
  | none=>False
abbrev VH (K:Fr->AS->Prop) (is:List Nat) (f:Fr) (F:jQ):=dq P T n ops A H V S Ext (fun _ _ _ _=>True) [] s K is f F (fun _=>True)
end
section
variable {P:Program} {T:TT} {n:Nat} {ops:Array Oper} {A:List (List Nat)} {H:List Nat} {V:Nat->List AV->AV->Prop} {S:Nat->List AV->AV->AS->Prop} {X:AS->AS->Prop} {C:Nat->List AV->AV->AS->Prop} {M:List Nat} {s:AS} {K:Fr->AS->Prop}
theorem rP.mono {i:Nat} {o:Oper} {f:Fr} {F:jQ} {c:AS->Prop} {j K2:Fr->jQ->(AS->Prop)->Prop} (h:rP P T n ops A H V S X C M s i o f F c j) (d:∀ f F c,j f F c->K2 f F c):rP P T n ops A H V S X C M s i o f F c K2:=by
 obtain ⟨hd,h⟩:=h;refine ⟨hd,?_⟩;split
 ·rename_i b;rw [b] at h;exact h
 ·rename_i b;rw [b] at h;exact ⟨h.1,d _ _ _ h.2⟩
 ·rename_i b;rw [b] at h;simp only at h;split
  ·rename_i e;rw [if_pos e] at h;exact ⟨h.1,h.2.1,fun v hv=>d _ _ _ (h.2.2 v hv)⟩
  ·rename_i e;rw [if_neg e] at h;obtain ⟨k,l,v,h2,h3⟩:=h;exact ⟨k,l,v,h2,d _ _ _ h3⟩
theorem zw {K K':Fr->AS->Prop} (d:∀ f s,K f s->K' f s):∀ (is:List Nat) (f:Fr) (F:jQ) (c:AS->Prop),dq P T n ops A H V S X C M s K is f F c->dq P T n ops A H V S X C M s K' is f F c
 | [],f,F,c,h=>fun s' e h2 h3 h4 j=>d _ _ (h s' e h2 h3 h4 j)
 | i::is,f,F,c,h=>by
  simp only [dq] at h ⊢;split
  ·rename_i o b;rw [b] at h;exact rP.mono h fun f F c k=>zw d is f F c k
  ·rename_i b;rw [b] at h;exact h
theorem zx:∀ (is:List Nat) (f:Fr) (F F':jQ) (c:AS->Prop),(∀ p,p∈F↔p∈F')->dq P T n ops A H V S X C M s K is f F c->dq P T n ops A H V S X C M s K is f F' c
 | [],f,F,F',c,d,h=>fun s' j b k=>h s' j b fun p hm=>k p ((d p).1 hm)
 | i::is,f,F,F',c,d,h=>by
  simp only [dq] at h ⊢;cases m:ops[i]? with
  | none=>rw [m] at h;exact h
  | some o =>
   rw [m] at h;obtain ⟨hd,h⟩:=h;refine ⟨hd,?_⟩;split
   ·rename_i e;rw [e] at h;exact h
   ·rename_i e;rw [e] at h;exact ⟨h.1,zx is _ F F' _ d h.2⟩
   ·rename_i e;rw [e] at h;simp only at h;split
    ·rename_i l;rw [if_pos l] at h;refine ⟨fun s' j b k=>h.1 s' j b fun p hm=>k p ((d p).1 hm),h.2.1,fun v hv=>zx is _ _ _ _ ?_ (h.2.2 v hv)⟩;intro p;simp [d]
    ·rename_i l;rw [if_neg l] at h;obtain ⟨r,w,v,h2,h3⟩:=h;exact ⟨r,w,v,h2,zx is _ F F' _ d h3⟩
theorem O1 {T:TT} {op:Op} {ρ d:Operand->AV} (h:∀ x∈op.operands,ρ x=d x) (s:AS):cF T op ρ s=cF T op d s:=by
 have w:∀ (l:List Operand),(∀ x∈l,ρ x=d x)->l.map ρ=l.map d:=fun l w=>List.map_congr_left w;have z:∀ (o:Option Operand),(∀ x∈o,ρ x=d x)->o.map ρ=o.map d:=by
  intro o z;cases o with
  | none=>rfl
  | some x=>simp [z x (by simp)]
 have A:∀ (l:List (Nat×Operand)),(∀ x∈l.map (·.2),ρ x=d x)->(l.map fun p=>(p.1,ρ p.2))=(l.map fun p=>(p.1,d p.2)):=by
  intro l w;refine List.map_congr_left fun p hm=>?_;rw [w p.2 (List.mem_map.2 ⟨p,hm,rfl⟩)]
 cases op with
 | move x=>simp only [cF,h x (by simp [Op.operands])]
 | assign x=>simp only [cF,h x (by simp [Op.operands])]
 | pick c a b=>simp only [cF,h c (by simp [Op.operands]),h a (by simp [Op.operands]),h b (by simp [Op.operands])]
 | box t x=>simp only [cF,h x (by simp [Op.operands])]
 | load t x=>simp only [cF,h x (by simp [Op.operands])]
 | nilCheck x=>simp only [cF,h x (by simp [Op.operands])]
 | unOp o t x=>simp only [cF,h x (by simp [Op.operands])]
 | convert t u x=>simp only [cF,h x (by simp [Op.operands])]
 | makeInterface t x=>simp only [cF,h x (by simp [Op.operands])]
 | fieldAddr t x f=>simp only [cF,h x (by simp [Op.operands])]
 | field t x f=>simp only [cF,h x (by simp [Op.operands])]
 | extract x i=>simp only [cF,h x (by simp [Op.operands])]
 | range t x=>simp only [cF,h x (by simp [Op.operands])]
 | entry x=>simp only [cF,h x (by simp [Op.operands])]
 | sliceToArrayPointer t x=>simp only [cF,h x (by simp [Op.operands])]
 | build t ps=>simp only [cF];rw [A ps.toList (by intro x e;exact h x (by simpa [Op.operands] using e))]
 | buildSlice t n ps=>simp only [cF];rw [A ps.toList (by intro x e;exact h x (by simpa [Op.operands] using e))]
 | store t a v=>simp only [cF,h a (by simp [Op.operands]),h v (by simp [Op.operands])]
 | binOp o t a v u=>simp only [cF,h a (by simp [Op.operands]),h v (by simp [Op.operands])]
 | makeSlice t a v=>simp only [cF,h a (by simp [Op.operands]),h v (by simp [Op.operands])]
 | indexAddr t a v=>simp only [cF,h a (by simp [Op.operands]),h v (by simp [Op.operands])]
 | index t a v=>simp only [cF,h a (by simp [Op.operands]),h v (by simp [Op.operands])]
 | lookup t a v ok=>simp only [cF,h a (by simp [Op.operands]),h v (by simp [Op.operands])]
 | mapUpdate t m k v=>simp only [cF,h m (by simp [Op.operands]),h k (by simp [Op.operands]),h v (by simp [Op.operands])]
 | insert t m k v=>simp only [cF,h m (by simp [Op.operands]),h k (by simp [Op.operands]),h v (by simp [Op.operands])]
 | slice t x lo hi B =>
  simp only [cF,h x (by simp [Op.operands])];rw [z lo (by intro y j;exact h y (by simp [Op.operands];simp at j;simp [j])),z hi (by intro y j;exact h y (by simp [Op.operands];simp at j;simp [j])),z B (by intro y j;exact h y (by simp [Op.operands];simp at j;simp [j]))]
 | makeFunc fn first captured =>
  cases fn with
  | func g=>simp only [cF];rw [w captured.toList (by intro x e;exact h x (by simp only [Op.operands,Array.mem_append];exact .inr (by simpa using e))),w first.toList (by intro x e;exact h x (by simp only [Op.operands,Array.mem_append];exact .inl (by simpa using e)))]
  | _=>rfl
 | makeMap t r=>cases r <;> rfl
 | call c =>
  simp only [cF];cases C:c.callee with
  | builtin b =>
   simp only;rw [w c.args.toList (by intro x e;exact h x (by simp only [Op.operands,Call.operands,C,Array.mem_append];exact .inr (by simpa using e)))]
  | _=>rfl
 | _=>rfl
theorem Kg {f:Fr} {d:Option Nat} {v:AV} {x:Operand} (h:∀ t,d=some t->x≠.tmp t):oM (bO f d v) x=oM f x:=by
 cases x with
 | tmp t =>
  cases d with
  | none=>rfl
  | some d=>simp only [oM,bO];exact Qv f v (fun e=>h d rfl (by rw [e]))
 | _=>cases d <;> rfl
theorem eZ {o:Oper} {f:Fr} {d:Option Nat} {v:AV} (h:∀ t,d=some t->t ∉ o.looksAt ops):cY ops (bO f d v) o=cY ops f o/\eS (bO f d v) o.op=eS f o.op/\∀ s,cF T o.op (oM (bO f d v)) s=cF T o.op (oM f) s:=by
 have b:∀ x∈o.op.operands,oM (bO f d v) x=oM f x:=by
  intro x i;refine Kg fun t ht e=>h t ht ?_;subst e;simp only [Oper.looksAt,List.mem_append,List.mem_filterMap];exact .inl ⟨.tmp t,by simpa using i,rfl⟩
 refine ⟨?_,?_,?_⟩
 ·unfold cY;cases l:o.guard with
  | none=>rfl
  | some p =>
   obtain ⟨j,want⟩:=p;simp only;cases hd:(ops[j]?).bind (·.dst) with
   | none=>rfl
   | some t =>
    simp only;have ht:bO f d v t=f t:=by
     cases d with
     | none=>rfl
     | some d =>
      simp only [bO];refine Qv f v fun e=>h d rfl ?_;subst e;simp only [Oper.looksAt,List.mem_append,l,hd];right;simp
    rw [ht]
 ·unfold eS;cases m:o.op <;> try rfl
  rename_i c;simp only;rw [m] at b;cases k:c.callee with
  | value x =>
   simp only;have i:=b x (by simp [Op.operands,Call.operands,k]);have n:c.args.toList.map (oM (bO f d v))=c.args.toList.map (oM f):=by
    refine List.map_congr_left fun y r=>b y ?_;simp only [Op.operands,Call.operands,k,Array.mem_append];exact .inr (by simpa using r)
   rw [i,n]
  | _=>rfl
 ·intro s
  revert b
  generalize oM (bO f d v)=ρ;generalize oM f=w;intro b;exact O1 b s
theorem qq {o:Oper} {f:Fr} {d:Option Nat} {v:AV} (h:∀ t,d=some t->t ∉ o.looksAt ops):keyOf (bO f d v) o=keyOf f o:=by
 refine List.map_congr_left fun x b=>Kg fun t ht e=>h t ht ?_;subst e;simp only [Oper.looksAt,List.mem_append,List.mem_filterMap];exact .inl ⟨.tmp t,by simpa using b,rfl⟩
theorem Bj {f:Fr} {d e:Option Nat} {u v:AV} (h:∀ t,d=some t->e≠some t):bO (bO f d u) e v=bO (bO f e v) d u:=by
 cases d with
 | none=>rfl
 | some d =>
  cases e with
  | none=>rfl
  | some e =>
   have b:e≠d:=fun x=>h d rfl (by rw [x]);funext t;simp only [bO,oO];by_cases c:t=e
   ·subst c;rw [if_pos rfl,if_neg b,if_pos rfl]
   ·rw [if_neg c];by_cases h2:t=d
    ·subst h2;rw [if_pos rfl,if_pos rfl]
    ·rw [if_neg h2,if_neg h2,if_neg c]
def S1 (ops:Array Oper) (A:List (List Nat)) (i j:Nat) (b oj:Oper):Prop :=
 b.apart ops oj=true/\(A.getD j []).contains i=false/\(A.getD i []).contains j=false
theorem vJ {o:Oper} {f:Fr} {d:Option Nat} {v:AV} (h:∀ t,d=some t->t ∉ o.looksAt ops) {s:AS} {R:AV->AS->Prop}:Bi P T o (bO f d v) s R↔Bi P T o f s R:=by
 obtain ⟨_,h2,h3⟩:=eZ (T:=T) (ops:=ops) (f:=f) (v:=v) h;unfold Bi;rw [h2];constructor
 ·intro c;split at c
  ·exact c
  ·obtain ⟨v,s',a,b⟩:=c;exact ⟨v,s',by rw [<- h3];exact a,b⟩
 ·intro c;split at c
  ·exact c
  ·obtain ⟨v,s',a,b⟩:=c;exact ⟨v,s',by rw [h3];exact a,b⟩
theorem My {i j:Nat} (h:M.contains i=true->M.contains j=false) (k k':List AV) (v v':AV) (c:AS->Prop):mN C M i k v (mN C M j k' v' c)=mN C M j k' v' (mN C M i k v c):=by
 unfold mN;cases hi:M.contains i with
 | false=>simp
 | true=>rw [h hi];simp
theorem zy {j : Nat} {oj : Oper} (Y : ops[j]? = some oj) : ∀ (pre post : List Nat) (f : Fr) (F : jQ) (c : AS -> Prop), (∀ i ∈ pre, ∀ r, ops[i]? = some r -> S1 ops A i j r oj) -> (∀ i ∈ pre, M.contains i = true -> M.contains j = false) ->
    dq P T n ops A H V S X C M s K (pre ++ j :: post) f F c -> rP P T n ops A H V S X C M s j oj f F c (dq P T n ops A H V S X C M s K (pre ++ post))
  | [], post, f, F, c, _, _, h => by simpa only [List.nil_append, dq, Y] using h
  | i :: pre, post, f, F, c, L, ao, h => by
    simp only [List.cons_append, dq] at h ⊢;cases ab : ops[i]? with
    | none => rw [ab] at h; exact h.elim
    | some r =>
      rw [ab] at h;simp only at h;obtain ⟨a0, a1, a7⟩ := L i (by simp) r ab;obtain ⟨w, a2, ad⟩ := Oper.apart_spec a0;have B : ∀ i ∈ pre, ∀ r, ops[i]? = some r -> S1 ops A i j r oj := fun i hi => L i (List.mem_cons_of_mem _ hi);have O : ∀ i ∈ pre, M.contains i = true -> M.contains j = false := fun i hi => ao i (List.mem_cons_of_mem _ hi);have Q := ao i (by simp);have a3 : ∀ k v, M.contains i = false -> ∀ c, mN C M i k v c = c := fun k v h c => by simp only [mN, h, Bool.false_eq_true, if_false]
      have back : ∀ (u : AV) (D : jQ) (c2 : AS -> Prop), (∀ p ∈ D, (A.getD j []).contains p.1 = true -> p ∈ F) -> (M.contains j = true -> c2 = c) -> ∀ K1 K2 : Fr -> jQ -> (AS -> Prop) -> Prop,
          rP P T n ops A H V S X C M s j oj (bO f r.dst u) D c2 K1 ->
          ((dR n oj.dst = true /\ cY ops f oj = some false /\ M.contains j = false) \/
           (dR n oj.dst = true /\ cY ops f oj = some true /\ H.contains j = true /\ (∀ s', X s s' -> aM s' -> (∀ p ∈ F, (A.getD j []).contains p.1 = true -> p.2 s') -> (M.contains j = true -> c s') -> Bi P T oj f s' fun v s'' => (if M.contains j then X s' s'' /\ C j (keyOf f oj) v s'' else Ext s' s'') /\ S j (keyOf f oj) v s'' /\ V j (keyOf f oj) v) /\ ∃ v, V j (keyOf f oj) v) \/
           (dR n oj.dst = true /\ cY ops f oj = some true /\ H.contains j = false /\ M.contains j = false /\ lO oj.op = true /\ ∃ v, cF T oj.op (oM f) s = some (v, s) /\ ∀ s', X s s' -> aM s' -> cF T oj.op (oM f) s' = some (v, s'))) := by
        intro u D c2 ae al K1 K2 hs;obtain ⟨hd, hs⟩ := hs;obtain ⟨l1, l2, l3⟩ := eZ (T := T) (ops := ops) (o := oj) (f := f) (d := r.dst) (v := u) w;rw [l1, qq (ops := ops) w] at hs;cases x : cY ops f oj with
        | none => rw [x] at hs; exact hs.elim
        | some b =>
          rw [x] at hs;cases b with
          | false => exact .inl ⟨hd, rfl, hs.1⟩
          | true =>
            simp only at hs;by_cases z : H.contains j = true
            · rw [if_pos z] at hs;refine .inr (.inl ⟨hd, rfl, z, fun s' G I R => ?_, hs.2.1⟩);exact fun hm => (vJ w).1 (hs.1 s' G I (fun p hm hc => R p (ae p hm hc) hc) fun hj => by rw [al hj]; exact hm hj)
            · rw [if_neg z] at hs;obtain ⟨h0, h1, v, h2, _⟩ := hs;exact .inr (.inr ⟨hd, rfl, by simpa using z, h0, h1, v, by rw [<- l3]; exact h2.1, fun s' G x => by rw [<- l3]; exact h2.2 s' G x⟩)
      have li := fun (u : AV) => eZ (T := T) (ops := ops) (o := r) (f := f) (d := oj.dst) (v := u) ad;have J : ∀ u v, bO (bO f r.dst u) oj.dst v = bO (bO f oj.dst v) r.dst u := fun u v => Bj a2;obtain ⟨am, h⟩ := h;cases U : cY ops f r with
      | none => rw [U] at h; exact h.elim
      | some bi =>
        rw [U] at h;cases bi with
        | false =>
          simp only at h;obtain ⟨h0, h⟩ := h;have m := zy Y pre post _ F c B O h;have y : ∀ v D c2, dq P T n ops A H V S X C M s K (pre ++ post) (bO (bO f r.dst .undef) oj.dst v) D c2 -> rP P T n ops A H V S X C M s i r (bO f oj.dst v) D c2 (dq P T n ops A H V S X C M s K (pre ++ post)) := by
            intro v D c2 z;refine ⟨am, ?_⟩;rw [(li v).1, U];simp only;rw [<- J]; exact ⟨h0, z⟩
          obtain ⟨l1, l2, l3⟩ := eZ (T := T) (ops := ops) (o := oj) (f := f) (d := r.dst) (v := .undef) w;obtain ⟨hd, m⟩ := m;refine ⟨hd, ?_⟩;rw [l1, qq (ops := ops) w] at m;cases x : cY ops f oj with
          | none => rw [x] at m; exact m
          | some b =>
            rw [x] at m;cases b with
            | false => exact ⟨m.1, y _ _ _ m.2⟩
            | true =>
              simp only at m ⊢;by_cases z : H.contains j = true
              · rw [if_pos z] at m ⊢;exact ⟨fun s' G I R hm => (vJ w).1 (m.1 s' G I R hm), m.2.1, fun v hv => y _ _ _ (m.2.2 v hv)⟩
              · rw [if_neg z] at m ⊢;obtain ⟨an, h1, v, h2, h3⟩ := m;exact ⟨an, h1, v, ⟨by rw [<- l3]; exact h2.1, fun s' G x => by rw [<- l3]; exact h2.2 s' G x⟩, y _ _ _ h3⟩
        | true =>
          simp only at h;by_cases Z : H.contains i = true
          · rw [if_pos Z] at h;obtain ⟨hA, ⟨v0, ar⟩, hK⟩ := h;have m := fun v hv => zy Y pre post _ _ _ B O (hK v hv);have ae : ∀ v, ∀ p ∈ F ++ [(i, S i (keyOf f r) v)], (A.getD j []).contains p.1 = true -> p ∈ F := by
              intro v p R hc;rcases List.mem_append.1 R with h | h
              · exact h
              · obtain rfl := List.mem_singleton.1 h;rw [a1] at hc; cases hc
            have y : ∀ v D c2, (∀ p ∈ F, p ∈ D) -> (M.contains i = true -> c2 = c) -> (∀ u, V i (keyOf f r) u -> dq P T n ops A H V S X C M s K (pre ++ post) (bO (bO f r.dst u) oj.dst v) (D ++ [(i, S i (keyOf f r) u)]) (mN C M i (keyOf f r) u c2)) ->
                rP P T n ops A H V S X C M s i r (bO f oj.dst v) D c2 (dq P T n ops A H V S X C M s K (pre ++ post)) := by
              intro v D c2 a4 al z;refine ⟨am, ?_⟩;rw [(li v).1, U, qq (ops := ops) ad];simp only;rw [if_pos Z];exact ⟨fun s' G I R hm => (vJ ad).2 (hA s' G I (fun p hm hc => R p (a4 p hm) hc) fun hi => by rw [<- al hi]; exact hm hi), ⟨v0, ar⟩, fun u hu => by rw [<- J]; exact z u hu⟩
            have l := fun (u : AV) => eZ (T := T) (ops := ops) (o := oj) (f := f) (d := r.dst) (v := u) w;have a5 : ∀ v, M.contains j = true -> mN C M i (keyOf f r) v c = c := fun v hj => a3 _ _ (by
              cases hi : M.contains i with
              | false => rfl
              | true => rw [Q hi] at hj; cases hj) c
            rcases back v0 _ _ (ae v0) (a5 v0) _ (fun _ _ _ => True) (m v0 ar) with ⟨hd, x, W⟩ | ⟨hd, x, z, aw, a6⟩ | ⟨hd, x, z, W, hq, v, hv⟩
            · refine ⟨hd, ?_⟩;rw [x];refine ⟨W, y _ F c (fun _ h => h) (fun _ => rfl) fun u hu => ?_⟩;have := (m u hu).2;rw [(l u).1, x, qq (ops := ops) w] at this;exact this.2
            · refine ⟨hd, ?_⟩;rw [x];simp only;rw [if_pos z];refine ⟨aw, a6, fun v hv => y v _ _ (fun p R => List.mem_append_left _ R) (fun hi => by simp only [mN, Q hi, Bool.false_eq_true, if_false]) fun u hu => ?_⟩;have := (m u hu).2;rw [(l u).1, x, qq (ops := ops) w] at this;simp only at this;rw [if_pos z] at this;rw [My Q];refine zx _ _ _ _ _ ?_ (this.2.2 v hv);intro p;simp only [List.mem_append, List.mem_singleton];constructor
              · rintro ((h | h) | h)
                · exact .inl (.inl h)
                · exact .inr h
                · exact .inl (.inr h)
              · rintro ((h | h) | h)
                · exact .inl (.inl h)
                · exact .inr h
                · exact .inl (.inr h)
            · refine ⟨hd, ?_⟩;rw [x];simp only;rw [if_neg (by rw [z]; simp)];refine ⟨W, hq, v, hv, y v F c (fun _ h => h) (fun _ => rfl) fun u hu => ?_⟩;have := (m u hu).2;rw [(l u).1, x, qq (ops := ops) w] at this;simp only at this;rw [if_neg (by rw [z]; simp)] at this;obtain ⟨_, _, v', ⟨oQ, _⟩, hk⟩ := this;rw [(l u).2.2, hv.1] at oQ;have e : v = v' := by simpa using oQ
              rw [e]; exact hk
          · rw [if_neg Z] at h;obtain ⟨W, hq, u, hu, hK⟩ := h;have m := zy Y pre post _ F c B O hK;have y : ∀ v D c2, dq P T n ops A H V S X C M s K (pre ++ post) (bO (bO f r.dst u) oj.dst v) D c2 -> rP P T n ops A H V S X C M s i r (bO f oj.dst v) D c2 (dq P T n ops A H V S X C M s K (pre ++ post)) := by
              intro v D c2 z;refine ⟨am, ?_⟩;rw [(li v).1, U];simp only;rw [if_neg Z];exact ⟨W, hq, u, ⟨by rw [(li v).2.2]; exact hu.1, fun s' G x => by rw [(li v).2.2]; exact hu.2 s' G x⟩, by rw [<- J]; exact z⟩
            obtain ⟨l1, l2, l3⟩ := eZ (T := T) (ops := ops) (o := oj) (f := f) (d := r.dst) (v := u) w;obtain ⟨hd, m⟩ := m;refine ⟨hd, ?_⟩;rw [l1, qq (ops := ops) w] at m;cases x : cY ops f oj with
            | none => rw [x] at m; exact m
            | some b =>
              rw [x] at m;cases b with
              | false => exact ⟨m.1, y _ _ _ m.2⟩
              | true =>
                simp only at m ⊢;by_cases z : H.contains j = true
                · rw [if_pos z] at m ⊢;exact ⟨fun s' G I R hm => (vJ w).1 (m.1 s' G I R hm), m.2.1, fun v hv => y _ _ _ (m.2.2 v hv)⟩
                · rw [if_neg z] at m ⊢;obtain ⟨an, h1, v, h2, h3⟩ := m;exact ⟨an, h1, v, ⟨by rw [<- l3]; exact h2.1, fun s' G x => by rw [<- l3]; exact h2.2 s' G x⟩, y _ _ _ h3⟩
def Ef (ops:Array Oper) (m:Nat) (A:List (List Nat)) (bs:List Nat):Bool :=
 decide (Region.before ops=bs.toArray)&&decide (m<=ops.size) &&
 (List.range ops.size).all fun i=>(ops[i]?).all (fun o=>o.after.toList.all fun e=>decide (e.on<i)||!Region.binds .any e) &&
  if m<=i then (List.range i).all fun j=>(bs.getD i 0).testBit j
  else ((A.getD i []).all fun j=>(bs.getD i 0).testBit j&&decide (j<i)) &&
   (List.range i).all fun j=>(bs.getD i 0).testBit j||((ops[j]?).any fun x=>(ops[i]?).any fun y=>x.apart ops y)
structure wZ (ops:Array Oper) (m:Nat) (A:List (List Nat)):Prop where
 le:m<=ops.size
 back:∀ (i:Nat) o,ops[i]? = some o->∀ e∈o.after.toList,Region.binds .any e=true->e.on<i
 tail:∀ i,i<ops.size->m<=i->∀ j,j<i->gM ops j i=true
 Uv:∀ i,i<m->∀ j∈A.getD i [],gM ops j i=true/\j<i
 free:∀ i,i<m->∀ j,j<i->gM ops j i=true\/∃ x y,ops[j]? = some x/\ops[i]? = some y/\x.apart ops y=true
theorem GW {ops:Array Oper} {m:Nat} {A:List (List Nat)} {bs:List Nat} (h:Ef ops m A bs=true):wZ ops m A:=by
 simp only [Ef,Bool.and_eq_true,decide_eq_true_eq,List.all_eq_true,List.mem_range] at h;obtain ⟨⟨hb,hm⟩,h⟩:=h;have b:∀ j i,gM ops j i=(bs.getD i 0).testBit j:=by
  intro j i;unfold gM;rw [hb];simp [List.getD_eq_getElem?_getD]
 have d:∀ (i:Nat) o,ops[i]? = some o->i<ops.size:=by
  intro i o c;rcases Nat.lt_or_ge i ops.size with h | h
  ·exact h
  ·simp [Array.getElem?_eq_none h] at c
 refine ⟨hm,fun i o c e n k=>?_,fun i hi l j hj=>?_,fun i hi j hj=>?_,fun i hi j hj=>?_⟩
 ·have:=(h i (d i o c)).1;rw [c] at this;simp only [Option.all_some,List.all_eq_true,Bool.or_eq_true,decide_eq_true_eq] at this;rcases this e n with h | h
  ·exact h
  ·rw [k] at h;simp at h
 ·have:=(h i hi).2;rw [if_pos l] at this;rw [b];simp only [List.all_eq_true,List.mem_range] at this;exact this j hj
 ·have:=(h i (by omega)).2;rw [if_neg (by omega)] at this;simp only [Bool.and_eq_true,List.all_eq_true,decide_eq_true_eq] at this;rw [b];exact this.1 j hj
 ·have:=(h i (by omega)).2;rw [if_neg (by omega)] at this;simp only [Bool.and_eq_true,List.all_eq_true,List.mem_range,Bool.or_eq_true] at this;rcases this.2 j hj with h | h
  ·exact .inl (by rw [b];exact h)
  ·simp only [Option.any_eq_true] at h;obtain ⟨x,p,y,r,h⟩:=h;exact .inr ⟨x,y,p,r,h⟩
structure gV (ops:Array Oper) (listed:Array Bool) (p:Nat->Prop):Prop where
 size:listed.size=ops.size
 iff:∀ i,i<ops.size->(listed.getD i false=true↔p i)
theorem eT {ops:Array Oper} {listed:Array Bool} {p:Nat->Prop} (b:gV ops listed p) (i:Nat) :
  i∈Region.ready .any ops listed↔∃ o,ops[i]? = some o/\¬ p i/\∀ e∈o.after.toList,Region.binds .any e=true->listed.getD e.on false=true:=by
 unfold Region.ready;simp only [List.mem_filter,List.mem_range,Bool.and_eq_true,Bool.not_eq_true'];constructor
 ·rintro ⟨hi,c,h2⟩;refine ⟨ops[i],Array.getElem?_eq_getElem hi,?_,?_⟩
  ·intro d;have:=(b.iff i hi).2 d;simp only [Array.getD_eq_getD_getElem?] at c this;rw [Array.getElem?_eq_getElem (by rw [b.size];exact hi)] at c this;simp only [Option.getD_some] at c this;rw [c] at this;cases this
  ·intro e j hb;rw [Array.getElem?_eq_getElem hi] at h2;simp only [Option.map_some,Option.getD_some] at h2;have:=Array.all_eq_true'.1 h2 e (by simpa using j);rw [hb] at this;simpa using this
 ·rintro ⟨o,l,d,h⟩;have hi:i<ops.size:=by
   rcases Nat.lt_or_ge i ops.size with h | h
   ·exact h
   ·simp [Array.getElem?_eq_none h] at l
  refine ⟨hi,?_,?_⟩
  ·cases k:listed.getD i true with
   | false=>rfl
   | true =>
    exfalso;apply d;rw [<- b.iff i hi];simp only [Array.getD_eq_getD_getElem?] at k ⊢;rw [Array.getElem?_eq_getElem (by rw [b.size];exact hi)] at k ⊢;exact k
  ·rw [l];simp only [Option.map_some,Option.getD_some];rw [Array.all_eq_true'];intro e j;cases hb:Region.binds .any e with
   | false=>simp
   | true=>simp [h e (by simpa using j) hb]
theorem gV.set {ops:Array Oper} {listed:Array Bool} {p p':Nat->Prop} (b:gV ops listed p) {i:Nat} (d:∀ j,p' j↔(j=i\/p j)):gV ops (listed.setIfInBounds i true) p':=by
 refine ⟨by simp [b.size],fun j hj=>?_⟩;simp only [Array.getD_eq_getD_getElem?];rw [Array.getElem?_setIfInBounds];have:=b.iff j hj;simp only [Array.getD_eq_getD_getElem?] at this;by_cases h:i=j
 ·subst h;simp [b.size,hj,d]
 ·rw [if_neg h,d,this];constructor
  ·exact .inr
  ·rintro (c | c)
   ·exact absurd c.symm h
   ·exact c
theorem gV.down {ops:Array Oper} {m:Nat} {A:List (List Nat)} (j:wZ ops m A) {listed:Array Bool} {p:Nat->Prop} (c:gV ops listed p)
  (k:∀ i,i<ops.size->p i->∀ o,ops[i]? = some o->∀ e∈o.after.toList,Region.binds .any e=true->p e.on):Down ops listed:=by
 intro i o b l e d hb;have hi:i<ops.size:=by
  rcases Nat.lt_or_ge i ops.size with h | h
  ·exact h
  ·simp [Array.getElem?_eq_none h] at b
 have n:=j.back i o b e d hb;exact (c.iff e.on (by omega)).2 (k i hi ((c.iff i hi).1 l) o b e d hb)
theorem Eg (hT:TT.Ok P T) {m:Nat} (G:wZ ops m A) {Q:Exit->Fr->AS->Prop} {B:Nat} {Ee:bN} {s0:AS} {w0:World}:∀ (fuel k:Nat) (listed:Array Bool) (f:Fr) (s:AS) (γ:bN) (a:Act) (w:World),
  m<=k->k<=ops.size->gV ops listed (·<k)->ops.size - k<=fuel->fl P T n ops (ops.toList.drop k) f s (fun f s=>Q .normal f s)->mW γ n f a->Rel B γ s w->fK B Ee s0 w0 γ s w ->
  wpAny P .any ops (uS B Ee s0 w0 n Q) fuel listed a w:=by
 intro fuel
 induction fuel with
 | zero =>
  intro k listed f s γ a w hm L d M h b hr hd;have r:k=ops.size:=by omega
  subst r;rw [List.drop_eq_nil_of_le (by simp)] at h;refine ⟨?_,γ,f,s,b,hd,hr,h⟩;rw [List.eq_nil_iff_forall_not_mem];intro i hi;obtain ⟨o,p,C,_⟩:=(eT d i).1 hi;apply C;rcases Nat.lt_or_ge i ops.size with h | h
  ·exact h
  ·simp [Array.getElem?_eq_none h] at p
 | succ fuel K =>
  intro k listed f s γ a w hm L d M h b hr hd;rcases Nat.lt_or_ge k ops.size with x | O
  ·have H:ops.toList.drop k=ops[k]::ops.toList.drop (k+1):=by
    rw [List.drop_eq_getElem_cons (by simpa using x)];simp
   have y:ops[k]? = some ops[k]:=Array.getElem?_eq_getElem x;have l:∀ i,i∈Region.ready .any ops listed->i=k:=by
    intro i hi;obtain ⟨o,p,C,D⟩:=(eT d i).1 hi;have I:i<ops.size:=by
     rcases Nat.lt_or_ge i ops.size with h | h
     ·exact h
     ·simp [Array.getElem?_eq_none h] at p
    rcases Nat.lt_trichotomy i k with h | h | h
    ·exact absurd h C
    ·exact h
    ·exfalso;have z:=d.down G (fun i _ R o p e D hb=>by have:=G.back i o p e D hb;omega);have:=jf z i o p D (G.tail i I (by omega) k h);have:=(d.iff k x).1 this;omega
   refine ⟨fun c=>?_,fun i hi=>?_⟩
   ·exfalso;have:k∈Region.ready .any ops listed:=by
     refine (eT d k).2 ⟨_,y,by omega,fun e D hb=>?_⟩;have:=G.back k _ y e D hb;exact (d.iff e.on (by omega)).2 this
    rw [c] at this;cases this
   ·obtain rfl:=l i hi;rw [H] at h;simp only [fl] at h;have F:gV ops (listed.setIfInBounds i true) (·<i+1):=d.set fun j=>by omega
    unfold wpOp;rw [y];simp only;split at h
    ·rename_i J;rw [ef b J,if_pos rfl];exact .inl (je hT h b hr fun γ' f' s' a' w' S h2 h3 h4=>K (i+1) _ f' s' γ' a' w' (by omega) (by omega) F (by omega) h4 S h3 (hd.trans h2))
    ·rename_i J;rw [ef b J,if_neg (by simp)];exact K (i+1) _ _ s γ _ w (by omega) (by omega) F (by omega) h.2 (b.put h.1 (oN γ)) hr hd
    ·exact h.elim
  ·have r:k=ops.size:=by omega
   subst r;rw [List.drop_eq_nil_of_le (by simp)] at h;have c:Region.ready .any ops listed=[]:=by
    rw [List.eq_nil_iff_forall_not_mem];intro i hi;obtain ⟨o,p,C,_⟩:=(eT d i).1 hi;apply C;rcases Nat.lt_or_ge i ops.size with h | h
    ·exact h
    ·simp [Array.getElem?_eq_none h] at p
   refine ⟨fun _=>⟨γ,f,s,b,hd,hr,h⟩,fun i hi=>?_⟩;rw [c] at hi;cases hi
theorem Kh (hT:TT.Ok P T) (ba:1<=s.st) {m:Nat} (K:wZ ops m A) (hS:∀ i k v s s',Ext s s'->S i k v s->S i k v s') {Q:Exit->Fr->AS->Prop} {B:Nat} {Ee:bN} {s0:AS} {w0:World} :
  ∀ (fuel:Nat) (q:List Nat) (listed:Array Bool) (f:Fr) (F:jQ) (s1:AS) (γ:bN) (a:Act) (w:World),
  q.Pairwise (·<·)->(∀ i∈q,i<m)->gV ops listed (fun i=>i<m/\i ∉ q)->q.length+(ops.size - m)<=fuel ->
  VH P T n ops A H V S s (fun f s'=>fl P T n ops (ops.toList.drop m) f s' (fun f s=>Q .normal f s)) q f F->Ext s s1->(H=[]->s1=s)->(∀ p∈F,p.2 s1)->(∀ p∈F,∀ s s',Ext s s'->p.2 s->p.2 s') ->
  mW γ n f a->Rel B γ s1 w->fK B Ee s0 w0 γ s1 w->Down ops listed ->
  wpAny P .any ops (uS B Ee s0 w0 n Q) fuel listed a w:=by
 intro fuel
 induction fuel with
 | zero =>
  intro q listed f F s1 γ a w j L J hf h l M hF r G hr hd z;obtain rfl:q=[]:=List.length_eq_zero_iff.1 (by omega);have hle:=K.le;refine Eg hT K 0 m listed f s1 γ a w (Nat.le_refl _) K.le ⟨J.size,fun i hi=>by rw [J.iff i hi];simp⟩ (by omega) (h s1 l hr.Mi hF trivial M) G hr hd
 | succ fuel ih =>
  intro q listed f F s1 γ a w j L J hf h l M hF r G hr hd z;have hle:=K.le;cases q with
  | nil=>exact Eg hT K (fuel+1) m listed f s1 γ a w (Nat.le_refl _) K.le ⟨J.size,fun i hi=>by rw [J.iff i hi];simp⟩ (by simpa using hf) (h s1 l hr.Mi hF trivial M) G hr hd
  | cons W q' =>
   refine ⟨fun ao=>?_,fun i hi=>?_⟩
   ·exfalso;have a0:=L W (by simp);have:W∈Region.ready .any ops listed:=by
     refine (eT J W).2 ⟨_,Array.getElem?_eq_getElem (by omega),by simp,fun e he hb=>?_⟩;have:=K.back W _ (Array.getElem?_eq_getElem (by omega)) e he hb;refine (J.iff e.on (by omega)).2 ⟨by omega,?_⟩;simp only [List.mem_cons,not_or];refine ⟨by omega,fun hm=>?_⟩;have:=(List.pairwise_cons.1 j).1 e.on hm;omega
    rw [ao] at this;cases this
   ·obtain ⟨o,ho,hp,he⟩:=(eT J i).1 hi;have a1:i<ops.size:=by
     rcases Nat.lt_or_ge i ops.size with h | h
     ·exact h
     ·simp [Array.getElem?_eq_none h] at ho
    have X:i<m:=by
     rcases Nat.lt_or_ge i m with h | h
     ·exact h
     ·exfalso;have a0:=L W (by simp);have:=jf z i o ho he (K.tail i a1 h W (by omega));have:=(J.iff W (by omega)).1 this;exact this.2 (by simp)
    have a2:i∈W::q':=by
     by_cases h:i∈W::q'
     ·exact h
     ·exact absurd ⟨X,h⟩ hp
    obtain ⟨pre,post,hq⟩:=List.append_of_mem a2;rw [hq] at h j L J hf;have ad:∀ k∈pre,k<i:=by
     intro k I;have:=(List.pairwise_append.1 j).2.2 k I i (by simp);exact this
    have al:∀ k∈pre,∀ ok,ops[k]? = some ok->S1 ops A k i ok o:=by
     intro k I ok O;have Y:=ad k I;have a3:k<ops.size:=by omega
     have ar:gM ops k i=false:=by
      cases a4:gM ops k i with
      | false=>rfl
      | true =>
       have:=jf z i o ho he a4;have:=(J.iff k a3).1 this;exact absurd (by simp [I]:k∈pre++i::post) this.2
     refine ⟨?_,?_,?_⟩
     ·rcases K.free i X k Y with h | ⟨x,y,hx,hy,h⟩
      ·rw [ar] at h;cases h
      ·rw [O] at hx;rw [ho] at hy;obtain rfl:=Option.some.inj hx;obtain rfl:=Option.some.inj hy;exact h
     ·cases hc:(A.getD i []).contains k with
      | false=>rfl
      | true =>
       have:=(K.Uv i X k (by simpa using hc)).1;rw [ar] at this;cases this
     ·cases hc:(A.getD k []).contains i with
      | false=>rfl
      | true =>
       have:=(K.Uv k (by omega) i (by simpa using hc)).2;omega
    have d:=zy ho pre post f F _ al (by simp) h;have C:(pre++post).Pairwise (·<·):=by
     have:=List.pairwise_append.1 j;rw [List.pairwise_append];exact ⟨this.1,(List.pairwise_cons.1 this.2.1).2,fun x hx y hy=>this.2.2 x hx y (by simp [hy])⟩
    have ae:i ∉ pre++post:=by
     intro hm;rcases List.mem_append.1 hm with h | h
     ·have:=ad i h;omega
     ·have:=(List.pairwise_cons.1 (List.pairwise_append.1 j).2.1).1 i h;omega
    have am:gV ops (listed.setIfInBounds i true) (fun k=>k<m/\k ∉ pre++post):=by
     refine J.set fun k=>?_;simp only [List.mem_append,List.mem_cons,not_or];constructor
     ·rintro ⟨Z,h2,h3⟩;by_cases I:k=i
      ·exact .inl I
      ·exact .inr ⟨Z,h2,I,h3⟩
     ·rintro (rfl | ⟨Z,h2,h3,h4⟩)
      ·simp only [List.mem_append,not_or] at ae;exact ⟨X,ae⟩
      ·exact ⟨Z,h2,h4⟩
    have D:Down ops (listed.setIfInBounds i true):=by
     intro k ok O I e aw hb;have mono:listed.getD e.on false=true->(listed.setIfInBounds i true).getD e.on false=true:=by
      intro h;have a5:e.on<listed.size:=by
       rcases Nat.lt_or_ge e.on listed.size with h' | h'
       ·exact h'
       ·simp [Array.getD_eq_getD_getElem?,Array.getElem?_eq_none h'] at h
      simp only [Array.getD_eq_getD_getElem?,Array.getElem?_setIfInBounds] at h ⊢;split
      ·rename_i a6;subst a6;simp [a5]
      ·exact h
     by_cases Y:i=k
     ·subst Y;rw [ho] at O;obtain rfl:=Option.some.inj O;exact mono (he e aw hb)
     ·refine mono (z k ok O ?_ e aw hb);simp only [Array.getD_eq_getD_getElem?,Array.getElem?_setIfInBounds] at I ⊢;rw [if_neg Y] at I;exact I
    have hlen:(pre++post).length+(ops.size - m)<=fuel:=by simp at hf ⊢;omega
    have R:∀ k∈pre++post,k<m:=fun k I=>L k (by rcases List.mem_append.1 I with h | h <;> simp [h]);obtain ⟨U,d⟩:=d;unfold wpOp;rw [ho];simp only;cases hw:cY ops f o with
    | none=>rw [hw] at d;exact d.elim
    | some b =>
     rw [hw] at d;rw [ef G hw];cases b with
     | false =>
      rw [if_neg (by simp)];exact ih _ _ _ F s1 γ _ w C R am hlen d.2 l M hF r (G.put U (oN γ)) hr hd D
     | true =>
      rw [if_pos rfl];simp only at d;by_cases hh:H.contains i=true
      ·rw [if_pos hh] at d;obtain ⟨hA,_,hK⟩:=d;have hv:=hA s1 l hr.Mi (fun p hp _=>hF p hp) (fun _=>trivial);have an:Ed P T n o f s1 (fun f2 s2=>∃ v,f2=bO f o.dst v/\Ext s1 s2/\S i (keyOf f o) v s2/\V i (keyOf f o) v):=k7 U hv fun v s2 ⟨Z,h2,h3⟩=>⟨v,rfl,Z,h2,h3⟩;refine .inl (je hT an G hr ?_);rintro γ' f' s' a' w' Z h2 h3 ⟨v,rfl,h4,h5,h6⟩;refine ih _ _ _ _ s' γ' a' w' C R am hlen (hK v h6) (l.trans h4) (fun e=>by rw [e] at hh;cases hh) ?_ ?_ Z h3 (hd.trans h2) D
       ·intro p hp;rcases List.mem_append.1 hp with h | h
        ·exact r p h _ _ h4 (hF p h)
        ·obtain rfl:=List.mem_singleton.1 h;exact h5
       ·intro p hp;rcases List.mem_append.1 hp with h | h
        ·exact r p h
        ·obtain rfl:=List.mem_singleton.1 h;exact fun s s' he=>hS i _ v s s' he
      ·rw [if_neg hh] at d;obtain ⟨_,ab,v,⟨hv,a7⟩,hK⟩:=d;have a8:=a7 _ l hr.Mi;have a9:eS f o.op=none:=by
        unfold eS;split
        ·rename_i c hc;rw [hc] at ab;simp only [lO] at ab;split
         ·rename_i x hx;rw [hx] at ab;cases ab
         ·rfl
        ·rfl
       have an:Ed P T n o f s1 (fun f2 s2=>f2=bO f o.dst v/\s2=s1):=by
        refine ⟨U,.inl ?_⟩;rw [a9];exact ⟨v,s1,a8,rfl,rfl⟩
       refine .inl (je hT an G hr ?_);rintro γ' f' s' a' w' Z h2 h3 ⟨rfl,rfl⟩;exact ih _ _ _ F _ γ' a' w' C R am hlen hK l M hF r Z h3 (hd.trans h2) D
end
theorem j_.draw {P:Program} {T:TT} (hT:TT.Ok P T) (bW:P.follows .mixedOrders=true) {n id:Nat} {ops:Array Oper} {f:Fr} {s:AS} {Q:Exit->Fr->AS->Prop} (m:Nat) (A:List (List Nat)) (bs:List Nat) (H:List Nat)
  (V:Nat->List AV->AV->Prop) (S:Nat->List AV->AV->AS->Prop) (b:Ef ops m A bs=true) (e:∀ i k v s s',Ext s s'->S i k v s->S i k v s')
  (h:VH P T n ops A H V S s (fun f s'=>fl P T n ops (ops.toList.drop m) f s' (fun f s=>Q .normal f s)) (List.range m) f []):j_ P n (.region id ops true) f s Q:=by
 intro B γ a w j hr;have d:=GW b;have hle:=d.le;refine wp_region_any bW ?_;refine Kh hT hr.Qq d e ops.size (List.range m) _ f [] s γ a { w with drawn:=w.drawn+1 } List.pairwise_lt_range (fun i hi=>List.mem_range.1 hi) ⟨by simp,fun i hi=>?_⟩ (by simp;omega) h (Ext.refl s) (fun _=>rfl) (by simp) (by simp) j (hr.of_heap rfl) (fK.of_heap rfl) ?_
 ·simp [Array.getD_eq_getD_getElem?,hi]
 ·intro i o l c;simp only [Array.getD_eq_getD_getElem?] at c;by_cases hi:i<ops.size
  ·simp [hi] at c
  ·simp [hi] at c
end Go.Am
end

section
namespace Go.Am
def TT.of (P:Program):TT where
 cQ t:=P.underlying t
 eP t:=(P.info? t).map (·.size)
 FQ t:=(P.info? t).map (·.bytes)
 rO t:=(P.info? t).bind fun i=>i.zero.map A9
 Qh t:=!P.eqGuardType P.depth t
 SR t:=!P.stoodInHeld t
theorem TT.VI (P:Program):TT.Ok P (TT.of P) where
 cQ _ _ h:=h
 eP _ _ h:=h
 FQ _ _ h:=h
 rO t v h:=by
  simp only [TT.of,Option.bind_eq_some_iff,Option.map_eq_some_iff] at h;obtain ⟨i,hi,c,b,rfl⟩:=h;exact ⟨i,c,hi,b,fun γ=>DH γ c⟩
 Qh t h:=by simpa [TT.of] using h
 SR t h:=by simpa [TT.of] using h
section
variable (T:TT) (ρ:Operand->AV) (s:AS)
end
@[simp] theorem tU (k:IntKind) (n:Int):bJ (.int k n)=some [.int k n]:=rfl
@[simp] theorem Ue (b:Bool):bJ (.bool b)=some [.bool b]:=rfl
@[simp] theorem Uw (b:List UInt8):bJ (.str b)=some [.str b]:=rfl
@[simp] theorem Ux (a:Option (Nat×Nat)):bJ (.ptr a)=some [.ptr a]:=rfl
@[simp] theorem Uy (a:Option (Nat×Nat)) (n m:Nat) (e:Bool):bJ (.slc a n m e)=some [.slc a n m e]:=rfl
@[simp] theorem Uz:bJ .emp=some [.emp]:=rfl
@[simp] theorem UA (a:Option Nat):bJ (.map a)=some [.map a]:=rfl
theorem Mz (l:List AV):bJ (.agg l)=if l.all AV.one then some l else none:=rfl
@[simp] theorem S2 (k:IntKind) (n:Int):(AV.int k n).one=true:=rfl
@[simp] theorem VJ (b:Bool):(AV.bool b).one=true:=rfl
@[simp] theorem V7 (b:List UInt8):(AV.str b).one=true:=rfl
@[simp] theorem V8 (a:Option (Nat×Nat)):(AV.ptr a).one=true:=rfl
@[simp] theorem V9 (a:Option (Nat×Nat)) (n m:Nat) (e:Bool):(AV.slc a n m e).one=true:=rfl
@[simp] theorem V_ (a:Option Nat):(AV.map a).one=true:=rfl
section
variable (T:TT) (t:TypeId) (k:IntKind) (a b:Int)
end
def gd (ops:Array Oper) (f:Fr):Option (Nat×Bool)->Option Bool
 | none=>some true
 | some (j,want)=>c want (((ops[j]?).bind (·.dst)).map f)
where
 c (want:Bool):Option AV->Option Bool
  | some (.bool b)=>some (b==want)
  | some (.aQ _)=>some false
  | some _=>none
  | none=>some false
section
variable {P:Program} {T:TT} {n:Nat} {ops:Array Oper} {o:Oper} {os:List Oper} {f:Fr} {s:AS} {K:Fr->AS->Prop}
end
def VK (T:TT) (rs:List ResultVar) (R:AV->AS->Prop):Exit->Fr->AS->Prop:=fun e f s'=>match e with
 | .normal | .ret=>∃ v,xy T rs f s'=some v/\R v s'
 | _=>False
theorem aa.body {P:Program} {T:TT} (hT:TT.Ok P T) {g:FuncId} {fn:Func} {c:Code} {args:List AV} {s:AS} {R:AV->AS->Prop} {n:Nat} {rs:List ResultVar} (d:P.funcs[g]? = some fn) (e:fS P g=true) (hb:fn.body=some c)
  (i:args.length+(fn.ntmps - args.length)=n) (b:fn.results.toList=rs) (h:j_ P n c (ri args) s (VK T rs R)):aa P g args s R:=by
 subst i b;exact aa.SY hT d e hb h
theorem yh {T:TT} {t:TypeId} (h:T.agg t=some false) (s:AS) (l o:Nat):FR T t s (.ptr (some (l,o)))=av s l o:=by unfold FR;simp only [h]
theorem S6 {T:TT} {t n:Nat} (h:T.agg t=some true) (b:T.eP t=some n) (s:AS) (l o:Nat):FR T t s (.ptr (some (l,o)))=(aC s l o n).map .agg:=by unfold FR;simp only [h,b,Option.bind_some]
theorem UB {s:AS} {l o:Nat} {cs:List AV} {g:Nat} {ro:Bool} (h:s.h l=some (.cells cs g ro)):av s l o=cs[o]? := by simp [av,h]
theorem tV {s:AS} {l o n:Nat} {cs:List AV} {g:Nat} {ro:Bool} (h:s.h l=some (.cells cs g ro)) (b:o+n<=cs.length):aC s l o n=some ((cs.drop o).take n):=by simp [aC,h,b]
end Go.Am
end

section
namespace Go.Am
abbrev Ki:=FuncId->List AV->AS->Option (AV×AS)
def HV (P:Program) (call:Ki):Prop:=∀ g args s v s',call g args s=some (v,s')->aa P g args s fun b s2=>b=v/\s2=s'
section
variable {P:Program} {T:TT} (hT:TT.Ok P T) {call:Ki} (zz:HV P call)
include hT zz
end
/-! ### A region that draws its order -/
end Go.Am
end

section
namespace Go.Am
section
variable (P:Program) (T:TT) (n:Nat) (ops:Array Oper) (Wj:Nat->Option (AV×AS)) (vw:Nat->AS)
end
section
variable {P:Program} {T:TT} {n:Nat} {ops:Array Oper} {Wj:Nat->Option (AV×AS)} {vw:Nat->AS} {K:Fr->Prop}
end
/-! ### The heap,half way -/
section
variable {B:Nat} {Ee γ:bN} {s:AS} {w0 w:World} {m:Nat} {Wj:Nat->Option (AV×AS)} {L:Nat->Prop}
end
/-! ### Every order -/
section
variable {P:Program} {T:TT} {n:Nat} {ops:Array Oper} {Wj:Nat->Option (AV×AS)} {vw:Nat->AS} {s sm:AS}
end
end Go.Am
end

section
namespace Go.Am
section
variable {P:Program} {T:TT} (hT:TT.Ok P T) {call:Ki} (zz:HV P call) {n:Nat} {ops:Array Oper} {bs:List Nat} {m:Nat} {s:AS} {K:Fr->Prop}
include hT zz
end
section
variable {P:Program} {T:TT} (hT:TT.Ok P T) {call:Ki} (zz:HV P call) (bW:P.follows .mixedOrders=true)
include hT zz bW
end
/-! ### A region that draws the order of operations that need no heap -/
end Go.Am
end

section
namespace Go.Am
inductive TK where
 | int (k:IntKind)
 | bool
 | str
 | ptr
 | map
 | agg
 | any
 | aQ (l:List TK)
def VL (T:TT) (t:TypeId):TK:=match T.cQ t with
 | some (.int k)=>.int k
 | some .bool=>.bool
 | some .string=>.str
 | some (.pointer _)=>.ptr
 | some (.map _ _)=>.map
 | some (.struct _)=>.agg
 | some (.array _ _)=>.agg
 | _=>.any
def Kj (T:TT) (t:TypeId):TK:=match T.cQ t with
 | some (.tuple es)=>.aQ (es.toList.map (VL T))
 | _=>VL T t
/-! ### the words -/
def aU (k:IntKind) (o:Option AV) (K:Int->Prop):Prop:=∃ n,o=some (.int k n)/\K n
def Oc (o:Option AV) (K:Bool->Prop):Prop:=∃ b,o=some (.bool b)/\K b
def FN (o:Option AV) (K:List UInt8->Prop):Prop:=∃ b,o=some (.str b)/\K b
def pM (o:Option AV) (K:Option (Nat×Nat)->Prop):Prop:=∃ a,o=some (.ptr a)/\K a
def zk (o:Option AV) (K:Option Nat->Prop):Prop:=∃ r,o=some (.map r)/\K r
def oR (o:Option AV) (K:List AV->Prop):Prop:=∃ l,o=some (.agg l)/\K l
def dJ (o:Option AV) (K:AV->Prop):Prop:=∃ v,o=some v/\K v
def aR (o:Option (List AV)) (K:List AV->Prop):Prop:=∃ l,o=some l/\K l
def uT (o:Option Bool) (K:Bool->Prop):Prop:=∃ b,o=some b/\K b
def bz (o:Option AS) (K:AS->Prop):Prop:=∃ s,o=some s/\K s
def iF (o:Option (AV×AS)) (K:AV->AS->Prop):Prop:=∃ v s,o=some (v,s)/\K v s
def bG (o:Option AV) (K:Nat->Nat->Prop):Prop:=∃ l i,o=some (.ptr (some (l,i)))/\K l i
def ai (a:Option (Nat×Nat)) (K:Nat->Nat->Prop):Prop:=match a with
 | some (l,i)=>K l i
 | none=>False
def fm (n:Option Nat) (l:List AV) (P:Prop):Prop:=(l.all AV.one=true/\n=some l.length)/\P
def cH (l:List AV) (P:Prop):Prop:=l.all AV.one=true/\P
def af (b:Bool) (X Y:Prop):Prop:=match b with
 | true=>X
 | false=>Y
def NZ (b:Int) (P:Prop):Prop:=b≠0/\P
def NN (b:Int) (P:Prop):Prop:=0<=b/\P
def Od (n:Nat) (P:Prop):Prop:=(n:Int)<=9223372036854775807/\P
def ek (P:Program) (v:AV) (args:List AV) (s:AS) (R:AV->AS->Prop):Prop:=match v with
 | .func g cap=>aa P g (args++cap) s R
 | .tE g ft cap=>aa P g (ft++(args++cap)) s R
 | _=>False
def ak (o:AO) (s:AS) (K:Nat->AS->Prop):Prop:=K s.nl (s.new o)
def bt (A:(List AV->AS->Prop)->Prop):Prop:=∃ J,A J
def bA (A:(Nat->List AV->AS->Prop)->Nat->Prop):Prop:=∃ I m,A I m
def gx (A:(Nat->List AV->AV->AS->Prop)->(Nat->List AV->AV->Prop)->Prop):Prop:=∃ S V,(∀ i k v s s',Ext s s'->S i k v s->S i k v s')/\A S V
def sE (s:AS) (A:(AS->AS->Prop)->(Nat->List AV->AV->AS->Prop)->(AS->Prop)->(Nat->List AV->AV->AS->Prop)->(Nat->List AV->AV->Prop)->Prop):Prop :=
 ∃ X C c S V,(∀ s s',Ext s s'->X s s')/\(∀ a b c,X a b->X b c->X a c)/\(∀ i k v s s',Ext s s'->C i k v s->C i k v s')/\(∀ i k v s s',X s s'->S i k v s->S i k v s')/\(∀ s s',Ext s s'->c s->c s')/\c s/\A X C c S V
def Qx:List TK->List AV->(List AV->Prop)->Prop
 | [],acc,F=>F acc
 | .int k::ks,acc,F=>∃ n:Int,Qx ks (acc++[.int k n]) F
 | .bool::ks,acc,F=>∃ b:Bool,Qx ks (acc++[.bool b]) F
 | .str::ks,acc,F=>∃ b:List UInt8,Qx ks (acc++[.str b]) F
 | .ptr::ks,acc,F=>∃ a:Option (Nat×Nat),Qx ks (acc++[.ptr a]) F
 | .map::ks,acc,F=>∃ r:Option Nat,Qx ks (acc++[.map r]) F
 | .agg::ks,acc,F=>∃ l:List AV,Qx ks (acc++[.agg l]) F
 | _::ks,acc,F=>∃ v:AV,Qx ks (acc++[v]) F
theorem Eh:∀ {ks:List TK} {acc:List AV} {F:List AV->Prop},Qx ks acc F->∃ l,F l
 | [],acc,F,h=>⟨acc,h⟩
 | k::ks,acc,F,h=>by
  cases k <;> (simp only [Qx] at h;obtain ⟨_,h⟩:=h;exact Eh h)
def rd (k:TK) (o:Option AV) (K:AV->Prop):Prop:=match k with
 | .int k=>aU k o fun n=>K (.int k n)
 | .bool=>Oc o fun b=>K (.bool b)
 | .str=>FN o fun b=>K (.str b)
 | .ptr=>pM o fun a=>K (.ptr a)
 | .map=>zk o fun a=>K (.map a)
 | .agg=>oR o fun a=>K (.agg a)
 | .any=>dJ o K
 | .aQ ks=>Qx ks [] fun l=>o=some (.aQ l)/\K (.aQ l)
theorem rd_some {k:TK} {o:Option AV} {K:AV->Prop} (h:rd k o K):∃ v,o=some v/\K v:=by
 cases k with
 | aQ ks=>obtain ⟨l,b,h2⟩:=Eh h;exact ⟨_,b,h2⟩
 | _=>obtain ⟨n,b,h2⟩:=h;exact ⟨_,b,h2⟩
def VM (k:TK) (v:AV) (K:AV->Prop):Prop:=match k with
 | .int k=>∃ n,v=.int k n/\K (.int k n)
 | .bool=>∃ b,v=.bool b/\K (.bool b)
 | .str=>∃ b,v=.str b/\K (.str b)
 | .ptr=>∃ a,v=.ptr a/\K (.ptr a)
 | .map=>∃ a,v=.map a/\K (.map a)
 | .agg=>∃ a,v=.agg a/\K (.agg a)
 | .any=>K v
 | .aQ ks=>Qx ks [] fun l=>v=.aQ l/\K (.aQ l)
theorem zA {k:TK} {v:AV} {K:AV->Prop} (h:VM k v K):K v:=by
 cases k with
 | aQ ks=>obtain ⟨l,rfl,h2⟩:=Eh h;exact h2
 | any=>exact h
 | _=>obtain ⟨n,rfl,h2⟩:=h;exact h2
def cV (T:TT) (t:TypeId) (len:Nat) (parts:List (Nat×AV)):Option (List AV) :=
 match T.cQ t with
 | some (.slice elem) =>
  (T.eP elem).bind fun n=>(T.rO elem).bind fun z=>(bJ z).bind fun zc =>
   if zc.length=n/\len*n<=2 ^ 24 then iZ (fun i=>some (i*n,n)) (rep len zc) parts else none
 | _=>none
def Qy (op:BinOp) (k:IntKind) (a b:Int) (K:AV->Prop):Prop:=match op with
 | .add=>K (.int k (k.wrap (a+b)))
 | .sub=>K (.int k (k.wrap (a - b)))
 | .mul=>K (.int k (k.wrap (a*b)))
 | .quo=>NZ b (K (.int k (k.wrap (a.tdiv b))))
 | .rem=>NZ b (K (.int k (a.tmod b)))
 | .eql=>K (.bool (a==b))
 | .neq=>K (.bool (a != b))
 | .lss=>K (.bool (decide (a<b)))
 | .leq=>K (.bool (decide (a<=b)))
 | .gtr=>K (.bool (decide (a>b)))
 | .geq=>K (.bool (decide (a>=b)))
 | op=>aU k (bB op k a b) fun n=>K (.int k n)
def O2 (T:TT) (t:TypeId) (c:Bool):AV->AV->Bool
 | .agg _,.agg _=>T.Qh t
 | .nilIface,.nilIface=>c
 | .bad,_=>false
 | _,.bad=>false
 | _,_=>true
theorem HW (T:TT) (t:TypeId) (x y:Operand) (u v:AV):Mm T t x y u v=O2 T t (Ml x||Ml y) u v:=by
 cases u <;> cases v <;> rfl
def UC (T:TT) (op:BinOp) (t:TypeId) (c:Bool) (x y:AV) (K:AV->Prop):Prop :=
 match op,x,y with
 | .shl,.int k a,.int _ b=>NN b (K (.int k (k.wrap (a*2 ^ min b.toNat k.bits))))
 | .shr,.int k a,.int _ b=>NN b (K (.int k (a.fdiv (2 ^ min b.toNat k.bits))))
 | op,.int k a,.int k' b=>bif k==k' then Qy op k a b K else False
 | .add,.str a,.str b=>Od (a.length+b.length) (K (.str (a++b)))
 | .eql,.str a,.str b=>K (.bool (a==b))
 | .neq,.str a,.str b=>K (.bool !(a==b))
 | .lss,.str a,.str b=>K (.bool (iR a b))
 | .leq,.str a,.str b=>K (.bool (iR a b||a==b))
 | .gtr,.str a,.str b=>K (.bool !(iR a b||a==b))
 | .geq,.str a,.str b=>K (.bool !(iR a b))
 | .eql,.bool a,.bool b=>(match T.cQ t with | some .bool=>K (.bool (a==b)) | _=>False)
 | .neq,.bool a,.bool b=>(match T.cQ t with | some .bool=>K (.bool !(a==b)) | _=>False)
 | .eql,.agg xs,.agg ys=>bif T.Qh t then uT (iY T 100 t (.agg xs) (.agg ys)) fun b=>K (.bool b) else False
 | .neq,.agg xs,.agg ys=>bif T.Qh t then uT (iY T 100 t (.agg xs) (.agg ys)) fun b=>K (.bool !b) else False
 | .eql,.ptr a,.ptr b=>uT (iY T 100 t (.ptr a) (.ptr b)) fun b=>K (.bool b)
 | .neq,.ptr a,.ptr b=>uT (iY T 100 t (.ptr a) (.ptr b)) fun b=>K (.bool !b)
 | .eql,.map a,.map b=>uT (iY T 100 t (.map a) (.map b)) fun b=>K (.bool b)
 | .neq,.map a,.map b=>uT (iY T 100 t (.map a) (.map b)) fun b=>K (.bool !b)
 | .eql,x,y=>O2 T t c x y=true/\uT (iY T 100 t x y) fun b=>K (.bool b)
 | .neq,x,y=>O2 T t c x y=true/\uT (iY T 100 t x y) fun b=>K (.bool !b)
 | _,_,_=>False
def Qz:Option TypeDesc->Bool
 | some (.slice _)=>true
 | some (.func _ _ _)=>true
 | some (.interface _)=>true
 | _=>false
def Qi (T:TT) (t:TypeId) (c:Bool) (x y:AV):Option Bool:=if O2 T t c x y=true then iY T 100 t x y else none
def QB (T:TT) (op:BinOp) (t:TypeId) (c:Bool) (x y:AV) (K:AV->Prop):Prop :=
 match Qz (T.cQ t),op with
 | true,.eql=>uT (Qi T t c x y) fun b=>K (.bool b)
 | true,.neq=>uT (Qi T t c x y) fun b=>K (.bool !b)
 | _,op=>UC T op t c x y K
def MB (v:AV) (F:List AV->Prop):Prop:=match v with
 | .agg l=>cH l (F l)
 | .aQ _=>False
 | .bad=>False
 | v=>F [v]
def fG (T:TT) (t:TypeId) (s:AS) (l off:Nat) (v:AV) (K:AS->Prop):Prop:=match v with
 | .agg cs=>fm (T.eP t) cs (bz (cR s l off cs) K)
 | .aQ _=>False
 | .bad=>False
 | v=>bif T.eP t==some 1 then bz (cR s l off [v]) K else False
def UD (T:TT) (t:TypeId) (x:AV) (s:AS):Option (AV×AS):=match T.cQ t,x with
 | some .string,.str b=>some (.ptr (some (s.nl,0)),s.new (.pE b 0 false))
 | some (.map _ _),.map none=>some (.ptr (some (s.nl,0)),s.new (.fF none 0 [] 0 false))
 | some (.map _ _),.map (some m)=>match s.h m with
  | some (.map _ clock _)=>some (.ptr (some (s.nl,0)),s.new (.fF (some m) clock [] clock false))
  | _=>none
 | _,_=>none
def yj (x:AV) (s:AS):Option (Bool×List (AV×AV×AS)):=match x with
 | .ptr (some (l,0))=>match s.h l with
  | some (.fF none _ _ _ _)=>some (true,[])
  | some (.fF (some m) since seen last false)=>match s.h m with
   | some (.map es clock _) =>
    if seen≠[]/\es≠[]/\(es.all fun e=>decide (last<=e.2.2)) then none else
    let left:=es.filter fun e=>!seen.contains e.2.2
    let old:=left.filter fun e=>decide (e.2.2<since)
    let new:=left.filter fun e=>decide (since<=e.2.2)
    some (old.isEmpty,(old++new).map fun e=>(e.1,e.2.1,s.put l (.fF (some m) since (seen++[e.2.2]) clock false)))
   | _=>none
  | _=>none
 | _=>none
def Uf (o:Option (Bool×List (AV×AV×AS))) (A:Prop) (B:AV->AV->AS->Prop):Prop :=
 ∃ b l,o=some (b,l)/\(b=true->A)/\∀ k v s',(k,v,s')∈l->B k v s'
def Oe (o:Option (Bool×List (AV×AV×AS))) (s:AS) (K:AV->AS->Prop):Prop:=Uf o (K (.aQ [.bool false]) s) fun k v s'=>K (.aQ [.bool true,k,v]) s'
def WM (o:Option AV) (K:AV->AV->Prop):Prop:=∃ k v,o=some (.aQ [k,v])/\K k v
def MC (x:AV) (s:AS):Option (Option (Int×Int×AS)):=match x with
 | .ptr (some (l,0))=>match s.h l with
  | some (.pE b pos false) =>
   if pos<b.length then some (some (pos,(Utf8.decode ⟨b.toArray⟩ pos).1,s.put l (.pE b (pos+(Utf8.decode ⟨b.toArray⟩ pos).2) false)))
   else some none
  | _=>none
 | _=>none
def VN (o:Option (Option (Int×Int×AS))) (A:Prop) (B:Int->Int->AS->Prop):Prop :=
 ∃ r,o=some r/\(r=none->A)/\∀ i c s',r=some (i,c,s')->B i c s'
def Ug (o:Option (Option (Int×Int×AS))) (s:AS) (K:AV->AS->Prop):Prop:=VN o (K (.aQ [.bool false]) s) fun i c s'=>K (.aQ [.bool true,.int .i64 i,.int .i32 c]) s'
theorem GX {it:Operand} {ρ:Operand->AV} {s:AS} {K:AV->AS->Prop} (h:Oe (yj (ρ it) s) s K):∃ l,Cl (.next it false) ρ s=some l/\∀ p∈l,K p.1 p.2:=by
 obtain ⟨b,l,c,h2,h3⟩:=h;unfold yj at c;unfold Cl;simp only;split at c
 ·rename_i l0 d;rw [d];simp only;split at c
  ·rename_i since seen last ro i;obtain ⟨rfl,rfl⟩:true=b/\[]=l:=by simpa using c
   rw [i];exact ⟨_,rfl,fun p d=>by obtain rfl:=List.mem_singleton.1 d;exact h2 rfl⟩
  ·rename_i m since seen last i;rw [i];simp only;split at c
   ·rename_i es clock ro hm;rw [hm];simp only;split at c
    ·cases c
    ·rename_i k;rw [if_neg k];simp only [Option.some.injEq,Prod.mk.injEq] at c;obtain ⟨rfl,rfl⟩:=c;refine ⟨_,rfl,fun p d=>?_⟩;rcases List.mem_append.1 d with d | d
     ·split at d
      ·rename_i j;obtain rfl:=List.mem_singleton.1 d;exact h2 j
      ·cases d
     ·obtain ⟨e,j,rfl⟩:=List.mem_map.1 d;exact h3 _ _ _ (List.mem_map.2 ⟨e,j,rfl⟩)
   ·cases c
  ·cases c
 ·cases c
theorem O3 {it:Operand} {ρ:Operand->AV} {s:AS} {K:AV->AS->Prop} (h:Ug (MC (ρ it) s) s K):∃ l,Cl (.next it true) ρ s=some l/\∀ p∈l,K p.1 p.2:=by
 obtain ⟨r,c,h2,h3⟩:=h;unfold MC at c;unfold Cl;simp only;split at c
 ·rename_i l0 d;rw [d];simp only;split at c
  ·rename_i b pos i;rw [i];simp only [if_true];split at c
   ·rename_i e;obtain rfl:=Option.some.inj c;rw [if_pos e];exact ⟨_,rfl,fun p d=>by obtain rfl:=List.mem_singleton.1 d;exact h3 _ _ _ rfl⟩
   ·rename_i e;obtain rfl:=Option.some.inj c;rw [if_neg e];exact ⟨_,rfl,fun p d=>by obtain rfl:=List.mem_singleton.1 d;exact h2 rfl⟩
  ·cases c
 ·cases c
def Ei (T:TT) (tk:TK) (b:Builtin) (ts:List TypeId) (args:List AV) (s:AS) (K:AV->AS->Prop):Prop :=
 match b,ts,args with
 | .len,t::_,x::_=>aU .i64 (aO T t x s) fun n=>K (.int .i64 n) s
 | .cap,t::_,x::_=>aU .i64 (vu T t x) fun n=>K (.int .i64 n) s
 | .append,t::xt::_,dst::x::_=>iF (aI T t xt dst x s) K
 | .copy,t::_::_,dst::x::_=>iF (qm T t dst x s) K
 | .delete,t::_,m::k::_=>bz (pL T t m k s) fun s=>K .undef s
 | .clear,t::_,x::_=>bz (HO T t x s) fun s=>K .undef s
 | .max,_,l=>rd tk (JV true l) fun v=>K v s
 | .min,_,l=>rd tk (JV false l) fun v=>K v s
 | _,_,_=>False
def Qj (P:Program) (T:TT) (o:Oper) (ρ:Operand->AV) (s:AS) (K:AV->AS->Prop):Prop :=
 match o.op with
 | .move x=>K (ρ x) s
 | .assign x=>K (ρ x) s
 | .pick c a b=>(match ρ c with | .bool t=>af t (K (ρ a) s) (K (ρ b) s) | _=>False)
 | .alloc e=>(match T.rO e with | some z=>(bif z.cells.all AV.one then K (.ptr (some (s.nl,0))) (s.new (.cells z.cells 0 false)) else False) | none=>False)
 | .box _ x=>MB (ρ x) fun cs=>K (.ptr (some (s.nl,0))) (s.new (.cells cs 0 false))
 | .build t parts=>oR (aV T t (parts.toList.map fun p=>(p.1,ρ p.2))) fun cs=>K (.agg cs) s
 | .buildSlice t len parts=>aR (cV T t len (parts.toList.map fun p=>(p.1,ρ p.2))) fun cs=>K (.slc (some (s.nl,0)) len len true) (s.new (.cells cs (SU T t len) false))
 | .load t a=>(match ρ a with
  | .ptr a=>ai a fun l off=>(match T.agg t with
   | some true=>(match T.eP t with | some n=>aR (aC s l off n) fun cs=>K (.agg cs) s | none=>False)
   | some false=>rd (VL T t) (av s l off) fun v=>K v s
   | none=>False)
  | _=>False)
 | .store t a x=>(match ρ a with | .ptr a=>ai a fun l off=>fG T t s l off (ρ x) fun s=>K .undef s | _=>False)
 | .nilCheck x=>(match ρ x with
  | .ptr a=>ai a fun l off=>K (.ptr (some (l,off))) s
  | .func f c=>K (.func f c) s
  | .tE f ft c=>K (.tE f ft c) s
  | .iface t v=>K (.iface t v) s
  | _=>False)
 | .binOp op t x y _=>QB T op t (Ml x||Ml y) (ρ x) (ρ y) fun v=>K v s
 | .unOp op _ x=>(match op,ρ x with
  | .neg,.int k n=>K (.int k (k.wrap (0 - n))) s
  | .not,.bool b=>K (.bool !b) s
  | .xor,.int k n=>aU k (Ud .xor (.int k n)) fun m=>K (.int k m) s
  | op,v=>dJ (Ud op v) fun v=>K v s)
 | .convert src dst x=>(match T.cQ src,T.cQ dst,ρ x with
  | some (.slice _),some .string,v=>FN ((cN T src dst v s).map (·.1)) fun b=>K (.str b) s
  | some _,some (.int k),.int _ n=>K (.int k (k.wrap n)) s
  | some _,some .string,.str b=>K (.str b) s
  | some _,some (.slice _),v=>iF (cN T src dst v s) K
  | some _,some .string,v=>FN ((cN T src dst v s).map (·.1)) fun b=>K (.str b) s
  | _,_,_=>False)
 | .makeInterface t x=>(match T.cQ t with | some (.interface _)=>False | some _=>K (.iface t (ρ x)) s | none=>False)
 | .makeFunc (.func f) first captured=>bif first.isEmpty then K (.func f (captured.toList.map ρ)) s else K (.tE f (first.toList.map ρ) (captured.toList.map ρ)) s
 | .makeMap t none=>(match T.cQ t with | some _=>K (.map (some s.nl)) (s.new (.map [] 0 false)) | none=>False)
 | .makeSlice t l c=>iF (tJ T t (ρ l) (ρ c) s) K
 | .slice t x lo hi d=>rd (Kj T o.type) (aZ T t (ρ x) (lo.map ρ) (hi.map ρ) (d.map ρ)) fun v=>K v s
 | .fieldAddr t x f=>(match ρ x with | .ptr a=>ai a fun l off=>(match tI T t (.ptr (some (l,off))) f with | some v=>K v s | none=>False) | _=>False)
 | .field t x f=>(match T.cQ t,ρ x with
  | some (.struct fields),.agg cs=>(match fields[f]? with
   | some fd=>(match T.agg fd.type with
    | some true=>(match T.eP fd.type with | some n=>K (.agg ((cs.drop fd.offset).take n)) s | none=>False)
    | some false=>rd (VL T fd.type) (cs[fd.offset]?) fun v=>K v s
    | none=>False)
   | none=>False)
  | _,_=>False)
 | .indexAddr t x ix=>bG (ag T t (ρ x) (ρ ix)) fun l off=>K (.ptr (some (l,off))) s
 | .index t x ix=>rd (Kj T o.type) (i_ T t (ρ x) (ρ ix)) fun v=>K v s
 | .lookup t x ix ok=>rd (Kj T o.type) (dN T t (ρ x) (ρ ix) ok s) fun v=>K v s
 | .mapUpdate t m k v=>bz (dO T t (ρ m) (ρ k) (ρ v) s) fun s=>K .undef s
 | .insert t m k v=>bz (dO T t (ρ m) (ρ k) (ρ v) s) fun s=>K .undef s
 | .extract t i=>(match ρ t with | .aQ vs=>(match vs[i]? with | some v=>K v s | none=>False) | _=>False)
 | .call c=>(match c.callee with
  | .builtin b=>Ei T (Kj T o.type) b c.argTypes.toList (c.args.toList.map ρ) s K
  | .value x=>ek P (ρ x) (c.args.toList.map ρ) s fun v s=>VM (Kj T o.type) v fun v=>K v s
  | _=>False)
 | .range t x=>iF (UD T t (ρ x) s) K
 | .entry it=>rd (Kj T o.type) (vz (ρ it) s) fun v=>K v s
 | .sliceToArrayPointer t x=>pM (OR T t (ρ x)) fun a=>K (.ptr a) s
 | _=>False
section
variable {P:Program} {T:TT}
theorem Bk {b:Bool} {X Y:Prop} (h:af b X Y):if b=true then X else Y:=by cases b <;> simpa [af] using h
theorem yl {a:Option (Nat×Nat)} {F:Nat->Nat->Prop} (h:ai a F):∃ l o,a=some (l,o)/\F l o:=by
 unfold ai at h;split at h
 ·exact ⟨_,_,rfl,h⟩
 ·exact h.elim
theorem Of {t:TypeId} {len:Nat} {parts:List (Nat×AV)} {s:AS} {cs:List AV} (h:cV T t len parts=some cs):k5 T t len parts s=some (.slc (some (s.nl,0)) len len true,s.new (.cells cs (SU T t len) false)):=by
 unfold cV at h;unfold k5;cases hu:T.cQ t with
 | none=>rw [hu] at h;cases h
 | some d =>
  rw [hu] at h;cases d with
  | slice e =>
   simp only [Option.bind_eq_some_iff] at h;obtain ⟨n,c,z,i,zc,b,h⟩:=h;simp only [c,i,b,Option.bind_some];split at h
   ·rename_i j;rw [if_pos j,h];rfl
   ·cases h
  | _=>cases h
theorem MD {v:AV} {F:List AV->Prop} (h:MB v F):∃ cs,bJ v=some cs/\F cs:=by
 unfold MB at h;split at h
 ·rename_i l;obtain ⟨b,h2⟩:=h;exact ⟨l,by simp only [bJ,AV.cells,b,if_true],h2⟩
 ·exact h.elim
 ·exact h.elim
 ·rename_i b h2 h3;refine ⟨[v],?_,h⟩;cases v <;> first | rfl | exact (b _ rfl).elim | exact (h2 _ rfl).elim | exact (h3 rfl).elim
theorem ME {t:TypeId} {s:AS} {l off:Nat} {v:AV} {K:AS->Prop} (h:fG T t s l off v K):∃ s',SS T t s (.ptr (some (l,off))) v=some s'/\K s':=by
 unfold fG at h;split at h
 ·rename_i cs;obtain ⟨⟨b,h2⟩,s',h3,h4⟩:=h;refine ⟨s',?_,h4⟩;simp only [SS,bJ,AV.cells,b,if_true,Option.bind_some,h2,h3]
 ·exact h.elim
 ·exact h.elim
 ·rename_i b h2 h3;cases hs:(T.eP t==some 1) with
  | false=>rw [hs] at h;exact h.elim
  | true =>
   rw [hs] at h;obtain ⟨s',h4,d⟩:=h;have c:T.eP t=some 1:=by simpa using hs
   refine ⟨s',?_,d⟩;have e:bJ v=some [v]:=by cases v <;> first | rfl | exact (b _ rfl).elim | exact (h2 _ rfl).elim | exact (h3 rfl).elim
   simp only [SS,e,Option.bind_some,c,List.length_cons,List.length_nil,Nat.zero_add,if_true,h4]
theorem O4 {op:BinOp} {k:IntKind} {a b:Int} {K:AV->Prop} (h:Qy op k a b K):∃ v,bB op k a b=some v/\K v:=by
 unfold Qy at h;split at h
 case h_4=>exact ⟨_,by simp only [bB,if_neg h.1],h.2⟩
 case h_5=>exact ⟨_,by simp only [bB,if_neg h.1],h.2⟩
 case h_12=>obtain ⟨n,c,h2⟩:=h;exact ⟨_,c,h2⟩
 all_goals exact ⟨_,by simp only [bB],h⟩
theorem QC {op:BinOp} {t:TypeId} {x y:Operand} {u v:AV} {K:AV->Prop} (h:UC T op t (Ml x||Ml y) u v K):Mm T t x y u v=true/\∃ r,kO T op t u v=some r/\K r:=by
 unfold UC at h;split at h
 ·rename_i k a k' b;exact ⟨rfl,_,by simp only [kO];rw [if_neg (by have:=h.1;omega)],h.2⟩
 ·rename_i k a k' b;exact ⟨rfl,_,by simp only [kO];rw [if_neg (by have:=h.1;omega)],h.2⟩
 ·rename_i op k a k' b c h2;refine ⟨rfl,?_⟩;cases i:(k==k') with
  | false=>rw [i] at h;exact h.elim
  | true =>
   rw [i] at h;obtain rfl:k=k':=by simpa using i
   obtain ⟨r,hr,l⟩:=O4 h;refine ⟨r,?_,l⟩;rw [<- hr];cases op <;> first | (exact absurd rfl c) | (exact absurd rfl h2) | simp only [kO,if_true]
 ·exact ⟨rfl,_,by simp only [kO];rw [if_pos (by have:=h.1;simpa using this)],h.2⟩
 ·exact ⟨rfl,_,by simp only [kO],h⟩
 ·exact ⟨rfl,_,by simp only [kO],h⟩
 ·exact ⟨rfl,_,by simp only [kO],h⟩
 ·exact ⟨rfl,_,by simp only [kO],h⟩
 ·exact ⟨rfl,_,by simp only [kO],h⟩
 ·exact ⟨rfl,_,by simp only [kO],h⟩
 ·rename_i a b;split at h
  ·rename_i hu;exact ⟨rfl,_,by simp only [kO,iY,hu,Option.map_some],h⟩
  ·exact h.elim
 ·rename_i a b;split at h
  ·rename_i hu;exact ⟨rfl,_,by simp only [kO,iY,hu,Option.map_some],h⟩
  ·exact h.elim
 ·rename_i xs ys;cases d:T.Qh t with
  | false=>rw [d] at h;exact h.elim
  | true=>rw [d] at h;obtain ⟨b,c,h2⟩:=h;exact ⟨d,_,by simp only [kO,c,Option.map_some],h2⟩
 ·rename_i xs ys;cases d:T.Qh t with
  | false=>rw [d] at h;exact h.elim
  | true=>rw [d] at h;obtain ⟨b,c,h2⟩:=h;exact ⟨d,_,by simp only [kO,c,Option.map_some],h2⟩
 ·obtain ⟨b,c,h2⟩:=h;exact ⟨rfl,_,by simp only [kO,c,Option.map_some],h2⟩
 ·obtain ⟨b,c,h2⟩:=h;exact ⟨rfl,_,by simp only [kO,c,Option.map_some],h2⟩
 ·obtain ⟨b,c,h2⟩:=h;exact ⟨rfl,_,by simp only [kO,c,Option.map_some],h2⟩
 ·obtain ⟨b,c,h2⟩:=h;exact ⟨rfl,_,by simp only [kO,c,Option.map_some],h2⟩
 ·obtain ⟨j,b,c,h2⟩:=h;refine ⟨by rw [HW];exact j,.bool b,?_,h2⟩;unfold kO;split <;> first | (simp_all;done) | (exfalso;simp_all;rename_i e;exact e _ _ _ _ rfl rfl rfl rfl) | (exfalso;rename_i e;simp_all;exact e _ _ _ _ rfl rfl rfl rfl)
 ·obtain ⟨j,b,c,h2⟩:=h;refine ⟨by rw [HW];exact j,.bool !b,?_,h2⟩;unfold kO;split <;> first | (simp_all;done) | (exfalso;simp_all;rename_i e;exact e _ _ _ _ rfl rfl rfl rfl) | (exfalso;rename_i e;simp_all;exact e _ _ _ _ rfl rfl rfl rfl)
 ·exact h.elim
theorem O5 {op:BinOp} {t:TypeId} {x y:Operand} {u v:AV} {K:AV->Prop} (h:QB T op t (Ml x||Ml y) u v K):Mm T t x y u v=true/\∃ r,kO T op t u v=some r/\K r:=by
 unfold QB at h;have key:∀ b,Qi T t (Ml x||Ml y) u v=some b->Mm T t x y u v=true/\iY T 100 t u v=some b:=by
  intro b hb;unfold Qi at hb;split at hb
  ·rename_i p;exact ⟨by rw [HW];exact p,hb⟩
  ·cases hb
 have i:Qz (T.cQ t)=true->∀ b,iY T 100 t u v=some b->kO T .eql t u v=some (.bool b)/\kO T .neq t u v=some (.bool !b):=by
  intro hd b hb;have:∀ d,T.cQ t=some d->Qz (some d)=true:=fun d h=>by rw [<- h];exact hd
  have c:(∀ k n k' n',¬ (u=.int k n/\v=.int k' n'))/\(∀ a b,¬ (u=.str a/\v=.str b)):=by
   cases hu:T.cQ t with
   | none=>rw [hu] at hd;cases hd
   | some d =>
    have j:=this d hu;refine ⟨fun k n k' n' e=>?_,fun a b e=>?_⟩
    ·obtain ⟨rfl,rfl⟩:=e;cases d <;> first | (cases j;done) | (simp only [iY,hu] at hb;cases hb)
    ·obtain ⟨rfl,rfl⟩:=e;cases d <;> first | (cases j;done) | (simp only [iY,hu] at hb;cases hb)
  constructor
  ·unfold kO;split <;> first
    | (exact absurd ⟨rfl,rfl⟩ (c.1 _ _ _ _))
    | (exact absurd ⟨rfl,rfl⟩ (c.2 _ _))
    | (rename_i e;cases e;done)
    | (rw [hb];rfl)
    | simp_all
  ·unfold kO;split <;> first
    | (exact absurd ⟨rfl,rfl⟩ (c.1 _ _ _ _))
    | (exact absurd ⟨rfl,rfl⟩ (c.2 _ _))
    | (rename_i e;cases e;done)
    | (rw [hb];rfl)
    | simp_all
 split at h
 ·rename_i hd;obtain ⟨b,l,h2⟩:=h;obtain ⟨m,o⟩:=key b l;exact ⟨m,_,(i hd b o).1,h2⟩
 ·rename_i hd;obtain ⟨b,l,h2⟩:=h;obtain ⟨m,o⟩:=key b l;exact ⟨m,_,(i hd b o).2,h2⟩
 ·exact QC h
theorem HX {tk:TK} {b:Builtin} {ts:List TypeId} {args:List AV} {s:AS} {K:AV->AS->Prop} (h:Ei T tk b ts args s K):∃ v s',dQ T b ts args s=some (v,s')/\K v s':=by
 unfold Ei at h;split at h
 ·obtain ⟨n,c,h2⟩:=h;exact ⟨_,s,by simp only [dQ,c,Option.map_some],h2⟩
 ·obtain ⟨n,c,h2⟩:=h;exact ⟨_,s,by simp only [dQ,c,Option.map_some],h2⟩
 ·exact h
 ·exact h
 ·obtain ⟨s',c,h2⟩:=h;exact ⟨_,s',by simp only [dQ,c,Option.map_some],h2⟩
 ·obtain ⟨s',c,h2⟩:=h;exact ⟨_,s',by simp only [dQ,c,Option.map_some],h2⟩
 ·obtain ⟨v,c,h2⟩:=rd_some h;exact ⟨v,s,by simp only [dQ,c,Option.map_some],h2⟩
 ·obtain ⟨v,c,h2⟩:=rd_some h;exact ⟨v,s,by simp only [dQ,c,Option.map_some],h2⟩
 ·exact h.elim
def HY:Op->Bool
 | .call c=>match c.callee with
  | .value _=>true
  | _=>false
 | _=>false
theorem DL {o:Oper} {ρ:Operand->AV} {s:AS} {K:AV->AS->Prop} (H:HY o.op=false) (h:Qj P T o ρ s K):∃ v s',cF T o.op ρ s=some (v,s')/\K v s':=by
 unfold Qj at h;cases G:o.op <;> rw [G] at h <;> simp only at h
 case move x=>exact ⟨_,_,rfl,h⟩
 case assign x=>exact ⟨_,_,rfl,h⟩
 case pick c a b =>
  split at h
  ·rename_i t ht;have:=Bk h;refine ⟨if t then ρ a else ρ b,s,by simp only [cF,ht],?_⟩;cases t <;> simpa using this
  ·exact h.elim
 case alloc e =>
  split at h
  ·rename_i z L;cases D:z.cells.all AV.one with
   | false=>rw [D] at h;exact h.elim
   | true=>rw [D] at h;exact ⟨_,_,by simp only [cF,L,Option.bind_some,bJ,D,if_true,Option.map_some],h⟩
  ·exact h.elim
 case box e x =>
  obtain ⟨cs,j,h2⟩:=MD h;exact ⟨_,_,by simp only [cF,j,Option.map_some],h2⟩
 case build t parts =>
  obtain ⟨l,j,h2⟩:=h;exact ⟨_,_,by simp only [cF,j,Option.map_some],h2⟩
 case buildSlice t len parts =>
  obtain ⟨l,j,h2⟩:=h;exact ⟨_,_,by simp only [cF];exact Of j,h2⟩
 case load t a =>
  split at h
  ·rename_i a' A;have h2:=yl h;clear h;obtain ⟨l,off,rfl,h⟩:=h2;split at h
   ·rename_i w;split at h
    ·rename_i n I;obtain ⟨cs,j,h2⟩:=h;exact ⟨_,_,by simp only [cF,FR,A,w,I,Option.bind_some,j,Option.map_some],h2⟩
    ·exact h.elim
   ·rename_i w;obtain ⟨v,j,h2⟩:=rd_some h;exact ⟨_,_,by simp only [cF,FR,A,w,j,Option.map_some],h2⟩
   ·exact h.elim
  ·exact h.elim
 case store t a x =>
  split at h
  ·rename_i a' A;have h2:=yl h;clear h;obtain ⟨l,off,rfl,h⟩:=h2;obtain ⟨s',j,h2⟩:=ME h;exact ⟨_,_,by simp only [cF,A,j,Option.map_some],h2⟩
  ·exact h.elim
 case nilCheck x =>
  split at h
  ·rename_i a A;cases a with
   | none=>exact h.elim
   | some p=>exact ⟨_,_,by simp only [cF,A],h⟩
  ·rename_i A;exact ⟨_,_,by simp only [cF,A],h⟩
  ·rename_i A;exact ⟨_,_,by simp only [cF,A],h⟩
  ·rename_i A;exact ⟨_,_,by simp only [cF,A],h⟩
  ·exact h.elim
 case binOp op t x y M =>
  obtain ⟨j,r,h2,h3⟩:=O5 h;exact ⟨_,_,by simp only [cF,j,if_true,h2,Option.map_some],h3⟩
 case unOp op t x =>
  split at h
  ·rename_i B;exact ⟨_,_,by simp only [cF,Ud,B,Option.map_some],h⟩
  ·rename_i B;exact ⟨_,_,by simp only [cF,Ud,B,Option.map_some],h⟩
  ·rename_i B;obtain ⟨n,j,h2⟩:=h;exact ⟨_,_,by simp only [cF,B,j,Option.map_some],h2⟩
  ·obtain ⟨v,j,h2⟩:=h;exact ⟨_,_,by simp only [cF,j,Option.map_some],h2⟩
 case convert src dst x =>
  split at h
  ·rename_i hs hd;obtain ⟨b,j,h2⟩:=h;simp only [Option.map_eq_some_iff] at j;obtain ⟨⟨v,s'⟩,h3,h4⟩:=j;simp only at h4;subst h4;have F:s'=s:=by
    unfold cN at h3;split at h3 <;> try (first | (cases h3;done) | (simp only [Option.some.injEq,Prod.mk.injEq] at h3;exact h3.2.symm))
    ·rename_i e1 e2;rw [hd] at e1;cases e1
    ·split at h3
     ·split at h3
      ·simp only [Option.some.injEq,Prod.mk.injEq] at h3;exact h3.2.symm
      ·cases h3
     ·cases h3
    ·split at h3
     ·simp only [Option.some.injEq,Prod.mk.injEq] at h3;exact h3.2.symm
     ·cases h3
    ·split at h3
     ·split at h3
      ·simp only [Option.some.injEq,Prod.mk.injEq] at h3;exact h3.2.symm
      simp only [Option.bind_eq_some_iff,Option.map_eq_some_iff] at h3;obtain ⟨_,_,_,_,h3⟩:=h3;simp only [Prod.mk.injEq] at h3;exact h3.2.symm
     ·cases h3
    ·rename_i e1 e2;rw [hd] at e1;cases e1
   subst F;exact ⟨_,_,by simp only [cF];exact h3,h2⟩
  ·rename_i hs hd B;exact ⟨_,_,by simp only [cF,cN,hs,hd,B],h⟩
  ·rename_i hs hd B;exact ⟨_,_,by simp only [cF,cN,hs,hd,B],h⟩
  ·exact h
  ·rename_i hs hd B;obtain ⟨b,j,h2⟩:=h;simp only [Option.map_eq_some_iff] at j;obtain ⟨⟨v,s'⟩,h3,h4⟩:=j;simp only at h4;subst h4;have F:s'=s:=by
    unfold cN at h3;split at h3 <;> try (first | (cases h3;done) | (simp only [Option.some.injEq,Prod.mk.injEq] at h3;exact h3.2.symm))
    ·rename_i e1 e2;rw [hd] at e1;cases e1
    ·split at h3
     ·split at h3
      ·simp only [Option.some.injEq,Prod.mk.injEq] at h3;exact h3.2.symm
      ·cases h3
     ·cases h3
    ·split at h3
     ·simp only [Option.some.injEq,Prod.mk.injEq] at h3;exact h3.2.symm
     ·cases h3
    ·split at h3
     ·split at h3
      ·simp only [Option.some.injEq,Prod.mk.injEq] at h3;exact h3.2.symm
      simp only [Option.bind_eq_some_iff,Option.map_eq_some_iff] at h3;obtain ⟨_,_,_,_,h3⟩:=h3;simp only [Prod.mk.injEq] at h3;exact h3.2.symm
     ·cases h3
    ·rename_i e1 e2;rw [hd] at e1;cases e1
   subst F;exact ⟨_,_,by simp only [cF];exact h3,h2⟩
  ·exact h.elim
 case makeInterface t x =>
  split at h
  ·exact h.elim
  ·rename_i d hd hu;refine ⟨_,_,?_,h⟩;simp only [cF,hu]
  ·exact h.elim
 case makeFunc fn first captured =>
  cases fn with
  | func g =>
   simp only at h;cases D:first.isEmpty with
   | true=>rw [D] at h;exact ⟨_,_,by simp only [cF,D,if_true],h⟩
   | false=>rw [D] at h;exact ⟨_,_,by simp only [cF,D,Bool.false_eq_true,if_false],h⟩
  | _=>exact h.elim
 case makeMap t r =>
  cases r with
  | none =>
   simp only at h;split at h
   ·rename_i d hd;exact ⟨_,_,by simp only [cF,hd],h⟩
   ·exact h.elim
  | some r=>exact h.elim
 case makeSlice t l c=>exact h
 case slice t x lo hi O =>
  obtain ⟨v,j,h2⟩:=rd_some h;exact ⟨_,_,by simp only [cF,j,Option.map_some],h2⟩
 case fieldAddr t x f =>
  split at h
  ·rename_i a' A;have h2:=yl h;clear h;obtain ⟨l,off,rfl,h⟩:=h2;split at h
   ·rename_i v hv;exact ⟨_,_,by simp only [cF,A,hv,Option.map_some],h⟩
   ·exact h.elim
  ·exact h.elim
 case field t x f =>
  split at h
  ·rename_i fields cs hu B;split at h
   ·rename_i fd J;split at h
    ·rename_i w;split at h
     ·rename_i n I;exact ⟨_,_,by simp only [cF,D1,hu,B,J,Option.bind_some,part,w,I,Option.map_some],h⟩
     ·exact h.elim
    ·rename_i w;obtain ⟨v,j,h2⟩:=rd_some h;exact ⟨_,_,by simp only [cF,D1,hu,B,J,Option.bind_some,part,w,j,Option.map_some],h2⟩
    ·exact h.elim
   ·exact h.elim
  ·exact h.elim
 case indexAddr t x ix =>
  obtain ⟨l,i,j,h2⟩:=h;exact ⟨_,_,by simp only [cF,j,Option.map_some],h2⟩
 case index t x ix =>
  obtain ⟨v,j,h2⟩:=rd_some h;exact ⟨_,_,by simp only [cF,j,Option.map_some],h2⟩
 case lookup t x ix ok =>
  obtain ⟨v,j,h2⟩:=rd_some h;exact ⟨_,_,by simp only [cF,j,Option.map_some],h2⟩
 case mapUpdate t m k v =>
  obtain ⟨s',j,h2⟩:=h;exact ⟨_,_,by simp only [cF,j,Option.map_some],h2⟩
 case insert t m k v =>
  obtain ⟨s',j,h2⟩:=h;exact ⟨_,_,by simp only [cF,j,Option.map_some],h2⟩
 case extract t i =>
  split at h
  ·rename_i vs hv;split at h
   ·rename_i v hi;exact ⟨_,_,by simp only [cF,hv,hi,Option.map_some],h⟩
   ·exact h.elim
  ·exact h.elim
 case call c =>
  cases C:c.callee with
  | value x=>rw [G] at H;simp only [HY,C] at H;cases H
  | builtin b =>
   rw [C] at h;simp only at h;obtain ⟨v,s',j,h2⟩:=HX h;exact ⟨v,s',by simp only [cF,C,j],h2⟩
  | invoke x m=>rw [C] at h;exact h.elim
 case range t x=>exact h
 case entry it =>
  obtain ⟨v,j,h2⟩:=rd_some h;exact ⟨_,_,by simp only [cF,j,Option.map_some],h2⟩
 case sliceToArrayPointer t x =>
  obtain ⟨a,j,h2⟩:=h;exact ⟨_,_,by simp only [cF,j,Option.map_some],h2⟩
 all_goals exact h.elim
theorem sF {o:Oper} {f:Fr} {s:AS} {K:AV->AS->Prop} (h:Qj P T o (oM f) s K):Bi P T o f s K:=by
 cases b:HY o.op with
 | false =>
  have j:eS f o.op=none:=by
   unfold HY at b;unfold eS;split
   ·rename_i c d;rw [d] at b;simp only at b;split
    ·rename_i x e;rw [e] at b;cases b
    ·rfl
   ·rfl
  unfold Bi;rw [j];exact DL b h
 | true =>
  unfold HY at b;split at b
  ·rename_i c d;split at b
   ·rename_i x e;unfold Qj at h;rw [d] at h;simp only [e] at h;unfold Bi eS;rw [d];simp only [e];unfold ek at h;split at h
    ·rename_i g cap hv;rw [hv];exact h.mono fun v s i=>zA i
    ·rename_i g ft cap hv;rw [hv];exact h.mono fun v s i=>zA i
    ·exact h.elim
   ·cases b
  ·cases b
end
end Go.Am
end

section
namespace Go.Am
def fL:Op->Bool
 | .move _ | .assign _ | .pick .. | .binOp .. | .unOp .. | .fieldAddr .. | .field .. | .indexAddr .. | .index .. | .slice .. | .extract ..=>true
 | _=>false
def sG:Op->Bool
 | .call _=>false
 | _=>true
theorem gi {op:Op} (h:sG op=true) (f:Fr):eS f op=none:=by
 cases op <;> first | rfl | cases h
theorem vK {op:Op} (h:fL op=true):sG op=true:=by
 cases op <;> first | rfl | cases h
theorem zB {T:TT} {op:Op} (k:fL op=true) {ρ:Operand->AV} {s s1:AS} {v:AV} (h:cF T op ρ s=some (v,s1)):s1=s/\∀ s',cF T op ρ s'=some (v,s'):=by
 have key:∀ x:Option AV,x.map (·,s)=some (v,s1)->s1=s/\∀ s':AS,x.map (·,s')=some (v,s'):=by
  intro x e;cases x with
  | none=>cases e
  | some u =>
   obtain ⟨rfl,rfl⟩:u=v/\s=s1:=by simpa using e
   exact ⟨rfl,fun s'=>rfl⟩
 have d:∀ u:AV,some (u,s)=some (v,s1)->s1=s/\∀ s':AS,some (u,s')=some (v,s'):=by
  intro u e;obtain ⟨rfl,rfl⟩:u=v/\s=s1:=by simpa using e
  exact ⟨rfl,fun s'=>rfl⟩
 cases op with
 | pick c a b =>
  simp only [cF] at h ⊢;generalize ρ c=x at h ⊢;cases x <;> first | exact d _ h | cases h
 | binOp op t x y l =>
  simp only [cF] at h ⊢;by_cases j:Mm T t x y (ρ x) (ρ y)=true
  ·rw [if_pos j] at h;simp only [if_pos j];exact key _ h
  ·rw [if_neg j] at h;cases h
 | extract t i =>
  simp only [cF] at h ⊢;generalize ρ t=x at h ⊢;cases x <;> first | exact key _ h | cases h
 | _=>first
  | (simp [fL] at k;done)
  | (simp only [cF] at h ⊢;exact key _ h)
  | (simp only [cF] at h ⊢;exact d _ h)
def lP:Op->Bool
 | .load .. | .lookup .. | .nilCheck _=>true
 | o=>fL o
theorem Cr {op:Op} (h:lP op=true):sG op=true:=by
 cases op <;> first | rfl | cases h
theorem QD {T : TT} {op : Op} (d : lP op = true) {ρ : Operand -> AV} {s s1 : AS} {v : AV} (h : cF T op ρ s = some (v, s1)) : s1 = s := by
  have key : ∀ x : Option AV, x.map (·, s) = some (v, s1) -> s1 = s := by
    intro x b;cases x with
    | none => cases b
    | some u =>
      obtain ⟨rfl, rfl⟩ : u = v /\ s = s1 := by simpa using b
      rfl
  by_cases c : fL op = true
  · exact (zB c h).1
  cases op <;> first
    | (simp only [cF] at h
       split at h <;> first
         | (simp only [Option.some.injEq, Prod.mk.injEq] at h; exact h.2.symm)
         | cases h)
    | exact absurd d c
    | (simp only [cF] at h; exact key _ h)
def pN:Op->Bool
 | .alloc _=>true
 | _=>false
theorem Kk {op:Op} (h:lP op=true):lO op=true:=by
 cases op <;> first | rfl | cases h
theorem MF {T:TT} {op:Op} (d:pN op=true) {ρ:Operand->AV} {s s1:AS} {v:AV} (i:aM s) (h:cF T op ρ s=some (v,s1)):Ext s s1/\∀ b,cF T op b s=some (v,s1):=by
 cases op with
 | alloc e =>
  refine ⟨?_,fun b=>h⟩;simp only [cF,Option.bind_eq_some_iff,Option.map_eq_some_iff,Prod.mk.injEq] at h;obtain ⟨z,_,cs,_,_,rfl⟩:=h;have j:s.h s.nl=none:=by simpa using i.2 0
  refine ⟨fun l x c=>?_,by rw [AS.tF];omega⟩;rw [AS.nY _ rfl,if_neg]
  ·exact c
  ·rintro rfl;rw [j] at c;cases c
 | _=>cases d
section
variable {P:Program} {T:TT} {n:Nat} {ops:Array Oper}
theorem Bi.mono {o:Oper} {f:Fr} {s:AS} {R R':AV->AS->Prop} (h:Bi P T o f s R) (hr:∀ v s',R v s'->R' v s'):Bi P T o f s R':=by
 unfold Bi at h ⊢;split
 ·rename_i g args c;rw [c] at h;exact h.mono hr
 ·rename_i c;rw [c] at h;obtain ⟨v,s',a,b⟩:=h;exact ⟨v,s',a,hr _ _ b⟩
def sH (P:Program) (T:TT) (n:Nat) (ops:Array Oper) (o:Oper) (f:Fr) (s:AS) (K:Fr->AS->Prop):Prop :=
 match cY ops f o with
 | some true=>dR n o.dst=true/\Bi P T o f s fun v s'=>K (bO f o.dst v) s'
 | some false=>dR n o.dst=true/\K (bO f o.dst .undef) s
 | none=>False
theorem sH.mono {o:Oper} {f:Fr} {s:AS} {K K':Fr->AS->Prop} (h:sH P T n ops o f s K) (c:∀ f s,K f s->K' f s):sH P T n ops o f s K':=by
 unfold sH at h ⊢;split
 ·rename_i b;rw [b] at h;exact ⟨h.1,Bi.mono h.2 fun v s' d=>c _ _ d⟩
 ·rename_i b;rw [b] at h;exact ⟨h.1,c _ _ h.2⟩
 ·rename_i b;rw [b] at h;exact h
def qS (P:Program) (T:TT) (n:Nat) (ops:Array Oper) (K:Fr->AS->Prop):List Nat->Fr->AS->Prop
 | [],f,s=>K f s
 | i::is,f,s=>match ops[i]? with
  | some o=>sH P T n ops o f s (qS P T n ops K is)
  | none=>False
theorem tW (c:∀ (i:Nat) o,ops[i]? = some o->yf o.op=false) {K:Fr->AS->Prop}:∀ (j k:Nat) (f:Fr) (s:AS),k+j=ops.size->fl P T n ops (ops.toList.drop k) f s K->qS P T n ops K (List.range' k j) f s
 | 0,k,f,s,w,h=>by
  rw [List.drop_eq_nil_of_le (by simp;omega)] at h;exact h
 | j+1,k,f,s,w,h=>by
  have d:k<ops.size:=by omega
  have e:ops.toList.drop k=ops[k]::ops.toList.drop (k+1):=by
   rw [List.drop_eq_getElem_cons (by simpa using d)];simp
  rw [e] at h;simp only [List.range'_succ,qS,Array.getElem?_eq_getElem d];simp only [fl] at h;unfold sH;split at h
  ·rename_i m;rw [m];obtain ⟨x,h2⟩:=h;refine ⟨x,?_⟩;rcases h2 with h2 | ⟨l,r,_⟩
   rotate_left
   ·rw [yg (c k _ (Array.getElem?_eq_getElem d))] at r;cases r
   unfold Bi;split
   ·rename_i g args p;rw [p] at h2;exact h2.mono fun v s' y=>tW c j (k+1) _ _ (by omega) y
   ·rename_i p;rw [p] at h2;obtain ⟨v,s',a,b⟩:=h2;exact ⟨v,s',a,tW c j (k+1) _ _ (by omega) b⟩
  ·rename_i m;rw [m];exact ⟨h.1,tW c j (k+1) _ _ (by omega) h.2⟩
  ·exact h.elim
def gA (T:TT) (n:Nat) (ops:Array Oper) (o:Oper) (f:Fr) (u:AV):Prop :=
 dR n o.dst=true/\((cY ops f o=some false/\u=.undef)\/(cY ops f o=some true/\∀ s,cF T o.op (oM f) s=some (u,s)))
theorem Bl {o:Oper} (e:fL o.op=true) {f:Fr} {s:AS} {K:Fr->AS->Prop} (h:sH P T n ops o f s K):∃ u,gA T n ops o f u/\K (bO f o.dst u) s:=by
 unfold sH at h;split at h
 ·rename_i d;obtain ⟨i,h2⟩:=h;unfold Bi at h2;rw [gi (vK e)] at h2;obtain ⟨v,s',a,b⟩:=h2;obtain ⟨rfl,c⟩:=zB e a;exact ⟨v,⟨i,.inr ⟨d,c⟩⟩,b⟩
 ·rename_i d;exact ⟨_,⟨h.1,.inl ⟨d,rfl⟩⟩,h.2⟩
 ·exact h.elim
theorem gA.step {o:Oper} (e:fL o.op=true) {f:Fr} {u:AV} (h:gA T n ops o f u) {s:AS} {K:Fr->AS->Prop} (c:K (bO f o.dst u) s):sH P T n ops o f s K:=by
 obtain ⟨d,⟨b,rfl⟩ | ⟨b,i⟩⟩:=h
 ·unfold sH;rw [b];exact ⟨d,c⟩
 ·unfold sH;rw [b];refine ⟨d,?_⟩;unfold Bi;rw [gi (vK e)];exact ⟨_,_,i s,c⟩
theorem gA.same {o:Oper} {f:Fr} {d:Option Nat} {v u:AV} (h:∀ t,d=some t->t ∉ o.looksAt ops):gA T n ops o (bO f d v) u↔gA T n ops o f u:=by
 obtain ⟨l1,_,l3⟩:=eZ (T:=T) (ops:=ops) (o:=o) (f:=f) (d:=d) (v:=v) h;unfold gA;rw [l1];simp only [l3]
def Kl (T:TT) (n:Nat) (ops:Array Oper) (o:Oper) (f:Fr) (s:AS) (u:AV):Prop :=
 dR n o.dst=true/\((cY ops f o=some false/\u=.undef)\/(cY ops f o=some true/\cF T o.op (oM f) s=some (u,s)))
theorem w_ {o:Oper} (d:lP o.op=true) {f:Fr} {s:AS} {K:Fr->AS->Prop} (h:sH P T n ops o f s K):∃ u,Kl T n ops o f s u/\K (bO f o.dst u) s:=by
 unfold sH at h;split at h
 ·rename_i c;obtain ⟨e,h2⟩:=h;unfold Bi at h2;rw [gi (Cr d)] at h2;obtain ⟨v,s',a,b⟩:=h2;obtain rfl:=QD d a;exact ⟨v,⟨e,.inr ⟨c,a⟩⟩,b⟩
 ·rename_i c;exact ⟨_,⟨h.1,.inl ⟨c,rfl⟩⟩,h.2⟩
 ·exact h.elim
theorem Kl.step {o:Oper} (e:lP o.op=true) {f:Fr} {s:AS} {u:AV} (h:Kl T n ops o f s u) {K:Fr->AS->Prop} (c:K (bO f o.dst u) s):sH P T n ops o f s K:=by
 obtain ⟨d,⟨b,rfl⟩ | ⟨b,i⟩⟩:=h
 ·unfold sH;rw [b];exact ⟨d,c⟩
 ·unfold sH;rw [b];refine ⟨d,?_⟩;unfold Bi;rw [gi (Cr e)];exact ⟨_,_,i,c⟩
theorem Kl.same {o:Oper} {f:Fr} {d:Option Nat} {v u:AV} {s:AS} (h:∀ t,d=some t->t ∉ o.looksAt ops):Kl T n ops o (bO f d v) s u↔Kl T n ops o f s u:=by
 obtain ⟨l1,_,l3⟩:=eZ (T:=T) (ops:=ops) (o:=o) (f:=f) (d:=d) (v:=v) h;unfold Kl;rw [l1];simp only [l3]
theorem QE {j oj:Oper} (x:j.apart ops oj=true) (i:fL j.op=true\/(fL oj.op=true/\sG j.op=true)\/(lP j.op=true/\lP oj.op=true)) {f:Fr} {s:AS} {K:Fr->AS->Prop}
  (h:sH P T n ops j f s fun f s=>sH P T n ops oj f s K):sH P T n ops oj f s fun f s=>sH P T n ops j f s K:=by
 obtain ⟨k,y,m⟩:=Oper.apart_spec x;have c:∀ u v,bO (bO f j.dst u) oj.dst v=bO (bO f oj.dst v) j.dst u:=fun u v=>Bj y;rcases i with i | ⟨i,z⟩ | ⟨i,w⟩
 rotate_left 2
 ·obtain ⟨u,hu,e⟩:=w_ i h;obtain ⟨v,hv,e⟩:=w_ w e;refine Kl.step w ((Kl.same k).1 hv) (Kl.step i ((Kl.same m).2 hu) ?_);rw [<- c];exact e
 ·obtain ⟨u,hu,e⟩:=Bl i h;have l:=eZ (T:=T) (ops:=ops) (o:=oj) (f:=f) (d:=j.dst) (v:=u) k;unfold sH at e ⊢;rw [l.1] at e;split
  ·rename_i p;rw [p] at e;refine ⟨e.1,Bi.mono ((vJ k).1 e.2) fun v s' A=>?_⟩;refine gA.step i ((gA.same m).2 hu) ?_;rw [<- c];exact A
  ·rename_i p;rw [p] at e;refine ⟨e.1,gA.step i ((gA.same m).2 hu) ?_⟩;rw [<- c];exact e.2
  ·rename_i p;rw [p] at e;exact e
 ·unfold sH at h;split at h
  ·rename_i p;obtain ⟨B,h2⟩:=h;unfold Bi at h2;rw [gi z] at h2;obtain ⟨v,s',a,b⟩:=h2;obtain ⟨u,hu,e⟩:=Bl i b;have r:=(gA.same k).1 hu;refine gA.step i r ?_;have l:=eZ (T:=T) (ops:=ops) (o:=j) (f:=f) (d:=oj.dst) (v:=u) m;unfold sH;rw [l.1,p];refine ⟨B,?_⟩;unfold Bi;rw [gi z];exact ⟨v,s',by rw [l.2.2];exact a,by show K (bO (bO f oj.dst u) j.dst v) s';rw [<- c];exact e⟩
  ·rename_i p;obtain ⟨u,hu,e⟩:=Bl i h.2;have r:=(gA.same k).1 hu;refine gA.step i r ?_;have l:=eZ (T:=T) (ops:=ops) (o:=j) (f:=f) (d:=oj.dst) (v:=u) m;unfold sH;rw [l.1,p];exact ⟨h.1,by rw [<- c];exact e⟩
  ·exact h.elim
theorem Ej {j oj:Oper} (w:j.apart ops oj=true) (r:lP j.op=true) (k:pN oj.op=true) {f:Fr} {s:AS} (B:aM s) {K:Fr->AS->Prop}
  (h:sH P T n ops j f s fun f s=>sH P T n ops oj f s K):sH P T n ops oj f s fun f s=>sH P T n ops j f s K:=by
 obtain ⟨x,y,m⟩:=Oper.apart_spec w;have c:∀ u v,bO (bO f j.dst u) oj.dst v=bO (bO f oj.dst v) j.dst u:=fun u v=>Bj y;have z:∀ f,eS f oj.op=none:=fun f=>by
  cases C:oj.op <;> first | rfl | (rw [C] at k;cases k)
 obtain ⟨u,hu,i⟩:=w_ r h;have l:=eZ (T:=T) (ops:=ops) (o:=oj) (f:=f) (d:=j.dst) (v:=u) x;unfold sH at i ⊢;rw [l.1] at i;split
 ·rename_i e;rw [e] at i;obtain ⟨D,h2⟩:=i;refine ⟨D,?_⟩;unfold Bi at h2 ⊢;rw [z] at h2 ⊢;obtain ⟨v,s',a,b⟩:=h2;obtain ⟨F,p⟩:=MF k B a;refine ⟨v,s',p _,?_⟩;have A:Kl T n ops j f s' u:=by
   obtain ⟨G,H⟩:=hu;refine ⟨G,H.imp id fun ⟨I,J⟩=>⟨I,Bh (Kk r) B.1 J F⟩⟩
  refine Kl.step r ((Kl.same m).2 A) ?_;rw [<- c];exact b
 ·rename_i e;rw [e] at i;refine ⟨i.1,Kl.step r ((Kl.same m).2 hu) ?_⟩;rw [<- c];exact i.2
 ·rename_i e;rw [e] at i;exact i
def GY (ops:Array Oper) (b oj:Oper):Prop:=b.apart ops oj=true/\((lP b.op=true/\pN oj.op=true)\/(pN oj.op=false/\(fL b.op=true\/(fL oj.op=true/\sG b.op=true)\/(lP b.op=true/\lP oj.op=true))))
theorem xe {K:Fr->AS->Prop} {j:Nat} {oj:Oper} (l:ops[j]? = some oj):∀ (pre post:List Nat) (f:Fr) (s:AS),(pN oj.op=true->aM s)->(∀ i∈pre,∀ m,ops[i]? = some m->GY ops m oj) ->
  qS P T n ops K (pre++j::post) f s->sH P T n ops oj f s (qS P T n ops K (pre++post))
 | [],post,f,s,_,_,h=>by simpa only [List.nil_append,qS,l] using h
 | i::pre,post,f,s,o,b,h=>by
  simp only [List.cons_append,qS] at h;cases d:ops[i]? with
  | none=>rw [d] at h;exact h.elim
  | some m =>
   rw [d] at h;obtain ⟨x,h2⟩:=b i (by simp) m d;rcases h2 with ⟨c,e⟩ | ⟨e,h2⟩
   ·have p:=o e;obtain ⟨u,hu,y⟩:=w_ c h;have h3:sH P T n ops m f s fun f s=>sH P T n ops oj f s (qS P T n ops K (pre++post)) :=
     Kl.step c hu (xe l pre post _ s o (fun k w=>b k (List.mem_cons_of_mem _ w)) y)
    refine sH.mono (Ej x c e p h3) fun f s r=>?_;simp only [List.cons_append,qS,d];exact r
   have h3:sH P T n ops m f s fun f s=>sH P T n ops oj f s (qS P T n ops K (pre++post)) :=
    sH.mono h fun f s r=>xe l pre post f s (fun h=>by rw [e] at h;cases h) (fun k w=>b k (List.mem_cons_of_mem _ w)) r
   refine sH.mono (QE x h2 h3) fun f s r=>?_;simp only [List.cons_append,qS,d];exact r
def HZ (ops:Array Oper) (bs:List Nat):Bool :=
 decide (Region.before ops=bs.toArray) &&
 (List.range ops.size).all fun i=>(ops[i]?).all (fun o=>o.after.toList.all fun e=>decide (e.on<i)||!Region.binds .any e) &&
  (List.range i).all fun j=>(bs.getD i 0).testBit j||((ops[j]?).any fun x=>(ops[i]?).any fun y=>x.apart ops y&&((lP x.op&&pN y.op)||(!pN y.op&&(fL x.op||(fL y.op&&sG x.op)||(lP x.op&&lP y.op)))))
structure GZ (ops:Array Oper):Prop where
 back:∀ (i:Nat) o,ops[i]? = some o->∀ e∈o.after.toList,Region.binds .any e=true->e.on<i
 free:∀ i,i<ops.size->∀ j,j<i->gM ops j i=true\/∃ x y,ops[j]? = some x/\ops[i]? = some y/\GY ops x y
theorem O6 {ops:Array Oper} {bs:List Nat} (h:HZ ops bs=true):GZ ops:=by
 simp only [HZ,Bool.and_eq_true,decide_eq_true_eq,List.all_eq_true,List.mem_range] at h;obtain ⟨hb,h⟩:=h;have b:∀ j i,gM ops j i=(bs.getD i 0).testBit j:=by
  intro j i;unfold gM;rw [hb];simp [List.getD_eq_getElem?_getD]
 have d:∀ (i:Nat) o,ops[i]? = some o->i<ops.size:=by
  intro i o c;rcases Nat.lt_or_ge i ops.size with h | h
  ·exact h
  ·simp [Array.getElem?_eq_none h] at c
 refine ⟨fun i o c e l k=>?_,fun i hi j hj=>?_⟩
 ·have:=(h i (d i o c)).1;rw [c] at this;simp only [Option.all_some,List.all_eq_true,Bool.or_eq_true,decide_eq_true_eq] at this;rcases this e l with h | h
  ·exact h
  ·rw [k] at h;simp at h
 ·have:=(h i hi).2 j hj;simp only [Bool.or_eq_true] at this;rcases this with h | h
  ·exact .inl (by rw [b];exact h)
  ·simp only [Option.any_eq_true,Bool.and_eq_true,Bool.or_eq_true] at h;obtain ⟨x,m,y,n,p,h2⟩:=h;exact .inr ⟨x,y,m,n,p,h2.elim .inl fun h=>.inr ⟨by simpa using h.1,h.2.elim (fun h=>h.elim .inl fun h=>.inr (.inl h)) fun h=>.inr (.inr h)⟩⟩
theorem MG (hT:TT.Ok P T) (hD:GZ ops) {Q:Exit->Fr->AS->Prop} {B:Nat} {Ee:bN} {s0:AS} {w0:World} :
  ∀ (fuel:Nat) (q:List Nat) (listed:Array Bool) (f:Fr) (s:AS) (γ:bN) (a:Act) (w:World),
  q.Pairwise (·<·)->(∀ i∈q,i<ops.size)->gV ops listed (fun i=>i<ops.size/\i ∉ q)->q.length<=fuel ->
  qS P T n ops (fun f s=>Q .normal f s) q f s ->
  mW γ n f a->Rel B γ s w->fK B Ee s0 w0 γ s w->Down ops listed ->
  wpAny P .any ops (uS B Ee s0 w0 n Q) fuel listed a w:=by
 have D:∀ {listed:Array Bool},gV ops listed (fun i=>i<ops.size/\i ∉ ([]:List Nat))->Region.ready .any ops listed=[]:=by
  intro listed r;rw [List.eq_nil_iff_forall_not_mem];intro i hi;obtain ⟨o,F,Z,_⟩:=(eT r i).1 hi;refine Z ⟨?_,by simp⟩;rcases Nat.lt_or_ge i ops.size with h | h
  ·exact h
  ·simp [Array.getElem?_eq_none h] at F
 intro fuel
 induction fuel with
 | zero =>
  intro q listed f s γ a w c A r hf h d hr hd j;obtain rfl:q=[]:=List.length_eq_zero_iff.1 (by omega);exact ⟨D r,γ,f,s,d,hd,hr,h⟩
 | succ fuel ih =>
  intro q listed f s γ a w c A r hf h d hr hd j;cases q with
  | nil =>
   refine ⟨fun _=>⟨γ,f,s,d,hd,hr,h⟩,fun i hi=>?_⟩;rw [D r] at hi;cases hi
  | cons L q' =>
   refine ⟨fun M=>?_,fun i hi=>?_⟩
   ·exfalso;have O:=A L (by simp);have:L∈Region.ready .any ops listed:=by
     refine (eT r L).2 ⟨_,Array.getElem?_eq_getElem O,by simp,fun e W hb=>?_⟩;have:=hD.back L _ (Array.getElem?_eq_getElem O) e W hb;refine (r.iff e.on (by omega)).2 ⟨by omega,?_⟩;simp only [List.mem_cons,not_or];refine ⟨by omega,fun hm=>?_⟩;have:=(List.pairwise_cons.1 c).1 e.on hm;omega
    rw [M] at this;cases this
   ·obtain ⟨o,F,Z,W⟩:=(eT r i).1 hi;have J:i<ops.size:=by
     rcases Nat.lt_or_ge i ops.size with h | h
     ·exact h
     ·simp [Array.getElem?_eq_none h] at F
    have ab:i∈L::q':=by
     by_cases h:i∈L::q'
     ·exact h
     ·exact absurd ⟨J,h⟩ Z
    obtain ⟨pre,post,hq⟩:=List.append_of_mem ab;rw [hq] at h c A r hf;have G:∀ k∈pre,k<i:=by
     intro k p;have:=(List.pairwise_append.1 c).2.2 k p i (by simp);exact this
    have K:∀ k∈pre,∀ ok,ops[k]? = some ok->GY ops ok o:=by
     intro k p ok z;have C:=G k p;have ad:k<ops.size:=by omega
     rcases hD.free i J k C with h | ⟨x,y,X,Y,h⟩
     ·exfalso;have:=jf j i o F W h;have:=(r.iff k ad).1 this;exact absurd (by simp [p]:k∈pre++i::post) this.2
     ·rw [z] at X;rw [F] at Y;obtain rfl:=Option.some.inj X;obtain rfl:=Option.some.inj Y;exact h
    have b:=xe F pre post f s (fun _=>hr.Mi) K h;have l:(pre++post).Pairwise (·<·):=by
     have:=List.pairwise_append.1 c;rw [List.pairwise_append];exact ⟨this.1,(List.pairwise_cons.1 this.2.1).2,fun x X y Y=>this.2.2 x X y (by simp [Y])⟩
    have H:i ∉ pre++post:=by
     intro hm;rcases List.mem_append.1 hm with h | h
     ·have:=G i h;omega
     ·have:=(List.pairwise_cons.1 (List.pairwise_append.1 c).2.1).1 i h;omega
    have R:gV ops (listed.setIfInBounds i true) (fun k=>k<ops.size/\k ∉ pre++post):=by
     refine r.set fun k=>?_;simp only [List.mem_append,List.mem_cons,not_or];constructor
     ·rintro ⟨S,h2,h3⟩;by_cases p:k=i
      ·exact .inl p
      ·exact .inr ⟨S,h2,p,h3⟩
     ·rintro (rfl | ⟨S,h2,h3,h4⟩)
      ·simp only [List.mem_append,not_or] at H;exact ⟨J,H⟩
      ·exact ⟨S,h2,h4⟩
    have m:Down ops (listed.setIfInBounds i true):=by
     intro k ok z p e U hb;have mono:listed.getD e.on false=true->(listed.setIfInBounds i true).getD e.on false=true:=by
      intro h;have ae:e.on<listed.size:=by
       rcases Nat.lt_or_ge e.on listed.size with h' | h'
       ·exact h'
       ·simp [Array.getD_eq_getD_getElem?,Array.getElem?_eq_none h'] at h
      simp only [Array.getD_eq_getD_getElem?,Array.getElem?_setIfInBounds] at h ⊢;split
      ·rename_i al;subst al;simp [ae]
      ·exact h
     by_cases C:i=k
     ·subst C;rw [F] at z;obtain rfl:=Option.some.inj z;exact mono (W e U hb)
     ·refine mono (j k ok z ?_ e U hb);simp only [Array.getD_eq_getD_getElem?,Array.getElem?_setIfInBounds] at p ⊢;rw [if_neg C] at p;exact p
    have hlen:(pre++post).length<=fuel:=by simp at hf ⊢;omega
    have I:∀ k∈pre++post,k<ops.size:=fun k p=>A k (by rcases List.mem_append.1 p with h | h <;> simp [h]);unfold wpOp;rw [F];simp only;unfold sH at b;split at b
    ·rename_i hw;rw [ef d hw,if_pos rfl];have am:Ed P T n o f s (qS P T n ops (fun f s=>Q .normal f s) (pre++post)):=k7 b.1 b.2 fun v s' hh=>hh;refine .inl (je hT am d hr ?_);intro γ' f' s' a' w' S h2 h3 h4;exact ih _ _ _ s' γ' a' w' l I R hlen h4 S h3 (hd.trans h2) m
    ·rename_i hw;rw [ef d hw,if_neg (by simp)];exact ih _ _ _ s γ _ w l I R hlen b.2 (d.put b.1 (oN γ)) hr hd m
    ·exact b.elim
theorem j_.calm (hT:TT.Ok P T) (bW:P.follows .mixedOrders=true) {id:Nat} {f:Fr} {s:AS} {Q:Exit->Fr->AS->Prop} {bs:List Nat} (c:HZ ops bs=true) (b:(ops.toList.all fun o=>!yf o.op)=true)
  (h:fl P T n ops ops.toList f s fun f s=>Q .normal f s):j_ P n (.region id ops true) f s Q:=by
 intro B γ a w k hr;have l:=O6 c;refine wp_region_any bW ?_;have e:=tW (ops:=ops) (fun i o j=>by
  rw [List.all_eq_true] at b;simpa using b o (List.mem_iff_getElem?.2 ⟨i,by simpa using j⟩)) ops.size 0 f s (by omega) (by simpa using h)
 rw [<- List.range_eq_range'] at e;refine MG hT l ops.size (List.range ops.size) _ f s γ a { w with drawn:=w.drawn+1 } List.pairwise_lt_range (fun i hi=>List.mem_range.1 hi) ⟨by simp,fun i hi=>?_⟩ (by simp) e k (hr.of_heap rfl) (fK.of_heap rfl) ?_
 ·simp [Array.getD_eq_getD_getElem?,hi]
 ·intro i o j d;simp only [Array.getD_eq_getD_getElem?] at d;by_cases hi:i<ops.size
  ·simp [hi] at d
  ·simp [hi] at d
end
end Go.Am
end

section
namespace Go.Am
section
variable {P:Program} {T:TT} {n:Nat} {ops:Array Oper}
theorem Cs {K:Fr->AS->Prop}:∀ (L:List Nat) (f:Fr) (s:AS),(∀ i∈L,i<ops.size)->(∀ i∈L,∀ o,ops[i]? = some o->yf o.op=false) ->
  fl P T n ops (L.filterMap fun i=>ops[i]?) f s K->qS P T n ops K L f s
 | [],f,s,_,_,h=>h
 | i::L,f,s,c,d,h=>by
  have e:=c i (by simp);have k:ops[i]? = some ops[i]:=Array.getElem?_eq_getElem e;simp only [List.filterMap_cons,k] at h;simp only [qS,k];have rc:=fun f s=>Cs (K:=K) L f s (fun j hj=>c j (by simp [hj])) (fun j hj=>d j (by simp [hj]));simp only [fl] at h;unfold sH;split at h
  ·rename_i m;rw [m];obtain ⟨w,h2⟩:=h;refine ⟨w,?_⟩;rcases h2 with h2 | ⟨l,r,_⟩
   rotate_left
   ·rw [yg (d i (by simp) _ k)] at r;cases r
   unfold Bi;split
   ·rename_i g args p;rw [p] at h2;exact h2.mono fun v s' x=>rc _ _ x
   ·rename_i p;rw [p] at h2;obtain ⟨v,s',a,b⟩:=h2;exact ⟨v,s',a,rc _ _ b⟩
  ·rename_i m;rw [m];exact ⟨h.1,rc _ _ h.2⟩
  ·exact h.elim
theorem exists_least:∀ (L:List Nat),L≠[]->∃ m∈L,∀ j∈L,m<=j
 | [],h=>absurd rfl h
 | [x],_=>⟨x,by simp,by simp⟩
 | x::y::L,_=>by
  obtain ⟨m,hm,b⟩:=exists_least (y::L) (by simp);rcases Nat.le_total x m with h | h
  ·exact ⟨x,by simp,fun j hj=>by
    rcases List.mem_cons.1 hj with rfl | hj
    ·exact Nat.le_refl _
    ·exact Nat.le_trans h (b j hj)⟩
  ·exact ⟨m,by simp [hm],fun j hj=>by
    rcases List.mem_cons.1 hj with rfl | hj
    ·exact h
    ·exact b j hj⟩
def Km (ops:Array Oper) (k i:Nat):Prop:=gM ops k i=true\/∃ x y,ops[k]? = some x/\ops[i]? = some y/\GY ops x y
theorem Kn (hT:TT.Ok P T) (M:∀ (i:Nat) o,ops[i]? = some o->∀ e∈o.after.toList,Region.binds .any e=true->e.on<i) {Q:Exit->Fr->AS->Prop} {B:Nat} {Ee:bN} {s0:AS} {w0:World} :
  ∀ (fuel:Nat) (q:List Nat) (listed:Array Bool) (f:Fr) (s:AS) (γ:bN) (a:Act) (w:World),
  q.Nodup->q.Pairwise (Km ops)->(∀ i∈q,i<ops.size)->gV ops listed (fun i=>i<ops.size/\i ∉ q)->q.length<=fuel ->
  qS P T n ops (fun f s=>Q .normal f s) q f s ->
  mW γ n f a->Rel B γ s w->fK B Ee s0 w0 γ s w->Down ops listed ->
  wpAny P .any ops (uS B Ee s0 w0 n Q) fuel listed a w:=by
 have D:∀ {listed:Array Bool},gV ops listed (fun i=>i<ops.size/\i ∉ ([]:List Nat))->Region.ready .any ops listed=[]:=by
  intro listed m;rw [List.eq_nil_iff_forall_not_mem];intro i hi;obtain ⟨o,F,hp,_⟩:=(eT m i).1 hi;refine hp ⟨?_,by simp⟩;rcases Nat.lt_or_ge i ops.size with h | h
  ·exact h
  ·simp [Array.getElem?_eq_none h] at F
 intro fuel
 induction fuel with
 | zero =>
  intro q listed f s γ a w z A p m hf h c hr hd d;obtain rfl:q=[]:=List.length_eq_zero_iff.1 (by omega);exact ⟨D m,γ,f,s,c,hd,hr,h⟩
 | succ fuel ih =>
  intro q listed f s γ a w z A p m hf h c hr hd d;by_cases R:q=[]
  ·subst R;refine ⟨fun _=>⟨γ,f,s,c,hd,hr,h⟩,fun i hi=>?_⟩;rw [D m] at hi;cases hi
  ·refine ⟨fun S=>?_,fun i hi=>?_⟩
   ·exfalso;obtain ⟨q0,U,C⟩:=exists_least q R;have W:=p q0 U;have:q0∈Region.ready .any ops listed:=by
     refine (eT m q0).2 ⟨_,Array.getElem?_eq_getElem W,fun h=>h.2 U,fun e he hb=>?_⟩;have:=M q0 _ (Array.getElem?_eq_getElem W) e he hb;refine (m.iff e.on (by omega)).2 ⟨by omega,fun hm=>?_⟩;have:=C e.on hm;omega
    rw [S] at this;cases this
   ·obtain ⟨o,F,hp,he⟩:=(eT m i).1 hi;have X:i<ops.size:=by
     rcases Nat.lt_or_ge i ops.size with h | h
     ·exact h
     ·simp [Array.getElem?_eq_none h] at F
    have ad:i∈q:=by
     by_cases h:i∈q
     ·exact h
     ·exact absurd ⟨X,h⟩ hp
    obtain ⟨pre,post,hq⟩:=List.append_of_mem ad;rw [hq] at h z A p m hf;have O:∀ k∈pre,∀ ok,ops[k]? = some ok->GY ops ok o:=by
     intro k l ok r;have ae:k<ops.size:=p k (by simp [l]);rcases (List.pairwise_append.1 A).2.2 k l i (by simp) with h | ⟨x,y,hx,hy,h⟩
     ·exfalso;have:=jf d i o F he h;have:=(m.iff k ae).1 this;exact absurd (by simp [l]:k∈pre++i::post) this.2
     ·rw [r] at hx;rw [F] at hy;obtain rfl:=Option.some.inj hx;obtain rfl:=Option.some.inj hy;exact h
    have b:=xe F pre post f s (fun _=>hr.Mi) O h;have G:(pre++post).Sublist (pre++i::post):=List.Sublist.append_left (List.sublist_cons_self _ _) _;have H:=z.sublist G;have I:=A.sublist G;have J:i ∉ pre++post:=by
     intro hm;have K:=List.nodup_append.1 z;rcases List.mem_append.1 hm with h | h
     ·exact K.2.2 i h i (by simp) rfl
     ·exact (List.nodup_cons.1 K.2.1).1 h
    have Y:gV ops (listed.setIfInBounds i true) (fun k=>k<ops.size/\k ∉ pre++post):=by
     refine m.set fun k=>?_;simp only [List.mem_append,List.mem_cons,not_or];constructor
     ·rintro ⟨K,h2,h3⟩;by_cases l:k=i
      ·exact .inl l
      ·exact .inr ⟨K,h2,l,h3⟩
     ·rintro (rfl | ⟨K,h2,h3,h4⟩)
      ·simp only [List.mem_append,not_or] at J;exact ⟨X,J⟩
      ·exact ⟨K,h2,h4⟩
    have j:Down ops (listed.setIfInBounds i true):=by
     intro k ok r l e Z hb;have mono:listed.getD e.on false=true->(listed.setIfInBounds i true).getD e.on false=true:=by
      intro h;have al:e.on<listed.size:=by
       rcases Nat.lt_or_ge e.on listed.size with h' | h'
       ·exact h'
       ·simp [Array.getD_eq_getD_getElem?,Array.getElem?_eq_none h'] at h
      simp only [Array.getD_eq_getD_getElem?,Array.getElem?_setIfInBounds] at h ⊢;split
      ·rename_i am;subst am;simp [al]
      ·exact h
     by_cases ab:i=k
     ·subst ab;rw [F] at r;obtain rfl:=Option.some.inj r;exact mono (he e Z hb)
     ·refine mono (d k ok r ?_ e Z hb);simp only [Array.getD_eq_getD_getElem?,Array.getElem?_setIfInBounds] at l ⊢;rw [if_neg ab] at l;exact l
    have hlen:(pre++post).length<=fuel:=by simp at hf ⊢;omega
    have L:∀ k∈pre++post,k<ops.size:=fun k l=>p k (by rcases List.mem_append.1 l with h | h <;> simp [h]);unfold wpOp;rw [F];simp only;unfold sH at b;split at b
    ·rename_i hw;rw [ef c hw,if_pos rfl];have an:Ed P T n o f s (qS P T n ops (fun f s=>Q .normal f s) (pre++post)):=k7 b.1 b.2 fun v s' hh=>hh;refine .inl (je hT an c hr ?_);intro γ' f' s' a' w' K h2 h3 h4;exact ih _ _ _ s' γ' a' w' H I L Y hlen h4 K h3 (hd.trans h2) j
    ·rename_i hw;rw [ef c hw,if_neg (by simp)];exact ih _ _ _ s γ _ w H I L Y hlen b.2 (c.put b.1 (oN γ)) hr hd j
    ·exact b.elim
end
theorem G7 {P:Program} {T:TT} {n:Nat} {ops:Array Oper} {A:List (List Nat)} {H:List Nat} {V:Nat->List AV->AV->Prop} {S:Nat->List AV->AV->AS->Prop} {X:AS->AS->Prop} {C:Nat->List AV->AV->AS->Prop} {M:List Nat} {s:AS} {K2:Fr->AS->Prop} {t:List Nat} :
  ∀ (q:List Nat) (f:Fr) (F:jQ) (c:AS->Prop) (s1:AS),(∀ k∈q,∃ o,ops[k]? = some o/\fL o.op=true/\H.contains k=false)->dq P T n ops A H V S X C M s (fun f s'=>qS P T n ops K2 t f s') q f F c ->
  X s s1->aM s1->(∀ p∈F,p.2 s1)->c s1->(H=[]->s1=s)->qS P T n ops K2 (q++t) f s1
 | [],f,F,c,s1,_,h,e,h2,h3,i,h4=>h s1 e h2 h3 i h4
 | k::q,f,F,c,s1,l,h,e,h2,h3,i,h4=>by
  obtain ⟨o,m,b,r⟩:=l k (by simp);have rc:=fun f F w h=>G7 (P:=P) (T:=T) (n:=n) (A:=A) (V:=V) (S:=S) (M:=M) (C:=C) (K2:=K2) (t:=t) q f F c s1 (fun k x=>l k (by simp [x])) h e h2 w i h4;simp only [dq,m] at h;simp only [List.cons_append,qS,m];obtain ⟨hd,h⟩:=h;unfold sH;split at h
  ·exact h.elim
  ·rename_i j;rw [j];exact ⟨hd,rc _ _ h3 h.2⟩
  ·rename_i j;rw [j];rw [if_neg (by rw [r];simp)] at h;obtain ⟨_,z,v,⟨hv,_⟩,y⟩:=h;obtain ⟨_,d⟩:=zB b hv;refine ⟨hd,?_⟩;unfold Bi;rw [gi (vK b)];exact ⟨v,s1,d s1,rc _ _ h3 y⟩
def O7:List Nat->Bool
 | []=>true
 | x::l=>(l.all fun y=>decide (x<y))&&O7 l
theorem DM:∀ {l:List Nat},O7 l=true->l.Pairwise (·<·)
 | [],_=>List.Pairwise.nil
 | x::l,h=>by
  simp only [O7,Bool.and_eq_true,List.all_eq_true,decide_eq_true_eq] at h;exact List.pairwise_cons.2 ⟨h.1,DM h.2⟩
def Ek (ops:Array Oper) (D t:List Nat) (A:List (List Nat)) (H:List Nat) (bs:List Nat):Bool :=
 decide (Region.before ops=bs.toArray) &&
 ((List.range ops.size).all fun i=>(ops[i]?).all (fun o=>o.after.toList.all fun e=>decide (e.on<i)||!Region.binds .any e)&&(D.contains i||t.contains i)) &&
 O7 D&&O7 t &&
 (D.all fun i=>decide (i<ops.size)&&!t.contains i&&((A.getD i []).all fun j=>(bs.getD i 0).testBit j&&decide (j<i)) &&
  ((ops[i]?).all fun o=>o.after.toList.all fun e=>D.contains e.on||!Region.binds .any e) &&
  (D.all fun j=>!decide (j<i)||(bs.getD i 0).testBit j||((ops[j]?).any fun x=>(ops[i]?).any fun y=>x.apart ops y)) &&
  (t.all fun u=>(bs.getD u 0).testBit i||((ops[i]?).any fun x=>(ops[u]?).any fun y=>x.apart ops y&&fL x.op&&!pN y.op&&!H.contains i))) &&
 (t.all fun u=>decide (u<ops.size)&&((ops[u]?).all fun o=>!yf o.op)&&t.all fun v=>!decide (v<u)||(bs.getD u 0).testBit v||((ops[v]?).any fun x=>(ops[u]?).any fun y=>x.apart ops y&&fL x.op&&!pN y.op))
structure G8 (ops:Array Oper) (D t:List Nat) (A:List (List Nat)) (H:List Nat):Prop where
 back:∀ (i:Nat) o,ops[i]? = some o->∀ e∈o.after.toList,Region.binds .any e=true->e.on<i
 all:∀ i,i<ops.size->i∈D\/i∈t
 sD:D.Pairwise (·<·)
 st:t.Pairwise (·<·)
 VB:∀ i∈D,i<ops.size
 Wk:∀ i∈t,i<ops.size
 Wl:∀ i∈D,i ∉ t
 Uv:∀ i∈D,∀ j∈A.getD i [],gM ops j i=true/\j<i
 dep:∀ i∈D,∀ o,ops[i]? = some o->∀ e∈o.after.toList,Region.binds .any e=true->e.on∈D
 free:∀ i∈D,∀ j∈D,j<i->gM ops j i=true\/∃ x y,ops[j]? = some x/\ops[i]? = some y/\x.apart ops y=true
 dt:∀ i∈D,∀ u∈t,gM ops i u=true\/∃ x y,ops[i]? = some x/\ops[u]? = some y/\GY ops x y/\fL x.op=true/\H.contains i=false
 nx:∀ u∈t,∀ o,ops[u]? = some o->yf o.op=false
 tt:∀ u∈t,∀ v∈t,v<u->Km ops v u
theorem O8 {ops:Array Oper} {D t:List Nat} {A:List (List Nat)} {H bs:List Nat} (h:Ek ops D t A H bs=true):G8 ops D t A H:=by
 simp only [Ek,Bool.and_eq_true,decide_eq_true_eq] at h;obtain ⟨⟨⟨⟨⟨hb,d⟩,h2⟩,h3⟩,h4⟩,C⟩:=h;have b:∀ j i,gM ops j i=(bs.getD i 0).testBit j:=by
  intro j i;unfold gM;rw [hb];simp [List.getD_eq_getElem?_getD]
 have p:∀ (i:Nat) o,ops[i]? = some o->i<ops.size:=by
  intro i o c;rcases Nat.lt_or_ge i ops.size with h | h
  ·exact h
  ·simp [Array.getElem?_eq_none h] at c
 rw [List.all_eq_true] at d h4 C;have l:=fun i hi=>by
  have:=h4 i hi;simp only [Bool.and_eq_true,decide_eq_true_eq,Bool.not_eq_true'] at this;exact this
 have r:=fun i hi=>by
  have:=C i hi;simp only [Bool.and_eq_true,decide_eq_true_eq] at this;exact this
 refine ⟨fun i o c e w k=>?_,fun i hi=>?_,DM h2,DM h3,fun i hi=>(l i hi).1.1.1.1.1,fun i hi=>(r i hi).1.1,fun i hi ht=>?_,fun i hi j hj=>?_,fun i hi o c e w k=>?_,fun i hi j hj z=>?_,fun i hi u hu=>?_,fun u hu o c=>?_,fun u hu v hv B=>?_⟩
 ·have:=d i (List.mem_range.2 (p i o c));simp only [Bool.and_eq_true] at this;have:=this.1;rw [c] at this;simp only [Option.all_some,List.all_eq_true,Bool.or_eq_true,decide_eq_true_eq] at this;rcases this e w with h | h
  ·exact h
  ·rw [k] at h;simp at h
 ·have:=d i (List.mem_range.2 hi);simp only [Bool.and_eq_true,Bool.or_eq_true,List.contains_iff_mem] at this;exact this.2
 ·have:=(l i hi).1.1.1.1.2;rw [<- List.contains_iff_mem] at ht;rw [ht] at this;cases this
 ·have:=(l i hi).1.1.1.2;simp only [List.all_eq_true,Bool.and_eq_true,decide_eq_true_eq] at this;rw [b];exact this j hj
 ·have:=(l i hi).1.1.2;rw [c] at this;simp only [Option.all_some,List.all_eq_true,Bool.or_eq_true,List.contains_iff_mem] at this;rcases this e w with h | h
  ·exact h
  ·rw [k] at h;simp at h
 ·have:=(l i hi).1.2;simp only [List.all_eq_true,Bool.or_eq_true,Bool.not_eq_true',decide_eq_false_iff_not] at this;rcases this j hj with (h | h) | h
  ·exact absurd z h
  ·exact .inl (by rw [b];exact h)
  ·simp only [Option.any_eq_true] at h;obtain ⟨x,m,y,n,h⟩:=h;exact .inr ⟨x,y,m,n,h⟩
 ·have:=(l i hi).2;simp only [List.all_eq_true,Bool.or_eq_true] at this;rcases this u hu with h | h
  ·exact .inl (by rw [b];exact h)
  ·simp only [Option.any_eq_true,Bool.and_eq_true,Bool.not_eq_true'] at h;obtain ⟨x,m,y,n,⟨⟨d,h2⟩,h3⟩,h4⟩:=h;exact .inr ⟨x,y,m,n,⟨d,.inr ⟨h3,.inl h2⟩⟩,h2,h4⟩
 ·have:=(r u hu).1.2;rw [c] at this;simpa using this
 ·have:=(r u hu).2;simp only [List.all_eq_true,Bool.or_eq_true,Bool.not_eq_true',decide_eq_false_iff_not] at this;rcases this v hv with (h | h) | h
  ·exact absurd B h
  ·exact .inl (by rw [b];exact h)
  ·simp only [Option.any_eq_true,Bool.and_eq_true,Bool.not_eq_true'] at h;obtain ⟨x,m,y,n,⟨d,h2⟩,h3⟩:=h;exact .inr ⟨x,y,m,n,d,.inr ⟨h3,.inl h2⟩⟩
def UE (bs:List Nat):List Nat->Bool
 | []=>true
 | a::M=>(M.all fun b=>(bs.getD b 0).testBit a)&&UE bs M
def Wm (ops:Array Oper) (D H M:List Nat) (bs:List Nat):Bool:=decide (Region.before ops=bs.toArray)&&O7 M&&(M.all fun i=>D.contains i&&H.contains i)&&UE bs M
structure H6 (ops:Array Oper) (D H M:List Nat):Prop where
 VO:M.Pairwise (·<·)
 sub:∀ i∈M,i∈D
 WY:∀ i∈M,H.contains i=true
 Uv:M.Pairwise fun a b=>gM ops a b=true
theorem UF {ops:Array Oper} {D H M bs:List Nat} (h:Wm ops D H M bs=true):H6 ops D H M:=by
 simp only [Wm,Bool.and_eq_true,decide_eq_true_eq,List.all_eq_true] at h;obtain ⟨⟨⟨hb,d⟩,h2⟩,h3⟩:=h;refine ⟨DM d,fun i hi=>List.contains_iff_mem.1 (h2 i hi).1,fun i hi=>(h2 i hi).2,?_⟩;clear d h2
 induction M with
 | nil=>exact List.Pairwise.nil
 | cons a M e =>
  simp only [UE,Bool.and_eq_true,List.all_eq_true] at h3;refine List.pairwise_cons.2 ⟨fun b c=>?_,e h3.2⟩;have:=h3.1 b c;unfold gM;rw [hb];simpa [List.getD_eq_getElem?_getD] using this
theorem MH {ops:Array Oper} {D H:List Nat}:H6 ops D H []:=⟨List.Pairwise.nil,by simp,by simp,List.Pairwise.nil⟩
section
variable {P:Program} {T:TT} {n:Nat} {ops:Array Oper} {A:List (List Nat)} {H:List Nat} {V:Nat->List AV->AV->Prop} {S:Nat->List AV->AV->AS->Prop} {X:AS->AS->Prop} {C:Nat->List AV->AV->AS->Prop} {M:List Nat} {s:AS}
theorem H7 (hT:TT.Ok P T) (cc:1<=s.st) {D t:List Nat} (G:G8 ops D t A H) (bb:H6 ops D H M) (hX:∀ s s',Ext s s'->X s s') (bm:∀ a b c,X a b->X b c->X a c) (hC:∀ i k v s s',Ext s s'->C i k v s->C i k v s') (hS:∀ i k v s s',X s s'->S i k v s->S i k v s') {Q:Exit->Fr->AS->Prop} {B:Nat} {Ee:bN} {s0:AS} {w0:World} :
  ∀ (fuel:Nat) (q:List Nat) (listed:Array Bool) (f:Fr) (F:jQ) (c:AS->Prop) (s1:AS) (γ:bN) (a:Act) (w:World),
  q.Sublist D->gV ops listed (fun i=>i∈D/\i ∉ q)->q.length+t.length<=fuel ->
  dq P T n ops A H V S X C M s (fun f s'=>qS P T n ops (fun f s=>Q .normal f s) t f s') q f F c->X s s1->c s1->(∀ s s',Ext s s'->c s->c s')->(H=[]->s1=s)->(∀ p∈F,p.2 s1)->(∀ p∈F,∀ s s',X s s'->p.2 s->p.2 s') ->
  mW γ n f a->Rel B γ s1 w->fK B Ee s0 w0 γ s1 w->Down ops listed ->
  wpAny P .any ops (uS B Ee s0 w0 n Q) fuel listed a w:=by
 intro fuel;have Z:∀ (fuel:Nat) (q:List Nat) (listed:Array Bool) (f:Fr) (F:jQ) (c:AS->Prop) (s1:AS) (γ:bN) (a:Act) (w:World),
   q.Sublist D->gV ops listed (fun i=>i∈D/\i ∉ q)->q.length+t.length<=fuel->(∀ k∈q,∃ o,ops[k]? = some o/\fL o.op=true/\H.contains k=false) ->
   dq P T n ops A H V S X C M s (fun f s'=>qS P T n ops (fun f s=>Q .normal f s) t f s') q f F c->X s s1->c s1->(H=[]->s1=s)->(∀ p∈F,p.2 s1) ->
   mW γ n f a->Rel B γ s1 w->fK B Ee s0 w0 γ s1 w->Down ops listed ->
   wpAny P .any ops (uS B Ee s0 w0 n Q) fuel listed a w:=by
  intro fuel q listed f F c s1 γ a w l hL hf hc h m J R hF K hr hd j;have z:=fun i hi=>l.subset (a:=i) hi;refine Kn hT G.back fuel (q++t) listed f s1 γ a w ?_ ?_ ?_ ⟨hL.size,fun i hi=>?_⟩ (by simpa using hf) (G7 q f F c s1 hc h m hr.Mi hF J R) K hr hd j
  ·refine List.nodup_append.2 ⟨(G.sD.imp fun h=>Nat.ne_of_lt h).sublist l,G.st.imp fun h=>Nat.ne_of_lt h,fun a ha b hb=>?_⟩;rintro rfl;exact G.Wl a (z a ha) hb
  ·refine List.pairwise_append.2 ⟨?_,?_,fun k r u hu=>?_⟩
   ·refine List.Pairwise.imp_of_mem ?_ (G.sD.sublist l);intro k i r hi U;rcases G.free i (z i hi) k (z k r) U with h | ⟨x,y,hx,hy,h⟩
    ·exact .inl h
    ·obtain ⟨o,ho,bo,_⟩:=hc k r;obtain ⟨o2,bc,a2,_⟩:=hc i hi;rw [hx] at ho;rw [hy] at bc;obtain rfl:=Option.some.inj ho;obtain rfl:=Option.some.inj bc;refine .inr ⟨x,y,hx,hy,h,.inr ⟨?_,.inl bo⟩⟩;cases ab:y.op <;> first | rfl | (rw [ab] at a2;cases a2)
   ·refine List.Pairwise.imp_of_mem ?_ G.st;intro v u hv hu U;exact G.tt u hu v hv U
   ·rcases G.dt k (z k r) u hu with h | ⟨x,y,hx,hy,h,_⟩
    ·exact .inl h
    ·exact .inr ⟨x,y,hx,hy,h⟩
  ·intro i hi;rcases List.mem_append.1 hi with h | h
   ·exact G.VB i (z i h)
   ·exact G.Wk i h
  ·rw [hL.iff i hi];simp only [List.mem_append,not_or];constructor
   ·rintro ⟨O,h2⟩;exact ⟨hi,h2,G.Wl i O⟩
   ·rintro ⟨_,h2,h3⟩;exact ⟨(G.all i hi).resolve_right h3,h2⟩
 induction fuel with
 | zero =>
  intro q listed f F c s1 γ a w l hL hf h m J ad R hF I K hr hd j;obtain rfl:q=[]:=List.length_eq_zero_iff.1 (by omega);exact Z 0 [] listed f F c s1 γ a w l hL hf (by simp) h m J R hF K hr hd j
 | succ fuel ih =>
  intro q listed f F c s1 γ a w l hL hf h m J ad R hF I K hr hd j;by_cases a3:∀ k∈q,∃ o,ops[k]? = some o/\fL o.op=true/\H.contains k=false
  ·exact Z _ q listed f F c s1 γ a w l hL hf a3 h m J R hF K hr hd j
  ·have z:=fun i hi=>l.subset (a:=i) hi;obtain ⟨kn,ar,bd⟩:∃ k∈q,¬ ∃ o,ops[k]? = some o/\fL o.op=true/\H.contains k=false:=by
    apply Classical.byContradiction;intro bs;exact a3 fun k r=>Classical.byContradiction fun hb=>bs ⟨k,r,hb⟩
   have bx:q≠[]:=by rintro rfl;cases ar
   have a5:∀ u∈t,gM ops kn u=true:=fun u hu=>by
    rcases G.dt kn (z kn ar) u hu with h | ⟨x,y,hx,_,_,O,h2⟩
    ·exact h
    ·exact absurd ⟨x,hx,O,h2⟩ bd
   refine ⟨fun be=>?_,fun i hi=>?_⟩
   ·exfalso;obtain ⟨q0,a6,aw⟩:=exists_least q bx;have U:=G.VB q0 (z q0 a6);have:q0∈Region.ready .any ops listed:=by
     refine (eT hL q0).2 ⟨_,Array.getElem?_eq_getElem U,fun h=>h.2 a6,fun e he hb=>?_⟩;have O:=G.back q0 _ (Array.getElem?_eq_getElem U) e he hb;have h2:=G.dep q0 (z q0 a6) _ (Array.getElem?_eq_getElem U) e he hb;refine (hL.iff e.on (by omega)).2 ⟨h2,fun hm=>?_⟩;have:=aw e.on hm;omega
    rw [be] at this;cases this
   ·obtain ⟨o,ho,hp,he⟩:=(eT hL i).1 hi;have b0:i<ops.size:=by
     rcases Nat.lt_or_ge i ops.size with h | h
     ·exact h
     ·simp [Array.getElem?_eq_none h] at ho
    have a0:i∈D:=by
     rcases G.all i b0 with h | h
     ·exact h
     ·exfalso;have:=jf j i o ho he (a5 i h);have:=(hL.iff kn (G.VB kn (z kn ar))).1 this;exact this.2 ar
    have b1:i∈q:=by
     by_cases h:i∈q
     ·exact h
     ·exact absurd ⟨a0,h⟩ hp
    obtain ⟨pre,post,hq⟩:=List.append_of_mem b1;rw [hq] at h l hL hf z;have ae:=G.sD.sublist l;have al:∀ k∈pre,k<i:=by
     intro k r;exact (List.pairwise_append.1 ae).2.2 k r i (by simp)
    have a7:∀ k∈pre,∀ ok,ops[k]? = some ok->S1 ops A k i ok o:=by
     intro k r ok am;have an:=al k r;have a8:k∈D:=z k (by simp [r]);have b2:k<ops.size:=G.VB k a8;have bh:gM ops k i=false:=by
      cases b3:gM ops k i with
      | false=>rfl
      | true =>
       have:=jf j i o ho he b3;have:=(hL.iff k b2).1 this;exact absurd (by simp [r]:k∈pre++i::post) this.2
     refine ⟨?_,?_,?_⟩
     ·rcases G.free i a0 k a8 an with h | ⟨x,y,hx,hy,h⟩
      ·rw [bh] at h;cases h
      ·rw [am] at hx;rw [ho] at hy;obtain rfl:=Option.some.inj hx;obtain rfl:=Option.some.inj hy;exact h
     ·cases hc:(A.getD i []).contains k with
      | false=>rfl
      | true =>
       have:=(G.Uv i a0 k (by simpa using hc)).1;rw [bh] at this;cases this
     ·cases hc:(A.getD k []).contains i with
      | false=>rfl
      | true =>
       have:=(G.Uv k a8 i (by simpa using hc)).2;omega
    have b4:∀ k∈pre,M.contains k=true->M.contains i=false:=by
     intro k r b5;cases b6:M.contains i with
     | false=>rfl
     | true =>
      exfalso;have an:=al k r;have O:gM ops k i=true:=by
       obtain ⟨M1,M2,e⟩:=List.append_of_mem (List.contains_iff_mem.1 b5);have bi:=bb.Uv;have bj:=bb.VO;have bk:=List.contains_iff_mem.1 b6;rw [e] at bi bj bk;rcases List.mem_append.1 bk with h | h
       ·have:=(List.pairwise_append.1 bj).2.2 i h k (by simp);omega
       ·rcases List.mem_cons.1 h with rfl | h
        ·omega
        ·exact (List.pairwise_cons.1 (List.pairwise_append.1 bi).2.1).1 i h
      have h2:=jf j i o ho he O;exact ((hL.iff k (G.VB k (z k (by simp [r])))).1 h2).2 (by simp [r])
    have d:=zy ho pre post f F c a7 b4 h;have a9:(pre++post).Sublist (pre++i::post):=List.Sublist.append_left (List.sublist_cons_self _ _) _;have W:(pre++post).Sublist D:=a9.trans l;have a4:i ∉ pre++post:=by
     intro hm;rcases List.mem_append.1 hm with h | h
     ·have:=al i h;omega
     ·have:=(List.pairwise_cons.1 (List.pairwise_append.1 ae).2.1).1 i h;omega
    have ba:gV ops (listed.setIfInBounds i true) (fun k=>k∈D/\k ∉ pre++post):=by
     refine hL.set fun k=>?_;simp only [List.mem_append,List.mem_cons,not_or];constructor
     ·rintro ⟨O,h2,h3⟩;by_cases r:k=i
      ·exact .inl r
      ·exact .inr ⟨O,h2,r,h3⟩
     ·rintro (rfl | ⟨O,h2,h3,h4⟩)
      ·simp only [List.mem_append,not_or] at a4;exact ⟨a0,a4⟩
      ·exact ⟨O,h2,h4⟩
    have L:Down ops (listed.setIfInBounds i true):=by
     intro k ok am r e bl hb;have mono:listed.getD e.on false=true->(listed.setIfInBounds i true).getD e.on false=true:=by
      intro h;have b7:e.on<listed.size:=by
       rcases Nat.lt_or_ge e.on listed.size with h' | h'
       ·exact h'
       ·simp [Array.getD_eq_getD_getElem?,Array.getElem?_eq_none h'] at h
      simp only [Array.getD_eq_getD_getElem?,Array.getElem?_setIfInBounds] at h ⊢;split
      ·rename_i b8;subst b8;simp [b7]
      ·exact h
     by_cases an:i=k
     ·subst an;rw [ho] at am;obtain rfl:=Option.some.inj am;exact mono (he e bl hb)
     ·refine mono (j k ok am ?_ e bl hb);simp only [Array.getD_eq_getD_getElem?,Array.getElem?_setIfInBounds] at r ⊢;rw [if_neg an] at r;exact r
    have hlen:(pre++post).length+t.length<=fuel:=by simp at hf ⊢;omega
    obtain ⟨ao,d⟩:=d;unfold wpOp;rw [ho];simp only;cases hw:cY ops f o with
    | none=>rw [hw] at d;exact d.elim
    | some b =>
     rw [hw] at d;rw [ef K hw];cases b with
     | false =>
      rw [if_neg (by simp)];exact ih _ _ _ F c s1 γ _ w W ba hlen d.2 m J ad R hF I (K.put ao (oN γ)) hr hd L
     | true =>
      rw [if_pos rfl];simp only at d;by_cases hh:H.contains i=true
      ·rw [if_pos hh] at d;obtain ⟨hA,_,hK⟩:=d;have hv:=hA s1 m hr.Mi (fun p hp _=>hF p hp) (fun _=>J);have Y:∀ v s2,(if M.contains i then X s1 s2/\C i (keyOf f o) v s2 else Ext s1 s2)->X s1 s2/\mN C M i (keyOf f o) v c s2:=by
        intro v s2 hm;unfold mN;split at hm
        ·rename_i r;rw [if_pos r];exact hm
        ·rename_i r;rw [if_neg r];exact ⟨hX _ _ hm,ad _ _ hm J⟩
       have b9:∀ v s s',Ext s s'->mN C M i (keyOf f o) v c s->mN C M i (keyOf f o) v c s':=by
        intro v s s' e h;unfold mN at h ⊢;split at h
        ·rename_i r;rw [if_pos r];exact hC _ _ _ _ _ e h
        ·rename_i r;rw [if_neg r];exact ad _ _ e h
       have ab:Ed P T n o f s1 (fun f2 s2=>∃ v,f2=bO f o.dst v/\(if M.contains i then X s1 s2/\C i (keyOf f o) v s2 else Ext s1 s2)/\S i (keyOf f o) v s2/\V i (keyOf f o) v):=k7 ao hv fun v s2 ⟨O,h2,h3⟩=>⟨v,rfl,O,h2,h3⟩;refine .inl (je hT ab K hr ?_);rintro γ' f' s' a' w' O h2 h3 ⟨v,rfl,h4,h5,h6⟩;refine ih _ _ _ _ _ s' γ' a' w' W ba hlen (hK v h6) (bm _ _ _ m (Y _ _ h4).1) (Y _ _ h4).2 (b9 v) (fun e=>by rw [e] at hh;cases hh) ?_ ?_ O h3 (hd.trans h2) L
       ·intro p hp;rcases List.mem_append.1 hp with h | h
        ·exact I p h _ _ (Y _ _ h4).1 (hF p h)
        ·obtain rfl:=List.mem_singleton.1 h;exact h5
       ·intro p hp;rcases List.mem_append.1 hp with h | h
        ·exact I p h
        ·obtain rfl:=List.mem_singleton.1 h;exact fun s s' he=>hS i _ v s s' he
      ·rw [if_neg hh] at d;obtain ⟨h0,a1,v,⟨_,b'⟩,hK⟩:=d;have ca:=b' _ m hr.Mi;have cb:eS f o.op=none:=by
        unfold eS;split
        ·rename_i c hc;rw [hc] at a1;simp only [lO] at a1;split
         ·rename_i x hx;rw [hx] at a1;cases a1
         ·rfl
        ·rfl
       have ab:Ed P T n o f s1 (fun f2 s2=>f2=bO f o.dst v/\s2=s1):=by
        refine ⟨ao,.inl ?_⟩;rw [cb];exact ⟨v,s1,ca,rfl,rfl⟩
       refine .inl (je hT ab K hr ?_);rintro γ' f' s' a' w' O h2 h3 ⟨rfl,rfl⟩;exact ih _ _ _ F c _ γ' a' w' W ba hlen hK m J ad R hF I O h3 (hd.trans h2) L
end
open Classical in
theorem Em {α:Type}:∀ {d es:List α},d.Nodup->(∀ e∈d,e∈es)->d.length<=es.length
 | [],es,_,_=>Nat.zero_le _
 | x::d,es,h,hs=>by
  obtain ⟨i,n2⟩:=List.nodup_cons.1 h;have b:=hs x (by simp);have:=Em (d:=d) (es:=es.erase x) n2 fun e c=>(List.mem_erase_of_ne (fun h=>i (by rw [<- h];exact c))).2 (hs e (by simp [c]));have j:0<es.length:=List.length_pos_of_mem b;rw [List.length_erase_of_mem b] at this;simp only [List.length_cons];omega
theorem j_.tail {P:Program} {T:TT} (hT:TT.Ok P T) (bW:P.follows .mixedOrders=true) {n id:Nat} {ops:Array Oper} {f:Fr} {s:AS} {Q:Exit->Fr->AS->Prop} (D t:List Nat) (A:List (List Nat)) (bs:List Nat) (H:List Nat)
  (V:Nat->List AV->AV->Prop) (S:Nat->List AV->AV->AS->Prop) (X:AS->AS->Prop) (C:Nat->List AV->AV->AS->Prop) (M:List Nat) (j:Ek ops D t A H bs=true) (l:H6 ops D H M) (x:∀ s s',Ext s s'->X s s') (m:∀ a b c,X a b->X b c->X a c) (y:∀ i k v s s',Ext s s'->C i k v s->C i k v s') (z:∀ i k v s s',X s s'->S i k v s->S i k v s')
  {c:AS->Prop} (F:∀ s s',Ext s s'->c s->c s') (G:c s) (h:dq P T n ops A H V S X C M s (fun f s'=>fl P T n ops (t.filterMap fun i=>ops[i]?) f s' (fun f s=>Q .normal f s)) D f [] c):j_ P n (.region id ops true) f s Q:=by
 intro B γ a w I hr;have d:=O8 j;refine wp_region_any bW ?_;have hlen:D.length+t.length<=ops.size:=by
  have p:(D++t).Nodup:=by
   refine List.nodup_append.2 ⟨d.sD.imp fun h=>Nat.ne_of_lt h,d.st.imp fun h=>Nat.ne_of_lt h,fun a J b hb=>?_⟩;rintro rfl;exact d.Wl a J hb
  have e:∀ i∈D++t,i∈List.range ops.size:=by
   intro i hi;rw [List.mem_range];rcases List.mem_append.1 hi with h | h
   ·exact d.VB i h
   ·exact d.Wk i h
  have:=Em p e;simpa using this
 have K:=zw (fun f s L=>Cs t f s d.Wk d.nx L) D f [] c h;refine H7 hT hr.Qq d l x m y z ops.size D _ f [] c s γ a { w with drawn:=w.drawn+1 } (List.Sublist.refl _) ⟨by simp,fun i hi=>?_⟩ hlen K (x _ _ (Ext.refl s)) G F (fun _=>rfl) (by simp) (by simp) I (hr.of_heap rfl) (fK.of_heap rfl) ?_
 ·simp [Array.getD_eq_getD_getElem?,hi]
 ·intro i o O r;simp only [Array.getD_eq_getD_getElem?] at r;by_cases hi:i<ops.size
  ·simp [hi] at r
  ·simp [hi] at r
end Go.Am
end

section
namespace Go.Am
inductive QA where
 | leaf
 | calm
 | draw (m:Nat)
 | gN (m:Nat) (A:List (List Nat)) (H:List Nat)
 | QF (D t:List Nat) (A:List (List Nat)) (H:List Nat)
 | uU (D t:List Nat) (A:List (List Nat)) (H M:List Nat)
 | seq (a b:QA)
 | join (L:List (Nat×TK)) (W:List (Nat×Nat)) (a b:QA)
 | cond (a b:QA)
 | loop (L:List (Nat×TK)) (W:List (Nat×Nat)) (a:QA)
 | wrap (a:QA)
def UG (l:List Oper) (j:Nat):Option Nat:=(l[j]?).bind (·.dst)
def En (l:List Oper) (g:Option (Nat×Bool)) (f:Fr) (A B:Fr->Prop):Prop:=match g with
 | none=>A f
 | some (j,want)=>match UG l j with
  | none=>B f
  | some d=>match f d with
   | .bool b=>af b (match want with | true=>A (oO f d (.bool true)) | false=>B (oO f d (.bool true))) (match want with | true=>B (oO f d (.bool false)) | false=>A (oO f d (.bool false)))
   | .aQ _=>B f
   | _=>False
def Uh (l:List Oper) (d:Nat):Bool:=l.any fun o=>match o.op,o.dst with
 | .entry _,some b=>b==d
 | _,_=>false
def VP (v:AV) (i:Nat) (K:AV->Prop):Prop:=match v with
 | .aQ vs=>(match vs[i]? with | some v=>K v | none=>False)
 | _=>False
def VQ (P:Program) (T:TT) (l:List Oper) (o:Oper) (ρ:Operand->AV) (s:AS) (K:AV->AS->Prop):Prop:=match o.op with
 | .next it false=>Oe (yj (ρ it) s) s K
 | .next it true=>Ug (MC (ρ it) s) s K
 | .entry it=>WM (vz (ρ it) s) fun k v=>K (.aQ [k,v]) s
 | .extract (.tmp d) i=>bif Uh l d then VP (ρ (.tmp d)) i fun v=>VM (Kj T o.type) v fun v=>K v s else Qj P T o ρ s K
 | _=>Qj P T o ρ s K
def Eo (P:Program) (T:TT) (l:List Oper):List Oper->Fr->AS->(Fr->AS->Prop)->Prop
 | [],f,s,K=>K f s
 | o::os,f,s,K=>En l o.guard f (fun f=>VQ P T l o (oM f) s fun v s=>Eo P T l os (bO f o.dst v) s K) (fun f=>Eo P T l os (bO f o.dst .undef) s K)
def Ko:jQ->AS->Prop
 | [],_=>True
 | p::ps,s=>p.2 s/\Ko ps s
def WN (T:TT) (o:Oper):TK:=match o.op with
 | .alloc _=>.ptr
 | .box ..=>.ptr
 | .sliceToArrayPointer ..=>.ptr
 | _=>Kj T o.type
def S7 (P:Program) (T:TT) (l:List Oper) (A:List (List Nat)) (H:List Nat) (V:Nat->List AV->AV->Prop) (S:Nat->List AV->AV->AS->Prop) (s:AS) (K:Fr->AS->Prop):List Nat->Fr->jQ->Prop
 | [],f,F=>∀ s',Ext s s'->aM s'->Ko F s'->K f s'
 | i::is,f,F=>match l[i]? with
  | none=>False
  | some o=>En l o.guard f
   (fun f=>match H.contains i with
    | true=>(∀ s',Ext s s'->aM s'->Ko (F.filter fun p=>(A.getD i []).contains p.1) s'->Qj P T o (oM f) s' fun v s''=>Ext s' s''/\S i (keyOf f o) v s''/\V i (keyOf f o) v) /\
     (∃ v,V i (keyOf f o) v)/\∀ v,V i (keyOf f o) v->VM (WN T o) v fun v=>S7 P T l A H V S s K is (bO f o.dst v) (F++[(i,S i (keyOf f o) v)])
    | false=>Qj P T o (oM f) s fun v _=>S7 P T l A H V S s K is (bO f o.dst v) F)
   (fun f=>S7 P T l A H V S s K is (bO f o.dst .undef) F)
def QG:Op->Bool
 | .build ..=>true
 | o=>fL o
theorem O9 {T:TT} {op:Op} (b:QG op=true) {ρ:Operand->AV} {s s1:AS} {v:AV} (h:cF T op ρ s=some (v,s1)) (s':AS):cF T op ρ s'=some (v,s'):=by
 by_cases hb:fL op=true
 ·exact (zB hb h).2 s'
 ·cases op <;> first | exact absurd b hb | skip
  simp only [cF,Option.map_eq_some_iff,Prod.mk.injEq] at h ⊢;obtain ⟨u,c,rfl,rfl⟩:=h;exact ⟨_,c,by simp⟩
def Kq (P:Program) (T:TT) (l:List Oper) (A:List (List Nat)) (H:List Nat) (V:Nat->List AV->AV->Prop) (S:Nat->List AV->AV->AS->Prop) (X:AS->AS->Prop) (C:Nat->List AV->AV->AS->Prop) (M:List Nat) (s:AS) (K:Fr->AS->Prop):List Nat->Fr->jQ->(AS->Prop)->Prop
 | [],f,F,c=>∀ s',X s s'->aM s'->Ko F s'->c s'->K f s'
 | i::is,f,F,c=>match l[i]? with
  | none=>False
  | some o=>En l o.guard f
   (fun f=>match H.contains i with
    | true=>(∀ s',X s s'->aM s'->Ko (F.filter fun p=>(A.getD i []).contains p.1) s'->match M.contains i with
      | true=>c s'->Qj P T o (oM f) s' fun v s''=>(X s' s''/\C i (keyOf f o) v s'')/\S i (keyOf f o) v s''/\V i (keyOf f o) v
      | false=>Qj P T o (oM f) s' fun v s''=>Ext s' s''/\S i (keyOf f o) v s''/\V i (keyOf f o) v) /\
     (∃ v,V i (keyOf f o) v)/\∀ v,V i (keyOf f o) v->VM (WN T o) v fun v=>Kq P T l A H V S X C M s K is (bO f o.dst v) (F++[(i,S i (keyOf f o) v)]) (match M.contains i with | true=>C i (keyOf f o) v | false=>c)
    | false=>match M.contains i with
     | true=>False
     | false=>Qj P T o (oM f) s fun v _=>match QG o.op with
      | true=>Kq P T l A H V S X C M s K is (bO f o.dst v) F c
      | false=>(∀ s',X s s'->aM s'->Qj P T o (oM f) s' fun v' _=>v'=v)/\Kq P T l A H V S X C M s K is (bO f o.dst v) F c)
   (fun f=>match M.contains i with
    | true=>False
    | false=>Kq P T l A H V S X C M s K is (bO f o.dst .undef) F c)
def VR (k:TK) (K:AV->Prop):Prop:=match k with
 | .int k=>∀ n:Int,K (.int k n)
 | .bool=>∀ b:Bool,K (.bool b)
 | .str=>∀ b:List UInt8,K (.str b)
 | .ptr=>∀ a:Option (Nat×Nat),K (.ptr a)
 | .map=>∀ r:Option Nat,K (.map r)
 | .agg=>∀ l:List AV,K (.agg l)
 | _=>∀ v:AV,K v
def QH (k:TK) (v:AV) (K:AV->Prop):Prop:=match k,v with
 | .int k,.int k' n=>bif k'==k then K (.int k n) else False
 | .bool,.bool b=>K (.bool b)
 | .str,.str b=>K (.str b)
 | .ptr,.ptr a=>K (.ptr a)
 | .map,.map r=>K (.map r)
 | .agg,.agg l=>K (.agg l)
 | .any,v=>K v
 | .aQ _,v=>K v
 | _,_=>False
theorem QI {k : TK} {v : AV} {K K' : AV -> Prop} (h : VR k K) (b : QH k v K') : K v /\ K' v := by
  unfold QH at b;split at b
  · rename_i k k' n;cases c : (k' == k) with
    | false => rw [c] at b; exact b.elim
    | true => rw [c] at b; obtain rfl : k' = k := by simpa using c
              exact ⟨h n, b⟩
  all_goals first | exact ⟨h _, b⟩ | exact b.elim
def S8:List (Nat×TK)->Fr->(List AV->Fr->Prop)->Prop
 | [],f,K=>K [] f
 | p::L,f,K=>VR p.2 fun v=>S8 L (oO f p.1 v) fun vs f=>K (v::vs) f
def Kr:List (Nat×TK)->Fr->(List AV->Prop)->Prop
 | [],_,K=>K []
 | p::L,f,K=>QH p.2 (f p.1) fun v=>Kr L f fun vs=>K (v::vs)
def Cu (W:List (Nat×Nat)) (t:Nat):Bool:=W.any fun p=>Nat.ble p.1 t&&Nat.ble t p.2
def forget (W:List (Nat×Nat)) (f:Fr):Fr:=fun t=>bif Cu W t then .bad else f t
theorem Ep:∀ (L:List (Nat×TK)) (f0 f:Fr) {K:List AV->Fr->Prop} {K':List AV->Prop},S8 L f0 K->Kr L f K'->∃ vs f1,K vs f1/\K' vs/\∀ t,f1 t=if t∈L.map (·.1) then f t else f0 t
 | [],f0,f,K,K',h,c=>⟨[],f0,h,c,fun t=>by simp⟩
 | p::L,f0,f,K,K',h,c=>by
  obtain ⟨d,h2⟩:=QI h c;obtain ⟨vs,f1,h3,h4,e⟩:=Ep L _ f d h2;refine ⟨_,f1,h3,h4,fun t=>?_⟩;rw [e t];simp only [List.map_cons,List.mem_cons,oO];by_cases ht:t∈L.map (·.1)
  ·rw [if_pos ht,if_pos (.inr ht)]
  ·rw [if_neg ht];by_cases b:t=p.1
   ·rw [if_pos b,if_pos (.inl b),b]
   ·rw [if_neg b,if_neg (by simp [b,ht])]
def uV (P:Program) (T:TT):QA->Code->Fr->AS->(Exit->Fr->AS->Prop)->Prop
 | .leaf,.skip,f,s,Q=>Q .normal f s
 | .leaf,.label _,f,s,Q=>Q .normal f s
 | .leaf,.exit id,f,s,Q=>Q (.exit id) f s
 | .leaf,.ret,f,s,Q=>Q .ret f s
 | .leaf,.region _ ops false,f,s,Q=>Eo P T ops.toList ops.toList f s fun f s=>Q .normal f s
 | .calm,.region _ ops true,f,s,Q=>Eo P T ops.toList ops.toList f s fun f s=>Q .normal f s
 | .draw _,.region _ ops true,f,s,Q=>Eo P T ops.toList ops.toList f s fun f s=>Q .normal f s
 | .gN m A H,.region _ ops true,f,s,Q=>gx fun S V=>S7 P T ops.toList A H V S s (fun f s=>Eo P T ops.toList (ops.toList.drop m) f s fun f s=>Q .normal f s) (List.range m) f []
 | .QF D t A H,.region _ ops true,f,s,Q=>gx fun S V=>S7 P T ops.toList A H V S s (fun f s=>Eo P T ops.toList (t.filterMap fun i=>ops[i]?) f s fun f s=>Q .normal f s) D f []
 | .uU D t A H M,.region _ ops true,f,s,Q=>sE s fun X C c S V=>Kq P T ops.toList A H V S X C M s (fun f s=>Eo P T ops.toList (t.filterMap fun i=>ops[i]?) f s fun f s=>Q .normal f s) D f [] c
 | .seq a b,.seq x y,f,s,Q=>uV P T a x f s (Co (fun f s=>uV P T b y f s Q) Q)
 | .join L W a b,.seq x y,f,s,Q=>bt fun J=>(S8 L (forget W f) fun vs f=>∀ s,J vs s->uV P T b y f s Q)/\uV P T a x f s (Co (fun f s=>Kr L f fun vs=>J vs s) Q)
 | .cond a b,.cond c x y,f,s,Q=>(match oM f c with | .bool t=>af t (uV P T a x f s Q) (uV P T b y f s Q) | _=>False)
 | .wrap a,.block id x,f,s,Q=>uV P T a x f s (yd id Q)
 | .wrap a,.scope x,f,s,Q=>uV P T a x f s (Qw Q)
 | .loop L W a,.loop x,f,s,Q=>bA fun I d=>(Kr L f fun vs=>I d vs s)/\∀ m,S8 L (forget W f) fun vs f=>∀ s,I m vs s->uV P T a x f s (Co (fun f s=>Kr L f fun vs=>∃ m',m'<m/\I m' vs s) Q)
 | _,_,_,_,_=>False
def Er:QA->Code->List (Nat×Nat)
 | .join _ W _ b,.seq _ y=>W++Er b y
 | .loop _ W _,_=>W
 | .seq a b,.seq x y=>Er a x++Er b y
 | .cond a b,.cond _ x y=>Er a x++Er b y
 | .wrap a,.block _ x=>Er a x
 | .wrap a,.scope x=>Er a x
 | _,.region _ ops _=>ops.toList.filterMap fun o=>o.dst.map fun d=>(d,d)
 | _,_=>[]
def mX (T:TT) (o:Op):Bool:=lO o&&(match o with
 | .convert _ d _=>(match T.cQ d with | some (.slice _)=>false | _=>true)
 | _=>true)
def S9 (l W:List (Nat×Nat)):Bool:=l.all fun p=>W.any fun q=>Nat.ble q.1 p.1&&Nat.ble p.2 q.2
def codeOk (T:TT) (n:Nat):QA->Code->Bool
 | .leaf,.region _ ops false=>ops.toList.all fun o=>dR n o.dst
 | .leaf,_=>true
 | .calm,.region _ ops true=>(ops.toList.all fun o=>dR n o.dst)&&HZ ops (Region.before ops).toList&&ops.toList.all fun o=>!yf o.op
 | .draw m,.region _ ops true=>(ops.toList.all fun o=>dR n o.dst)&&Ef ops m [] (Region.before ops).toList&&(ops.toList.take m).all fun o=>mX T o.op
 | .gN m A H,.region _ ops true=>(ops.toList.all fun o=>dR n o.dst)&&Ef ops m A (Region.before ops).toList&&!H.isEmpty&&(List.range m).all fun i=>H.contains i||(ops.toList[i]?).any fun o=>mX T o.op
 | .QF D t A H,.region _ ops true=>(ops.toList.all fun o=>dR n o.dst)&&Ek ops D t A H (Region.before ops).toList&&!H.isEmpty&&D.all fun i=>H.contains i||(ops.toList[i]?).any fun o=>mX T o.op
 | .uU D t A H M,.region _ ops true=>(ops.toList.all fun o=>dR n o.dst)&&Ek ops D t A H (Region.before ops).toList&&Wm ops D H M (Region.before ops).toList&&D.all fun i=>H.contains i||(ops.toList[i]?).any fun o=>mX T o.op
 | .seq a b,.seq x y=>codeOk T n a x&&codeOk T n b y
 | .join L W a b,.seq x y=>codeOk T n a x&&codeOk T n b y&&S9 (Er a x) W&&L.all fun p=>Cu W p.1
 | .cond a b,.cond _ x y=>codeOk T n a x&&codeOk T n b y
 | .wrap a,.block _ x=>codeOk T n a x
 | .wrap a,.scope x=>codeOk T n a x
 | .loop L W a,.loop x=>codeOk T n a x&&S9 (Er a x) W&&L.all fun p=>Cu W p.1
 | _,_=>false
def su (W:List (Nat×Nat)) (f f':Fr):Prop:=∀ t,Cu W t=false->f' t=f t
theorem su.refl (W:List (Nat×Nat)) (f:Fr):su W f f:=fun _ _=>rfl
theorem su.trans {W:List (Nat×Nat)} {f g h:Fr} (a:su W f g) (b:su W g h):su W f h:=fun t ht=>(b t ht).trans (a t ht)
theorem ym (W W':List (Nat×Nat)) (t:Nat):Cu (W++W') t=(Cu W t||Cu W' t):=by simp [Cu,List.any_append]
theorem su.left {W W':List (Nat×Nat)} {f f':Fr} (h:su W f f'):su (W++W') f f':=fun t ht=>h t (by rw [ym] at ht;simp at ht;exact ht.1)
theorem su.right {W W':List (Nat×Nat)} {f f':Fr} (h:su W' f f'):su (W++W') f f':=fun t ht=>h t (by rw [ym] at ht;simp at ht;exact ht.2)
theorem su.sub {W W':List (Nat×Nat)} {f f':Fr} (h:su W f f') (hs:S9 W W'=true):su W' f f':=by
 intro t ht;refine h t ?_;cases b:Cu W t with
 | false=>rfl
 | true =>
  exfalso;simp only [Cu,List.any_eq_true,Bool.and_eq_true,Nat.ble_eq] at b;obtain ⟨p,c,d,h2⟩:=b;simp only [S9,List.all_eq_true,List.any_eq_true,Bool.and_eq_true,Nat.ble_eq] at hs;obtain ⟨q,e,h3,h4⟩:=hs p c;have:Cu W' t=true:=by
   simp only [Cu,List.any_eq_true,Bool.and_eq_true,Nat.ble_eq];exact ⟨q,e,Nat.le_trans h3 d,Nat.le_trans h2 h4⟩
  rw [this] at ht;cases ht
def JO (os:List Oper):List (Nat×Nat):=os.filterMap fun o=>o.dst.map fun d=>(d,d)
theorem su.oO {os:List Oper} {o:Oper} {f:Fr} {v:AV}:su (JO (o::os)) f (bO f o.dst v):=by
 intro t ht;cases hd:o.dst with
 | none=>rfl
 | some d =>
  simp only [bO,Am.oO];rw [if_neg];intro e;subst e;simp only [JO,List.filterMap_cons,hd,Option.map_some,Cu,List.any_cons,Bool.or_eq_false_iff,Bool.and_eq_false_iff] at ht;have e:Nat.ble t t=true:=by simp
  rcases ht.1 with h | h <;> (rw [e] at h;cases h)
theorem su.cons {os:List Oper} {o:Oper} {f f':Fr} (h:su (JO os) f f'):su (JO (o::os)) f f':=by
 intro t ht;refine h t ?_;simp only [JO,List.filterMap_cons] at ht;cases hd:o.dst with
 | none=>rw [hd] at ht;exact ht
 | some d =>
  rw [hd] at ht;simp only [Cu,Option.map_some,List.any_cons,Bool.or_eq_false_iff] at ht;exact ht.2
section
variable {P:Program} {T:TT} {n:Nat}
theorem j_.weaken {c:Code} {f f1:Fr} {s:AS} {Q:Exit->Fr->AS->Prop} (h:∀ t,f1 t=f t\/f1 t=.bad) (d:j_ P n c f1 s Q):j_ P n c f s Q:=by
 intro B γ a w b hr;refine d B γ a w ⟨b.size,b.defers,fun t=>?_⟩ hr;rcases h t with e | e
 ·rw [e];exact b.vals t
 ·rw [e];simp [ah]
theorem QJ {f:Fr} {d:Nat} {v:AV} (h:f d=v):oO f d v=f:=by
 funext t;simp only [oO];split
 ·rename_i e;rw [e,h]
 ·rfl
theorem yo {ops:Array Oper} {o:Oper} {f:Fr} {A B:Fr->Prop} (h:En ops.toList o.guard f A B):(cY ops f o=some true/\A f)\/(cY ops f o=some false/\B f):=by
 have k:∀ j,(ops[j]?).bind (·.dst)=UG ops.toList j:=by intro j;simp [UG]
 unfold En at h;unfold cY;split at h
 ·rename_i e;rw [e];exact .inl ⟨rfl,h⟩
 ·rename_i j want e;rw [e];simp only [k];split at h
  ·rename_i e2;rw [e2];exact .inr ⟨rfl,h⟩
  ·rename_i d e2;rw [e2];simp only;split at h
   ·rename_i b i;rw [i];have c:=Bk h;cases b <;> cases want <;> simp only [Bool.false_eq_true,if_false,if_true] at c <;> rw [QJ i] at c
    ·exact .inl ⟨rfl,c⟩
    ·exact .inr ⟨rfl,c⟩
    ·exact .inr ⟨rfl,c⟩
    ·exact .inl ⟨rfl,c⟩
   ·rename_i i;rw [i];exact .inr ⟨rfl,h⟩
   ·exact h.elim
theorem tX {f:Fr} {o:Op} (b:HY o=false):eS f o=none:=by
 unfold HY at b;unfold eS;split
 ·rename_i c;simp only at b;split
  ·rename_i x d;rw [d] at b;cases b
  ·rfl
 ·rfl
theorem jh {ops:Array Oper} {K:Fr->AS->Prop}:∀ (os:List Oper) (f:Fr) (s:AS),(os.all fun o=>dR n o.dst)=true->Eo P T ops.toList os f s K->fl P T n ops os f s fun f' s'=>K f' s'/\su (JO os) f f'
 | [],f,s,_,h=>⟨h,su.refl _ _⟩
 | o::os,f,s,hd,h=>by
  simp only [List.all_cons,Bool.and_eq_true] at hd;simp only [Eo] at h;simp only [fl];have mono:∀ (os:List Oper) (f:Fr) (s:AS) (K K':Fr->AS->Prop),(∀ f s,K f s->K' f s)->fl P T n ops os f s K->fl P T n ops os f s K':=by
   intro os
   induction os with
   | nil=>intro f s K K' j h;exact j _ _ h
   | cons o os r =>
    intro f s K K' j h;simp only [fl] at h ⊢;split at h
    ·obtain ⟨e,h2⟩:=h;rcases h2 with h2 | ⟨l,z,h2⟩
     rotate_left
     ·exact ⟨e,.inr ⟨l,z,fun p m=>r _ _ _ _ j (h2 p m)⟩⟩
     refine ⟨e,.inl ?_⟩;split at h2
     ·exact h2.mono fun v s' w=>r _ _ _ _ j w
     ·obtain ⟨v,s',h3,h4⟩:=h2;exact ⟨v,s',h3,r _ _ _ _ j h4⟩
    ·exact ⟨h.1,r _ _ _ _ j h.2⟩
    ·exact h
  rcases yo h with ⟨x,h⟩ | ⟨x,h⟩
  ·rw [x];have key:∀ v s',Eo P T ops.toList os (bO f o.dst v) s' K->fl P T n ops os (bO f o.dst v) s' fun f' s'=>K f' s'/\su (JO (o::os)) f f' :=
    fun v s' w=>mono _ _ _ _ _ (fun f' s'' ⟨a,b⟩=>⟨a,su.oO.trans b.cons⟩) (jh os _ _ hd.2 w)
   unfold VQ at h;split at h
   ·rename_i it c;obtain ⟨l,e,h2⟩:=GX h;exact ⟨hd.1,.inr ⟨l,by rw [c];exact e,fun p m=>key _ _ (h2 p m)⟩⟩
   ·rename_i it c;obtain ⟨l,e,h2⟩:=O3 h;exact ⟨hd.1,.inr ⟨l,by rw [c];exact e,fun p m=>key _ _ (h2 p m)⟩⟩
   ·rename_i it c;obtain ⟨k,v,e,h2⟩:=h;refine ⟨hd.1,.inl ?_⟩;rw [tX (by rw [c];rfl)];exact ⟨_,s,by rw [c];simp only [cF,e,Option.map_some],key _ _ h2⟩
   ·rename_i d i c;cases y:Uh ops.toList d with
    | false=>rw [y] at h;simp only [cond_false] at h;exact k7 hd.1 (sF h) key
    | true =>
     rw [y] at h;simp only [cond_true] at h;unfold VP at h;split at h
     ·rename_i vs hv;split at h
      ·rename_i v hi;refine ⟨hd.1,.inl ?_⟩;rw [tX (by rw [c];rfl)];exact ⟨v,s,by rw [c];simp only [cF,hv,hi,Option.map_some],key _ _ (zA h)⟩
      ·exact h.elim
     ·exact h.elim
   ·exact k7 hd.1 (sF h) key
  ·rw [x];exact ⟨hd.1,mono _ _ _ _ _ (fun f' s'' ⟨a,b⟩=>⟨a,su.oO.trans b.cons⟩) (jh os _ _ hd.2 h)⟩
theorem tY {o:Op} (h:mX T o=true):lO o=true/\HY o=false:=by
 simp only [mX,Bool.and_eq_true] at h;refine ⟨h.1,?_⟩;unfold HY;split
 ·rename_i c;have:=h.1;simp only [lO] at this;split
  ·rename_i x b;rw [b] at this;cases this
  ·rfl
 ·rfl
theorem tZ {o:Op} {ρ:Operand->AV} {s s':AS} {v:AV} (i:mX T o=true) (h:cF T o ρ s=some (v,s')):s'=s:=by
 have e:=(tY i).1;cases o <;> first | (cases e;done) | skip
 case convert src dst x =>
  simp only [cF] at h;simp only [mX,Bool.and_eq_true] at i;have d:=i.2;unfold cN at h;split at h
  ·simp_all
  ·simp_all
  ·rename_i e1 e2;rw [e1] at d;cases d
  ·split at h
   ·split at h <;> simp_all
   ·cases h
  ·split at h <;> simp_all
  ·split at h
   ·split at h
    ·simp only [Option.some.injEq,Prod.mk.injEq] at h;exact h.2.symm
    simp only [Option.bind_eq_some_iff,Option.map_eq_some_iff] at h;obtain ⟨_,_,_,_,h3⟩:=h;simp only [Prod.mk.injEq] at h3;exact h3.2.symm
   ·cases h
  ·rename_i e1 e2;rw [e1] at d;cases d
  ·cases h
 case call c =>
  simp only [lO] at e;simp only [cF] at h;cases j:c.callee with
  | value x=>rw [j] at e;cases e
  | invoke x m=>rw [j] at h;cases h
  | builtin b =>
   rw [j] at e h;simp only at h;unfold dQ at h;split at h <;> first
    | (cases e;done)
    | (cases h;done)
    | (simp only [Option.map_eq_some_iff,Prod.mk.injEq] at h;obtain ⟨_,_,_,h⟩:=h;exact h.symm)
 case makeFunc fn first captured =>
  cases fn with
  | func g=>simp only [cF] at h;split at h <;> simp_all
  | _=>simp [cF] at h
 all_goals
  simp only [cF] at h
  first
  | (simp only [Option.some.injEq,Prod.mk.injEq] at h;exact h.2.symm)
  | (simp only [Option.map_eq_some_iff,Prod.mk.injEq] at h;obtain ⟨_,_,_,h⟩:=h;exact h.symm)
  | (split at h <;> first | (cases h;done) | (simp only [Option.some.injEq,Prod.mk.injEq] at h;exact h.2.symm) | (simp only [Option.map_eq_some_iff,Prod.mk.injEq] at h;obtain ⟨_,_,_,h⟩:=h;exact h.symm))
theorem QK {ops:Array Oper} {s:AS} {K:Fr->AS->Prop} {m:Nat} {V:Nat->List AV->AV->Prop} {S:Nat->List AV->AV->AS->Prop} (b:1<=s.st) (hm:m<=ops.size) (p:∀ i o,i<m->ops[i]? = some o->mX T o.op=true):∀ (k a:Nat) (f:Fr),a+k=m ->
  fl P T n ops (ops.toList.drop a) f s K->VH P T n ops [] [] V S s (fun f s'=>fl P T n ops (ops.toList.drop m) f s' K) (List.range' a k) f []
 | 0,a,f,r,h=>by
  simp only [Nat.add_zero] at r;subst r;simp only [List.range'_zero,dq];intro s' _ _ _ _ hs;rw [hs (by trivial)];exact h
 | k+1,a,f,r,h=>by
  have c:a<ops.size:=by omega
  have w:ops.toList.drop a=ops[a]::ops.toList.drop (a+1):=by
   rw [List.drop_eq_getElem_cons (by simpa using c)];simp
  have d:ops[a]? = some ops[a]:=Array.getElem?_eq_getElem c;rw [w] at h;simp only [fl] at h;rw [List.range'_succ];simp only [dq,d];have e:=p a _ (by omega) d;obtain ⟨x,C⟩:=tY e;split at h
  ·rename_i y;obtain ⟨hd,h⟩:=h;rcases h with h | ⟨l,B,_⟩
   rotate_left
   ·rw [yg (by
     have j:=x;cases z:ops[a].op <;> first | rfl | (rw [z] at j;cases j))] at B
    cases B
   rw [tX C] at h;obtain ⟨v,s',A,h2⟩:=h;obtain rfl:=tZ e A;refine ⟨hd,?_⟩;rw [y];simp only [List.contains_nil,Bool.false_eq_true,if_false];exact ⟨by trivial,x,v,⟨A,fun s' D _=>Bh x b A D⟩,QK b hm p k (a+1) _ (by omega) h2⟩
  ·rename_i y;refine ⟨h.1,?_⟩;rw [y];exact ⟨rfl,QK b hm p k (a+1) _ (by omega) h.2⟩
  ·exact h.elim
theorem zC {F:jQ} {s:AS}:Ko F s↔∀ p∈F,p.2 s:=by
 induction F with
 | nil=>simp [Ko]
 | cons p ps b=>simp [Ko,b]
theorem G9 {ops:Array Oper} {A:List (List Nat)} {H:List Nat} {V:Nat->List AV->AV->Prop} {S:Nat->List AV->AV->AS->Prop} {s:AS} {K:Fr->AS->Prop} {W:List (Nat×Nat)} (C:1<=s.st) (X:H≠[]) (hd:∀ (i:Nat) (o:Oper),ops[i]? = some o->dR n o.dst=true)
  (O:∀ (i:Nat) (o:Oper) (d:Nat),ops[i]? = some o->o.dst=some d->Cu W d=true) :
  ∀ (is:List Nat) (f:Fr) (F:jQ),(∀ i∈is,H.contains i=true\/∃ o,ops[i]? = some o/\mX T o.op=true)->S7 P T ops.toList A H V S s K is f F->VH P T n ops A H V S s (fun f' s'=>K f' s'/\su W f f') is f F:=by
 intro is;have key:∀ (f0:Fr) (is:List Nat) (f:Fr) (F:jQ),su W f0 f->(∀ i∈is,H.contains i=true\/∃ o,ops[i]? = some o/\mX T o.op=true)->S7 P T ops.toList A H V S s K is f F->VH P T n ops A H V S s (fun f' s'=>K f' s'/\su W f0 f') is f F:=by
  intro f0 is
  induction is with
  | nil =>
   intro f F B c h;simp only [S7] at h;simp only [dq];intro s' r k Q _ _;exact ⟨h s' r k (zC.2 Q),B⟩
  | cons i is D =>
   intro f F B c h;simp only [S7] at h;simp only [dq];cases b:ops[i]? with
   | none=>simp [b] at h
   | some o =>
    have w:ops.toList[i]? = some o:=by simpa using b
    rw [w] at h;simp only at h ⊢;refine ⟨hd i o b,?_⟩;have l:∀ v,su W f0 (bO f o.dst v):=by
     intro v t ht;cases G:o.dst with
     | none=>exact B t ht
     | some d =>
      have:=O i o d b G;simp only [bO,oO];rw [if_neg (fun e=>by rw [e,this] at ht;cases ht)];exact B t ht
    rcases yo h with ⟨I,h⟩ | ⟨I,h⟩
    ·rw [I];simp only;cases J:H.contains i with
     | true =>
      rw [J] at h;simp only at h;rw [if_pos rfl];obtain ⟨x,h2,h3⟩:=h;refine ⟨fun s' r k R _=>?_,h2,fun v hv=>D _ _ (l v) (fun j hj=>c j (List.mem_cons_of_mem _ hj)) (zA (h3 v hv))⟩;refine sF (x s' r k (zC.2 fun p m=>?_));simp only [List.mem_filter] at m;exact R p m.1 m.2
     | false =>
      rw [J] at h;simp only at h;rw [if_neg (by simp)];rcases c i (by simp) with L | ⟨o',y,z⟩
      ·rw [J] at L;cases L
      ·rw [b] at y;obtain rfl:=Option.some.inj y;obtain ⟨M,U⟩:=tY z;obtain ⟨v,s',x,h2⟩:=DL U h;obtain rfl:=tZ z x;exact ⟨rfl,M,v,⟨x,fun s' r _=>Bh M C x r⟩,D _ _ (l v) (fun j hj=>c j (List.mem_cons_of_mem _ hj)) h2⟩
    ·rw [I];exact ⟨rfl,D _ _ (l _) (fun j hj=>c j (List.mem_cons_of_mem _ hj)) h⟩
 exact fun f F c h=>key f is f F (su.refl _ _) c h
theorem Es {ops:Array Oper} {A:List (List Nat)} {H:List Nat} {V:Nat->List AV->AV->Prop} {S:Nat->List AV->AV->AS->Prop} {X:AS->AS->Prop} {C:Nat->List AV->AV->AS->Prop} {M:List Nat} {s:AS} {K:Fr->AS->Prop} {W:List (Nat×Nat)} (hd:∀ (i:Nat) (o:Oper),ops[i]? = some o->dR n o.dst=true)
  (hW:∀ (i:Nat) (o:Oper) (d:Nat),ops[i]? = some o->o.dst=some d->Cu W d=true) :
  ∀ (f0:Fr) (is:List Nat) (f:Fr) (F:jQ) (c:AS->Prop),su W f0 f->(∀ i∈is,H.contains i=true\/∃ o,ops[i]? = some o/\mX T o.op=true)->Kq P T ops.toList A H V S X C M s K is f F c->dq P T n ops A H V S X C M s (fun f' s'=>K f' s'/\su W f0 f') is f F c
 | f0,[],f,F,c,O,D,h=>by
  simp only [Kq] at h;simp only [dq];intro s' I l hF R _;exact ⟨h s' I l (zC.2 hF) R,O⟩
 | f0,i::is,f,F,c,O,D,h=>by
  have Q:=fun f F c0 a b c=>Es (A:=A) (H:=H) (V:=V) (S:=S) (X:=X) (C:=C) (M:=M) (s:=s) (K:=K) hd hW f0 is f F c0 a b c;simp only [Kq] at h;simp only [dq];cases m:ops[i]? with
  | none=>simp [m] at h
  | some o =>
   have J:ops.toList[i]? = some o:=by simpa using m
   rw [J] at h;simp only at h ⊢;refine ⟨hd i o m,?_⟩;have w:∀ v,su W f0 (bO f o.dst v):=by
    intro v t ht;cases U:o.dst with
    | none=>exact O t ht
    | some d =>
     have:=hW i o d m U;simp only [bO,oO];rw [if_neg (fun e=>by rw [e,this] at ht;cases ht)];exact O t ht
   rcases yo h with ⟨Y,h⟩ | ⟨Y,h⟩
   ·rw [Y];simp only;cases Z:H.contains i with
    | true =>
     rw [Z] at h;simp only at h;rw [if_pos rfl];obtain ⟨G,h2,h3⟩:=h;refine ⟨fun s' I l R hm=>?_,h2,fun v hv=>?_⟩
     ·have x:=G s' I l (zC.2 fun p y=>by
       simp only [List.mem_filter] at y;exact R p y.1 y.2)
      cases z:M.contains i with
      | true =>
       rw [z] at x;simp only [if_true];exact sF (x (hm z))
      | false =>
       rw [z] at x;simp only [Bool.false_eq_true,if_false];exact sF x
     ·have ab:=zA (h3 v hv);have e:mN C M i (keyOf f o) v c=(match M.contains i with | true=>C i (keyOf f o) v | false=>c):=by
       unfold mN;cases M.contains i <;> simp
      rw [e];exact Q _ _ _ (w v) (fun j hj=>D j (List.mem_cons_of_mem _ hj)) ab
    | false =>
     rw [Z] at h;simp only at h;rw [if_neg (by simp)];rcases D i (by simp) with h' | ⟨o',L,B⟩
     ·rw [Z] at h';cases h'
     ·rw [m] at L;obtain rfl:=Option.some.inj L;obtain ⟨q1,q2⟩:=tY B;split at h
      ·exact h.elim
      ·rename_i k;obtain ⟨v,s',G,h2⟩:=DL q2 h;obtain rfl:=tZ B G;cases r:QG o.op with
       | true =>
        rw [r] at h2;exact ⟨k,q1,v,⟨G,fun s' _ _=>O9 r G s'⟩,Q _ _ _ (w v) (fun j hj=>D j (List.mem_cons_of_mem _ hj)) h2⟩
       | false =>
        rw [r] at h2;refine ⟨k,q1,v,⟨G,fun s' I l=>?_⟩,Q _ _ _ (w v) (fun j hj=>D j (List.mem_cons_of_mem _ hj)) h2.2⟩;obtain ⟨v',s'',h3,h4⟩:=DL q2 (h2.1 s' I l);obtain rfl:=tZ B h3;rw [<- h4];exact h3
   ·rw [Y];split at h
    ·exact h.elim
    ·rename_i k;exact ⟨k,Q _ _ _ (w _) (fun j hj=>D j (List.mem_cons_of_mem _ hj)) h⟩
end
end Go.Am
end

section
namespace Go.Am
section
variable {P:Program} {T:TT} {n:Nat}
theorem j_.pre {c:Code} {f:Fr} {s:AS} {Q:Exit->Fr->AS->Prop} (h:aM s->j_ P n c f s Q):j_ P n c f s Q:=fun B γ a w b hr=>h hr.Mi B γ a w b hr
theorem qh {os:List Oper} {n:Nat} (h:(os.all fun o=>dR n o.dst)=true):(∀ o∈os,dR n o.dst=true):=by
 simpa [List.all_eq_true] using h
theorem xg {os:List Oper} {o:Oper} {d:Nat} (b:o∈os) (hd:o.dst=some d):Cu (JO os) d=true:=by
 simp only [Cu,List.any_eq_true,Bool.and_eq_true,Nat.ble_eq,JO,List.mem_filterMap,Option.map_eq_some_iff];exact ⟨(d,d),⟨o,b,d,hd,rfl⟩,Nat.le_refl _,Nat.le_refl _⟩
theorem Ks (hT:TT.Ok P T) (bW:P.follows .mixedOrders=true):∀ (a:QA) (c:Code) (f:Fr) (s:AS) (Q:Exit->Fr->AS->Prop),codeOk T n a c=true->uV P T a c f s Q->j_ P n c f s fun e f' s'=>Q e f' s'/\su (Er a c) f f':=by
 intro a
 induction a with
 | leaf =>
  intro c f s Q j h;cases c with
  | skip=>exact j_.skip ⟨h,su.refl _ _⟩
  | label l=>exact j_.label ⟨h,su.refl _ _⟩
  | exit id=>exact j_.exit ⟨h,su.refl _ _⟩
  | ret=>exact j_.ret ⟨h,su.refl _ _⟩
  | region id ops dr =>
   cases dr with
   | false=>exact j_.region hT (jh ops.toList f s j h)
   | true=>exact h.elim
  | _=>exact h.elim
 | calm =>
  intro c f s Q j h;cases c with
  | region id ops dr =>
   cases dr with
   | false=>exact h.elim
   | true =>
    simp only [codeOk,Bool.and_eq_true] at j;exact j_.calm hT bW j.1.2 j.2 (jh ops.toList f s j.1.1 h)
  | _=>exact h.elim
 | draw m =>
  intro c f s Q j h;cases c with
  | region id ops dr =>
   cases dr with
   | false=>exact h.elim
   | true =>
    simp only [codeOk,Bool.and_eq_true] at j;obtain ⟨⟨hd,R⟩,hq⟩:=j;have hv:=jh (n:=n) ops.toList f s hd h;have hD:=GW R;refine j_.pre fun ad=>?_;have a4:∀ i o,i<m->ops[i]? = some o->mX T o.op=true:=by
     intro i o hi w;rw [List.all_eq_true] at hq;refine hq o ?_;rw [List.mem_iff_getElem?];exact ⟨i,by rw [List.getElem?_take,if_pos hi];simpa using w⟩
    refine j_.draw hT bW m [] (Region.before ops).toList [] (fun _ _ _=>True) (fun _ _ _ _=>True) R (fun _ _ _ _ _ _ _=>trivial) ?_;have:=QK (n:=n) (V:=fun _ _ _=>True) (S:=fun _ _ _ _=>True) ad.1 hD.le a4 m 0 f (by omega) (by simpa using hv);rw [<- List.range_eq_range'] at this;exact this
  | _=>exact h.elim
 | gN m A H =>
  intro c f s Q j h;cases c with
  | region id ops dr =>
   cases dr with
   | false=>exact h.elim
   | true =>
    simp only [codeOk,Bool.and_eq_true] at j;obtain ⟨⟨⟨hd,R⟩,hH⟩,hq⟩:=j;obtain ⟨S,V,hS,h⟩:=h;refine j_.pre fun ad=>?_;have ar:H≠[]:=by intro e;rw [e] at hH;cases hH
    have z:∀ (i:Nat) (o:Oper),ops[i]? = some o->o∈ops.toList:=fun i o w=>List.mem_iff_getElem?.2 ⟨i,by simpa using w⟩;have ae:=G9 (n:=n) (W:=JO ops.toList) ad.1 ar (fun i o w=>qh hd o (z i o w)) (fun i o d w F=>xg (z i o w) F) (List.range m) f [] (by
     intro i hi;rw [List.all_eq_true] at hq;have:=hq i hi;simp only [Bool.or_eq_true,Option.any_eq_true] at this;rcases this with h | ⟨o,r,h2⟩
     ·exact .inl h
     ·exact .inr ⟨o,by simpa using r,h2⟩) h
    refine j_.draw hT bW m A (Region.before ops).toList H V S R hS ?_;refine zw (fun f' s' ⟨r,h2⟩=>?_) _ _ _ _ ae;have al:((ops.toList.drop m).all fun o=>dR n o.dst)=true:=by
     rw [List.all_eq_true];intro o w;exact qh hd o (List.mem_of_mem_drop w)
    have hv:=jh (n:=n) (ops.toList.drop m) f' s' al r;have mono:∀ (os:List Oper) (f:Fr) (s:AS) (K K':Fr->AS->Prop),(∀ f s,K f s->K' f s)->fl P T n ops os f s K->fl P T n ops os f s K':=by
     intro os
     induction os with
     | nil=>intro f s K K' B h;exact B _ _ h
     | cons o os U =>
      intro f s K K' B h;simp only [fl] at h ⊢;split at h
      ·obtain ⟨r,h2⟩:=h;rcases h2 with h2 | ⟨l,hl,h2⟩
       rotate_left
       ·exact ⟨r,.inr ⟨l,hl,fun p Y=>U _ _ _ _ B (h2 p Y)⟩⟩
       refine ⟨r,.inl ?_⟩;split at h2
       ·exact h2.mono fun v s' hh=>U _ _ _ _ B hh
       ·obtain ⟨v,s',h3,h4⟩:=h2;exact ⟨v,s',h3,U _ _ _ _ B h4⟩
      ·exact ⟨h.1,U _ _ _ _ B h.2⟩
      ·exact h
    refine mono _ _ _ _ _ (fun f2 s2 ⟨g1,g2⟩=>⟨g1,h2.trans (fun t ht=>g2 t ?_)⟩) hv;cases hw:Cu (JO (ops.toList.drop m)) t with
    | false=>rfl
    | true =>
     exfalso;simp only [Cu,List.any_eq_true,JO,List.mem_filterMap,Option.map_eq_some_iff] at hw;obtain ⟨p,⟨o,w,d,F,rfl⟩,Y⟩:=hw;simp only [Bool.and_eq_true,Nat.ble_eq] at Y;obtain rfl:d=t:=by omega
     rw [xg (List.mem_of_mem_drop w) F] at ht;cases ht
  | _=>exact h.elim
 | QF D t A H =>
  intro c f s Q j h;cases c with
  | region id ops dr =>
   cases dr with
   | false=>exact h.elim
   | true =>
    simp only [codeOk,Bool.and_eq_true] at j;obtain ⟨⟨⟨hd,R⟩,hH⟩,hq⟩:=j;obtain ⟨S,V,hS,h⟩:=h;refine j_.pre fun ad=>?_;have ar:H≠[]:=by intro e;rw [e] at hH;cases hH
    have z:∀ (i:Nat) (o:Oper),ops[i]? = some o->o∈ops.toList:=fun i o w=>List.mem_iff_getElem?.2 ⟨i,by simpa using w⟩;have Z:∀ o,o∈(t.filterMap fun i=>ops[i]?)->o∈ops.toList:=fun o w=>by
     obtain ⟨i,_,hi⟩:=List.mem_filterMap.1 w;exact z i o hi
    have ae:=G9 (n:=n) (W:=JO ops.toList) ad.1 ar (fun i o w=>qh hd o (z i o w)) (fun i o d w F=>xg (z i o w) F) D f [] (by
     intro i hi;rw [List.all_eq_true] at hq;have:=hq i hi;simp only [Bool.or_eq_true,Option.any_eq_true] at this;rcases this with h | ⟨o,r,h2⟩
     ·exact .inl h
     ·exact .inr ⟨o,by simpa using r,h2⟩) h
    refine j_.tail hT bW D t A (Region.before ops).toList H V S Ext (fun _ _ _ _=>True) [] R MH (fun _ _ h=>h) (fun _ _ _=>Ext.trans) (fun _ _ _ _ _ _ _=>trivial) hS (c:=fun _=>True) (fun _ _ _ _=>trivial) trivial ?_;refine zw (fun f' s' ⟨r,h2⟩=>?_) _ _ _ _ ae;have al:((t.filterMap fun i=>ops[i]?).all fun o=>dR n o.dst)=true:=by
     rw [List.all_eq_true];intro o w;exact qh hd o (Z _ w)
    have hv:=jh (n:=n) (t.filterMap fun i=>ops[i]?) f' s' al r;have mono:∀ (os:List Oper) (f:Fr) (s:AS) (K K':Fr->AS->Prop),(∀ f s,K f s->K' f s)->fl P T n ops os f s K->fl P T n ops os f s K':=by
     intro os
     induction os with
     | nil=>intro f s K K' B h;exact B _ _ h
     | cons o os U =>
      intro f s K K' B h;simp only [fl] at h ⊢;split at h
      ·obtain ⟨r,h2⟩:=h;rcases h2 with h2 | ⟨l,hl,h2⟩
       rotate_left
       ·exact ⟨r,.inr ⟨l,hl,fun p Y=>U _ _ _ _ B (h2 p Y)⟩⟩
       refine ⟨r,.inl ?_⟩;split at h2
       ·exact h2.mono fun v s' hh=>U _ _ _ _ B hh
       ·obtain ⟨v,s',h3,h4⟩:=h2;exact ⟨v,s',h3,U _ _ _ _ B h4⟩
      ·exact ⟨h.1,U _ _ _ _ B h.2⟩
      ·exact h
    refine mono _ _ _ _ _ (fun f2 s2 ⟨g1,g2⟩=>⟨g1,h2.trans (fun tt ht=>g2 tt ?_)⟩) hv;cases hw:Cu (JO (t.filterMap fun i=>ops[i]?)) tt with
    | false=>rfl
    | true =>
     exfalso;simp only [Cu,List.any_eq_true,JO,List.mem_filterMap,Option.map_eq_some_iff] at hw;obtain ⟨p,⟨o,w,d,F,rfl⟩,Y⟩:=hw;simp only [Bool.and_eq_true,Nat.ble_eq] at Y;obtain rfl:d=tt:=by omega
     rw [xg (by obtain ⟨i,_,hi⟩:=w;exact z i o hi) F] at ht;cases ht
  | _=>exact h.elim
 | uU D t A H M =>
  intro c f s Q j h;cases c with
  | region id ops dr =>
   cases dr with
   | false=>exact h.elim
   | true =>
    simp only [codeOk,Bool.and_eq_true] at j;obtain ⟨⟨⟨hd,R⟩,hM⟩,hq⟩:=j;obtain ⟨X,C,c0,S,V,hX,a5,hC,hS,hc,h0,h⟩:=h;have z:∀ (i:Nat) (o:Oper),ops[i]? = some o->o∈ops.toList:=fun i o w=>List.mem_iff_getElem?.2 ⟨i,by simpa using w⟩;have Z:∀ o,o∈(t.filterMap fun i=>ops[i]?)->o∈ops.toList:=fun o w=>by
     obtain ⟨i,_,hi⟩:=List.mem_filterMap.1 w;exact z i o hi
    have ae:=Es (n:=n) (W:=JO ops.toList) (fun i o w=>qh hd o (z i o w)) (fun i o d w F=>xg (z i o w) F) f D f [] c0 (su.refl _ _) (by
     intro i hi;rw [List.all_eq_true] at hq;have:=hq i hi;simp only [Bool.or_eq_true,Option.any_eq_true] at this;rcases this with h | ⟨o,r,h2⟩
     ·exact .inl h
     ·exact .inr ⟨o,by simpa using r,h2⟩) h
    refine j_.tail hT bW D t A (Region.before ops).toList H V S X C M R (UF hM) hX a5 hC hS hc h0 ?_;refine zw (fun f' s' ⟨r,h2⟩=>?_) _ _ _ _ ae;have al:((t.filterMap fun i=>ops[i]?).all fun o=>dR n o.dst)=true:=by
     rw [List.all_eq_true];intro o w;exact qh hd o (Z _ w)
    have hv:=jh (n:=n) (t.filterMap fun i=>ops[i]?) f' s' al r;have mono:∀ (os:List Oper) (f:Fr) (s:AS) (K K':Fr->AS->Prop),(∀ f s,K f s->K' f s)->fl P T n ops os f s K->fl P T n ops os f s K':=by
     intro os
     induction os with
     | nil=>intro f s K K' B h;exact B _ _ h
     | cons o os U =>
      intro f s K K' B h;simp only [fl] at h ⊢;split at h
      ·obtain ⟨r,h2⟩:=h;rcases h2 with h2 | ⟨l,hl,h2⟩
       rotate_left
       ·exact ⟨r,.inr ⟨l,hl,fun p Y=>U _ _ _ _ B (h2 p Y)⟩⟩
       refine ⟨r,.inl ?_⟩;split at h2
       ·exact h2.mono fun v s' hh=>U _ _ _ _ B hh
       ·obtain ⟨v,s',h3,h4⟩:=h2;exact ⟨v,s',h3,U _ _ _ _ B h4⟩
      ·exact ⟨h.1,U _ _ _ _ B h.2⟩
      ·exact h
    refine mono _ _ _ _ _ (fun f2 s2 ⟨g1,g2⟩=>⟨g1,h2.trans (fun tt ht=>g2 tt ?_)⟩) hv;cases hw:Cu (JO (t.filterMap fun i=>ops[i]?)) tt with
    | false=>rfl
    | true =>
     exfalso;simp only [Cu,List.any_eq_true,JO,List.mem_filterMap,Option.map_eq_some_iff] at hw;obtain ⟨p,⟨o,w,d,F,rfl⟩,Y⟩:=hw;simp only [Bool.and_eq_true,Nat.ble_eq] at Y;obtain rfl:d=tt:=by omega
     rw [xg (by obtain ⟨i,_,hi⟩:=w;exact z i o hi) F] at ht;cases ht
  | _=>exact h.elim
 | seq a b O am =>
  intro c f s Q j h;cases c with
  | seq x y =>
   simp only [codeOk,Bool.and_eq_true] at j;refine j_.seq ((O x f s _ j.1 h).mono ?_);rintro e f1 s1 ⟨r,h2⟩;cases e with
   | normal =>
    exact (am y f1 s1 Q j.2 r).mono fun e f2 s2 ⟨g1,g2⟩=>⟨g1,h2.left.trans g2.right⟩
   | _=>exact ⟨r,h2.left⟩
  | _=>exact h.elim
 | join L W a b O am =>
  intro c f s Q j h;cases c with
  | seq x y =>
   simp only [codeOk,Bool.and_eq_true] at j;obtain ⟨⟨⟨an,a2⟩,ab⟩,hL⟩:=j;obtain ⟨J,hJ,h⟩:=h;refine j_.seq ((O x f s _ an h).mono ?_);rintro e f1 s1 ⟨r,h2⟩;cases e with
   | normal =>
    obtain ⟨vs,g,aw,a0,ao⟩:=Ep L _ _ hJ r;have w:=h2.sub ab;refine j_.weaken (f1:=g) (fun t=>?_) ?_
    ·rw [ao t];split
     ·exact .inl rfl
     ·simp only [forget];cases hw:Cu W t with
      | true=>exact .inr rfl
      | false=>exact .inl (w t hw).symm
    ·refine (am y g s1 Q a2 (aw s1 a0)).mono fun e f2 s2 ⟨k1,k2⟩=>⟨k1,fun t ht=>?_⟩;simp only [Er] at ht;rw [ym] at ht;simp only [Bool.or_eq_false_iff] at ht;rw [k2 t ht.2,ao t,if_neg,forget,ht.1]
     ·rfl
     ·intro hm;obtain ⟨p,Y,rfl⟩:=List.mem_map.1 hm;rw [List.all_eq_true] at hL;have:=hL p Y;rw [this] at ht;cases ht.1
   | _=>exact ⟨r,(h2.sub ab).left⟩
  | _=>exact h.elim
 | cond a b O am =>
  intro c f s Q j h;cases c with
  | cond v x y =>
   simp only [codeOk,Bool.and_eq_true] at j;simp only [uV] at h;split at h
   ·rename_i t ht;have h':=Bk h;refine j_.cond ht ?_;cases t with
    | true=>exact (O x f s Q j.1 (by simpa using h')).mono fun e f2 s2 ⟨k1,k2⟩=>⟨k1,k2.left⟩
    | false=>exact (am y f s Q j.2 (by simpa using h')).mono fun e f2 s2 ⟨k1,k2⟩=>⟨k1,k2.right⟩
   ·exact h.elim
  | _=>exact h.elim
 | wrap a O =>
  intro c f s Q j h;cases c with
  | block id x =>
   refine j_.block ((O x f s _ j h).mono ?_);rintro e f1 s1 ⟨r,h2⟩;cases e with
   | exit a8 =>
    simp only [yd] at r ⊢;split
    ·rename_i a1;rw [if_pos a1] at r;exact ⟨r,h2⟩
    ·rename_i a1;rw [if_neg a1] at r;exact ⟨r,h2⟩
   | _=>exact ⟨r,h2⟩
  | scope x =>
   refine j_.scope ((O x f s _ j h).mono ?_);rintro e f1 s1 ⟨r,h2⟩;cases e with
   | goto l=>exact r.elim
   | _=>exact ⟨r,h2⟩
  | _=>exact h.elim
 | loop L W a O =>
  intro c f s Q j h;cases c with
  | loop x =>
   simp only [codeOk,Bool.and_eq_true] at j;obtain ⟨⟨an,ab⟩,hL⟩:=j;obtain ⟨I,m0,h0,hr⟩:=h;refine j_.loop (fun m f' s'=>(Kr L f' fun vs=>I m vs s')/\su W f f') m0 ⟨h0,su.refl _ _⟩ ?_;rintro m f1 s1 ⟨r,w⟩;obtain ⟨vs,g,aw,a0,ao⟩:=Ep L _ _ (hr m) r;have a6:su W f g:=by
    intro t ht;rw [ao t,if_neg,forget,ht]
    ·rfl
    ·intro hm;obtain ⟨p,Y,rfl⟩:=List.mem_map.1 hm;rw [List.all_eq_true] at hL;have:=hL p Y;rw [this] at ht;cases ht
   refine j_.weaken (f1:=g) (fun t=>?_) ?_
   ·rw [ao t];split
    ·exact .inl rfl
    ·simp only [forget];cases hw:Cu W t with
     | true=>exact .inr rfl
     | false=>exact .inl (w t hw).symm
   ·refine (O x g s1 _ an (aw s1 a0)).mono ?_;rintro e f2 s2 ⟨k1,k2⟩;have k3:=a6.trans (k2.sub ab);cases e with
    | normal =>
     have key:∀ (L:List (Nat×TK)) (f:Fr) (K:List AV->Nat->Prop),(Kr L f fun vs=>∃ m',m'<m/\K vs m')->∃ m',m'<m/\Kr L f fun vs=>K vs m':=by
      intro L
      induction L with
      | nil=>intro f K h;exact h
      | cons p L U =>
       intro f K h;have a3:∀ (k:TK) (v:AV) (G:AV->Nat->Prop),(QH k v fun u=>∃ m',m'<m/\G u m')->∃ m',m'<m/\QH k v fun u=>G u m':=by
        intro k v G h;unfold QH at h;split at h
        ·rename_i k k' n;cases B:(k'==k) with
         | false=>rw [B] at h;exact h.elim
         | true=>rw [B] at h;obtain ⟨m',r,h2⟩:=h;exact ⟨m',r,by simp only [QH,B,cond_true];exact h2⟩
        all_goals first | exact h.elim | (obtain ⟨m',r,h2⟩:=h;exact ⟨m',r,by simp only [QH];exact h2⟩)
       refine a3 _ _ _ ?_;have hm:∀ (k:TK) (v:AV) (G G':AV->Prop),(∀ u,G u->G' u)->QH k v G->QH k v G':=by
        intro k v G G' hg h;unfold QH at h ⊢;split at h
        ·rename_i k k' n;cases B:(k'==k) with
         | false=>rw [B] at h;exact h.elim
         | true=>rw [B] at h;exact hg _ h
        all_goals first | exact hg _ h | exact h.elim
       exact hm _ _ _ _ (fun u hu=>U f (fun vs m'=>K (u::vs) m') hu) h
     obtain ⟨m',a7,hj⟩:=key L f2 (fun vs m'=>I m' vs s2) k1;exact ⟨m',a7,hj,k3⟩
    | _=>exact ⟨k1,k3⟩
  | _=>exact h.elim
def Og:List AV->AV
 | [v]=>v
 | l=>.aQ l
def H8 (T:TT):List ResultVar->Fr->AS->List AV->(List AV->Prop)->Prop
 | [],_,_,acc,K=>K acc
 | .tmp t::rs,f,s,acc,K=>H8 T rs f s (acc++[f t]) K
 | .cell x t::rs,f,s,acc,K=>(match f x with
  | .ptr (some (l,off))=>(match T.agg t with
   | some true=>(match T.eP t with | some n=>aR (aC s l off n) fun cs=>H8 T rs f s (acc++[.agg cs]) K | none=>False)
   | some false=>rd (VL T t) (av s l off) fun v=>H8 T rs f s (acc++[v]) K
   | none=>False)
  | _=>False)
theorem zD:∀ (rs:List ResultVar) (f:Fr) (s:AS) (acc:List AV) {K:List AV->Prop},H8 T rs f s acc K->∃ vs,xy.CK T f s rs=some vs/\K (acc++vs)
 | [],f,s,acc,K,h=>⟨[],rfl,by simpa [H8] using h⟩
 | .tmp t::rs,f,s,acc,K,h=>by
  obtain ⟨vs,c,h2⟩:=zD rs f s _ h;exact ⟨f t::vs,by simp only [xy.CK,c,Option.map_some],by simpa using h2⟩
 | .cell x t::rs,f,s,acc,K,h=>by
  simp only [H8] at h;split at h
  ·rename_i l off i;split at h
   ·rename_i b;split at h
    ·rename_i n j;obtain ⟨cs,d,e⟩:=h;obtain ⟨vs,c,h2⟩:=zD rs f s _ e;exact ⟨.agg cs::vs,by simp only [xy.CK,FR,i,b,j,Option.bind_some,d,Option.map_some,c],by simpa using h2⟩
    ·exact h.elim
   ·rename_i b;obtain ⟨v,d,e⟩:=rd_some h;obtain ⟨vs,c,h2⟩:=zD rs f s _ e;exact ⟨v::vs,by simp only [xy.CK,FR,i,b,d,Option.bind_some,c,Option.map_some],by simpa using h2⟩
   ·exact h.elim
  ·exact h.elim
def Wn (T:TT) (rs:List ResultVar) (R:AV->AS->Prop):Exit->Fr->AS->Prop
 | .normal,f,s=>H8 T rs f s [] fun l=>R (Og l) s
 | .ret,f,s=>H8 T rs f s [] fun l=>R (Og l) s
 | _,_,_=>False
theorem aa.q (hT:TT.Ok P T) (bW:P.follows .mixedOrders=true) {g:FuncId} {fn:Func} {c:Code} {args:List AV} {s:AS} {R:AV->AS->Prop} {n:Nat} {rs:List ResultVar} {A:QA} (j:P.funcs[g]? = some fn) (k:fS P g=true) (hb:fn.body=some c)
  (m:args.length+(fn.ntmps - args.length)=n) (b:fn.results.toList=rs) (d:codeOk T n A c=true) {Q:Prop} (o:Q=uV P T A c (ri args) s (Wn T rs R)) (h:Q):aa P g args s R:=by
 rw [o] at h;refine aa.body hT j k hb m b ((Ks hT bW A c _ s _ d h).mono ?_);rintro e f s ⟨i,_⟩;have key:(H8 T rs f s [] fun l=>R (Og l) s)->∃ v,xy T rs f s=some v/\R v s:=by
  intro h;obtain ⟨vs,h2,h3⟩:=zD rs f s [] h;refine ⟨Og vs,?_,by simpa using h3⟩;unfold xy;rw [h2];simp only [Option.map_some];cases vs with
  | nil=>rfl
  | cons a l=>cases l <;> rfl
 cases e with
 | normal=>exact key i
 | ret=>exact key i
 | _=>exact i.elim
end
end Go.Am
end

section
namespace Go.au
structure aK where
 r:Int
 c:Int
 deriving DecidableEq
def aK.may (d:aK):Bool:=decide (1<=d.r)&&decide (d.r<=16)&&decide (1<=d.c)&&decide (d.c<=4611686018427387904)
def aK.lt (a b:aK):Bool:=decide (a.r<b.r)||(a.r==b.r&&decide (a.c<b.c))
def sJ (a b:Int):Int:=if a<b then -1 else if a>b then 1 else 0
def aK.cmp (a b:aK):Int:=if sJ a.r b.r≠0 then sJ a.r b.r else sJ a.c b.c
theorem aK.gB {d:aK}:d.may=true↔1<=d.r/\d.r<=16/\1<=d.c/\d.c<=4611686018427387904:=by simp [aK.may,and_assoc]
theorem aK.lt_iff {a b:aK}:a.lt b=true↔a.r<b.r\/a.r=b.r/\a.c<b.c:=by simp [aK.lt]
theorem aK.fM {a b:aK}:a.cmp b<0↔a.lt b=true:=by
 rw [aK.lt_iff];simp only [aK.cmp,sJ];grind
theorem aK.UH {a b:aK}:a.cmp b=0↔a=b:=by
 cases a;cases b;simp only [aK.cmp,sJ,aK.mk.injEq];grind
theorem aK.lt_trans {a b c:aK} (h:a.lt b=true) (d:b.lt c=true):a.lt c=true:=by
 rw [aK.lt_iff] at *;omega
theorem aK.lt_irrefl (a:aK):¬ a.lt a=true:=by rw [aK.lt_iff];omega
theorem aK.UI (a b:aK):a.lt b=true\/a=b\/b.lt a=true:=by
 cases a;cases b;simp only [aK.lt_iff,aK.mk.injEq];omega
end Go.au
namespace Go.au
def pos (l:List aK) (d:aK):Nat:=(l.takeWhile fun x=>x.lt d).length
theorem H9 (l:List aK) (d:aK):pos l d<=l.length:=(List.takeWhile_sublist _).length_le
theorem pos_eq {l:List aK} {d:aK} {p:Nat} (b:p<=l.length) (e:∀ (k:Nat) x,k<p->l[k]? = some x->x.lt d=true) (h2:∀ x,l[p]? = some x->x.lt d=false):pos l d=p:=by
 induction l generalizing p with
 | nil=>simp at b;subst b;rfl
 | cons a l i =>
  simp only [pos,List.takeWhile_cons];cases p with
  | zero=>have:=h2 a rfl;simp [this]
  | succ p =>
   have:=e 0 a (by omega) rfl;simp only [this,if_true,List.length_cons];have:=i (p:=p) (by simpa using b) (fun k x j c=>e (k+1) x (by omega) (by simpa using c)) (fun x c=>h2 x (by simpa using c));simp only [pos] at this;rw [this]
def dS (l:List aK):Prop:=l.Pairwise fun a b=>a.lt b=true
theorem dS.lt {l:List aK} (h:dS l) {i j:Nat} {a b:aK} (c:i<j) (e:l[i]? = some a) (hb:l[j]? = some b):a.lt b=true:=by
 have hj:j<l.length:=by
  rcases Nat.lt_or_ge j l.length with d | d
  ·exact d
  ·rw [List.getElem?_eq_none d] at hb;cases hb
 have:=List.pairwise_iff_getElem.1 h i j (by omega) hj c;rw [List.getElem?_eq_getElem (by omega)] at e hb;rw [Option.some.inj e,Option.some.inj hb] at this;exact this
theorem dS.mem {l:List aK} (h:dS l) (d:aK):l[pos l d]? = some d↔d∈l:=by
 constructor
 ·intro h;exact List.mem_of_getElem? h
 ·intro hm;obtain ⟨i,hi⟩:=List.mem_iff_getElem?.1 hm;have e:i<l.length:=by
   rcases Nat.lt_or_ge i l.length with c | c
   ·exact c
   ·rw [List.getElem?_eq_none c] at hi;cases hi
  have:pos l d=i:=pos_eq (by omega) (fun k x j b=>h.lt j b hi) (fun x b=>by
   rw [hi] at b;obtain rfl:=Option.some.inj b;cases m:d.lt d with
   | false=>rfl
   | true=>exact absurd m (aK.lt_irrefl d))
  rw [this];exact hi
end Go.au
namespace Go.au
structure Et (v:List Int):Prop where
 len:v.length=16
 Wa:∀ x∈v,0<=x/\x<=4611686018427387904
theorem Et.get {v:List Int} (h:Et v) (i:Nat):0<=v.getD i 0/\v.getD i 0<=4611686018427387904:=by
 rw [List.getD_eq_getElem?_getD];cases b:v[i]? with
 | none=>simp
 | some x=>exact h.Wa x (List.mem_of_getElem? b)
theorem Et.set {v:List Int} (h:Et v) (i:Nat) {x:Int} (b:0<=x/\x<=4611686018427387904):Et (v.set i x):=by
 refine ⟨by rw [List.length_set];exact h.len,fun y c=>?_⟩;rcases List.mem_or_eq_of_mem_set c with d | rfl
 ·exact h.Wa y d
 ·exact b
def fT (st:List Int×List aK) (d:aK):List Int×List aK :=
 if d.c<=st.1.getD (d.r - 1).toNat 0 then st else if d.c=st.1.getD (d.r - 1).toNat 0+1 then (st.1.set (d.r - 1).toNat d.c,st.2) else (st.1,st.2++[d])
def compact (v:List Int) (l:List aK):List Int×List aK:=l.foldl fT (v,[])
theorem Eu {st:List Int×List aK} {d:aK} (h:Et st.1) (hd:d.may=true):Et (fT st d).1:=by
 have:=aK.gB.1 hd;unfold fT;split
 ·exact h
 ·split
  ·exact h.set _ (by omega)
  ·exact h
theorem DN:∀ (l:List aK) (st:List Int×List aK),Et st.1->(∀ d∈l,d.may=true)->Et (l.foldl fT st).1
 | [],st,h,_=>h
 | d::l,st,h,hd=>DN l _ (Eu h (hd d (by simp))) (fun x b=>hd x (by simp [b]))
theorem O_ (st:List Int×List aK) (d:aK):(fT st d).2.length<=st.2.length+1:=by
 unfold fT;split
 ·omega
 ·split <;> simp
theorem zE:∀ (l:List aK) (st:List Int×List aK),(l.foldl fT st).2.length<=st.2.length+l.length
 | [],st=>by simp
 | d::l,st=>by have:=zE l (fT st d);have:=O_ st d;simp only [List.foldl_cons,List.length_cons];omega
end Go.au
namespace Go.au
def ins (l:List aK) (d:aK):List aK:=l.take (pos l d)++d::l.drop (pos l d)
theorem xh (l:List aK) (d:aK):(ins l d).length=l.length+1:=by
 have:=H9 l d;simp only [ins,List.length_append,List.length_cons,List.length_take,List.length_drop];omega
theorem t_ {l:List aK} {d x:aK}:x∈ins l d↔x=d\/x∈l:=by
 simp only [ins,List.mem_append,List.mem_cons]
 conv=>rhs;rw [<- List.take_append_drop (pos l d) l,List.mem_append]
 constructor
 ·rintro (h | h | h)
  ·exact .inr (.inl h)
  ·exact .inl h
  ·exact .inr (.inr h)
 ·rintro (h | h | h)
  ·exact .inr (.inl h)
  ·exact .inl h
  ·exact .inr (.inr h)
theorem QL {l:List aK} {d x:aK} (h:x∈l.take (pos l d)):x.lt d=true:=by
 have:l.take (pos l d)=l.takeWhile fun x=>x.lt d:=by
  simp only [pos];exact (List.prefix_iff_eq_take.1 (List.takeWhile_prefix _)).symm
 rw [this] at h
 induction l with
 | nil=>simp at h
 | cons a l b =>
  rw [List.takeWhile_cons] at h;split at h
  ·rename_i c;rcases List.mem_cons.1 h with rfl | h
   ·exact c
   ·refine b h ?_;simp only [pos];exact (List.prefix_iff_eq_take.1 (List.takeWhile_prefix _)).symm
  ·simp at h
theorem pos_at {l:List aK} {d x:aK} (h:l[pos l d]? = some x):x.lt d=false:=by
 induction l with
 | nil=>simp at h
 | cons a l c =>
  simp only [pos,List.takeWhile_cons] at h;cases b:a.lt d with
  | true=>simp only [b,if_true,List.length_cons,List.getElem?_cons_succ] at h;exact c h
  | false=>simp only [b,Bool.false_eq_true,if_false,List.length_nil,List.getElem?_cons_zero,Option.some.injEq] at h;subst h;exact b
theorem dS.sub {l l':List aK} (h:dS l) (hs:l'.Sublist l):dS l':=List.Pairwise.sublist hs h
theorem dS.ins {l:List aK} (h:dS l) {d:aK} (hd:d ∉ l):dS (ins l d):=by
 unfold dS au.ins;rw [List.pairwise_append];refine ⟨h.sub (List.take_sublist _ _),?_,fun a o b hb=>?_⟩
 ·rw [List.pairwise_cons];refine ⟨fun b hb=>?_,h.sub (List.drop_sublist _ _)⟩;obtain ⟨k,e⟩:=List.mem_iff_getElem?.1 hb;rw [List.getElem?_drop] at e;have m:∀ x,l[pos l d]? = some x->d.lt x=true:=by
   intro x n;rcases aK.UI d x with c | c | c
   ·exact c
   ·subst c;exact absurd (List.mem_of_getElem? n) hd
   ·rw [pos_at n] at c;cases c
  cases k with
  | zero=>exact m b (by simpa using e)
  | succ k =>
   have p:pos l d<l.length:=by
    rcases Nat.lt_or_ge (pos l d) l.length with r | r
    ·exact r
    ·rw [List.getElem?_eq_none (by omega)] at e;cases e
   have n:=m _ (List.getElem?_eq_getElem p);exact aK.lt_trans n (h.lt (by omega) (List.getElem?_eq_getElem p) e)
 ·have c:=QL o;rcases List.mem_cons.1 hb with rfl | hb
  ·exact c
  ·obtain ⟨i,hi⟩:=List.mem_iff_getElem?.1 o;obtain ⟨j,hj⟩:=List.mem_iff_getElem?.1 hb;rw [List.getElem?_take] at hi;rw [List.getElem?_drop] at hj;split at hi
   ·exact h.lt (by omega) hi hj
   ·cases hi
theorem Kt:∀ (l:List aK) (st:List Int×List aK),(l.foldl fT st).2.Sublist (st.2++l)
 | [],st=>by simp
 | d::l,st=>by
  have:=Kt l (fT st d);simp only [List.foldl_cons];refine this.trans ?_;unfold fT;split
  ·exact List.Sublist.append_left (List.sublist_cons_self _ _) _
  ·split
   ·exact List.Sublist.append_left (List.sublist_cons_self _ _) _
   ·simp
theorem rj (v:List Int) (l:List aK):(compact v l).2.Sublist l:=by simpa [compact] using Kt l (v,[])
theorem MI {v:List Int} {l:List aK} (h:Et v) (hm:∀ d∈l,d.may=true):Et (compact v l).1:=DN l _ h hm
end Go.au
end

section
namespace Go.au.SG
structure OE where
 α:Type
 d0:α
 lt:α->α->Bool
 cmp:α->α->Int
 fM:∀ a b,cmp a b<0↔lt a b=true
 le_trans:∀ a b c,lt b a=false->lt c b=false->lt c a=false
 le_refl:∀ a,lt a a=false
 zF:∀ a b,lt a b=true->lt b a=false
def El (O:OE):Type:=O.α
variable {O:OE}
noncomputable instance WO:DecidableEq (El O):=fun a b=>Classical.propDecidable (a=b)
def El.d0:El O:=O.d0
def El.lt (a b:El O):Bool:=O.lt a b
def El.cmp (a b:El O):Int:=O.cmp a b
def El.le (x y:El O):Prop:=y.lt x=false
theorem El.fM {a b:El O}:a.cmp b<0↔a.lt b=true:=O.fM a b
theorem El.le_trans {a b c:El O} (h:a.le b) (d:b.le c):a.le c:=O.le_trans a b c h d
theorem El.le_refl (a:El O):a.le a:=O.le_refl a
theorem El.zF {a b:El O} (h:a.lt b=true):a.le b:=O.zF a b h
theorem El.vL {a b:El O} (h:¬ a.lt b=true):b.le a:=by unfold El.le;simpa using h
def el (l:List (El O)) (i:Nat):El O:=l.getD i El.d0
theorem yp {l:List (El O)} {i:Nat} (h:i<l.length):l[i]? = some (el l i):=by
 rw [el,List.getD_eq_getElem?_getD,List.getElem?_eq_getElem h];rfl
theorem QM {l:List (El O)} {i k:Nat} {x:El O} (h:i<l.length):el (l.set i x) k=if k=i then x else el l k:=by
 simp only [el,List.getD_eq_getElem?_getD,List.getElem?_set];by_cases b:i=k
 ·subst b;simp [h]
 ·rw [if_neg b,if_neg (fun e=>b e.symm)]
def A_ (l:List (El O)) (i j:Nat):List (El O):=(l.set i (el l j)).set j (el l i)
theorem DO (l:List (El O)) (i j:Nat):(A_ l i j).length=l.length:=by simp [A_]
theorem lQ {l:List (El O)} {i j:Nat} (hi:i<l.length) (hj:j<l.length) (k:Nat):el (A_ l i j) k=if k=j then el l i else if k=i then el l j else el l k:=by
 unfold A_;rw [QM (by simpa using hj),QM hi]
inductive Sw (a b:Nat):List (El O)->List (El O)->Prop
 | refl (l:List (El O)):Sw a b l l
 | step {l l':List (El O)} {i j:Nat} (h:Sw a b l l') (hi:a<=i/\i<b) (hj:a<=j/\j<b) (hb:b<=l'.length):Sw a b l (A_ l' i j)
theorem Sw.len {a b:Nat} {l l':List (El O)} (h:Sw a b l l'):l'.length=l.length:=by
 induction h with
 | refl=>rfl
 | step h hi hj hb c=>rw [DO,c]
theorem Sw.trans {a b:Nat} {l l' l'':List (El O)} (h:Sw a b l l') (c:Sw a b l' l''):Sw a b l l'':=by
 induction c with
 | refl=>exact h
 | step _ hi hj hb d=>exact .step d hi hj hb
theorem Sw.Ui {a b a' c:Nat} {l l':List (El O)} (h:Sw a b l l') (j:a'<=a) (hb:b<=c) (e:c<=l.length):Sw a' c l l':=by
 induction h with
 | refl=>exact .refl _
 | step h hi hj i d=>exact .step d ⟨by omega,by omega⟩ ⟨by omega,by omega⟩ (by rw [d.len];exact e)
theorem Sw.out {a b:Nat} {l l':List (El O)} (h:Sw a b l l') {k:Nat} (d:k<a\/b<=k):el l' k=el l k:=by
 induction h with
 | refl=>rfl
 | step h hi hj hb c=>rw [lQ (by omega) (by omega),if_neg (by omega),if_neg (by omega),c]
theorem Sw.mem {a b:Nat} {l l':List (El O)} (h:Sw a b l l') {k:Nat} (d:a<=k/\k<b):∃ j,(a<=j/\j<b)/\el l' k=el l j:=by
 induction h generalizing k with
 | refl=>exact ⟨k,d,rfl⟩
 | step h hi hj hb c =>
  rw [lQ (by omega) (by omega)];split
  ·exact c hi
  ·split
   ·exact c hj
   ·exact c d
theorem QN {l:List (El O)} {i j:Nat} (hi:i<l.length) (hj:j<l.length):(A_ l i j).Perm l:=by
 rw [List.perm_iff_count];intro x;unfold A_;rw [List.count_set (by simpa using hj),List.count_set hi];have e1:l[i]=el l i:=by have:=yp hi;rw [List.getElem?_eq_getElem hi] at this;exact Option.some.inj this
 have e2:(l.set i (el l j))[j]'(by simpa using hj)=el l j:=by
  rw [List.getElem_set];split
  ·rfl
  ·have:=yp hj;rw [List.getElem?_eq_getElem hj] at this;exact Option.some.inj this
 rw [e1,e2];have c:el l i=x->0<l.count x:=fun e=>List.count_pos_iff.2 (e ▸ List.mem_of_getElem? (yp hi));by_cases b:el l i=x <;> by_cases d:el l j=x <;> simp [b,d]
 ·have:=c b;omega
 ·have:=c b;omega
theorem Sw.perm {a b:Nat} {l l':List (El O)} (h:Sw a b l l'):l'.Perm l:=by
 induction h with
 | refl=>exact .refl _
 | step h hi hj hb c=>exact (QN (by omega) (by omega)).trans c
def Cv (l:List (El O)) (a b:Nat):Prop:=∀ i j,a<=i->i<j->j<b->(el l i).le (el l j)
theorem Ku {l:List (El O)} {a i j:Nat} (w:i<l.length) (hj:a<j) (r:j<=i) (e:(el l j).lt (el l (j - 1))=true)
  (h:∀ p q,a<=p->p<q->q<=i->q≠j->(el l p).le (el l q)):∀ p q,a<=p->p<q->q<=i->q≠j - 1->(el (A_ l j (j - 1)) p).le (el (A_ l j (j - 1)) q):=by
 intro p q o k m n;rw [lQ (by omega) (by omega),lQ (by omega) (by omega),if_neg n];by_cases b:q=j
 ·rw [if_pos b];by_cases c:p=j - 1
  ·rw [if_pos c];exact El.zF e
  ·rw [if_neg c,if_neg (by omega)];exact h p (j - 1) o (by omega) (by omega) (by omega)
 ·rw [if_neg b];by_cases c:p=j - 1
  ·rw [if_pos c];exact h j q (by omega) (by omega) m b
  ·rw [if_neg c];by_cases d:p=j
   ·rw [if_pos d];exact h (j - 1) q (by omega) (by omega) m b
   ·rw [if_neg d];exact h p q o k m b
theorem H_ {l:List (El O)} {a i j:Nat} (hj:a<=j) (k:j<=i) (hle:j=a\/(el l (j - 1)).le (el l j))
  (h:∀ p q,a<=p->p<q->q<=i->q≠j->(el l p).le (el l q)):Cv l a (i+1):=by
 intro p q e c m;by_cases b:q=j
 ·subst b;rcases hle with rfl | hle
  ·omega
  ·by_cases d:p=q - 1
   ·rw [d];exact hle
   ·exact El.le_trans (h p (q - 1) e (by omega) (by omega) (by omega)) hle
 ·exact h p q e c (by omega) b
def CL (l:List (El O)) (f n k:Nat):Prop:=∀ c,0<c->c<n->k<=(c - 1) / 2->(el l (f+c)).le (el l (f+(c - 1) / 2))
structure MJ (l:List (El O)) (f n k root:Nat):Prop where
 lo:k<=root
 other:∀ c,0<c->c<n->k<=(c - 1) / 2->(c - 1) / 2≠root->(el l (f+c)).le (el l (f+(c - 1) / 2))
 up:k<root->k<=(root - 1) / 2->∀ c,0<c->c<n->(c - 1) / 2=root->(el l (f+c)).le (el l (f+(root - 1) / 2))
theorem CL.Wr {l:List (El O)} {f n k:Nat} (h:CL l f n (k+1)):MJ l f n k k :=
 ⟨by omega,fun c b d i e=>h c b d (by omega),fun h=>by omega⟩
theorem MJ.done {l:List (El O)} {f n k root:Nat} (h:MJ l f n k root) (i:∀ c,0<c->c<n->(c - 1) / 2=root->(el l (f+c)).le (el l (f+root))):CL l f n k:=by
 intro c e b j;by_cases d:(c - 1) / 2=root
 ·rw [d];exact i c e b d
 ·exact h.other c e b j d
theorem MJ.step {l:List (El O)} {f n k root child:Nat} (h:MJ l f n k root) (D:f+n<=l.length) (y:child=2*root+1\/child=2*root+2) (p:child<n)
  (r:(el l (f+root)).lt (el l (f+child))=true) (b:∀ c,0<c->c<n->(c - 1) / 2=root->(el l (f+c)).le (el l (f+child))):MJ (A_ l (f+root) (f+child)) f n k child:=by
 have z:=h.lo;have E:=fun q=>lQ (l:=l) (i:=f+root) (j:=f+child) (by omega) (by omega) q;refine ⟨by omega,fun c m o x A=>?_,fun _ _ c m o B=>?_⟩
 ·rw [E,E];rw [if_neg (show ¬ f+(c - 1) / 2=f+child by omega)];by_cases d:(c - 1) / 2=root
  ·rw [if_pos (show f+(c - 1) / 2=f+root by omega)];by_cases C:c=child
   ·rw [if_pos (by omega)];exact El.zF r
   ·rw [if_neg (by omega),if_neg (by omega)];exact b c m o d
  ·rw [if_neg (show ¬ f+(c - 1) / 2=f+root by omega),if_neg (show ¬ f+c=f+child by omega)];by_cases w:c=root
   ·rw [if_pos (by omega)];subst w;exact h.up (by omega) x child (by omega) p (by omega)
   ·rw [if_neg (by omega)];exact h.other c m o x d
 ·rw [E,E];have e:(child - 1) / 2=root:=by omega
  rw [if_neg (show ¬ f+c=f+child by omega),if_neg (show ¬ f+c=f+root by omega),e,if_neg (show ¬ f+root=f+child by omega),if_pos rfl];have:=h.other c m o (by omega) (by omega);rw [B] at this;exact this
theorem CL.top {l:List (El O)} {f n:Nat} (h:CL l f n 0):∀ c,c<n->(el l (f+c)).le (el l f):=by
 intro c
 induction c using Nat.strongRecOn with
 | _ c b =>
  intro d;by_cases e:c=0
  ·subst e;exact El.le_refl _
  ·exact El.le_trans (h c (by omega) d (by omega)) (b ((c - 1) / 2) (by omega) (by omega))
def MK (l:List (El O)) (f b n:Nat):Prop:=∀ p q,f<=p->p<q->q<b->f+n<=q->(el l p).le (el l q)
theorem MK.swap {l:List (El O)} {f b n:Nat} (w:b<=l.length) (hb:f+(n+1)<=b) (h:MK l f b (n+1)) (k:CL l f (n+1) 0):MK (A_ l f (f+n)) f b n/\CL (A_ l f (f+n)) f n 1:=by
 have E:=fun q=>lQ (l:=l) (i:=f) (j:=f+n) (by omega) (by omega) q;constructor
 ·intro p q o m d x;rw [E,E];by_cases e:q=f+n
  ·rw [if_pos e,if_neg (by omega)];split
   ·exact k.top n (by omega)
   ·have:=k.top (p - f) (by omega);rw [show f+(p - f)=p by omega] at this;exact this
  ·rw [if_neg e,if_neg (show ¬ q=f by omega)];split
   ·exact h f q (by omega) (by omega) d (by omega)
   ·split
    ·exact h (f+n) q (by omega) (by omega) d (by omega)
    ·exact h p q o m d (by omega)
 ·intro c r y z;rw [E,E,if_neg (by omega),if_neg (by omega),if_neg (by omega),if_neg (by omega)];exact k c r (by omega) (by omega)
theorem MK.sw {l l':List (El O)} {f b n:Nat} (h:MK l f b n) (hs:Sw f (f+n) l l'):MK l' f b n:=by
 intro p q o d c i;rw [hs.out (k:=q) (.inr i)];by_cases m:p<f+n
 ·obtain ⟨j,hj,e⟩:=hs.mem (k:=p) ⟨o,m⟩;rw [e];exact h j q hj.1 (by omega) c i
 ·rw [hs.out (.inr (by omega))];exact h p q o d c i
structure Ia (L G:El O->El O->Prop) (l:List (El O)) (x y i j:Nat):Prop where
 xi:x<i
 ij:i<=j+1
 jy:j<y
 lt:∀ k,x<k->k<i->L (el l k) (el l x)
 ge:∀ k,j<k->k<y->G (el l k) (el l x)
theorem Ia.left {L G:El O->El O->Prop} {l:List (El O)} {x y i j:Nat} (h:Ia L G l x y i j) (b:i<=j) (c:L (el l i) (el l x)):Ia L G l x y (i+1) j :=
 ⟨by have:=h.xi;omega,by omega,h.jy,fun k d h2=>by
  by_cases e:k=i
  ·rw [e];exact c
  ·exact h.lt k d (by omega),h.ge⟩
theorem Ia.right {L G:El O->El O->Prop} {l:List (El O)} {x y i j:Nat} (h:Ia L G l x y i j) (b:i<=j) (c:G (el l j) (el l x)):Ia L G l x y i (j - 1) :=
 ⟨h.xi,by have:=h.xi;omega,by have:=h.jy;omega,h.lt,fun k d h2=>by
  by_cases e:k=j
  ·rw [e];exact c
  ·exact h.ge k (by omega) h2⟩
theorem Ia.swap {L G:El O->El O->Prop} {l:List (El O)} {x y i j:Nat} (h:Ia L G l x y i j) (e:y<=l.length) (b:i<j) (c:L (el l j) (el l x)) (d:G (el l i) (el l x)):Ia L G (A_ l i j) x y (i+1) (j - 1):=by
 have m:=h.xi;have h2:=h.jy;have E:=fun q=>lQ (l:=l) (i:=i) (j:=j) (by omega) (by omega) q;have ex:el (A_ l i j) x=el l x:=by rw [E,if_neg (by omega),if_neg (by omega)]
 refine ⟨by omega,by omega,by omega,fun k h3 h4=>?_,fun k h3 h4=>?_⟩
 ·rw [ex,E,if_neg (by omega)];split
  ·exact c
  ·exact h.lt k h3 (by omega)
 ·rw [ex,E];split
  ·exact d
  ·rw [if_neg (by omega)];exact h.ge k (by omega) h4
def Lt (a p:El O):Prop:=a.lt p=true
def Ge (a p:El O):Prop:=p.le a
structure Ew (l:List (El O)) (x y m:Nat):Prop where
 xm:x<=m
 my:m<y
 lt:∀ k,x<=k->k<m->(el l k).le (el l m)
 ge:∀ k,m<k->k<y->(el l m).le (el l k)
theorem Ia.fin {l:List (El O)} {x y i j:Nat} (h:Ia Lt Ge l x y i j) (n:y<=l.length) (m:j<i):Ew (A_ l j x) x y j:=by
 have o:=h.xi;have h2:=h.jy;have h3:=h.ij;have E:=fun q=>lQ (l:=l) (i:=j) (j:=x) (by omega) (by omega) q;have b:el (A_ l j x) j=el l x:=by
  rw [E];split
  ·rename_i e;rw [e]
  ·rw [if_pos rfl]
 refine ⟨by omega,h2,fun k h4 c=>?_,fun k h4 c=>?_⟩
 ·rw [b,E];by_cases d:k=x
  ·rw [if_pos d];exact El.zF (h.lt j (by omega) (by omega))
  ·rw [if_neg d,if_neg (by omega)];exact El.zF (h.lt k (by omega) (by omega))
 ·rw [b,E,if_neg (by omega),if_neg (by omega)];exact h.ge k h4 c
theorem Ia.start {L G:El O->El O->Prop} {l:List (El O)} {x y:Nat} (h:x<y):Ia L G l x y (x+1) (y - 1):=⟨by omega,by omega,by omega,fun k b h2=>by omega,fun k b h2=>by omega⟩
def SJ (a p:El O):Prop:=a.le p
def SL (a p:El O):Prop:=p.lt a=true
def iI (l:List (El O)) (a0 b0 a b:Nat):Prop:=∀ p q,a0<=p->p<q->q<b0->(p<a\/b<=q)->(el l p).le (el l q)
theorem iI.sw {l l':List (El O)} {a0 b0 a b:Nat} (k:a0<=a) (hb:b<=b0) (h:iI l a0 b0 a b) (hs:Sw a b l l'):iI l' a0 b0 a b:=by
 intro p q i h2 h3 h4;have P:(p<a\/b<=p)\/(a<=p/\p<b):=by omega
 have Q:(q<a\/b<=q)\/(a<=q/\q<b):=by omega
 rcases P with c | c <;> rcases Q with d | d
 ·rw [hs.out c,hs.out d];exact h p q i h2 h3 h4
 ·obtain ⟨j,hj,e⟩:=hs.mem d;rw [hs.out c,e];exact h p j i (by omega) (by omega) (by omega)
 ·obtain ⟨j,hj,e⟩:=hs.mem c;rw [hs.out d,e];exact h j q (by omega) (by omega) h3 (by omega)
 ·omega
theorem iI.VO {l:List (El O)} {a0 b0 a b:Nat} (h:iI l a0 b0 a b) (hs:Cv l a b):Cv l a0 b0:=by
 intro p q c h2 h3;by_cases h4:p<a\/b<=q
 ·exact h p q c h2 h3 h4
 ·exact hs p q (by omega) h2 (by omega)
theorem iI.start (l:List (El O)) (a b:Nat):iI l a b a b:=fun p q _ _ _ _=>by omega
theorem iI.right {l l':List (El O)} {a0 b0 a b m:Nat} (B:a0<=a) (hb:b<=b0) (h:iI l a0 b0 a b) (i:Ew l a b m) (hs:Sw a m l l') (o:Cv l' a m):iI l' a0 b0 (m+1) b:=by
 have C:=i.xm;have h2:=i.my;intro p q D x F G;have src:∀ k,∃ j,el l' k=el l j/\((a<=k/\k<m/\a<=j/\j<m)\/(j=k/\(k<a\/m<=k))):=by
  intro k;by_cases n:a<=k/\k<m
  ·obtain ⟨j,hj,e⟩:=hs.mem n;exact ⟨j,e,.inl ⟨n.1,n.2,hj.1,hj.2⟩⟩
  ·exact ⟨k,hs.out (by omega),.inr ⟨rfl,by omega⟩⟩
 by_cases c:a<=p/\q<b
 ·
  by_cases y:q<m
  ·exact o p q c.1 x y
  ·obtain ⟨j,e,hj⟩:=src p;rw [e,hs.out (k:=q) (by omega)];have z:p<=m:=by omega
   have d:(el l j).le (el l m):=by
    by_cases r:j=m
    ·rw [r];exact El.le_refl _
    ·exact i.lt j (by omega) (by omega)
   by_cases w:q=m
   ·rw [w];exact d
   ·exact El.le_trans d (i.ge q (by omega) c.2)
 ·obtain ⟨j,e,hj⟩:=src p;obtain ⟨k,A,n⟩:=src q;rw [e,A];exact h j k (by omega) (by omega) (by omega) (by omega)
theorem iI.left {l l':List (El O)} {a0 b0 a b m:Nat} (A:a0<=a) (hb:b<=b0) (h:iI l a0 b0 a b) (i:Ew l a b m) (hs:Sw (m+1) b l l') (o:Cv l' (m+1) b):iI l' a0 b0 a m:=by
 have B:=i.xm;have h2:=i.my;intro p q C x D F;have src:∀ k,∃ j,el l' k=el l j/\((m<k/\k<b/\m<j/\j<b)\/(j=k/\(k<=m\/b<=k))):=by
  intro k;by_cases n:m+1<=k/\k<b
  ·obtain ⟨j,hj,e⟩:=hs.mem n;exact ⟨j,e,.inl ⟨by omega,n.2,by omega,hj.2⟩⟩
  ·exact ⟨k,hs.out (by omega),.inr ⟨rfl,by omega⟩⟩
 by_cases c:a<=p/\q<b
 ·by_cases y:m<p
  ·exact o p q (by omega) x c.2
  ·obtain ⟨k,e,n⟩:=src q;rw [e,hs.out (k:=p) (by omega)];have d:(el l m).le (el l k):=by
    by_cases r:k=m
    ·rw [r];exact El.le_refl _
    ·exact i.ge k (by omega) (by omega)
   by_cases w:p=m
   ·rw [w];exact d
   ·exact El.le_trans (i.lt p c.1 (by omega)) d
 ·obtain ⟨j,e,hj⟩:=src p;obtain ⟨k,z,n⟩:=src q;rw [e,z];exact h j k (by omega) (by omega) (by omega) (by omega)
theorem iI.equal {l:List (El O)} {a0 b0 a b i j:Nat} (h:iI l a0 b0 a b) (x:a0<=a) (hb:b<=b0) (d:Ia SJ SL l a b i j) (n:j<i) (c:∀ k,a<=k->k<b->(el l a).le (el l k)):iI l a0 b0 i b:=by
 have y:=d.xi;have h2:=d.ij;have h3:=d.jy;intro p q o r w z;by_cases m:a<=p/\q<b
 ·have hle:(el l p).le (el l a):=by
   by_cases e:p=a
   ·rw [e];exact El.le_refl _
   ·exact d.lt p (by omega) (by omega)
  exact El.le_trans hle (c q (by omega) m.2)
 ·exact h p q o r w (by omega)
end Go.au.SG
end

section
namespace Go.Am
section
variable {P:Program} {T:TT} (hT:TT.Ok P T) {call:Ki} (zz:HV P call) (bW:P.follows .mixedOrders=true)
include hT zz bW
end
end Go.Am
end

section
namespace Go.Am
open Go.ChangeShapes Go.WideShapes Go.ChangeAt Go.RowKit
def s0:AS:={ lay:=[],cur:=.E,nl:=0,st:=1 }
theorem fK.below {B:Nat} {γ γ':bN} {s s':AS} {w w':World} (h:fK B γ s w γ' s' w') (b:∀ l o,s.h l=some o->o.ro=true):Below w.heap.size w w' :=
 ⟨h.env.1,h.env.2.1,h.env.2.2,h.eP,fun k c=>h.Uc k c fun l o i d h2 _=>by rw [b l o d] at h2;cases h2⟩
theorem QO {H:Type} {enc:TypeId×Value->H} {P:Program} {f:Func} {s:ChangeSpec} {fresh:Bool} {W W':World} {args:Array Value} {ds:List (DataW H)} {before pa:List MemPlace} {rt:TypeId}
  (j:DataW.Whole enc P f.params.toList s.vars false W args.toList ds [] before) (hv:s.vars=[]) (hb:Below W.heap.size W W') (d:f.resultTypes=#[rt]) (e:P.underlying rt=some .bool)
  (c:(s.fn H (ds++[]))={ results:=[.lit (.bool true)],args:=ds }) (i:DataW.TrodAll enc P W' 0 (fun b=>decide (b<W.heap.size)) true f.params.toList args.toList ds pa) :
  s.post enc P f false fresh false false W args (.bool true) W':=by
 refine ⟨ds,[],before,[],pa,[],j,?_,?_,?_,hb.frame _,fun h=>by cases h⟩
 ·rw [c,d];exact trodAll_mk1 (shut_bool e true)
 ·rw [c];exact i
 ·rw [c,hv];rfl
end Go.Am
end

section
namespace Go.Am
/-! ### heaps -/
theorem aM.none {s:AS} (h:aM s):s.h s.nl=none:=by simpa using h.2 0
def bD (L:List Nat) (s s':AS):Prop:=(∀ x o,x ∉ L->s.h x=some o->s'.h x=some o)/\s.nl<=s'.nl
theorem bD.refl (L:List Nat) (s:AS):bD L s s:=⟨fun _ _ _ h=>h,Nat.le_refl _⟩
theorem bD.trans {L:List Nat} {a b c:AS} (h:bD L a b) (d:bD L b c):bD L a c:=⟨fun x o i e=>d.1 x o i (h.1 x o i e),Nat.le_trans h.2 d.2⟩
theorem Ext.mut {L:List Nat} {s s':AS} (h:Ext s s'):bD L s s':=⟨fun x o _ e=>h.1 x o e,h.2⟩
theorem bD.ext {s s':AS} (h:bD [] s s'):Ext s s':=⟨fun x o e=>h.1 x o (by simp) e,h.2⟩
theorem bD.mono {L b:List Nat} {s s':AS} (h:bD L s s') (c:∀ x∈L,x∈b):bD b s s':=⟨fun x o d e=>h.1 x o (fun m=>d (c x m)) e,h.2⟩
def At (s:AS) (l:Nat) (cs:List AV):Prop:=∃ g ro,s.h l=some (.cells cs g ro)
def Own (s:AS) (l:Nat) (cs:List AV):Prop:=s.h l=some (.cells cs 0 false)
theorem Own.at {s:AS} {l:Nat} {cs:List AV} (h:Own s l cs):At s l cs:=⟨_,_,h⟩
theorem At.ext {s s':AS} {l:Nat} {cs:List AV} (h:At s l cs) (e:Ext s s'):At s' l cs:=by obtain ⟨g,ro,h⟩:=h;exact ⟨g,ro,e.1 _ _ h⟩
theorem At.mut {s s':AS} {L:List Nat} {l:Nat} {cs:List AV} (h:At s l cs) (e:bD L s s') (b:l ∉ L):At s' l cs:=by obtain ⟨g,ro,h⟩:=h;exact ⟨g,ro,e.1 _ _ b h⟩
theorem Own.ext {s s':AS} {l:Nat} {cs:List AV} (h:Own s l cs) (e:Ext s s'):Own s' l cs:=e.1 _ _ h
theorem Own.mut {s s':AS} {L:List Nat} {l:Nat} {cs:List AV} (h:Own s l cs) (e:bD L s s') (b:l ∉ L):Own s' l cs:=e.1 _ _ b h
theorem At.av {s:AS} {l:Nat} {cs:List AV} (h:At s l cs) (o:Nat):av s l o=cs[o]? := by obtain ⟨g,ro,h⟩:=h;exact UB h
theorem At.aC {s:AS} {l:Nat} {cs:List AV} (h:At s l cs) {o n:Nat} (b:o+n<=cs.length):aC s l o n=some ((cs.drop o).take n):=by obtain ⟨g,ro,h⟩:=h;exact tV h b
theorem At.inj {s:AS} {l:Nat} {cs cs':List AV} (h:At s l cs) (b:At s l cs'):cs=cs':=by
 obtain ⟨g,ro,h⟩:=h;obtain ⟨d,c,b⟩:=b;rw [h] at b;simp only [Option.some.injEq,AO.cells.injEq] at b;exact b.1
structure qs (s s':AS) (l:Nat) (o:AO):Prop where
 «at»:s'.h l=some o
 ext:Ext s s'
 wf:aM s'
 no:s.h l=none
 eq:∀ x,x≠l->s'.h x=s.h x
 nl:s.nl<=l/\l<s'.nl
 st:s'.st=s.st
theorem qs.ne {s s':AS} {l:Nat} {o:AO} (h:qs s s' l o) {x:Nat} {o':AO} (b:s.h x=some o'):x≠l:=by
 intro e;subst e;rw [h.no] at b;cases b
theorem qs.own {s s':AS} {l:Nat} {cs:List AV} (h:qs s s' l (.cells cs 0 false)):Own s' l cs:=h.at
theorem aM.new {s:AS} (h:aM s) {o:AO} (c:o.live=true):qs s (s.new o) s.nl o:=by
 have d:=h.1;refine ⟨by rw [AS.nY _ c,if_pos rfl],⟨fun x p b=>?_,by rw [AS.tF];omega⟩,⟨d,fun k=>?_⟩,h.none,fun x b=>by rw [AS.nY _ c,if_neg b],⟨Nat.le_refl _,by rw [AS.tF];omega⟩,rfl⟩
 ·rw [AS.nY _ c,if_neg]
  ·exact b
  ·intro e;subst e;rw [h.none] at b;cases b
 ·rw [AS.tF,AS.Mj,AS.nY _ c];have e1:s.nl+s.st+k*s.st=s.nl+(k+1)*s.st:=by rw [Nat.add_mul,Nat.one_mul];omega
  rw [if_neg (by omega),e1];exact h.2 (k+1)
theorem ak.intro {o:AO} {s:AS} {K:Nat->AS->Prop} (b:aM s) (c:o.live=true) (h:∀ l s',qs s s' l o->K l s'):ak o s K:=h _ _ (b.new c)
structure Uj (s s':AS) (l:Nat) (o:AO):Prop where
 «at»:s'.h l=some o
 wf:aM s'
 eq:∀ x,x≠l->s'.h x=s.h x
 nl:s'.nl=s.nl
 st:s'.st=s.st
theorem Uj.mut {s s':AS} {l:Nat} {o:AO} (h:Uj s s' l o):bD [l] s s':=⟨fun x p b c=>by rw [h.eq x (by simpa using b)];exact c,by rw [h.nl];exact Nat.le_refl _⟩
theorem aM.put {s:AS} (h:aM s) {l:Nat} {o o':AO} (c:s.h l=some o') (b:o.live=true):Uj s (s.put l o) l o:=by
 refine ⟨by rw [AS.nX _ _ b,if_pos rfl],⟨h.1,fun k=>?_⟩,fun x d=>by rw [AS.nX _ _ b,if_neg d],rfl,rfl⟩;rw [AS.Bf,AS.Ut,AS.nX _ _ b,if_neg]
 ·exact h.2 k
 ·intro e;rw [<- e,h.2 k] at c;cases c
theorem bz.cR {s:AS} {l o g:Nat} {cs vs:List AV} {K:AS->Prop} (c:aM s) (b:s.h l=some (.cells cs g false)) (d:o+vs.length<=cs.length) (h:∀ s',Uj s s' l (.cells (qe cs o vs) g false)->K s'):bz (cR s l o vs) K:=by
 refine ⟨s.put l (.cells (qe cs o vs) g false),?_,h _ (c.put b rfl)⟩;simp only [Am.cR,b,if_pos d]
theorem bz.own {s:AS} {l o:Nat} {cs vs:List AV} {K:AS->Prop} (b:aM s) (c:Own s l cs) (d:o+vs.length<=cs.length) (h:∀ s',Uj s s' l (.cells (qe cs o vs) 0 false)->K s'):bz (Am.cR s l o vs) K:=bz.cR b c d h
/-! ### calls -/
def WZ (s s':AS):Prop:=(∃ k,s'.nl=s.nl+k*s.st)/\s'.st=s.st
section
variable {P:Program} {g:FuncId} {args:List AV} {s:AS} {R:AV->AS->Prop}
theorem aa.pre (h:aM s->aa P g args s R):aa P g args s R :=
 fun B γ ca w b h2=>h h2.Mi B γ ca w b h2
theorem aa.post (h:aa P g args s R):aa P g args s fun v s'=>R v s'/\aM s'/\WZ s s' :=
 fun B γ ca w i h2=>(h B γ ca w i h2).mono fun e w' ⟨γ',v,cv,s',a,b,c,d,e⟩=>⟨γ',v,cv,s',a,b,c,d,e,d.Mi,c.nl,c.st⟩
theorem aa.use {R':AV->AS->Prop} (h:aa P g args s R) (hr:∀ v s',R v s'->aM s'->R' v s'):aa P g args s R' :=
 h.post.mono fun v s' ⟨a,b,_⟩=>hr v s' a b
end
/-! ### words -/
theorem QS {k:IntKind} {n:Int} {K:Int->Prop}:aU k (some (.int k n)) K↔K n:=⟨fun ⟨m,h,b⟩=>by simp only [Option.some.injEq,AV.int.injEq] at h;rw [h.2];exact b,fun h=>⟨n,rfl,h⟩⟩
theorem QT {b:Bool} {K:Bool->Prop}:Oc (some (.bool b)) K↔K b:=⟨fun ⟨m,h,c⟩=>by simp only [Option.some.injEq,AV.bool.injEq] at h;rw [h];exact c,fun h=>⟨b,rfl,h⟩⟩
theorem QU {b:List UInt8} {K:List UInt8->Prop}:FN (some (.str b)) K↔K b:=⟨fun ⟨m,h,c⟩=>by simp only [Option.some.injEq,AV.str.injEq] at h;rw [h];exact c,fun h=>⟨b,rfl,h⟩⟩
theorem QV {a:Option (Nat×Nat)} {K:Option (Nat×Nat)->Prop}:pM (some (.ptr a)) K↔K a:=⟨fun ⟨m,h,b⟩=>by simp only [Option.some.injEq,AV.ptr.injEq] at h;rw [h];exact b,fun h=>⟨a,rfl,h⟩⟩
theorem QW {a:Option Nat} {K:Option Nat->Prop}:zk (some (.map a)) K↔K a:=⟨fun ⟨m,h,b⟩=>by simp only [Option.some.injEq,AV.map.injEq] at h;rw [h];exact b,fun h=>⟨a,rfl,h⟩⟩
theorem QX {a:List AV} {K:List AV->Prop}:oR (some (.agg a)) K↔K a:=⟨fun ⟨m,h,b⟩=>by simp only [Option.some.injEq,AV.agg.injEq] at h;rw [h];exact b,fun h=>⟨a,rfl,h⟩⟩
theorem QY {a:AV} {K:AV->Prop}:dJ (some a) K↔K a:=⟨fun ⟨m,h,b⟩=>by simp only [Option.some.injEq] at h;rw [h];exact b,fun h=>⟨a,rfl,h⟩⟩
theorem QZ {a:List AV} {K:List AV->Prop}:aR (some a) K↔K a:=⟨fun ⟨m,h,b⟩=>by simp only [Option.some.injEq] at h;rw [h];exact b,fun h=>⟨a,rfl,h⟩⟩
theorem Q0 {a:Bool} {K:Bool->Prop}:uT (some a) K↔K a:=⟨fun ⟨m,h,b⟩=>by simp only [Option.some.injEq] at h;rw [h];exact b,fun h=>⟨a,rfl,h⟩⟩
theorem Q1 {a:AS} {K:AS->Prop}:bz (some a) K↔K a:=⟨fun ⟨m,h,b⟩=>by simp only [Option.some.injEq] at h;rw [h];exact b,fun h=>⟨a,rfl,h⟩⟩
theorem Q2 {a:AV} {s:AS} {K:AV->AS->Prop}:iF (some (a,s)) K↔K a s:=⟨fun ⟨m,t,h,b⟩=>by simp only [Option.some.injEq,Prod.mk.injEq] at h;rw [h.1,h.2];exact b,fun h=>⟨a,s,rfl,h⟩⟩
theorem Q3 {l i:Nat} {K:Nat->Nat->Prop}:bG (some (.ptr (some (l,i)))) K↔K l i:=⟨fun ⟨m,t,h,b⟩=>by simp only [Option.some.injEq,AV.ptr.injEq,Prod.mk.injEq] at h;rw [h.1,h.2];exact b,fun h=>⟨l,i,rfl,h⟩⟩
theorem Kv {l i:Nat} {K:Nat->Nat->Prop}:ai (some (l,i)) K↔K l i:=Iff.rfl
theorem Kw {X Y:Prop}:af true X Y↔X:=Iff.rfl
theorem Ib {X Y:Prop}:af false X Y↔Y:=Iff.rfl
theorem gj {b:Bool} {X Y:Prop}:af b X Y↔(b=true->X)/\(b=false->Y):=by cases b <;> simp [af]
theorem af.mk {b:Bool} {X Y:Prop} (c:b=true->X) (h2:b=false->Y):af b X Y:=gj.2 ⟨c,h2⟩
theorem af.dec {p:Prop} [Decidable p] {X Y:Prop} (b:p->X) (h2:¬ p->Y):af (decide p) X Y:=gj.2 ⟨fun h=>b (by simpa using h),fun h=>h2 (by simpa using h)⟩
theorem af.yes {b:Bool} {X Y:Prop} (hb:b=true) (h:X):af b X Y:=by subst hb;exact h
theorem af.no {b:Bool} {X Y:Prop} (hb:b=false) (h:Y):af b X Y:=by subst hb;exact h
@[congr] theorem aU.congr {k:IntKind} {o o':Option AV} {K:Int->Prop} (h:o=o'):aU k o K=aU k o' K:=by rw [h]
@[congr] theorem Oc.congr {o o':Option AV} {K:Bool->Prop} (h:o=o'):Oc o K=Oc o' K:=by rw [h]
@[congr] theorem FN.congr {o o':Option AV} {K:List UInt8->Prop} (h:o=o'):FN o K=FN o' K:=by rw [h]
@[congr] theorem pM.congr {o o':Option AV} {K:Option (Nat×Nat)->Prop} (h:o=o'):pM o K=pM o' K:=by rw [h]
@[congr] theorem zk.congr {o o':Option AV} {K:Option Nat->Prop} (h:o=o'):zk o K=zk o' K:=by rw [h]
@[congr] theorem oR.congr {o o':Option AV} {K:List AV->Prop} (h:o=o'):oR o K=oR o' K:=by rw [h]
@[congr] theorem dJ.congr {o o':Option AV} {K:AV->Prop} (h:o=o'):dJ o K=dJ o' K:=by rw [h]
@[congr] theorem aR.congr {o o':Option (List AV)} {K:List AV->Prop} (h:o=o'):aR o K=aR o' K:=by rw [h]
@[congr] theorem uT.congr {o o':Option Bool} {K:Bool->Prop} (h:o=o'):uT o K=uT o' K:=by rw [h]
@[congr] theorem bz.congr {o o':Option AS} {K:AS->Prop} (h:o=o'):bz o K=bz o' K:=by rw [h]
@[congr] theorem iF.congr {o o':Option (AV×AS)} {K:AV->AS->Prop} (h:o=o'):iF o K=iF o' K:=by rw [h]
@[congr] theorem bG.congr {o o':Option AV} {K:Nat->Nat->Prop} (h:o=o'):bG o K=bG o' K:=by rw [h]
@[congr] theorem ai.congr {o o':Option (Nat×Nat)} {K:Nat->Nat->Prop} (h:o=o'):ai o K=ai o' K:=by rw [h]
@[congr] theorem af.congr {b c:Bool} {X Y:Prop} (h:b=c):af b X Y=af c X Y:=by rw [h]
@[congr] theorem cH.congr {l l':List AV} {X:Prop} (h:l=l'):cH l X=cH l' X:=by rw [h]
@[congr] theorem fm.congr {n:Option Nat} {l l':List AV} {X:Prop} (h:l=l'):fm n l X=fm n l' X:=by rw [h]
@[congr] theorem ak.congr {o o':AO} {s:AS} {K:Nat->AS->Prop} (h:o=o'):ak o s K=ak o' s K:=by rw [h]
@[congr] theorem aa.congr {P:Program} {g:FuncId} {a a':List AV} {s:AS} {R:AV->AS->Prop} (h:a=a'):aa P g a s R=aa P g a' s R:=by rw [h]
@[congr] theorem bt.congr {A:(List AV->AS->Prop)->Prop}:bt A=bt A:=rfl
@[congr] theorem bA.congr {A:(Nat->List AV->AS->Prop)->Nat->Prop}:bA A=bA A:=rfl
@[congr] theorem gx.congr {A:(Nat->List AV->AV->AS->Prop)->(Nat->List AV->AV->Prop)->Prop}:gx A=gx A:=rfl
@[congr] theorem sE.congr {s:AS} {A:(AS->AS->Prop)->(Nat->List AV->AV->AS->Prop)->(AS->Prop)->(Nat->List AV->AV->AS->Prop)->(Nat->List AV->AV->Prop)->Prop}:sE s A=sE s A:=rfl
@[congr] theorem Od.congr {n:Nat} {X:Prop}:Od n X=Od n X:=rfl
@[congr] theorem NZ.congr {n n':Int} {X:Prop} (h:n=n'):NZ n X=NZ n' X:=by rw [h]
@[congr] theorem NN.congr {n n':Int} {X:Prop} (h:n=n'):NN n X=NN n' X:=by rw [h]
attribute [go_sem] QS QT QU QV QW QX QY QZ Q0 Q1 Q2 Q3 Kv Kw Ib
end Go.Am
end

section
namespace Go.Am
def bX (s:AS) (v:AV) (sz:Nat) (cs:List AV) (n:Nat):Prop :=
 (v=.emp/\n=0/\cs=[])\/∃ a c e,v=.slc a n c e/\(cs.length=n*sz/\n<=c)/\(n=0\/∃ la o C,a=some (la,o)/\At s la C/\(C.drop o).take (n*sz)=cs)
theorem bX.ext {s s':AS} {v:AV} {sz n:Nat} {cs:List AV} (h:bX s v sz cs n) (e:Ext s s'):bX s' v sz cs n:=by
 rcases h with h | ⟨a,c,b,d,h2,h3⟩
 ·exact .inl h
 ·refine .inr ⟨a,c,b,d,h2,?_⟩;rcases h3 with h3 | ⟨la,o,C,i,j,k⟩
  ·exact .inl h3
  ·exact .inr ⟨la,o,C,i,j.ext e,k⟩
theorem bX.mut {s s':AS} {v:AV} {sz n:Nat} {cs:List AV} {L:List Nat} (h:bX s v sz cs n) (e:bD L s s')
  (b:n≠0->∀ l∈L,∀ C o,At s l C->(C.drop o).take (n*sz)=cs->False):bX s' v sz cs n:=by
 rcases h with h | ⟨a,c,k,m,h2,h3⟩
 ·exact .inl h
 ·refine .inr ⟨a,c,k,m,h2,?_⟩;rcases h3 with h3 | ⟨la,o,C,p,d,i⟩
  ·exact .inl h3
  ·by_cases j:n=0
   ·exact .inl j
   ·exact .inr ⟨la,o,C,p,d.mut e fun hm=>b j la hm C o d i,i⟩
section
variable {T:TT} {t el:TypeId} {sz:Nat} (hu:T.cQ t=some (.slice el)) (hs:T.eP el=some sz)
include hu
theorem bX.cj {s s':AS} {v:AV} {n sz:Nat} {cs:List AV} (h:bX s v sz cs n):aO T t v s'=some (.int .i64 (n:Nat)):=by
 rcases h with ⟨rfl,rfl,rfl⟩ | ⟨a,c,e,rfl,_⟩
 ·simp [aO,hu]
 ·simp [aO,hu]
include hs
theorem bX.ix (r:0<sz) {s:AS} {v:AV} {n:Nat} {cs:List AV} (h:bX s v sz cs n) {i:Nat} (hi:i<n):∃ la o,(∀ k,ag T t v (.int k (i:Nat))=some (.ptr (some (la,o)))) /\
  ∀ s',Ext s s'->(∀ j,j<sz->av s' la (o+j)=cs[i*sz+j]?)/\aC s' la o sz=some ((cs.drop (i*sz)).take sz):=by
 rcases h with ⟨_,rfl,_⟩ | ⟨a,c,e,rfl,d,h3⟩
 ·omega
 ·obtain ⟨d,p⟩:=d;rcases h3 with h3 | ⟨la,o,C,rfl,l,b⟩
  ·omega
  ·have hlen:=congrArg List.length b;rw [List.length_take,List.length_drop,d] at hlen;have hmul:i*sz+sz<=n*sz:=by rw [<- Nat.succ_mul];exact Nat.mul_le_mul_right _ hi
   refine ⟨la,o+i*sz,fun k=>?_,fun s' m=>⟨fun j hj=>?_,?_⟩⟩
   ·have:(0:Int)<=(i:Int)/\(i:Int)<(n:Int):=by omega
    simp only [ag,hu,hs,Option.bind_some];rw [if_pos this];simp
   ·rw [(l.ext m).av,<- b,List.getElem?_take,if_pos (by omega),List.getElem?_drop];congr 1;omega
   ·rw [(l.ext m).aC (by omega),<- b];congr 1;apply List.ext_getElem?;intro k;simp only [List.getElem?_take,List.getElem?_drop];split
    ·rw [if_pos (by omega)];congr 1;omega
    ·rfl
end
section
variable {T:TT} {t el:TypeId} {sz:Nat} (hu:T.cQ t=some (.slice el)) (hs:T.eP el=some sz)
include hu hs
theorem bX.from {s:AS} {v:AV} {n:Nat} {cs:List AV} (h:bX s v sz cs n) (hv:v≠.emp) {i:Nat} (hi:i<=n) (k:IntKind):∃ v',aZ T t v (some (.int k (i:Nat))) none none=some v'/\bX s v' sz (cs.drop (i*sz)) (n - i):=by
 rcases h with ⟨rfl,_⟩ | ⟨a,c,e,rfl,⟨w,d⟩,h3⟩
 ·exact absurd rfl hv
 ·have j:cM n c (some (.int k (i:Nat))) none none=some (i,n,c):=by
   have:(0:Int)<=(i:Int)/\(i:Int)<=((n:Nat):Int):=by omega
   simp only [cM,sx,pG,gz,Option.isNone_none,Option.isSome_none,Bool.false_eq_true,and_false,if_false,Option.bind_some,d,if_true,this,and_self,Option.map_some,Int.toNat_natCast]
  have hlen:(cs.drop (i*sz)).length=(n - i)*sz:=by rw [List.length_drop,w,Nat.mul_sub_right_distrib]
  have x:n - i=0->cs.drop (i*sz)=[]:=fun h=>List.length_eq_zero_iff.1 (by rw [hlen,h,Nat.zero_mul]);simp only [aZ,hu,hs,Option.bind_some,j];rcases a with _ | ⟨b,o⟩
  ·refine ⟨_,rfl,.inr ⟨_,_,_,rfl,⟨hlen,by omega⟩,.inl ?_⟩⟩;rcases h3 with h3 | ⟨la,o,C,h,_⟩
   ·omega
   ·cases h
  ·have key:∀ o' p,(n - i=0\/o'=o+i*sz)->bX s (.slc (some (b,o')) (n - i) (c - i) p) sz (cs.drop (i*sz)) (n - i):=by
    intro o' p l;refine .inr ⟨_,_,_,rfl,⟨hlen,by omega⟩,?_⟩;by_cases r:n - i=0
    ·exact .inl r
    ·rcases l with l | rfl
     ·exact absurd l r
     ·rcases h3 with h3 | ⟨la,o2,C,h,y,m⟩
      ·omega
      ·simp only [Option.some.injEq,Prod.mk.injEq] at h;obtain ⟨rfl,rfl⟩:=h;refine .inr ⟨b,_,C,rfl,y,?_⟩;rw [<- m,List.drop_take,List.drop_drop,Nat.mul_sub_right_distrib]
   by_cases hm:c=i
   ·cases e
    ·refine ⟨.emp,by simp [hm],.inl ⟨rfl,by omega,x (by omega)⟩⟩
    ·refine ⟨.slc (some (b,o)) (n - i) (c - i) true,by simp [hm],key _ _ (.inl (by omega))⟩
   ·cases e
    ·refine ⟨.slc (some (b,o+i*sz)) (n - i) (c - i) false,by simp [hm],key _ _ (.inr rfl)⟩
    ·refine ⟨.slc (some (b,o+i*sz)) (n - i) (c - i) true,by simp [hm],key _ _ (.inr rfl)⟩
end
theorem bX.nil {s:AS} {sz c:Nat} {e:Bool} {a:Option (Nat×Nat)}:bX s (.slc a 0 c e) sz [] 0:=.inr ⟨a,c,e,rfl,⟨by simp,Nat.zero_le _⟩,.inl rfl⟩
theorem bX.mk {s:AS} {la o n c sz:Nat} {e:Bool} {C cs:List AV} (b:At s la C) (d:cs.length=n*sz) (h:(C.drop o).take (n*sz)=cs) (i:n<=c:=by first | omega | simp):bX s (.slc (some (la,o)) n c e) sz cs n :=
 .inr ⟨_,c,e,rfl,⟨d,i⟩,.inr ⟨la,o,C,rfl,b,h⟩⟩
theorem dU {α:Type} {f:α->List AV} {sz:Nat} (b:∀ x,(f x).length=sz) (l:List α):(l.flatMap f).length=l.length*sz:=by
 induction l with
 | nil=>simp
 | cons x xs c=>simp [c,b,Nat.add_mul];omega
theorem qi {α:Type} {f:α->List AV} {sz:Nat} (b:∀ x,(f x).length=sz):∀ (l:List α) (i:Nat),(l.flatMap f).drop (i*sz)=(l.drop i).flatMap f
 | l,0=>by simp
 | [],i+1=>by simp
 | x::xs,i+1=>by
  rw [List.flatMap_cons,List.drop_succ_cons,<- qi b xs i,Nat.add_mul,Nat.one_mul,Nat.add_comm,<- List.drop_drop];congr 1;rw [List.drop_append_of_le_length (by rw [b];exact Nat.le_refl _),List.drop_eq_nil_of_le (by rw [b];exact Nat.le_refl _),List.nil_append]
theorem sL {α:Type} {f:α->List AV} {sz:Nat} (b:∀ x,(f x).length=sz):∀ (l:List α) (i:Nat),(l.flatMap f).take (i*sz)=(l.take i).flatMap f
 | l,0=>by simp
 | [],i+1=>by simp
 | x::xs,i+1=>by
  rw [List.flatMap_cons,List.take_succ_cons,List.flatMap_cons,<- sL b xs i,Nat.add_mul,Nat.one_mul,Nat.add_comm,List.take_append];rw [b,List.take_of_length_le (by rw [b];omega),Nat.add_sub_cancel_left]
theorem Bm {α:Type} {f:α->List AV} {sz:Nat} (b:∀ x,(f x).length=sz) {l:List α} {i:Nat} {x:α} (h:l[i]? = some x):((l.flatMap f).drop (i*sz)).take sz=f x:=by
 rw [qi b];have hi:i<l.length:=by
  rcases Nat.lt_or_ge i l.length with c | c
  ·exact c
  ·rw [List.getElem?_eq_none c] at h;cases h
 rw [List.drop_eq_getElem_cons hi,List.flatMap_cons,List.take_append_of_le_length (by rw [b];exact Nat.le_refl _),List.take_of_length_le (by rw [b];exact Nat.le_refl _)];rw [List.getElem?_eq_getElem hi] at h;rw [Option.some.inj h]
theorem Q4 {α:Type} {f:α->List AV} {sz:Nat} (b:∀ x,(f x).length=sz) {l:List α} {i j:Nat} {x:α} (h:l[i]? = some x) (hj:j<sz):(l.flatMap f)[i*sz+j]? = (f x)[j]? := by
 have:=congrArg (fun c:List AV=>c[j]?) (Bm b h);simp only [List.getElem?_take,List.getElem?_drop,if_pos hj] at this;exact this
def Sl {α:Type} (f:α->List AV) (sz:Nat) (s:AS) (v:AV) (l:List α):Prop:=bX s v sz (l.flatMap f) l.length
section
variable {α:Type} {f:α->List AV} {sz:Nat} {s s':AS} {v:AV} {l:List α}
theorem Sl.ext (h:Sl f sz s v l) (e:Ext s s'):Sl f sz s' v l:=bX.ext h e
theorem Sl.nil {c:Nat} {e:Bool} {a:Option (Nat×Nat)}:Sl f sz s (.slc a 0 c e) []:=bX.nil
theorem Sl.cj {T:TT} {t el:TypeId} (hu:T.cQ t=some (.slice el)) (h:Sl f sz s v l) (s':AS):aO T t v s'=some (.int .i64 (l.length:Nat)):=bX.cj hu h
theorem Sl.ix (m:0<sz) {T:TT} {t el:TypeId} (d:∀ x,(f x).length=sz) (hu:T.cQ t=some (.slice el)) (hs:T.eP el=some sz) (h:Sl f sz s v l) {i:Nat} {x:α} (hi:l[i]? = some x):∃ la o,(∀ k,ag T t v (.int k (i:Nat))=some (.ptr (some (la,o)))) /\
  ∀ s',Ext s s'->(∀ j,j<sz->av s' la (o+j)=(f x)[j]?)/\aC s' la o sz=some (f x):=by
 have b:i<l.length:=by
  rcases Nat.lt_or_ge i l.length with c | c
  ·exact c
  ·rw [List.getElem?_eq_none c] at hi;cases hi
 obtain ⟨la,o,n,h2⟩:=bX.ix hu hs m h b;refine ⟨la,o,n,fun s' e=>⟨fun j hj=>?_,?_⟩⟩
 ·rw [(h2 s' e).1 j hj,Q4 d hi hj]
 ·rw [(h2 s' e).2,Bm d hi]
theorem Sl.from {T:TT} {t el:TypeId} (b:∀ x,(f x).length=sz) (hu:T.cQ t=some (.slice el)) (hs:T.eP el=some sz) (h:Sl f sz s v l) (hv:v≠.emp) {i:Nat} (hi:i<=l.length) (k:IntKind):∃ v',aZ T t v (some (.int k (i:Nat))) none none=some v'/\Sl f sz s v' (l.drop i):=by
 obtain ⟨v',c,h2⟩:=bX.from hu hs h hv hi k
 exact ⟨v',c,by rw [qi b] at h2;simpa [Sl] using h2⟩
theorem Sl.mut {L:List Nat} (h:Sl f sz s v l) (e:bD L s s') (j:∀ x,(f x).length=sz) (k:0<sz) (b:∀ p∈L,∀ C,At s p C->∀ x∈l,∀ (i:Nat) c,(f x)[0]? = some c->C[i]? ≠ some c):Sl f sz s' v l:=by
 refine bX.mut h e fun n p r C o w d=>?_;cases l with
 | nil=>simp at n
 | cons x xs =>
  have m:(f x)[0]? = some ((f x)[0]'(by rw [j];exact k)):=List.getElem?_eq_getElem _;refine b p r C w x (by simp) o _ m ?_;have:=congrArg (fun c:List AV=>c[0]?) d;simp only [List.getElem?_take,List.getElem?_drop,List.flatMap_cons,Nat.add_zero] at this;rw [if_pos (by simp;omega),List.getElem?_append_left (by rw [j];exact k)] at this;rw [this,m]
end
end Go.Am
end

section
namespace Go.Am
theorem dB {cs vs:List AV} (h:vs.length=cs.length):qe cs 0 vs=vs:=by
 apply List.ext_getElem?;intro k;rw [jH _ _ _ _ (by omega)];by_cases b:k<vs.length
 ·rw [if_pos (by omega),Nat.sub_zero]
 ·rw [if_neg (by omega),List.getElem?_eq_none (by omega),List.getElem?_eq_none (by omega)]
structure Bn (T:TT) (t el:TypeId) (sz qf:Nat):Prop where
 u:T.cQ t=some (.slice el)
 z:T.eP el=some sz
 b:T.FQ el=some qf
 zr:∃ z zc,T.rO el=some z/\bJ z=some zc/\zc.length=sz
 pos:0<sz
 small:sz<=1024/\qf<=65536
def ay:AV->List Nat
 | .slc (some (la,_)) _ _ false=>[la]
 | _=>[]
def br {α:Type} (f:α->List AV) (sz:Nat) (s:AS) (v:AV) (l:List α):Prop :=
 (l=[]/\∃ a,v=.slc a 0 0 true)\/∃ la,v=.slc (some (la,0)) l.length l.length false/\s.h la=some (.cells (l.flatMap f) sz false)
theorem br.nil {α:Type} {f:α->List AV} {sz:Nat} {s:AS} {a:Option (Nat×Nat)}:br f sz s (.slc a 0 0 true) ([]:List α):=.inl ⟨rfl,a,rfl⟩
theorem br.mut {α:Type} {f:α->List AV} {sz:Nat} {s s':AS} {v:AV} {l:List α} {L:List Nat} (h:br f sz s v l) (e:bD L s s') (b:∀ x∈ay v,x ∉ L):br f sz s' v l:=by
 rcases h with h | ⟨la,rfl,h⟩
 ·exact .inl h
 ·exact .inr ⟨la,rfl,e.1 _ _ (b la (by simp [ay])) h⟩
theorem br.ext {α:Type} {f:α->List AV} {sz:Nat} {s s':AS} {v:AV} {l:List α} (h:br f sz s v l) (e:Ext s s'):br f sz s' v l:=h.mut (L:=[]) e.mut (by simp)
theorem br.sl {α:Type} {f:α->List AV} {sz:Nat} (b:∀ x,(f x).length=sz) {s:AS} {v:AV} {l:List α} (h:br f sz s v l):Sl f sz s v l:=by
 rcases h with ⟨rfl,a,rfl⟩ | ⟨la,rfl,h⟩
 ·exact Sl.nil
 ·exact bX.mk ⟨_,_,h⟩ (dU b l) (by rw [List.drop_zero,List.take_of_length_le (by rw [dU b];exact Nat.le_refl _)])
section
variable {T:TT} {t el:TypeId} {sz qf:Nat} (ht:Bn T t el sz qf)
include ht
theorem ke {c:List AV} (e:c.length=sz) (j:c.all AV.one=true):cV T t 1 [(0,.agg c)]=some c:=by
 obtain ⟨z,zc,l,d,i⟩:=ht.zr;have m:=ht.pos;have hs:=ht.small;simp only [cV,ht.u,ht.z,l,d,Option.bind_some];rw [if_pos ⟨i,by omega⟩];have h2:bJ (.agg c)=some c:=by simp [bJ,AV.cells,j]
 have b:(rep 1 zc).length=sz:=by simp [rep,i]
 simp only [iZ,h2,Nat.zero_mul,Nat.zero_add,e,b,true_and,Nat.le_refl,if_true];congr 1;apply List.ext_getElem?;intro k;rw [jH _ _ _ _ (by rw [b,e];omega)];by_cases n:k<sz
 ·rw [if_pos (by omega)];simp
 ·rw [if_neg (by omega),List.getElem?_eq_none (by omega),List.getElem?_eq_none (by omega)]
theorem Kx {v:AV} (c:sz=1) (hv:v.one=true):cV T t 1 [(0,v)]=some [v]:=by
 obtain ⟨z,zc,j,d,e⟩:=ht.zr;simp only [cV,ht.u,ht.z,j,d,Option.bind_some];subst c;rw [if_pos ⟨e,by omega⟩];have h2:bJ v=some [v]:=by cases v <;> first | rfl | cases hv
 have b:(rep 1 zc).length=1:=by simp [rep,e]
 simp only [iZ,h2,Nat.zero_mul,Nat.zero_add,List.length_cons,List.length_nil,b,true_and,Nat.le_refl,if_true];congr 1
 match i:rep 1 zc with
 | []=>rw [i] at b;simp at b
 | [x]=>rfl
 | x::y::r=>rw [i] at b;simp at b
theorem zG:cV T t 0 []=some []:=by
 obtain ⟨z,zc,c,b,d⟩:=ht.zr;simp only [cV,ht.u,ht.z,c,b,Option.bind_some];rw [if_pos ⟨d,by omega⟩];simp [iZ,rep]
theorem bX.src {s:AS} {v:AV} {n:Nat} {cs:List AV} (h:bX s v sz cs n):mT sz n s v=some cs/\CG v=some n:=by
 rcases h with ⟨rfl,rfl,rfl⟩ | ⟨a,c,e,rfl,d,h3⟩
 ·exact ⟨rfl,rfl⟩
 ·obtain ⟨d,_⟩:=d;refine ⟨?_,rfl⟩;by_cases i:n=0
  ·subst i;obtain rfl:cs=[]:=List.length_eq_zero_iff.1 (by simpa using d);rcases a with _ | ⟨l,o⟩
   ·rfl
   ·simp [mT]
  ·rcases h3 with h3 | ⟨la,o,C,rfl,j,b⟩
   ·exact absurd h3 i
   ·have hlen:=congrArg List.length b;rw [List.length_take,List.length_drop,d] at hlen;have k:=ht.pos;have:0<n*sz:=Nat.mul_pos (by omega) k;simp only [mT,if_neg i];rw [j.aC (by omega),b]
theorem jJ {base:Option (Nat×Nat)} {len cap n:Nat} {ex:Bool} {x:AV} {new:List AV} {s:AS} {xt:TypeId} (i:T.cQ xt=some (.slice el)) (hlen:CG x=some n) (d:mT sz n s x=some new) (e:new.length=n*sz) (hb:len+n<=2 ^ 30) :
  aI T t xt (.slc base len cap ex) x s=if len+n<=cap then
    (match base with
     | none=>some (.slc none (len+n) cap ex,s)
     | some (l,o) =>
      if new=[] then some (.slc base (len+n) cap ex,s)
      else (cR s l (o+len*sz) new).map fun s'=>(.slc base (len+n) cap ex,s'))
   else
    (mT sz len s (.slc base len cap ex)).bind fun old =>
     if ex then some (.slc (some (s.nl,0)) (len+n) (len+n) false,s.new (.cells (old++new) sz false))
     else match base with
      | none=>none
      | some (l,o) =>
       match s.h l with
       | some (.cells cs g false) =>
        if g=sz/\sz≠0/\o+cap*sz=cs.length then
         some (.slc (some (s.nl,0)) (len+n) (len+n) false,(s.kill l).new (.cells (old++new) sz false))
        else none
       | _=>none:=by
 obtain ⟨z,zc,p,j,r⟩:=ht.zr;obtain ⟨w,k⟩:=ht.small;have c:(match TypeDesc.slice el with | .int _=>true | _=>false)=false:=rfl;have m:¬ (zc.length≠sz\/new.length≠n*sz\/2 ^ 40<len+n\/2*((len+n+256)*qf)>2 ^ 48):=by
  have:(len+n+256)*qf<=(2 ^ 30+256)*65536:=Nat.mul_le_mul (by omega) k;rw [r,e];omega
 simp only [aI,ht.u,i,c,Bool.false_eq_true,if_false,ht.z,ht.b,p,j,Option.bind_some,hlen,d];rw [if_neg m];rfl
theorem br.append {α:Type} {f:α->List AV} (A:∀ x,(f x).length=sz) (B:∀ x,(f x).all AV.one=true) {s:AS} (e:aM s) {v x:AV} {l xs:List α} (h:br f sz s v l) (C:Sl f sz s x xs) (hb:l.length+xs.length<=2 ^ 30) {xt:TypeId} (m:T.cQ xt=some (.slice el)) :
  ∃ v' s',aI T t xt v x s=some (v',s')/\br f sz s' v' (l++xs)/\bD (ay v) s s'/\aM s'/\(∀ la∈ay v',la∈ay v\/s.h la=none):=by
 have H:=ht.pos;obtain ⟨c,hlen⟩:=bX.src ht C;have i:=dU A xs;have w:=e.1;have z:xs.flatMap f=[]↔xs=[]:=by
  rw [<- List.length_eq_zero_iff,i,<- List.length_eq_zero_iff];constructor
  ·intro h;rcases Nat.mul_eq_zero.1 h with h | h <;> omega
  ·intro h;rw [h,Nat.zero_mul]
 rcases h with ⟨rfl,a,rfl⟩ | ⟨la,rfl,j⟩
 ·rw [jJ ht m hlen c i (by simpa using hb)];by_cases n:xs=[]
  ·subst n;refine ⟨.slc a 0 0 true,s,?_,by simpa using br.nil,bD.refl _ _,e,fun la h=>.inl h⟩;rw [if_pos (by simp)];rcases a with _ | ⟨l,o⟩ <;> simp
  ·have p:0<xs.length:=List.length_pos_iff.2 n;have d:=e.new (o:=.cells (xs.flatMap f) sz false) rfl;refine ⟨.slc (some (s.nl,0)) xs.length xs.length false,s.new (.cells (xs.flatMap f) sz false),?_,.inr ⟨s.nl,by simp,by simpa using d.at⟩,d.ext.mut,d.wf,fun la h=>?_⟩
   ·rw [if_neg (by omega)];have:mT sz 0 s (.slc a 0 0 true)=some []:=by rcases a with _ | ⟨l,o⟩ <;> rfl
    rw [this];simp
   ·simp only [ay,List.mem_singleton] at h;subst h;exact .inr e.none
 ·have b:=dU A l;have hold:mT sz l.length s (.slc (some (la,0)) l.length l.length false)=some (l.flatMap f):=by
   by_cases r:l.length=0
   ·rw [List.length_eq_zero_iff.1 r];simp [mT]
   ·simp only [mT,if_neg r];rw [tV j (by rw [b];omega),List.drop_zero,List.take_of_length_le (by rw [b];exact Nat.le_refl _)]
  rw [jJ ht m hlen c i hb];by_cases n:xs=[]
  ·subst n;refine ⟨.slc (some (la,0)) l.length l.length false,s,?_,by rw [List.append_nil];exact Or.inr ⟨la,rfl,j⟩,bD.refl _ _,e,fun la h=>.inl h⟩;rw [if_pos (by simp)];simp
  ·have p:0<xs.length:=List.length_pos_iff.2 n;have D:aM (s.kill la):=by
    refine ⟨w,fun k=>?_⟩;rw [AS.rN,AS.nR,AS.DG];split
    ·rfl
    ·exact e.2 k
   have d:=D.new (o:=.cells (l.flatMap f++xs.flatMap f) sz false) rfl;refine ⟨.slc (some (s.nl,0)) (l.length+xs.length) (l.length+xs.length) false,(s.kill la).new (.cells (l.flatMap f++xs.flatMap f) sz false),?_,.inr ⟨s.nl,by simp,by rw [List.flatMap_append];exact d.at⟩,⟨fun y o F G=>d.ext.1 y o ?_,d.ext.2⟩,d.wf,fun la h=>?_⟩
   ·rw [if_neg (by omega),hold];simp only [Option.bind_some,j,Nat.zero_add,b,Bool.false_eq_true,if_false];rw [if_pos ⟨trivial,by omega,trivial⟩]
   ·rw [AS.rN,if_neg (by simpa [ay] using F)];exact G
   ·simp only [ay,List.mem_singleton] at h;subst h;exact .inr e.none
end
structure aT {α:Type} (f:α->List AV) (sz:Nat) (M:List Nat) (s0 s:AS) (v:AV) (l:List α):Prop where
 u6:br f sz s v l
 ew:bD M s0 s
 new:∀ la∈ay v,s0.h la=none
theorem aT.nil {α:Type} {f:α->List AV} {sz:Nat} {M:List Nat} {s:AS} {a:Option (Nat×Nat)}:aT f sz M s s (.slc a 0 0 true) ([]:List α):=⟨br.nil,bD.refl _ _,by simp [ay]⟩
theorem aT.start {α:Type} {f:α->List AV} {sz:Nat} {M:List Nat} {s0 s:AS} {a:Option (Nat×Nat)} (h:bD M s0 s):aT f sz M s0 s (.slc a 0 0 true) ([]:List α):=⟨br.nil,h,by simp [ay]⟩
theorem Ext.none {s s':AS} (h:Ext s s') {l:Nat} (b:s'.h l=none):s.h l=none:=by
 cases c:s.h l with
 | none=>rfl
 | some o=>rw [h.1 l o c] at b;cases b
theorem bD.fresh {M:List Nat} {s s':AS} (h:bD M s s') (c:∀ x∈M,s'.h x≠none) {l:Nat} (b:s'.h l=none):s.h l=none:=by
 cases d:s.h l with
 | none=>rfl
 | some o =>
  by_cases hm:l∈M
  ·exact absurd b (c l hm)
  ·rw [h.1 l o hm d] at b;cases b
section
variable {α:Type} {f:α->List AV} {sz:Nat} {M:List Nat} {s0 s s':AS} {v:AV} {l:List α}
theorem aT.step (h:aT f sz M s0 s v l) (e:Ext s s'):aT f sz M s0 s' v l:=⟨h.u6.ext e,h.ew.trans e.mut,h.new⟩
theorem aT.wr (h:aT f sz M s0 s v l) (b:∀ x∈M,s0.h x≠none) (e:bD M s s'):aT f sz M s0 s' v l :=
 ⟨h.u6.mut e fun x c hm=>b x hm (h.new x c),h.ew.trans e,h.new⟩
theorem aT.iS (h:aT f sz M s0 s v l):v≠.emp/\v.one=true:=by
 rcases h.u6 with ⟨_,a,rfl⟩ | ⟨la,rfl,_⟩ <;> exact ⟨(fun e=>by cases e),rfl⟩
theorem aT.sl (b:∀ x,(f x).length=sz) (h:aT f sz M s0 s v l):Sl f sz s v l:=h.u6.sl b
end
section
variable {T:TT} {t el:TypeId} {sz qf:Nat} (ht:Bn T t el sz qf)
include ht
theorem aT.kH {α:Type} {f:α->List AV} (k:∀ x,(f x).length=sz) (b:∀ x,(f x).all AV.one=true) {M:List Nat} {s0 s:AS} (m:aM s) {v x:AV} {l xs:List α} (h:aT f sz M s0 s v l) (n:∀ x∈M,s.h x≠none) (p:Sl f sz s x xs) (hb:l.length+xs.length<=2 ^ 30) {xt:TypeId} (c:T.cQ xt=some (.slice el))
  {K:AV->AS->Prop} (r:∀ v' s',aT f sz M s0 s' v' (l++xs)->aM s'->bD (ay v) s s'->K v' s'):iF (aI T t xt v x s) K:=by
 obtain ⟨v',s',w,h2,h3,h4,z⟩:=br.append ht k b m h.u6 p hb c;refine ⟨v',s',w,r v' s' ⟨h2,⟨fun y o d e=>h3.1 y o (fun hm=>?_) (h.ew.1 y o d e),Nat.le_trans h.ew.2 h3.2⟩,fun la i=>?_⟩ h4 h3⟩
 ·rw [h.new y hm] at e;cases e
 ·rcases z la i with j | j
  ·exact h.new la j
  ·exact h.ew.fresh n j
theorem aT.iT {α:Type} {f:α->List AV} (c:∀ x,(f x).length=sz) (b:∀ x,(f x).all AV.one=true) {M:List Nat} {s0 s:AS} (e:aM s) {v:AV} {l:List α} (h:aT f sz M s0 s v l) (i:∀ x∈M,s.h x≠none) (x:α) (hb:l.length+1<=2 ^ 30)
  {K:AV->AS->Prop} (j:∀ v' s',aT f sz M s0 s' v' (l++[x])->aM s'->bD (ay v) s s'->K v' s'):aR (cV T t 1 [(0,.agg (f x))]) fun g=>ak (.cells g 0 false) s fun la s1=>iF (aI T t t v (.slc (some (la,0)) 1 1 true) s1) K:=by
 refine ⟨_,ke ht (c x) (b x),ak.intro e rfl fun la s1 F=>?_⟩;have d:∀ x∈M,s1.h x≠none:=fun x k n=>i x k (F.ext.none n);refine aT.kH ht c b F.wf (h.step F.ext) d (xs:=[x]) (bX.mk F.own.at (by simp [c]) (by simp [List.take_of_length_le,c])) (by simpa using hb) ht.u fun v' s' g w m=>j v' s' g w (F.ext.mut.trans m)
theorem aT.Ky {α:Type} {f:α->AV} (b:sz=1) (c:∀ x,(f x).one=true) {M:List Nat} {s0 s:AS} (e:aM s) {v:AV} {l:List α} (h:aT (fun x=>[f x]) sz M s0 s v l) (i:∀ x∈M,s.h x≠none) (x:α) (hb:l.length+1<=2 ^ 30)
  {K:AV->AS->Prop} (j:∀ v' s',aT (fun x=>[f x]) sz M s0 s' v' (l++[x])->aM s'->bD (ay v) s s'->K v' s'):aR (cV T t 1 [(0,f x)]) fun g=>ak (.cells g 0 false) s fun la s1=>iF (aI T t t v (.slc (some (la,0)) 1 1 true) s1) K:=by
 refine ⟨_,Kx ht b (c x),ak.intro e rfl fun la s1 F=>?_⟩;have d:∀ x∈M,s1.h x≠none:=fun x k n=>i x k (F.ext.none n);refine aT.kH ht (by simp [b]) (by simp [c]) F.wf (h.step F.ext) d (xs:=[x]) (bX.mk F.own.at (by simp [b]) (by simp [b])) (by simpa using hb) ht.u fun v' s' g w m=>j v' s' g w (F.ext.mut.trans m)
end
theorem cK {T:TT} {t:TypeId} {s:AS} {l off:Nat} {v:AV} {K:AS->Prop} (hv:v.one=true) (hs:T.eP t=some 1) (h:bz (cR s l off [v]) K):fG T t s l off v K:=by
 unfold fG;split
 ·cases hv
 ·cases hv
 ·cases hv
 ·rw [hs];exact h
theorem k_ {zc g:List AV} {n:Nat} {s:AS} {K:Nat->AS->Prop} (e:aM s) (i:g.length=n) (k:zc.length=n) (j:g.all AV.one=true) (h:∀ l s',qs s s' l (.cells g 0 false)->K l s') :
  ak (.cells zc 0 false) s fun l s1=>fm (some n) g (bz (cR s1 l 0 g) fun s2=>K l s2):=by
 refine ak.intro e rfl fun l s1 F=>⟨⟨j,by rw [i]⟩,bz.own F.wf F.own (by omega) fun s2 P=>h l s2 ?_⟩;have b:s2.h l=some (.cells g 0 false):=by rw [P.at,dB (by omega)]
 exact ⟨b,⟨fun x o c=>by rw [P.eq x (F.ne c)];exact F.ext.1 x o c,by rw [P.nl];exact F.ext.2⟩,P.wf,F.no,fun x d=>by rw [P.eq x d,F.eq x d],by rw [P.nl];exact F.nl,by rw [P.st,F.st]⟩
end Go.Am
end

section
namespace Go.Am
def triples (d:Option TypeDesc):Option (List (Bool×TypeId×Nat)):=match d with
 | some (.struct fs) => some (fs.toList.map fun f => (f.name == "_", f.type, f.offset))
 | _=>none
def Ex (T:TT) (eqv:TypeId->AV->AV->Option Bool) (xs ys:List AV):List (Bool×TypeId×Nat)->Option Bool
 | []=>some true
 | f::fs=>bif f.1 then Ex T eqv xs ys fs else
   (part T f.2.1 xs f.2.2).bind fun a=>(part T f.2.1 ys f.2.2).bind fun b =>
    match eqv f.2.1 a b with
    | some true=>Ex T eqv xs ys fs
    | r=>r
theorem zH {T : TT} {eqv : TypeId -> AV -> AV -> Option Bool} {xs ys : List AV} : ∀ (fs : List Field), eqFields T eqv xs ys fs = Ex T eqv xs ys (fs.map fun f => (f.name == "_", f.type, f.offset))
 | []=>rfl
 | f::fs=>by
  simp only [eqFields,List.map_cons,Ex];have c:=zH (T:=T) (eqv:=eqv) (xs:=xs) (ys:=ys) fs;rw [c];by_cases h : f.name = "_"
  ·simp [h]
  ·have : (f.name == "_") = false := by simpa using h
   simp only [ne_eq,h,not_false_eq_true,if_true,this,cond_false]
   first
    | done
    | (congr 1;done)
    | (congr 1;funext a;congr 1;funext b;cases eqv f.type a b with
     | none=>rfl
     | some x=>cases x <;> rfl)
theorem Oh {T:TT} {t:TypeId} {l:List (Bool×TypeId×Nat)} (h:triples (T.cQ t)=some l) (b:T.SR t=true) (d:Nat) (xs ys:List AV):iY T (d+1) t (.agg xs) (.agg ys)=Ex T (iY T d) xs ys l:=by
 unfold triples at h;split at h
 ·rename_i fs hu;obtain rfl:=Option.some.inj h;simp only [iY,hu,b,if_true,zH]
 ·cases h
theorem Q5 {T:TT} {t:TypeId} {k k':IntKind} (hu:T.cQ t=some (.int k)) (d:Nat) (a b:Int):iY T (d+1) t (.int k' a) (.int k' b)=some (a==b):=by simp [iY,hu]
theorem Q6 {T:TT} {t:TypeId} (hu:T.cQ t=some .string) (d:Nat) (a b:List UInt8):iY T (d+1) t (.str a) (.str b)=some (a==b):=by simp [iY,hu]
theorem Bo {T:TT} {t:TypeId} (h:T.agg t=some false) (cs:List AV) (o:Nat):part T t cs o=cs[o]? := by simp [part,h]
theorem ua {T:TT} {t e:TypeId} {n sz:Nat} (hu:T.cQ t=some (.array n e)) (hs:T.eP e=some sz) {l o:Nat} {k:IntKind} {i:Int} (h:0<=i/\i<n):ag T t (.ptr (some (l,o))) (.int k i)=some (.ptr (some (l,o+i.toNat*sz))):=by
 simp only [ag,hu,hs,Option.bind_some,if_pos h]
theorem iG {T:TT} {t e:TypeId} (hu:T.cQ t=some (.pointer e)) (a:Option (Nat×Nat)):iY T 100 t (.ptr a) (.ptr none)=some a.isNone:=by
 cases a <;> simp [iY,hu]
theorem rm {T:TT} {t e:TypeId} (hu:T.cQ t=some (.slice e)) (c:Bool) (a:Option (Nat×Nat)) (n m n' m':Nat) (ex b:Bool):Qi T t c (.slc a n m ex) (.slc none n' m' b)=some a.isNone:=by
 cases a <;> simp [Qi,O2,iY,hu]
theorem ru {T:TT} {t e:TypeId} (hu:T.cQ t=some (.slice e)) (c:Bool) (n' m':Nat) (b:Bool):Qi T t c .emp (.slc none n' m' b)=some false:=by
 simp [Qi,O2,iY,hu]
theorem S_ {cs vs:List AV} (h:vs.length=cs.length):qe cs 0 vs=vs:=by
 apply List.ext_getElem?;intro k;rw [jH _ _ _ _ (by omega)];by_cases b:k<vs.length
 ·rw [if_pos (by omega),Nat.sub_zero]
 ·rw [if_neg (by omega),List.getElem?_eq_none (by omega),List.getElem?_eq_none (by omega)]
theorem fo {cs:List AV} {o:Nat} {v:AV}:qe cs o [v]=cs.set o v:=rfl
end Go.Am
namespace Go.Am
/-! ### a struct built of its parts -/
def places (T:TT) (t:TypeId):Option (List (Nat×Nat)):=match T.cQ t with
 | some (.struct fs)=>if fs.all (fun f=>(T.eP f.type).isSome) then some (fs.toList.map fun f=>(f.offset,(T.eP f.type).getD 0)) else none
 | _=>none
theorem qj {T:TT} {t:TypeId} {pl:List (Nat×Nat)} {z:AV} {zc:List AV} (h:places T t=some pl) (j:T.rO t=some z) (c:bJ z=some zc) (parts:List (Nat×AV)):aV T t parts=(iZ (fun i=>pl[i]?) zc parts).map .agg:=by
 unfold places at h;split at h
 ·rename_i fs hu;split at h
  ·rename_i b;obtain rfl:=Option.some.inj h;simp only [aV,j,c,Option.bind_some,hu,b,if_true];congr 2;funext i;simp only [List.getElem?_map];cases d:fs[i]? with
   | none=>simp [show fs.toList[i]? = none by simpa using d]
   | some f =>
    have e:fs.toList[i]? = some f:=by simpa using d
    have hm:f∈fs:=Array.mem_of_getElem? d;have:=Array.all_eq_true'.1 b f hm;obtain ⟨n,k⟩:=Option.isSome_iff_exists.1 this;simp [e,k]
  ·cases h
 ·cases h
theorem Ic (pre mid b post:List AV) (h:b.length=mid.length):qe (pre++mid++post) pre.length b=pre++b++post:=by
 apply List.ext_getElem?;intro k;rw [jH _ _ _ _ (by simp;omega)];by_cases c:k<pre.length
 ·rw [if_neg (by omega),List.append_assoc,List.append_assoc,List.getElem?_append_left c,List.getElem?_append_left c]
 ·by_cases h2:k<pre.length+b.length
  ·rw [if_pos (by omega),List.append_assoc,List.getElem?_append_right (by omega),List.getElem?_append_left (by omega)]
  ·rw [if_neg (by omega),List.append_assoc,List.append_assoc,List.getElem?_append_right (by omega),List.getElem?_append_right (by omega),List.getElem?_append_right (by omega),List.getElem?_append_right (by omega),h]
theorem mY {pl:Nat->Option (Nat×Nat)} {pre mid post c:List AV} {i sz:Nat} {v:AV} {rest:List (Nat×AV)} (b:pl i=some (pre.length,sz)) (d:bJ v=some c) (e:c.length=sz) (h2:mid.length=sz) :
  iZ pl (pre++mid++post) ((i,v)::rest)=iZ pl (pre++c++post) rest:=by
 simp only [iZ,b,d];rw [if_pos ⟨e,by simp;omega⟩,Ic _ _ _ _ (by omega)]
end Go.Am
end

section
namespace Go.au
def el (l:List aK) (i:Nat):aK:=l.getD i ⟨0,0⟩
theorem yp {l:List aK} {i:Nat} (h:i<l.length):l[i]? = some (el l i):=by
 rw [el,List.getD_eq_getElem?_getD,List.getElem?_eq_getElem h];rfl
def aK.le (x y:aK):Prop:=y.lt x=false
theorem aK.le_iff {x y:aK}:x.le y↔x.r<y.r\/x.r=y.r/\x.c<=y.c:=by
 unfold aK.le;rw [<- Bool.not_eq_true,aK.lt_iff];omega
theorem aK.le_trans {a b c:aK} (h:a.le b) (d:b.le c):a.le c:=by rw [aK.le_iff] at *;omega
theorem aK.le_refl (a:aK):a.le a:=by rw [aK.le_iff];omega
theorem aK.zF {a b:aK} (h:a.lt b=true):a.le b:=by rw [aK.lt_iff] at h;rw [aK.le_iff];omega
def Cv (l:List aK) (a b:Nat):Prop:=∀ i j,a<=i->i<j->j<b->(el l i).le (el l j)
end Go.au
end

section
namespace Go.au
end Go.au
end

section
namespace Go.Am
theorem aa.extern {P : Program} {g : FuncId} {fn : Func} {e : Array Value -> Sem Value} (d : P.funcs[g]? = some fn) (c : (fn.name == "runtime.NumGoroutine") = false) (hb : fn.body.isNone = true) (i : Extern.findNext fn = none) (j : Extern.find fn = some e)
  {args:List AV} {s:AS} {R:AV->AS->Prop} (h:∀ (B:Nat) (γ:bN) (b:Array Value) (w:World),aj γ args b.toList->Rel B γ s w ->
   ∃ γ' v cv s' w',(e b).run P w=.ok cv w'/\ah γ' v cv/\fK B γ s w γ' s' w'/\Rel B γ' s' w'/\R v s'):aa P g args s R:=by
 intro B γ b w k h2;obtain ⟨γ',v,cv,s',w',hr,hv,hd,hr',l⟩:=h B γ b w k h2;refine .inr ⟨cv,w',?_,γ',v,cv,s',rfl,hv,hd,hr',l⟩;rw [run_callFunc_extern d c hb i j,hr];rfl
theorem CM {P : Program} {T : TT} (hT : TT.Ok P T) {g : FuncId} {fn : Func} {t tR elem : TypeId} {size : Nat} (U : P.funcs[g]? = some fn) (i : (fn.name == "runtime.NumGoroutine") = false) (hb : fn.body.isNone = true) (W : Extern.findNext fn = none)
  (X:Extern.find fn=some (Extern.SlicesOverlaps.overlaps #[t,t] #[tR])) (hu:T.cQ t=some (.slice elem)) (hs:T.eP elem=some size)
  {s:AS} {la oa na ca lb ob nb cb:Nat} {ea eb:Bool} {C j:List AV} {O Y:Nat} {Z:Bool} (Q:s.h la=some (.cells C O false)) (hg:O≠1) (l:s.h lb=some (.cells j Y Z)) (D:j≠[]) (F:la≠lb) :
  aa P g [.slc (some (la,oa)) na ca ea,.slc (some (lb,ob)) nb cb eb] s fun v s'=>v=.bool false/\s'=s:=by
 refine aa.extern U i hb W X ?_;intro B γ k w c hr;obtain ⟨c1,r1,e1,R,c⟩:=aj.cD.1 c;obtain ⟨c2,r2,rfl,h2,c⟩:=aj.cD.1 c;obtain rfl:=aj.gS.1 c;simp only [ah] at R h2;obtain ⟨m,n,rfl⟩:=R;obtain ⟨o,p,rfl⟩:=h2;have G:k=#[.slice (some ⟨m.b,m.d+oa,none⟩) na (if ea then ca else ca+m.x),.slice (some ⟨o.b,o.d+ob,none⟩) nb (if eb then cb else cb+o.x)]:=by
  apply Array.ext';rw [e1]
 subst G;obtain ⟨ja,r,H,_⟩:=hr.obj la _ Q;rw [n] at r;obtain rfl:=Option.some.inj r;obtain ⟨jb,y,I,_⟩:=hr.obj lb _ l;rw [p] at y;obtain rfl:=Option.some.inj y;have z:m.b≠o.b:=fun e=>F (hr.inj la lb _ _ m o Q l rfl n p e);obtain ⟨cA,eA,ab,J,_,_,_,K⟩:=H;obtain ⟨S,eB,ad,hB,L,_⟩:=I;obtain rfl:=(K rfl).1 hg;have M:S.size≠0:=by
  cases j with
  | nil=>exact absurd rfl D
  | cons x xs =>
   obtain ⟨_,cv,A,_⟩:=L 0 x rfl;intro h0;rw [Array.getElem?_eq_none (by omega)] at A;cases A
 refine ⟨γ,.bool false,.bool false,s,w,?_,by simp [ah],fK.refl,hr,rfl,rfl⟩;exact Lib.run_overlaps_apart w t tR elem (hT.cQ t _ hu) size (run_sizeOf hT hs) _ _ _ _ _ _ z eA eB cA.size S.size (by simp [World.shape?,J]) (by simp [World.shape?,hB]) M (by simp [World.frozen?,J]) (by simp [World.frozen?,J])
theorem Oi {B:Nat} {γ γ':bN} {s s' s'':AS} {w w':World} (hd:fK B γ s w γ' s' w') (hr:Rel B γ' s' w') {F L:Nat} {O M:AO} {i i2:CI}
  (c:∀ k o,k≠F->s''.h k=some o->s'.h k=some o) (hF:s''.h F=some O) (X:s'.h L=some M) (am:O.ro=false) (m:M.ro=false) (n:L=F\/s''.h L=none) (hi:γ' L=some i) (A:i2.b=i.b) (hO:kN γ' w' i2 O)
  (Z:∃ k,F=s'.nl+k*s.st) (H:s''.st=s.st) (D:s''.nl=F+s.st) (Q:s''.lay=s.lay) (R:∀ l o,s''.cur.get l=some o->o.live=true->o.ro=true->s.cur.get l=some o) :
  Rel B (gT γ' F i2) s'' w'/\fK B γ s w (gT γ' F i2) s'' w':=by
 obtain ⟨k,hk⟩:=Z;have r:=hd.st;have ab:γ' F=none:=by rw [hk,<- r];exact hr.fin k
 have hle:bN.le γ' (gT γ' F i2):=bN.tH ab;have S:1<=s.st:=by rw [<- r];exact hr.Qq
 have U:∃ k,F=s.nl+k*s.st:=by
  obtain ⟨k',I⟩:=hd.nl;exact ⟨k'+k,by rw [hk,I,Nat.add_mul,Nat.add_assoc]⟩
 have W:∀ x j,x≠F->gT γ' F i2 x=some j->γ' x=some j:=by
  intro x j d h;simpa [gT,d] using h
 refine ⟨⟨fun x p z=>?_,fun x y p q a b z Y C G hb J=>?_,fun j=>?_,by rw [H];exact S,hr.base⟩,
  ⟨bN.le_trans hd.le hle,hd.Uc,hd.eP,fun x p a z C G=>?_,?_,H,Q,fun x h1 h2=>?_,R,hd.env⟩⟩
 ·by_cases d:x=F
  ·subst d;rw [hF] at z;obtain rfl:=Option.some.inj z;refine ⟨i2,bZ _ _ _,hO.mono hle,fun _=>?_⟩;obtain ⟨j,hj,_,hB⟩:=hr.obj L M X;rw [hi] at hj;obtain rfl:=Option.some.inj hj;rw [A];exact hB m
  ·obtain ⟨j,hj,ad,hB⟩:=hr.obj x p (c x p d z);exact ⟨j,hle _ _ hj,ad.mono hle,hB⟩
 ·by_cases d:x=F <;> by_cases K:y=F
  ·rw [d,K]
  ·exfalso;subst d;rw [bZ] at G;obtain rfl:=Option.some.inj G;have ae:=W y b K hb;have:=hr.inj L y M q i b X (c y q K Y) m hi ae (by rw [<- A];exact J);subst this;rcases n with h | h
   ·exact K h
   ·rw [h] at Y;cases Y
  ·exfalso;subst K;rw [bZ] at hb;obtain rfl:=Option.some.inj hb;have al:=W x a d G;have:=hr.inj x L p M a i (c x p d z) X C al hi (by rw [<- A];exact J);subst this;rcases n with h | h
   ·exact d h
   ·rw [h] at z;cases z
  ·exact hr.inj x y p q a b (c x p d z) (c y q K Y) C (W x a d G) (W y b K hb) J
 ·rw [D,H];have e:F+s.st+j*s.st=s'.nl+(k+(j+1))*s.st:=by rw [hk,Nat.add_mul,Nat.add_mul,Nat.one_mul];omega
  simp only [gT];rw [if_neg (by omega),e,<- r];exact hr.fin _
 ·by_cases d:x=F
  ·subst d;rw [bZ] at G;obtain rfl:=Option.some.inj G;rw [A];exact hd.new L M i X m hi
  ·exact hd.new x p a (c x p d z) C (W x a d G)
 ·obtain ⟨k',I⟩:=U;exact ⟨k'+1,by rw [D,I,Nat.add_mul,Nat.one_mul,Nat.add_assoc]⟩
 ·by_cases d:x=F
  ·rw [d];exact U
  ·exact hd.dom x h1 (by simpa [gT,d] using h2)
def AS.CN (s:AS) (l K:Nat) (o:AO):AS:={ s with cur:=(s.cur.set l .dead).set (s.nl+K*s.st) o,nl:=s.nl+K*s.st+s.st }
theorem AS.Bp (s:AS) (l K:Nat) {o:AO} (b:o.live=true) (x:Nat):(s.CN l K o).h x=if x=s.nl+K*s.st then some o else if x=l then none else s.h x:=by
 have c:(s.CN l K o).h x=((s.kill l).put (s.nl+K*s.st) o).h x:=rfl;rw [c,AS.nX _ _ b,AS.rN]
theorem aa.UJ {P : Program} {g : FuncId} {l o len cap n K sz : Nat} {cs cs' : List AV} {post : List AV} {s : AS} (hl : s.h l = some (.cells cs sz false)) (am : sz ≠ 0) (bl : o + cap * sz = cs.length)
    (h : ∀ x C, C.length = x * sz -> C.all AV.one = true -> (∀ k, s.h (s.nl + k * s.st) = none) -> aa P g (.slc (some (s.nl, o)) len (cap + x) true :: post) ((s.kill l).new (.cells (cs ++ C) sz false)) fun v s' =>
      (∃ k, k <= K /\ s'.nl = s.nl + k * s.st) /\ (∀ k ob, k ≠ l -> s.h k = some ob -> s'.h k = some ob) /\
      ((v = .slc (some (s.nl, o)) n (cap + x) true /\ n <= cap + x /\ ∃ D, s'.h s.nl = some (.cells D sz false) /\ D.length = cs.length + x * sz /\ (D.drop o).take (n * sz) = cs') \/
       (∃ L, v = .slc (some (L, 0)) n n false /\ s.h L = none /\ s'.h L = some (.cells cs' sz false) /\ cs'.length = n * sz))) :
    aa P g (.slc (some (l, o)) len cap false :: post) s fun v s' => v = .slc (some (s.nl + K * s.st, 0)) n n false /\ s' = s.CN l K (.cells cs' sz false) := by
  intro B γ G w U hr;obtain ⟨i, hi, hO, hB⟩ := hr.obj l _ hl;obtain ⟨c, e, fz, hb, hc, hf, hg, an⟩ := hO;obtain ⟨bm, a3⟩ := hg am;have W : ∀ j : Fin (i.x * sz), ∃ v, v.one = true /\ ∃ cv, c[i.d + cs.length + j.1]? = some cv /\ ah γ v cv := by
    intro j;obtain ⟨v, cv, y, h2, h3⟩ := a3 (i.d + cs.length + j.1) (by omega) (by have := j.2; omega);exact ⟨v, y, cv, h2, h3⟩
  let C : List AV := List.ofFn fun j => Classical.choose (W j)
  have X : C.length = i.x * sz := by simp [C]
  have ao : ∀ (k : Nat) v, C[k]? = some v -> v.one = true /\ ∃ cv, c[i.d + cs.length + k]? = some cv /\ ah γ v cv := by
    intro k v r;have Y : k < i.x * sz := by
      rcases Nat.lt_or_ge k (i.x * sz) with h | h
      · exact h
      · rw [List.getElem?_eq_none (by omega)] at r; cases r
    have : C[k]? = some (Classical.choose (W ⟨k, Y⟩)) := by simp [C, List.getElem?_ofFn, Y]
    rw [this] at r; obtain rfl := Option.some.inj r;exact Classical.choose_spec (W ⟨k, Y⟩)
  have a4 : C.all AV.one = true := by
    rw [List.all_eq_true];intro v hv;obtain ⟨k, r⟩ := List.mem_iff_getElem?.1 hv;exact (ao k v r).1
  have hle : bN.le γ (gT γ s.nl ⟨i.b, i.d, 0⟩) := bN.tH hr.JS;have a5 : kN (gT γ s.nl ⟨i.b, i.d, 0⟩) w ⟨i.b, i.d, 0⟩ (.cells (cs ++ C) sz false) := by
    refine ⟨c, e, fz, hb, fun k v r => ?_, hf, fun _ => ⟨by simp only [List.length_append, X]; omega, fun k y h2 => ?_⟩, an⟩
    · rw [List.getElem?_append] at r;split at r
      · obtain ⟨y, cv, h2, h3⟩ := hc k v r;exact ⟨y, cv, h2, h3.mono hle⟩
      · obtain ⟨y, cv, h2, h3⟩ := ao _ v r;exact ⟨y, cv, by rw [<- h2]; simp only; congr 1; omega, h3.mono hle⟩
    · simp only [List.length_append, X] at y;omega
  have a6 : w.heap = w.heap.setIfInBounds i.b (.cells c e fz) := by
    apply Array.ext_getElem?;intro k;rw [Array.getElem?_setIfInBounds];have a7 := kN.lt (γ := γ) (o := .cells cs sz false) ⟨c, e, fz, hb, hc, hf, hg, an⟩;by_cases r : i.b = k
    · subst r; rw [if_pos rfl, if_pos a7, hb]
    · rw [if_neg r]
  obtain ⟨a8, a9⟩ := hr.take (w' := w) hl rfl rfl hi (i' := ⟨i.b, i.d, 0⟩) (o' := .cells (cs ++ C) sz false) rfl a6 a5;obtain ⟨c1, r1, e1, y, J⟩ := aj.cD.1 U;simp only [ah, Bool.false_eq_true, if_false] at y;obtain ⟨i', ar, rfl⟩ := y;rw [hi] at ar; obtain rfl := Option.some.inj ar;have z : ∀ k, s.h (s.nl + k * s.st) = none := by
    intro k;cases Z : s.h (s.nl + k * s.st) with
    | none => rfl
    | some p =>
      obtain ⟨j, hj, _⟩ := hr.obj _ p Z;rw [hr.fin k] at hj; cases hj
  have M : aj (gT γ s.nl ⟨i.b, i.d, 0⟩) (.slc (some (s.nl, o)) len (cap + i.x) true :: post) G.toList := by
    rw [e1];exact aj.cons (by simp only [ah]; exact ⟨_, bZ _ _ _, by simp⟩) (J.mono hle)
  refine (h i.x C X a4 z B _ G w M a8).mono ?_;rintro e w' ⟨γ', v, cv, s', rfl, hv, hd, hr', ⟨k, bo, a'⟩, ab, ad⟩;have aw := a9.trans hd;have H : γ' s.nl = some ⟨i.b, i.d, 0⟩ := hd.le _ _ (bZ _ _ _);have O : ∃ k, s.nl + K * s.st = s'.nl + k * s.st := ⟨K - k, by rw [a', Nat.add_assoc, <- Nat.add_mul]; congr 2; omega⟩;have bs : s.h (s.nl + K * s.st) = none := z K;have Q : ∀ x ob, x ≠ s.nl + K * s.st -> (s.CN l K (.cells cs' sz false)).h x = some ob -> s'.h x = some ob := by
    intro x ob hx m;rw [AS.Bp _ _ _ rfl, if_neg hx] at m;split at m
    · cases m
    · rename_i ba; exact ab x ob ba m
  have R : ∀ x ob, (s.CN l K (.cells cs' sz false)).cur.get x = some ob -> ob.live = true -> ob.ro = true -> s.cur.get x = some ob := by
    intro x ob m y h2;simp only [AS.CN, Tr.q9] at m;split at m
    · obtain rfl := Option.some.inj m; cases h2
    · split at m
      · obtain rfl := Option.some.inj m; cases y
      · exact m
  have hF : (s.CN l K (.cells cs' sz false)).h (s.nl + K * s.st) = some (.cells cs' sz false) := by rw [AS.Bp _ _ _ rfl, if_pos rfl]
  rcases ad with ⟨rfl, hn, D, hL, bx, S⟩ | ⟨L, rfl, bb, hL, hlen⟩
  · obtain ⟨j, hj, ae, _⟩ := hr'.obj s.nl _ hL;rw [H] at hj; obtain rfl := Option.some.inj hj;obtain ⟨c2, e2, bc, a0, al, bd, be, a1⟩ := ae;obtain ⟨a2, _⟩ := be am;simp only at a0 al a2;have hmul : n * sz <= (cap + i.x) * sz := Nat.mul_le_mul_right _ hn;have bh : (cap + i.x) * sz = cap * sz + i.x * sz := Nat.add_mul _ _ _;have bi : (cap + i.x - n) * sz = (cap + i.x) * sz - n * sz := Nat.mul_sub_right_distrib _ _ _;have bj : cs'.length = n * sz := by rw [<- S, List.length_take, List.length_drop]; omega
    have bk : kN γ' w' ⟨i.b, i.d + o, cap + i.x - n⟩ (.cells cs' sz false) := by
      refine ⟨c2, e2, bc, a0, fun k v r => ?_, bd, fun _ => ⟨by simp only; omega, fun k y h2 => ?_⟩, a1⟩
      · rw [<- S, List.getElem?_take, List.getElem?_drop] at r;split at r
        · obtain ⟨y, cv, h2, h3⟩ := al _ v r;exact ⟨y, cv, by rw [<- h2]; simp only; congr 1; omega, h3⟩
        · cases r
      · simp only at y;obtain ⟨h3, cv, h4, h5⟩ := al (k - i.d) _ (List.getElem?_eq_getElem (show k - i.d < D.length by omega));exact ⟨_, cv, h3, by rw [<- h4]; congr 1; omega, h5⟩
    have A : s.nl = s.nl + K * s.st \/ (s.CN l K (.cells cs' sz false)).h s.nl = none := by
      by_cases Z : s.nl = s.nl + K * s.st
      · exact .inl Z
      · right;rw [AS.Bp _ _ _ rfl, if_neg Z];split
        · rfl
        · have := z 0; simpa using this
    obtain ⟨g1, g2⟩ := Oi (s'' := s.CN l K (.cells cs' sz false)) aw hr' (F := s.nl + K * s.st) (L := s.nl) Q hF hL rfl rfl A H (i2 := ⟨i.b, i.d + o, cap + i.x - n⟩) rfl bk O rfl rfl rfl R;simp only [ah, if_true] at hv;obtain ⟨i3, I, rfl⟩ := hv;rw [H] at I; obtain rfl := Option.some.inj I;refine ⟨_, _, _, _, rfl, ?_, g2, g1, rfl, rfl⟩;simp only [ah];refine ⟨_, bZ _ _ _, ?_⟩;simp only [Bool.false_eq_true, if_false, Nat.add_zero];rw [show n + (cap + i.x - n) = cap + i.x by omega]
  · obtain ⟨j, hj, ae, _⟩ := hr'.obj L _ hL;have A : L = s.nl + K * s.st \/ (s.CN l K (.cells cs' sz false)).h L = none := by
      by_cases Z : L = s.nl + K * s.st
      · exact .inl Z
      · right;rw [AS.Bp _ _ _ rfl, if_neg Z];split
        · rfl
        · exact bb
    obtain ⟨g1, g2⟩ := Oi (s'' := s.CN l K (.cells cs' sz false)) aw hr' (F := s.nl + K * s.st) (L := L) Q hF hL rfl rfl A hj (i2 := j) rfl ae O rfl rfl rfl R;simp only [ah, Bool.false_eq_true, if_false] at hv;obtain ⟨i3, I, rfl⟩ := hv;rw [hj] at I; obtain rfl := Option.some.inj I;refine ⟨_, _, _, _, rfl, ?_, g2, g1, rfl, rfl⟩;simp only [ah];exact ⟨_, bZ _ _ _, by simp⟩
end Go.Am
end

section
namespace Go.Am
open Go.ChangeShapes Go.WideShapes Go.Deep
/-! ### a table from a list -/
def Tr.VS {α:Type} (F:Nat->α):List Nat->Tr α
 | []=>.E
 | x::xs=>(Tr.VS F xs).set x (F x)
theorem Tr.Ie {α:Type} (F:Nat->α):∀ (l:List Nat) (x:Nat),(Tr.VS F l).get x=if x∈l then some (F x) else none
 | [],x=>by simp [Tr.VS,Tr.get]
 | y::ys,x=>by
  simp only [Tr.VS,Tr.q9,Tr.Ie F ys x,List.mem_cons];by_cases h:x=y
  ·subst h;simp
  ·simp [h]
def blockSize:Obj->Nat
 | .cells c _ _=>c.size
 | _=>0
def Ta:List Nat->Nat
 | []=>0
 | x::xs=>max x (Ta xs)
theorem Tb {l:List Nat} {x:Nat} (h:x∈l):x<=Ta l:=by
 induction l with
 | nil=>cases h
 | cons y ys b =>
  simp only [Ta];rcases List.mem_cons.1 h with rfl | h
  ·omega
  ·have:=b h;omega
def MW (w:World):Nat:=Ta (w.heap.toList.map blockSize)+1
theorem Uk {w:World} {b:Nat} {c:Array Value} {e:TypeId} {fz:Nat×Nat} (h:w.heap[b]? = some (.cells c e fz)):c.size<MW w:=by
 have:c.size∈w.heap.toList.map blockSize:=by
  rw [List.mem_map];refine ⟨.cells c e fz,?_,rfl⟩;rw [List.mem_iff_getElem?];exact ⟨b,by simpa using h⟩
 have:=Tb this;unfold MW;omega
mutual
def gl (n M:Nat):Value->AV
 | .bool b=>.bool b
 | .int k x=>.int k x
 | .string s=>.str s.data.toList
 | .pointer none=>.ptr none
 | .pointer (some ⟨b,o,none⟩)=>if b<n/\o<M then .ptr (some (b*M+o,0)) else .bad
 | .slice none x y=>.slc none x y true
 | .slice (some ⟨b,o,none⟩) x y=>if b<n/\0<M then (if o<M then .slc (some (b*M+o,0)) x y true else .slc (some (b*M,o)) x y true) else if x=0 then .emp else .bad
 | .slice (some ⟨_,_,some _⟩) x _=>if x=0 then .emp else .bad
 | .map none=>.map none
 | .agg ⟨l⟩=>.agg (Ey n M l)
 | .nilFunc=>.nilFunc
 | .nilIface=>.nilIface
 | _=>.bad
def Ey (n M:Nat):List Value->List AV
 | []=>[]
 | v::vs=>gl n M v::Ey n M vs
end
theorem G_ (n M:Nat):∀ l,Ey n M l=l.map (gl n M)
 | []=>rfl
 | v::vs=>by simp [Ey,G_ n M vs]
def gW (n M:Nat):bN:=fun x=>if x<n*M then some ⟨x / M,x % M,0⟩ else none
theorem DP {b o M:Nat} (h:o<M):(b*M+o) / M=b/\(b*M+o) % M=o:=by
 rw [Nat.mul_comm];constructor
 ·rw [Nat.mul_add_div (by omega),Nat.div_eq_of_lt h,Nat.add_zero]
 ·rw [Nat.mul_add_mod,Nat.mod_eq_of_lt h]
theorem Q7 {b o n M:Nat} (hb:b<n) (h:o<M):b*M+o<n*M:=by
 have:(b+1)*M<=n*M:=Nat.mul_le_mul_right _ hb;rw [Nat.add_mul,Nat.one_mul] at this;omega
theorem Q8 {b o n M:Nat} (hb:b<n) (h:o<M):gW n M (b*M+o)=some ⟨b,o,0⟩:=by
 simp only [gW,if_pos (Q7 hb h),(DP h).1,(DP h).2]
mutual
theorem Kz (n M:Nat):∀ v,ah (gW n M) (gl n M v) v
 | .bool b=>by simp [gl,ah]
 | .int k x=>by simp [gl,ah]
 | .string s=>by simp [gl,ah]
 | .pointer none=>by simp [gl,ah]
 | .pointer (some ⟨b,o,none⟩)=>by
  simp only [gl]
  split
  ·rename_i h;simp only [ah];exact ⟨_,Q8 h.1 h.2,rfl⟩
  ·simp [ah]
 | .pointer (some ⟨b,o,some _⟩)=>by simp [gl,ah]
 | .slice none x y=>by simp [gl,ah]
 | .slice (some ⟨b,o,none⟩) x y=>by
  simp only [gl]
  split
  ·rename_i h
   split
   ·rename_i h2;simp only [ah];exact ⟨_,Q8 h.1 h2,by simp⟩
   ·simp only [ah];exact ⟨_,Q8 (o:=0) h.1 h.2,by simp⟩
  ·split
   ·rename_i h;subst h;simp only [ah];exact ⟨_,_,rfl⟩
   ·simp [ah]
 | .slice (some ⟨b,o,some _⟩) x y=>by
  simp only [gl]
  split
  ·rename_i h;subst h;simp only [ah];exact ⟨_,_,rfl⟩
  ·simp [ah]
 | .map none=>by simp [gl,ah]
 | .map (some _)=>by simp [gl,ah]
 | .agg ⟨l⟩=>by simp only [gl,ah];exact ⟨⟨l⟩,rfl,Bq n M l⟩
 | .nilFunc=>by simp [gl,ah]
 | .nilIface=>by simp [gl,ah]
 | .func _ _ _=>by simp [gl,ah]
 | .iface _ _=>by simp [gl,ah]
 | .tuple _=>by simp [gl,ah]
 | .float _ _=>by simp [gl,ah]
 | .complex _ _ _=>by simp [gl,ah]
 | .chan _=>by simp [gl,ah]
theorem Bq (n M:Nat):∀ l,aj (gW n M) (Ey n M l) l
 | []=>by simp [Ey,aj]
 | v::vs=>by simp only [Ey];exact aj.cons (Kz n M v) (Bq n M vs)
end
def win (w:World) (c:Array Value) (o:Nat):List AV:=((c.toList.drop o).map (gl w.heap.size (MW w))).takeWhile AV.one
def UK (w:World) (x:Nat):AO:=match w.heap[x / MW w]? with
 | some (.cells c _ _)=>.cells (win w c (x % MW w)) 0 true
 | _=>.dead
def sW (w:World):AS:={ lay:=[Tr.VS (UK w) (List.range (w.heap.size*MW w))],cur:=.E,nl:=w.heap.size*MW w,st:=1 }
theorem UL {w:World} {x:Nat} {o:AO} (h:(sW w).h x=some o):x<w.heap.size*MW w/\∃ c e fz,w.heap[x / MW w]? = some (.cells c e fz)/\o=.cells (win w c (x % MW w)) 0 true:=by
 simp only [AS.h,sW,Tr.get,HN,Tr.Ie,List.mem_range] at h;by_cases b:x<w.heap.size*MW w
 ·refine ⟨b,?_⟩;rw [if_pos b] at h;simp only [UK] at h;cases hb:w.heap[x / MW w]? with
  | none=>rw [hb] at h;cases h
  | some ob =>
   rw [hb] at h;cases ob with
   | cells c e fz =>
    simp only [AO.Us,Option.some.injEq] at h;exact ⟨c,e,fz,rfl,h.symm⟩
   | _=>cases h
 ·rw [if_neg b] at h;cases h
theorem VT {w:World} {b o:Nat} {c:Array Value} {e:TypeId} {fz:Nat×Nat} (hb:w.heap[b]? = some (.cells c e fz)) (j:o<=c.size):At (sW w) (b*MW w+o) (win w c o):=by
 have k:=Uk hb;have d:b<w.heap.size:=by
  rcases Nat.lt_or_ge b w.heap.size with h | h
  ·exact h
  ·rw [Array.getElem?_eq_none h] at hb;cases hb
 have i:=Q7 d (show o<MW w by omega);refine ⟨0,true,?_⟩;simp only [AS.h,sW,Tr.get,HN,Tr.Ie,List.mem_range,if_pos i,UK,(DP (show o<MW w by omega)).1,(DP (show o<MW w by omega)).2,hb,AO.Us]
theorem xV {p:AV->Bool}:∀ (l:List AV) (k:Nat) (v:AV),(l.takeWhile p)[k]? = some v->p v=true/\l[k]? = some v
 | [],k,v,h=>by simp at h
 | a::l,k,v,h=>by
  rw [List.takeWhile_cons] at h;split at h
  ·rename_i b;cases k with
   | zero=>simp at h;subst h;exact ⟨b,rfl⟩
   | succ k=>simp at h;simpa using xV l k v h
  ·simp at h
theorem vM {p:AV->Bool}:∀ (l:List AV) (N:Nat),(∀ v∈l.take N,p v=true)->(l.takeWhile p).take N=l.take N
 | l,0,_=>by simp
 | [],N+1,_=>by simp
 | a::l,N+1,h=>by
  have b:p a=true:=h a (by simp);rw [List.takeWhile_cons,if_pos b,List.take_succ_cons,List.take_succ_cons,vM l N fun v hv=>h v (by simp [hv])]
theorem chunks (l:List AV) (sz:Nat):∀ n,l.take (n*sz)=((List.range n).map fun i=>(l.drop (i*sz)).take sz).flatten
 | 0=>by simp
 | n+1=>by
  rw [Nat.add_mul,Nat.one_mul,List.take_add,chunks l sz n,List.range_succ,List.map_append,List.flatten_append];simp
theorem UM (w:World):Rel w.heap.size (gW w.heap.size (MW w)) (sW w) w:=by
 refine ⟨fun x o h=>?_,fun x y o o' i i' h n b=>?_,fun j=>?_,Nat.le_refl 1,Nat.le_refl _⟩
 ·obtain ⟨d,c,e,fz,hb,rfl⟩:=UL h;refine ⟨⟨x / MW w,x % MW w,0⟩,by simp only [gW,if_pos d],⟨c,e,fz,hb,fun k v l=>?_,(fun h=>by cases h),(fun h=>absurd rfl h),(fun h=>by cases h)⟩,(fun h=>by cases h)⟩;obtain ⟨m,h2⟩:=xV _ _ _ l;refine ⟨m,?_⟩;rw [List.getElem?_map,List.getElem?_drop,Option.map_eq_some_iff] at h2;obtain ⟨cv,h3,rfl⟩:=h2;exact ⟨cv,by simpa using h3,Kz _ _ _⟩
 ·obtain ⟨_,c,e,fz,_,rfl⟩:=UL h;cases b
 ·simp only [gW,sW,Nat.mul_one];rw [if_neg (by omega)]
/-! ### data of flat types -/
inductive LK where
 | int (k:IntKind)
 | bool
 | str
def Ig:LK->AV->Prop
 | .int k,v=>∃ n,v=.int k n/\k.min<=n/\n<=k.max
 | .bool,v=>∃ b,v=.bool b
 | .str,v=>∃ b,v=.str b/\b.length<=maxLen
def eH:List LK->List AV->Prop
 | [],[]=>True
 | k::ks,v::vs=>Ig k v/\eH ks vs
 | _,_=>False
theorem Ig.one {k:LK} {v:AV} (h:Ig k v):v.one=true:=by
 cases k
 ·obtain ⟨n,rfl,_⟩:=h;rfl
 ·obtain ⟨n,rfl⟩:=h;rfl
 ·obtain ⟨n,rfl,_⟩:=h;rfl
theorem eH.one:∀ {ks:List LK} {vs:List AV},eH ks vs->∀ v∈vs,v.one=true
 | [],[],_,v,hv=>by cases hv
 | [],_::_,h,_,_=>h.elim
 | _::_,[],h,_,_=>h.elim
 | k::ks,u::vs,h,v,hv=>by
  rcases List.mem_cons.1 hv with rfl | hv
  ·exact h.1.one
  ·exact eH.one h.2 v hv
theorem eH.append:∀ {ks b:List LK} {vs c:List AV},eH ks vs->eH b c->eH (ks++b) (vs++c)
 | [],_,[],_,_,d=>by simpa using d
 | [],_,_::_,_,h,_=>h.elim
 | _::_,_,[],_,h,_=>h.elim
 | k::ks,_,v::vs,_,h,d=>⟨h.1,eH.append h.2 d⟩
def KA (P:Program) (rec:TypeId->Option (List LK)):List Field->Nat->Option (List LK)
 | [],_=>some []
 | f::fs,o=>(rec f.type).bind fun ks=>if f.offset=o/\P.cellsOf f.type=ks.length then (KA P rec fs (o+ks.length)).map (ks++·) else none
def Cw (P:Program):Nat->TypeId->Option (List LK)
 | 0,_=>none
 | d+1,t=>match P.underlying t with
  | some .bool=>some [.bool]
  | some (.int k)=>some [.int k]
  | some .string=>some [.str]
  | some (.struct fs)=>(KA P (Cw P d) fs.toList 0).bind fun ks=>if P.cellsOf t=ks.length then some ks else none
  | some (.array n e)=>(Cw P d e).bind fun ks=>if P.cellsOf e=ks.length/\P.cellsOf t=n*ks.length then some (List.replicate n ks).flatten else none
  | _=>none
section
variable {H:Type} {enc:TypeId×Value->H} {P:Program} {w:World} {base:Nat} {spare:Nat->Bool} {held:Bool}
theorem Pa:∀ (d:Nat) (t:TypeId) (ks:List LK) (fuel:Nat) (cs:List Value) (x:DataW H×List MemPlace) (n M:Nat),Cw P d t=some ks->DataW.trod enc P w base spare held fuel t cs=some x->eH ks (cs.map (gl n M)):=by
 intro d
 induction d with
 | zero=>intro t ks fuel cs x n M h;simp [Cw] at h
 | succ d Y =>
  intro t ks fuel cs x n M h ht;unfold Cw at h;split at h
  ·rename_i hu;obtain rfl:=Option.some.inj h;obtain ⟨b,rfl,_⟩:=DataW.trod_bool hu ht;exact ⟨⟨b,by simp [gl]⟩,trivial⟩
  ·rename_i k hu;obtain rfl:=Option.some.inj h;obtain ⟨b,rfl,_,C⟩:=DataW.trod_int hu ht;simp only [Lit.wf,Bool.and_eq_true,decide_eq_true_eq] at C;exact ⟨⟨b,by simp [gl],C⟩,trivial⟩
  ·rename_i hu;obtain rfl:=Option.some.inj h;obtain ⟨b,rfl,_,Z⟩:=DataW.trod_string hu ht;exact ⟨⟨b.data.toList,by simp [gl],by simpa using Z⟩,trivial⟩
  ·rename_i fs hu;obtain ⟨xs,m,rfl,_,hlen,D,F⟩:=DataW.trod_struct hu ht;simp only [Option.bind_eq_some_iff] at h;obtain ⟨K,L,h⟩:=h;split at h
   ·rename_i G;obtain rfl:=Option.some.inj h;have key:∀ (l:List Field) (o:Nat) (ks:List LK),KA P (Cw P d) l o=some ks->(∀ f∈l,∃ y,DataW.trod enc P w base spare held m f.type ((cs.drop f.offset).take (P.cellsOf f.type))=some y)->o+ks.length<=cs.length->eH ks (((cs.drop o).take ks.length).map (gl n M)):=by
     intro l
     induction l with
     | nil=>intro o ks h _ _;simp only [KA] at h;obtain rfl:=Option.some.inj h;simp [eH]
     | cons f l O =>
      intro o ks h c hle;simp only [KA,Option.bind_eq_some_iff] at h;obtain ⟨p,r,h⟩:=h;split at h
      ·rename_i Q;obtain ⟨z,A⟩:=Q;simp only [Option.map_eq_some_iff] at h;obtain ⟨k2,R,rfl⟩:=h;obtain ⟨y,J⟩:=c f (by simp);have I:=Y _ _ _ _ _ n M r J;rw [z,A] at I;rw [List.length_append] at hle;have S:=O (o+p.length) k2 R (fun f F=>c f (by simp [F])) (by omega);have:=I.append S;rw [List.length_append,List.take_add,List.map_append,List.drop_drop];exact this
      ·cases h
    have c:∀ f∈fs.toList,∃ y,DataW.trod enc P w base spare held m f.type ((cs.drop f.offset).take (P.cellsOf f.type))=some y:=by
     intro f U;obtain ⟨i,hi⟩:=List.mem_iff_getElem?.1 U;have B:fs[i]? = some f:=by simpa using hi
     have W:i<xs.length:=by
      rw [D];rcases Nat.lt_or_ge i fs.size with h | h
      ·exact h
      ·rw [Array.getElem?_eq_none h] at B;cases B
     exact ⟨_,(F i f B).trans (List.getElem?_eq_getElem W)⟩
    have:=key fs.toList 0 K L c (by rw [hlen,G];omega);rw [List.drop_zero,List.take_of_length_le (by rw [hlen,G];exact Nat.le_refl _)] at this;exact this
   ·cases h
  ·rename_i len e hu;obtain ⟨xs,m,rfl,_,hlen,D,F⟩:=DataW.trod_array hu ht;simp only [Option.bind_eq_some_iff] at h;obtain ⟨p,r,h⟩:=h;split at h
   ·rename_i Q;obtain ⟨z,A⟩:=Q;obtain rfl:=Option.some.inj h;have key:∀ (j i:Nat),i+j=len->eH (List.replicate j p).flatten (((cs.drop (i*p.length)).take (j*p.length)).map (gl n M)):=by
     intro j
     induction j with
     | zero=>intro i _;simp [eH]
     | succ j X =>
      intro i ab;have J:=F i (by omega);rw [List.getElem?_eq_getElem (by omega)] at J;have I:=Y _ _ _ _ _ n M r J;rw [z] at I;have S:=X (i+1) (by omega);have:=I.append S;rw [List.replicate_succ,List.flatten_cons];have e1:(j+1)*p.length=p.length+j*p.length:=by rw [Nat.add_mul,Nat.one_mul,Nat.add_comm]
      rw [e1,List.take_add,List.map_append,List.drop_drop];have e2:i*p.length+p.length=(i+1)*p.length:=by rw [Nat.add_mul,Nat.one_mul]
      rw [e2];exact this
    have:=key len 0 (by omega);rw [Nat.zero_mul,List.drop_zero,List.take_of_length_le (by rw [hlen,A];exact Nat.le_refl _)] at this;exact this
   ·cases h
  ·cases h
theorem Pb {t e:TypeId} {d:Nat} {ks:List LK} (hu:P.underlying t=some (.slice e)) (Y:Cw P d e=some ks) (R:P.cellsOf e=ks.length) (X:0<ks.length) {v:Value} {y:DataW H} {ps:List MemPlace}
  (hv:Value.okWide P w .any base t v) (h:DataW.Trod enc P w 0 (fun _=>true) true t v y ps) :
  ∃ C:List (List AV),bX (sW w) (gl w.heap.size (MW w) v) ks.length C.flatten C.length/\(∀ c∈C,eH ks c)/\C.length<=maxLen:=by
 obtain ⟨fuel,h⟩:=h;rcases open_slice hu h with ⟨z,_⟩ | ⟨a,len,cap,m,n,D,Pl,z,hb,Z,hm,uR,_,hx⟩
 ·have F:v=.slice none 0 0:=by
   cases v with
   | agg l=>exfalso;unfold Value.okWide at hv;rw [hu] at hv;simp only [Cell.okWide,hu,Cell.ok] at hv
   | _=>first | (simp [Value.cells] at z;done) | simpa [Value.cells] using z
  subst F;exact ⟨[],by simp only [gl,List.flatten_nil,List.length_nil];exact bX.nil,by simp,by simp⟩
 ·have F:v=.slice (some a) len cap:=by
   cases v with
   | agg l=>exfalso;unfold Value.okWide at hv;rw [hu] at hv;simp only [Cell.okWide,hu,Cell.ok] at hv
   | _=>first | (simp [Value.cells] at z;done) | simpa [Value.cells] using z
  subst F;simp only [if_true] at uR;subst uR;have K:w.has P .any base a e m:=by
   unfold Value.okWide at hv;rw [hu] at hv;simp only [Cell.okWide,hu,Cell.ok] at hv;exact hv.2.2
  obtain ⟨_,A,row,cells,p,_⟩:=K;obtain ⟨b,o,sp⟩:=a;simp only at A;subst A;obtain ⟨c,Q,fz,k⟩:∃ c Q fz,w.heap[b]? = some (.cells c Q fz):=by
   unfold World.shape? at p;split at p
   ·rename_i c Q fz k;exact ⟨c,Q,fz,k⟩
   ·cases p
  have L:b<w.heap.size:=by
   rcases Nat.lt_or_ge b w.heap.size with h | h
   ·exact h
   ·rw [Array.getElem?_eq_none h] at k;cases k
  have ab:=Uk k;have B:∀ i,i<m->∃ G,G=((c.toList.drop (o+i*ks.length)).take ks.length)/\G.length=ks.length/\eH ks (G.map (gl w.heap.size (MW w))):=by
   intro i hi;obtain ⟨cs',x,h2⟩:=hx i hi;rw [R] at x;obtain ⟨_,hlen,I⟩:=World.cells?_some x;have M:cs'=(c.toList.drop (o+i*ks.length)).take ks.length:=by
    apply List.ext_getElem?;intro j;rw [List.getElem?_take,List.getElem?_drop];split
    ·rename_i hj;rw [<- I j hj];simp only [World.cell?];have r:(((⟨b,o,none⟩:Addr).add (i*ks.length)).add j).block=b/\(((⟨b,o,none⟩:Addr).add (i*ks.length)).add j).off=o+i*ks.length+j/\(((⟨b,o,none⟩:Addr).add (i*ks.length)).add j).spot=none:=by
      unfold Addr.add;by_cases S:i*ks.length=0 <;> by_cases x:j=0 <;> simp [S,x]
     rw [r.1,r.2.1,r.2.2,k];simp
    ·rw [List.getElem?_eq_none (by omega)]
   exact ⟨cs',M,hlen,Pa d e ks n cs' _ _ _ Y h2⟩
  refine ⟨(List.range len).map fun i=>((c.toList.drop (o+i*ks.length)).take ks.length).map (gl w.heap.size (MW w)),?_,?_,?_⟩
  ·rw [List.length_map,List.length_range];by_cases S:len=0
   ·subst S;simp only [List.range_zero,List.map_nil,List.flatten_nil];simp only [gl];rw [if_pos ⟨L,by omega⟩];split <;> exact bX.nil
   ·have ho:o<c.size:=by
     obtain ⟨G,x,h2,_⟩:=B 0 (by omega);have:=congrArg List.length x;rw [h2,List.length_take,List.length_drop,Nat.zero_mul,Nat.add_zero,show c.toList.length=c.size from Array.length_toList] at this;omega
    simp only [gl];rw [if_pos ⟨L,by omega⟩,if_pos (by omega)];have U:((List.range len).map fun i=>((c.toList.drop (o+i*ks.length)).take ks.length).map (gl w.heap.size (MW w))).flatten=((c.toList.drop o).map (gl w.heap.size (MW w))).take (len*ks.length):=by
     rw [chunks];congr 1;apply List.map_congr_left;intro i _;rw [List.map_take,<- List.map_drop,List.drop_drop]
    have O:∀ v∈((c.toList.drop o).map (gl w.heap.size (MW w))).take (len*ks.length),v.one=true:=by
     intro v hv;rw [<- U] at hv;obtain ⟨cc,J,W⟩:=List.mem_flatten.1 hv;obtain ⟨i,hi,rfl⟩:=List.mem_map.1 J;obtain ⟨G,x,_,h3⟩:=B i (by have:=List.mem_range.1 hi;omega);rw [x] at h3;exact h3.one v W
    refine bX.mk (VT k (by omega)) ?_ ?_ Z
    ·rw [U,List.length_take,List.length_map,List.length_drop,show c.toList.length=c.size from Array.length_toList];obtain ⟨G,x,h2,_⟩:=B (len - 1) (by omega);have:=congrArg List.length x;rw [h2,List.length_take,List.length_drop,show c.toList.length=c.size from Array.length_toList] at this;have e:(len - 1)*ks.length+ks.length=len*ks.length:=by
      rw [<- Nat.succ_mul];congr 1;omega
     omega
    ·rw [List.drop_zero];unfold win;rw [vM _ _ O,U]
  ·intro cc J;obtain ⟨i,hi,rfl⟩:=List.mem_map.1 J;obtain ⟨G,x,_,h3⟩:=B i (by have:=List.mem_range.1 hi;omega);rw [x] at h3;exact h3
  ·rw [List.length_map,List.length_range];omega
end
end Go.Am
end
