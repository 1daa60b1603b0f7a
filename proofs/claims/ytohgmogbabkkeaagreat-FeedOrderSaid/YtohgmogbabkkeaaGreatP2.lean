/-
  A part of QX proof: an abstract machine CF QX model, and qO of qP of this program CF it.
-/
import Derived.Attr
import Derived.ProofKit
import Derived.Lib.Overlaps
import Derived.OpenShut
import Derived.Deep.Slices
import Derived.Test.YtohgmogbabkkeaaGreatP1
set_option linter.unusedVariables false
set_option linter.unusedSimpArgs false
set_option linter.unusedSectionVars false
namespace Go.Am
section
def Ext (s s':AS):Prop:=(∀ l o,s.h l=some o->s'.h l=some o)/\s.nl<=s'.nl
theorem Ext.refl (s:AS):Ext s s:=⟨fun _ _ h=>h,Nat.le_refl _⟩
theorem Ext.trans {a b c:AS} (h:Ext a b) (d:Ext b c):Ext a c:=⟨fun l o e=>d.1 l o (h.1 l o e),Nat.le_trans h.2 d.2⟩
def aJ (s:AS):Prop:=1<=s.st/\∀ k,s.h (s.nl+k*s.st)=none
theorem Rel.N9 {B:Nat} {γ:bT} {s:AS} {w:World} (h:Rel B γ s w):aJ s:=by
 refine ⟨h.Su,fun k=>?_⟩;cases b:s.h (s.nl+k*s.st) with
 | none=>rfl
 | some p =>
  obtain ⟨j,hj,_⟩:=h.obj _ p b;rw [h.fin k] at hj;cases hj
def mQ:Op->Bool
 | .move _ | .assign _ | .pick .. | .nilCheck _ | .binOp .. | .unOp .. | .fieldAddr .. | .field .. | .indexAddr .. | .index .. | .slice .. | .extract .. | .load .. | .lookup .. | .makeInterface .. | .makeFunc .. | .convert .. | .build ..=>true
 | .call c=>match c.callee with
  | .builtin .len | .builtin .cap | .builtin .max | .builtin .min=>true
  | _=>false
 | _=>false
theorem Qa {s s':AS} (h:Ext s s') {l o n:Nat} {cs:List AV} (hr:aD s l o n=some cs):aD s' l o n=some cs:=by
 unfold aD at hr ⊢;cases b:s.h l with
 | none=>simp [b] at hr
 | some x=>rw [h.1 l x b];rw [b] at hr;exact hr
theorem u7 {s s':AS} (h:Ext s s') {l o:Nat} {v:AV} (hr:ak s l o=some v):ak s' l o=some v:=by
 unfold ak at hr ⊢;cases b:s.h l with
 | none=>simp [b] at hr
 | some x=>rw [h.1 l x b];rw [b] at hr;exact hr
theorem U1 {s s':AS} (h:Ext s s') {T:TT} {t:TypeId} {p v:AV} (hr:HY T t s p=some v):HY T t s' p=some v:=by
 unfold HY at hr ⊢;split at hr
 ·rename_i l o;split at hr
  ·rename_i c;cases hs:T.eZ t with
   | none=>simp [hs] at hr
   | some n =>
    simp only [hs,Option.bind_some,Option.map_eq_some_iff] at hr ⊢;obtain ⟨cs,b,e⟩:=hr;exact ⟨cs,Qa h b,e⟩
  ·rename_i c;exact u7 h hr
  ·cases hr
 ·cases hr
theorem Q6 {s s':AS} (h:Ext s s') {T:TT} {t:TypeId} {x v:AV} (hr:aL T t x s=some v):aL T t x s'=some v:=by
 unfold aL at hr ⊢;split at hr <;> try (first | exact hr | (cases hr;done))
 rename_i l _;cases b:s.h l with
 | none=>simp [b] at hr
 | some o=>rw [h.1 l o b];rw [b] at hr;exact hr
theorem CJ {T:TT} {op:Op} (p:mQ op=true) {ρ:Operand->AV} {s s':AS} {v:AV} (D:1<=s.st) (h:cO T op ρ s=some (v,s)) (k:Ext s s'):cO T op ρ s'=some (v,s'):=by
 cases op <;> (first | (cases p;done) | skip)
 case move x=>simp only [cO] at h ⊢;simpa using h
 case assign x=>simp only [cO] at h ⊢;simpa using h
 case pick c a b=>simp only [cO] at h ⊢;split at h <;> simp_all
 case build t parts=>simp only [cO,Option.map_eq_some_iff] at h ⊢;obtain ⟨u,hu,e⟩:=h;exact ⟨u,hu,by simp_all⟩
 case load t x=>simp only [cO,Option.map_eq_some_iff] at h ⊢;obtain ⟨u,hu,e⟩:=h;exact ⟨u,U1 k hu,by simp_all⟩
 case nilCheck x=>simp only [cO] at h ⊢;split at h <;> simp_all
 case binOp op t x y H =>
  simp only [cO] at h ⊢;split at h
  ·rename_i F;rw [if_pos F];simp only [Option.map_eq_some_iff] at h ⊢;obtain ⟨u,hu,e⟩:=h;exact ⟨u,hu,by simp_all⟩
  ·cases h
 case unOp op t x=>simp only [cO,Option.map_eq_some_iff] at h ⊢;obtain ⟨u,hu,e⟩:=h;exact ⟨u,hu,by simp_all⟩
 case convert src dst x =>
  simp only [cO] at h ⊢;unfold cY at h ⊢;split at h
  ·simp_all
  ·simp_all
  ·split at h
   ·simp only [Option.some.injEq,Prod.mk.injEq] at h;have:s.nl+s.st=s.nl:=congrArg AS.nl h.2;omega
   ·cases h
  ·split at h
   ·split at h <;> simp_all
   ·cases h
  ·split at h <;> simp_all
  ·split at h
   ·rename_i hu;split at h
    ·rename_i j;rw [if_pos j];simp only [Option.some.injEq,Prod.mk.injEq] at h ⊢;exact ⟨h.1,trivial⟩
    rename_i j;rw [if_neg j];simp only [Option.bind_eq_some_iff,Option.map_eq_some_iff] at h ⊢;obtain ⟨cs,w,bs,z,e⟩:=h;exact ⟨cs,Qa k w,bs,z,by simp_all⟩
   ·cases h
  ·split at h
   ·rename_i A;rw [if_pos A];split at h
    ·rename_i hu n;rw [hu,k.1 _ _ n];simp only [Option.some.injEq,Prod.mk.injEq] at h ⊢;exact ⟨h.1,trivial⟩
    ·cases h
   ·cases h
  ·cases h
 case makeInterface t x=>simp only [cO] at h ⊢;split at h <;> simp_all
 case makeFunc fn first captured =>
  cases fn with
  | func g=>simp only [cO] at h ⊢;split at h <;> simp_all
  | _=>simp [cO] at h
 case slice t x lo hi I=>simp only [cO,Option.map_eq_some_iff] at h ⊢;obtain ⟨u,hu,e⟩:=h;exact ⟨u,hu,by simp_all⟩
 case fieldAddr t x f=>simp only [cO,Option.map_eq_some_iff] at h ⊢;obtain ⟨u,hu,e⟩:=h;exact ⟨u,hu,by simp_all⟩
 case field t x f=>simp only [cO,Option.map_eq_some_iff] at h ⊢;obtain ⟨u,hu,e⟩:=h;exact ⟨u,hu,by simp_all⟩
 case indexAddr t x ix=>simp only [cO,Option.map_eq_some_iff] at h ⊢;obtain ⟨u,hu,e⟩:=h;exact ⟨u,hu,by simp_all⟩
 case index t x ix=>simp only [cO,Option.map_eq_some_iff] at h ⊢;obtain ⟨u,hu,e⟩:=h;exact ⟨u,hu,by simp_all⟩
 case lookup t x ix ok =>
  simp only [cO,Option.map_eq_some_iff] at h ⊢;obtain ⟨u,hu,e⟩:=h;refine ⟨u,?_,by simp_all⟩;unfold dA at hu ⊢;split at hu
  ·rename_i kt et r ht _;split at hu
   ·rename_i B;rw [if_pos B];simp only [Option.bind_eq_some_iff] at hu ⊢;obtain ⟨es,d,rest⟩:=hu;refine ⟨es,?_,rest⟩;cases r with
    | none=>exact d
    | some l =>
     simp only at d ⊢;cases n:s.h l with
     | none=>simp [n] at d
     | some o=>rw [k.1 l o n];rw [n] at d;exact d
   ·cases hu
  ·cases hu
 case extract t i =>
  simp only [cO] at h ⊢;split at h
  ·rename_i vs G;simp only [Option.map_eq_some_iff] at h ⊢;obtain ⟨u,hu,e⟩:=h;exact ⟨u,hu,by simp_all⟩
  ·cases h
 case call c =>
  simp only [mQ] at p;simp only [cO] at h ⊢;cases C:c.callee with
  | value x=>simp [C] at h
  | invoke x m=>simp [C] at h
  | builtin b =>
   simp only [C] at h p ⊢;generalize c.argTypes.toList=ts at h ⊢;generalize c.args.toList.map ρ=args at h ⊢;cases b <;> first | (cases p;done) | skip
   ·cases ts with
    | nil=>simp [er] at h
    | cons t ts =>
     cases args with
     | nil=>simp [er] at h
     | cons x xs =>
      simp only [er,Option.map_eq_some_iff] at h ⊢;obtain ⟨u,hu,e⟩:=h;exact ⟨u,hu,by simp_all⟩
   ·cases ts with
    | nil=>simp [er] at h
    | cons t ts =>
     cases args with
     | nil=>simp [er] at h
     | cons x xs =>
      simp only [er,Option.map_eq_some_iff] at h ⊢;obtain ⟨u,hu,e⟩:=h;exact ⟨u,Q6 k hu,by simp_all⟩
   ·simp only [er,Option.map_eq_some_iff] at h ⊢;obtain ⟨u,hu,e⟩:=h;exact ⟨u,hu,by simp_all⟩
   ·simp only [er,Option.map_eq_some_iff] at h ⊢;obtain ⟨u,hu,e⟩:=h;exact ⟨u,hu,by simp_all⟩
def iH (ops:Array Oper) (j i:Nat):Bool:=((Region.before ops).getD i 0).testBit j
theorem LY (acc:Array Nat) (j:Nat):∀ (l:List Edge) (s:Nat),(l.foldl (fun s e=>if Region.binds .any e then s ||| 2 ^ e.on ||| acc.getD e.on 0 else s) s).testBit j=true ->
  s.testBit j=true\/∃ e∈l,Region.binds .any e=true/\(e.on=j\/(acc.getD e.on 0).testBit j=true)
 | [],s,h=>.inl h
 | e::l,s,h=>by
  simp only [List.foldl_cons] at h;rcases LY acc j l _ h with b | ⟨e',c,h2⟩
  ·split at b
   ·rename_i hb;simp only [Nat.testBit_or,Bool.or_eq_true] at b;rcases b with (b | b) | b
    ·exact .inl b
    ·refine .inr ⟨e,by simp,hb,.inl ?_⟩;rw [Nat.testBit_two_pow] at b;simpa using b
    ·exact .inr ⟨e,by simp,hb,.inr b⟩
   ·exact .inl b
  ·exact .inr ⟨e',by simp [c],h2⟩
theorem D1 (j:Nat):∀ (l:List Oper) (acc:Array Nat),
  let r:=l.foldl (fun acc o=>acc.push (o.after.foldl (fun s e=>if Region.binds .any e then s ||| 2 ^ e.on ||| acc.getD e.on 0 else s) 0)) acc
  (∀ i,i<acc.size->r.getD i 0=acc.getD i 0)/\(∀ (k:Nat) o,l[k]? = some o->(r.getD (acc.size+k) 0).testBit j=true ->
   ∃ e∈o.after.toList,Region.binds .any e=true/\(e.on=j\/(e.on<acc.size+k/\(r.getD e.on 0).testBit j=true)))/\r.size=acc.size+l.length
 | [],acc=>by simp
 | o::l,acc=>by
  simp only [List.foldl_cons];obtain ⟨c,h2,h3⟩:=D1 j l (acc.push (o.after.foldl (fun s e=>if Region.binds .any e then s ||| 2 ^ e.on ||| acc.getD e.on 0 else s) 0));generalize hr:l.foldl (fun acc o=>acc.push (o.after.foldl (fun s e=>if Region.binds .any e then s ||| 2 ^ e.on ||| acc.getD e.on 0 else s) 0)) (acc.push (o.after.foldl (fun s e=>if Region.binds .any e then s ||| 2 ^ e.on ||| acc.getD e.on 0 else s) 0))=r at c h2 h3;simp only [Array.size_push] at c h2 h3;have hold:∀ i,i<acc.size->r.getD i 0=acc.getD i 0:=by
   intro i hi;rw [c i (by omega)];simp only [Array.getD_eq_getD_getElem?,Array.getElem?_push];rw [if_neg (by omega)]
  refine ⟨hold,fun k o' w hb=>?_,by simp only [List.length_cons];omega⟩;cases k with
  | zero =>
   obtain rfl:o=o':=by simpa using w
   rw [Nat.add_zero,c acc.size (by omega)] at hb;simp only [Array.getD_eq_getD_getElem?,Array.getElem?_push,if_true,Option.getD_some] at hb;rw [<- Array.foldl_toList] at hb;have d:(o.after.toList.foldl (fun s e=>if Region.binds .any e then s ||| 2 ^ e.on ||| acc.getD e.on 0 else s) 0).testBit j=true:=by
    simpa only [Array.getD_eq_getD_getElem?] using hb
   rcases LY acc j _ _ d with h | ⟨e,m,b,h⟩
   ·simp at h
   ·refine ⟨e,m,b,?_⟩;rcases h with h | h
    ·exact .inl h
    ·right;have n:e.on<acc.size:=by
      rcases Nat.lt_or_ge e.on acc.size with p | p
      ·exact p
      ·simp [Array.getD_eq_getD_getElem?,Array.getElem?_eq_none p] at h
     exact ⟨by omega,by rw [hold _ n];exact h⟩
  | succ k =>
   have:=h2 k o' (by simpa using w) (by rw [show acc.size+1+k=acc.size+(k+1) by omega];exact hb);obtain ⟨e,m,b,h⟩:=this;exact ⟨e,m,b,h.imp id fun ⟨x,hb⟩=>⟨by omega,hb⟩⟩
theorem Oo {ops:Array Oper} {j i:Nat} {o:Oper} (b:ops[i]? = some o) (h:iH ops j i=true):∃ e∈o.after.toList,Region.binds .any e=true/\(e.on=j\/(e.on<i/\iH ops j e.on=true)):=by
 obtain ⟨_,h2,_⟩:=D1 j ops.toList #[];have hb:Region.before ops=ops.toList.foldl (fun acc o=>acc.push (o.after.foldl (fun s e=>if Region.binds .any e then s ||| 2 ^ e.on ||| acc.getD e.on 0 else s) 0)) #[]:=by
  unfold Region.before;rw [<- Array.foldl_toList]
 unfold iH at h ⊢;rw [hb] at h ⊢;have:=h2 i o (by simpa using b) (by simpa using h);simpa using this
def Down (ops:Array Oper) (listed:Array Bool):Prop:=∀ (i:Nat) o,ops[i]? = some o->listed.getD i false=true->∀ e∈o.after.toList,Region.binds .any e=true->listed.getD e.on false=true
theorem jU {ops:Array Oper} {listed:Array Bool} (hd:Down ops listed) {j:Nat}:∀ (i:Nat) (o:Oper),ops[i]? = some o->(∀ e∈o.after.toList,Region.binds .any e=true->listed.getD e.on false=true)->iH ops j i=true->listed.getD j false=true:=by
 intro i
 induction i using Nat.strongRecOn with
 | _ i m =>
  intro o k l n;obtain ⟨e,c,hb,h⟩:=Oo k n;rcases h with rfl | ⟨d,h⟩
  ·exact l e c hb
  ·have p:=l e c hb;cases b:ops[e.on]? with
   | none =>
    have hi:i<ops.size:=by
     rcases Nat.lt_or_ge i ops.size with h | h
     ·exact h
     ·simp [Array.getElem?_eq_none h] at k
    rw [Array.getElem?_eq_getElem (by omega)] at b;cases b
   | some o'=>exact m e.on d o' b (hd e.on o' b p) h
def CK (P:Program) (T:TT) (o:Oper) (f:Fr) (s:AS) (R:AV->AS->Prop):Prop :=
 match fq f o.op with
 | some (g,args)=>aa P g args s R
 | none=>∃ v s',cO T o.op (pW f) s=some (v,s')/\R v s'
theorem mq {P:Program} {T:TT} {n:Nat} {o:Oper} {f:Fr} {s:AS} {R:AV->AS->Prop} {K:Fr->AS->Prop} (hd:eu n o.dst=true) (h:CK P T o f s R) (c:∀ v s',R v s'->K (bU f o.dst v) s'):Gl P T n o f s K:=by
 refine ⟨hd,.inl ?_⟩;unfold CK at h;split
 ·rename_i g args b;rw [b] at h;exact h.mono c
 ·rename_i b;rw [b] at h;obtain ⟨v,s',d,h2⟩:=h;exact ⟨v,s',d,c _ _ h2⟩
abbrev kM:=List (Nat×(AS->Prop))
def keyOf (f:Fr) (o:Oper):List AV:=o.op.operands.toList.map (pW f)
section
variable (P:Program) (T:TT) (n:Nat) (ops:Array Oper) (A:List (List Nat)) (H:List Nat) (V:Nat->List AV->AV->Prop) (S:Nat->List AV->AV->AS->Prop) (X:AS->AS->Prop) (C:Nat->List AV->AV->AS->Prop) (M:List Nat) (s:AS)
def nV (i:Nat) (k:List AV) (v:AV) (c:AS->Prop):AS->Prop:=if M.contains i then C i k v else c
def sV (i:Nat) (o:Oper) (f:Fr) (F:kM) (c:AS->Prop) (K':Fr->kM->(AS->Prop)->Prop):Prop :=
 eu n o.dst=true /\
 match dB ops f o with
 | none=>False
 | some false=>M.contains i=false/\K' (bU f o.dst .undef) F c
 | some true =>
  if H.contains i then
   (∀ s',X s s'->aJ s'->(∀ p∈F,(A.getD i []).contains p.1=true->p.2 s')->(M.contains i=true->c s')->CK P T o f s' fun v s''=>(if M.contains i then X s' s''/\C i (keyOf f o) v s'' else Ext s' s'')/\S i (keyOf f o) v s''/\V i (keyOf f o) v) /\
   (∃ v,V i (keyOf f o) v)/\∀ v,V i (keyOf f o) v->K' (bU f o.dst v) (F++[(i,S i (keyOf f o) v)]) (nV C M i (keyOf f o) v c)
  else M.contains i=false/\mQ o.op=true/\∃ v,(cO T o.op (pW f) s=some (v,s)/\∀ s',X s s'->aJ s'->cO T o.op (pW f) s'=some (v,s'))/\K' (bU f o.dst v) F c
def dq (K:Fr->AS->Prop):List Nat->Fr->kM->(AS->Prop)->Prop
 | [],f,F,c=>∀ s',X s s'->aJ s'->(∀ p∈F,p.2 s')->c s'->(H=[]->s'=s)->K f s'
 | i::b,f,F,c=>match ops[i]? with
  | some o=>sV P T n ops A H V S X C M s i o f F c (dq K b)
  | none=>False
abbrev X1 (K:Fr->AS->Prop) (b:List Nat) (f:Fr) (F:kM):=dq P T n ops A H V S Ext (fun _ _ _ _=>True) [] s K b f F (fun _=>True)
end
section
variable {P:Program} {T:TT} {n:Nat} {ops:Array Oper} {A:List (List Nat)} {H:List Nat} {V:Nat->List AV->AV->Prop} {S:Nat->List AV->AV->AS->Prop} {X:AS->AS->Prop} {C:Nat->List AV->AV->AS->Prop} {M:List Nat} {s:AS} {K:Fr->AS->Prop}
theorem sV.mono {i:Nat} {o:Oper} {f:Fr} {F:kM} {c:AS->Prop} {j K2:Fr->kM->(AS->Prop)->Prop} (h:sV P T n ops A H V S X C M s i o f F c j) (d:∀ f F c,j f F c->K2 f F c):sV P T n ops A H V S X C M s i o f F c K2:=by
 obtain ⟨hd,h⟩:=h;refine ⟨hd,?_⟩;split
 ·rename_i b;rw [b] at h;exact h
 ·rename_i b;rw [b] at h;exact ⟨h.1,d _ _ _ h.2⟩
 ·rename_i b;rw [b] at h;simp only at h;split
  ·rename_i e;rw [if_pos e] at h;exact ⟨h.1,h.2.1,fun v hv=>d _ _ _ (h.2.2 v hv)⟩
  ·rename_i e;rw [if_neg e] at h;obtain ⟨h0,k,v,h2,h3⟩:=h;exact ⟨h0,k,v,h2,d _ _ _ h3⟩
theorem AT {K K':Fr->AS->Prop} (e:∀ f s,K f s->K' f s):∀ (b:List Nat) (f:Fr) (F:kM) (c:AS->Prop),dq P T n ops A H V S X C M s K b f F c->dq P T n ops A H V S X C M s K' b f F c
 | [],f,F,c,h=>fun s' j h2 h3 h4 k=>e _ _ (h s' j h2 h3 h4 k)
 | i::b,f,F,c,h=>by
  simp only [dq] at h ⊢;split
  ·rename_i o d;rw [d] at h;exact sV.mono h fun f F c l=>AT e b f F c l
  ·rename_i d;rw [d] at h;exact h
theorem AU:∀ (d:List Nat) (f:Fr) (F F':kM) (c:AS->Prop),(∀ p,p∈F↔p∈F')->dq P T n ops A H V S X C M s K d f F c->dq P T n ops A H V S X C M s K d f F' c
 | [],f,F,F',c,e,h=>fun s' k b hp=>h s' k b fun p hm=>hp p ((e p).1 hm)
 | i::d,f,F,F',c,e,h=>by
  simp only [dq] at h ⊢;cases m:ops[i]? with
  | none=>rw [m] at h;exact h
  | some o =>
   rw [m] at h;obtain ⟨hd,h⟩:=h;refine ⟨hd,?_⟩;split
   ·rename_i j;rw [j] at h;exact h
   ·rename_i j;rw [j] at h;exact ⟨h.1,AU d _ F F' _ e h.2⟩
   ·rename_i j;rw [j] at h;simp only at h;split
    ·rename_i l;rw [if_pos l] at h;refine ⟨fun s' k b hp=>h.1 s' k b fun p hm=>hp p ((e p).1 hm),h.2.1,fun v hv=>AU d _ _ _ _ ?_ (h.2.2 v hv)⟩;intro p;simp [e]
    ·rename_i l;rw [if_neg l] at h;obtain ⟨h0,r,v,h2,h3⟩:=h;exact ⟨h0,r,v,h2,AU d _ F F' _ e h3⟩
theorem Q7 {T:TT} {op:Op} {ρ d:Operand->AV} (h:∀ x∈op.operands,ρ x=d x) (s:AS):cO T op ρ s=cO T op d s:=by
 have w:∀ (l:List Operand),(∀ x∈l,ρ x=d x)->l.map ρ=l.map d:=fun l w=>List.map_congr_left w;have z:∀ (o:Option Operand),(∀ x∈o,ρ x=d x)->o.map ρ=o.map d:=by
  intro o z;cases o with
  | none=>rfl
  | some x=>simp [z x (by simp)]
 have hp:∀ (l:List (Nat×Operand)),(∀ x∈l.map (·.2),ρ x=d x)->(l.map fun p=>(p.1,ρ p.2))=(l.map fun p=>(p.1,d p.2)):=by
  intro l w;refine List.map_congr_left fun p hm=>?_;rw [w p.2 (List.mem_map.2 ⟨p,hm,rfl⟩)]
 cases op with
 | move x=>simp only [cO,h x (by simp [Op.operands])]
 | assign x=>simp only [cO,h x (by simp [Op.operands])]
 | pick c a b=>simp only [cO,h c (by simp [Op.operands]),h a (by simp [Op.operands]),h b (by simp [Op.operands])]
 | box t x=>simp only [cO,h x (by simp [Op.operands])]
 | load t x=>simp only [cO,h x (by simp [Op.operands])]
 | nilCheck x=>simp only [cO,h x (by simp [Op.operands])]
 | unOp o t x=>simp only [cO,h x (by simp [Op.operands])]
 | convert t u x=>simp only [cO,h x (by simp [Op.operands])]
 | makeInterface t x=>simp only [cO,h x (by simp [Op.operands])]
 | fieldAddr t x f=>simp only [cO,h x (by simp [Op.operands])]
 | field t x f=>simp only [cO,h x (by simp [Op.operands])]
 | extract x i=>simp only [cO,h x (by simp [Op.operands])]
 | range t x=>simp only [cO,h x (by simp [Op.operands])]
 | entry x=>simp only [cO,h x (by simp [Op.operands])]
 | sliceToArrayPointer t x=>simp only [cO,h x (by simp [Op.operands])]
 | build t ps=>simp only [cO];rw [hp ps.toList (by intro x e;exact h x (by simpa [Op.operands] using e))]
 | buildSlice t n ps=>simp only [cO];rw [hp ps.toList (by intro x e;exact h x (by simpa [Op.operands] using e))]
 | store t a v=>simp only [cO,h a (by simp [Op.operands]),h v (by simp [Op.operands])]
 | binOp o t a v u=>simp only [cO,h a (by simp [Op.operands]),h v (by simp [Op.operands])]
 | makeSlice t a v=>simp only [cO,h a (by simp [Op.operands]),h v (by simp [Op.operands])]
 | indexAddr t a v=>simp only [cO,h a (by simp [Op.operands]),h v (by simp [Op.operands])]
 | index t a v=>simp only [cO,h a (by simp [Op.operands]),h v (by simp [Op.operands])]
 | lookup t a v ok=>simp only [cO,h a (by simp [Op.operands]),h v (by simp [Op.operands])]
 | mapUpdate t m k v=>simp only [cO,h m (by simp [Op.operands]),h k (by simp [Op.operands]),h v (by simp [Op.operands])]
 | insert t m k v=>simp only [cO,h m (by simp [Op.operands]),h k (by simp [Op.operands]),h v (by simp [Op.operands])]
 | slice t x lo hi A =>
  simp only [cO,h x (by simp [Op.operands])];rw [z lo (by intro y j;exact h y (by simp [Op.operands];simp at j;simp [j])),z hi (by intro y j;exact h y (by simp [Op.operands];simp at j;simp [j])),z A (by intro y j;exact h y (by simp [Op.operands];simp at j;simp [j]))]
 | makeFunc fn first captured =>
  cases fn with
  | func g=>simp only [cO];rw [w captured.toList (by intro x e;exact h x (by simp only [Op.operands,Array.mem_append];exact .inr (by simpa using e))),w first.toList (by intro x e;exact h x (by simp only [Op.operands,Array.mem_append];exact .inl (by simpa using e)))]
  | _=>rfl
 | makeMap t r=>cases r <;> rfl
 | call c =>
  simp only [cO];cases B:c.callee with
  | builtin b =>
   simp only;rw [w c.args.toList (by intro x e;exact h x (by simp only [Op.operands,Call.operands,B,Array.mem_append];exact .inr (by simpa using e)))]
  | _=>rfl
 | _=>rfl
theorem LZ {f:Fr} {d:Option Nat} {v:AV} {x:Operand} (h:∀ t,d=some t->x≠.tmp t):pW (bU f d v) x=pW f x:=by
 cases x with
 | tmp t =>
  cases d with
  | none=>rfl
  | some d=>simp only [pW,bU];exact SA f v (fun e=>h d rfl (by rw [e]))
 | _=>cases d <;> rfl
theorem fC {o:Oper} {f:Fr} {d:Option Nat} {v:AV} (h:∀ t,d=some t->t ∉ o.looksAt ops):dB ops (bU f d v) o=dB ops f o/\fq (bU f d v) o.op=fq f o.op/\∀ s,cO T o.op (pW (bU f d v)) s=cO T o.op (pW f) s:=by
 have b:∀ x∈o.op.operands,pW (bU f d v) x=pW f x:=by
  intro x i;refine LZ fun t ht e=>h t ht ?_;subst e;simp only [Oper.looksAt,List.mem_append,List.mem_filterMap];exact .inl ⟨.tmp t,by simpa using i,rfl⟩
 refine ⟨?_,?_,?_⟩
 ·unfold dB;cases l:o.guard with
  | none=>rfl
  | some p =>
   obtain ⟨j,want⟩:=p;simp only;cases hd:(ops[j]?).bind (·.dst) with
   | none=>rfl
   | some t =>
    simp only;have ht:bU f d v t=f t:=by
     cases d with
     | none=>rfl
     | some d =>
      simp only [bU];refine SA f v fun e=>h d rfl ?_;subst e;simp only [Oper.looksAt,List.mem_append,l,hd];right;simp
    rw [ht]
 ·unfold fq;cases m:o.op <;> try rfl
  rename_i c;simp only;rw [m] at b;cases k:c.callee with
  | value x =>
   simp only;have i:=b x (by simp [Op.operands,Call.operands,k]);have n:c.args.toList.map (pW (bU f d v))=c.args.toList.map (pW f):=by
    refine List.map_congr_left fun y r=>b y ?_;simp only [Op.operands,Call.operands,k,Array.mem_append];exact .inr (by simpa using r)
   rw [i,n]
  | _=>rfl
 ·intro s
  revert b
  generalize pW (bU f d v)=ρ;generalize pW f=w;intro b;exact Q7 b s
theorem rj {o:Oper} {f:Fr} {d:Option Nat} {v:AV} (h:∀ t,d=some t->t ∉ o.looksAt ops):keyOf (bU f d v) o=keyOf f o:=by
 refine List.map_congr_left fun x b=>LZ fun t ht e=>h t ht ?_;subst e;simp only [Oper.looksAt,List.mem_append,List.mem_filterMap];exact .inl ⟨.tmp t,by simpa using b,rfl⟩
theorem CL {f:Fr} {d e:Option Nat} {u v:AV} (h:∀ t,d=some t->e≠some t):bU (bU f d u) e v=bU (bU f e v) d u:=by
 cases d with
 | none=>rfl
 | some d =>
  cases e with
  | none=>rfl
  | some e =>
   have b:e≠d:=fun x=>h d rfl (by rw [x]);funext t;simp only [bU,pq];by_cases c:t=e
   ·subst c;rw [if_pos rfl,if_neg b,if_pos rfl]
   ·rw [if_neg c];by_cases h2:t=d
    ·subst h2;rw [if_pos rfl,if_pos rfl]
    ·rw [if_neg h2,if_neg h2,if_neg c]
def U2 (ops:Array Oper) (A:List (List Nat)) (i j:Nat) (oi oj:Oper):Prop :=
 oi.apart ops oj=true/\(A.getD j []).contains i=false/\(A.getD i []).contains j=false
theorem xg {o:Oper} {f:Fr} {d:Option Nat} {v:AV} (h:∀ t,d=some t->t ∉ o.looksAt ops) {s:AS} {R:AV->AS->Prop}:CK P T o (bU f d v) s R↔CK P T o f s R:=by
 obtain ⟨_,h2,h3⟩:=fC (T:=T) (ops:=ops) (f:=f) (v:=v) h;unfold CK;rw [h2];constructor
 ·intro c;split at c
  ·exact c
  ·obtain ⟨v,s',a,b⟩:=c;exact ⟨v,s',by rw [<- h3];exact a,b⟩
 ·intro c;split at c
  ·exact c
  ·obtain ⟨v,s',a,b⟩:=c;exact ⟨v,s',by rw [h3];exact a,b⟩
theorem Oq {i j:Nat} (h:M.contains i=true->M.contains j=false) (k k':List AV) (v v':AV) (c:AS->Prop):nV C M i k v (nV C M j k' v' c)=nV C M j k' v' (nV C M i k v c):=by
 unfold nV;cases hi:M.contains i with
 | false=>simp
 | true=>rw [h hi];simp
theorem AW {j : Nat} {oj : Oper} (U : ops[j]? = some oj) : ∀ (pre post : List Nat) (f : Fr) (F : kM) (c : AS -> Prop), (∀ i ∈ pre, ∀ oi, ops[i]? = some oi -> U2 ops A i j oi oj) -> (∀ i ∈ pre, M.contains i = true -> M.contains j = false) ->
    dq P T n ops A H V S X C M s K (pre ++ j :: post) f F c -> sV P T n ops A H V S X C M s j oj f F c (dq P T n ops A H V S X C M s K (pre ++ post))
  | [], post, f, F, c, _, _, h => by simpa only [List.nil_append, dq, U] using h
  | i :: pre, post, f, F, c, J, am, h => by
    simp only [List.cons_append, dq] at h ⊢;cases Y : ops[i]? with
    | none => rw [Y] at h; exact h.elim
    | some oi =>
      rw [Y] at h;simp only at h;obtain ⟨ar, aw, a5⟩ := J i (by simp) oi Y;obtain ⟨r, a0, Z⟩ := Oper.apart_spec ar;have z : ∀ i ∈ pre, ∀ oi, ops[i]? = some oi -> U2 ops A i j oi oj := fun i hi => J i (List.mem_cons_of_mem _ hi);have L : ∀ i ∈ pre, M.contains i = true -> M.contains j = false := fun i hi => am i (List.mem_cons_of_mem _ hi);have O := am i (by simp);have a1 : ∀ k v, M.contains i = false -> ∀ c, nV C M i k v c = c := fun k v h c => by simp only [nV, h, Bool.false_eq_true, if_false]
      have back : ∀ (u : AV) (B : kM) (c2 : AS -> Prop), (∀ p ∈ B, (A.getD j []).contains p.1 = true -> p ∈ F) -> (M.contains j = true -> c2 = c) -> ∀ K1 K2 : Fr -> kM -> (AS -> Prop) -> Prop,
          sV P T n ops A H V S X C M s j oj (bU f oi.dst u) B c2 K1 ->
          ((eu n oj.dst = true /\ dB ops f oj = some false /\ M.contains j = false) \/
           (eu n oj.dst = true /\ dB ops f oj = some true /\ H.contains j = true /\ (∀ s', X s s' -> aJ s' -> (∀ p ∈ F, (A.getD j []).contains p.1 = true -> p.2 s') -> (M.contains j = true -> c s') -> CK P T oj f s' fun v s'' => (if M.contains j then X s' s'' /\ C j (keyOf f oj) v s'' else Ext s' s'') /\ S j (keyOf f oj) v s'' /\ V j (keyOf f oj) v) /\ ∃ v, V j (keyOf f oj) v) \/
           (eu n oj.dst = true /\ dB ops f oj = some true /\ H.contains j = false /\ M.contains j = false /\ mQ oj.op = true /\ ∃ v, cO T oj.op (pW f) s = some (v, s) /\ ∀ s', X s s' -> aJ s' -> cO T oj.op (pW f) s' = some (v, s'))) := by
        intro u B c2 ab ad K1 K2 hs;obtain ⟨hd, hs⟩ := hs;obtain ⟨l1, l2, l3⟩ := fC (T := T) (ops := ops) (o := oj) (f := f) (d := oi.dst) (v := u) r;rw [l1, rj (ops := ops) r] at hs;cases w : dB ops f oj with
        | none => rw [w] at hs; exact hs.elim
        | some b =>
          rw [w] at hs;cases b with
          | false => exact .inl ⟨hd, rfl, hs.1⟩
          | true =>
            simp only at hs;by_cases y : H.contains j = true
            · rw [if_pos y] at hs;refine .inr (.inl ⟨hd, rfl, y, fun s' D G hp => ?_, hs.2.1⟩);exact fun hm => (xg r).1 (hs.1 s' D G (fun p hm hc => hp p (ab p hm hc) hc) fun hj => by rw [ad hj]; exact hm hj)
            · rw [if_neg y] at hs;obtain ⟨h0, h1, v, h2, _⟩ := hs;exact .inr (.inr ⟨hd, rfl, by simpa using y, h0, h1, v, by rw [<- l3]; exact h2.1, fun s' D w => by rw [<- l3]; exact h2.2 s' D w⟩)
      have li := fun (u : AV) => fC (T := T) (ops := ops) (o := oi) (f := f) (d := oj.dst) (v := u) Z;have I : ∀ u v, bU (bU f oi.dst u) oj.dst v = bU (bU f oj.dst v) oi.dst u := fun u v => CL a0;obtain ⟨ae, h⟩ := h;cases Q : dB ops f oi with
      | none => rw [Q] at h; exact h.elim
      | some bi =>
        rw [Q] at h;cases bi with
        | false =>
          simp only at h;obtain ⟨h0, h⟩ := h;have m := AW U pre post _ F c z L h;have x : ∀ v B c2, dq P T n ops A H V S X C M s K (pre ++ post) (bU (bU f oi.dst .undef) oj.dst v) B c2 -> sV P T n ops A H V S X C M s i oi (bU f oj.dst v) B c2 (dq P T n ops A H V S X C M s K (pre ++ post)) := by
            intro v B c2 y;refine ⟨ae, ?_⟩;rw [(li v).1, Q];simp only;rw [<- I]; exact ⟨h0, y⟩
          obtain ⟨l1, l2, l3⟩ := fC (T := T) (ops := ops) (o := oj) (f := f) (d := oi.dst) (v := .undef) r;obtain ⟨hd, m⟩ := m;refine ⟨hd, ?_⟩;rw [l1, rj (ops := ops) r] at m;cases w : dB ops f oj with
          | none => rw [w] at m; exact m
          | some b =>
            rw [w] at m;cases b with
            | false => exact ⟨m.1, x _ _ _ m.2⟩
            | true =>
              simp only at m ⊢;by_cases y : H.contains j = true
              · rw [if_pos y] at m ⊢;exact ⟨fun s' D G hp hm => (xg r).1 (m.1 s' D G hp hm), m.2.1, fun v hv => x _ _ _ (m.2.2 v hv)⟩
              · rw [if_neg y] at m ⊢;obtain ⟨al, h1, v, h2, h3⟩ := m;exact ⟨al, h1, v, ⟨by rw [<- l3]; exact h2.1, fun s' D w => by rw [<- l3]; exact h2.2 s' D w⟩, x _ _ _ h3⟩
        | true =>
          simp only at h;by_cases W : H.contains i = true
          · rw [if_pos W] at h;obtain ⟨hA, ⟨v0, an⟩, hK⟩ := h;have m := fun v hv => AW U pre post _ _ _ z L (hK v hv);have ab : ∀ v, ∀ p ∈ F ++ [(i, S i (keyOf f oi) v)], (A.getD j []).contains p.1 = true -> p ∈ F := by
              intro v p hp hc;rcases List.mem_append.1 hp with h | h
              · exact h
              · obtain rfl := List.mem_singleton.1 h;rw [aw] at hc; cases hc
            have x : ∀ v B c2, (∀ p ∈ F, p ∈ B) -> (M.contains i = true -> c2 = c) -> (∀ u, V i (keyOf f oi) u -> dq P T n ops A H V S X C M s K (pre ++ post) (bU (bU f oi.dst u) oj.dst v) (B ++ [(i, S i (keyOf f oi) u)]) (nV C M i (keyOf f oi) u c2)) ->
                sV P T n ops A H V S X C M s i oi (bU f oj.dst v) B c2 (dq P T n ops A H V S X C M s K (pre ++ post)) := by
              intro v B c2 a2 ad y;refine ⟨ae, ?_⟩;rw [(li v).1, Q, rj (ops := ops) Z];simp only;rw [if_pos W];exact ⟨fun s' D G hp hm => (xg Z).2 (hA s' D G (fun p hm hc => hp p (a2 p hm) hc) fun hi => by rw [<- ad hi]; exact hm hi), ⟨v0, an⟩, fun u hu => by rw [<- I]; exact y u hu⟩
            have l := fun (u : AV) => fC (T := T) (ops := ops) (o := oj) (f := f) (d := oi.dst) (v := u) r;have a3 : ∀ v, M.contains j = true -> nV C M i (keyOf f oi) v c = c := fun v hj => a1 _ _ (by
              cases hi : M.contains i with
              | false => rfl
              | true => rw [O hi] at hj; cases hj) c
            rcases back v0 _ _ (ab v0) (a3 v0) _ (fun _ _ _ => True) (m v0 an) with ⟨hd, w, R⟩ | ⟨hd, w, y, ao, a4⟩ | ⟨hd, w, y, R, hq, v, hv⟩
            · refine ⟨hd, ?_⟩;rw [w];refine ⟨R, x _ F c (fun _ h => h) (fun _ => rfl) fun u hu => ?_⟩;have := (m u hu).2;rw [(l u).1, w, rj (ops := ops) r] at this;exact this.2
            · refine ⟨hd, ?_⟩;rw [w];simp only;rw [if_pos y];refine ⟨ao, a4, fun v hv => x v _ _ (fun p hp => List.mem_append_left _ hp) (fun hi => by simp only [nV, O hi, Bool.false_eq_true, if_false]) fun u hu => ?_⟩;have := (m u hu).2;rw [(l u).1, w, rj (ops := ops) r] at this;simp only at this;rw [if_pos y] at this;rw [Oq O];refine AU _ _ _ _ _ ?_ (this.2.2 v hv);intro p;simp only [List.mem_append, List.mem_singleton];constructor
              · rintro ((h | h) | h)
                · exact .inl (.inl h)
                · exact .inr h
                · exact .inl (.inr h)
              · rintro ((h | h) | h)
                · exact .inl (.inl h)
                · exact .inr h
                · exact .inl (.inr h)
            · refine ⟨hd, ?_⟩;rw [w];simp only;rw [if_neg (by rw [y]; simp)];refine ⟨R, hq, v, hv, x v F c (fun _ h => h) (fun _ => rfl) fun u hu => ?_⟩;have := (m u hu).2;rw [(l u).1, w, rj (ops := ops) r] at this;simp only at this;rw [if_neg (by rw [y]; simp)] at this;obtain ⟨_, _, v', ⟨pY, _⟩, hk⟩ := this;rw [(l u).2.2, hv.1] at pY;have e : v = v' := by simpa using pY
              rw [e]; exact hk
          · rw [if_neg W] at h;obtain ⟨R, hq, u, hu, hK⟩ := h;have m := AW U pre post _ F c z L hK;have x : ∀ v B c2, dq P T n ops A H V S X C M s K (pre ++ post) (bU (bU f oi.dst u) oj.dst v) B c2 -> sV P T n ops A H V S X C M s i oi (bU f oj.dst v) B c2 (dq P T n ops A H V S X C M s K (pre ++ post)) := by
              intro v B c2 y;refine ⟨ae, ?_⟩;rw [(li v).1, Q];simp only;rw [if_neg W];exact ⟨R, hq, u, ⟨by rw [(li v).2.2]; exact hu.1, fun s' D w => by rw [(li v).2.2]; exact hu.2 s' D w⟩, by rw [<- I]; exact y⟩
            obtain ⟨l1, l2, l3⟩ := fC (T := T) (ops := ops) (o := oj) (f := f) (d := oi.dst) (v := u) r;obtain ⟨hd, m⟩ := m;refine ⟨hd, ?_⟩;rw [l1, rj (ops := ops) r] at m;cases w : dB ops f oj with
            | none => rw [w] at m; exact m
            | some b =>
              rw [w] at m;cases b with
              | false => exact ⟨m.1, x _ _ _ m.2⟩
              | true =>
                simp only at m ⊢;by_cases y : H.contains j = true
                · rw [if_pos y] at m ⊢;exact ⟨fun s' D G hp hm => (xg r).1 (m.1 s' D G hp hm), m.2.1, fun v hv => x _ _ _ (m.2.2 v hv)⟩
                · rw [if_neg y] at m ⊢;obtain ⟨al, h1, v, h2, h3⟩ := m;exact ⟨al, h1, v, ⟨by rw [<- l3]; exact h2.1, fun s' D w => by rw [<- l3]; exact h2.2 s' D w⟩, x _ _ _ h3⟩
def Gn (ops:Array Oper) (m:Nat) (A:List (List Nat)) (bs:List Nat):Bool :=
 decide (Region.before ops=bs.toArray)&&decide (m<=ops.size) &&
 (List.range ops.size).all fun i=>(ops[i]?).all (fun o=>o.after.toList.all fun e=>decide (e.on<i)||!Region.binds .any e) &&
  if m<=i then (List.range i).all fun j=>(bs.getD i 0).testBit j
  else ((A.getD i []).all fun j=>(bs.getD i 0).testBit j&&decide (j<i)) &&
   (List.range i).all fun j=>(bs.getD i 0).testBit j||((ops[j]?).any fun x=>(ops[i]?).any fun y=>x.apart ops y)
structure yD (ops:Array Oper) (m:Nat) (A:List (List Nat)):Prop where
 le:m<=ops.size
 back:∀ (i:Nat) o,ops[i]? = some o->∀ e∈o.after.toList,Region.binds .any e=true->e.on<i
 tail:∀ i,i<ops.size->m<=i->∀ j,j<i->iH ops j i=true
 Wx:∀ i,i<m->∀ j∈A.getD i [],iH ops j i=true/\j<i
 free:∀ i,i<m->∀ j,j<i->iH ops j i=true\/∃ x y,ops[j]? = some x/\ops[i]? = some y/\x.apart ops y=true
theorem I_ {ops:Array Oper} {m:Nat} {A:List (List Nat)} {bs:List Nat} (h:Gn ops m A bs=true):yD ops m A:=by
 simp only [Gn,Bool.and_eq_true,decide_eq_true_eq,List.all_eq_true,List.mem_range] at h;obtain ⟨⟨hb,hm⟩,h⟩:=h;have b:∀ j i,iH ops j i=(bs.getD i 0).testBit j:=by
  intro j i;unfold iH;rw [hb];simp [List.getD_eq_getElem?_getD]
 have d:∀ (i:Nat) o,ops[i]? = some o->i<ops.size:=by
  intro i o c;rcases Nat.lt_or_ge i ops.size with h | h
  ·exact h
  ·simp [Array.getElem?_eq_none h] at c
 refine ⟨hm,fun i o c e n k=>?_,fun i hi l j hj=>?_,fun i hi j hj=>?_,fun i hi j hj=>?_⟩
 ·have:=(h i (d i o c)).1;rw [c] at this;simp only [Option.all_some,List.all_eq_true,Bool.or_eq_true,decide_eq_true_eq] at this;rcases this e n with h | h
  ·exact h
  ·rw [k] at h;simp at h
 ·have:=(h i hi).2;rw [if_pos l] at this;rw [b];simp only [List.all_eq_true,List.mem_range] at this;exact this j hj
 ·have:=(h i (by omega)).2;rw [if_neg (by omega)] at this;simp only [Bool.and_eq_true,List.all_eq_true,decide_eq_true_eq] at this;rw [b];exact this.1 j hj
 ·have:=(h i (by omega)).2;rw [if_neg (by omega)] at this;simp only [Bool.and_eq_true,List.all_eq_true,List.mem_range,Bool.or_eq_true] at this;rcases this.2 j hj with h | h
  ·exact .inl (by rw [b];exact h)
  ·simp only [Option.any_eq_true] at h;obtain ⟨x,p,y,r,h⟩:=h;exact .inr ⟨x,y,p,r,h⟩
structure iO (ops:Array Oper) (listed:Array Bool) (p:Nat->Prop):Prop where
 size:listed.size=ops.size
 iff:∀ i,i<ops.size->(listed.getD i false=true↔p i)
theorem fu {ops:Array Oper} {listed:Array Bool} {p:Nat->Prop} (b:iO ops listed p) (i:Nat) :
  i∈Region.ready .any ops listed↔∃ o,ops[i]? = some o/\¬ p i/\∀ e∈o.after.toList,Region.binds .any e=true->listed.getD e.on false=true:=by
 unfold Region.ready;simp only [List.mem_filter,List.mem_range,Bool.and_eq_true,Bool.not_eq_true'];constructor
 ·rintro ⟨hi,c,h2⟩;refine ⟨ops[i],Array.getElem?_eq_getElem hi,?_,?_⟩
  ·intro hp;have:=(b.iff i hi).2 hp;simp only [Array.getD_eq_getD_getElem?] at c this;rw [Array.getElem?_eq_getElem (by rw [b.size];exact hi)] at c this;simp only [Option.getD_some] at c this;rw [c] at this;cases this
  ·intro e d hb;rw [Array.getElem?_eq_getElem hi] at h2;simp only [Option.map_some,Option.getD_some] at h2;have:=Array.all_eq_true'.1 h2 e (by simpa using d);rw [hb] at this;simpa using this
 ·rintro ⟨o,k,hp,h⟩;have hi:i<ops.size:=by
   rcases Nat.lt_or_ge i ops.size with h | h
   ·exact h
   ·simp [Array.getElem?_eq_none h] at k
  refine ⟨hi,?_,?_⟩
  ·cases j:listed.getD i true with
   | false=>rfl
   | true =>
    exfalso;apply hp;rw [<- b.iff i hi];simp only [Array.getD_eq_getD_getElem?] at j ⊢;rw [Array.getElem?_eq_getElem (by rw [b.size];exact hi)] at j ⊢;exact j
  ·rw [k];simp only [Option.map_some,Option.getD_some];rw [Array.all_eq_true'];intro e d;cases hb:Region.binds .any e with
   | false=>simp
   | true=>simp [h e (by simpa using d) hb]
theorem iO.set {ops:Array Oper} {listed:Array Bool} {p p':Nat->Prop} (b:iO ops listed p) {i:Nat} (hp:∀ j,p' j↔(j=i\/p j)):iO ops (listed.setIfInBounds i true) p':=by
 refine ⟨by simp [b.size],fun j hj=>?_⟩;simp only [Array.getD_eq_getD_getElem?];rw [Array.getElem?_setIfInBounds];have:=b.iff j hj;simp only [Array.getD_eq_getD_getElem?] at this;by_cases h:i=j
 ·subst h;simp [b.size,hj,hp]
 ·rw [if_neg h,hp,this];constructor
  ·exact .inr
  ·rintro (c | c)
   ·exact absurd c.symm h
   ·exact c
theorem iO.down {ops:Array Oper} {m:Nat} {A:List (List Nat)} (j:yD ops m A) {listed:Array Bool} {p:Nat->Prop} (c:iO ops listed p)
  (hp:∀ i,i<ops.size->p i->∀ o,ops[i]? = some o->∀ e∈o.after.toList,Region.binds .any e=true->p e.on):Down ops listed:=by
 intro i o b k e d hb;have hi:i<ops.size:=by
  rcases Nat.lt_or_ge i ops.size with h | h
  ·exact h
  ·simp [Array.getElem?_eq_none h] at b
 have l:=j.back i o b e d hb;exact (c.iff e.on (by omega)).2 (hp i hi ((c.iff i hi).1 k) o b e d hb)
theorem Gp (hT:TT.Ok P T) {m:Nat} (F:yD ops m A) {Q:Exit->Fr->AS->Prop} {B:Nat} {Gm:bT} {s0:AS} {w0:World}:∀ (fuel k:Nat) (listed:Array Bool) (f:Fr) (s:AS) (γ:bT) (a:Act) (w:World),
  m<=k->k<=ops.size->iO ops listed (·<k)->ops.size - k<=fuel->fI P T n ops (ops.toList.drop k) f s (fun f s=>Q .normal f s)->oh γ n f a->Rel B γ s w->gq B Gm s0 w0 γ s w ->
  wpAny P .any ops (v_ B Gm s0 w0 n Q) fuel listed a w:=by
 intro fuel
 induction fuel with
 | zero =>
  intro k listed f s γ a w hm K d hf h b hr hd;have r:k=ops.size:=by omega
  subst r;rw [List.drop_eq_nil_of_le (by simp)] at h;refine ⟨?_,γ,f,s,b,hd,hr,h⟩;rw [List.eq_nil_iff_forall_not_mem];intro i hi;obtain ⟨o,p,hp,_⟩:=(fu d i).1 hi;apply hp;rcases Nat.lt_or_ge i ops.size with h | h
  ·exact h
  ·simp [Array.getElem?_eq_none h] at p
 | succ fuel J =>
  intro k listed f s γ a w hm K d hf h b hr hd;rcases Nat.lt_or_ge k ops.size with x | L
  ·have G:ops.toList.drop k=ops[k]::ops.toList.drop (k+1):=by
    rw [List.drop_eq_getElem_cons (by simpa using x)];simp
   have y:ops[k]? = some ops[k]:=Array.getElem?_eq_getElem x;have l:∀ i,i∈Region.ready .any ops listed->i=k:=by
    intro i hi;obtain ⟨o,p,hp,C⟩:=(fu d i).1 hi;have H:i<ops.size:=by
     rcases Nat.lt_or_ge i ops.size with h | h
     ·exact h
     ·simp [Array.getElem?_eq_none h] at p
    rcases Nat.lt_trichotomy i k with h | h | h
    ·exact absurd h hp
    ·exact h
    ·exfalso;have z:=d.down F (fun i _ M o p e C hb=>by have:=F.back i o p e C hb;omega);have:=jU z i o p C (F.tail i H (by omega) k h);have:=(d.iff k x).1 this;omega
   refine ⟨fun c=>?_,fun i hi=>?_⟩
   ·exfalso;have:k∈Region.ready .any ops listed:=by
     refine (fu d k).2 ⟨_,y,by omega,fun e C hb=>?_⟩;have:=F.back k _ y e C hb;exact (d.iff e.on (by omega)).2 this
    rw [c] at this;cases this
   ·obtain rfl:=l i hi;rw [G] at h;simp only [fI] at h;have D:iO ops (listed.setIfInBounds i true) (·<i+1):=d.set fun j=>by omega
    unfold wpOp;rw [y];simp only;split at h
    ·rename_i I;rw [eJ b I,if_pos rfl];exact .inl (jT hT h b hr fun γ' f' s' a' w' O h2 h3 h4=>J (i+1) _ f' s' γ' a' w' (by omega) (by omega) D (by omega) h4 O h3 (hd.trans h2))
    ·rename_i I;rw [eJ b I,if_neg (by simp)];exact J (i+1) _ _ s γ _ w (by omega) (by omega) D (by omega) h.2 (b.put h.1 (pX γ)) hr hd
    ·exact h.elim
  ·have r:k=ops.size:=by omega
   subst r;rw [List.drop_eq_nil_of_le (by simp)] at h;have c:Region.ready .any ops listed=[]:=by
    rw [List.eq_nil_iff_forall_not_mem];intro i hi;obtain ⟨o,p,hp,_⟩:=(fu d i).1 hi;apply hp;rcases Nat.lt_or_ge i ops.size with h | h
    ·exact h
    ·simp [Array.getElem?_eq_none h] at p
   refine ⟨fun _=>⟨γ,f,s,b,hd,hr,h⟩,fun i hi=>?_⟩;rw [c] at hi;cases hi
theorem L4 (hT:TT.Ok P T) (ba:1<=s.st) {m:Nat} (K:yD ops m A) (hS:∀ i k v s s',Ext s s'->S i k v s->S i k v s') {Q:Exit->Fr->AS->Prop} {B:Nat} {Gm:bT} {s0:AS} {w0:World} :
  ∀ (fuel:Nat) (q:List Nat) (listed:Array Bool) (f:Fr) (F:kM) (s1:AS) (γ:bT) (a:Act) (w:World),
  q.Pairwise (·<·)->(∀ i∈q,i<m)->iO ops listed (fun i=>i<m/\i ∉ q)->q.length+(ops.size - m)<=fuel ->
  X1 P T n ops A H V S s (fun f s'=>fI P T n ops (ops.toList.drop m) f s' (fun f s=>Q .normal f s)) q f F->Ext s s1->(H=[]->s1=s)->(∀ p∈F,p.2 s1)->(∀ p∈F,∀ s s',Ext s s'->p.2 s->p.2 s') ->
  oh γ n f a->Rel B γ s1 w->gq B Gm s0 w0 γ s1 w->Down ops listed ->
  wpAny P .any ops (v_ B Gm s0 w0 n Q) fuel listed a w:=by
 intro fuel
 induction fuel with
 | zero =>
  intro q listed f F s1 γ a w j L J hf h l M hF r G hr hd z;obtain rfl:q=[]:=List.length_eq_zero_iff.1 (by omega);have hle:=K.le;refine Gp hT K 0 m listed f s1 γ a w (Nat.le_refl _) K.le ⟨J.size,fun i hi=>by rw [J.iff i hi];simp⟩ (by omega) (h s1 l hr.N9 hF trivial M) G hr hd
 | succ fuel ih =>
  intro q listed f F s1 γ a w j L J hf h l M hF r G hr hd z;have hle:=K.le;cases q with
  | nil=>exact Gp hT K (fuel+1) m listed f s1 γ a w (Nat.le_refl _) K.le ⟨J.size,fun i hi=>by rw [J.iff i hi];simp⟩ (by simpa using hf) (h s1 l hr.N9 hF trivial M) G hr hd
  | cons W q' =>
   refine ⟨fun ao=>?_,fun i hi=>?_⟩
   ·exfalso;have a0:=L W (by simp);have:W∈Region.ready .any ops listed:=by
     refine (fu J W).2 ⟨_,Array.getElem?_eq_getElem (by omega),by simp,fun e he hb=>?_⟩;have:=K.back W _ (Array.getElem?_eq_getElem (by omega)) e he hb;refine (J.iff e.on (by omega)).2 ⟨by omega,?_⟩;simp only [List.mem_cons,not_or];refine ⟨by omega,fun hm=>?_⟩;have:=(List.pairwise_cons.1 j).1 e.on hm;omega
    rw [ao] at this;cases this
   ·obtain ⟨o,ho,hp,he⟩:=(fu J i).1 hi;have a1:i<ops.size:=by
     rcases Nat.lt_or_ge i ops.size with h | h
     ·exact h
     ·simp [Array.getElem?_eq_none h] at ho
    have X:i<m:=by
     rcases Nat.lt_or_ge i m with h | h
     ·exact h
     ·exfalso;have a0:=L W (by simp);have:=jU z i o ho he (K.tail i a1 h W (by omega));have:=(J.iff W (by omega)).1 this;exact this.2 (by simp)
    have a2:i∈W::q':=by
     by_cases h:i∈W::q'
     ·exact h
     ·exact absurd ⟨X,h⟩ hp
    obtain ⟨pre,post,hq⟩:=List.append_of_mem a2;rw [hq] at h j L J hf;have ad:∀ k∈pre,k<i:=by
     intro k I;have:=(List.pairwise_append.1 j).2.2 k I i (by simp);exact this
    have al:∀ k∈pre,∀ ok,ops[k]? = some ok->U2 ops A k i ok o:=by
     intro k I ok O;have Y:=ad k I;have a3:k<ops.size:=by omega
     have ar:iH ops k i=false:=by
      cases a4:iH ops k i with
      | false=>rfl
      | true =>
       have:=jU z i o ho he a4;have:=(J.iff k a3).1 this;exact absurd (by simp [I]:k∈pre++i::post) this.2
     refine ⟨?_,?_,?_⟩
     ·rcases K.free i X k Y with h | ⟨x,y,hx,hy,h⟩
      ·rw [ar] at h;cases h
      ·rw [O] at hx;rw [ho] at hy;obtain rfl:=Option.some.inj hx;obtain rfl:=Option.some.inj hy;exact h
     ·cases hc:(A.getD i []).contains k with
      | false=>rfl
      | true =>
       have:=(K.Wx i X k (by simpa using hc)).1;rw [ar] at this;cases this
     ·cases hc:(A.getD k []).contains i with
      | false=>rfl
      | true =>
       have:=(K.Wx k (by omega) i (by simpa using hc)).2;omega
    have d:=AW ho pre post f F _ al (by simp) h;have C:(pre++post).Pairwise (·<·):=by
     have:=List.pairwise_append.1 j;rw [List.pairwise_append];exact ⟨this.1,(List.pairwise_cons.1 this.2.1).2,fun x hx y hy=>this.2.2 x hx y (by simp [hy])⟩
    have ae:i ∉ pre++post:=by
     intro hm;rcases List.mem_append.1 hm with h | h
     ·have:=ad i h;omega
     ·have:=(List.pairwise_cons.1 (List.pairwise_append.1 j).2.1).1 i h;omega
    have am:iO ops (listed.setIfInBounds i true) (fun k=>k<m/\k ∉ pre++post):=by
     refine J.set fun k=>?_;simp only [List.mem_append,List.mem_cons,not_or];constructor
     ·rintro ⟨Z,h2,h3⟩;by_cases I:k=i
      ·exact .inl I
      ·exact .inr ⟨Z,h2,I,h3⟩
     ·rintro (rfl | ⟨Z,h2,h3,h4⟩)
      ·simp only [List.mem_append,not_or] at ae;exact ⟨X,ae⟩
      ·exact ⟨Z,h2,h4⟩
    have D:Down ops (listed.setIfInBounds i true):=by
     intro k ok O I e aw hb;have mono:listed.getD e.on false=true->(listed.setIfInBounds i true).getD e.on false=true:=by
      intro h;have a5:e.on<listed.size:=by
       rcases Nat.lt_or_ge e.on listed.size with h' | h'
       ·exact h'
       ·simp [Array.getD_eq_getD_getElem?,Array.getElem?_eq_none h'] at h
      simp only [Array.getD_eq_getD_getElem?,Array.getElem?_setIfInBounds] at h ⊢;split
      ·rename_i a6;subst a6;simp [a5]
      ·exact h
     by_cases Y:i=k
     ·subst Y;rw [ho] at O;obtain rfl:=Option.some.inj O;exact mono (he e aw hb)
     ·refine mono (z k ok O ?_ e aw hb);simp only [Array.getD_eq_getD_getElem?,Array.getElem?_setIfInBounds] at I ⊢;rw [if_neg Y] at I;exact I
    have hlen:(pre++post).length+(ops.size - m)<=fuel:=by simp at hf ⊢;omega
    have R:∀ k∈pre++post,k<m:=fun k I=>L k (by rcases List.mem_append.1 I with h | h <;> simp [h]);obtain ⟨U,d⟩:=d;unfold wpOp;rw [ho];simp only;cases hw:dB ops f o with
    | none=>rw [hw] at d;exact d.elim
    | some b =>
     rw [hw] at d;rw [eJ G hw];cases b with
     | false =>
      rw [if_neg (by simp)];exact ih _ _ _ F s1 γ _ w C R am hlen d.2 l M hF r (G.put U (pX γ)) hr hd D
     | true =>
      rw [if_pos rfl];simp only at d;by_cases hh:H.contains i=true
      ·rw [if_pos hh] at d;obtain ⟨hA,_,hK⟩:=d;have hv:=hA s1 l hr.N9 (fun p hp _=>hF p hp) (fun _=>trivial);have an:Gl P T n o f s1 (fun f2 s2=>∃ v,f2=bU f o.dst v/\Ext s1 s2/\S i (keyOf f o) v s2/\V i (keyOf f o) v):=mq U hv fun v s2 ⟨Z,h2,h3⟩=>⟨v,rfl,Z,h2,h3⟩;refine .inl (jT hT an G hr ?_);rintro γ' f' s' a' w' Z h2 h3 ⟨v,rfl,h4,h5,h6⟩;refine ih _ _ _ _ s' γ' a' w' C R am hlen (hK v h6) (l.trans h4) (fun e=>by rw [e] at hh;cases hh) ?_ ?_ Z h3 (hd.trans h2) D
       ·intro p hp;rcases List.mem_append.1 hp with h | h
        ·exact r p h _ _ h4 (hF p h)
        ·obtain rfl:=List.mem_singleton.1 h;exact h5
       ·intro p hp;rcases List.mem_append.1 hp with h | h
        ·exact r p h
        ·obtain rfl:=List.mem_singleton.1 h;exact fun s s' he=>hS i _ v s s' he
      ·rw [if_neg hh] at d;obtain ⟨_,ab,v,⟨hv,a7⟩,hK⟩:=d;have a8:=a7 _ l hr.N9;have a9:fq f o.op=none:=by
        unfold fq;split
        ·rename_i c hc;rw [hc] at ab;simp only [mQ] at ab;split
         ·rename_i x hx;rw [hx] at ab;cases ab
         ·rfl
        ·rfl
       have an:Gl P T n o f s1 (fun f2 s2=>f2=bU f o.dst v/\s2=s1):=by
        refine ⟨U,.inl ?_⟩;rw [a9];exact ⟨v,s1,a8,rfl,rfl⟩
       refine .inl (jT hT an G hr ?_);rintro γ' f' s' a' w' Z h2 h3 ⟨rfl,rfl⟩;exact ih _ _ _ F _ γ' a' w' C R am hlen hK l M hF r Z h3 (hd.trans h2) D
end
theorem kX.draw {P:Program} {T:TT} (hT:TT.Ok P T) (bX:P.follows .mixedOrders=true) {n id:Nat} {ops:Array Oper} {f:Fr} {s:AS} {Q:Exit->Fr->AS->Prop} (m:Nat) (A:List (List Nat)) (bs:List Nat) (H:List Nat)
  (V:Nat->List AV->AV->Prop) (S:Nat->List AV->AV->AS->Prop) (b:Gn ops m A bs=true) (e:∀ i k v s s',Ext s s'->S i k v s->S i k v s')
  (h:X1 P T n ops A H V S s (fun f s'=>fI P T n ops (ops.toList.drop m) f s' (fun f s=>Q .normal f s)) (List.range m) f []):kX P n (.region id ops true) f s Q:=by
 intro B γ a w hf hr;have d:=I_ b;have hle:=d.le;refine wp_region_any bX ?_;refine L4 hT hr.Su d e ops.size (List.range m) _ f [] s γ a { w with drawn:=w.drawn+1 } List.pairwise_lt_range (fun i hi=>List.mem_range.1 hi) ⟨by simp,fun i hi=>?_⟩ (by simp;omega) h (Ext.refl s) (fun _=>rfl) (by simp) (by simp) hf (hr.of_heap rfl) (gq.of_heap rfl) ?_
 ·simp [Array.getD_eq_getD_getElem?,hi]
 ·intro i o j c;simp only [Array.getD_eq_getD_getElem?] at c;by_cases hi:i<ops.size
  ·simp [hi] at c
  ·simp [hi] at c
end
section
def TT.of (P:Program):TT where
 cW t:=P.underlying t
 eZ t:=(P.info? t).map (·.size)
 HX t:=(P.info? t).map (·.bytes)
 sS t:=(P.info? t).bind fun i=>i.zero.map CB
 Sm t:=!P.eqGuardType P.depth t
 UT t:=!P.stoodInHeld t
theorem TT.X2 (P:Program):TT.Ok P (TT.of P) where
 cW _ _ h:=h
 eZ _ _ h:=h
 HX _ _ h:=h
 sS t v h:=by
  simp only [TT.of,Option.bind_eq_some_iff,Option.map_eq_some_iff] at h;obtain ⟨i,hi,c,b,rfl⟩:=h;exact ⟨i,c,hi,b,fun γ=>Fu γ c⟩
 Sm t h:=by simpa [TT.of] using h
 UT t h:=by simpa [TT.of] using h
section
variable (T:TT) (ρ:Operand->AV) (s:AS)
end
@[simp] theorem u9 (k:IntKind) (n:Int):bN (.int k n)=some [.int k n]:=rfl
@[simp] theorem V_ (b:Bool):bN (.bool b)=some [.bool b]:=rfl
@[simp] theorem Wy (b:List UInt8):bN (.str b)=some [.str b]:=rfl
@[simp] theorem Wz (a:Option (Nat×Nat)):bN (.ptr a)=some [.ptr a]:=rfl
@[simp] theorem WA (a:Option (Nat×Nat)) (n m:Nat) (e:Bool):bN (.slc a n m e)=some [.slc a n m e]:=rfl
@[simp] theorem WB:bN .emp=some [.emp]:=rfl
@[simp] theorem WC (a:Option Nat):bN (.map a)=some [.map a]:=rfl
theorem Ot (l:List AV):bN (.agg l)=if l.all AV.one then some l else none:=rfl
@[simp] theorem U3 (k:IntKind) (n:Int):(AV.int k n).one=true:=rfl
@[simp] theorem X3 (b:Bool):(AV.bool b).one=true:=rfl
@[simp] theorem Yq (b:List UInt8):(AV.str b).one=true:=rfl
@[simp] theorem Yr (a:Option (Nat×Nat)):(AV.ptr a).one=true:=rfl
@[simp] theorem Ys (a:Option (Nat×Nat)) (n m:Nat) (e:Bool):(AV.slc a n m e).one=true:=rfl
@[simp] theorem Yt (a:Option Nat):(AV.map a).one=true:=rfl
section
variable (T:TT) (t:TypeId) (k:IntKind) (a b:Int)
end
def gd (ops:Array Oper) (f:Fr):Option (Nat×Bool)->Option Bool
 | none=>some true
 | some (j,want)=>c want (((ops[j]?).bind (·.dst)).map f)
where
 c (want:Bool):Option AV->Option Bool
  | some (.bool b)=>some (b==want)
  | some (.aQ _)=>some false
  | some _=>none
  | none=>some false
section
variable {P:Program} {T:TT} {n:Nat} {ops:Array Oper} {o:Oper} {os:List Oper} {f:Fr} {s:AS} {K:Fr->AS->Prop}
end
def X4 (T:TT) (rs:List ResultVar) (R:AV->AS->Prop):Exit->Fr->AS->Prop:=fun e f s'=>match e with
 | .normal | .ret=>∃ v,yM T rs f s'=some v/\R v s'
 | _=>False
theorem aa.body {P:Program} {T:TT} (hT:TT.Ok P T) {g:FuncId} {fn:Func} {c:Code} {args:List AV} {s:AS} {R:AV->AS->Prop} {n:Nat} {rs:List ResultVar} (hf:P.funcs[g]? = some fn) (d:gB P g=true) (hb:fn.body=some c)
  (e:args.length+(fn.ntmps - args.length)=n) (b:fn.results.toList=rs) (h:kX P n c (sq args) s (X4 T rs R)):aa P g args s R:=by
 subst e b;exact aa.U0 hT hf d hb h
theorem zz {T:TT} {t:TypeId} (h:T.agg t=some false) (s:AS) (l o:Nat):HY T t s (.ptr (some (l,o)))=ak s l o:=by unfold HY;simp only [h]
theorem U4 {T:TT} {t n:Nat} (h:T.agg t=some true) (b:T.eZ t=some n) (s:AS) (l o:Nat):HY T t s (.ptr (some (l,o)))=(aD s l o n).map .agg:=by unfold HY;simp only [h,b,Option.bind_some]
theorem WD {s:AS} {l o:Nat} {cs:List AV} {g:Nat} {ro:Bool} (h:s.h l=some (.cells cs g ro)):ak s l o=cs[o]? := by simp [ak,h]
theorem u_ {s:AS} {l o n:Nat} {cs:List AV} {g:Nat} {ro:Bool} (h:s.h l=some (.cells cs g ro)) (b:o+n<=cs.length):aD s l o n=some ((cs.drop o).take n):=by simp [aD,h,b]
end
section
abbrev L5:=FuncId->List AV->AS->Option (AV×AS)
def Kh (P:Program) (call:L5):Prop:=∀ g args s v s',call g args s=some (v,s')->aa P g args s fun b s2=>b=v/\s2=s'
section
variable {P:Program} {T:TT} (hT:TT.Ok P T) {call:L5} (AX:Kh P call)
include hT AX
end
/-! ### A region that draws its order -/
end
section
section
variable (P:Program) (T:TT) (n:Nat) (ops:Array Oper) (YB:Nat->Option (AV×AS)) (vw:Nat->AS)
end
section
variable {P:Program} {T:TT} {n:Nat} {ops:Array Oper} {YB:Nat->Option (AV×AS)} {vw:Nat->AS} {K:Fr->Prop}
end
/-! ### The heap,half way -/
section
variable {B:Nat} {Gm γ:bT} {s:AS} {w0 w:World} {m:Nat} {YB:Nat->Option (AV×AS)} {L:Nat->Prop}
end
/-! ### Every order -/
section
variable {P:Program} {T:TT} {n:Nat} {ops:Array Oper} {YB:Nat->Option (AV×AS)} {vw:Nat->AS} {s sm:AS}
end
end
section
section
variable {P:Program} {T:TT} (hT:TT.Ok P T) {call:L5} (AX:Kh P call) {n:Nat} {ops:Array Oper} {bs:List Nat} {m:Nat} {s:AS} {K:Fr->Prop}
include hT AX
end
section
variable {P:Program} {T:TT} (hT:TT.Ok P T) {call:L5} (AX:Kh P call) (bX:P.follows .mixedOrders=true)
include hT AX bX
end
/-! ### A region that draws the order of operations that need no heap -/
end
section
inductive TK where
 | int (k:IntKind)
 | bool
 | str
 | ptr
 | map
 | agg
 | any
 | aQ (l:List TK)
def X5 (T:TT) (t:TypeId):TK:=match T.cW t with
 | some (.int k)=>.int k
 | some .bool=>.bool
 | some .string=>.str
 | some (.pointer _)=>.ptr
 | some (.map _ _)=>.map
 | some (.struct _)=>.agg
 | some (.array _ _)=>.agg
 | _=>.any
def L6 (T:TT) (t:TypeId):TK:=match T.cW t with
 | some (.tuple es)=>.aQ (es.toList.map (X5 T))
 | _=>X5 T t
/-! ### the words -/
def aV (k:IntKind) (o:Option AV) (K:Int->Prop):Prop:=∃ n,o=some (.int k n)/\K n
def Qb (o:Option AV) (K:Bool->Prop):Prop:=∃ b,o=some (.bool b)/\K b
def CM (o:Option AV) (K:List UInt8->Prop):Prop:=∃ b,o=some (.str b)/\K b
def nM (o:Option AV) (K:Option (Nat×Nat)->Prop):Prop:=∃ a,o=some (.ptr a)/\K a
def wN (o:Option AV) (K:Option Nat->Prop):Prop:=∃ r,o=some (.map r)/\K r
def oq (o:Option AV) (K:List AV->Prop):Prop:=∃ l,o=some (.agg l)/\K l
def dn (o:Option AV) (K:AV->Prop):Prop:=∃ v,o=some v/\K v
def aS (o:Option (List AV)) (K:List AV->Prop):Prop:=∃ l,o=some l/\K l
def sr (o:Option Bool) (K:Bool->Prop):Prop:=∃ b,o=some b/\K b
def bC (o:Option AS) (K:AS->Prop):Prop:=∃ s,o=some s/\K s
def ig (o:Option (AV×AS)) (K:AV->AS->Prop):Prop:=∃ v s,o=some (v,s)/\K v s
def bE (o:Option AV) (K:Nat->Nat->Prop):Prop:=∃ l i,o=some (.ptr (some (l,i)))/\K l i
def ah (a:Option (Nat×Nat)) (K:Nat->Nat->Prop):Prop:=match a with
 | some (l,i)=>K l i
 | none=>False
def fy (n:Option Nat) (l:List AV) (P:Prop):Prop:=(l.all AV.one=true/\n=some l.length)/\P
def cj (l:List AV) (P:Prop):Prop:=l.all AV.one=true/\P
def af (b:Bool) (X Y:Prop):Prop:=match b with
 | true=>X
 | false=>Y
def NZ (b:Int) (P:Prop):Prop:=b≠0/\P
def NN (b:Int) (P:Prop):Prop:=0<=b/\P
def Qc (n:Nat) (P:Prop):Prop:=(n:Int)<=9223372036854775807/\P
def eK (P:Program) (v:AV) (args:List AV) (s:AS) (R:AV->AS->Prop):Prop:=match v with
 | .func g cap=>aa P g (args++cap) s R
 | .uS g ft cap=>aa P g (ft++(args++cap)) s R
 | _=>False
def aj (o:AO) (s:AS) (K:Nat->AS->Prop):Prop:=K s.nl (s.new o)
def bt (A:(List AV->AS->Prop)->Prop):Prop:=∃ J,A J
def bu (A:(Nat->List AV->AS->Prop)->Nat->Prop):Prop:=∃ I m,A I m
def gn (A:(Nat->List AV->AV->AS->Prop)->(Nat->List AV->AV->Prop)->Prop):Prop:=∃ S V,(∀ i k v s s',Ext s s'->S i k v s->S i k v s')/\A S V
def uc (s:AS) (A:(AS->AS->Prop)->(Nat->List AV->AV->AS->Prop)->(AS->Prop)->(Nat->List AV->AV->AS->Prop)->(Nat->List AV->AV->Prop)->Prop):Prop :=
 ∃ X C c S V,(∀ s s',Ext s s'->X s s')/\(∀ a b c,X a b->X b c->X a c)/\(∀ i k v s s',Ext s s'->C i k v s->C i k v s')/\(∀ i k v s s',X s s'->S i k v s->S i k v s')/\(∀ s s',Ext s s'->c s->c s')/\c s/\A X C c S V
def SC:List TK->List AV->(List AV->Prop)->Prop
 | [],acc,F=>F acc
 | .int k::ks,acc,F=>∃ n:Int,SC ks (acc++[.int k n]) F
 | .bool::ks,acc,F=>∃ b:Bool,SC ks (acc++[.bool b]) F
 | .str::ks,acc,F=>∃ b:List UInt8,SC ks (acc++[.str b]) F
 | .ptr::ks,acc,F=>∃ a:Option (Nat×Nat),SC ks (acc++[.ptr a]) F
 | .map::ks,acc,F=>∃ r:Option Nat,SC ks (acc++[.map r]) F
 | .agg::ks,acc,F=>∃ l:List AV,SC ks (acc++[.agg l]) F
 | _::ks,acc,F=>∃ v:AV,SC ks (acc++[v]) F
theorem Gq:∀ {ks:List TK} {acc:List AV} {F:List AV->Prop},SC ks acc F->∃ l,F l
 | [],acc,F,h=>⟨acc,h⟩
 | k::ks,acc,F,h=>by
  cases k <;> (simp only [SC] at h;obtain ⟨_,h⟩:=h;exact Gq h)
def rd (k:TK) (o:Option AV) (K:AV->Prop):Prop:=match k with
 | .int k=>aV k o fun n=>K (.int k n)
 | .bool=>Qb o fun b=>K (.bool b)
 | .str=>CM o fun b=>K (.str b)
 | .ptr=>nM o fun a=>K (.ptr a)
 | .map=>wN o fun a=>K (.map a)
 | .agg=>oq o fun a=>K (.agg a)
 | .any=>dn o K
 | .aQ ks=>SC ks [] fun l=>o=some (.aQ l)/\K (.aQ l)
theorem rd_some {k:TK} {o:Option AV} {K:AV->Prop} (h:rd k o K):∃ v,o=some v/\K v:=by
 cases k with
 | aQ ks=>obtain ⟨l,b,h2⟩:=Gq h;exact ⟨_,b,h2⟩
 | _=>obtain ⟨n,b,h2⟩:=h;exact ⟨_,b,h2⟩
def X6 (k:TK) (v:AV) (K:AV->Prop):Prop:=match k with
 | .int k=>∃ n,v=.int k n/\K (.int k n)
 | .bool=>∃ b,v=.bool b/\K (.bool b)
 | .str=>∃ b,v=.str b/\K (.str b)
 | .ptr=>∃ a,v=.ptr a/\K (.ptr a)
 | .map=>∃ a,v=.map a/\K (.map a)
 | .agg=>∃ a,v=.agg a/\K (.agg a)
 | .any=>K v
 | .aQ ks=>SC ks [] fun l=>v=.aQ l/\K (.aQ l)
theorem AY {k:TK} {v:AV} {K:AV->Prop} (h:X6 k v K):K v:=by
 cases k with
 | aQ ks=>obtain ⟨l,rfl,h2⟩:=Gq h;exact h2
 | any=>exact h
 | _=>obtain ⟨n,rfl,h2⟩:=h;exact h2
def de (T:TT) (t:TypeId) (len:Nat) (parts:List (Nat×AV)):Option (List AV) :=
 match T.cW t with
 | some (.slice elem) =>
  (T.eZ elem).bind fun n=>(T.sS elem).bind fun z=>(bN z).bind fun zc =>
   if zc.length=n/\len*n<=2 ^ 24 then jQ (fun i=>some (i*n,n)) (rep len zc) parts else none
 | _=>none
def SD (op:BinOp) (k:IntKind) (a b:Int) (K:AV->Prop):Prop:=match op with
 | .add=>K (.int k (k.wrap (a+b)))
 | .sub=>K (.int k (k.wrap (a - b)))
 | .mul=>K (.int k (k.wrap (a*b)))
 | .quo=>NZ b (K (.int k (k.wrap (a.tdiv b))))
 | .rem=>NZ b (K (.int k (a.tmod b)))
 | .eql=>K (.bool (a==b))
 | .neq=>K (.bool (a != b))
 | .lss=>K (.bool (decide (a<b)))
 | .leq=>K (.bool (decide (a<=b)))
 | .gtr=>K (.bool (decide (a>b)))
 | .geq=>K (.bool (decide (a>=b)))
 | op=>aV k (bG op k a b) fun n=>K (.int k n)
def Q8 (T:TT) (t:TypeId) (c:Bool):AV->AV->Bool
 | .agg _,.agg _=>T.Sm t
 | .nilIface,.nilIface=>c
 | .bad,_=>false
 | _,.bad=>false
 | _,_=>true
theorem Ki (T:TT) (t:TypeId) (x y:Operand) (u v:AV):Oc T t x y u v=Q8 T t (Ob x||Ob y) u v:=by
 cases u <;> cases v <;> rfl
def WE (T:TT) (op:BinOp) (t:TypeId) (c:Bool) (x y:AV) (K:AV->Prop):Prop :=
 match op,x,y with
 | .shl,.int k a,.int _ b=>NN b (K (.int k (k.wrap (a*2 ^ min b.toNat k.bits))))
 | .shr,.int k a,.int _ b=>NN b (K (.int k (a.fdiv (2 ^ min b.toNat k.bits))))
 | op,.int k a,.int k' b=>bif k==k' then SD op k a b K else False
 | .add,.str a,.str b=>Qc (a.length+b.length) (K (.str (a++b)))
 | .eql,.str a,.str b=>K (.bool (a==b))
 | .neq,.str a,.str b=>K (.bool !(a==b))
 | .lss,.str a,.str b=>K (.bool (jH a b))
 | .leq,.str a,.str b=>K (.bool (jH a b||a==b))
 | .gtr,.str a,.str b=>K (.bool !(jH a b||a==b))
 | .geq,.str a,.str b=>K (.bool !(jH a b))
 | .eql,.bool a,.bool b=>(match T.cW t with | some .bool=>K (.bool (a==b)) | _=>False)
 | .neq,.bool a,.bool b=>(match T.cW t with | some .bool=>K (.bool !(a==b)) | _=>False)
 | .eql,.agg xs,.agg ys=>bif T.Sm t then sr (iZ T 100 t (.agg xs) (.agg ys)) fun b=>K (.bool b) else False
 | .neq,.agg xs,.agg ys=>bif T.Sm t then sr (iZ T 100 t (.agg xs) (.agg ys)) fun b=>K (.bool !b) else False
 | .eql,.ptr a,.ptr b=>sr (iZ T 100 t (.ptr a) (.ptr b)) fun b=>K (.bool b)
 | .neq,.ptr a,.ptr b=>sr (iZ T 100 t (.ptr a) (.ptr b)) fun b=>K (.bool !b)
 | .eql,.map a,.map b=>sr (iZ T 100 t (.map a) (.map b)) fun b=>K (.bool b)
 | .neq,.map a,.map b=>sr (iZ T 100 t (.map a) (.map b)) fun b=>K (.bool !b)
 | .eql,x,y=>Q8 T t c x y=true/\sr (iZ T 100 t x y) fun b=>K (.bool b)
 | .neq,x,y=>Q8 T t c x y=true/\sr (iZ T 100 t x y) fun b=>K (.bool !b)
 | _,_,_=>False
def SF:Option TypeDesc->Bool
 | some (.slice _)=>true
 | some (.func _ _ _)=>true
 | some (.interface _)=>true
 | _=>false
def Q9 (T:TT) (t:TypeId) (c:Bool) (x y:AV):Option Bool:=if Q8 T t c x y=true then iZ T 100 t x y else none
def SH (T:TT) (op:BinOp) (t:TypeId) (c:Bool) (x y:AV) (K:AV->Prop):Prop :=
 match SF (T.cW t),op with
 | true,.eql=>sr (Q9 T t c x y) fun b=>K (.bool b)
 | true,.neq=>sr (Q9 T t c x y) fun b=>K (.bool !b)
 | _,op=>WE T op t c x y K
def Ou (v:AV) (F:List AV->Prop):Prop:=match v with
 | .agg l=>cj l (F l)
 | .aQ _=>False
 | .bad=>False
 | v=>F [v]
def e_ (T:TT) (t:TypeId) (s:AS) (l off:Nat) (v:AV) (K:AS->Prop):Prop:=match v with
 | .agg cs=>fy (T.eZ t) cs (bC (cS s l off cs) K)
 | .aQ _=>False
 | .bad=>False
 | v=>bif T.eZ t==some 1 then bC (cS s l off [v]) K else False
def WG (T:TT) (t:TypeId) (x:AV) (s:AS):Option (AV×AS):=match T.cW t,x with
 | some .string,.str b=>some (.ptr (some (s.nl,0)),s.new (.qp b 0 false))
 | some (.map _ _),.map none=>some (.ptr (some (s.nl,0)),s.new (.fW none 0 [] 0 false))
 | some (.map _ _),.map (some m)=>match s.h m with
  | some (.map _ clock _)=>some (.ptr (some (s.nl,0)),s.new (.fW (some m) clock [] clock false))
  | _=>none
 | _,_=>none
def zA (x:AV) (s:AS):Option (Bool×List (AV×AV×AS)):=match x with
 | .ptr (some (l,0))=>match s.h l with
  | some (.fW none _ _ _ _)=>some (true,[])
  | some (.fW (some m) since seen last false)=>match s.h m with
   | some (.map es clock _) =>
    if seen≠[]/\es≠[]/\(es.all fun e=>decide (last<=e.2.2)) then none else
    let left:=es.filter fun e=>!seen.contains e.2.2
    let old:=left.filter fun e=>decide (e.2.2<since)
    let new:=left.filter fun e=>decide (since<=e.2.2)
    some (old.isEmpty,(old++new).map fun e=>(e.1,e.2.1,s.put l (.fW (some m) since (seen++[e.2.2]) clock false)))
   | _=>none
  | _=>none
 | _=>none
def Wa (o:Option (Bool×List (AV×AV×AS))) (A:Prop) (B:AV->AV->AS->Prop):Prop :=
 ∃ b l,o=some (b,l)/\(b=true->A)/\∀ k v s',(k,v,s')∈l->B k v s'
def Qd (o:Option (Bool×List (AV×AV×AS))) (s:AS) (K:AV->AS->Prop):Prop:=Wa o (K (.aQ [.bool false]) s) fun k v s'=>K (.aQ [.bool true,k,v]) s'
def YW (o:Option AV) (K:AV->AV->Prop):Prop:=∃ k v,o=some (.aQ [k,v])/\K k v
def Ov (x:AV) (s:AS):Option (Option (Int×Int×AS)):=match x with
 | .ptr (some (l,0))=>match s.h l with
  | some (.qp b pos false) =>
   if pos<b.length then some (some (pos,(Utf8.decode ⟨b.toArray⟩ pos).1,s.put l (.qp b (pos+(Utf8.decode ⟨b.toArray⟩ pos).2) false)))
   else some none
  | _=>none
 | _=>none
def X7 (o:Option (Option (Int×Int×AS))) (A:Prop) (B:Int->Int->AS->Prop):Prop :=
 ∃ r,o=some r/\(r=none->A)/\∀ i c s',r=some (i,c,s')->B i c s'
def Wb (o:Option (Option (Int×Int×AS))) (s:AS) (K:AV->AS->Prop):Prop:=X7 o (K (.aQ [.bool false]) s) fun i c s'=>K (.aQ [.bool true,.int .i64 i,.int .i32 c]) s'
theorem Ja {it:Operand} {ρ:Operand->AV} {s:AS} {K:AV->AS->Prop} (h:Qd (zA (ρ it) s) s K):∃ l,DW (.next it false) ρ s=some l/\∀ p∈l,K p.1 p.2:=by
 obtain ⟨b,l,c,h2,h3⟩:=h;unfold zA at c;unfold DW;simp only;split at c
 ·rename_i l0 hp;rw [hp];simp only;split at c
  ·rename_i since seen last ro d;obtain ⟨rfl,rfl⟩:true=b/\[]=l:=by simpa using c
   rw [d];exact ⟨_,rfl,fun p hp=>by obtain rfl:=List.mem_singleton.1 hp;exact h2 rfl⟩
  ·rename_i m since seen last d;rw [d];simp only;split at c
   ·rename_i es clock ro hm;rw [hm];simp only;split at c
    ·cases c
    ·rename_i j;rw [if_neg j];simp only [Option.some.injEq,Prod.mk.injEq] at c;obtain ⟨rfl,rfl⟩:=c;refine ⟨_,rfl,fun p hp=>?_⟩;rcases List.mem_append.1 hp with hp | hp
     ·split at hp
      ·rename_i i;obtain rfl:=List.mem_singleton.1 hp;exact h2 i
      ·cases hp
     ·obtain ⟨e,i,rfl⟩:=List.mem_map.1 hp;exact h3 _ _ _ (List.mem_map.2 ⟨e,i,rfl⟩)
   ·cases c
  ·cases c
 ·cases c
theorem Q_ {it:Operand} {ρ:Operand->AV} {s:AS} {K:AV->AS->Prop} (h:Wb (Ov (ρ it) s) s K):∃ l,DW (.next it true) ρ s=some l/\∀ p∈l,K p.1 p.2:=by
 obtain ⟨r,c,h2,h3⟩:=h;unfold Ov at c;unfold DW;simp only;split at c
 ·rename_i l0 hp;rw [hp];simp only;split at c
  ·rename_i b pos e;rw [e];simp only [if_true];split at c
   ·rename_i d;obtain rfl:=Option.some.inj c;rw [if_pos d];exact ⟨_,rfl,fun p hp=>by obtain rfl:=List.mem_singleton.1 hp;exact h3 _ _ _ rfl⟩
   ·rename_i d;obtain rfl:=Option.some.inj c;rw [if_neg d];exact ⟨_,rfl,fun p hp=>by obtain rfl:=List.mem_singleton.1 hp;exact h2 rfl⟩
  ·cases c
 ·cases c
def Gr (T:TT) (tk:TK) (b:Builtin) (ts:List TypeId) (args:List AV) (s:AS) (K:AV->AS->Prop):Prop :=
 match b,ts,args with
 | .len,t::_,x::_=>aV .i64 (aL T t x s) fun n=>K (.int .i64 n) s
 | .cap,t::_,x::_=>aV .i64 (wR T t x) fun n=>K (.int .i64 n) s
 | .append,t::xt::_,dst::x::_=>ig (aG T t xt dst x s) K
 | .copy,t::_::_,dst::x::_=>ig (q8 T t dst x s) K
 | .delete,t::_,m::k::_=>bC (mM T t m k s) fun s=>K .undef s
 | .clear,t::_,x::_=>bC (J_ T t x s) fun s=>K .undef s
 | .max,_,l=>rd tk (LM true l) fun v=>K v s
 | .min,_,l=>rd tk (LM false l) fun v=>K v s
 | _,_,_=>False
def Sn (P:Program) (T:TT) (o:Oper) (ρ:Operand->AV) (s:AS) (K:AV->AS->Prop):Prop :=
 match o.op with
 | .move x=>K (ρ x) s
 | .assign x=>K (ρ x) s
 | .pick c a b=>(match ρ c with | .bool t=>af t (K (ρ a) s) (K (ρ b) s) | _=>False)
 | .alloc e=>(match T.sS e with | some z=>(bif z.cells.all AV.one then K (.ptr (some (s.nl,0))) (s.new (.cells z.cells 0 false)) else False) | none=>False)
 | .box _ x=>Ou (ρ x) fun cs=>K (.ptr (some (s.nl,0))) (s.new (.cells cs 0 false))
 | .build t parts=>oq (aY T t (parts.toList.map fun p=>(p.1,ρ p.2))) fun cs=>K (.agg cs) s
 | .buildSlice t len parts=>aS (de T t len (parts.toList.map fun p=>(p.1,ρ p.2))) fun cs=>K (.slc (some (s.nl,0)) len len true) (s.new (.cells cs (UW T t len) false))
 | .load t a=>(match ρ a with
  | .ptr a=>ah a fun l off=>(match T.agg t with
   | some true=>(match T.eZ t with | some n=>aS (aD s l off n) fun cs=>K (.agg cs) s | none=>False)
   | some false=>rd (X5 T t) (ak s l off) fun v=>K v s
   | none=>False)
  | _=>False)
 | .store t a x=>(match ρ a with | .ptr a=>ah a fun l off=>e_ T t s l off (ρ x) fun s=>K .undef s | _=>False)
 | .nilCheck x=>(match ρ x with
  | .ptr a=>ah a fun l off=>K (.ptr (some (l,off))) s
  | .func f c=>K (.func f c) s
  | .uS f ft c=>K (.uS f ft c) s
  | .iface t v=>K (.iface t v) s
  | _=>False)
 | .binOp op t x y _=>SH T op t (Ob x||Ob y) (ρ x) (ρ y) fun v=>K v s
 | .unOp op _ x=>(match op,ρ x with
  | .neg,.int k n=>K (.int k (k.wrap (0 - n))) s
  | .not,.bool b=>K (.bool !b) s
  | .xor,.int k n=>aV k (V9 .xor (.int k n)) fun m=>K (.int k m) s
  | op,v=>dn (V9 op v) fun v=>K v s)
 | .convert src dst x=>(match T.cW src,T.cW dst,ρ x with
  | some (.slice _),some .string,v=>CM ((cY T src dst v s).map (·.1)) fun b=>K (.str b) s
  | some _,some (.int k),.int _ n=>K (.int k (k.wrap n)) s
  | some _,some .string,.str b=>K (.str b) s
  | some _,some (.slice _),v=>ig (cY T src dst v s) K
  | some _,some .string,v=>CM ((cY T src dst v s).map (·.1)) fun b=>K (.str b) s
  | _,_,_=>False)
 | .makeInterface t x=>(match T.cW t with | some (.interface _)=>False | some _=>K (.iface t (ρ x)) s | none=>False)
 | .makeFunc (.func f) first captured=>bif first.isEmpty then K (.func f (captured.toList.map ρ)) s else K (.uS f (first.toList.map ρ) (captured.toList.map ρ)) s
 | .makeMap t none=>(match T.cW t with | some _=>K (.map (some s.nl)) (s.new (.map [] 0 false)) | none=>False)
 | .makeSlice t l c=>ig (uW T t (ρ l) (ρ c) s) K
 | .slice t x lo hi d=>rd (L6 T o.type) (bf T t (ρ x) (lo.map ρ) (hi.map ρ) (d.map ρ)) fun v=>K v s
 | .fieldAddr t x f=>(match ρ x with | .ptr a=>ah a fun l off=>(match uV T t (.ptr (some (l,off))) f with | some v=>K v s | none=>False) | _=>False)
 | .field t x f=>(match T.cW t,ρ x with
  | some (.struct fields),.agg cs=>(match fields[f]? with
   | some fd=>(match T.agg fd.type with
    | some true=>(match T.eZ fd.type with | some n=>K (.agg ((cs.drop fd.offset).take n)) s | none=>False)
    | some false=>rd (X5 T fd.type) (cs[fd.offset]?) fun v=>K v s
    | none=>False)
   | none=>False)
  | _,_=>False)
 | .indexAddr t x ix=>bE (ag T t (ρ x) (ρ ix)) fun l off=>K (.ptr (some (l,off))) s
 | .index t x ix=>rd (L6 T o.type) (ju T t (ρ x) (ρ ix)) fun v=>K v s
 | .lookup t x ix ok=>rd (L6 T o.type) (dA T t (ρ x) (ρ ix) ok s) fun v=>K v s
 | .mapUpdate t m k v=>bC (dG T t (ρ m) (ρ k) (ρ v) s) fun s=>K .undef s
 | .insert t m k v=>bC (dG T t (ρ m) (ρ k) (ρ v) s) fun s=>K .undef s
 | .extract t i=>(match ρ t with | .aQ vs=>(match vs[i]? with | some v=>K v s | none=>False) | _=>False)
 | .call c=>(match c.callee with
  | .builtin b=>Gr T (L6 T o.type) b c.argTypes.toList (c.args.toList.map ρ) s K
  | .value x=>eK P (ρ x) (c.args.toList.map ρ) s fun v s=>X6 (L6 T o.type) v fun v=>K v s
  | _=>False)
 | .range t x=>ig (WG T t (ρ x) s) K
 | .entry it=>rd (L6 T o.type) (wS (ρ it) s) fun v=>K v s
 | .sliceToArrayPointer t x=>nM (QY T t (ρ x)) fun a=>K (.ptr a) s
 | _=>False
section
variable {P:Program} {T:TT}
theorem CN {b:Bool} {X Y:Prop} (h:af b X Y):if b=true then X else Y:=by cases b <;> simpa [af] using h
theorem zB {a:Option (Nat×Nat)} {F:Nat->Nat->Prop} (h:ah a F):∃ l o,a=some (l,o)/\F l o:=by
 unfold ah at h;split at h
 ·exact ⟨_,_,rfl,h⟩
 ·exact h.elim
theorem Qe {t:TypeId} {len:Nat} {parts:List (Nat×AV)} {s:AS} {cs:List AV} (h:de T t len parts=some cs):mj T t len parts s=some (.slc (some (s.nl,0)) len len true,s.new (.cells cs (UW T t len) false)):=by
 unfold de at h;unfold mj;cases hu:T.cW t with
 | none=>rw [hu] at h;cases h
 | some d =>
  rw [hu] at h;cases d with
  | slice e =>
   simp only [Option.bind_eq_some_iff] at h;obtain ⟨n,c,z,i,zc,b,h⟩:=h;simp only [c,i,b,Option.bind_some];split at h
   ·rename_i j;rw [if_pos j,h];rfl
   ·cases h
  | _=>cases h
theorem Ow {v:AV} {F:List AV->Prop} (h:Ou v F):∃ cs,bN v=some cs/\F cs:=by
 unfold Ou at h;split at h
 ·rename_i l;obtain ⟨b,h2⟩:=h;exact ⟨l,by simp only [bN,AV.cells,b,if_true],h2⟩
 ·exact h.elim
 ·exact h.elim
 ·rename_i b h2 h3;refine ⟨[v],?_,h⟩;cases v <;> first | rfl | exact (b _ rfl).elim | exact (h2 _ rfl).elim | exact (h3 rfl).elim
theorem Ox {t:TypeId} {s:AS} {l off:Nat} {v:AV} {K:AS->Prop} (h:e_ T t s l off v K):∃ s',UU T t s (.ptr (some (l,off))) v=some s'/\K s':=by
 unfold e_ at h;split at h
 ·rename_i cs;obtain ⟨⟨b,h2⟩,s',h3,h4⟩:=h;refine ⟨s',?_,h4⟩;simp only [UU,bN,AV.cells,b,if_true,Option.bind_some,h2,h3]
 ·exact h.elim
 ·exact h.elim
 ·rename_i b h2 h3;cases hs:(T.eZ t==some 1) with
  | false=>rw [hs] at h;exact h.elim
  | true =>
   rw [hs] at h;obtain ⟨s',h4,d⟩:=h;have c:T.eZ t=some 1:=by simpa using hs
   refine ⟨s',?_,d⟩;have e:bN v=some [v]:=by cases v <;> first | rfl | exact (b _ rfl).elim | exact (h2 _ rfl).elim | exact (h3 rfl).elim
   simp only [UU,e,Option.bind_some,c,List.length_cons,List.length_nil,Nat.zero_add,if_true,h4]
theorem Ra {op:BinOp} {k:IntKind} {a b:Int} {K:AV->Prop} (h:SD op k a b K):∃ v,bG op k a b=some v/\K v:=by
 unfold SD at h;split at h
 case h_4=>exact ⟨_,by simp only [bG,if_neg h.1],h.2⟩
 case h_5=>exact ⟨_,by simp only [bG,if_neg h.1],h.2⟩
 case h_12=>obtain ⟨n,c,h2⟩:=h;exact ⟨_,c,h2⟩
 all_goals exact ⟨_,by simp only [bG],h⟩
theorem SJ {op:BinOp} {t:TypeId} {x y:Operand} {u v:AV} {K:AV->Prop} (h:WE T op t (Ob x||Ob y) u v K):Oc T t x y u v=true/\∃ r,lR T op t u v=some r/\K r:=by
 unfold WE at h;split at h
 ·rename_i k a k' b;exact ⟨rfl,_,by simp only [lR];rw [if_neg (by have:=h.1;omega)],h.2⟩
 ·rename_i k a k' b;exact ⟨rfl,_,by simp only [lR];rw [if_neg (by have:=h.1;omega)],h.2⟩
 ·rename_i op k a k' b c h2;refine ⟨rfl,?_⟩;cases i:(k==k') with
  | false=>rw [i] at h;exact h.elim
  | true =>
   rw [i] at h;obtain rfl:k=k':=by simpa using i
   obtain ⟨r,hr,j⟩:=Ra h;refine ⟨r,?_,j⟩;rw [<- hr];cases op <;> first | (exact absurd rfl c) | (exact absurd rfl h2) | simp only [lR,if_true]
 ·exact ⟨rfl,_,by simp only [lR];rw [if_pos (by have:=h.1;simpa using this)],h.2⟩
 ·exact ⟨rfl,_,by simp only [lR],h⟩
 ·exact ⟨rfl,_,by simp only [lR],h⟩
 ·exact ⟨rfl,_,by simp only [lR],h⟩
 ·exact ⟨rfl,_,by simp only [lR],h⟩
 ·exact ⟨rfl,_,by simp only [lR],h⟩
 ·exact ⟨rfl,_,by simp only [lR],h⟩
 ·rename_i a b;split at h
  ·rename_i hu;exact ⟨rfl,_,by simp only [lR,iZ,hu,Option.map_some],h⟩
  ·exact h.elim
 ·rename_i a b;split at h
  ·rename_i hu;exact ⟨rfl,_,by simp only [lR,iZ,hu,Option.map_some],h⟩
  ·exact h.elim
 ·rename_i xs ys;cases d:T.Sm t with
  | false=>rw [d] at h;exact h.elim
  | true=>rw [d] at h;obtain ⟨b,c,h2⟩:=h;exact ⟨d,_,by simp only [lR,c,Option.map_some],h2⟩
 ·rename_i xs ys;cases d:T.Sm t with
  | false=>rw [d] at h;exact h.elim
  | true=>rw [d] at h;obtain ⟨b,c,h2⟩:=h;exact ⟨d,_,by simp only [lR,c,Option.map_some],h2⟩
 ·obtain ⟨b,c,h2⟩:=h;exact ⟨rfl,_,by simp only [lR,c,Option.map_some],h2⟩
 ·obtain ⟨b,c,h2⟩:=h;exact ⟨rfl,_,by simp only [lR,c,Option.map_some],h2⟩
 ·obtain ⟨b,c,h2⟩:=h;exact ⟨rfl,_,by simp only [lR,c,Option.map_some],h2⟩
 ·obtain ⟨b,c,h2⟩:=h;exact ⟨rfl,_,by simp only [lR,c,Option.map_some],h2⟩
 ·obtain ⟨h0,b,c,h2⟩:=h;refine ⟨by rw [Ki];exact h0,.bool b,?_,h2⟩;unfold lR;split <;> first | (simp_all;done) | (exfalso;simp_all;rename_i e;exact e _ _ _ _ rfl rfl rfl rfl) | (exfalso;rename_i e;simp_all;exact e _ _ _ _ rfl rfl rfl rfl)
 ·obtain ⟨h0,b,c,h2⟩:=h;refine ⟨by rw [Ki];exact h0,.bool !b,?_,h2⟩;unfold lR;split <;> first | (simp_all;done) | (exfalso;simp_all;rename_i e;exact e _ _ _ _ rfl rfl rfl rfl) | (exfalso;rename_i e;simp_all;exact e _ _ _ _ rfl rfl rfl rfl)
 ·exact h.elim
theorem Rb {op:BinOp} {t:TypeId} {x y:Operand} {u v:AV} {K:AV->Prop} (h:SH T op t (Ob x||Ob y) u v K):Oc T t x y u v=true/\∃ r,lR T op t u v=some r/\K r:=by
 unfold SH at h;have key:∀ b,Q9 T t (Ob x||Ob y) u v=some b->Oc T t x y u v=true/\iZ T 100 t u v=some b:=by
  intro b hb;unfold Q9 at hb;split at hb
  ·rename_i o;exact ⟨by rw [Ki];exact o,hb⟩
  ·cases hb
 have i:SF (T.cW t)=true->∀ b,iZ T 100 t u v=some b->lR T .eql t u v=some (.bool b)/\lR T .neq t u v=some (.bool !b):=by
  intro hd b hb;have:∀ d,T.cW t=some d->SF (some d)=true:=fun d h=>by rw [<- h];exact hd
  have c:(∀ k n k' n',¬ (u=.int k n/\v=.int k' n'))/\(∀ a b,¬ (u=.str a/\v=.str b)):=by
   cases hu:T.cW t with
   | none=>rw [hu] at hd;cases hd
   | some d =>
    have hd':=this d hu;refine ⟨fun k n k' n' e=>?_,fun a b e=>?_⟩
    ·obtain ⟨rfl,rfl⟩:=e;cases d <;> first | (cases hd';done) | (simp only [iZ,hu] at hb;cases hb)
    ·obtain ⟨rfl,rfl⟩:=e;cases d <;> first | (cases hd';done) | (simp only [iZ,hu] at hb;cases hb)
  constructor
  ·unfold lR;split <;> first
    | (exact absurd ⟨rfl,rfl⟩ (c.1 _ _ _ _))
    | (exact absurd ⟨rfl,rfl⟩ (c.2 _ _))
    | (rename_i e;cases e;done)
    | (rw [hb];rfl)
    | simp_all
  ·unfold lR;split <;> first
    | (exact absurd ⟨rfl,rfl⟩ (c.1 _ _ _ _))
    | (exact absurd ⟨rfl,rfl⟩ (c.2 _ _))
    | (rename_i e;cases e;done)
    | (rw [hb];rfl)
    | simp_all
 split at h
 ·rename_i hd;obtain ⟨b,j,h2⟩:=h;obtain ⟨l,m⟩:=key b j;exact ⟨l,_,(i hd b m).1,h2⟩
 ·rename_i hd;obtain ⟨b,j,h2⟩:=h;obtain ⟨l,m⟩:=key b j;exact ⟨l,_,(i hd b m).2,h2⟩
 ·exact SJ h
theorem Kj {tk:TK} {b:Builtin} {ts:List TypeId} {args:List AV} {s:AS} {K:AV->AS->Prop} (h:Gr T tk b ts args s K):∃ v s',er T b ts args s=some (v,s')/\K v s':=by
 unfold Gr at h;split at h
 ·obtain ⟨n,c,h2⟩:=h;exact ⟨_,s,by simp only [er,c,Option.map_some],h2⟩
 ·obtain ⟨n,c,h2⟩:=h;exact ⟨_,s,by simp only [er,c,Option.map_some],h2⟩
 ·exact h
 ·exact h
 ·obtain ⟨s',c,h2⟩:=h;exact ⟨_,s',by simp only [er,c,Option.map_some],h2⟩
 ·obtain ⟨s',c,h2⟩:=h;exact ⟨_,s',by simp only [er,c,Option.map_some],h2⟩
 ·obtain ⟨v,c,h2⟩:=rd_some h;exact ⟨v,s,by simp only [er,c,Option.map_some],h2⟩
 ·obtain ⟨v,c,h2⟩:=rd_some h;exact ⟨v,s,by simp only [er,c,Option.map_some],h2⟩
 ·exact h.elim
def Kk:Op->Bool
 | .call c=>match c.callee with
  | .value _=>true
  | _=>false
 | _=>false
theorem FB {o:Oper} {ρ:Operand->AV} {s:AS} {K:AV->AS->Prop} (H:Kk o.op=false) (h:Sn P T o ρ s K):∃ v s',cO T o.op ρ s=some (v,s')/\K v s':=by
 unfold Sn at h;cases G:o.op <;> rw [G] at h <;> simp only at h
 case move x=>exact ⟨_,_,rfl,h⟩
 case assign x=>exact ⟨_,_,rfl,h⟩
 case pick c a b =>
  split at h
  ·rename_i t ht;have:=CN h;refine ⟨if t then ρ a else ρ b,s,by simp only [cO,ht],?_⟩;cases t <;> simpa using this
  ·exact h.elim
 case alloc e =>
  split at h
  ·rename_i z J;cases D:z.cells.all AV.one with
   | false=>rw [D] at h;exact h.elim
   | true=>rw [D] at h;exact ⟨_,_,by simp only [cO,J,Option.bind_some,bN,D,if_true,Option.map_some],h⟩
  ·exact h.elim
 case box e x =>
  obtain ⟨cs,j,h2⟩:=Ow h;exact ⟨_,_,by simp only [cO,j,Option.map_some],h2⟩
 case build t parts =>
  obtain ⟨l,j,h2⟩:=h;exact ⟨_,_,by simp only [cO,j,Option.map_some],h2⟩
 case buildSlice t len parts =>
  obtain ⟨l,j,h2⟩:=h;exact ⟨_,_,by simp only [cO];exact Qe j,h2⟩
 case load t a =>
  split at h
  ·rename_i a' A;have h2:=zB h;clear h;obtain ⟨l,off,rfl,h⟩:=h2;split at h
   ·rename_i w;split at h
    ·rename_i n I;obtain ⟨cs,j,h2⟩:=h;exact ⟨_,_,by simp only [cO,HY,A,w,I,Option.bind_some,j,Option.map_some],h2⟩
    ·exact h.elim
   ·rename_i w;obtain ⟨v,j,h2⟩:=rd_some h;exact ⟨_,_,by simp only [cO,HY,A,w,j,Option.map_some],h2⟩
   ·exact h.elim
  ·exact h.elim
 case store t a x =>
  split at h
  ·rename_i a' A;have h2:=zB h;clear h;obtain ⟨l,off,rfl,h⟩:=h2;obtain ⟨s',j,h2⟩:=Ox h;exact ⟨_,_,by simp only [cO,A,j,Option.map_some],h2⟩
  ·exact h.elim
 case nilCheck x =>
  split at h
  ·rename_i a A;cases a with
   | none=>exact h.elim
   | some p=>exact ⟨_,_,by simp only [cO,A],h⟩
  ·rename_i A;exact ⟨_,_,by simp only [cO,A],h⟩
  ·rename_i A;exact ⟨_,_,by simp only [cO,A],h⟩
  ·rename_i A;exact ⟨_,_,by simp only [cO,A],h⟩
  ·exact h.elim
 case binOp op t x y L =>
  obtain ⟨j,r,h2,h3⟩:=Rb h;exact ⟨_,_,by simp only [cO,j,if_true,h2,Option.map_some],h3⟩
 case unOp op t x =>
  split at h
  ·rename_i B;exact ⟨_,_,by simp only [cO,V9,B,Option.map_some],h⟩
  ·rename_i B;exact ⟨_,_,by simp only [cO,V9,B,Option.map_some],h⟩
  ·rename_i B;obtain ⟨n,j,h2⟩:=h;exact ⟨_,_,by simp only [cO,B,j,Option.map_some],h2⟩
  ·obtain ⟨v,j,h2⟩:=h;exact ⟨_,_,by simp only [cO,j,Option.map_some],h2⟩
 case convert src dst x =>
  split at h
  ·rename_i hs hd;obtain ⟨b,j,h2⟩:=h;simp only [Option.map_eq_some_iff] at j;obtain ⟨⟨v,s'⟩,h3,h4⟩:=j;simp only at h4;subst h4;have F:s'=s:=by
    unfold cY at h3;split at h3 <;> try (first | (cases h3;done) | (simp only [Option.some.injEq,Prod.mk.injEq] at h3;exact h3.2.symm))
    ·rename_i e1 e2;rw [hd] at e1;cases e1
    ·split at h3
     ·split at h3
      ·simp only [Option.some.injEq,Prod.mk.injEq] at h3;exact h3.2.symm
      ·cases h3
     ·cases h3
    ·split at h3
     ·simp only [Option.some.injEq,Prod.mk.injEq] at h3;exact h3.2.symm
     ·cases h3
    ·split at h3
     ·split at h3
      ·simp only [Option.some.injEq,Prod.mk.injEq] at h3;exact h3.2.symm
      simp only [Option.bind_eq_some_iff,Option.map_eq_some_iff] at h3;obtain ⟨_,_,_,_,h3⟩:=h3;simp only [Prod.mk.injEq] at h3;exact h3.2.symm
     ·cases h3
    ·rename_i e1 e2;rw [hd] at e1;cases e1
   subst F;exact ⟨_,_,by simp only [cO];exact h3,h2⟩
  ·rename_i hs hd B;exact ⟨_,_,by simp only [cO,cY,hs,hd,B],h⟩
  ·rename_i hs hd B;exact ⟨_,_,by simp only [cO,cY,hs,hd,B],h⟩
  ·exact h
  ·rename_i hs hd B;obtain ⟨b,j,h2⟩:=h;simp only [Option.map_eq_some_iff] at j;obtain ⟨⟨v,s'⟩,h3,h4⟩:=j;simp only at h4;subst h4;have F:s'=s:=by
    unfold cY at h3;split at h3 <;> try (first | (cases h3;done) | (simp only [Option.some.injEq,Prod.mk.injEq] at h3;exact h3.2.symm))
    ·rename_i e1 e2;rw [hd] at e1;cases e1
    ·split at h3
     ·split at h3
      ·simp only [Option.some.injEq,Prod.mk.injEq] at h3;exact h3.2.symm
      ·cases h3
     ·cases h3
    ·split at h3
     ·simp only [Option.some.injEq,Prod.mk.injEq] at h3;exact h3.2.symm
     ·cases h3
    ·split at h3
     ·split at h3
      ·simp only [Option.some.injEq,Prod.mk.injEq] at h3;exact h3.2.symm
      simp only [Option.bind_eq_some_iff,Option.map_eq_some_iff] at h3;obtain ⟨_,_,_,_,h3⟩:=h3;simp only [Prod.mk.injEq] at h3;exact h3.2.symm
     ·cases h3
    ·rename_i e1 e2;rw [hd] at e1;cases e1
   subst F;exact ⟨_,_,by simp only [cO];exact h3,h2⟩
  ·exact h.elim
 case makeInterface t x =>
  split at h
  ·exact h.elim
  ·rename_i d hd hu;refine ⟨_,_,?_,h⟩;simp only [cO,hu]
  ·exact h.elim
 case makeFunc fn first captured =>
  cases fn with
  | func g =>
   simp only at h;cases D:first.isEmpty with
   | true=>rw [D] at h;exact ⟨_,_,by simp only [cO,D,if_true],h⟩
   | false=>rw [D] at h;exact ⟨_,_,by simp only [cO,D,Bool.false_eq_true,if_false],h⟩
  | _=>exact h.elim
 case makeMap t r =>
  cases r with
  | none =>
   simp only at h;split at h
   ·rename_i d hd;exact ⟨_,_,by simp only [cO,hd],h⟩
   ·exact h.elim
  | some r=>exact h.elim
 case makeSlice t l c=>exact h
 case slice t x lo hi M =>
  obtain ⟨v,j,h2⟩:=rd_some h;exact ⟨_,_,by simp only [cO,j,Option.map_some],h2⟩
 case fieldAddr t x f =>
  split at h
  ·rename_i a' A;have h2:=zB h;clear h;obtain ⟨l,off,rfl,h⟩:=h2;split at h
   ·rename_i v hv;exact ⟨_,_,by simp only [cO,A,hv,Option.map_some],h⟩
   ·exact h.elim
  ·exact h.elim
 case field t x f =>
  split at h
  ·rename_i fields cs hu B;split at h
   ·rename_i fd hf;split at h
    ·rename_i w;split at h
     ·rename_i n I;exact ⟨_,_,by simp only [cO,FW,hu,B,hf,Option.bind_some,part,w,I,Option.map_some],h⟩
     ·exact h.elim
    ·rename_i w;obtain ⟨v,j,h2⟩:=rd_some h;exact ⟨_,_,by simp only [cO,FW,hu,B,hf,Option.bind_some,part,w,j,Option.map_some],h2⟩
    ·exact h.elim
   ·exact h.elim
  ·exact h.elim
 case indexAddr t x ix =>
  obtain ⟨l,i,j,h2⟩:=h;exact ⟨_,_,by simp only [cO,j,Option.map_some],h2⟩
 case index t x ix =>
  obtain ⟨v,j,h2⟩:=rd_some h;exact ⟨_,_,by simp only [cO,j,Option.map_some],h2⟩
 case lookup t x ix ok =>
  obtain ⟨v,j,h2⟩:=rd_some h;exact ⟨_,_,by simp only [cO,j,Option.map_some],h2⟩
 case mapUpdate t m k v =>
  obtain ⟨s',j,h2⟩:=h;exact ⟨_,_,by simp only [cO,j,Option.map_some],h2⟩
 case insert t m k v =>
  obtain ⟨s',j,h2⟩:=h;exact ⟨_,_,by simp only [cO,j,Option.map_some],h2⟩
 case extract t i =>
  split at h
  ·rename_i vs hv;split at h
   ·rename_i v hi;exact ⟨_,_,by simp only [cO,hv,hi,Option.map_some],h⟩
   ·exact h.elim
  ·exact h.elim
 case call c =>
  cases C:c.callee with
  | value x=>rw [G] at H;simp only [Kk,C] at H;cases H
  | builtin b =>
   rw [C] at h;simp only at h;obtain ⟨v,s',j,h2⟩:=Kj h;exact ⟨v,s',by simp only [cO,C,j],h2⟩
  | invoke x m=>rw [C] at h;exact h.elim
 case range t x=>exact h
 case entry it =>
  obtain ⟨v,j,h2⟩:=rd_some h;exact ⟨_,_,by simp only [cO,j,Option.map_some],h2⟩
 case sliceToArrayPointer t x =>
  obtain ⟨a,j,h2⟩:=h;exact ⟨_,_,by simp only [cO,j,Option.map_some],h2⟩
 all_goals exact h.elim
theorem ud {o:Oper} {f:Fr} {s:AS} {K:AV->AS->Prop} (h:Sn P T o (pW f) s K):CK P T o f s K:=by
 cases b:Kk o.op with
 | false =>
  have j:fq f o.op=none:=by
   unfold Kk at b;unfold fq;split
   ·rename_i c d;rw [d] at b;simp only at b;split
    ·rename_i x e;rw [e] at b;cases b
    ·rfl
   ·rfl
  unfold CK;rw [j];exact FB b h
 | true =>
  unfold Kk at b;split at b
  ·rename_i c d;split at b
   ·rename_i x e;unfold Sn at h;rw [d] at h;simp only [e] at h;unfold CK fq;rw [d];simp only [e];unfold eK at h;split at h
    ·rename_i g cap hv;rw [hv];exact h.mono fun v s i=>AY i
    ·rename_i g ft cap hv;rw [hv];exact h.mono fun v s i=>AY i
    ·exact h.elim
   ·cases b
  ·cases b
end
end
section
def gr:Op->Bool
 | .move _ | .assign _ | .pick .. | .binOp .. | .unOp .. | .fieldAddr .. | .field .. | .indexAddr .. | .index .. | .slice .. | .extract ..=>true
 | _=>false
def ue:Op->Bool
 | .call _=>false
 | _=>true
theorem gT {op:Op} (h:ue op=true) (f:Fr):fq f op=none:=by
 cases op <;> first | rfl | cases h
theorem xh {op:Op} (h:gr op=true):ue op=true:=by
 cases op <;> first | rfl | cases h
theorem AZ {T:TT} {op:Op} (k:gr op=true) {ρ:Operand->AV} {s s1:AS} {v:AV} (h:cO T op ρ s=some (v,s1)):s1=s/\∀ s',cO T op ρ s'=some (v,s'):=by
 have key:∀ x:Option AV,x.map (·,s)=some (v,s1)->s1=s/\∀ s':AS,x.map (·,s')=some (v,s'):=by
  intro x e;cases x with
  | none=>cases e
  | some u =>
   obtain ⟨rfl,rfl⟩:u=v/\s=s1:=by simpa using e
   exact ⟨rfl,fun s'=>rfl⟩
 have d:∀ u:AV,some (u,s)=some (v,s1)->s1=s/\∀ s':AS,some (u,s')=some (v,s'):=by
  intro u e;obtain ⟨rfl,rfl⟩:u=v/\s=s1:=by simpa using e
  exact ⟨rfl,fun s'=>rfl⟩
 cases op with
 | pick c a b =>
  simp only [cO] at h ⊢;generalize ρ c=x at h ⊢;cases x <;> first | exact d _ h | cases h
 | binOp op t x y l =>
  simp only [cO] at h ⊢;by_cases j:Oc T t x y (ρ x) (ρ y)=true
  ·rw [if_pos j] at h;simp only [if_pos j];exact key _ h
  ·rw [if_neg j] at h;cases h
 | extract t i =>
  simp only [cO] at h ⊢;generalize ρ t=x at h ⊢;cases x <;> first | exact key _ h | cases h
 | _=>first
  | (simp [gr] at k;done)
  | (simp only [cO] at h ⊢;exact key _ h)
  | (simp only [cO] at h ⊢;exact d _ h)
def mR:Op->Bool
 | .load .. | .lookup .. | .nilCheck _=>true
 | o=>gr o
theorem D2 {op:Op} (h:mR op=true):ue op=true:=by
 cases op <;> first | rfl | cases h
theorem SL {T : TT} {op : Op} (d : mR op = true) {ρ : Operand -> AV} {s s1 : AS} {v : AV} (h : cO T op ρ s = some (v, s1)) : s1 = s := by
  have key : ∀ x : Option AV, x.map (·, s) = some (v, s1) -> s1 = s := by
    intro x b;cases x with
    | none => cases b
    | some u =>
      obtain ⟨rfl, rfl⟩ : u = v /\ s = s1 := by simpa using b
      rfl
  by_cases c : gr op = true
  · exact (AZ c h).1
  cases op <;> first
    | (simp only [cO] at h
       split at h <;> first
         | (simp only [Option.some.injEq, Prod.mk.injEq] at h; exact h.2.symm)
         | cases h)
    | exact absurd d c
    | (simp only [cO] at h; exact key _ h)
def qw:Op->Bool
 | .alloc _=>true
 | _=>false
theorem L7 {op:Op} (h:mR op=true):mQ op=true:=by
 cases op <;> first | rfl | cases h
theorem Oy {T:TT} {op:Op} (d:qw op=true) {ρ:Operand->AV} {s s1:AS} {v:AV} (i:aJ s) (h:cO T op ρ s=some (v,s1)):Ext s s1/\∀ b,cO T op b s=some (v,s1):=by
 cases op with
 | alloc e =>
  refine ⟨?_,fun b=>h⟩;simp only [cO,Option.bind_eq_some_iff,Option.map_eq_some_iff,Prod.mk.injEq] at h;obtain ⟨z,_,cs,_,_,rfl⟩:=h;have j:s.h s.nl=none:=by simpa using i.2 0
  refine ⟨fun l x c=>?_,by rw [AS.uT];omega⟩;rw [AS.o_ _ rfl,if_neg]
  ·exact c
  ·rintro rfl;rw [j] at c;cases c
 | _=>cases d
section
variable {P:Program} {T:TT} {n:Nat} {ops:Array Oper}
theorem CK.mono {o:Oper} {f:Fr} {s:AS} {R R':AV->AS->Prop} (h:CK P T o f s R) (hr:∀ v s',R v s'->R' v s'):CK P T o f s R':=by
 unfold CK at h ⊢;split
 ·rename_i g args c;rw [c] at h;exact h.mono hr
 ·rename_i c;rw [c] at h;obtain ⟨v,s',a,b⟩:=h;exact ⟨v,s',a,hr _ _ b⟩
def uf (P:Program) (T:TT) (n:Nat) (ops:Array Oper) (o:Oper) (f:Fr) (s:AS) (K:Fr->AS->Prop):Prop :=
 match dB ops f o with
 | some true=>eu n o.dst=true/\CK P T o f s fun v s'=>K (bU f o.dst v) s'
 | some false=>eu n o.dst=true/\K (bU f o.dst .undef) s
 | none=>False
theorem uf.mono {o:Oper} {f:Fr} {s:AS} {K K':Fr->AS->Prop} (h:uf P T n ops o f s K) (c:∀ f s,K f s->K' f s):uf P T n ops o f s K':=by
 unfold uf at h ⊢;split
 ·rename_i b;rw [b] at h;exact ⟨h.1,CK.mono h.2 fun v s' d=>c _ _ d⟩
 ·rename_i b;rw [b] at h;exact ⟨h.1,c _ _ h.2⟩
 ·rename_i b;rw [b] at h;exact h
def r0 (P:Program) (T:TT) (n:Nat) (ops:Array Oper) (K:Fr->AS->Prop):List Nat->Fr->AS->Prop
 | [],f,s=>K f s
 | i::b,f,s=>match ops[i]? with
  | some o=>uf P T n ops o f s (r0 P T n ops K b)
  | none=>False
theorem va (c:∀ (i:Nat) o,ops[i]? = some o->zx o.op=false) {K:Fr->AS->Prop}:∀ (j k:Nat) (f:Fr) (s:AS),k+j=ops.size->fI P T n ops (ops.toList.drop k) f s K->r0 P T n ops K (List.range' k j) f s
 | 0,k,f,s,w,h=>by
  rw [List.drop_eq_nil_of_le (by simp;omega)] at h;exact h
 | j+1,k,f,s,w,h=>by
  have d:k<ops.size:=by omega
  have e:ops.toList.drop k=ops[k]::ops.toList.drop (k+1):=by
   rw [List.drop_eq_getElem_cons (by simpa using d)];simp
  rw [e] at h;simp only [List.range'_succ,r0,Array.getElem?_eq_getElem d];simp only [fI] at h;unfold uf;split at h
  ·rename_i m;rw [m];obtain ⟨x,h2⟩:=h;refine ⟨x,?_⟩;rcases h2 with h2 | ⟨l,r,_⟩
   rotate_left
   ·rw [zy (c k _ (Array.getElem?_eq_getElem d))] at r;cases r
   unfold CK;split
   ·rename_i g args p;rw [p] at h2;exact h2.mono fun v s' y=>va c j (k+1) _ _ (by omega) y
   ·rename_i p;rw [p] at h2;obtain ⟨v,s',a,b⟩:=h2;exact ⟨v,s',a,va c j (k+1) _ _ (by omega) b⟩
  ·rename_i m;rw [m];exact ⟨h.1,va c j (k+1) _ _ (by omega) h.2⟩
  ·exact h.elim
def dX (T:TT) (n:Nat) (ops:Array Oper) (o:Oper) (f:Fr) (u:AV):Prop :=
 eu n o.dst=true/\((dB ops f o=some false/\u=.undef)\/(dB ops f o=some true/\∀ s,cO T o.op (pW f) s=some (u,s)))
theorem CO {o:Oper} (hp:gr o.op=true) {f:Fr} {s:AS} {K:Fr->AS->Prop} (h:uf P T n ops o f s K):∃ u,dX T n ops o f u/\K (bU f o.dst u) s:=by
 unfold uf at h;split at h
 ·rename_i d;obtain ⟨e,h2⟩:=h;unfold CK at h2;rw [gT (xh hp)] at h2;obtain ⟨v,s',a,b⟩:=h2;obtain ⟨rfl,c⟩:=AZ hp a;exact ⟨v,⟨e,.inr ⟨d,c⟩⟩,b⟩
 ·rename_i d;exact ⟨_,⟨h.1,.inl ⟨d,rfl⟩⟩,h.2⟩
 ·exact h.elim
theorem dX.step {o:Oper} (hp:gr o.op=true) {f:Fr} {u:AV} (h:dX T n ops o f u) {s:AS} {K:Fr->AS->Prop} (c:K (bU f o.dst u) s):uf P T n ops o f s K:=by
 obtain ⟨d,⟨b,rfl⟩ | ⟨b,e⟩⟩:=h
 ·unfold uf;rw [b];exact ⟨d,c⟩
 ·unfold uf;rw [b];refine ⟨d,?_⟩;unfold CK;rw [gT (xh hp)];exact ⟨_,_,e s,c⟩
theorem dX.same {o:Oper} {f:Fr} {d:Option Nat} {v u:AV} (h:∀ t,d=some t->t ∉ o.looksAt ops):dX T n ops o (bU f d v) u↔dX T n ops o f u:=by
 obtain ⟨l1,_,l3⟩:=fC (T:=T) (ops:=ops) (o:=o) (f:=f) (d:=d) (v:=v) h;unfold dX;rw [l1];simp only [l3]
def L8 (T:TT) (n:Nat) (ops:Array Oper) (o:Oper) (f:Fr) (s:AS) (u:AV):Prop :=
 eu n o.dst=true/\((dB ops f o=some false/\u=.undef)\/(dB ops f o=some true/\cO T o.op (pW f) s=some (u,s)))
theorem yE {o:Oper} (hp:mR o.op=true) {f:Fr} {s:AS} {K:Fr->AS->Prop} (h:uf P T n ops o f s K):∃ u,L8 T n ops o f s u/\K (bU f o.dst u) s:=by
 unfold uf at h;split at h
 ·rename_i c;obtain ⟨d,h2⟩:=h;unfold CK at h2;rw [gT (D2 hp)] at h2;obtain ⟨v,s',a,b⟩:=h2;obtain rfl:=SL hp a;exact ⟨v,⟨d,.inr ⟨c,a⟩⟩,b⟩
 ·rename_i c;exact ⟨_,⟨h.1,.inl ⟨c,rfl⟩⟩,h.2⟩
 ·exact h.elim
theorem L8.step {o:Oper} (hp:mR o.op=true) {f:Fr} {s:AS} {u:AV} (h:L8 T n ops o f s u) {K:Fr->AS->Prop} (c:K (bU f o.dst u) s):uf P T n ops o f s K:=by
 obtain ⟨d,⟨b,rfl⟩ | ⟨b,e⟩⟩:=h
 ·unfold uf;rw [b];exact ⟨d,c⟩
 ·unfold uf;rw [b];refine ⟨d,?_⟩;unfold CK;rw [gT (D2 hp)];exact ⟨_,_,e,c⟩
theorem L8.same {o:Oper} {f:Fr} {d:Option Nat} {v u:AV} {s:AS} (h:∀ t,d=some t->t ∉ o.looksAt ops):L8 T n ops o (bU f d v) s u↔L8 T n ops o f s u:=by
 obtain ⟨l1,_,l3⟩:=fC (T:=T) (ops:=ops) (o:=o) (f:=f) (d:=d) (v:=v) h;unfold L8;rw [l1];simp only [l3]
theorem SM {oi oj:Oper} (r:oi.apart ops oj=true) (hp:gr oi.op=true\/(gr oj.op=true/\ue oi.op=true)\/(mR oi.op=true/\mR oj.op=true)) {f:Fr} {s:AS} {K:Fr->AS->Prop}
  (h:uf P T n ops oi f s fun f s=>uf P T n ops oj f s K):uf P T n ops oj f s fun f s=>uf P T n ops oi f s K:=by
 obtain ⟨i,w,j⟩:=Oper.apart_spec r;have c:∀ u v,bU (bU f oi.dst u) oj.dst v=bU (bU f oj.dst v) oi.dst u:=fun u v=>CL w;rcases hp with hp | ⟨hp,x⟩ | ⟨hp,p⟩
 rotate_left 2
 ·obtain ⟨u,hu,e⟩:=yE hp h;obtain ⟨v,hv,e⟩:=yE p e;refine L8.step p ((L8.same i).1 hv) (L8.step hp ((L8.same j).2 hu) ?_);rw [<- c];exact e
 ·obtain ⟨u,hu,e⟩:=CO hp h;have l:=fC (T:=T) (ops:=ops) (o:=oj) (f:=f) (d:=oi.dst) (v:=u) i;unfold uf at e ⊢;rw [l.1] at e;split
  ·rename_i k;rw [k] at e;refine ⟨e.1,CK.mono ((xg i).1 e.2) fun v s' y=>?_⟩;refine dX.step hp ((dX.same j).2 hu) ?_;rw [<- c];exact y
  ·rename_i k;rw [k] at e;refine ⟨e.1,dX.step hp ((dX.same j).2 hu) ?_⟩;rw [<- c];exact e.2
  ·rename_i k;rw [k] at e;exact e
 ·unfold uf at h;split at h
  ·rename_i k;obtain ⟨z,h2⟩:=h;unfold CK at h2;rw [gT x] at h2;obtain ⟨v,s',a,b⟩:=h2;obtain ⟨u,hu,e⟩:=CO hp b;have m:=(dX.same i).1 hu;refine dX.step hp m ?_;have l:=fC (T:=T) (ops:=ops) (o:=oi) (f:=f) (d:=oj.dst) (v:=u) j;unfold uf;rw [l.1,k];refine ⟨z,?_⟩;unfold CK;rw [gT x];exact ⟨v,s',by rw [l.2.2];exact a,by show K (bU (bU f oj.dst u) oi.dst v) s';rw [<- c];exact e⟩
  ·rename_i k;obtain ⟨u,hu,e⟩:=CO hp h.2;have m:=(dX.same i).1 hu;refine dX.step hp m ?_;have l:=fC (T:=T) (ops:=ops) (o:=oi) (f:=f) (d:=oj.dst) (v:=u) j;unfold uf;rw [l.1,k];exact ⟨h.1,by rw [<- c];exact e⟩
  ·exact h.elim
theorem Gt {oi oj:Oper} (p:oi.apart ops oj=true) (hp:mR oi.op=true) (j:qw oj.op=true) {f:Fr} {s:AS} (z:aJ s) {K:Fr->AS->Prop}
  (h:uf P T n ops oi f s fun f s=>uf P T n ops oj f s K):uf P T n ops oj f s fun f s=>uf P T n ops oi f s K:=by
 obtain ⟨r,w,k⟩:=Oper.apart_spec p;have c:∀ u v,bU (bU f oi.dst u) oj.dst v=bU (bU f oj.dst v) oi.dst u:=fun u v=>CL w;have x:∀ f,fq f oj.op=none:=fun f=>by
  cases A:oj.op <;> first | rfl | (rw [A] at j;cases j)
 obtain ⟨u,hu,i⟩:=yE hp h;have l:=fC (T:=T) (ops:=ops) (o:=oj) (f:=f) (d:=oi.dst) (v:=u) r;unfold uf at i ⊢;rw [l.1] at i;split
 ·rename_i e;rw [e] at i;obtain ⟨B,h2⟩:=i;refine ⟨B,?_⟩;unfold CK at h2 ⊢;rw [x] at h2 ⊢;obtain ⟨v,s',a,b⟩:=h2;obtain ⟨C,m⟩:=Oy j z a;refine ⟨v,s',m _,?_⟩;have y:L8 T n ops oi f s' u:=by
   obtain ⟨D,F⟩:=hu;refine ⟨D,F.imp id fun ⟨G,H⟩=>⟨G,CJ (L7 hp) z.1 H C⟩⟩
  refine L8.step hp ((L8.same k).2 y) ?_;rw [<- c];exact b
 ·rename_i e;rw [e] at i;refine ⟨i.1,L8.step hp ((L8.same k).2 hu) ?_⟩;rw [<- c];exact i.2
 ·rename_i e;rw [e] at i;exact i
def Jf (ops:Array Oper) (oi oj:Oper):Prop:=oi.apart ops oj=true/\((mR oi.op=true/\qw oj.op=true)\/(qw oj.op=false/\(gr oi.op=true\/(gr oj.op=true/\ue oi.op=true)\/(mR oi.op=true/\mR oj.op=true))))
theorem yF {K:Fr->AS->Prop} {j:Nat} {oj:Oper} (l:ops[j]? = some oj):∀ (pre post:List Nat) (f:Fr) (s:AS),(qw oj.op=true->aJ s)->(∀ i∈pre,∀ oi,ops[i]? = some oi->Jf ops oi oj) ->
  r0 P T n ops K (pre++j::post) f s->uf P T n ops oj f s (r0 P T n ops K (pre++post))
 | [],post,f,s,_,_,h=>by simpa only [List.nil_append,r0,l] using h
 | i::pre,post,f,s,m,b,h=>by
  simp only [List.cons_append,r0] at h;cases d:ops[i]? with
  | none=>rw [d] at h;exact h.elim
  | some oi =>
   rw [d] at h;obtain ⟨w,h2⟩:=b i (by simp) oi d;rcases h2 with ⟨c,e⟩ | ⟨e,h2⟩
   ·have o:=m e;obtain ⟨u,hu,x⟩:=yE c h;have h3:uf P T n ops oi f s fun f s=>uf P T n ops oj f s (r0 P T n ops K (pre++post)) :=
     L8.step c hu (yF l pre post _ s m (fun k r=>b k (List.mem_cons_of_mem _ r)) x)
    refine uf.mono (Gt w c e o h3) fun f s p=>?_;simp only [List.cons_append,r0,d];exact p
   have h3:uf P T n ops oi f s fun f s=>uf P T n ops oj f s (r0 P T n ops K (pre++post)) :=
    uf.mono h fun f s p=>yF l pre post f s (fun h=>by rw [e] at h;cases h) (fun k r=>b k (List.mem_cons_of_mem _ r)) p
   refine uf.mono (SM w h2 h3) fun f s p=>?_;simp only [List.cons_append,r0,d];exact p
def Kl (ops:Array Oper) (bs:List Nat):Bool :=
 decide (Region.before ops=bs.toArray) &&
 (List.range ops.size).all fun i=>(ops[i]?).all (fun o=>o.after.toList.all fun e=>decide (e.on<i)||!Region.binds .any e) &&
  (List.range i).all fun j=>(bs.getD i 0).testBit j||((ops[j]?).any fun x=>(ops[i]?).any fun y=>x.apart ops y&&((mR x.op&&qw y.op)||(!qw y.op&&(gr x.op||(gr y.op&&ue x.op)||(mR x.op&&mR y.op)))))
structure Jg (ops:Array Oper):Prop where
 back:∀ (i:Nat) o,ops[i]? = some o->∀ e∈o.after.toList,Region.binds .any e=true->e.on<i
 free:∀ i,i<ops.size->∀ j,j<i->iH ops j i=true\/∃ x y,ops[j]? = some x/\ops[i]? = some y/\Jf ops x y
theorem Rc {ops:Array Oper} {bs:List Nat} (h:Kl ops bs=true):Jg ops:=by
 simp only [Kl,Bool.and_eq_true,decide_eq_true_eq,List.all_eq_true,List.mem_range] at h;obtain ⟨hb,h⟩:=h;have b:∀ j i,iH ops j i=(bs.getD i 0).testBit j:=by
  intro j i;unfold iH;rw [hb];simp [List.getD_eq_getElem?_getD]
 have d:∀ (i:Nat) o,ops[i]? = some o->i<ops.size:=by
  intro i o c;rcases Nat.lt_or_ge i ops.size with h | h
  ·exact h
  ·simp [Array.getElem?_eq_none h] at c
 refine ⟨fun i o c e l k=>?_,fun i hi j hj=>?_⟩
 ·have:=(h i (d i o c)).1;rw [c] at this;simp only [Option.all_some,List.all_eq_true,Bool.or_eq_true,decide_eq_true_eq] at this;rcases this e l with h | h
  ·exact h
  ·rw [k] at h;simp at h
 ·have:=(h i hi).2 j hj;simp only [Bool.or_eq_true] at this;rcases this with h | h
  ·exact .inl (by rw [b];exact h)
  ·simp only [Option.any_eq_true,Bool.and_eq_true,Bool.or_eq_true] at h;obtain ⟨x,m,y,n,p,h2⟩:=h;exact .inr ⟨x,y,m,n,p,h2.elim .inl fun h=>.inr ⟨by simpa using h.1,h.2.elim (fun h=>h.elim .inl fun h=>.inr (.inl h)) fun h=>.inr (.inr h)⟩⟩
theorem Oz (hT:TT.Ok P T) (hD:Jg ops) {Q:Exit->Fr->AS->Prop} {B:Nat} {Gm:bT} {s0:AS} {w0:World} :
  ∀ (fuel:Nat) (q:List Nat) (listed:Array Bool) (f:Fr) (s:AS) (γ:bT) (a:Act) (w:World),
  q.Pairwise (·<·)->(∀ i∈q,i<ops.size)->iO ops listed (fun i=>i<ops.size/\i ∉ q)->q.length<=fuel ->
  r0 P T n ops (fun f s=>Q .normal f s) q f s ->
  oh γ n f a->Rel B γ s w->gq B Gm s0 w0 γ s w->Down ops listed ->
  wpAny P .any ops (v_ B Gm s0 w0 n Q) fuel listed a w:=by
 have D:∀ {listed:Array Bool},iO ops listed (fun i=>i<ops.size/\i ∉ ([]:List Nat))->Region.ready .any ops listed=[]:=by
  intro listed r;rw [List.eq_nil_iff_forall_not_mem];intro i hi;obtain ⟨o,F,hp,_⟩:=(fu r i).1 hi;refine hp ⟨?_,by simp⟩;rcases Nat.lt_or_ge i ops.size with h | h
  ·exact h
  ·simp [Array.getElem?_eq_none h] at F
 intro fuel
 induction fuel with
 | zero =>
  intro q listed f s γ a w c A r hf h d hr hd j;obtain rfl:q=[]:=List.length_eq_zero_iff.1 (by omega);exact ⟨D r,γ,f,s,d,hd,hr,h⟩
 | succ fuel ih =>
  intro q listed f s γ a w c A r hf h d hr hd j;cases q with
  | nil =>
   refine ⟨fun _=>⟨γ,f,s,d,hd,hr,h⟩,fun i hi=>?_⟩;rw [D r] at hi;cases hi
  | cons L q' =>
   refine ⟨fun M=>?_,fun i hi=>?_⟩
   ·exfalso;have O:=A L (by simp);have:L∈Region.ready .any ops listed:=by
     refine (fu r L).2 ⟨_,Array.getElem?_eq_getElem O,by simp,fun e W hb=>?_⟩;have:=hD.back L _ (Array.getElem?_eq_getElem O) e W hb;refine (r.iff e.on (by omega)).2 ⟨by omega,?_⟩;simp only [List.mem_cons,not_or];refine ⟨by omega,fun hm=>?_⟩;have:=(List.pairwise_cons.1 c).1 e.on hm;omega
    rw [M] at this;cases this
   ·obtain ⟨o,F,hp,W⟩:=(fu r i).1 hi;have J:i<ops.size:=by
     rcases Nat.lt_or_ge i ops.size with h | h
     ·exact h
     ·simp [Array.getElem?_eq_none h] at F
    have Z:i∈L::q':=by
     by_cases h:i∈L::q'
     ·exact h
     ·exact absurd ⟨J,h⟩ hp
    obtain ⟨pre,post,hq⟩:=List.append_of_mem Z;rw [hq] at h c A r hf;have G:∀ k∈pre,k<i:=by
     intro k p;have:=(List.pairwise_append.1 c).2.2 k p i (by simp);exact this
    have K:∀ k∈pre,∀ ok,ops[k]? = some ok->Jf ops ok o:=by
     intro k p ok z;have C:=G k p;have ab:k<ops.size:=by omega
     rcases hD.free i J k C with h | ⟨x,y,X,Y,h⟩
     ·exfalso;have:=jU j i o F W h;have:=(r.iff k ab).1 this;exact absurd (by simp [p]:k∈pre++i::post) this.2
     ·rw [z] at X;rw [F] at Y;obtain rfl:=Option.some.inj X;obtain rfl:=Option.some.inj Y;exact h
    have b:=yF F pre post f s (fun _=>hr.N9) K h;have l:(pre++post).Pairwise (·<·):=by
     have:=List.pairwise_append.1 c;rw [List.pairwise_append];exact ⟨this.1,(List.pairwise_cons.1 this.2.1).2,fun x X y Y=>this.2.2 x X y (by simp [Y])⟩
    have H:i ∉ pre++post:=by
     intro hm;rcases List.mem_append.1 hm with h | h
     ·have:=G i h;omega
     ·have:=(List.pairwise_cons.1 (List.pairwise_append.1 c).2.1).1 i h;omega
    have R:iO ops (listed.setIfInBounds i true) (fun k=>k<ops.size/\k ∉ pre++post):=by
     refine r.set fun k=>?_;simp only [List.mem_append,List.mem_cons,not_or];constructor
     ·rintro ⟨S,h2,h3⟩;by_cases p:k=i
      ·exact .inl p
      ·exact .inr ⟨S,h2,p,h3⟩
     ·rintro (rfl | ⟨S,h2,h3,h4⟩)
      ·simp only [List.mem_append,not_or] at H;exact ⟨J,H⟩
      ·exact ⟨S,h2,h4⟩
    have m:Down ops (listed.setIfInBounds i true):=by
     intro k ok z p e U hb;have mono:listed.getD e.on false=true->(listed.setIfInBounds i true).getD e.on false=true:=by
      intro h;have ad:e.on<listed.size:=by
       rcases Nat.lt_or_ge e.on listed.size with h' | h'
       ·exact h'
       ·simp [Array.getD_eq_getD_getElem?,Array.getElem?_eq_none h'] at h
      simp only [Array.getD_eq_getD_getElem?,Array.getElem?_setIfInBounds] at h ⊢;split
      ·rename_i ae;subst ae;simp [ad]
      ·exact h
     by_cases C:i=k
     ·subst C;rw [F] at z;obtain rfl:=Option.some.inj z;exact mono (W e U hb)
     ·refine mono (j k ok z ?_ e U hb);simp only [Array.getD_eq_getD_getElem?,Array.getElem?_setIfInBounds] at p ⊢;rw [if_neg C] at p;exact p
    have hlen:(pre++post).length<=fuel:=by simp at hf ⊢;omega
    have I:∀ k∈pre++post,k<ops.size:=fun k p=>A k (by rcases List.mem_append.1 p with h | h <;> simp [h]);unfold wpOp;rw [F];simp only;unfold uf at b;split at b
    ·rename_i hw;rw [eJ d hw,if_pos rfl];have al:Gl P T n o f s (r0 P T n ops (fun f s=>Q .normal f s) (pre++post)):=mq b.1 b.2 fun v s' hh=>hh;refine .inl (jT hT al d hr ?_);intro γ' f' s' a' w' S h2 h3 h4;exact ih _ _ _ s' γ' a' w' l I R hlen h4 S h3 (hd.trans h2) m
    ·rename_i hw;rw [eJ d hw,if_neg (by simp)];exact ih _ _ _ s γ _ w l I R hlen b.2 (d.put b.1 (pX γ)) hr hd m
    ·exact b.elim
theorem kX.calm (hT:TT.Ok P T) (bX:P.follows .mixedOrders=true) {id:Nat} {f:Fr} {s:AS} {Q:Exit->Fr->AS->Prop} {bs:List Nat} (c:Kl ops bs=true) (b:(ops.toList.all fun o=>!zx o.op)=true)
  (h:fI P T n ops ops.toList f s fun f s=>Q .normal f s):kX P n (.region id ops true) f s Q:=by
 intro B γ a w hf hr;have k:=Rc c;refine wp_region_any bX ?_;have e:=va (ops:=ops) (fun i o j=>by
  rw [List.all_eq_true] at b;simpa using b o (List.mem_iff_getElem?.2 ⟨i,by simpa using j⟩)) ops.size 0 f s (by omega) (by simpa using h)
 rw [<- List.range_eq_range'] at e;refine Oz hT k ops.size (List.range ops.size) _ f s γ a { w with drawn:=w.drawn+1 } List.pairwise_lt_range (fun i hi=>List.mem_range.1 hi) ⟨by simp,fun i hi=>?_⟩ (by simp) e hf (hr.of_heap rfl) (gq.of_heap rfl) ?_
 ·simp [Array.getD_eq_getD_getElem?,hi]
 ·intro i o j d;simp only [Array.getD_eq_getD_getElem?] at d;by_cases hi:i<ops.size
  ·simp [hi] at d
  ·simp [hi] at d
end
end
section
section
variable {P:Program} {T:TT} {n:Nat} {ops:Array Oper}
theorem D3 {K:Fr->AS->Prop}:∀ (L:List Nat) (f:Fr) (s:AS),(∀ i∈L,i<ops.size)->(∀ i∈L,∀ o,ops[i]? = some o->zx o.op=false) ->
  fI P T n ops (L.filterMap fun i=>ops[i]?) f s K->r0 P T n ops K L f s
 | [],f,s,_,_,h=>h
 | i::L,f,s,c,d,h=>by
  have e:=c i (by simp);have k:ops[i]? = some ops[i]:=Array.getElem?_eq_getElem e;simp only [List.filterMap_cons,k] at h;simp only [r0,k];have rc:=fun f s=>D3 (K:=K) L f s (fun j hj=>c j (by simp [hj])) (fun j hj=>d j (by simp [hj]));simp only [fI] at h;unfold uf;split at h
  ·rename_i m;rw [m];obtain ⟨w,h2⟩:=h;refine ⟨w,?_⟩;rcases h2 with h2 | ⟨l,r,_⟩
   rotate_left
   ·rw [zy (d i (by simp) _ k)] at r;cases r
   unfold CK;split
   ·rename_i g args p;rw [p] at h2;exact h2.mono fun v s' x=>rc _ _ x
   ·rename_i p;rw [p] at h2;obtain ⟨v,s',a,b⟩:=h2;exact ⟨v,s',a,rc _ _ b⟩
  ·rename_i m;rw [m];exact ⟨h.1,rc _ _ h.2⟩
  ·exact h.elim
theorem exists_least:∀ (L:List Nat),L≠[]->∃ m∈L,∀ j∈L,m<=j
 | [],h=>absurd rfl h
 | [x],_=>⟨x,by simp,by simp⟩
 | x::y::L,_=>by
  obtain ⟨m,hm,b⟩:=exists_least (y::L) (by simp);rcases Nat.le_total x m with h | h
  ·exact ⟨x,by simp,fun j hj=>by
    rcases List.mem_cons.1 hj with rfl | hj
    ·exact Nat.le_refl _
    ·exact Nat.le_trans h (b j hj)⟩
  ·exact ⟨m,by simp [hm],fun j hj=>by
    rcases List.mem_cons.1 hj with rfl | hj
    ·exact h
    ·exact b j hj⟩
def YX (ops:Array Oper) (k i:Nat):Prop:=iH ops k i=true\/∃ x y,ops[k]? = some x/\ops[i]? = some y/\Jf ops x y
theorem L9 (hT:TT.Ok P T) (M:∀ (i:Nat) o,ops[i]? = some o->∀ e∈o.after.toList,Region.binds .any e=true->e.on<i) {Q:Exit->Fr->AS->Prop} {B:Nat} {Gm:bT} {s0:AS} {w0:World} :
  ∀ (fuel:Nat) (q:List Nat) (listed:Array Bool) (f:Fr) (s:AS) (γ:bT) (a:Act) (w:World),
  q.Nodup->q.Pairwise (YX ops)->(∀ i∈q,i<ops.size)->iO ops listed (fun i=>i<ops.size/\i ∉ q)->q.length<=fuel ->
  r0 P T n ops (fun f s=>Q .normal f s) q f s ->
  oh γ n f a->Rel B γ s w->gq B Gm s0 w0 γ s w->Down ops listed ->
  wpAny P .any ops (v_ B Gm s0 w0 n Q) fuel listed a w:=by
 have D:∀ {listed:Array Bool},iO ops listed (fun i=>i<ops.size/\i ∉ ([]:List Nat))->Region.ready .any ops listed=[]:=by
  intro listed m;rw [List.eq_nil_iff_forall_not_mem];intro i hi;obtain ⟨o,F,hp,_⟩:=(fu m i).1 hi;refine hp ⟨?_,by simp⟩;rcases Nat.lt_or_ge i ops.size with h | h
  ·exact h
  ·simp [Array.getElem?_eq_none h] at F
 intro fuel
 induction fuel with
 | zero =>
  intro q listed f s γ a w z A p m hf h c hr hd d;obtain rfl:q=[]:=List.length_eq_zero_iff.1 (by omega);exact ⟨D m,γ,f,s,c,hd,hr,h⟩
 | succ fuel ih =>
  intro q listed f s γ a w z A p m hf h c hr hd d;by_cases R:q=[]
  ·subst R;refine ⟨fun _=>⟨γ,f,s,c,hd,hr,h⟩,fun i hi=>?_⟩;rw [D m] at hi;cases hi
  ·refine ⟨fun S=>?_,fun i hi=>?_⟩
   ·exfalso;obtain ⟨q0,U,C⟩:=exists_least q R;have W:=p q0 U;have:q0∈Region.ready .any ops listed:=by
     refine (fu m q0).2 ⟨_,Array.getElem?_eq_getElem W,fun h=>h.2 U,fun e he hb=>?_⟩;have:=M q0 _ (Array.getElem?_eq_getElem W) e he hb;refine (m.iff e.on (by omega)).2 ⟨by omega,fun hm=>?_⟩;have:=C e.on hm;omega
    rw [S] at this;cases this
   ·obtain ⟨o,F,hp,he⟩:=(fu m i).1 hi;have X:i<ops.size:=by
     rcases Nat.lt_or_ge i ops.size with h | h
     ·exact h
     ·simp [Array.getElem?_eq_none h] at F
    have ad:i∈q:=by
     by_cases h:i∈q
     ·exact h
     ·exact absurd ⟨X,h⟩ hp
    obtain ⟨pre,post,hq⟩:=List.append_of_mem ad;rw [hq] at h z A p m hf;have O:∀ k∈pre,∀ ok,ops[k]? = some ok->Jf ops ok o:=by
     intro k l ok r;have ae:k<ops.size:=p k (by simp [l]);rcases (List.pairwise_append.1 A).2.2 k l i (by simp) with h | ⟨x,y,hx,hy,h⟩
     ·exfalso;have:=jU d i o F he h;have:=(m.iff k ae).1 this;exact absurd (by simp [l]:k∈pre++i::post) this.2
     ·rw [r] at hx;rw [F] at hy;obtain rfl:=Option.some.inj hx;obtain rfl:=Option.some.inj hy;exact h
    have b:=yF F pre post f s (fun _=>hr.N9) O h;have G:(pre++post).Sublist (pre++i::post):=List.Sublist.append_left (List.sublist_cons_self _ _) _;have H:=z.sublist G;have I:=A.sublist G;have J:i ∉ pre++post:=by
     intro hm;have K:=List.nodup_append.1 z;rcases List.mem_append.1 hm with h | h
     ·exact K.2.2 i h i (by simp) rfl
     ·exact (List.nodup_cons.1 K.2.1).1 h
    have Y:iO ops (listed.setIfInBounds i true) (fun k=>k<ops.size/\k ∉ pre++post):=by
     refine m.set fun k=>?_;simp only [List.mem_append,List.mem_cons,not_or];constructor
     ·rintro ⟨K,h2,h3⟩;by_cases l:k=i
      ·exact .inl l
      ·exact .inr ⟨K,h2,l,h3⟩
     ·rintro (rfl | ⟨K,h2,h3,h4⟩)
      ·simp only [List.mem_append,not_or] at J;exact ⟨X,J⟩
      ·exact ⟨K,h2,h4⟩
    have j:Down ops (listed.setIfInBounds i true):=by
     intro k ok r l e Z hb;have mono:listed.getD e.on false=true->(listed.setIfInBounds i true).getD e.on false=true:=by
      intro h;have al:e.on<listed.size:=by
       rcases Nat.lt_or_ge e.on listed.size with h' | h'
       ·exact h'
       ·simp [Array.getD_eq_getD_getElem?,Array.getElem?_eq_none h'] at h
      simp only [Array.getD_eq_getD_getElem?,Array.getElem?_setIfInBounds] at h ⊢;split
      ·rename_i am;subst am;simp [al]
      ·exact h
     by_cases ab:i=k
     ·subst ab;rw [F] at r;obtain rfl:=Option.some.inj r;exact mono (he e Z hb)
     ·refine mono (d k ok r ?_ e Z hb);simp only [Array.getD_eq_getD_getElem?,Array.getElem?_setIfInBounds] at l ⊢;rw [if_neg ab] at l;exact l
    have hlen:(pre++post).length<=fuel:=by simp at hf ⊢;omega
    have L:∀ k∈pre++post,k<ops.size:=fun k l=>p k (by rcases List.mem_append.1 l with h | h <;> simp [h]);unfold wpOp;rw [F];simp only;unfold uf at b;split at b
    ·rename_i hw;rw [eJ c hw,if_pos rfl];have an:Gl P T n o f s (r0 P T n ops (fun f s=>Q .normal f s) (pre++post)):=mq b.1 b.2 fun v s' hh=>hh;refine .inl (jT hT an c hr ?_);intro γ' f' s' a' w' K h2 h3 h4;exact ih _ _ _ s' γ' a' w' H I L Y hlen h4 K h3 (hd.trans h2) j
    ·rename_i hw;rw [eJ c hw,if_neg (by simp)];exact ih _ _ _ s γ _ w H I L Y hlen b.2 (c.put b.1 (pX γ)) hr hd j
    ·exact b.elim
end
theorem Jh {P:Program} {T:TT} {n:Nat} {ops:Array Oper} {A:List (List Nat)} {H:List Nat} {V:Nat->List AV->AV->Prop} {S:Nat->List AV->AV->AS->Prop} {X:AS->AS->Prop} {C:Nat->List AV->AV->AS->Prop} {M:List Nat} {s:AS} {K2:Fr->AS->Prop} {t:List Nat} :
  ∀ (q:List Nat) (f:Fr) (F:kM) (c:AS->Prop) (s1:AS),(∀ k∈q,∃ o,ops[k]? = some o/\gr o.op=true/\H.contains k=false)->dq P T n ops A H V S X C M s (fun f s'=>r0 P T n ops K2 t f s') q f F c ->
  X s s1->aJ s1->(∀ p∈F,p.2 s1)->c s1->(H=[]->s1=s)->r0 P T n ops K2 (q++t) f s1
 | [],f,F,c,s1,_,h,e,h2,h3,i,h4=>h s1 e h2 h3 i h4
 | k::q,f,F,c,s1,l,h,e,h2,h3,i,h4=>by
  obtain ⟨o,m,b,r⟩:=l k (by simp);have rc:=fun f F w h=>Jh (P:=P) (T:=T) (n:=n) (A:=A) (V:=V) (S:=S) (M:=M) (C:=C) (K2:=K2) (t:=t) q f F c s1 (fun k x=>l k (by simp [x])) h e h2 w i h4;simp only [dq,m] at h;simp only [List.cons_append,r0,m];obtain ⟨hd,h⟩:=h;unfold uf;split at h
  ·exact h.elim
  ·rename_i j;rw [j];exact ⟨hd,rc _ _ h3 h.2⟩
  ·rename_i j;rw [j];rw [if_neg (by rw [r];simp)] at h;obtain ⟨_,z,v,⟨hv,_⟩,y⟩:=h;obtain ⟨_,d⟩:=AZ b hv;refine ⟨hd,?_⟩;unfold CK;rw [gT (xh b)];exact ⟨v,s1,d s1,rc _ _ h3 y⟩
def Rd:List Nat->Bool
 | []=>true
 | x::l=>(l.all fun y=>decide (x<y))&&Rd l
theorem FC:∀ {l:List Nat},Rd l=true->l.Pairwise (·<·)
 | [],_=>List.Pairwise.nil
 | x::l,h=>by
  simp only [Rd,Bool.and_eq_true,List.all_eq_true,decide_eq_true_eq] at h;exact List.pairwise_cons.2 ⟨h.1,FC h.2⟩
def Gu (ops:Array Oper) (D t:List Nat) (A:List (List Nat)) (H:List Nat) (bs:List Nat):Bool :=
 decide (Region.before ops=bs.toArray) &&
 ((List.range ops.size).all fun i=>(ops[i]?).all (fun o=>o.after.toList.all fun e=>decide (e.on<i)||!Region.binds .any e)&&(D.contains i||t.contains i)) &&
 Rd D&&Rd t &&
 (D.all fun i=>decide (i<ops.size)&&!t.contains i&&((A.getD i []).all fun j=>(bs.getD i 0).testBit j&&decide (j<i)) &&
  ((ops[i]?).all fun o=>o.after.toList.all fun e=>D.contains e.on||!Region.binds .any e) &&
  (D.all fun j=>!decide (j<i)||(bs.getD i 0).testBit j||((ops[j]?).any fun x=>(ops[i]?).any fun y=>x.apart ops y)) &&
  (t.all fun u=>(bs.getD u 0).testBit i||((ops[i]?).any fun x=>(ops[u]?).any fun y=>x.apart ops y&&gr x.op&&!qw y.op&&!H.contains i))) &&
 (t.all fun u=>decide (u<ops.size)&&((ops[u]?).all fun o=>!zx o.op)&&t.all fun v=>!decide (v<u)||(bs.getD u 0).testBit v||((ops[v]?).any fun x=>(ops[u]?).any fun y=>x.apart ops y&&gr x.op&&!qw y.op))
structure Ji (ops:Array Oper) (D t:List Nat) (A:List (List Nat)) (H:List Nat):Prop where
 back:∀ (i:Nat) o,ops[i]? = some o->∀ e∈o.after.toList,Region.binds .any e=true->e.on<i
 all:∀ i,i<ops.size->i∈D\/i∈t
 sD:D.Pairwise (·<·)
 st:t.Pairwise (·<·)
 XS:∀ i∈D,i<ops.size
 YC:∀ i∈t,i<ops.size
 YD:∀ i∈D,i ∉ t
 Wx:∀ i∈D,∀ j∈A.getD i [],iH ops j i=true/\j<i
 dep:∀ i∈D,∀ o,ops[i]? = some o->∀ e∈o.after.toList,Region.binds .any e=true->e.on∈D
 free:∀ i∈D,∀ j∈D,j<i->iH ops j i=true\/∃ x y,ops[j]? = some x/\ops[i]? = some y/\x.apart ops y=true
 dt:∀ i∈D,∀ u∈t,iH ops i u=true\/∃ x y,ops[i]? = some x/\ops[u]? = some y/\Jf ops x y/\gr x.op=true/\H.contains i=false
 nx:∀ u∈t,∀ o,ops[u]? = some o->zx o.op=false
 tt:∀ u∈t,∀ v∈t,v<u->YX ops v u
theorem Re {ops:Array Oper} {D t:List Nat} {A:List (List Nat)} {H bs:List Nat} (h:Gu ops D t A H bs=true):Ji ops D t A H:=by
 simp only [Gu,Bool.and_eq_true,decide_eq_true_eq] at h;obtain ⟨⟨⟨⟨⟨hb,d⟩,h2⟩,h3⟩,h4⟩,C⟩:=h;have b:∀ j i,iH ops j i=(bs.getD i 0).testBit j:=by
  intro j i;unfold iH;rw [hb];simp [List.getD_eq_getElem?_getD]
 have p:∀ (i:Nat) o,ops[i]? = some o->i<ops.size:=by
  intro i o c;rcases Nat.lt_or_ge i ops.size with h | h
  ·exact h
  ·simp [Array.getElem?_eq_none h] at c
 rw [List.all_eq_true] at d h4 C;have l:=fun i hi=>by
  have:=h4 i hi;simp only [Bool.and_eq_true,decide_eq_true_eq,Bool.not_eq_true'] at this;exact this
 have r:=fun i hi=>by
  have:=C i hi;simp only [Bool.and_eq_true,decide_eq_true_eq] at this;exact this
 refine ⟨fun i o c e w k=>?_,fun i hi=>?_,FC h2,FC h3,fun i hi=>(l i hi).1.1.1.1.1,fun i hi=>(r i hi).1.1,fun i hi ht=>?_,fun i hi j hj=>?_,fun i hi o c e w k=>?_,fun i hi j hj z=>?_,fun i hi u hu=>?_,fun u hu o c=>?_,fun u hu v hv B=>?_⟩
 ·have:=d i (List.mem_range.2 (p i o c));simp only [Bool.and_eq_true] at this;have:=this.1;rw [c] at this;simp only [Option.all_some,List.all_eq_true,Bool.or_eq_true,decide_eq_true_eq] at this;rcases this e w with h | h
  ·exact h
  ·rw [k] at h;simp at h
 ·have:=d i (List.mem_range.2 hi);simp only [Bool.and_eq_true,Bool.or_eq_true,List.contains_iff_mem] at this;exact this.2
 ·have:=(l i hi).1.1.1.1.2;rw [<- List.contains_iff_mem] at ht;rw [ht] at this;cases this
 ·have:=(l i hi).1.1.1.2;simp only [List.all_eq_true,Bool.and_eq_true,decide_eq_true_eq] at this;rw [b];exact this j hj
 ·have:=(l i hi).1.1.2;rw [c] at this;simp only [Option.all_some,List.all_eq_true,Bool.or_eq_true,List.contains_iff_mem] at this;rcases this e w with h | h
  ·exact h
  ·rw [k] at h;simp at h
 ·have:=(l i hi).1.2;simp only [List.all_eq_true,Bool.or_eq_true,Bool.not_eq_true',decide_eq_false_iff_not] at this;rcases this j hj with (h | h) | h
  ·exact absurd z h
  ·exact .inl (by rw [b];exact h)
  ·simp only [Option.any_eq_true] at h;obtain ⟨x,m,y,n,h⟩:=h;exact .inr ⟨x,y,m,n,h⟩
 ·have:=(l i hi).2;simp only [List.all_eq_true,Bool.or_eq_true] at this;rcases this u hu with h | h
  ·exact .inl (by rw [b];exact h)
  ·simp only [Option.any_eq_true,Bool.and_eq_true,Bool.not_eq_true'] at h;obtain ⟨x,m,y,n,⟨⟨d,h2⟩,h3⟩,h4⟩:=h;exact .inr ⟨x,y,m,n,⟨d,.inr ⟨h3,.inl h2⟩⟩,h2,h4⟩
 ·have:=(r u hu).1.2;rw [c] at this;simpa using this
 ·have:=(r u hu).2;simp only [List.all_eq_true,Bool.or_eq_true,Bool.not_eq_true',decide_eq_false_iff_not] at this;rcases this v hv with (h | h) | h
  ·exact absurd B h
  ·exact .inl (by rw [b];exact h)
  ·simp only [Option.any_eq_true,Bool.and_eq_true,Bool.not_eq_true'] at h;obtain ⟨x,m,y,n,⟨d,h2⟩,h3⟩:=h;exact .inr ⟨x,y,m,n,d,.inr ⟨h3,.inl h2⟩⟩
def WH (bs:List Nat):List Nat->Bool
 | []=>true
 | a::M=>(M.all fun b=>(bs.getD b 0).testBit a)&&WH bs M
def YE (ops:Array Oper) (D H M:List Nat) (bs:List Nat):Bool:=decide (Region.before ops=bs.toArray)&&Rd M&&(M.all fun i=>D.contains i&&H.contains i)&&WH bs M
structure Km (ops:Array Oper) (D H M:List Nat):Prop where
 X8:M.Pairwise (·<·)
 sub:∀ i∈M,i∈D
 Y6:∀ i∈M,H.contains i=true
 Wx:M.Pairwise fun a b=>iH ops a b=true
theorem WJ {ops:Array Oper} {D H M bs:List Nat} (h:YE ops D H M bs=true):Km ops D H M:=by
 simp only [YE,Bool.and_eq_true,decide_eq_true_eq,List.all_eq_true] at h;obtain ⟨⟨⟨hb,d⟩,h2⟩,h3⟩:=h;refine ⟨FC d,fun i hi=>List.contains_iff_mem.1 (h2 i hi).1,fun i hi=>(h2 i hi).2,?_⟩;clear d h2
 induction M with
 | nil=>exact List.Pairwise.nil
 | cons a M e =>
  simp only [WH,Bool.and_eq_true,List.all_eq_true] at h3;refine List.pairwise_cons.2 ⟨fun b c=>?_,e h3.2⟩;have:=h3.1 b c;unfold iH;rw [hb];simpa [List.getD_eq_getElem?_getD] using this
theorem OA {ops:Array Oper} {D H:List Nat}:Km ops D H []:=⟨List.Pairwise.nil,by simp,by simp,List.Pairwise.nil⟩
section
variable {P:Program} {T:TT} {n:Nat} {ops:Array Oper} {A:List (List Nat)} {H:List Nat} {V:Nat->List AV->AV->Prop} {S:Nat->List AV->AV->AS->Prop} {X:AS->AS->Prop} {C:Nat->List AV->AV->AS->Prop} {M:List Nat} {s:AS}
theorem Kn (hT:TT.Ok P T) (cc:1<=s.st) {D t:List Nat} (G:Ji ops D t A H) (bb:Km ops D H M) (hX:∀ s s',Ext s s'->X s s') (bm:∀ a b c,X a b->X b c->X a c) (hC:∀ i k v s s',Ext s s'->C i k v s->C i k v s') (hS:∀ i k v s s',X s s'->S i k v s->S i k v s') {Q:Exit->Fr->AS->Prop} {B:Nat} {Gm:bT} {s0:AS} {w0:World} :
  ∀ (fuel:Nat) (q:List Nat) (listed:Array Bool) (f:Fr) (F:kM) (c:AS->Prop) (s1:AS) (γ:bT) (a:Act) (w:World),
  q.Sublist D->iO ops listed (fun i=>i∈D/\i ∉ q)->q.length+t.length<=fuel ->
  dq P T n ops A H V S X C M s (fun f s'=>r0 P T n ops (fun f s=>Q .normal f s) t f s') q f F c->X s s1->c s1->(∀ s s',Ext s s'->c s->c s')->(H=[]->s1=s)->(∀ p∈F,p.2 s1)->(∀ p∈F,∀ s s',X s s'->p.2 s->p.2 s') ->
  oh γ n f a->Rel B γ s1 w->gq B Gm s0 w0 γ s1 w->Down ops listed ->
  wpAny P .any ops (v_ B Gm s0 w0 n Q) fuel listed a w:=by
 intro fuel;have Z:∀ (fuel:Nat) (q:List Nat) (listed:Array Bool) (f:Fr) (F:kM) (c:AS->Prop) (s1:AS) (γ:bT) (a:Act) (w:World),
   q.Sublist D->iO ops listed (fun i=>i∈D/\i ∉ q)->q.length+t.length<=fuel->(∀ k∈q,∃ o,ops[k]? = some o/\gr o.op=true/\H.contains k=false) ->
   dq P T n ops A H V S X C M s (fun f s'=>r0 P T n ops (fun f s=>Q .normal f s) t f s') q f F c->X s s1->c s1->(H=[]->s1=s)->(∀ p∈F,p.2 s1) ->
   oh γ n f a->Rel B γ s1 w->gq B Gm s0 w0 γ s1 w->Down ops listed ->
   wpAny P .any ops (v_ B Gm s0 w0 n Q) fuel listed a w:=by
  intro fuel q listed f F c s1 γ a w l hL hf hc h m J R hF K hr hd j;have z:=fun i hi=>l.subset (a:=i) hi;refine L9 hT G.back fuel (q++t) listed f s1 γ a w ?_ ?_ ?_ ⟨hL.size,fun i hi=>?_⟩ (by simpa using hf) (Jh q f F c s1 hc h m hr.N9 hF J R) K hr hd j
  ·refine List.nodup_append.2 ⟨(G.sD.imp fun h=>Nat.ne_of_lt h).sublist l,G.st.imp fun h=>Nat.ne_of_lt h,fun a ha b hb=>?_⟩;rintro rfl;exact G.YD a (z a ha) hb
  ·refine List.pairwise_append.2 ⟨?_,?_,fun k r u hu=>?_⟩
   ·refine List.Pairwise.imp_of_mem ?_ (G.sD.sublist l);intro k i r hi U;rcases G.free i (z i hi) k (z k r) U with h | ⟨x,y,hx,hy,h⟩
    ·exact .inl h
    ·obtain ⟨o,ho,bo,_⟩:=hc k r;obtain ⟨o2,bc,a2,_⟩:=hc i hi;rw [hx] at ho;rw [hy] at bc;obtain rfl:=Option.some.inj ho;obtain rfl:=Option.some.inj bc;refine .inr ⟨x,y,hx,hy,h,.inr ⟨?_,.inl bo⟩⟩;cases ab:y.op <;> first | rfl | (rw [ab] at a2;cases a2)
   ·refine List.Pairwise.imp_of_mem ?_ G.st;intro v u hv hu U;exact G.tt u hu v hv U
   ·rcases G.dt k (z k r) u hu with h | ⟨x,y,hx,hy,h,_⟩
    ·exact .inl h
    ·exact .inr ⟨x,y,hx,hy,h⟩
  ·intro i hi;rcases List.mem_append.1 hi with h | h
   ·exact G.XS i (z i h)
   ·exact G.YC i h
  ·rw [hL.iff i hi];simp only [List.mem_append,not_or];constructor
   ·rintro ⟨O,h2⟩;exact ⟨hi,h2,G.YD i O⟩
   ·rintro ⟨_,h2,h3⟩;exact ⟨(G.all i hi).resolve_right h3,h2⟩
 induction fuel with
 | zero =>
  intro q listed f F c s1 γ a w l hL hf h m J ad R hF I K hr hd j;obtain rfl:q=[]:=List.length_eq_zero_iff.1 (by omega);exact Z 0 [] listed f F c s1 γ a w l hL hf (by simp) h m J R hF K hr hd j
 | succ fuel ih =>
  intro q listed f F c s1 γ a w l hL hf h m J ad R hF I K hr hd j;by_cases a3:∀ k∈q,∃ o,ops[k]? = some o/\gr o.op=true/\H.contains k=false
  ·exact Z _ q listed f F c s1 γ a w l hL hf a3 h m J R hF K hr hd j
  ·have z:=fun i hi=>l.subset (a:=i) hi;obtain ⟨kn,ar,bd⟩:∃ k∈q,¬ ∃ o,ops[k]? = some o/\gr o.op=true/\H.contains k=false:=by
    apply Classical.byContradiction;intro bs;exact a3 fun k r=>Classical.byContradiction fun hb=>bs ⟨k,r,hb⟩
   have bx:q≠[]:=by rintro rfl;cases ar
   have a5:∀ u∈t,iH ops kn u=true:=fun u hu=>by
    rcases G.dt kn (z kn ar) u hu with h | ⟨x,y,hx,_,_,O,h2⟩
    ·exact h
    ·exact absurd ⟨x,hx,O,h2⟩ bd
   refine ⟨fun be=>?_,fun i hi=>?_⟩
   ·exfalso;obtain ⟨q0,a6,aw⟩:=exists_least q bx;have U:=G.XS q0 (z q0 a6);have:q0∈Region.ready .any ops listed:=by
     refine (fu hL q0).2 ⟨_,Array.getElem?_eq_getElem U,fun h=>h.2 a6,fun e he hb=>?_⟩;have O:=G.back q0 _ (Array.getElem?_eq_getElem U) e he hb;have h2:=G.dep q0 (z q0 a6) _ (Array.getElem?_eq_getElem U) e he hb;refine (hL.iff e.on (by omega)).2 ⟨h2,fun hm=>?_⟩;have:=aw e.on hm;omega
    rw [be] at this;cases this
   ·obtain ⟨o,ho,hp,he⟩:=(fu hL i).1 hi;have b0:i<ops.size:=by
     rcases Nat.lt_or_ge i ops.size with h | h
     ·exact h
     ·simp [Array.getElem?_eq_none h] at ho
    have a0:i∈D:=by
     rcases G.all i b0 with h | h
     ·exact h
     ·exfalso;have:=jU j i o ho he (a5 i h);have:=(hL.iff kn (G.XS kn (z kn ar))).1 this;exact this.2 ar
    have b1:i∈q:=by
     by_cases h:i∈q
     ·exact h
     ·exact absurd ⟨a0,h⟩ hp
    obtain ⟨pre,post,hq⟩:=List.append_of_mem b1;rw [hq] at h l hL hf z;have ae:=G.sD.sublist l;have al:∀ k∈pre,k<i:=by
     intro k r;exact (List.pairwise_append.1 ae).2.2 k r i (by simp)
    have a7:∀ k∈pre,∀ ok,ops[k]? = some ok->U2 ops A k i ok o:=by
     intro k r ok am;have an:=al k r;have a8:k∈D:=z k (by simp [r]);have b2:k<ops.size:=G.XS k a8;have bh:iH ops k i=false:=by
      cases b3:iH ops k i with
      | false=>rfl
      | true =>
       have:=jU j i o ho he b3;have:=(hL.iff k b2).1 this;exact absurd (by simp [r]:k∈pre++i::post) this.2
     refine ⟨?_,?_,?_⟩
     ·rcases G.free i a0 k a8 an with h | ⟨x,y,hx,hy,h⟩
      ·rw [bh] at h;cases h
      ·rw [am] at hx;rw [ho] at hy;obtain rfl:=Option.some.inj hx;obtain rfl:=Option.some.inj hy;exact h
     ·cases hc:(A.getD i []).contains k with
      | false=>rfl
      | true =>
       have:=(G.Wx i a0 k (by simpa using hc)).1;rw [bh] at this;cases this
     ·cases hc:(A.getD k []).contains i with
      | false=>rfl
      | true =>
       have:=(G.Wx k a8 i (by simpa using hc)).2;omega
    have b4:∀ k∈pre,M.contains k=true->M.contains i=false:=by
     intro k r b5;cases b6:M.contains i with
     | false=>rfl
     | true =>
      exfalso;have an:=al k r;have O:iH ops k i=true:=by
       obtain ⟨M1,M2,e⟩:=List.append_of_mem (List.contains_iff_mem.1 b5);have bi:=bb.Wx;have bj:=bb.X8;have bk:=List.contains_iff_mem.1 b6;rw [e] at bi bj bk;rcases List.mem_append.1 bk with h | h
       ·have:=(List.pairwise_append.1 bj).2.2 i h k (by simp);omega
       ·rcases List.mem_cons.1 h with rfl | h
        ·omega
        ·exact (List.pairwise_cons.1 (List.pairwise_append.1 bi).2.1).1 i h
      have h2:=jU j i o ho he O;exact ((hL.iff k (G.XS k (z k (by simp [r])))).1 h2).2 (by simp [r])
    have d:=AW ho pre post f F c a7 b4 h;have a9:(pre++post).Sublist (pre++i::post):=List.Sublist.append_left (List.sublist_cons_self _ _) _;have W:(pre++post).Sublist D:=a9.trans l;have a4:i ∉ pre++post:=by
     intro hm;rcases List.mem_append.1 hm with h | h
     ·have:=al i h;omega
     ·have:=(List.pairwise_cons.1 (List.pairwise_append.1 ae).2.1).1 i h;omega
    have ba:iO ops (listed.setIfInBounds i true) (fun k=>k∈D/\k ∉ pre++post):=by
     refine hL.set fun k=>?_;simp only [List.mem_append,List.mem_cons,not_or];constructor
     ·rintro ⟨O,h2,h3⟩;by_cases r:k=i
      ·exact .inl r
      ·exact .inr ⟨O,h2,r,h3⟩
     ·rintro (rfl | ⟨O,h2,h3,h4⟩)
      ·simp only [List.mem_append,not_or] at a4;exact ⟨a0,a4⟩
      ·exact ⟨O,h2,h4⟩
    have L:Down ops (listed.setIfInBounds i true):=by
     intro k ok am r e bl hb;have mono:listed.getD e.on false=true->(listed.setIfInBounds i true).getD e.on false=true:=by
      intro h;have b7:e.on<listed.size:=by
       rcases Nat.lt_or_ge e.on listed.size with h' | h'
       ·exact h'
       ·simp [Array.getD_eq_getD_getElem?,Array.getElem?_eq_none h'] at h
      simp only [Array.getD_eq_getD_getElem?,Array.getElem?_setIfInBounds] at h ⊢;split
      ·rename_i b8;subst b8;simp [b7]
      ·exact h
     by_cases an:i=k
     ·subst an;rw [ho] at am;obtain rfl:=Option.some.inj am;exact mono (he e bl hb)
     ·refine mono (j k ok am ?_ e bl hb);simp only [Array.getD_eq_getD_getElem?,Array.getElem?_setIfInBounds] at r ⊢;rw [if_neg an] at r;exact r
    have hlen:(pre++post).length+t.length<=fuel:=by simp at hf ⊢;omega
    obtain ⟨ao,d⟩:=d;unfold wpOp;rw [ho];simp only;cases hw:dB ops f o with
    | none=>rw [hw] at d;exact d.elim
    | some b =>
     rw [hw] at d;rw [eJ K hw];cases b with
     | false =>
      rw [if_neg (by simp)];exact ih _ _ _ F c s1 γ _ w W ba hlen d.2 m J ad R hF I (K.put ao (pX γ)) hr hd L
     | true =>
      rw [if_pos rfl];simp only at d;by_cases hh:H.contains i=true
      ·rw [if_pos hh] at d;obtain ⟨hA,_,hK⟩:=d;have hv:=hA s1 m hr.N9 (fun p hp _=>hF p hp) (fun _=>J);have Y:∀ v s2,(if M.contains i then X s1 s2/\C i (keyOf f o) v s2 else Ext s1 s2)->X s1 s2/\nV C M i (keyOf f o) v c s2:=by
        intro v s2 hm;unfold nV;split at hm
        ·rename_i r;rw [if_pos r];exact hm
        ·rename_i r;rw [if_neg r];exact ⟨hX _ _ hm,ad _ _ hm J⟩
       have b9:∀ v s s',Ext s s'->nV C M i (keyOf f o) v c s->nV C M i (keyOf f o) v c s':=by
        intro v s s' e h;unfold nV at h ⊢;split at h
        ·rename_i r;rw [if_pos r];exact hC _ _ _ _ _ e h
        ·rename_i r;rw [if_neg r];exact ad _ _ e h
       have ab:Gl P T n o f s1 (fun f2 s2=>∃ v,f2=bU f o.dst v/\(if M.contains i then X s1 s2/\C i (keyOf f o) v s2 else Ext s1 s2)/\S i (keyOf f o) v s2/\V i (keyOf f o) v):=mq ao hv fun v s2 ⟨O,h2,h3⟩=>⟨v,rfl,O,h2,h3⟩;refine .inl (jT hT ab K hr ?_);rintro γ' f' s' a' w' O h2 h3 ⟨v,rfl,h4,h5,h6⟩;refine ih _ _ _ _ _ s' γ' a' w' W ba hlen (hK v h6) (bm _ _ _ m (Y _ _ h4).1) (Y _ _ h4).2 (b9 v) (fun e=>by rw [e] at hh;cases hh) ?_ ?_ O h3 (hd.trans h2) L
       ·intro p hp;rcases List.mem_append.1 hp with h | h
        ·exact I p h _ _ (Y _ _ h4).1 (hF p h)
        ·obtain rfl:=List.mem_singleton.1 h;exact h5
       ·intro p hp;rcases List.mem_append.1 hp with h | h
        ·exact I p h
        ·obtain rfl:=List.mem_singleton.1 h;exact fun s s' he=>hS i _ v s s' he
      ·rw [if_neg hh] at d;obtain ⟨h0,a1,v,⟨_,b'⟩,hK⟩:=d;have ca:=b' _ m hr.N9;have cb:fq f o.op=none:=by
        unfold fq;split
        ·rename_i c hc;rw [hc] at a1;simp only [mQ] at a1;split
         ·rename_i x hx;rw [hx] at a1;cases a1
         ·rfl
        ·rfl
       have ab:Gl P T n o f s1 (fun f2 s2=>f2=bU f o.dst v/\s2=s1):=by
        refine ⟨ao,.inl ?_⟩;rw [cb];exact ⟨v,s1,ca,rfl,rfl⟩
       refine .inl (jT hT ab K hr ?_);rintro γ' f' s' a' w' O h2 h3 ⟨rfl,rfl⟩;exact ih _ _ _ F c _ γ' a' w' W ba hlen hK m J ad R hF I O h3 (hd.trans h2) L
end
open Classical in
theorem Gv {α:Type}:∀ {d es:List α},d.Nodup->(∀ e∈d,e∈es)->d.length<=es.length
 | [],es,_,_=>Nat.zero_le _
 | x::d,es,h,hs=>by
  obtain ⟨i,n2⟩:=List.nodup_cons.1 h;have b:=hs x (by simp);have:=Gv (d:=d) (es:=es.erase x) n2 fun e c=>(List.mem_erase_of_ne (fun h=>i (by rw [<- h];exact c))).2 (hs e (by simp [c]));have hp:0<es.length:=List.length_pos_of_mem b;rw [List.length_erase_of_mem b] at this;simp only [List.length_cons];omega
theorem kX.tail {P:Program} {T:TT} (hT:TT.Ok P T) (bX:P.follows .mixedOrders=true) {n id:Nat} {ops:Array Oper} {f:Fr} {s:AS} {Q:Exit->Fr->AS->Prop} (D t:List Nat) (A:List (List Nat)) (bs:List Nat) (H:List Nat)
  (V:Nat->List AV->AV->Prop) (S:Nat->List AV->AV->AS->Prop) (X:AS->AS->Prop) (C:Nat->List AV->AV->AS->Prop) (M:List Nat) (j:Gu ops D t A H bs=true) (l:Km ops D H M) (x:∀ s s',Ext s s'->X s s') (m:∀ a b c,X a b->X b c->X a c) (y:∀ i k v s s',Ext s s'->C i k v s->C i k v s') (z:∀ i k v s s',X s s'->S i k v s->S i k v s')
  {c:AS->Prop} (F:∀ s s',Ext s s'->c s->c s') (h0:c s) (h:dq P T n ops A H V S X C M s (fun f s'=>fI P T n ops (t.filterMap fun i=>ops[i]?) f s' (fun f s=>Q .normal f s)) D f [] c):kX P n (.region id ops true) f s Q:=by
 intro B γ a w hf hr;have d:=Re j;refine wp_region_any bX ?_;have hlen:D.length+t.length<=ops.size:=by
  have p:(D++t).Nodup:=by
   refine List.nodup_append.2 ⟨d.sD.imp fun h=>Nat.ne_of_lt h,d.st.imp fun h=>Nat.ne_of_lt h,fun a G b hb=>?_⟩;rintro rfl;exact d.YD a G hb
  have e:∀ i∈D++t,i∈List.range ops.size:=by
   intro i hi;rw [List.mem_range];rcases List.mem_append.1 hi with h | h
   ·exact d.XS i h
   ·exact d.YC i h
  have:=Gv p e;simpa using this
 have I:=AT (fun f s J=>D3 t f s d.YC d.nx J) D f [] c h;refine Kn hT hr.Su d l x m y z ops.size D _ f [] c s γ a { w with drawn:=w.drawn+1 } (List.Sublist.refl _) ⟨by simp,fun i hi=>?_⟩ hlen I (x _ _ (Ext.refl s)) h0 F (fun _=>rfl) (by simp) (by simp) hf (hr.of_heap rfl) (gq.of_heap rfl) ?_
 ·simp [Array.getD_eq_getD_getElem?,hi]
 ·intro i o K r;simp only [Array.getD_eq_getD_getElem?] at r;by_cases hi:i<ops.size
  ·simp [hi] at r
  ·simp [hi] at r
end
section
inductive QA where
 | leaf
 | calm
 | draw (m:Nat)
 | iB (m:Nat) (A:List (List Nat)) (H:List Nat)
 | Qf (D t:List Nat) (A:List (List Nat)) (H:List Nat)
 | we (D t:List Nat) (A:List (List Nat)) (H M:List Nat)
 | seq (a b:QA)
 | join (L:List (Nat×TK)) (W:List (Nat×Nat)) (a b:QA)
 | cond (a b:QA)
 | loop (L:List (Nat×TK)) (W:List (Nat×Nat)) (a:QA)
 | wrap (a:QA)
def WK (l:List Oper) (j:Nat):Option Nat:=(l[j]?).bind (·.dst)
def Gw (l:List Oper) (g:Option (Nat×Bool)) (f:Fr) (A B:Fr->Prop):Prop:=match g with
 | none=>A f
 | some (j,want)=>match WK l j with
  | none=>B f
  | some d=>match f d with
   | .bool b=>af b (match want with | true=>A (pq f d (.bool true)) | false=>B (pq f d (.bool true))) (match want with | true=>B (pq f d (.bool false)) | false=>A (pq f d (.bool false)))
   | .aQ _=>B f
   | _=>False
def Wc (l:List Oper) (d:Nat):Bool:=l.any fun o=>match o.op,o.dst with
 | .entry _,some b=>b==d
 | _,_=>false
def X9 (v:AV) (i:Nat) (K:AV->Prop):Prop:=match v with
 | .aQ vs=>(match vs[i]? with | some v=>K v | none=>False)
 | _=>False
def X_ (P:Program) (T:TT) (l:List Oper) (o:Oper) (ρ:Operand->AV) (s:AS) (K:AV->AS->Prop):Prop:=match o.op with
 | .next it false=>Qd (zA (ρ it) s) s K
 | .next it true=>Wb (Ov (ρ it) s) s K
 | .entry it=>YW (wS (ρ it) s) fun k v=>K (.aQ [k,v]) s
 | .extract (.tmp d) i=>bif Wc l d then X9 (ρ (.tmp d)) i fun v=>X6 (L6 T o.type) v fun v=>K v s else Sn P T o ρ s K
 | _=>Sn P T o ρ s K
def Gx (P:Program) (T:TT) (l:List Oper):List Oper->Fr->AS->(Fr->AS->Prop)->Prop
 | [],f,s,K=>K f s
 | o::os,f,s,K=>Gw l o.guard f (fun f=>X_ P T l o (pW f) s fun v s=>Gx P T l os (bU f o.dst v) s K) (fun f=>Gx P T l os (bU f o.dst .undef) s K)
def L_:kM->AS->Prop
 | [],_=>True
 | p::ps,s=>p.2 s/\L_ ps s
def YY (T:TT) (o:Oper):TK:=match o.op with
 | .alloc _=>.ptr
 | .box ..=>.ptr
 | .sliceToArrayPointer ..=>.ptr
 | _=>L6 T o.type
def U5 (P:Program) (T:TT) (l:List Oper) (A:List (List Nat)) (H:List Nat) (V:Nat->List AV->AV->Prop) (S:Nat->List AV->AV->AS->Prop) (s:AS) (K:Fr->AS->Prop):List Nat->Fr->kM->Prop
 | [],f,F=>∀ s',Ext s s'->aJ s'->L_ F s'->K f s'
 | i::b,f,F=>match l[i]? with
  | none=>False
  | some o=>Gw l o.guard f
   (fun f=>match H.contains i with
    | true=>(∀ s',Ext s s'->aJ s'->L_ (F.filter fun p=>(A.getD i []).contains p.1) s'->Sn P T o (pW f) s' fun v s''=>Ext s' s''/\S i (keyOf f o) v s''/\V i (keyOf f o) v) /\
     (∃ v,V i (keyOf f o) v)/\∀ v,V i (keyOf f o) v->X6 (YY T o) v fun v=>U5 P T l A H V S s K b (bU f o.dst v) (F++[(i,S i (keyOf f o) v)])
    | false=>Sn P T o (pW f) s fun v _=>U5 P T l A H V S s K b (bU f o.dst v) F)
   (fun f=>U5 P T l A H V S s K b (bU f o.dst .undef) F)
def SN:Op->Bool
 | .build ..=>true
 | o=>gr o
theorem Rf {T:TT} {op:Op} (b:SN op=true) {ρ:Operand->AV} {s s1:AS} {v:AV} (h:cO T op ρ s=some (v,s1)) (s':AS):cO T op ρ s'=some (v,s'):=by
 by_cases hb:gr op=true
 ·exact (AZ hb h).2 s'
 ·cases op <;> first | exact absurd b hb | skip
  simp only [cO,Option.map_eq_some_iff,Prod.mk.injEq] at h ⊢;obtain ⟨u,c,rfl,rfl⟩:=h;exact ⟨_,c,by simp⟩
def Ma (P:Program) (T:TT) (l:List Oper) (A:List (List Nat)) (H:List Nat) (V:Nat->List AV->AV->Prop) (S:Nat->List AV->AV->AS->Prop) (X:AS->AS->Prop) (C:Nat->List AV->AV->AS->Prop) (M:List Nat) (s:AS) (K:Fr->AS->Prop):List Nat->Fr->kM->(AS->Prop)->Prop
 | [],f,F,c=>∀ s',X s s'->aJ s'->L_ F s'->c s'->K f s'
 | i::b,f,F,c=>match l[i]? with
  | none=>False
  | some o=>Gw l o.guard f
   (fun f=>match H.contains i with
    | true=>(∀ s',X s s'->aJ s'->L_ (F.filter fun p=>(A.getD i []).contains p.1) s'->match M.contains i with
      | true=>c s'->Sn P T o (pW f) s' fun v s''=>(X s' s''/\C i (keyOf f o) v s'')/\S i (keyOf f o) v s''/\V i (keyOf f o) v
      | false=>Sn P T o (pW f) s' fun v s''=>Ext s' s''/\S i (keyOf f o) v s''/\V i (keyOf f o) v) /\
     (∃ v,V i (keyOf f o) v)/\∀ v,V i (keyOf f o) v->X6 (YY T o) v fun v=>Ma P T l A H V S X C M s K b (bU f o.dst v) (F++[(i,S i (keyOf f o) v)]) (match M.contains i with | true=>C i (keyOf f o) v | false=>c)
    | false=>match M.contains i with
     | true=>False
     | false=>Sn P T o (pW f) s fun v _=>match SN o.op with
      | true=>Ma P T l A H V S X C M s K b (bU f o.dst v) F c
      | false=>(∀ s',X s s'->aJ s'->Sn P T o (pW f) s' fun v' _=>v'=v)/\Ma P T l A H V S X C M s K b (bU f o.dst v) F c)
   (fun f=>match M.contains i with
    | true=>False
    | false=>Ma P T l A H V S X C M s K b (bU f o.dst .undef) F c)
def Ya (k:TK) (K:AV->Prop):Prop:=match k with
 | .int k=>∀ n:Int,K (.int k n)
 | .bool=>∀ b:Bool,K (.bool b)
 | .str=>∀ b:List UInt8,K (.str b)
 | .ptr=>∀ a:Option (Nat×Nat),K (.ptr a)
 | .map=>∀ r:Option Nat,K (.map r)
 | .agg=>∀ l:List AV,K (.agg l)
 | _=>∀ v:AV,K v
def SO (k:TK) (v:AV) (K:AV->Prop):Prop:=match k,v with
 | .int k,.int k' n=>bif k'==k then K (.int k n) else False
 | .bool,.bool b=>K (.bool b)
 | .str,.str b=>K (.str b)
 | .ptr,.ptr a=>K (.ptr a)
 | .map,.map r=>K (.map r)
 | .agg,.agg l=>K (.agg l)
 | .any,v=>K v
 | .aQ _,v=>K v
 | _,_=>False
theorem SP {k : TK} {v : AV} {K K' : AV -> Prop} (h : Ya k K) (b : SO k v K') : K v /\ K' v := by
  unfold SO at b;split at b
  · rename_i k k' n;cases c : (k' == k) with
    | false => rw [c] at b; exact b.elim
    | true => rw [c] at b; obtain rfl : k' = k := by simpa using c
              exact ⟨h n, b⟩
  all_goals first | exact ⟨h _, b⟩ | exact b.elim
def U6:List (Nat×TK)->Fr->(List AV->Fr->Prop)->Prop
 | [],f,K=>K [] f
 | p::L,f,K=>Ya p.2 fun v=>U6 L (pq f p.1 v) fun vs f=>K (v::vs) f
def Mb:List (Nat×TK)->Fr->(List AV->Prop)->Prop
 | [],_,K=>K []
 | p::L,f,K=>SO p.2 (f p.1) fun v=>Mb L f fun vs=>K (v::vs)
def D4 (W:List (Nat×Nat)) (t:Nat):Bool:=W.any fun p=>Nat.ble p.1 t&&Nat.ble t p.2
def forget (W:List (Nat×Nat)) (f:Fr):Fr:=fun t=>bif D4 W t then .bad else f t
theorem Gy:∀ (L:List (Nat×TK)) (f0 f:Fr) {K:List AV->Fr->Prop} {K':List AV->Prop},U6 L f0 K->Mb L f K'->∃ vs f1,K vs f1/\K' vs/\∀ t,f1 t=if t∈L.map (·.1) then f t else f0 t
 | [],f0,f,K,K',h,b=>⟨[],f0,h,b,fun t=>by simp⟩
 | p::L,f0,f,K,K',h,b=>by
  obtain ⟨c,h2⟩:=SP h b;obtain ⟨vs,f1,h3,h4,d⟩:=Gy L _ f c h2;refine ⟨_,f1,h3,h4,fun t=>?_⟩;rw [d t];simp only [List.map_cons,List.mem_cons,pq];by_cases ht:t∈L.map (·.1)
  ·rw [if_pos ht,if_pos (.inr ht)]
  ·rw [if_neg ht];by_cases hp:t=p.1
   ·rw [if_pos hp,if_pos (.inl hp),hp]
   ·rw [if_neg hp,if_neg (by simp [hp,ht])]
def wg (P:Program) (T:TT):QA->Code->Fr->AS->(Exit->Fr->AS->Prop)->Prop
 | .leaf,.skip,f,s,Q=>Q .normal f s
 | .leaf,.label _,f,s,Q=>Q .normal f s
 | .leaf,.exit id,f,s,Q=>Q (.exit id) f s
 | .leaf,.ret,f,s,Q=>Q .ret f s
 | .leaf,.region _ ops false,f,s,Q=>Gx P T ops.toList ops.toList f s fun f s=>Q .normal f s
 | .calm,.region _ ops true,f,s,Q=>Gx P T ops.toList ops.toList f s fun f s=>Q .normal f s
 | .draw _,.region _ ops true,f,s,Q=>Gx P T ops.toList ops.toList f s fun f s=>Q .normal f s
 | .iB m A H,.region _ ops true,f,s,Q=>gn fun S V=>U5 P T ops.toList A H V S s (fun f s=>Gx P T ops.toList (ops.toList.drop m) f s fun f s=>Q .normal f s) (List.range m) f []
 | .Qf D t A H,.region _ ops true,f,s,Q=>gn fun S V=>U5 P T ops.toList A H V S s (fun f s=>Gx P T ops.toList (t.filterMap fun i=>ops[i]?) f s fun f s=>Q .normal f s) D f []
 | .we D t A H M,.region _ ops true,f,s,Q=>uc s fun X C c S V=>Ma P T ops.toList A H V S X C M s (fun f s=>Gx P T ops.toList (t.filterMap fun i=>ops[i]?) f s fun f s=>Q .normal f s) D f [] c
 | .seq a b,.seq x y,f,s,Q=>wg P T a x f s (DZ (fun f s=>wg P T b y f s Q) Q)
 | .join L W a b,.seq x y,f,s,Q=>bt fun J=>(U6 L (forget W f) fun vs f=>∀ s,J vs s->wg P T b y f s Q)/\wg P T a x f s (DZ (fun f s=>Mb L f fun vs=>J vs s) Q)
 | .cond a b,.cond c x y,f,s,Q=>(match pW f c with | .bool t=>af t (wg P T a x f s Q) (wg P T b y f s Q) | _=>False)
 | .wrap a,.block id x,f,s,Q=>wg P T a x f s (zw id Q)
 | .wrap a,.scope x,f,s,Q=>wg P T a x f s (SB Q)
 | .loop L W a,.loop x,f,s,Q=>bu fun I d=>(Mb L f fun vs=>I d vs s)/\∀ m,U6 L (forget W f) fun vs f=>∀ s,I m vs s->wg P T a x f s (DZ (fun f s=>Mb L f fun vs=>∃ m',m'<m/\I m' vs s) Q)
 | _,_,_,_,_=>False
def Gz:QA->Code->List (Nat×Nat)
 | .join _ W _ b,.seq _ y=>W++Gz b y
 | .loop _ W _,_=>W
 | .seq a b,.seq x y=>Gz a x++Gz b y
 | .cond a b,.cond _ x y=>Gz a x++Gz b y
 | .wrap a,.block _ x=>Gz a x
 | .wrap a,.scope x=>Gz a x
 | _,.region _ ops _=>ops.toList.filterMap fun o=>o.dst.map fun d=>(d,d)
 | _,_=>[]
def ot (T:TT) (o:Op):Bool:=mQ o&&(match o with
 | .convert _ d _=>(match T.cW d with | some (.slice _)=>false | _=>true)
 | _=>true)
def U7 (l W:List (Nat×Nat)):Bool:=l.all fun p=>W.any fun q=>Nat.ble q.1 p.1&&Nat.ble p.2 q.2
def codeOk (T:TT) (n:Nat):QA->Code->Bool
 | .leaf,.region _ ops false=>ops.toList.all fun o=>eu n o.dst
 | .leaf,_=>true
 | .calm,.region _ ops true=>(ops.toList.all fun o=>eu n o.dst)&&Kl ops (Region.before ops).toList&&ops.toList.all fun o=>!zx o.op
 | .draw m,.region _ ops true=>(ops.toList.all fun o=>eu n o.dst)&&Gn ops m [] (Region.before ops).toList&&(ops.toList.take m).all fun o=>ot T o.op
 | .iB m A H,.region _ ops true=>(ops.toList.all fun o=>eu n o.dst)&&Gn ops m A (Region.before ops).toList&&!H.isEmpty&&(List.range m).all fun i=>H.contains i||(ops.toList[i]?).any fun o=>ot T o.op
 | .Qf D t A H,.region _ ops true=>(ops.toList.all fun o=>eu n o.dst)&&Gu ops D t A H (Region.before ops).toList&&!H.isEmpty&&D.all fun i=>H.contains i||(ops.toList[i]?).any fun o=>ot T o.op
 | .we D t A H M,.region _ ops true=>(ops.toList.all fun o=>eu n o.dst)&&Gu ops D t A H (Region.before ops).toList&&YE ops D H M (Region.before ops).toList&&D.all fun i=>H.contains i||(ops.toList[i]?).any fun o=>ot T o.op
 | .seq a b,.seq x y=>codeOk T n a x&&codeOk T n b y
 | .join L W a b,.seq x y=>codeOk T n a x&&codeOk T n b y&&U7 (Gz a x) W&&L.all fun p=>D4 W p.1
 | .cond a b,.cond _ x y=>codeOk T n a x&&codeOk T n b y
 | .wrap a,.block _ x=>codeOk T n a x
 | .wrap a,.scope x=>codeOk T n a x
 | .loop L W a,.loop x=>codeOk T n a x&&U7 (Gz a x) W&&L.all fun p=>D4 W p.1
 | _,_=>false
def tV (W:List (Nat×Nat)) (f f':Fr):Prop:=∀ t,D4 W t=false->f' t=f t
theorem tV.refl (W:List (Nat×Nat)) (f:Fr):tV W f f:=fun _ _=>rfl
theorem tV.trans {W:List (Nat×Nat)} {f g h:Fr} (a:tV W f g) (b:tV W g h):tV W f h:=fun t ht=>(b t ht).trans (a t ht)
theorem zC (W W':List (Nat×Nat)) (t:Nat):D4 (W++W') t=(D4 W t||D4 W' t):=by simp [D4,List.any_append]
theorem tV.left {W W':List (Nat×Nat)} {f f':Fr} (h:tV W f f'):tV (W++W') f f':=fun t ht=>h t (by rw [zC] at ht;simp at ht;exact ht.1)
theorem tV.right {W W':List (Nat×Nat)} {f f':Fr} (h:tV W' f f'):tV (W++W') f f':=fun t ht=>h t (by rw [zC] at ht;simp at ht;exact ht.2)
theorem tV.sub {W W':List (Nat×Nat)} {f f':Fr} (h:tV W f f') (hs:U7 W W'=true):tV W' f f':=by
 intro t ht;refine h t ?_;cases b:D4 W t with
 | false=>rfl
 | true =>
  exfalso;simp only [D4,List.any_eq_true,Bool.and_eq_true,Nat.ble_eq] at b;obtain ⟨p,hp,c,h2⟩:=b;simp only [U7,List.all_eq_true,List.any_eq_true,Bool.and_eq_true,Nat.ble_eq] at hs;obtain ⟨q,d,h3,h4⟩:=hs p hp;have:D4 W' t=true:=by
   simp only [D4,List.any_eq_true,Bool.and_eq_true,Nat.ble_eq];exact ⟨q,d,Nat.le_trans h3 c,Nat.le_trans h2 h4⟩
  rw [this] at ht;cases ht
def LG (os:List Oper):List (Nat×Nat):=os.filterMap fun o=>o.dst.map fun d=>(d,d)
theorem tV.pq {os:List Oper} {o:Oper} {f:Fr} {v:AV}:tV (LG (o::os)) f (bU f o.dst v):=by
 intro t ht;cases hd:o.dst with
 | none=>rfl
 | some d =>
  simp only [bU,Am.pq];rw [if_neg];intro e;subst e;simp only [LG,List.filterMap_cons,hd,Option.map_some,D4,List.any_cons,Bool.or_eq_false_iff,Bool.and_eq_false_iff] at ht;have e:Nat.ble t t=true:=by simp
  rcases ht.1 with h | h <;> (rw [e] at h;cases h)
theorem tV.cons {os:List Oper} {o:Oper} {f f':Fr} (h:tV (LG os) f f'):tV (LG (o::os)) f f':=by
 intro t ht;refine h t ?_;simp only [LG,List.filterMap_cons] at ht;cases hd:o.dst with
 | none=>rw [hd] at ht;exact ht
 | some d =>
  rw [hd] at ht;simp only [D4,Option.map_some,List.any_cons,Bool.or_eq_false_iff] at ht;exact ht.2
section
variable {P:Program} {T:TT} {n:Nat}
theorem kX.weaken {c:Code} {f f1:Fr} {s:AS} {Q:Exit->Fr->AS->Prop} (h:∀ t,f1 t=f t\/f1 t=.bad) (b:kX P n c f1 s Q):kX P n c f s Q:=by
 intro B γ a w hf hr;refine b B γ a w ⟨hf.size,hf.defers,fun t=>?_⟩ hr;rcases h t with e | e
 ·rw [e];exact hf.vals t
 ·rw [e];simp [ai]
theorem SR {f:Fr} {d:Nat} {v:AV} (h:f d=v):pq f d v=f:=by
 funext t;simp only [pq];split
 ·rename_i e;rw [e,h]
 ·rfl
theorem zD {ops:Array Oper} {o:Oper} {f:Fr} {A B:Fr->Prop} (h:Gw ops.toList o.guard f A B):(dB ops f o=some true/\A f)\/(dB ops f o=some false/\B f):=by
 have k:∀ j,(ops[j]?).bind (·.dst)=WK ops.toList j:=by intro j;simp [WK]
 unfold Gw at h;unfold dB;split at h
 ·rename_i e;rw [e];exact .inl ⟨rfl,h⟩
 ·rename_i j want e;rw [e];simp only [k];split at h
  ·rename_i e2;rw [e2];exact .inr ⟨rfl,h⟩
  ·rename_i d e2;rw [e2];simp only;split at h
   ·rename_i b i;rw [i];have c:=CN h;cases b <;> cases want <;> simp only [Bool.false_eq_true,if_false,if_true] at c <;> rw [SR i] at c
    ·exact .inl ⟨rfl,c⟩
    ·exact .inr ⟨rfl,c⟩
    ·exact .inr ⟨rfl,c⟩
    ·exact .inl ⟨rfl,c⟩
   ·rename_i i;rw [i];exact .inr ⟨rfl,h⟩
   ·exact h.elim
theorem ve {f:Fr} {o:Op} (b:Kk o=false):fq f o=none:=by
 unfold Kk at b;unfold fq;split
 ·rename_i c;simp only at b;split
  ·rename_i x d;rw [d] at b;cases b
  ·rfl
 ·rfl
theorem jV {ops:Array Oper} {K:Fr->AS->Prop}:∀ (os:List Oper) (f:Fr) (s:AS),(os.all fun o=>eu n o.dst)=true->Gx P T ops.toList os f s K->fI P T n ops os f s fun f' s'=>K f' s'/\tV (LG os) f f'
 | [],f,s,_,h=>⟨h,tV.refl _ _⟩
 | o::os,f,s,hd,h=>by
  simp only [List.all_cons,Bool.and_eq_true] at hd;simp only [Gx] at h;simp only [fI];have mono:∀ (os:List Oper) (f:Fr) (s:AS) (K K':Fr->AS->Prop),(∀ f s,K f s->K' f s)->fI P T n ops os f s K->fI P T n ops os f s K':=by
   intro os
   induction os with
   | nil=>intro f s K K' j h;exact j _ _ h
   | cons o os m =>
    intro f s K K' j h;simp only [fI] at h ⊢;split at h
    ·obtain ⟨e,h2⟩:=h;rcases h2 with h2 | ⟨l,y,h2⟩
     rotate_left
     ·exact ⟨e,.inr ⟨l,y,fun p hp=>m _ _ _ _ j (h2 p hp)⟩⟩
     refine ⟨e,.inl ?_⟩;split at h2
     ·exact h2.mono fun v s' r=>m _ _ _ _ j r
     ·obtain ⟨v,s',h3,h4⟩:=h2;exact ⟨v,s',h3,m _ _ _ _ j h4⟩
    ·exact ⟨h.1,m _ _ _ _ j h.2⟩
    ·exact h
  rcases zD h with ⟨w,h⟩ | ⟨w,h⟩
  ·rw [w];have key:∀ v s',Gx P T ops.toList os (bU f o.dst v) s' K->fI P T n ops os (bU f o.dst v) s' fun f' s'=>K f' s'/\tV (LG (o::os)) f f' :=
    fun v s' r=>mono _ _ _ _ _ (fun f' s'' ⟨a,b⟩=>⟨a,tV.pq.trans b.cons⟩) (jV os _ _ hd.2 r)
   unfold X_ at h;split at h
   ·rename_i it c;obtain ⟨l,e,h2⟩:=Ja h;exact ⟨hd.1,.inr ⟨l,by rw [c];exact e,fun p hp=>key _ _ (h2 p hp)⟩⟩
   ·rename_i it c;obtain ⟨l,e,h2⟩:=Q_ h;exact ⟨hd.1,.inr ⟨l,by rw [c];exact e,fun p hp=>key _ _ (h2 p hp)⟩⟩
   ·rename_i it c;obtain ⟨k,v,e,h2⟩:=h;refine ⟨hd.1,.inl ?_⟩;rw [ve (by rw [c];rfl)];exact ⟨_,s,by rw [c];simp only [cO,e,Option.map_some],key _ _ h2⟩
   ·rename_i d i c;cases x:Wc ops.toList d with
    | false=>rw [x] at h;simp only [cond_false] at h;exact mq hd.1 (ud h) key
    | true =>
     rw [x] at h;simp only [cond_true] at h;unfold X9 at h;split at h
     ·rename_i vs hv;split at h
      ·rename_i v hi;refine ⟨hd.1,.inl ?_⟩;rw [ve (by rw [c];rfl)];exact ⟨v,s,by rw [c];simp only [cO,hv,hi,Option.map_some],key _ _ (AY h)⟩
      ·exact h.elim
     ·exact h.elim
   ·exact mq hd.1 (ud h) key
  ·rw [w];exact ⟨hd.1,mono _ _ _ _ _ (fun f' s'' ⟨a,b⟩=>⟨a,tV.pq.trans b.cons⟩) (jV os _ _ hd.2 h)⟩
theorem vg {o:Op} (h:ot T o=true):mQ o=true/\Kk o=false:=by
 simp only [ot,Bool.and_eq_true] at h;refine ⟨h.1,?_⟩;unfold Kk;split
 ·rename_i c;have:=h.1;simp only [mQ] at this;split
  ·rename_i x b;rw [b] at this;cases this
  ·rfl
 ·rfl
theorem vi {o:Op} {ρ:Operand->AV} {s s':AS} {v:AV} (i:ot T o=true) (h:cO T o ρ s=some (v,s')):s'=s:=by
 have e:=(vg i).1;cases o <;> first | (cases e;done) | skip
 case convert src dst x =>
  simp only [cO] at h;simp only [ot,Bool.and_eq_true] at i;have d:=i.2;unfold cY at h;split at h
  ·simp_all
  ·simp_all
  ·rename_i e1 e2;rw [e1] at d;cases d
  ·split at h
   ·split at h <;> simp_all
   ·cases h
  ·split at h <;> simp_all
  ·split at h
   ·split at h
    ·simp only [Option.some.injEq,Prod.mk.injEq] at h;exact h.2.symm
    simp only [Option.bind_eq_some_iff,Option.map_eq_some_iff] at h;obtain ⟨_,_,_,_,h3⟩:=h;simp only [Prod.mk.injEq] at h3;exact h3.2.symm
   ·cases h
  ·rename_i e1 e2;rw [e1] at d;cases d
  ·cases h
 case call c =>
  simp only [mQ] at e;simp only [cO] at h;cases j:c.callee with
  | value x=>rw [j] at e;cases e
  | invoke x m=>rw [j] at h;cases h
  | builtin b =>
   rw [j] at e h;simp only at h;unfold er at h;split at h <;> first
    | (cases e;done)
    | (cases h;done)
    | (simp only [Option.map_eq_some_iff,Prod.mk.injEq] at h;obtain ⟨_,_,_,h⟩:=h;exact h.symm)
 case makeFunc fn first captured =>
  cases fn with
  | func g=>simp only [cO] at h;split at h <;> simp_all
  | _=>simp [cO] at h
 all_goals
  simp only [cO] at h
  first
  | (simp only [Option.some.injEq,Prod.mk.injEq] at h;exact h.2.symm)
  | (simp only [Option.map_eq_some_iff,Prod.mk.injEq] at h;obtain ⟨_,_,_,h⟩:=h;exact h.symm)
  | (split at h <;> first | (cases h;done) | (simp only [Option.some.injEq,Prod.mk.injEq] at h;exact h.2.symm) | (simp only [Option.map_eq_some_iff,Prod.mk.injEq] at h;obtain ⟨_,_,_,h⟩:=h;exact h.symm))
theorem SS {ops:Array Oper} {s:AS} {K:Fr->AS->Prop} {m:Nat} {V:Nat->List AV->AV->Prop} {S:Nat->List AV->AV->AS->Prop} (b:1<=s.st) (hm:m<=ops.size) (p:∀ i o,i<m->ops[i]? = some o->ot T o.op=true):∀ (k a:Nat) (f:Fr),a+k=m ->
  fI P T n ops (ops.toList.drop a) f s K->X1 P T n ops [] [] V S s (fun f s'=>fI P T n ops (ops.toList.drop m) f s' K) (List.range' a k) f []
 | 0,a,f,r,h=>by
  simp only [Nat.add_zero] at r;subst r;simp only [List.range'_zero,dq];intro s' _ _ _ _ hs;rw [hs (by trivial)];exact h
 | k+1,a,f,r,h=>by
  have c:a<ops.size:=by omega
  have w:ops.toList.drop a=ops[a]::ops.toList.drop (a+1):=by
   rw [List.drop_eq_getElem_cons (by simpa using c)];simp
  have d:ops[a]? = some ops[a]:=Array.getElem?_eq_getElem c;rw [w] at h;simp only [fI] at h;rw [List.range'_succ];simp only [dq,d];have e:=p a _ (by omega) d;obtain ⟨x,C⟩:=vg e;split at h
  ·rename_i y;obtain ⟨hd,h⟩:=h;rcases h with h | ⟨l,B,_⟩
   rotate_left
   ·rw [zy (by
     have j:=x;cases z:ops[a].op <;> first | rfl | (rw [z] at j;cases j))] at B
    cases B
   rw [ve C] at h;obtain ⟨v,s',A,h2⟩:=h;obtain rfl:=vi e A;refine ⟨hd,?_⟩;rw [y];simp only [List.contains_nil,Bool.false_eq_true,if_false];exact ⟨by trivial,x,v,⟨A,fun s' D _=>CJ x b A D⟩,SS b hm p k (a+1) _ (by omega) h2⟩
  ·rename_i y;refine ⟨h.1,?_⟩;rw [y];exact ⟨rfl,SS b hm p k (a+1) _ (by omega) h.2⟩
  ·exact h.elim
theorem A0 {F:kM} {s:AS}:L_ F s↔∀ p∈F,p.2 s:=by
 induction F with
 | nil=>simp [L_]
 | cons p ps b=>simp [L_,b]
theorem Jj {ops:Array Oper} {A:List (List Nat)} {H:List Nat} {V:Nat->List AV->AV->Prop} {S:Nat->List AV->AV->AS->Prop} {s:AS} {K:Fr->AS->Prop} {W:List (Nat×Nat)} (D:1<=s.st) (X:H≠[]) (hd:∀ (i:Nat) (o:Oper),ops[i]? = some o->eu n o.dst=true)
  (Q:∀ (i:Nat) (o:Oper) (d:Nat),ops[i]? = some o->o.dst=some d->D4 W d=true) :
  ∀ (b:List Nat) (f:Fr) (F:kM),(∀ i∈b,H.contains i=true\/∃ o,ops[i]? = some o/\ot T o.op=true)->U5 P T ops.toList A H V S s K b f F->X1 P T n ops A H V S s (fun f' s'=>K f' s'/\tV W f f') b f F:=by
 intro b;have key:∀ (f0:Fr) (b:List Nat) (f:Fr) (F:kM),tV W f0 f->(∀ i∈b,H.contains i=true\/∃ o,ops[i]? = some o/\ot T o.op=true)->U5 P T ops.toList A H V S s K b f F->X1 P T n ops A H V S s (fun f' s'=>K f' s'/\tV W f0 f') b f F:=by
  intro f0 b
  induction b with
  | nil =>
   intro f F C k h;simp only [U5] at h;simp only [dq];intro s' w l R _ _;exact ⟨h s' w l (A0.2 R),C⟩
  | cons i b G =>
   intro f F C k h;simp only [U5] at h;simp only [dq];cases c:ops[i]? with
   | none=>simp [c] at h
   | some o =>
    have x:ops.toList[i]? = some o:=by simpa using c
    rw [x] at h;simp only at h ⊢;refine ⟨hd i o c,?_⟩;have m:∀ v,tV W f0 (bU f o.dst v):=by
     intro v t ht;cases I:o.dst with
     | none=>exact C t ht
     | some d =>
      have:=Q i o d c I;simp only [bU,pq];rw [if_neg (fun e=>by rw [e,this] at ht;cases ht)];exact C t ht
    rcases zD h with ⟨J,h⟩ | ⟨J,h⟩
    ·rw [J];simp only;cases L:H.contains i with
     | true =>
      rw [L] at h;simp only at h;rw [if_pos rfl];obtain ⟨y,h2,h3⟩:=h;refine ⟨fun s' w l hp _=>?_,h2,fun v hv=>G _ _ (m v) (fun j hj=>k j (List.mem_cons_of_mem _ hj)) (AY (h3 v hv))⟩;refine ud (y s' w l (A0.2 fun p r=>?_));simp only [List.mem_filter] at r;exact hp p r.1 r.2
     | false =>
      rw [L] at h;simp only at h;rw [if_neg (by simp)];rcases k i (by simp) with M | ⟨o',z,B⟩
      ·rw [L] at M;cases M
      ·rw [c] at z;obtain rfl:=Option.some.inj z;obtain ⟨O,U⟩:=vg B;obtain ⟨v,s',y,h2⟩:=FB U h;obtain rfl:=vi B y;exact ⟨rfl,O,v,⟨y,fun s' w _=>CJ O D y w⟩,G _ _ (m v) (fun j hj=>k j (List.mem_cons_of_mem _ hj)) h2⟩
    ·rw [J];exact ⟨rfl,G _ _ (m _) (fun j hj=>k j (List.mem_cons_of_mem _ hj)) h⟩
 exact fun f F k h=>key f b f F (tV.refl _ _) k h
theorem GA {ops:Array Oper} {A:List (List Nat)} {H:List Nat} {V:Nat->List AV->AV->Prop} {S:Nat->List AV->AV->AS->Prop} {X:AS->AS->Prop} {C:Nat->List AV->AV->AS->Prop} {M:List Nat} {s:AS} {K:Fr->AS->Prop} {W:List (Nat×Nat)} (hd:∀ (i:Nat) (o:Oper),ops[i]? = some o->eu n o.dst=true)
  (hW:∀ (i:Nat) (o:Oper) (d:Nat),ops[i]? = some o->o.dst=some d->D4 W d=true) :
  ∀ (f0:Fr) (I:List Nat) (f:Fr) (F:kM) (c:AS->Prop),tV W f0 f->(∀ i∈I,H.contains i=true\/∃ o,ops[i]? = some o/\ot T o.op=true)->Ma P T ops.toList A H V S X C M s K I f F c->dq P T n ops A H V S X C M s (fun f' s'=>K f' s'/\tV W f0 f') I f F c
 | f0,[],f,F,c,Q,D,h=>by
  simp only [Ma] at h;simp only [dq];intro s' J l hF hp _;exact ⟨h s' J l (A0.2 hF) hp,Q⟩
 | f0,i::I,f,F,c,Q,D,h=>by
  have R:=fun f F c0 a b c=>GA (A:=A) (H:=H) (V:=V) (S:=S) (X:=X) (C:=C) (M:=M) (s:=s) (K:=K) hd hW f0 I f F c0 a b c;simp only [Ma] at h;simp only [dq];cases m:ops[i]? with
  | none=>simp [m] at h
  | some o =>
   have L:ops.toList[i]? = some o:=by simpa using m
   rw [L] at h;simp only at h ⊢;refine ⟨hd i o m,?_⟩;have w:∀ v,tV W f0 (bU f o.dst v):=by
    intro v t ht;cases U:o.dst with
    | none=>exact Q t ht
    | some d =>
     have:=hW i o d m U;simp only [bU,pq];rw [if_neg (fun e=>by rw [e,this] at ht;cases ht)];exact Q t ht
   rcases zD h with ⟨Y,h⟩ | ⟨Y,h⟩
   ·rw [Y];simp only;cases Z:H.contains i with
    | true =>
     rw [Z] at h;simp only at h;rw [if_pos rfl];obtain ⟨G,h2,h3⟩:=h;refine ⟨fun s' J l hp hm=>?_,h2,fun v hv=>?_⟩
     ·have x:=G s' J l (A0.2 fun p y=>by
       simp only [List.mem_filter] at y;exact hp p y.1 y.2)
      cases z:M.contains i with
      | true =>
       rw [z] at x;simp only [if_true];exact ud (x (hm z))
      | false =>
       rw [z] at x;simp only [Bool.false_eq_true,if_false];exact ud x
     ·have ab:=AY (h3 v hv);have e:nV C M i (keyOf f o) v c=(match M.contains i with | true=>C i (keyOf f o) v | false=>c):=by
       unfold nV;cases M.contains i <;> simp
      rw [e];exact R _ _ _ (w v) (fun j hj=>D j (List.mem_cons_of_mem _ hj)) ab
    | false =>
     rw [Z] at h;simp only at h;rw [if_neg (by simp)];rcases D i (by simp) with h' | ⟨o',O,B⟩
     ·rw [Z] at h';cases h'
     ·rw [m] at O;obtain rfl:=Option.some.inj O;obtain ⟨q1,q2⟩:=vg B;split at h
      ·exact h.elim
      ·rename_i k;obtain ⟨v,s',G,h2⟩:=FB q2 h;obtain rfl:=vi B G;cases r:SN o.op with
       | true =>
        rw [r] at h2;exact ⟨k,q1,v,⟨G,fun s' _ _=>Rf r G s'⟩,R _ _ _ (w v) (fun j hj=>D j (List.mem_cons_of_mem _ hj)) h2⟩
       | false =>
        rw [r] at h2;refine ⟨k,q1,v,⟨G,fun s' J l=>?_⟩,R _ _ _ (w v) (fun j hj=>D j (List.mem_cons_of_mem _ hj)) h2.2⟩;obtain ⟨v',s'',h3,h4⟩:=FB q2 (h2.1 s' J l);obtain rfl:=vi B h3;rw [<- h4];exact h3
   ·rw [Y];split at h
    ·exact h.elim
    ·rename_i k;exact ⟨k,R _ _ _ (w _) (fun j hj=>D j (List.mem_cons_of_mem _ hj)) h⟩
end
end
section
section
variable {P:Program} {T:TT} {n:Nat}
theorem kX.pre {c:Code} {f:Fr} {s:AS} {Q:Exit->Fr->AS->Prop} (h:aJ s->kX P n c f s Q):kX P n c f s Q:=fun B γ a w hf hr=>h hr.N9 B γ a w hf hr
theorem qT {os:List Oper} {n:Nat} (h:(os.all fun o=>eu n o.dst)=true):(∀ o∈os,eu n o.dst=true):=by
 simpa [List.all_eq_true] using h
theorem yG {os:List Oper} {o:Oper} {d:Nat} (b:o∈os) (hd:o.dst=some d):D4 (LG os) d=true:=by
 simp only [D4,List.any_eq_true,Bool.and_eq_true,Nat.ble_eq,LG,List.mem_filterMap,Option.map_eq_some_iff];exact ⟨(d,d),⟨o,b,d,hd,rfl⟩,Nat.le_refl _,Nat.le_refl _⟩
theorem Mc (hT:TT.Ok P T) (bX:P.follows .mixedOrders=true):∀ (a:QA) (c:Code) (f:Fr) (s:AS) (Q:Exit->Fr->AS->Prop),codeOk T n a c=true->wg P T a c f s Q->kX P n c f s fun e f' s'=>Q e f' s'/\tV (Gz a c) f f':=by
 intro a
 induction a with
 | leaf =>
  intro c f s Q j h;cases c with
  | skip=>exact kX.skip ⟨h,tV.refl _ _⟩
  | label l=>exact kX.label ⟨h,tV.refl _ _⟩
  | exit id=>exact kX.exit ⟨h,tV.refl _ _⟩
  | ret=>exact kX.ret ⟨h,tV.refl _ _⟩
  | region id ops dr =>
   cases dr with
   | false=>exact kX.region hT (jV ops.toList f s j h)
   | true=>exact h.elim
  | _=>exact h.elim
 | calm =>
  intro c f s Q j h;cases c with
  | region id ops dr =>
   cases dr with
   | false=>exact h.elim
   | true =>
    simp only [codeOk,Bool.and_eq_true] at j;exact kX.calm hT bX j.1.2 j.2 (jV ops.toList f s j.1.1 h)
  | _=>exact h.elim
 | draw m =>
  intro c f s Q j h;cases c with
  | region id ops dr =>
   cases dr with
   | false=>exact h.elim
   | true =>
    simp only [codeOk,Bool.and_eq_true] at j;obtain ⟨⟨hd,R⟩,hq⟩:=j;have hv:=jV (n:=n) ops.toList f s hd h;have hD:=I_ R;refine kX.pre fun ab=>?_;have a3:∀ i o,i<m->ops[i]? = some o->ot T o.op=true:=by
     intro i o hi w;rw [List.all_eq_true] at hq;refine hq o ?_;rw [List.mem_iff_getElem?];exact ⟨i,by rw [List.getElem?_take,if_pos hi];simpa using w⟩
    refine kX.draw hT bX m [] (Region.before ops).toList [] (fun _ _ _=>True) (fun _ _ _ _=>True) R (fun _ _ _ _ _ _ _=>trivial) ?_;have:=SS (n:=n) (V:=fun _ _ _=>True) (S:=fun _ _ _ _=>True) ab.1 hD.le a3 m 0 f (by omega) (by simpa using hv);rw [<- List.range_eq_range'] at this;exact this
  | _=>exact h.elim
 | iB m A H =>
  intro c f s Q j h;cases c with
  | region id ops dr =>
   cases dr with
   | false=>exact h.elim
   | true =>
    simp only [codeOk,Bool.and_eq_true] at j;obtain ⟨⟨⟨hd,R⟩,hH⟩,hq⟩:=j;obtain ⟨S,V,hS,h⟩:=h;refine kX.pre fun ab=>?_;have ao:H≠[]:=by intro e;rw [e] at hH;cases hH
    have z:∀ (i:Nat) (o:Oper),ops[i]? = some o->o∈ops.toList:=fun i o w=>List.mem_iff_getElem?.2 ⟨i,by simpa using w⟩;have ad:=Jj (n:=n) (W:=LG ops.toList) ab.1 ao (fun i o w=>qT hd o (z i o w)) (fun i o d w F=>yG (z i o w) F) (List.range m) f [] (by
     intro i hi;rw [List.all_eq_true] at hq;have:=hq i hi;simp only [Bool.or_eq_true,Option.any_eq_true] at this;rcases this with h | ⟨o,r,h2⟩
     ·exact .inl h
     ·exact .inr ⟨o,by simpa using r,h2⟩) h
    refine kX.draw hT bX m A (Region.before ops).toList H V S R hS ?_;refine AT (fun f' s' ⟨r,h2⟩=>?_) _ _ _ _ ad;have ae:((ops.toList.drop m).all fun o=>eu n o.dst)=true:=by
     rw [List.all_eq_true];intro o w;exact qT hd o (List.mem_of_mem_drop w)
    have hv:=jV (n:=n) (ops.toList.drop m) f' s' ae r;have mono:∀ (os:List Oper) (f:Fr) (s:AS) (K K':Fr->AS->Prop),(∀ f s,K f s->K' f s)->fI P T n ops os f s K->fI P T n ops os f s K':=by
     intro os
     induction os with
     | nil=>intro f s K K' B h;exact B _ _ h
     | cons o os U =>
      intro f s K K' B h;simp only [fI] at h ⊢;split at h
      ·obtain ⟨r,h2⟩:=h;rcases h2 with h2 | ⟨l,hl,h2⟩
       rotate_left
       ·exact ⟨r,.inr ⟨l,hl,fun p hp=>U _ _ _ _ B (h2 p hp)⟩⟩
       refine ⟨r,.inl ?_⟩;split at h2
       ·exact h2.mono fun v s' hh=>U _ _ _ _ B hh
       ·obtain ⟨v,s',h3,h4⟩:=h2;exact ⟨v,s',h3,U _ _ _ _ B h4⟩
      ·exact ⟨h.1,U _ _ _ _ B h.2⟩
      ·exact h
    refine mono _ _ _ _ _ (fun f2 s2 ⟨g1,g2⟩=>⟨g1,h2.trans (fun t ht=>g2 t ?_)⟩) hv;cases hw:D4 (LG (ops.toList.drop m)) t with
    | false=>rfl
    | true =>
     exfalso;simp only [D4,List.any_eq_true,LG,List.mem_filterMap,Option.map_eq_some_iff] at hw;obtain ⟨p,⟨o,w,d,F,rfl⟩,hp⟩:=hw;simp only [Bool.and_eq_true,Nat.ble_eq] at hp;obtain rfl:d=t:=by omega
     rw [yG (List.mem_of_mem_drop w) F] at ht;cases ht
  | _=>exact h.elim
 | Qf D t A H =>
  intro c f s Q j h;cases c with
  | region id ops dr =>
   cases dr with
   | false=>exact h.elim
   | true =>
    simp only [codeOk,Bool.and_eq_true] at j;obtain ⟨⟨⟨hd,R⟩,hH⟩,hq⟩:=j;obtain ⟨S,V,hS,h⟩:=h;refine kX.pre fun ab=>?_;have ao:H≠[]:=by intro e;rw [e] at hH;cases hH
    have z:∀ (i:Nat) (o:Oper),ops[i]? = some o->o∈ops.toList:=fun i o w=>List.mem_iff_getElem?.2 ⟨i,by simpa using w⟩;have Y:∀ o,o∈(t.filterMap fun i=>ops[i]?)->o∈ops.toList:=fun o w=>by
     obtain ⟨i,_,hi⟩:=List.mem_filterMap.1 w;exact z i o hi
    have ad:=Jj (n:=n) (W:=LG ops.toList) ab.1 ao (fun i o w=>qT hd o (z i o w)) (fun i o d w F=>yG (z i o w) F) D f [] (by
     intro i hi;rw [List.all_eq_true] at hq;have:=hq i hi;simp only [Bool.or_eq_true,Option.any_eq_true] at this;rcases this with h | ⟨o,r,h2⟩
     ·exact .inl h
     ·exact .inr ⟨o,by simpa using r,h2⟩) h
    refine kX.tail hT bX D t A (Region.before ops).toList H V S Ext (fun _ _ _ _=>True) [] R OA (fun _ _ h=>h) (fun _ _ _=>Ext.trans) (fun _ _ _ _ _ _ _=>trivial) hS (c:=fun _=>True) (fun _ _ _ _=>trivial) trivial ?_;refine AT (fun f' s' ⟨r,h2⟩=>?_) _ _ _ _ ad;have ae:((t.filterMap fun i=>ops[i]?).all fun o=>eu n o.dst)=true:=by
     rw [List.all_eq_true];intro o w;exact qT hd o (Y _ w)
    have hv:=jV (n:=n) (t.filterMap fun i=>ops[i]?) f' s' ae r;have mono:∀ (os:List Oper) (f:Fr) (s:AS) (K K':Fr->AS->Prop),(∀ f s,K f s->K' f s)->fI P T n ops os f s K->fI P T n ops os f s K':=by
     intro os
     induction os with
     | nil=>intro f s K K' B h;exact B _ _ h
     | cons o os U =>
      intro f s K K' B h;simp only [fI] at h ⊢;split at h
      ·obtain ⟨r,h2⟩:=h;rcases h2 with h2 | ⟨l,hl,h2⟩
       rotate_left
       ·exact ⟨r,.inr ⟨l,hl,fun p hp=>U _ _ _ _ B (h2 p hp)⟩⟩
       refine ⟨r,.inl ?_⟩;split at h2
       ·exact h2.mono fun v s' hh=>U _ _ _ _ B hh
       ·obtain ⟨v,s',h3,h4⟩:=h2;exact ⟨v,s',h3,U _ _ _ _ B h4⟩
      ·exact ⟨h.1,U _ _ _ _ B h.2⟩
      ·exact h
    refine mono _ _ _ _ _ (fun f2 s2 ⟨g1,g2⟩=>⟨g1,h2.trans (fun tt ht=>g2 tt ?_)⟩) hv;cases hw:D4 (LG (t.filterMap fun i=>ops[i]?)) tt with
    | false=>rfl
    | true =>
     exfalso;simp only [D4,List.any_eq_true,LG,List.mem_filterMap,Option.map_eq_some_iff] at hw;obtain ⟨p,⟨o,w,d,F,rfl⟩,hp⟩:=hw;simp only [Bool.and_eq_true,Nat.ble_eq] at hp;obtain rfl:d=tt:=by omega
     rw [yG (by obtain ⟨i,_,hi⟩:=w;exact z i o hi) F] at ht;cases ht
  | _=>exact h.elim
 | we D t A H M =>
  intro c f s Q j h;cases c with
  | region id ops dr =>
   cases dr with
   | false=>exact h.elim
   | true =>
    simp only [codeOk,Bool.and_eq_true] at j;obtain ⟨⟨⟨hd,R⟩,hM⟩,hq⟩:=j;obtain ⟨X,C,c0,S,V,hX,a4,hC,hS,hc,h0,h⟩:=h;have z:∀ (i:Nat) (o:Oper),ops[i]? = some o->o∈ops.toList:=fun i o w=>List.mem_iff_getElem?.2 ⟨i,by simpa using w⟩;have Y:∀ o,o∈(t.filterMap fun i=>ops[i]?)->o∈ops.toList:=fun o w=>by
     obtain ⟨i,_,hi⟩:=List.mem_filterMap.1 w;exact z i o hi
    have ad:=GA (n:=n) (W:=LG ops.toList) (fun i o w=>qT hd o (z i o w)) (fun i o d w F=>yG (z i o w) F) f D f [] c0 (tV.refl _ _) (by
     intro i hi;rw [List.all_eq_true] at hq;have:=hq i hi;simp only [Bool.or_eq_true,Option.any_eq_true] at this;rcases this with h | ⟨o,r,h2⟩
     ·exact .inl h
     ·exact .inr ⟨o,by simpa using r,h2⟩) h
    refine kX.tail hT bX D t A (Region.before ops).toList H V S X C M R (WJ hM) hX a4 hC hS hc h0 ?_;refine AT (fun f' s' ⟨r,h2⟩=>?_) _ _ _ _ ad;have ae:((t.filterMap fun i=>ops[i]?).all fun o=>eu n o.dst)=true:=by
     rw [List.all_eq_true];intro o w;exact qT hd o (Y _ w)
    have hv:=jV (n:=n) (t.filterMap fun i=>ops[i]?) f' s' ae r;have mono:∀ (os:List Oper) (f:Fr) (s:AS) (K K':Fr->AS->Prop),(∀ f s,K f s->K' f s)->fI P T n ops os f s K->fI P T n ops os f s K':=by
     intro os
     induction os with
     | nil=>intro f s K K' B h;exact B _ _ h
     | cons o os U =>
      intro f s K K' B h;simp only [fI] at h ⊢;split at h
      ·obtain ⟨r,h2⟩:=h;rcases h2 with h2 | ⟨l,hl,h2⟩
       rotate_left
       ·exact ⟨r,.inr ⟨l,hl,fun p hp=>U _ _ _ _ B (h2 p hp)⟩⟩
       refine ⟨r,.inl ?_⟩;split at h2
       ·exact h2.mono fun v s' hh=>U _ _ _ _ B hh
       ·obtain ⟨v,s',h3,h4⟩:=h2;exact ⟨v,s',h3,U _ _ _ _ B h4⟩
      ·exact ⟨h.1,U _ _ _ _ B h.2⟩
      ·exact h
    refine mono _ _ _ _ _ (fun f2 s2 ⟨g1,g2⟩=>⟨g1,h2.trans (fun tt ht=>g2 tt ?_)⟩) hv;cases hw:D4 (LG (t.filterMap fun i=>ops[i]?)) tt with
    | false=>rfl
    | true =>
     exfalso;simp only [D4,List.any_eq_true,LG,List.mem_filterMap,Option.map_eq_some_iff] at hw;obtain ⟨p,⟨o,w,d,F,rfl⟩,hp⟩:=hw;simp only [Bool.and_eq_true,Nat.ble_eq] at hp;obtain rfl:d=tt:=by omega
     rw [yG (by obtain ⟨i,_,hi⟩:=w;exact z i o hi) F] at ht;cases ht
  | _=>exact h.elim
 | seq a b O al =>
  intro c f s Q j h;cases c with
  | seq x y =>
   simp only [codeOk,Bool.and_eq_true] at j;refine kX.seq ((O x f s _ j.1 h).mono ?_);rintro e f1 s1 ⟨r,h2⟩;cases e with
   | normal =>
    exact (al y f1 s1 Q j.2 r).mono fun e f2 s2 ⟨g1,g2⟩=>⟨g1,h2.left.trans g2.right⟩
   | _=>exact ⟨r,h2.left⟩
  | _=>exact h.elim
 | join L W a b O al =>
  intro c f s Q j h;cases c with
  | seq x y =>
   simp only [codeOk,Bool.and_eq_true] at j;obtain ⟨⟨⟨am,a1⟩,Z⟩,hL⟩:=j;obtain ⟨J,hJ,h⟩:=h;refine kX.seq ((O x f s _ am h).mono ?_);rintro e f1 s1 ⟨r,h2⟩;cases e with
   | normal =>
    obtain ⟨vs,g,ar,aw,an⟩:=Gy L _ _ hJ r;have w:=h2.sub Z;refine kX.weaken (f1:=g) (fun t=>?_) ?_
    ·rw [an t];split
     ·exact .inl rfl
     ·simp only [forget];cases hw:D4 W t with
      | true=>exact .inr rfl
      | false=>exact .inl (w t hw).symm
    ·refine (al y g s1 Q a1 (ar s1 aw)).mono fun e f2 s2 ⟨k1,k2⟩=>⟨k1,fun t ht=>?_⟩;simp only [Gz] at ht;rw [zC] at ht;simp only [Bool.or_eq_false_iff] at ht;rw [k2 t ht.2,an t,if_neg,forget,ht.1]
     ·rfl
     ·intro hm;obtain ⟨p,hp,rfl⟩:=List.mem_map.1 hm;rw [List.all_eq_true] at hL;have:=hL p hp;rw [this] at ht;cases ht.1
   | _=>exact ⟨r,(h2.sub Z).left⟩
  | _=>exact h.elim
 | cond a b O al =>
  intro c f s Q j h;cases c with
  | cond v x y =>
   simp only [codeOk,Bool.and_eq_true] at j;simp only [wg] at h;split at h
   ·rename_i t ht;have h':=CN h;refine kX.cond ht ?_;cases t with
    | true=>exact (O x f s Q j.1 (by simpa using h')).mono fun e f2 s2 ⟨k1,k2⟩=>⟨k1,k2.left⟩
    | false=>exact (al y f s Q j.2 (by simpa using h')).mono fun e f2 s2 ⟨k1,k2⟩=>⟨k1,k2.right⟩
   ·exact h.elim
  | _=>exact h.elim
 | wrap a O =>
  intro c f s Q j h;cases c with
  | block id x =>
   refine kX.block ((O x f s _ j h).mono ?_);rintro e f1 s1 ⟨r,h2⟩;cases e with
   | exit a7 =>
    simp only [zw] at r ⊢;split
    ·rename_i a0;rw [if_pos a0] at r;exact ⟨r,h2⟩
    ·rename_i a0;rw [if_neg a0] at r;exact ⟨r,h2⟩
   | _=>exact ⟨r,h2⟩
  | scope x =>
   refine kX.scope ((O x f s _ j h).mono ?_);rintro e f1 s1 ⟨r,h2⟩;cases e with
   | goto l=>exact r.elim
   | _=>exact ⟨r,h2⟩
  | _=>exact h.elim
 | loop L W a O =>
  intro c f s Q j h;cases c with
  | loop x =>
   simp only [codeOk,Bool.and_eq_true] at j;obtain ⟨⟨am,Z⟩,hL⟩:=j;obtain ⟨I,m0,h0,hr⟩:=h;refine kX.loop (fun m f' s'=>(Mb L f' fun vs=>I m vs s')/\tV W f f') m0 ⟨h0,tV.refl _ _⟩ ?_;rintro m f1 s1 ⟨r,w⟩;obtain ⟨vs,g,ar,aw,an⟩:=Gy L _ _ (hr m) r;have a5:tV W f g:=by
    intro t ht;rw [an t,if_neg,forget,ht]
    ·rfl
    ·intro hm;obtain ⟨p,hp,rfl⟩:=List.mem_map.1 hm;rw [List.all_eq_true] at hL;have:=hL p hp;rw [this] at ht;cases ht
   refine kX.weaken (f1:=g) (fun t=>?_) ?_
   ·rw [an t];split
    ·exact .inl rfl
    ·simp only [forget];cases hw:D4 W t with
     | true=>exact .inr rfl
     | false=>exact .inl (w t hw).symm
   ·refine (O x g s1 _ am (ar s1 aw)).mono ?_;rintro e f2 s2 ⟨k1,k2⟩;have k3:=a5.trans (k2.sub Z);cases e with
    | normal =>
     have key:∀ (L:List (Nat×TK)) (f:Fr) (K:List AV->Nat->Prop),(Mb L f fun vs=>∃ m',m'<m/\K vs m')->∃ m',m'<m/\Mb L f fun vs=>K vs m':=by
      intro L
      induction L with
      | nil=>intro f K h;exact h
      | cons p L U =>
       intro f K h;have a2:∀ (k:TK) (v:AV) (G:AV->Nat->Prop),(SO k v fun u=>∃ m',m'<m/\G u m')->∃ m',m'<m/\SO k v fun u=>G u m':=by
        intro k v G h;unfold SO at h;split at h
        ·rename_i k k' n;cases B:(k'==k) with
         | false=>rw [B] at h;exact h.elim
         | true=>rw [B] at h;obtain ⟨m',r,h2⟩:=h;exact ⟨m',r,by simp only [SO,B,cond_true];exact h2⟩
        all_goals first | exact h.elim | (obtain ⟨m',r,h2⟩:=h;exact ⟨m',r,by simp only [SO];exact h2⟩)
       refine a2 _ _ _ ?_;have hm:∀ (k:TK) (v:AV) (G G':AV->Prop),(∀ u,G u->G' u)->SO k v G->SO k v G':=by
        intro k v G G' hg h;unfold SO at h ⊢;split at h
        ·rename_i k k' n;cases B:(k'==k) with
         | false=>rw [B] at h;exact h.elim
         | true=>rw [B] at h;exact hg _ h
        all_goals first | exact hg _ h | exact h.elim
       exact hm _ _ _ _ (fun u hu=>U f (fun vs m'=>K (u::vs) m') hu) h
     obtain ⟨m',a6,hj⟩:=key L f2 (fun vs m'=>I m' vs s2) k1;exact ⟨m',a6,hj,k3⟩
    | _=>exact ⟨k1,k3⟩
  | _=>exact h.elim
def Qg:List AV->AV
 | [v]=>v
 | l=>.aQ l
def Ko (T:TT):List ResultVar->Fr->AS->List AV->(List AV->Prop)->Prop
 | [],_,_,acc,K=>K acc
 | .tmp t::rs,f,s,acc,K=>Ko T rs f s (acc++[f t]) K
 | .cell x t::rs,f,s,acc,K=>(match f x with
  | .ptr (some (l,off))=>(match T.agg t with
   | some true=>(match T.eZ t with | some n=>aS (aD s l off n) fun cs=>Ko T rs f s (acc++[.agg cs]) K | none=>False)
   | some false=>rd (X5 T t) (ak s l off) fun v=>Ko T rs f s (acc++[v]) K
   | none=>False)
  | _=>False)
theorem A4:∀ (rs:List ResultVar) (f:Fr) (s:AS) (acc:List AV) {K:List AV->Prop},Ko T rs f s acc K->∃ vs,yM.Ei T f s rs=some vs/\K (acc++vs)
 | [],f,s,acc,K,h=>⟨[],rfl,by simpa [Ko] using h⟩
 | .tmp t::rs,f,s,acc,K,h=>by
  obtain ⟨vs,c,h2⟩:=A4 rs f s _ h;exact ⟨f t::vs,by simp only [yM.Ei,c,Option.map_some],by simpa using h2⟩
 | .cell x t::rs,f,s,acc,K,h=>by
  simp only [Ko] at h;split at h
  ·rename_i l off hp;split at h
   ·rename_i b;split at h
    ·rename_i n i;obtain ⟨cs,d,e⟩:=h;obtain ⟨vs,c,h2⟩:=A4 rs f s _ e;exact ⟨.agg cs::vs,by simp only [yM.Ei,HY,hp,b,i,Option.bind_some,d,Option.map_some,c],by simpa using h2⟩
    ·exact h.elim
   ·rename_i b;obtain ⟨v,d,e⟩:=rd_some h;obtain ⟨vs,c,h2⟩:=A4 rs f s _ e;exact ⟨v::vs,by simp only [yM.Ei,HY,hp,b,d,Option.bind_some,c,Option.map_some],by simpa using h2⟩
   ·exact h.elim
  ·exact h.elim
def YF (T:TT) (rs:List ResultVar) (R:AV->AS->Prop):Exit->Fr->AS->Prop
 | .normal,f,s=>Ko T rs f s [] fun l=>R (Qg l) s
 | .ret,f,s=>Ko T rs f s [] fun l=>R (Qg l) s
 | _,_,_=>False
theorem aa.q (hT:TT.Ok P T) (bX:P.follows .mixedOrders=true) {g:FuncId} {fn:Func} {c:Code} {args:List AV} {s:AS} {R:AV->AS->Prop} {n:Nat} {rs:List ResultVar} {A:QA} (hf:P.funcs[g]? = some fn) (j:gB P g=true) (hb:fn.body=some c)
  (k:args.length+(fn.ntmps - args.length)=n) (b:fn.results.toList=rs) (d:codeOk T n A c=true) {Q:Prop} (m:Q=wg P T A c (sq args) s (YF T rs R)) (h:Q):aa P g args s R:=by
 rw [m] at h;refine aa.body hT hf j hb k b ((Mc hT bX A c _ s _ d h).mono ?_);rintro e f s ⟨i,_⟩;have key:(Ko T rs f s [] fun l=>R (Qg l) s)->∃ v,yM T rs f s=some v/\R v s:=by
  intro h;obtain ⟨vs,h2,h3⟩:=A4 rs f s [] h;refine ⟨Qg vs,?_,by simpa using h3⟩;unfold yM;rw [h2];simp only [Option.map_some];cases vs with
  | nil=>rfl
  | cons a l=>cases l <;> rfl
 cases e with
 | normal=>exact key i
 | ret=>exact key i
 | _=>exact i.elim
end
end
end Go.Am
namespace Go.aq
section
structure aO where
 r:Int
 c:Int
 deriving DecidableEq
def aO.may (d:aO):Bool:=decide (1<=d.r)&&decide (d.r<=16)&&decide (1<=d.c)&&decide (d.c<=4611686018427387904)
def aO.lt (a b:aO):Bool:=decide (a.r<b.r)||(a.r==b.r&&decide (a.c<b.c))
def ug (a b:Int):Int:=if a<b then -1 else if a>b then 1 else 0
def aO.cmp (a b:aO):Int:=if ug a.r b.r≠0 then ug a.r b.r else ug a.c b.c
theorem aO.gC {d:aO}:d.may=true↔1<=d.r/\d.r<=16/\1<=d.c/\d.c<=4611686018427387904:=by simp [aO.may,and_assoc]
theorem aO.lt_iff {a b:aO}:a.lt b=true↔a.r<b.r\/a.r=b.r/\a.c<b.c:=by simp [aO.lt]
theorem aO.gu {a b:aO}:a.cmp b<0↔a.lt b=true:=by
 rw [aO.lt_iff];simp only [aO.cmp,ug];grind
theorem aO.WL {a b:aO}:a.cmp b=0↔a=b:=by
 cases a;cases b;simp only [aO.cmp,ug,aO.mk.injEq];grind
theorem aO.lt_trans {a b c:aO} (h:a.lt b=true) (d:b.lt c=true):a.lt c=true:=by
 rw [aO.lt_iff] at *;omega
theorem aO.lt_irrefl (a:aO):¬ a.lt a=true:=by rw [aO.lt_iff];omega
theorem aO.WM (a b:aO):a.lt b=true\/a=b\/b.lt a=true:=by
 cases a;cases b;simp only [aO.lt_iff,aO.mk.injEq];omega
def pos (l:List aO) (d:aO):Nat:=(l.takeWhile fun x=>x.lt d).length
theorem Kq (l:List aO) (d:aO):pos l d<=l.length:=(List.takeWhile_sublist _).length_le
theorem pos_eq {l:List aO} {d:aO} {p:Nat} (hp:p<=l.length) (c:∀ (k:Nat) x,k<p->l[k]? = some x->x.lt d=true) (h2:∀ x,l[p]? = some x->x.lt d=false):pos l d=p:=by
 induction l generalizing p with
 | nil=>simp at hp;subst hp;rfl
 | cons a l e =>
  simp only [pos,List.takeWhile_cons];cases p with
  | zero=>have:=h2 a rfl;simp [this]
  | succ p =>
   have:=c 0 a (by omega) rfl;simp only [this,if_true,List.length_cons];have:=e (p:=p) (by simpa using hp) (fun k x i b=>c (k+1) x (by omega) (by simpa using b)) (fun x b=>h2 x (by simpa using b));simp only [pos] at this;rw [this]
def ew (l:List aO):Prop:=l.Pairwise fun a b=>a.lt b=true
theorem ew.lt {l:List aO} (h:ew l) {i j:Nat} {a b:aO} (c:i<j) (e:l[i]? = some a) (hb:l[j]? = some b):a.lt b=true:=by
 have hj:j<l.length:=by
  rcases Nat.lt_or_ge j l.length with d | d
  ·exact d
  ·rw [List.getElem?_eq_none d] at hb;cases hb
 have:=List.pairwise_iff_getElem.1 h i j (by omega) hj c;rw [List.getElem?_eq_getElem (by omega)] at e hb;rw [Option.some.inj e,Option.some.inj hb] at this;exact this
theorem ew.mem {l:List aO} (h:ew l) (d:aO):l[pos l d]? = some d↔d∈l:=by
 constructor
 ·intro h;exact List.mem_of_getElem? h
 ·intro hm;obtain ⟨i,hi⟩:=List.mem_iff_getElem?.1 hm;have e:i<l.length:=by
   rcases Nat.lt_or_ge i l.length with c | c
   ·exact c
   ·rw [List.getElem?_eq_none c] at hi;cases hi
  have:pos l d=i:=pos_eq (by omega) (fun k x j b=>h.lt j b hi) (fun x b=>by
   rw [hi] at b;obtain rfl:=Option.some.inj b;cases m:d.lt d with
   | false=>rfl
   | true=>exact absurd m (aO.lt_irrefl d))
  rw [this];exact hi
structure GB (v:List Int):Prop where
 len:v.length=16
 Yu:∀ x∈v,0<=x/\x<=4611686018427387904
theorem GB.get {v:List Int} (h:GB v) (i:Nat):0<=v.getD i 0/\v.getD i 0<=4611686018427387904:=by
 rw [List.getD_eq_getElem?_getD];cases b:v[i]? with
 | none=>simp
 | some x=>exact h.Yu x (List.mem_of_getElem? b)
theorem GB.set {v:List Int} (h:GB v) (i:Nat) {x:Int} (b:0<=x/\x<=4611686018427387904):GB (v.set i x):=by
 refine ⟨by rw [List.length_set];exact h.len,fun y c=>?_⟩;rcases List.mem_or_eq_of_mem_set c with d | rfl
 ·exact h.Yu y d
 ·exact b
def gD (st:List Int×List aO) (d:aO):List Int×List aO :=
 if d.c<=st.1.getD (d.r - 1).toNat 0 then st else if d.c=st.1.getD (d.r - 1).toNat 0+1 then (st.1.set (d.r - 1).toNat d.c,st.2) else (st.1,st.2++[d])
def compact (v:List Int) (l:List aO):List Int×List aO:=l.foldl gD (v,[])
theorem GC {st:List Int×List aO} {d:aO} (h:GB st.1) (hd:d.may=true):GB (gD st d).1:=by
 have:=aO.gC.1 hd;unfold gD;split
 ·exact h
 ·split
  ·exact h.set _ (by omega)
  ·exact h
theorem FD:∀ (l:List aO) (st:List Int×List aO),GB st.1->(∀ d∈l,d.may=true)->GB (l.foldl gD st).1
 | [],st,h,_=>h
 | d::l,st,h,hd=>FD l _ (GC h (hd d (by simp))) (fun x b=>hd x (by simp [b]))
theorem Rg (st:List Int×List aO) (d:aO):(gD st d).2.length<=st.2.length+1:=by
 unfold gD;split
 ·omega
 ·split <;> simp
theorem A5:∀ (l:List aO) (st:List Int×List aO),(l.foldl gD st).2.length<=st.2.length+l.length
 | [],st=>by simp
 | d::l,st=>by have:=A5 l (gD st d);have:=Rg st d;simp only [List.foldl_cons,List.length_cons];omega
def ins (l:List aO) (d:aO):List aO:=l.take (pos l d)++d::l.drop (pos l d)
theorem yH (l:List aO) (d:aO):(ins l d).length=l.length+1:=by
 have:=Kq l d;simp only [ins,List.length_append,List.length_cons,List.length_take,List.length_drop];omega
theorem vj {l:List aO} {d x:aO}:x∈ins l d↔x=d\/x∈l:=by
 simp only [ins,List.mem_append,List.mem_cons]
 conv=>rhs;rw [<- List.take_append_drop (pos l d) l,List.mem_append]
 constructor
 ·rintro (h | h | h)
  ·exact .inr (.inl h)
  ·exact .inl h
  ·exact .inr (.inr h)
 ·rintro (h | h | h)
  ·exact .inr (.inl h)
  ·exact .inl h
  ·exact .inr (.inr h)
theorem SU {l:List aO} {d x:aO} (h:x∈l.take (pos l d)):x.lt d=true:=by
 have:l.take (pos l d)=l.takeWhile fun x=>x.lt d:=by
  simp only [pos];exact (List.prefix_iff_eq_take.1 (List.takeWhile_prefix _)).symm
 rw [this] at h
 induction l with
 | nil=>simp at h
 | cons a l b =>
  rw [List.takeWhile_cons] at h;split at h
  ·rename_i c;rcases List.mem_cons.1 h with rfl | h
   ·exact c
   ·refine b h ?_;simp only [pos];exact (List.prefix_iff_eq_take.1 (List.takeWhile_prefix _)).symm
  ·simp at h
theorem pos_at {l:List aO} {d x:aO} (h:l[pos l d]? = some x):x.lt d=false:=by
 induction l with
 | nil=>simp at h
 | cons a l c =>
  simp only [pos,List.takeWhile_cons] at h;cases b:a.lt d with
  | true=>simp only [b,if_true,List.length_cons,List.getElem?_cons_succ] at h;exact c h
  | false=>simp only [b,Bool.false_eq_true,if_false,List.length_nil,List.getElem?_cons_zero,Option.some.injEq] at h;subst h;exact b
theorem ew.sub {l l':List aO} (h:ew l) (hs:l'.Sublist l):ew l':=List.Pairwise.sublist hs h
theorem ew.ins {l:List aO} (h:ew l) {d:aO} (hd:d ∉ l):ew (ins l d):=by
 unfold ew aq.ins;rw [List.pairwise_append];refine ⟨h.sub (List.take_sublist _ _),?_,fun a o b hb=>?_⟩
 ·rw [List.pairwise_cons];refine ⟨fun b hb=>?_,h.sub (List.drop_sublist _ _)⟩;obtain ⟨k,e⟩:=List.mem_iff_getElem?.1 hb;rw [List.getElem?_drop] at e;have m:∀ x,l[pos l d]? = some x->d.lt x=true:=by
   intro x n;rcases aO.WM d x with c | c | c
   ·exact c
   ·subst c;exact absurd (List.mem_of_getElem? n) hd
   ·rw [pos_at n] at c;cases c
  cases k with
  | zero=>exact m b (by simpa using e)
  | succ k =>
   have hp:pos l d<l.length:=by
    rcases Nat.lt_or_ge (pos l d) l.length with p | p
    ·exact p
    ·rw [List.getElem?_eq_none (by omega)] at e;cases e
   have n:=m _ (List.getElem?_eq_getElem hp);exact aO.lt_trans n (h.lt (by omega) (List.getElem?_eq_getElem hp) e)
 ·have c:=SU o;rcases List.mem_cons.1 hb with rfl | hb
  ·exact c
  ·obtain ⟨i,hi⟩:=List.mem_iff_getElem?.1 o;obtain ⟨j,hj⟩:=List.mem_iff_getElem?.1 hb;rw [List.getElem?_take] at hi;rw [List.getElem?_drop] at hj;split at hi
   ·exact h.lt (by omega) hi hj
   ·cases hi
theorem Md:∀ (l:List aO) (st:List Int×List aO),(l.foldl gD st).2.Sublist (st.2++l)
 | [],st=>by simp
 | d::l,st=>by
  have:=Md l (gD st d);simp only [List.foldl_cons];refine this.trans ?_;unfold gD;split
  ·exact List.Sublist.append_left (List.sublist_cons_self _ _) _
  ·split
   ·exact List.Sublist.append_left (List.sublist_cons_self _ _) _
   ·simp
theorem su (v:List Int) (l:List aO):(compact v l).2.Sublist l:=by simpa [compact] using Md l (v,[])
theorem OB {v:List Int} {l:List aO} (h:GB v) (hm:∀ d∈l,d.may=true):GB (compact v l).1:=FD l _ h hm
end
end Go.aq
namespace Go.aq.SG
section
structure OE where
 α:Type
 d0:α
 lt:α->α->Bool
 cmp:α->α->Int
 gu:∀ a b,cmp a b<0↔lt a b=true
 le_trans:∀ a b c,lt b a=false->lt c b=false->lt c a=false
 le_refl:∀ a,lt a a=false
 A7:∀ a b,lt a b=true->lt b a=false
def El (O:OE):Type:=O.α
variable {O:OE}
noncomputable instance YZ:DecidableEq (El O):=fun a b=>Classical.propDecidable (a=b)
def El.d0:El O:=O.d0
def El.lt (a b:El O):Bool:=O.lt a b
def El.cmp (a b:El O):Int:=O.cmp a b
def El.le (x y:El O):Prop:=y.lt x=false
theorem El.gu {a b:El O}:a.cmp b<0↔a.lt b=true:=O.gu a b
theorem El.le_trans {a b c:El O} (h:a.le b) (d:b.le c):a.le c:=O.le_trans a b c h d
theorem El.le_refl (a:El O):a.le a:=O.le_refl a
theorem El.A7 {a b:El O} (h:a.lt b=true):a.le b:=O.A7 a b h
theorem El.xj {a b:El O} (h:¬ a.lt b=true):b.le a:=by unfold El.le;simpa using h
def el (l:List (El O)) (i:Nat):El O:=l.getD i El.d0
theorem zE {l:List (El O)} {i:Nat} (h:i<l.length):l[i]? = some (el l i):=by
 rw [el,List.getD_eq_getElem?_getD,List.getElem?_eq_getElem h];rfl
theorem SV {l:List (El O)} {i k:Nat} {x:El O} (h:i<l.length):el (l.set i x) k=if k=i then x else el l k:=by
 simp only [el,List.getD_eq_getElem?_getD,List.getElem?_set];by_cases b:i=k
 ·subst b;simp [h]
 ·rw [if_neg b,if_neg (fun e=>b e.symm)]
def CC (l:List (El O)) (i j:Nat):List (El O):=(l.set i (el l j)).set j (el l i)
theorem FE (l:List (El O)) (i j:Nat):(CC l i j).length=l.length:=by simp [CC]
theorem mS {l:List (El O)} {i j:Nat} (hi:i<l.length) (hj:j<l.length) (k:Nat):el (CC l i j) k=if k=j then el l i else if k=i then el l j else el l k:=by
 unfold CC;rw [SV (by simpa using hj),SV hi]
inductive Sw (a b:Nat):List (El O)->List (El O)->Prop
 | refl (l:List (El O)):Sw a b l l
 | step {l l':List (El O)} {i j:Nat} (h:Sw a b l l') (hi:a<=i/\i<b) (hj:a<=j/\j<b) (hb:b<=l'.length):Sw a b l (CC l' i j)
theorem Sw.len {a b:Nat} {l l':List (El O)} (h:Sw a b l l'):l'.length=l.length:=by
 induction h with
 | refl=>rfl
 | step h hi hj hb c=>rw [FE,c]
theorem Sw.trans {a b:Nat} {l l' l'':List (El O)} (h:Sw a b l l') (c:Sw a b l' l''):Sw a b l l'':=by
 induction c with
 | refl=>exact h
 | step _ hi hj hb d=>exact .step d hi hj hb
theorem Sw.Wd {a b a' c:Nat} {l l':List (El O)} (h:Sw a b l l') (j:a'<=a) (hb:b<=c) (e:c<=l.length):Sw a' c l l':=by
 induction h with
 | refl=>exact .refl _
 | step h hi hj i d=>exact .step d ⟨by omega,by omega⟩ ⟨by omega,by omega⟩ (by rw [d.len];exact e)
theorem Sw.out {a b:Nat} {l l':List (El O)} (h:Sw a b l l') {k:Nat} (d:k<a\/b<=k):el l' k=el l k:=by
 induction h with
 | refl=>rfl
 | step h hi hj hb c=>rw [mS (by omega) (by omega),if_neg (by omega),if_neg (by omega),c]
theorem Sw.mem {a b:Nat} {l l':List (El O)} (h:Sw a b l l') {k:Nat} (d:a<=k/\k<b):∃ j,(a<=j/\j<b)/\el l' k=el l j:=by
 induction h generalizing k with
 | refl=>exact ⟨k,d,rfl⟩
 | step h hi hj hb c =>
  rw [mS (by omega) (by omega)];split
  ·exact c hi
  ·split
   ·exact c hj
   ·exact c d
theorem SW {l:List (El O)} {i j:Nat} (hi:i<l.length) (hj:j<l.length):(CC l i j).Perm l:=by
 rw [List.perm_iff_count];intro x;unfold CC;rw [List.count_set (by simpa using hj),List.count_set hi];have e1:l[i]=el l i:=by have:=zE hi;rw [List.getElem?_eq_getElem hi] at this;exact Option.some.inj this
 have e2:(l.set i (el l j))[j]'(by simpa using hj)=el l j:=by
  rw [List.getElem_set];split
  ·rfl
  ·have:=zE hj;rw [List.getElem?_eq_getElem hj] at this;exact Option.some.inj this
 rw [e1,e2];have c:el l i=x->0<l.count x:=fun e=>List.count_pos_iff.2 (e ▸ List.mem_of_getElem? (zE hi));by_cases b:el l i=x <;> by_cases d:el l j=x <;> simp [b,d]
 ·have:=c b;omega
 ·have:=c b;omega
theorem Sw.perm {a b:Nat} {l l':List (El O)} (h:Sw a b l l'):l'.Perm l:=by
 induction h with
 | refl=>exact .refl _
 | step h hi hj hb c=>exact (SW (by omega) (by omega)).trans c
def D5 (l:List (El O)) (a b:Nat):Prop:=∀ i j,a<=i->i<j->j<b->(el l i).le (el l j)
theorem Me {l:List (El O)} {a i j:Nat} (r:i<l.length) (hj:a<j) (o:j<=i) (e:(el l j).lt (el l (j - 1))=true)
  (h:∀ p q,a<=p->p<q->q<=i->q≠j->(el l p).le (el l q)):∀ p q,a<=p->p<q->q<=i->q≠j - 1->(el (CC l j (j - 1)) p).le (el (CC l j (j - 1)) q):=by
 intro p q hp k m n;rw [mS (by omega) (by omega),mS (by omega) (by omega),if_neg n];by_cases b:q=j
 ·rw [if_pos b];by_cases c:p=j - 1
  ·rw [if_pos c];exact El.A7 e
  ·rw [if_neg c,if_neg (by omega)];exact h p (j - 1) hp (by omega) (by omega) (by omega)
 ·rw [if_neg b];by_cases c:p=j - 1
  ·rw [if_pos c];exact h j q (by omega) (by omega) m b
  ·rw [if_neg c];by_cases d:p=j
   ·rw [if_pos d];exact h (j - 1) q (by omega) (by omega) m b
   ·rw [if_neg d];exact h p q hp k m b
theorem Kr {l:List (El O)} {a i j:Nat} (hj:a<=j) (e:j<=i) (hle:j=a\/(el l (j - 1)).le (el l j))
  (h:∀ p q,a<=p->p<q->q<=i->q≠j->(el l p).le (el l q)):D5 l a (i+1):=by
 intro p q hp c k;by_cases b:q=j
 ·subst b;rcases hle with rfl | hle
  ·omega
  ·by_cases d:p=q - 1
   ·rw [d];exact hle
   ·exact El.le_trans (h p (q - 1) hp (by omega) (by omega) (by omega)) hle
 ·exact h p q hp c (by omega) b
def Ej (l:List (El O)) (f n k:Nat):Prop:=∀ c,0<c->c<n->k<=(c - 1) / 2->(el l (f+c)).le (el l (f+(c - 1) / 2))
structure OC (l:List (El O)) (f n k root:Nat):Prop where
 lo:k<=root
 other:∀ c,0<c->c<n->k<=(c - 1) / 2->(c - 1) / 2≠root->(el l (f+c)).le (el l (f+(c - 1) / 2))
 up:k<root->k<=(root - 1) / 2->∀ c,0<c->c<n->(c - 1) / 2=root->(el l (f+c)).le (el l (f+(root - 1) / 2))
theorem Ej.YG {l:List (El O)} {f n k:Nat} (h:Ej l f n (k+1)):OC l f n k k :=
 ⟨by omega,fun c h0 b e d=>h c h0 b (by omega),fun h=>by omega⟩
theorem OC.done {l:List (El O)} {f n k root:Nat} (h:OC l f n k root) (e:∀ c,0<c->c<n->(c - 1) / 2=root->(el l (f+c)).le (el l (f+root))):Ej l f n k:=by
 intro c h0 b i;by_cases d:(c - 1) / 2=root
 ·rw [d];exact e c h0 b d
 ·exact h.other c h0 b i d
theorem OC.step {l:List (El O)} {f n k root child:Nat} (h:OC l f n k root) (B:f+n<=l.length) (x:child=2*root+1\/child=2*root+2) (o:child<n)
  (p:(el l (f+root)).lt (el l (f+child))=true) (b:∀ c,0<c->c<n->(c - 1) / 2=root->(el l (f+c)).le (el l (f+child))):OC (CC l (f+root) (f+child)) f n k child:=by
 have y:=h.lo;have E:=fun q=>mS (l:=l) (i:=f+root) (j:=f+child) (by omega) (by omega) q;refine ⟨by omega,fun c h0 m w z=>?_,fun _ _ c h0 m hp=>?_⟩
 ·rw [E,E];rw [if_neg (show ¬ f+(c - 1) / 2=f+child by omega)];by_cases d:(c - 1) / 2=root
  ·rw [if_pos (show f+(c - 1) / 2=f+root by omega)];by_cases A:c=child
   ·rw [if_pos (by omega)];exact El.A7 p
   ·rw [if_neg (by omega),if_neg (by omega)];exact b c h0 m d
  ·rw [if_neg (show ¬ f+(c - 1) / 2=f+root by omega),if_neg (show ¬ f+c=f+child by omega)];by_cases r:c=root
   ·rw [if_pos (by omega)];subst r;exact h.up (by omega) w child (by omega) o (by omega)
   ·rw [if_neg (by omega)];exact h.other c h0 m w d
 ·rw [E,E];have e:(child - 1) / 2=root:=by omega
  rw [if_neg (show ¬ f+c=f+child by omega),if_neg (show ¬ f+c=f+root by omega),e,if_neg (show ¬ f+root=f+child by omega),if_pos rfl];have:=h.other c h0 m (by omega) (by omega);rw [hp] at this;exact this
theorem Ej.top {l:List (El O)} {f n:Nat} (h:Ej l f n 0):∀ c,c<n->(el l (f+c)).le (el l f):=by
 intro c
 induction c using Nat.strongRecOn with
 | _ c b =>
  intro d;by_cases h0:c=0
  ·subst h0;exact El.le_refl _
  ·exact El.le_trans (h c (by omega) d (by omega)) (b ((c - 1) / 2) (by omega) (by omega))
def OD (l:List (El O)) (f b n:Nat):Prop:=∀ p q,f<=p->p<q->q<b->f+n<=q->(el l p).le (el l q)
theorem OD.swap {l:List (El O)} {f b n:Nat} (o:b<=l.length) (hb:f+(n+1)<=b) (h:OD l f b (n+1)) (k:Ej l f (n+1) 0):OD (CC l f (f+n)) f b n/\Ej (CC l f (f+n)) f n 1:=by
 have E:=fun q=>mS (l:=l) (i:=f) (j:=f+n) (by omega) (by omega) q;constructor
 ·intro p q hp m d r;rw [E,E];by_cases e:q=f+n
  ·rw [if_pos e,if_neg (by omega)];split
   ·exact k.top n (by omega)
   ·have:=k.top (p - f) (by omega);rw [show f+(p - f)=p by omega] at this;exact this
  ·rw [if_neg e,if_neg (show ¬ q=f by omega)];split
   ·exact h f q (by omega) (by omega) d (by omega)
   ·split
    ·exact h (f+n) q (by omega) (by omega) d (by omega)
    ·exact h p q hp m d (by omega)
 ·intro c h0 w x;rw [E,E,if_neg (by omega),if_neg (by omega),if_neg (by omega),if_neg (by omega)];exact k c h0 (by omega) (by omega)
theorem OD.sw {l l':List (El O)} {f b n:Nat} (h:OD l f b n) (hs:Sw f (f+n) l l'):OD l' f b n:=by
 intro p q hp d c i;rw [hs.out (k:=q) (.inr i)];by_cases m:p<f+n
 ·obtain ⟨j,hj,e⟩:=hs.mem (k:=p) ⟨hp,m⟩;rw [e];exact h j q hj.1 (by omega) c i
 ·rw [hs.out (.inr (by omega))];exact h p q hp d c i
structure Ks (L G:El O->El O->Prop) (l:List (El O)) (x y i j:Nat):Prop where
 xi:x<i
 ij:i<=j+1
 jy:j<y
 lt:∀ k,x<k->k<i->L (el l k) (el l x)
 ge:∀ k,j<k->k<y->G (el l k) (el l x)
theorem Ks.left {L G:El O->El O->Prop} {l:List (El O)} {x y i j:Nat} (h:Ks L G l x y i j) (b:i<=j) (c:L (el l i) (el l x)):Ks L G l x y (i+1) j :=
 ⟨by have:=h.xi;omega,by omega,h.jy,fun k d h2=>by
  by_cases e:k=i
  ·rw [e];exact c
  ·exact h.lt k d (by omega),h.ge⟩
theorem Ks.right {L G:El O->El O->Prop} {l:List (El O)} {x y i j:Nat} (h:Ks L G l x y i j) (b:i<=j) (c:G (el l j) (el l x)):Ks L G l x y i (j - 1) :=
 ⟨h.xi,by have:=h.xi;omega,by have:=h.jy;omega,h.lt,fun k d h2=>by
  by_cases e:k=j
  ·rw [e];exact c
  ·exact h.ge k (by omega) h2⟩
theorem Ks.swap {L G:El O->El O->Prop} {l:List (El O)} {x y i j:Nat} (h:Ks L G l x y i j) (e:y<=l.length) (b:i<j) (c:L (el l j) (el l x)) (d:G (el l i) (el l x)):Ks L G (CC l i j) x y (i+1) (j - 1):=by
 have m:=h.xi;have h2:=h.jy;have E:=fun q=>mS (l:=l) (i:=i) (j:=j) (by omega) (by omega) q;have ex:el (CC l i j) x=el l x:=by rw [E,if_neg (by omega),if_neg (by omega)]
 refine ⟨by omega,by omega,by omega,fun k h3 h4=>?_,fun k h3 h4=>?_⟩
 ·rw [ex,E,if_neg (by omega)];split
  ·exact c
  ·exact h.lt k h3 (by omega)
 ·rw [ex,E];split
  ·exact d
  ·rw [if_neg (by omega)];exact h.ge k (by omega) h4
def Lt (a p:El O):Prop:=a.lt p=true
def Ge (a p:El O):Prop:=p.le a
structure GD (l:List (El O)) (x y m:Nat):Prop where
 xm:x<=m
 my:m<y
 lt:∀ k,x<=k->k<m->(el l k).le (el l m)
 ge:∀ k,m<k->k<y->(el l m).le (el l k)
theorem Ks.fin {l:List (El O)} {x y i j:Nat} (h:Ks Lt Ge l x y i j) (n:y<=l.length) (m:j<i):GD (CC l j x) x y j:=by
 have o:=h.xi;have h2:=h.jy;have h3:=h.ij;have E:=fun q=>mS (l:=l) (i:=j) (j:=x) (by omega) (by omega) q;have b:el (CC l j x) j=el l x:=by
  rw [E];split
  ·rename_i e;rw [e]
  ·rw [if_pos rfl]
 refine ⟨by omega,h2,fun k h4 c=>?_,fun k h4 c=>?_⟩
 ·rw [b,E];by_cases d:k=x
  ·rw [if_pos d];exact El.A7 (h.lt j (by omega) (by omega))
  ·rw [if_neg d,if_neg (by omega)];exact El.A7 (h.lt k (by omega) (by omega))
 ·rw [b,E,if_neg (by omega),if_neg (by omega)];exact h.ge k h4 c
theorem Ks.start {L G:El O->El O->Prop} {l:List (El O)} {x y:Nat} (h:x<y):Ks L G l x y (x+1) (y - 1):=⟨by omega,by omega,by omega,fun k b h2=>by omega,fun k b h2=>by omega⟩
def UM (a p:El O):Prop:=a.le p
def UN (a p:El O):Prop:=p.lt a=true
def jx (l:List (El O)) (a0 b0 a b:Nat):Prop:=∀ p q,a0<=p->p<q->q<b0->(p<a\/b<=q)->(el l p).le (el l q)
theorem jx.sw {l l':List (El O)} {a0 b0 a b:Nat} (i:a0<=a) (hb:b<=b0) (h:jx l a0 b0 a b) (hs:Sw a b l l'):jx l' a0 b0 a b:=by
 intro p q d h2 h3 h4;have P:(p<a\/b<=p)\/(a<=p/\p<b):=by omega
 have Q:(q<a\/b<=q)\/(a<=q/\q<b):=by omega
 rcases P with hp | hp <;> rcases Q with c | c
 ·rw [hs.out hp,hs.out c];exact h p q d h2 h3 h4
 ·obtain ⟨j,hj,e⟩:=hs.mem c;rw [hs.out hp,e];exact h p j d (by omega) (by omega) (by omega)
 ·obtain ⟨j,hj,e⟩:=hs.mem hp;rw [hs.out c,e];exact h j q (by omega) (by omega) h3 (by omega)
 ·omega
theorem jx.X8 {l:List (El O)} {a0 b0 a b:Nat} (h:jx l a0 b0 a b) (hs:D5 l a b):D5 l a0 b0:=by
 intro p q c h2 h3;by_cases h4:p<a\/b<=q
 ·exact h p q c h2 h3 h4
 ·exact hs p q (by omega) h2 (by omega)
theorem jx.start (l:List (El O)) (a b:Nat):jx l a b a b:=fun p q _ _ _ _=>by omega
theorem jx.right {l l':List (El O)} {a0 b0 a b m:Nat} (z:a0<=a) (hb:b<=b0) (h:jx l a0 b0 a b) (hp:GD l a b m) (hs:Sw a m l l') (n:D5 l' a m):jx l' a0 b0 (m+1) b:=by
 have A:=hp.xm;have h2:=hp.my;intro p q B w C D;have src:∀ k,∃ j,el l' k=el l j/\((a<=k/\k<m/\a<=j/\j<m)\/(j=k/\(k<a\/m<=k))):=by
  intro k;by_cases i:a<=k/\k<m
  ·obtain ⟨j,hj,e⟩:=hs.mem i;exact ⟨j,e,.inl ⟨i.1,i.2,hj.1,hj.2⟩⟩
  ·exact ⟨k,hs.out (by omega),.inr ⟨rfl,by omega⟩⟩
 by_cases c:a<=p/\q<b
 ·
  by_cases x:q<m
  ·exact n p q c.1 w x
  ·obtain ⟨j,e,hj⟩:=src p;rw [e,hs.out (k:=q) (by omega)];have y:p<=m:=by omega
   have d:(el l j).le (el l m):=by
    by_cases o:j=m
    ·rw [o];exact El.le_refl _
    ·exact hp.lt j (by omega) (by omega)
   by_cases r:q=m
   ·rw [r];exact d
   ·exact El.le_trans d (hp.ge q (by omega) c.2)
 ·obtain ⟨j,e,hj⟩:=src p;obtain ⟨k,e',i⟩:=src q;rw [e,e'];exact h j k (by omega) (by omega) (by omega) (by omega)
theorem jx.left {l l':List (El O)} {a0 b0 a b m:Nat} (y:a0<=a) (hb:b<=b0) (h:jx l a0 b0 a b) (hp:GD l a b m) (hs:Sw (m+1) b l l') (n:D5 l' (m+1) b):jx l' a0 b0 a m:=by
 have z:=hp.xm;have h2:=hp.my;intro p q A w B C;have src:∀ k,∃ j,el l' k=el l j/\((m<k/\k<b/\m<j/\j<b)\/(j=k/\(k<=m\/b<=k))):=by
  intro k;by_cases i:m+1<=k/\k<b
  ·obtain ⟨j,hj,e⟩:=hs.mem i;exact ⟨j,e,.inl ⟨by omega,i.2,by omega,hj.2⟩⟩
  ·exact ⟨k,hs.out (by omega),.inr ⟨rfl,by omega⟩⟩
 by_cases c:a<=p/\q<b
 ·by_cases x:m<p
  ·exact n p q (by omega) w c.2
  ·obtain ⟨k,e,i⟩:=src q;rw [e,hs.out (k:=p) (by omega)];have d:(el l m).le (el l k):=by
    by_cases o:k=m
    ·rw [o];exact El.le_refl _
    ·exact hp.ge k (by omega) (by omega)
   by_cases r:p=m
   ·rw [r];exact d
   ·exact El.le_trans (hp.lt p c.1 (by omega)) d
 ·obtain ⟨j,e,hj⟩:=src p;obtain ⟨k,e',i⟩:=src q;rw [e,e'];exact h j k (by omega) (by omega) (by omega) (by omega)
theorem jx.equal {l:List (El O)} {a0 b0 a b i j:Nat} (h:jx l a0 b0 a b) (w:a0<=a) (hb:b<=b0) (hp:Ks UM UN l a b i j) (m:j<i) (c:∀ k,a<=k->k<b->(el l a).le (el l k)):jx l a0 b0 i b:=by
 have x:=hp.xi;have h2:=hp.ij;have h3:=hp.jy;intro p q n o r y;by_cases d:a<=p/\q<b
 ·have hle:(el l p).le (el l a):=by
   by_cases e:p=a
   ·rw [e];exact El.le_refl _
   ·exact hp.lt p (by omega) (by omega)
  exact El.le_trans hle (c q (by omega) d.2)
 ·exact h p q n o r (by omega)
end
end Go.aq.SG
namespace Go.Am
section
section
variable {P:Program} {T:TT} (hT:TT.Ok P T) {call:L5} (AX:Kh P call) (bX:P.follows .mixedOrders=true)
include hT AX bX
end
end
section
open Go.ChangeShapes Go.WideShapes Go.ChangeAt Go.RowKit
def s0:AS:={ lay:=[],cur:=.E,nl:=0,st:=1 }
theorem gq.below {B:Nat} {γ γ':bT} {s s':AS} {w w':World} (h:gq B γ s w γ' s' w') (b:∀ l o,s.h l=some o->o.ro=true):Below w.heap.size w w' :=
 ⟨h.env.1,h.env.2.1,h.env.2.2,h.eZ,fun k c=>h.V8 k c fun l o i d h2 _=>by rw [b l o d] at h2;cases h2⟩
theorem SX {H:Type} {enc:TypeId×Value->H} {P:Program} {f:Func} {s:ChangeSpec} {fresh:Bool} {W W':World} {args:Array Value} {ds:List (DataW H)} {before pa:List MemPlace} {rt:TypeId}
  (j:DataW.Whole enc P f.params.toList s.vars false W args.toList ds [] before) (hv:s.vars=[]) (hb:Below W.heap.size W W') (d:f.resultTypes=#[rt]) (e:P.underlying rt=some .bool)
  (c:(s.fn H (ds++[]))={ results:=[.lit (.bool true)],args:=ds }) (i:DataW.TrodAll enc P W' 0 (fun b=>decide (b<W.heap.size)) true f.params.toList args.toList ds pa) :
  s.post enc P f false fresh false false W args (.bool true) W':=by
 refine ⟨ds,[],before,[],pa,[],j,?_,?_,?_,hb.frame _,fun h=>by cases h⟩
 ·rw [c,d];exact trodAll_mk1 (shut_bool e true)
 ·rw [c];exact i
 ·rw [c,hv];rfl
end
section
/-! ### heaps -/
theorem aJ.none {s:AS} (h:aJ s):s.h s.nl=none:=by simpa using h.2 0
def bB (L:List Nat) (s s':AS):Prop:=(∀ x o,x ∉ L->s.h x=some o->s'.h x=some o)/\s.nl<=s'.nl
theorem bB.refl (L:List Nat) (s:AS):bB L s s:=⟨fun _ _ _ h=>h,Nat.le_refl _⟩
theorem bB.trans {L:List Nat} {a b c:AS} (h:bB L a b) (d:bB L b c):bB L a c:=⟨fun x o i e=>d.1 x o i (h.1 x o i e),Nat.le_trans h.2 d.2⟩
theorem Ext.mut {L:List Nat} {s s':AS} (h:Ext s s'):bB L s s':=⟨fun x o _ e=>h.1 x o e,h.2⟩
theorem bB.ext {s s':AS} (h:bB [] s s'):Ext s s':=⟨fun x o e=>h.1 x o (by simp) e,h.2⟩
theorem bB.mono {L b:List Nat} {s s':AS} (h:bB L s s') (c:∀ x∈L,x∈b):bB b s s':=⟨fun x o d e=>h.1 x o (fun m=>d (c x m)) e,h.2⟩
def At (s:AS) (l:Nat) (cs:List AV):Prop:=∃ g ro,s.h l=some (.cells cs g ro)
def Own (s:AS) (l:Nat) (cs:List AV):Prop:=s.h l=some (.cells cs 0 false)
theorem Own.at {s:AS} {l:Nat} {cs:List AV} (h:Own s l cs):At s l cs:=⟨_,_,h⟩
theorem At.ext {s s':AS} {l:Nat} {cs:List AV} (h:At s l cs) (e:Ext s s'):At s' l cs:=by obtain ⟨g,ro,h⟩:=h;exact ⟨g,ro,e.1 _ _ h⟩
theorem At.mut {s s':AS} {L:List Nat} {l:Nat} {cs:List AV} (h:At s l cs) (e:bB L s s') (b:l ∉ L):At s' l cs:=by obtain ⟨g,ro,h⟩:=h;exact ⟨g,ro,e.1 _ _ b h⟩
theorem Own.ext {s s':AS} {l:Nat} {cs:List AV} (h:Own s l cs) (e:Ext s s'):Own s' l cs:=e.1 _ _ h
theorem Own.mut {s s':AS} {L:List Nat} {l:Nat} {cs:List AV} (h:Own s l cs) (e:bB L s s') (b:l ∉ L):Own s' l cs:=e.1 _ _ b h
theorem At.ak {s:AS} {l:Nat} {cs:List AV} (h:At s l cs) (o:Nat):ak s l o=cs[o]? := by obtain ⟨g,ro,h⟩:=h;exact WD h
theorem At.aD {s:AS} {l:Nat} {cs:List AV} (h:At s l cs) {o n:Nat} (b:o+n<=cs.length):aD s l o n=some ((cs.drop o).take n):=by obtain ⟨g,ro,h⟩:=h;exact u_ h b
theorem At.inj {s:AS} {l:Nat} {cs cs':List AV} (h:At s l cs) (b:At s l cs'):cs=cs':=by
 obtain ⟨g,ro,h⟩:=h;obtain ⟨d,c,b⟩:=b;rw [h] at b;simp only [Option.some.injEq,AO.cells.injEq] at b;exact b.1
structure rm (s s':AS) (l:Nat) (o:AO):Prop where
 «at»:s'.h l=some o
 ext:Ext s s'
 wf:aJ s'
 no:s.h l=none
 eq:∀ x,x≠l->s'.h x=s.h x
 nl:s.nl<=l/\l<s'.nl
 st:s'.st=s.st
theorem rm.ne {s s':AS} {l:Nat} {o:AO} (h:rm s s' l o) {x:Nat} {o':AO} (b:s.h x=some o'):x≠l:=by
 intro e;subst e;rw [h.no] at b;cases b
theorem rm.own {s s':AS} {l:Nat} {cs:List AV} (h:rm s s' l (.cells cs 0 false)):Own s' l cs:=h.at
theorem aJ.new {s:AS} (h:aJ s) {o:AO} (c:o.live=true):rm s (s.new o) s.nl o:=by
 have d:=h.1;refine ⟨by rw [AS.o_ _ c,if_pos rfl],⟨fun x p b=>?_,by rw [AS.uT];omega⟩,⟨d,fun k=>?_⟩,h.none,fun x b=>by rw [AS.o_ _ c,if_neg b],⟨Nat.le_refl _,by rw [AS.uT];omega⟩,rfl⟩
 ·rw [AS.o_ _ c,if_neg]
  ·exact b
  ·intro e;subst e;rw [h.none] at b;cases b
 ·rw [AS.uT,AS.N_,AS.o_ _ c];have e1:s.nl+s.st+k*s.st=s.nl+(k+1)*s.st:=by rw [Nat.add_mul,Nat.one_mul];omega
  rw [if_neg (by omega),e1];exact h.2 (k+1)
theorem aj.intro {o:AO} {s:AS} {K:Nat->AS->Prop} (b:aJ s) (c:o.live=true) (h:∀ l s',rm s s' l o->K l s'):aj o s K:=h _ _ (b.new c)
structure We (s s':AS) (l:Nat) (o:AO):Prop where
 «at»:s'.h l=some o
 wf:aJ s'
 eq:∀ x,x≠l->s'.h x=s.h x
 nl:s'.nl=s.nl
 st:s'.st=s.st
theorem We.mut {s s':AS} {l:Nat} {o:AO} (h:We s s' l o):bB [l] s s':=⟨fun x p b hp=>by rw [h.eq x (by simpa using b)];exact hp,by rw [h.nl];exact Nat.le_refl _⟩
theorem aJ.put {s:AS} (h:aJ s) {l:Nat} {o o':AO} (c:s.h l=some o') (b:o.live=true):We s (s.put l o) l o:=by
 refine ⟨by rw [AS.oZ _ _ b,if_pos rfl],⟨h.1,fun k=>?_⟩,fun x d=>by rw [AS.oZ _ _ b,if_neg d],rfl,rfl⟩;rw [AS.CG,AS.Wv,AS.oZ _ _ b,if_neg]
 ·exact h.2 k
 ·intro e;rw [<- e,h.2 k] at c;cases c
theorem bC.cS {s:AS} {l o g:Nat} {cs vs:List AV} {K:AS->Prop} (c:aJ s) (b:s.h l=some (.cells cs g false)) (d:o+vs.length<=cs.length) (h:∀ s',We s s' l (.cells (qQ cs o vs) g false)->K s'):bC (cS s l o vs) K:=by
 refine ⟨s.put l (.cells (qQ cs o vs) g false),?_,h _ (c.put b rfl)⟩;simp only [Am.cS,b,if_pos d]
theorem bC.own {s:AS} {l o:Nat} {cs vs:List AV} {K:AS->Prop} (b:aJ s) (c:Own s l cs) (d:o+vs.length<=cs.length) (h:∀ s',We s s' l (.cells (qQ cs o vs) 0 false)->K s'):bC (Am.cS s l o vs) K:=bC.cS b c d h
/-! ### calls -/
def Y7 (s s':AS):Prop:=(∃ k,s'.nl=s.nl+k*s.st)/\s'.st=s.st
section
variable {P:Program} {g:FuncId} {args:List AV} {s:AS} {R:AV->AS->Prop}
theorem aa.pre (h:aJ s->aa P g args s R):aa P g args s R :=
 fun B γ ca w b h2=>h h2.N9 B γ ca w b h2
theorem aa.post (h:aa P g args s R):aa P g args s fun v s'=>R v s'/\aJ s'/\Y7 s s' :=
 fun B γ ca w i h2=>(h B γ ca w i h2).mono fun e w' ⟨γ',v,cv,s',a,b,c,d,e⟩=>⟨γ',v,cv,s',a,b,c,d,e,d.N9,c.nl,c.st⟩
theorem aa.use {R':AV->AS->Prop} (h:aa P g args s R) (hr:∀ v s',R v s'->aJ s'->R' v s'):aa P g args s R' :=
 h.post.mono fun v s' ⟨a,b,_⟩=>hr v s' a b
end
/-! ### words -/
theorem SY {k:IntKind} {n:Int} {K:Int->Prop}:aV k (some (.int k n)) K↔K n:=⟨fun ⟨m,h,b⟩=>by simp only [Option.some.injEq,AV.int.injEq] at h;rw [h.2];exact b,fun h=>⟨n,rfl,h⟩⟩
theorem SZ {b:Bool} {K:Bool->Prop}:Qb (some (.bool b)) K↔K b:=⟨fun ⟨m,h,c⟩=>by simp only [Option.some.injEq,AV.bool.injEq] at h;rw [h];exact c,fun h=>⟨b,rfl,h⟩⟩
theorem S1 {b:List UInt8} {K:List UInt8->Prop}:CM (some (.str b)) K↔K b:=⟨fun ⟨m,h,c⟩=>by simp only [Option.some.injEq,AV.str.injEq] at h;rw [h];exact c,fun h=>⟨b,rfl,h⟩⟩
theorem S2 {a:Option (Nat×Nat)} {K:Option (Nat×Nat)->Prop}:nM (some (.ptr a)) K↔K a:=⟨fun ⟨m,h,b⟩=>by simp only [Option.some.injEq,AV.ptr.injEq] at h;rw [h];exact b,fun h=>⟨a,rfl,h⟩⟩
theorem S6 {a:Option Nat} {K:Option Nat->Prop}:wN (some (.map a)) K↔K a:=⟨fun ⟨m,h,b⟩=>by simp only [Option.some.injEq,AV.map.injEq] at h;rw [h];exact b,fun h=>⟨a,rfl,h⟩⟩
theorem S7 {a:List AV} {K:List AV->Prop}:oq (some (.agg a)) K↔K a:=⟨fun ⟨m,h,b⟩=>by simp only [Option.some.injEq,AV.agg.injEq] at h;rw [h];exact b,fun h=>⟨a,rfl,h⟩⟩
theorem S9 {a:AV} {K:AV->Prop}:dn (some a) K↔K a:=⟨fun ⟨m,h,b⟩=>by simp only [Option.some.injEq] at h;rw [h];exact b,fun h=>⟨a,rfl,h⟩⟩
theorem S_ {a:List AV} {K:List AV->Prop}:aS (some a) K↔K a:=⟨fun ⟨m,h,b⟩=>by simp only [Option.some.injEq] at h;rw [h];exact b,fun h=>⟨a,rfl,h⟩⟩
theorem Ta {a:Bool} {K:Bool->Prop}:sr (some a) K↔K a:=⟨fun ⟨m,h,b⟩=>by simp only [Option.some.injEq] at h;rw [h];exact b,fun h=>⟨a,rfl,h⟩⟩
theorem Tb {a:AS} {K:AS->Prop}:bC (some a) K↔K a:=⟨fun ⟨m,h,b⟩=>by simp only [Option.some.injEq] at h;rw [h];exact b,fun h=>⟨a,rfl,h⟩⟩
theorem Tc {a:AV} {s:AS} {K:AV->AS->Prop}:ig (some (a,s)) K↔K a s:=⟨fun ⟨m,t,h,b⟩=>by simp only [Option.some.injEq,Prod.mk.injEq] at h;rw [h.1,h.2];exact b,fun h=>⟨a,s,rfl,h⟩⟩
theorem Td {l i:Nat} {K:Nat->Nat->Prop}:bE (some (.ptr (some (l,i)))) K↔K l i:=⟨fun ⟨m,t,h,b⟩=>by simp only [Option.some.injEq,AV.ptr.injEq,Prod.mk.injEq] at h;rw [h.1,h.2];exact b,fun h=>⟨l,i,rfl,h⟩⟩
theorem Mf {l i:Nat} {K:Nat->Nat->Prop}:ah (some (l,i)) K↔K l i:=Iff.rfl
theorem Mg {X Y:Prop}:af true X Y↔X:=Iff.rfl
theorem Kt {X Y:Prop}:af false X Y↔Y:=Iff.rfl
theorem gU {b:Bool} {X Y:Prop}:af b X Y↔(b=true->X)/\(b=false->Y):=by cases b <;> simp [af]
theorem af.mk {b:Bool} {X Y:Prop} (c:b=true->X) (h2:b=false->Y):af b X Y:=gU.2 ⟨c,h2⟩
theorem af.dec {p:Prop} [Decidable p] {X Y:Prop} (b:p->X) (h2:¬ p->Y):af (decide p) X Y:=gU.2 ⟨fun h=>b (by simpa using h),fun h=>h2 (by simpa using h)⟩
theorem af.yes {b:Bool} {X Y:Prop} (hb:b=true) (h:X):af b X Y:=by subst hb;exact h
theorem af.no {b:Bool} {X Y:Prop} (hb:b=false) (h:Y):af b X Y:=by subst hb;exact h
@[congr] theorem aV.congr {k:IntKind} {o o':Option AV} {K:Int->Prop} (h:o=o'):aV k o K=aV k o' K:=by rw [h]
@[congr] theorem Qb.congr {o o':Option AV} {K:Bool->Prop} (h:o=o'):Qb o K=Qb o' K:=by rw [h]
@[congr] theorem CM.congr {o o':Option AV} {K:List UInt8->Prop} (h:o=o'):CM o K=CM o' K:=by rw [h]
@[congr] theorem nM.congr {o o':Option AV} {K:Option (Nat×Nat)->Prop} (h:o=o'):nM o K=nM o' K:=by rw [h]
@[congr] theorem wN.congr {o o':Option AV} {K:Option Nat->Prop} (h:o=o'):wN o K=wN o' K:=by rw [h]
@[congr] theorem oq.congr {o o':Option AV} {K:List AV->Prop} (h:o=o'):oq o K=oq o' K:=by rw [h]
@[congr] theorem dn.congr {o o':Option AV} {K:AV->Prop} (h:o=o'):dn o K=dn o' K:=by rw [h]
@[congr] theorem aS.congr {o o':Option (List AV)} {K:List AV->Prop} (h:o=o'):aS o K=aS o' K:=by rw [h]
@[congr] theorem sr.congr {o o':Option Bool} {K:Bool->Prop} (h:o=o'):sr o K=sr o' K:=by rw [h]
@[congr] theorem bC.congr {o o':Option AS} {K:AS->Prop} (h:o=o'):bC o K=bC o' K:=by rw [h]
@[congr] theorem ig.congr {o o':Option (AV×AS)} {K:AV->AS->Prop} (h:o=o'):ig o K=ig o' K:=by rw [h]
@[congr] theorem bE.congr {o o':Option AV} {K:Nat->Nat->Prop} (h:o=o'):bE o K=bE o' K:=by rw [h]
@[congr] theorem ah.congr {o o':Option (Nat×Nat)} {K:Nat->Nat->Prop} (h:o=o'):ah o K=ah o' K:=by rw [h]
@[congr] theorem af.congr {b c:Bool} {X Y:Prop} (h:b=c):af b X Y=af c X Y:=by rw [h]
@[congr] theorem cj.congr {l l':List AV} {X:Prop} (h:l=l'):cj l X=cj l' X:=by rw [h]
@[congr] theorem fy.congr {n:Option Nat} {l l':List AV} {X:Prop} (h:l=l'):fy n l X=fy n l' X:=by rw [h]
@[congr] theorem aj.congr {o o':AO} {s:AS} {K:Nat->AS->Prop} (h:o=o'):aj o s K=aj o' s K:=by rw [h]
@[congr] theorem aa.congr {P:Program} {g:FuncId} {a a':List AV} {s:AS} {R:AV->AS->Prop} (h:a=a'):aa P g a s R=aa P g a' s R:=by rw [h]
@[congr] theorem bt.congr {A:(List AV->AS->Prop)->Prop}:bt A=bt A:=rfl
@[congr] theorem bu.congr {A:(Nat->List AV->AS->Prop)->Nat->Prop}:bu A=bu A:=rfl
@[congr] theorem gn.congr {A:(Nat->List AV->AV->AS->Prop)->(Nat->List AV->AV->Prop)->Prop}:gn A=gn A:=rfl
@[congr] theorem uc.congr {s:AS} {A:(AS->AS->Prop)->(Nat->List AV->AV->AS->Prop)->(AS->Prop)->(Nat->List AV->AV->AS->Prop)->(Nat->List AV->AV->Prop)->Prop}:uc s A=uc s A:=rfl
@[congr] theorem Qc.congr {n:Nat} {X:Prop}:Qc n X=Qc n X:=rfl
@[congr] theorem NZ.congr {n n':Int} {X:Prop} (h:n=n'):NZ n X=NZ n' X:=by rw [h]
@[congr] theorem NN.congr {n n':Int} {X:Prop} (h:n=n'):NN n X=NN n' X:=by rw [h]
attribute [go_sem] SY SZ S1 S2 S6 S7 S9 S_ Ta Tb Tc Td Mf Mg Kt
end
section
def bR (s:AS) (v:AV) (sz:Nat) (cs:List AV) (n:Nat):Prop :=
 (v=.emp/\n=0/\cs=[])\/∃ a c e,v=.slc a n c e/\(cs.length=n*sz/\n<=c)/\(n=0\/∃ la o C,a=some (la,o)/\At s la C/\(C.drop o).take (n*sz)=cs)
theorem bR.ext {s s':AS} {v:AV} {sz n:Nat} {cs:List AV} (h:bR s v sz cs n) (e:Ext s s'):bR s' v sz cs n:=by
 rcases h with h | ⟨a,c,e',b,h2,h3⟩
 ·exact .inl h
 ·refine .inr ⟨a,c,e',b,h2,?_⟩;rcases h3 with h3 | ⟨la,o,C,d,i,j⟩
  ·exact .inl h3
  ·exact .inr ⟨la,o,C,d,i.ext e,j⟩
theorem bR.mut {s s':AS} {v:AV} {sz n:Nat} {cs:List AV} {L:List Nat} (h:bR s v sz cs n) (e:bB L s s')
  (b:n≠0->∀ l∈L,∀ C o,At s l C->(C.drop o).take (n*sz)=cs->False):bR s' v sz cs n:=by
 rcases h with h | ⟨a,c,e',k,h2,h3⟩
 ·exact .inl h
 ·refine .inr ⟨a,c,e',k,h2,?_⟩;rcases h3 with h3 | ⟨la,o,C,m,d,i⟩
  ·exact .inl h3
  ·by_cases j:n=0
   ·exact .inl j
   ·exact .inr ⟨la,o,C,m,d.mut e fun hm=>b j la hm C o d i,i⟩
section
variable {T:TT} {t el:TypeId} {sz:Nat} (hu:T.cW t=some (.slice el)) (hs:T.eZ el=some sz)
include hu
theorem bR.b_ {s s':AS} {v:AV} {n sz:Nat} {cs:List AV} (h:bR s v sz cs n):aL T t v s'=some (.int .i64 (n:Nat)):=by
 rcases h with ⟨rfl,rfl,rfl⟩ | ⟨a,c,e,rfl,_⟩
 ·simp [aL,hu]
 ·simp [aL,hu]
include hs
theorem bR.ix (r:0<sz) {s:AS} {v:AV} {n:Nat} {cs:List AV} (h:bR s v sz cs n) {i:Nat} (hi:i<n):∃ la o,(∀ k,ag T t v (.int k (i:Nat))=some (.ptr (some (la,o)))) /\
  ∀ s',Ext s s'->(∀ j,j<sz->ak s' la (o+j)=cs[i*sz+j]?)/\aD s' la o sz=some ((cs.drop (i*sz)).take sz):=by
 rcases h with ⟨_,rfl,_⟩ | ⟨a,c,e,rfl,d,h3⟩
 ·omega
 ·obtain ⟨d,p⟩:=d;rcases h3 with h3 | ⟨la,o,C,rfl,l,b⟩
  ·omega
  ·have hlen:=congrArg List.length b;rw [List.length_take,List.length_drop,d] at hlen;have hmul:i*sz+sz<=n*sz:=by rw [<- Nat.succ_mul];exact Nat.mul_le_mul_right _ hi
   refine ⟨la,o+i*sz,fun k=>?_,fun s' m=>⟨fun j hj=>?_,?_⟩⟩
   ·have:(0:Int)<=(i:Int)/\(i:Int)<(n:Int):=by omega
    simp only [ag,hu,hs,Option.bind_some];rw [if_pos this];simp
   ·rw [(l.ext m).ak,<- b,List.getElem?_take,if_pos (by omega),List.getElem?_drop];congr 1;omega
   ·rw [(l.ext m).aD (by omega),<- b];congr 1;apply List.ext_getElem?;intro k;simp only [List.getElem?_take,List.getElem?_drop];split
    ·rw [if_pos (by omega)];congr 1;omega
    ·rfl
end
section
variable {T:TT} {t el:TypeId} {sz:Nat} (hu:T.cW t=some (.slice el)) (hs:T.eZ el=some sz)
include hu hs
theorem bR.from {s:AS} {v:AV} {n:Nat} {cs:List AV} (h:bR s v sz cs n) (hv:v≠.emp) {i:Nat} (hi:i<=n) (k:IntKind):∃ v',bf T t v (some (.int k (i:Nat))) none none=some v'/\bR s v' sz (cs.drop (i*sz)) (n - i):=by
 rcases h with ⟨rfl,_⟩ | ⟨a,c,e,rfl,⟨r,d⟩,h3⟩
 ·exact absurd rfl hv
 ·have j:cX n c (some (.int k (i:Nat))) none none=some (i,n,c):=by
   have:(0:Int)<=(i:Int)/\(i:Int)<=((n:Nat):Int):=by omega
   simp only [cX,tX,qq,ie,Option.isNone_none,Option.isSome_none,Bool.false_eq_true,and_false,if_false,Option.bind_some,d,if_true,this,and_self,Option.map_some,Int.toNat_natCast]
  have hlen:(cs.drop (i*sz)).length=(n - i)*sz:=by rw [List.length_drop,r,Nat.mul_sub_right_distrib]
  have h0:n - i=0->cs.drop (i*sz)=[]:=fun h=>List.length_eq_zero_iff.1 (by rw [hlen,h,Nat.zero_mul]);simp only [bf,hu,hs,Option.bind_some,j];rcases a with _ | ⟨b,o⟩
  ·refine ⟨_,rfl,.inr ⟨_,_,_,rfl,⟨hlen,by omega⟩,.inl ?_⟩⟩;rcases h3 with h3 | ⟨la,o,C,h,_⟩
   ·omega
   ·cases h
  ·have key:∀ o' e',(n - i=0\/o'=o+i*sz)->bR s (.slc (some (b,o')) (n - i) (c - i) e') sz (cs.drop (i*sz)) (n - i):=by
    intro o' e' l;refine .inr ⟨_,_,_,rfl,⟨hlen,by omega⟩,?_⟩;by_cases p:n - i=0
    ·exact .inl p
    ·rcases l with l | rfl
     ·exact absurd l p
     ·rcases h3 with h3 | ⟨la,o2,C,h,w,m⟩
      ·omega
      ·simp only [Option.some.injEq,Prod.mk.injEq] at h;obtain ⟨rfl,rfl⟩:=h;refine .inr ⟨b,_,C,rfl,w,?_⟩;rw [<- m,List.drop_take,List.drop_drop,Nat.mul_sub_right_distrib]
   by_cases hm:c=i
   ·cases e
    ·refine ⟨.emp,by simp [hm],.inl ⟨rfl,by omega,h0 (by omega)⟩⟩
    ·refine ⟨.slc (some (b,o)) (n - i) (c - i) true,by simp [hm],key _ _ (.inl (by omega))⟩
   ·cases e
    ·refine ⟨.slc (some (b,o+i*sz)) (n - i) (c - i) false,by simp [hm],key _ _ (.inr rfl)⟩
    ·refine ⟨.slc (some (b,o+i*sz)) (n - i) (c - i) true,by simp [hm],key _ _ (.inr rfl)⟩
end
theorem bR.nil {s:AS} {sz c:Nat} {e:Bool} {a:Option (Nat×Nat)}:bR s (.slc a 0 c e) sz [] 0:=.inr ⟨a,c,e,rfl,⟨by simp,Nat.zero_le _⟩,.inl rfl⟩
theorem bR.emp {s:AS} {sz:Nat}:bR s .emp sz [] 0:=.inl ⟨rfl,rfl,rfl⟩
theorem bR.mk {s:AS} {la o n c sz:Nat} {e:Bool} {C cs:List AV} (b:At s la C) (d:cs.length=n*sz) (h:(C.drop o).take (n*sz)=cs) (i:n<=c:=by first | omega | simp):bR s (.slc (some (la,o)) n c e) sz cs n :=
 .inr ⟨_,c,e,rfl,⟨d,i⟩,.inr ⟨la,o,C,rfl,b,h⟩⟩
theorem dY {α:Type} {f:α->List AV} {sz:Nat} (hf:∀ x,(f x).length=sz) (l:List α):(l.flatMap f).length=l.length*sz:=by
 induction l with
 | nil=>simp
 | cons x xs b=>simp [b,hf,Nat.add_mul];omega
theorem qU {α:Type} {f:α->List AV} {sz:Nat} (hf:∀ x,(f x).length=sz):∀ (l:List α) (i:Nat),(l.flatMap f).drop (i*sz)=(l.drop i).flatMap f
 | l,0=>by simp
 | [],i+1=>by simp
 | x::xs,i+1=>by
  rw [List.flatMap_cons,List.drop_succ_cons,<- qU hf xs i,Nat.add_mul,Nat.one_mul,Nat.add_comm,<- List.drop_drop];congr 1;rw [List.drop_append_of_le_length (by rw [hf];exact Nat.le_refl _),List.drop_eq_nil_of_le (by rw [hf];exact Nat.le_refl _),List.nil_append]
theorem uh {α:Type} {f:α->List AV} {sz:Nat} (hf:∀ x,(f x).length=sz):∀ (l:List α) (i:Nat),(l.flatMap f).take (i*sz)=(l.take i).flatMap f
 | l,0=>by simp
 | [],i+1=>by simp
 | x::xs,i+1=>by
  rw [List.flatMap_cons,List.take_succ_cons,List.flatMap_cons,<- uh hf xs i,Nat.add_mul,Nat.one_mul,Nat.add_comm,List.take_append];rw [hf,List.take_of_length_le (by rw [hf];omega),Nat.add_sub_cancel_left]
theorem CP {α:Type} {f:α->List AV} {sz:Nat} (hf:∀ x,(f x).length=sz) {l:List α} {i:Nat} {x:α} (h:l[i]? = some x):((l.flatMap f).drop (i*sz)).take sz=f x:=by
 rw [qU hf];have hi:i<l.length:=by
  rcases Nat.lt_or_ge i l.length with b | b
  ·exact b
  ·rw [List.getElem?_eq_none b] at h;cases h
 rw [List.drop_eq_getElem_cons hi,List.flatMap_cons,List.take_append_of_le_length (by rw [hf];exact Nat.le_refl _),List.take_of_length_le (by rw [hf];exact Nat.le_refl _)];rw [List.getElem?_eq_getElem hi] at h;rw [Option.some.inj h]
theorem Te {α:Type} {f:α->List AV} {sz:Nat} (hf:∀ x,(f x).length=sz) {l:List α} {i j:Nat} {x:α} (h:l[i]? = some x) (hj:j<sz):(l.flatMap f)[i*sz+j]? = (f x)[j]? := by
 have:=congrArg (fun c:List AV=>c[j]?) (CP hf h);simp only [List.getElem?_take,List.getElem?_drop,if_pos hj] at this;exact this
def Sl {α:Type} (f:α->List AV) (sz:Nat) (s:AS) (v:AV) (l:List α):Prop:=bR s v sz (l.flatMap f) l.length
section
variable {α:Type} {f:α->List AV} {sz:Nat} {s s':AS} {v:AV} {l:List α}
theorem Sl.ext (h:Sl f sz s v l) (e:Ext s s'):Sl f sz s' v l:=bR.ext h e
theorem Sl.nil {c:Nat} {e:Bool} {a:Option (Nat×Nat)}:Sl f sz s (.slc a 0 c e) []:=bR.nil
theorem Sl.b_ {T:TT} {t el:TypeId} (hu:T.cW t=some (.slice el)) (h:Sl f sz s v l) (s':AS):aL T t v s'=some (.int .i64 (l.length:Nat)):=bR.b_ hu h
theorem Sl.ix (e:0<sz) {T:TT} {t el:TypeId} (hf:∀ x,(f x).length=sz) (hu:T.cW t=some (.slice el)) (hs:T.eZ el=some sz) (h:Sl f sz s v l) {i:Nat} {x:α} (hi:l[i]? = some x):∃ la o,(∀ k,ag T t v (.int k (i:Nat))=some (.ptr (some (la,o)))) /\
  ∀ s',Ext s s'->(∀ j,j<sz->ak s' la (o+j)=(f x)[j]?)/\aD s' la o sz=some (f x):=by
 have b:i<l.length:=by
  rcases Nat.lt_or_ge i l.length with c | c
  ·exact c
  ·rw [List.getElem?_eq_none c] at hi;cases hi
 obtain ⟨la,o,m,h2⟩:=bR.ix hu hs e h b;refine ⟨la,o,m,fun s' d=>⟨fun j hj=>?_,?_⟩⟩
 ·rw [(h2 s' d).1 j hj,Te hf hi hj]
 ·rw [(h2 s' d).2,CP hf hi]
theorem Sl.from {T:TT} {t el:TypeId} (hf:∀ x,(f x).length=sz) (hu:T.cW t=some (.slice el)) (hs:T.eZ el=some sz) (h:Sl f sz s v l) (hv:v≠.emp) {i:Nat} (hi:i<=l.length) (k:IntKind):∃ v',bf T t v (some (.int k (i:Nat))) none none=some v'/\Sl f sz s v' (l.drop i):=by
 obtain ⟨v',b,h2⟩:=bR.from hu hs h hv hi k
 exact ⟨v',b,by rw [qU hf] at h2;simpa [Sl] using h2⟩
theorem Sl.mut {L:List Nat} (h:Sl f sz s v l) (e:bB L s s') (hf:∀ x,(f x).length=sz) (j:0<sz) (b:∀ p∈L,∀ C,At s p C->∀ x∈l,∀ (i:Nat) c,(f x)[0]? = some c->C[i]? ≠ some c):Sl f sz s' v l:=by
 refine bR.mut h e fun k p hp C o m d=>?_;cases l with
 | nil=>simp at k
 | cons x xs =>
  have h0:(f x)[0]? = some ((f x)[0]'(by rw [hf];exact j)):=List.getElem?_eq_getElem _;refine b p hp C m x (by simp) o _ h0 ?_;have:=congrArg (fun c:List AV=>c[0]?) d;simp only [List.getElem?_take,List.getElem?_drop,List.flatMap_cons,Nat.add_zero] at this;rw [if_pos (by simp;omega),List.getElem?_append_left (by rw [hf];exact j)] at this;rw [this,h0]
end
end
section
theorem dZ {cs vs:List AV} (h:vs.length=cs.length):qQ cs 0 vs=vs:=by
 apply List.ext_getElem?;intro k;rw [kF _ _ _ _ (by omega)];by_cases b:k<vs.length
 ·rw [if_pos (by omega),Nat.sub_zero]
 ·rw [if_neg (by omega),List.getElem?_eq_none (by omega),List.getElem?_eq_none (by omega)]
structure CQ (T:TT) (t el:TypeId) (sz qR:Nat):Prop where
 u:T.cW t=some (.slice el)
 z:T.eZ el=some sz
 b:T.HX el=some qR
 zr:∃ z zc,T.sS el=some z/\bN z=some zc/\zc.length=sz
 pos:0<sz
 small:sz<=1024/\qR<=65536
def ax:AV->List Nat
 | .slc (some (la,_)) _ _ false=>[la]
 | _=>[]
def bg {α:Type} (f:α->List AV) (sz:Nat) (s:AS) (v:AV) (l:List α):Prop :=
 (l=[]/\∃ a,v=.slc a 0 0 true)\/∃ la,v=.slc (some (la,0)) l.length l.length false/\s.h la=some (.cells (l.flatMap f) sz false)
theorem bg.nil {α:Type} {f:α->List AV} {sz:Nat} {s:AS} {a:Option (Nat×Nat)}:bg f sz s (.slc a 0 0 true) ([]:List α):=.inl ⟨rfl,a,rfl⟩
theorem bg.mut {α:Type} {f:α->List AV} {sz:Nat} {s s':AS} {v:AV} {l:List α} {L:List Nat} (h:bg f sz s v l) (e:bB L s s') (b:∀ x∈ax v,x ∉ L):bg f sz s' v l:=by
 rcases h with h | ⟨la,rfl,h⟩
 ·exact .inl h
 ·exact .inr ⟨la,rfl,e.1 _ _ (b la (by simp [ax])) h⟩
theorem bg.ext {α:Type} {f:α->List AV} {sz:Nat} {s s':AS} {v:AV} {l:List α} (h:bg f sz s v l) (e:Ext s s'):bg f sz s' v l:=h.mut (L:=[]) e.mut (by simp)
theorem bg.sl {α:Type} {f:α->List AV} {sz:Nat} (hf:∀ x,(f x).length=sz) {s:AS} {v:AV} {l:List α} (h:bg f sz s v l):Sl f sz s v l:=by
 rcases h with ⟨rfl,a,rfl⟩ | ⟨la,rfl,h⟩
 ·exact Sl.nil
 ·exact bR.mk ⟨_,_,h⟩ (dY hf l) (by rw [List.drop_zero,List.take_of_length_le (by rw [dY hf];exact Nat.le_refl _)])
section
variable {T:TT} {t el:TypeId} {sz qR:Nat} (ht:CQ T t el sz qR)
include ht
theorem kY {c:List AV} (e:c.length=sz) (j:c.all AV.one=true):de T t 1 [(0,.agg c)]=some c:=by
 obtain ⟨z,zc,l,d,i⟩:=ht.zr;have hp:=ht.pos;have hs:=ht.small;simp only [de,ht.u,ht.z,l,d,Option.bind_some];rw [if_pos ⟨i,by omega⟩];have h2:bN (.agg c)=some c:=by simp [bN,AV.cells,j]
 have b:(rep 1 zc).length=sz:=by simp [rep,i]
 simp only [jQ,h2,Nat.zero_mul,Nat.zero_add,e,b,true_and,Nat.le_refl,if_true];congr 1;apply List.ext_getElem?;intro k;rw [kF _ _ _ _ (by rw [b,e];omega)];by_cases m:k<sz
 ·rw [if_pos (by omega)];simp
 ·rw [if_neg (by omega),List.getElem?_eq_none (by omega),List.getElem?_eq_none (by omega)]
theorem Mh {v:AV} (c:sz=1) (hv:v.one=true):de T t 1 [(0,v)]=some [v]:=by
 obtain ⟨z,zc,j,d,e⟩:=ht.zr;simp only [de,ht.u,ht.z,j,d,Option.bind_some];subst c;rw [if_pos ⟨e,by omega⟩];have h2:bN v=some [v]:=by cases v <;> first | rfl | cases hv
 have b:(rep 1 zc).length=1:=by simp [rep,e]
 simp only [jQ,h2,Nat.zero_mul,Nat.zero_add,List.length_cons,List.length_nil,b,true_and,Nat.le_refl,if_true];congr 1
 match i:rep 1 zc with
 | []=>rw [i] at b;simp at b
 | [x]=>rfl
 | x::y::r=>rw [i] at b;simp at b
theorem xl:de T t 0 []=some []:=by
 obtain ⟨z,zc,c,b,d⟩:=ht.zr;simp only [de,ht.u,ht.z,c,b,Option.bind_some];rw [if_pos ⟨d,by omega⟩];simp [jQ,rep]
theorem bR.src {s:AS} {v:AV} {n:Nat} {cs:List AV} (h:bR s v sz cs n):nZ sz n s v=some cs/\Ef v=some n:=by
 rcases h with ⟨rfl,rfl,rfl⟩ | ⟨a,c,e,rfl,d,h3⟩
 ·exact ⟨rfl,rfl⟩
 ·obtain ⟨d,_⟩:=d;refine ⟨?_,rfl⟩;by_cases i:n=0
  ·subst i;obtain rfl:cs=[]:=List.length_eq_zero_iff.1 (by simpa using d);rcases a with _ | ⟨l,o⟩
   ·rfl
   ·simp [nZ]
  ·rcases h3 with h3 | ⟨la,o,C,rfl,j,b⟩
   ·exact absurd h3 i
   ·have hlen:=congrArg List.length b;rw [List.length_take,List.length_drop,d] at hlen;have hp:=ht.pos;have:0<n*sz:=Nat.mul_pos (by omega) hp;simp only [nZ,if_neg i];rw [j.aD (by omega),b]
theorem kG {base:Option (Nat×Nat)} {len cap n:Nat} {ex:Bool} {x:AV} {new:List AV} {s:AS} {xt:TypeId} (i:T.cW xt=some (.slice el)) (hlen:Ef x=some n) (d:nZ sz n s x=some new) (e:new.length=n*sz) (hb:len+n<=2 ^ 30) :
  aG T t xt (.slc base len cap ex) x s=if len+n<=cap then
    (match base with
     | none=>some (.slc none (len+n) cap ex,s)
     | some (l,o) =>
      if new=[] then some (.slc base (len+n) cap ex,s)
      else (cS s l (o+len*sz) new).map fun s'=>(.slc base (len+n) cap ex,s'))
   else
    (nZ sz len s (.slc base len cap ex)).bind fun old =>
     if ex then some (.slc (some (s.nl,0)) (len+n) (len+n) false,s.new (.cells (old++new) sz false))
     else match base with
      | none=>none
      | some (l,o) =>
       match s.h l with
       | some (.cells cs g false) =>
        if g=sz/\sz≠0/\o+cap*sz=cs.length then
         some (.slc (some (s.nl,0)) (len+n) (len+n) false,(s.kill l).new (.cells (old++new) sz false))
        else none
       | _=>none:=by
 obtain ⟨z,zc,p,j,r⟩:=ht.zr;obtain ⟨w,k⟩:=ht.small;have c:(match TypeDesc.slice el with | .int _=>true | _=>false)=false:=rfl;have m:¬ (zc.length≠sz\/new.length≠n*sz\/2 ^ 40<len+n\/2*((len+n+256)*qR)>2 ^ 48):=by
  have:(len+n+256)*qR<=(2 ^ 30+256)*65536:=Nat.mul_le_mul (by omega) k;rw [r,e];omega
 simp only [aG,ht.u,i,c,Bool.false_eq_true,if_false,ht.z,ht.b,p,j,Option.bind_some,hlen,d];rw [if_neg m];rfl
theorem bg.append {α:Type} {f:α->List AV} (hf:∀ x,(f x).length=sz) (z:∀ x,(f x).all AV.one=true) {s:AS} (e:aJ s) {v x:AV} {l xs:List α} (h:bg f sz s v l) (A:Sl f sz s x xs) (hb:l.length+xs.length<=2 ^ 30) {xt:TypeId} (m:T.cW xt=some (.slice el)) :
  ∃ v' s',aG T t xt v x s=some (v',s')/\bg f sz s' v' (l++xs)/\bB (ax v) s s'/\aJ s'/\(∀ la∈ax v',la∈ax v\/s.h la=none):=by
 have hp:=ht.pos;obtain ⟨c,hlen⟩:=bR.src ht A;have i:=dY hf xs;have r:=e.1;have w:xs.flatMap f=[]↔xs=[]:=by
  rw [<- List.length_eq_zero_iff,i,<- List.length_eq_zero_iff];constructor
  ·intro h;rcases Nat.mul_eq_zero.1 h with h | h <;> omega
  ·intro h;rw [h,Nat.zero_mul]
 rcases h with ⟨rfl,a,rfl⟩ | ⟨la,rfl,j⟩
 ·rw [kG ht m hlen c i (by simpa using hb)];by_cases h0:xs=[]
  ·subst h0;refine ⟨.slc a 0 0 true,s,?_,by simpa using bg.nil,bB.refl _ _,e,fun la h=>.inl h⟩;rw [if_pos (by simp)];rcases a with _ | ⟨l,o⟩ <;> simp
  ·have n:0<xs.length:=List.length_pos_iff.2 h0;have d:=e.new (o:=.cells (xs.flatMap f) sz false) rfl;refine ⟨.slc (some (s.nl,0)) xs.length xs.length false,s.new (.cells (xs.flatMap f) sz false),?_,.inr ⟨s.nl,by simp,by simpa using d.at⟩,d.ext.mut,d.wf,fun la h=>?_⟩
   ·rw [if_neg (by omega)];have:nZ sz 0 s (.slc a 0 0 true)=some []:=by rcases a with _ | ⟨l,o⟩ <;> rfl
    rw [this];simp
   ·simp only [ax,List.mem_singleton] at h;subst h;exact .inr e.none
 ·have b:=dY hf l;have hold:nZ sz l.length s (.slc (some (la,0)) l.length l.length false)=some (l.flatMap f):=by
   by_cases p:l.length=0
   ·rw [List.length_eq_zero_iff.1 p];simp [nZ]
   ·simp only [nZ,if_neg p];rw [u_ j (by rw [b];omega),List.drop_zero,List.take_of_length_le (by rw [b];exact Nat.le_refl _)]
  rw [kG ht m hlen c i hb];by_cases h0:xs=[]
  ·subst h0;refine ⟨.slc (some (la,0)) l.length l.length false,s,?_,by rw [List.append_nil];exact Or.inr ⟨la,rfl,j⟩,bB.refl _ _,e,fun la h=>.inl h⟩;rw [if_pos (by simp)];simp
  ·have n:0<xs.length:=List.length_pos_iff.2 h0;have B:aJ (s.kill la):=by
    refine ⟨r,fun k=>?_⟩;rw [AS.sR,AS.oV,AS.Ft];split
    ·rfl
    ·exact e.2 k
   have d:=B.new (o:=.cells (l.flatMap f++xs.flatMap f) sz false) rfl;refine ⟨.slc (some (s.nl,0)) (l.length+xs.length) (l.length+xs.length) false,(s.kill la).new (.cells (l.flatMap f++xs.flatMap f) sz false),?_,.inr ⟨s.nl,by simp,by rw [List.flatMap_append];exact d.at⟩,⟨fun y o C D=>d.ext.1 y o ?_,d.ext.2⟩,d.wf,fun la h=>?_⟩
   ·rw [if_neg (by omega),hold];simp only [Option.bind_some,j,Nat.zero_add,b,Bool.false_eq_true,if_false];rw [if_pos ⟨trivial,by omega,trivial⟩]
   ·rw [AS.sR,if_neg (by simpa [ax] using C)];exact D
   ·simp only [ax,List.mem_singleton] at h;subst h;exact .inr e.none
end
structure aW {α:Type} (f:α->List AV) (sz:Nat) (M:List Nat) (s0 s:AS) (v:AV) (l:List α):Prop where
 uQ:bg f sz s v l
 eo:bB M s0 s
 new:∀ la∈ax v,s0.h la=none
theorem aW.nil {α:Type} {f:α->List AV} {sz:Nat} {M:List Nat} {s:AS} {a:Option (Nat×Nat)}:aW f sz M s s (.slc a 0 0 true) ([]:List α):=⟨bg.nil,bB.refl _ _,by simp [ax]⟩
theorem aW.start {α:Type} {f:α->List AV} {sz:Nat} {M:List Nat} {s0 s:AS} {a:Option (Nat×Nat)} (h:bB M s0 s):aW f sz M s0 s (.slc a 0 0 true) ([]:List α):=⟨bg.nil,h,by simp [ax]⟩
theorem Ext.none {s s':AS} (h:Ext s s') {l:Nat} (b:s'.h l=none):s.h l=none:=by
 cases c:s.h l with
 | none=>rfl
 | some o=>rw [h.1 l o c] at b;cases b
theorem bB.fresh {M:List Nat} {s s':AS} (h:bB M s s') (c:∀ x∈M,s'.h x≠none) {l:Nat} (b:s'.h l=none):s.h l=none:=by
 cases d:s.h l with
 | none=>rfl
 | some o =>
  by_cases hm:l∈M
  ·exact absurd b (c l hm)
  ·rw [h.1 l o hm d] at b;cases b
section
variable {α:Type} {f:α->List AV} {sz:Nat} {M:List Nat} {s0 s s':AS} {v:AV} {l:List α}
theorem aW.step (h:aW f sz M s0 s v l) (e:Ext s s'):aW f sz M s0 s' v l:=⟨h.uQ.ext e,h.eo.trans e.mut,h.new⟩
theorem aW.wr (h:aW f sz M s0 s v l) (b:∀ x∈M,s0.h x≠none) (e:bB M s s'):aW f sz M s0 s' v l :=
 ⟨h.uQ.mut e fun x c hm=>b x hm (h.new x c),h.eo.trans e,h.new⟩
theorem aW.jJ (h:aW f sz M s0 s v l):v≠.emp/\v.one=true:=by
 rcases h.uQ with ⟨_,a,rfl⟩ | ⟨la,rfl,_⟩ <;> exact ⟨(fun e=>by cases e),rfl⟩
theorem aW.sl (hf:∀ x,(f x).length=sz) (h:aW f sz M s0 s v l):Sl f sz s v l:=h.uQ.sl hf
end
section
variable {T:TT} {t el:TypeId} {sz qR:Nat} (ht:CQ T t el sz qR)
include ht
theorem aW.iq {α:Type} {f:α->List AV} (hf:∀ x,(f x).length=sz) (b:∀ x,(f x).all AV.one=true) {M:List Nat} {s0 s:AS} (k:aJ s) {v x:AV} {l xs:List α} (h:aW f sz M s0 s v l) (m:∀ x∈M,s.h x≠none) (n:Sl f sz s x xs) (hb:l.length+xs.length<=2 ^ 30) {xt:TypeId} (c:T.cW xt=some (.slice el))
  {K:AV->AS->Prop} (p:∀ v' s',aW f sz M s0 s' v' (l++xs)->aJ s'->bB (ax v) s s'->K v' s'):ig (aG T t xt v x s) K:=by
 obtain ⟨v',s',r,h2,h3,h4,w⟩:=bg.append ht hf b k h.uQ n hb c;refine ⟨v',s',r,p v' s' ⟨h2,⟨fun y o d e=>h3.1 y o (fun hm=>?_) (h.eo.1 y o d e),Nat.le_trans h.eo.2 h3.2⟩,fun la i=>?_⟩ h4 h3⟩
 ·rw [h.new y hm] at e;cases e
 ·rcases w la i with j | j
  ·exact h.new la j
  ·exact h.eo.fresh m j
theorem aW.iu {α:Type} {f:α->List AV} (hf:∀ x,(f x).length=sz) (b:∀ x,(f x).all AV.one=true) {M:List Nat} {s0 s:AS} (d:aJ s) {v:AV} {l:List α} (h:aW f sz M s0 s v l) (e:∀ x∈M,s.h x≠none) (x:α) (hb:l.length+1<=2 ^ 30)
  {K:AV->AS->Prop} (i:∀ v' s',aW f sz M s0 s' v' (l++[x])->aJ s'->bB (ax v) s s'->K v' s'):aS (de T t 1 [(0,.agg (f x))]) fun g=>aj (.cells g 0 false) s fun la s1=>ig (aG T t t v (.slc (some (la,0)) 1 1 true) s1) K:=by
 refine ⟨_,kY ht (hf x) (b x),aj.intro d rfl fun la s1 F=>?_⟩;have c:∀ x∈M,s1.h x≠none:=fun x j k=>e x j (F.ext.none k);refine aW.iq ht hf b F.wf (h.step F.ext) c (xs:=[x]) (bR.mk F.own.at (by simp [hf]) (by simp [List.take_of_length_le,hf])) (by simpa using hb) ht.u fun v' s' g w m=>i v' s' g w (F.ext.mut.trans m)
theorem aW.Mi {α:Type} {f:α->AV} (b:sz=1) (c:∀ x,(f x).one=true) {M:List Nat} {s0 s:AS} (e:aJ s) {v:AV} {l:List α} (h:aW (fun x=>[f x]) sz M s0 s v l) (i:∀ x∈M,s.h x≠none) (x:α) (hb:l.length+1<=2 ^ 30)
  {K:AV->AS->Prop} (j:∀ v' s',aW (fun x=>[f x]) sz M s0 s' v' (l++[x])->aJ s'->bB (ax v) s s'->K v' s'):aS (de T t 1 [(0,f x)]) fun g=>aj (.cells g 0 false) s fun la s1=>ig (aG T t t v (.slc (some (la,0)) 1 1 true) s1) K:=by
 refine ⟨_,Mh ht b (c x),aj.intro e rfl fun la s1 F=>?_⟩;have d:∀ x∈M,s1.h x≠none:=fun x k n=>i x k (F.ext.none n);refine aW.iq ht (by simp [b]) (by simp [c]) F.wf (h.step F.ext) d (xs:=[x]) (bR.mk F.own.at (by simp [b]) (by simp [b])) (by simpa using hb) ht.u fun v' s' g w m=>j v' s' g w (F.ext.mut.trans m)
end
theorem cP {T:TT} {t:TypeId} {s:AS} {l off:Nat} {v:AV} {K:AS->Prop} (hv:v.one=true) (hs:T.eZ t=some 1) (h:bC (cS s l off [v]) K):e_ T t s l off v K:=by
 unfold e_;split
 ·cases hv
 ·cases hv
 ·cases hv
 ·rw [hs];exact h
theorem jK {zc g:List AV} {n:Nat} {s:AS} {K:Nat->AS->Prop} (e:aJ s) (i:g.length=n) (k:zc.length=n) (j:g.all AV.one=true) (h:∀ l s',rm s s' l (.cells g 0 false)->K l s') :
  aj (.cells zc 0 false) s fun l s1=>fy (some n) g (bC (cS s1 l 0 g) fun s2=>K l s2):=by
 refine aj.intro e rfl fun l s1 F=>⟨⟨j,by rw [i]⟩,bC.own F.wf F.own (by omega) fun s2 P=>h l s2 ?_⟩;have b:s2.h l=some (.cells g 0 false):=by rw [P.at,dZ (by omega)]
 exact ⟨b,⟨fun x o c=>by rw [P.eq x (F.ne c)];exact F.ext.1 x o c,by rw [P.nl];exact F.ext.2⟩,P.wf,F.no,fun x d=>by rw [P.eq x d,F.eq x d],by rw [P.nl];exact F.nl,by rw [P.st,F.st]⟩
end
section
def triples (d:Option TypeDesc):Option (List (Bool×TypeId×Nat)):=match d with
 | some (.struct fs) => some (fs.toList.map fun f => (f.name == "_", f.type, f.offset))
 | _=>none
def GF (T:TT) (eqv:TypeId->AV->AV->Option Bool) (xs ys:List AV):List (Bool×TypeId×Nat)->Option Bool
 | []=>some true
 | f::fs=>bif f.1 then GF T eqv xs ys fs else
   (part T f.2.1 xs f.2.2).bind fun a=>(part T f.2.1 ys f.2.2).bind fun b =>
    match eqv f.2.1 a b with
    | some true=>GF T eqv xs ys fs
    | r=>r
theorem A8 {T : TT} {eqv : TypeId -> AV -> AV -> Option Bool} {xs ys : List AV} : ∀ (fs : List Field), eqFields T eqv xs ys fs = GF T eqv xs ys (fs.map fun f => (f.name == "_", f.type, f.offset))
 | []=>rfl
 | f::fs=>by
  simp only [eqFields,List.map_cons,GF];have c:=A8 (T:=T) (eqv:=eqv) (xs:=xs) (ys:=ys) fs;rw [c];by_cases h : f.name = "_"
  ·simp [h]
  ·have : (f.name == "_") = false := by simpa using h
   simp only [ne_eq,h,not_false_eq_true,if_true,this,cond_false]
   first
    | done
    | (congr 1;done)
    | (congr 1;funext a;congr 1;funext b;cases eqv f.type a b with
     | none=>rfl
     | some x=>cases x <;> rfl)
theorem Qh {T:TT} {t:TypeId} {l:List (Bool×TypeId×Nat)} (h:triples (T.cW t)=some l) (b:T.UT t=true) (d:Nat) (xs ys:List AV):iZ T (d+1) t (.agg xs) (.agg ys)=GF T (iZ T d) xs ys l:=by
 unfold triples at h;split at h
 ·rename_i fs hu;obtain rfl:=Option.some.inj h;simp only [iZ,hu,b,if_true,A8]
 ·cases h
theorem Tf {T:TT} {t:TypeId} {k k':IntKind} (hu:T.cW t=some (.int k)) (d:Nat) (a b:Int):iZ T (d+1) t (.int k' a) (.int k' b)=some (a==b):=by simp [iZ,hu]
theorem Tg {T:TT} {t:TypeId} (hu:T.cW t=some .string) (d:Nat) (a b:List UInt8):iZ T (d+1) t (.str a) (.str b)=some (a==b):=by simp [iZ,hu]
theorem CR {T:TT} {t:TypeId} (h:T.agg t=some false) (cs:List AV) (o:Nat):part T t cs o=cs[o]? := by simp [part,h]
theorem vk {T:TT} {t e:TypeId} {n sz:Nat} (hu:T.cW t=some (.array n e)) (hs:T.eZ e=some sz) {l o:Nat} {k:IntKind} {i:Int} (h:0<=i/\i<n):ag T t (.ptr (some (l,o))) (.int k i)=some (.ptr (some (l,o+i.toNat*sz))):=by
 simp only [ag,hu,hs,Option.bind_some,if_pos h]
theorem jq {T:TT} {t e:TypeId} (hu:T.cW t=some (.pointer e)) (a:Option (Nat×Nat)):iZ T 100 t (.ptr a) (.ptr none)=some a.isNone:=by
 cases a <;> simp [iZ,hu]
theorem pz {T:TT} {t e:TypeId} (hu:T.cW t=some (.slice e)) (c:Bool) (a:Option (Nat×Nat)) (n m n' m':Nat) (ex b:Bool):Q9 T t c (.slc a n m ex) (.slc none n' m' b)=some a.isNone:=by
 cases a <;> simp [Q9,Q8,iZ,hu]
theorem pA {T:TT} {t e:TypeId} (hu:T.cW t=some (.slice e)) (c:Bool) (n' m':Nat) (b:Bool):Q9 T t c .emp (.slc none n' m' b)=some false:=by
 simp [Q9,Q8,iZ,hu]
theorem U8 {cs vs:List AV} (h:vs.length=cs.length):qQ cs 0 vs=vs:=by
 apply List.ext_getElem?;intro k;rw [kF _ _ _ _ (by omega)];by_cases b:k<vs.length
 ·rw [if_pos (by omega),Nat.sub_zero]
 ·rw [if_neg (by omega),List.getElem?_eq_none (by omega),List.getElem?_eq_none (by omega)]
theorem fA {cs:List AV} {o:Nat} {v:AV}:qQ cs o [v]=cs.set o v:=rfl
/-! ### a struct built of its parts -/
def places (T:TT) (t:TypeId):Option (List (Nat×Nat)):=match T.cW t with
 | some (.struct fs)=>if fs.all (fun f=>(T.eZ f.type).isSome) then some (fs.toList.map fun f=>(f.offset,(T.eZ f.type).getD 0)) else none
 | _=>none
theorem qV {T:TT} {t:TypeId} {pl:List (Nat×Nat)} {z:AV} {zc:List AV} (h:places T t=some pl) (e:T.sS t=some z) (c:bN z=some zc) (parts:List (Nat×AV)):aY T t parts=(jQ (fun i=>pl[i]?) zc parts).map .agg:=by
 unfold places at h;split at h
 ·rename_i fs hu;split at h
  ·rename_i b;obtain rfl:=Option.some.inj h;simp only [aY,e,c,Option.bind_some,hu,b,if_true];congr 2;funext i;simp only [List.getElem?_map];cases hf:fs[i]? with
   | none=>simp [show fs.toList[i]? = none by simpa using hf]
   | some f =>
    have d:fs.toList[i]? = some f:=by simpa using hf
    have hm:f∈fs:=Array.mem_of_getElem? hf;have:=Array.all_eq_true'.1 b f hm;obtain ⟨n,j⟩:=Option.isSome_iff_exists.1 this;simp [d,j]
  ·cases h
 ·cases h
theorem Ku (pre mid b post:List AV) (h:b.length=mid.length):qQ (pre++mid++post) pre.length b=pre++b++post:=by
 apply List.ext_getElem?;intro k;rw [kF _ _ _ _ (by simp;omega)];by_cases c:k<pre.length
 ·rw [if_neg (by omega),List.append_assoc,List.append_assoc,List.getElem?_append_left c,List.getElem?_append_left c]
 ·by_cases h2:k<pre.length+b.length
  ·rw [if_pos (by omega),List.append_assoc,List.getElem?_append_right (by omega),List.getElem?_append_left (by omega)]
  ·rw [if_neg (by omega),List.append_assoc,List.append_assoc,List.getElem?_append_right (by omega),List.getElem?_append_right (by omega),List.getElem?_append_right (by omega),List.getElem?_append_right (by omega),h]
theorem ov {pl:Nat->Option (Nat×Nat)} {pre mid post c:List AV} {i sz:Nat} {v:AV} {rest:List (Nat×AV)} (hp:pl i=some (pre.length,sz)) (b:bN v=some c) (d:c.length=sz) (h2:mid.length=sz) :
  jQ pl (pre++mid++post) ((i,v)::rest)=jQ pl (pre++c++post) rest:=by
 simp only [jQ,hp,b];rw [if_pos ⟨d,by simp;omega⟩,Ku _ _ _ _ (by omega)]
end
end Go.Am
namespace Go.aq
section
def el (l:List aO) (i:Nat):aO:=l.getD i ⟨0,0⟩
theorem zE {l:List aO} {i:Nat} (h:i<l.length):l[i]? = some (el l i):=by
 rw [el,List.getD_eq_getElem?_getD,List.getElem?_eq_getElem h];rfl
def aO.le (x y:aO):Prop:=y.lt x=false
theorem aO.le_iff {x y:aO}:x.le y↔x.r<y.r\/x.r=y.r/\x.c<=y.c:=by
 unfold aO.le;rw [<- Bool.not_eq_true,aO.lt_iff];omega
theorem aO.le_trans {a b c:aO} (h:a.le b) (d:b.le c):a.le c:=by rw [aO.le_iff] at *;omega
theorem aO.le_refl (a:aO):a.le a:=by rw [aO.le_iff];omega
theorem aO.A7 {a b:aO} (h:a.lt b=true):a.le b:=by rw [aO.lt_iff] at h;rw [aO.le_iff];omega
def D5 (l:List aO) (a b:Nat):Prop:=∀ i j,a<=i->i<j->j<b->(el l i).le (el l j)
end
section
end
end Go.aq
namespace Go.Am
section
theorem aa.extern {P : Program} {g : FuncId} {fn : Func} {e : Array Value -> Sem Value} (hf : P.funcs[g]? = some fn) (c : (fn.name == "runtime.NumGoroutine") = false) (hb : fn.body.isNone = true) (d : Extern.findNext fn = none) (i : Extern.find fn = some e)
  {args:List AV} {s:AS} {R:AV->AS->Prop} (h:∀ (B:Nat) (γ:bT) (b:Array Value) (w:World),au γ args b.toList->Rel B γ s w ->
   ∃ γ' v cv s' w',(e b).run P w=.ok cv w'/\ai γ' v cv/\gq B γ s w γ' s' w'/\Rel B γ' s' w'/\R v s'):aa P g args s R:=by
 intro B γ b w j h2;obtain ⟨γ',v,cv,s',w',hr,hv,hd,hr',k⟩:=h B γ b w j h2;refine .inr ⟨cv,w',?_,γ',v,cv,s',rfl,hv,hd,hr',k⟩;rw [run_callFunc_extern hf c hb d i,hr];rfl
theorem Ek {P : Program} {T : TT} (hT : TT.Ok P T) {g : FuncId} {fn : Func} {t tR elem : TypeId} {size : Nat} (hf : P.funcs[g]? = some fn) (i : (fn.name == "runtime.NumGoroutine") = false) (hb : fn.body.isNone = true) (U : Extern.findNext fn = none)
  (W:Extern.find fn=some (Extern.SlicesOverlaps.overlaps #[t,t] #[tR])) (hu:T.cW t=some (.slice elem)) (hs:T.eZ elem=some size)
  {s:AS} {la oa na ca lb ob nb cb:Nat} {ea eb:Bool} {C j:List AV} {O X:Nat} {Y:Bool} (Q:s.h la=some (.cells C O false)) (Z:O≠1) (l:s.h lb=some (.cells j X Y)) (D:j≠[]) (F:la≠lb) :
  aa P g [.slc (some (la,oa)) na ca ea,.slc (some (lb,ob)) nb cb eb] s fun v s'=>v=.bool false/\s'=s:=by
 refine aa.extern hf i hb U W ?_;intro B γ k w c hr;obtain ⟨c1,r1,e1,R,c⟩:=au.cN.1 c;obtain ⟨c2,r2,rfl,h2,c⟩:=au.cN.1 c;obtain rfl:=au.iL.1 c;simp only [ai] at R h2;obtain ⟨m,n,rfl⟩:=R;obtain ⟨o,p,rfl⟩:=h2;have G:k=#[.slice (some ⟨m.b,m.d+oa,none⟩) na (if ea then ca else ca+m.x),.slice (some ⟨o.b,o.d+ob,none⟩) nb (if eb then cb else cb+o.x)]:=by
  apply Array.ext';rw [e1]
 subst G;obtain ⟨ja,r,H,_⟩:=hr.obj la _ Q;rw [n] at r;obtain rfl:=Option.some.inj r;obtain ⟨jb,y,I,_⟩:=hr.obj lb _ l;rw [p] at y;obtain rfl:=Option.some.inj y;have z:m.b≠o.b:=fun e=>F (hr.inj la lb _ _ m o Q l rfl n p e);obtain ⟨cA,eA,ab,J,_,_,_,K⟩:=H;obtain ⟨S,eB,ad,hB,L,_⟩:=I;obtain rfl:=(K rfl).1 Z;have M:S.size≠0:=by
  cases j with
  | nil=>exact absurd rfl D
  | cons x xs =>
   obtain ⟨_,cv,A,_⟩:=L 0 x rfl;intro h0;rw [Array.getElem?_eq_none (by omega)] at A;cases A
 refine ⟨γ,.bool false,.bool false,s,w,?_,by simp [ai],gq.refl,hr,rfl,rfl⟩;exact Lib.run_overlaps_apart w t tR elem (hT.cW t _ hu) size (run_sizeOf hT hs) _ _ _ _ _ _ z eA eB cA.size S.size (by simp [World.shape?,J]) (by simp [World.shape?,hB]) M (by simp [World.frozen?,J]) (by simp [World.frozen?,J])
theorem Qi {B:Nat} {γ γ':bT} {s s' s'':AS} {w w':World} (hd:gq B γ s w γ' s' w') (hr:Rel B γ' s' w') {F L:Nat} {O K:AO} {i i2:CI}
  (c:∀ k o,k≠F->s''.h k=some o->s'.h k=some o) (hF:s''.h F=some O) (W:s'.h L=some K) (am:O.ro=false) (m:K.ro=false) (n:L=F\/s''.h L=none) (hi:γ' L=some i) (z:i2.b=i.b) (hO:lQ γ' w' i2 O)
  (Y:∃ k,F=s'.nl+k*s.st) (G:s''.st=s.st) (C:s''.nl=F+s.st) (M:s''.lay=s.lay) (Q:∀ l o,s''.cur.get l=some o->o.live=true->o.ro=true->s.cur.get l=some o) :
  Rel B (iM γ' F i2) s'' w'/\gq B γ s w (iM γ' F i2) s'' w':=by
 obtain ⟨k,Z⟩:=Y;have r:=hd.st;have ab:γ' F=none:=by rw [Z,<- r];exact hr.fin k
 have hle:bT.le γ' (iM γ' F i2):=bT.uU ab;have R:1<=s.st:=by rw [<- r];exact hr.Su
 have S:∃ k,F=s.nl+k*s.st:=by
  obtain ⟨k',H⟩:=hd.nl;exact ⟨k'+k,by rw [Z,H,Nat.add_mul,Nat.add_assoc]⟩
 have U:∀ x j,x≠F->iM γ' F i2 x=some j->γ' x=some j:=by
  intro x j d h;simpa [iM,d] using h
 refine ⟨⟨fun x p hp=>?_,fun x y p q a b hp X A D hb I=>?_,fun j=>?_,by rw [G];exact R,hr.base⟩,
  ⟨bT.le_trans hd.le hle,hd.V8,hd.eZ,fun x p a hp A D=>?_,?_,G,M,fun x h1 h2=>?_,Q,hd.env⟩⟩
 ·by_cases d:x=F
  ·subst d;rw [hF] at hp;obtain rfl:=Option.some.inj hp;refine ⟨i2,cG _ _ _,hO.mono hle,fun _=>?_⟩;obtain ⟨j,hj,_,hB⟩:=hr.obj L K W;rw [hi] at hj;obtain rfl:=Option.some.inj hj;rw [z];exact hB m
  ·obtain ⟨j,hj,ad,hB⟩:=hr.obj x p (c x p d hp);exact ⟨j,hle _ _ hj,ad.mono hle,hB⟩
 ·by_cases d:x=F <;> by_cases J:y=F
  ·rw [d,J]
  ·exfalso;subst d;rw [cG] at D;obtain rfl:=Option.some.inj D;have ae:=U y b J hb;have:=hr.inj L y K q i b W (c y q J X) m hi ae (by rw [<- z];exact I);subst this;rcases n with h | h
   ·exact J h
   ·rw [h] at X;cases X
  ·exfalso;subst J;rw [cG] at hb;obtain rfl:=Option.some.inj hb;have al:=U x a d D;have:=hr.inj x L p K a i (c x p d hp) W A al hi (by rw [<- z];exact I);subst this;rcases n with h | h
   ·exact d h
   ·rw [h] at hp;cases hp
  ·exact hr.inj x y p q a b (c x p d hp) (c y q J X) A (U x a d D) (U y b J hb) I
 ·rw [C,G];have e:F+s.st+j*s.st=s'.nl+(k+(j+1))*s.st:=by rw [Z,Nat.add_mul,Nat.add_mul,Nat.one_mul];omega
  simp only [iM];rw [if_neg (by omega),e,<- r];exact hr.fin _
 ·by_cases d:x=F
  ·subst d;rw [cG] at D;obtain rfl:=Option.some.inj D;rw [z];exact hd.new L K i W m hi
  ·exact hd.new x p a (c x p d hp) A (U x a d D)
 ·obtain ⟨k',H⟩:=S;exact ⟨k'+1,by rw [C,H,Nat.add_mul,Nat.one_mul,Nat.add_assoc]⟩
 ·by_cases d:x=F
  ·rw [d];exact S
  ·exact hd.dom x h1 (by simpa [iM,d] using h2)
def AS.Em (s:AS) (l K:Nat) (o:AO):AS:={ s with cur:=(s.cur.set l .dead).set (s.nl+K*s.st) o,nl:=s.nl+K*s.st+s.st }
theorem AS.CT (s:AS) (l K:Nat) {o:AO} (b:o.live=true) (x:Nat):(s.Em l K o).h x=if x=s.nl+K*s.st then some o else if x=l then none else s.h x:=by
 have c:(s.Em l K o).h x=((s.kill l).put (s.nl+K*s.st) o).h x:=rfl;rw [c,AS.oZ _ _ b,AS.sR]
theorem aa.WN {P : Program} {g : FuncId} {l o len cap n K sz : Nat} {cs cs' : List AV} {post : List AV} {s : AS} (hl : s.h l = some (.cells cs sz false)) (am : sz ≠ 0) (bk : o + cap * sz = cs.length)
    (h : ∀ x C, C.length = x * sz -> C.all AV.one = true -> (∀ k, s.h (s.nl + k * s.st) = none) -> aa P g (.slc (some (s.nl, o)) len (cap + x) true :: post) ((s.kill l).new (.cells (cs ++ C) sz false)) fun v s' =>
      (∃ k, k <= K /\ s'.nl = s.nl + k * s.st) /\ (∀ k ob, k ≠ l -> s.h k = some ob -> s'.h k = some ob) /\
      ((v = .slc (some (s.nl, o)) n (cap + x) true /\ n <= cap + x /\ ∃ D, s'.h s.nl = some (.cells D sz false) /\ D.length = cs.length + x * sz /\ (D.drop o).take (n * sz) = cs') \/
       (∃ L, v = .slc (some (L, 0)) n n false /\ s.h L = none /\ s'.h L = some (.cells cs' sz false) /\ cs'.length = n * sz))) :
    aa P g (.slc (some (l, o)) len cap false :: post) s fun v s' => v = .slc (some (s.nl + K * s.st, 0)) n n false /\ s' = s.Em l K (.cells cs' sz false) := by
  intro B γ G w U hr;obtain ⟨i, hi, hO, hB⟩ := hr.obj l _ hl;obtain ⟨c, e, fz, hb, hc, hf, hg, an⟩ := hO;obtain ⟨bl, a2⟩ := hg am;have W : ∀ j : Fin (i.x * sz), ∃ v, v.one = true /\ ∃ cv, c[i.d + cs.length + j.1]? = some cv /\ ai γ v cv := by
    intro j;obtain ⟨v, cv, y, h2, h3⟩ := a2 (i.d + cs.length + j.1) (by omega) (by have := j.2; omega);exact ⟨v, y, cv, h2, h3⟩
  let C : List AV := List.ofFn fun j => Classical.choose (W j)
  have X : C.length = i.x * sz := by simp [C]
  have ao : ∀ (k : Nat) v, C[k]? = some v -> v.one = true /\ ∃ cv, c[i.d + cs.length + k]? = some cv /\ ai γ v cv := by
    intro k v r;have Y : k < i.x * sz := by
      rcases Nat.lt_or_ge k (i.x * sz) with h | h
      · exact h
      · rw [List.getElem?_eq_none (by omega)] at r; cases r
    have : C[k]? = some (Classical.choose (W ⟨k, Y⟩)) := by simp [C, List.getElem?_ofFn, Y]
    rw [this] at r; obtain rfl := Option.some.inj r;exact Classical.choose_spec (W ⟨k, Y⟩)
  have a3 : C.all AV.one = true := by
    rw [List.all_eq_true];intro v hv;obtain ⟨k, r⟩ := List.mem_iff_getElem?.1 hv;exact (ao k v r).1
  have hle : bT.le γ (iM γ s.nl ⟨i.b, i.d, 0⟩) := bT.uU hr.LI;have a4 : lQ (iM γ s.nl ⟨i.b, i.d, 0⟩) w ⟨i.b, i.d, 0⟩ (.cells (cs ++ C) sz false) := by
    refine ⟨c, e, fz, hb, fun k v r => ?_, hf, fun _ => ⟨by simp only [List.length_append, X]; omega, fun k y h2 => ?_⟩, an⟩
    · rw [List.getElem?_append] at r;split at r
      · obtain ⟨y, cv, h2, h3⟩ := hc k v r;exact ⟨y, cv, h2, h3.mono hle⟩
      · obtain ⟨y, cv, h2, h3⟩ := ao _ v r;exact ⟨y, cv, by rw [<- h2]; simp only; congr 1; omega, h3.mono hle⟩
    · simp only [List.length_append, X] at y;omega
  have a5 : w.heap = w.heap.setIfInBounds i.b (.cells c e fz) := by
    apply Array.ext_getElem?;intro k;rw [Array.getElem?_setIfInBounds];have a6 := lQ.lt (γ := γ) (o := .cells cs sz false) ⟨c, e, fz, hb, hc, hf, hg, an⟩;by_cases r : i.b = k
    · subst r; rw [if_pos rfl, if_pos a6, hb]
    · rw [if_neg r]
  obtain ⟨a7, a8⟩ := hr.take (w' := w) hl rfl rfl hi (i' := ⟨i.b, i.d, 0⟩) (o' := .cells (cs ++ C) sz false) rfl a5 a4;obtain ⟨c1, r1, e1, y, J⟩ := au.cN.1 U;simp only [ai, Bool.false_eq_true, if_false] at y;obtain ⟨i', ar, rfl⟩ := y;rw [hi] at ar; obtain rfl := Option.some.inj ar;have z : ∀ k, s.h (s.nl + k * s.st) = none := by
    intro k;cases Z : s.h (s.nl + k * s.st) with
    | none => rfl
    | some p =>
      obtain ⟨j, hj, _⟩ := hr.obj _ p Z;rw [hr.fin k] at hj; cases hj
  have M : au (iM γ s.nl ⟨i.b, i.d, 0⟩) (.slc (some (s.nl, o)) len (cap + i.x) true :: post) G.toList := by
    rw [e1];exact au.cons (by simp only [ai]; exact ⟨_, cG _ _ _, by simp⟩) (J.mono hle)
  refine (h i.x C X a3 z B _ G w M a7).mono ?_;rintro e w' ⟨γ', v, cv, s', rfl, hv, hd, hr', ⟨k, bm, a9⟩, ab, ad⟩;have hd' := a8.trans hd;have H : γ' s.nl = some ⟨i.b, i.d, 0⟩ := hd.le _ _ (cG _ _ _);have O : ∃ k, s.nl + K * s.st = s'.nl + k * s.st := ⟨K - k, by rw [a9, Nat.add_assoc, <- Nat.add_mul]; congr 2; omega⟩;have bo : s.h (s.nl + K * s.st) = none := z K;have Q : ∀ x ob, x ≠ s.nl + K * s.st -> (s.Em l K (.cells cs' sz false)).h x = some ob -> s'.h x = some ob := by
    intro x ob hx m;rw [AS.CT _ _ _ rfl, if_neg hx] at m;split at m
    · cases m
    · rename_i a'; exact ab x ob a' m
  have R : ∀ x ob, (s.Em l K (.cells cs' sz false)).cur.get x = some ob -> ob.live = true -> ob.ro = true -> s.cur.get x = some ob := by
    intro x ob m y h2;simp only [AS.Em, Tr.sk] at m;split at m
    · obtain rfl := Option.some.inj m; cases h2
    · split at m
      · obtain rfl := Option.some.inj m; cases y
      · exact m
  have hF : (s.Em l K (.cells cs' sz false)).h (s.nl + K * s.st) = some (.cells cs' sz false) := by rw [AS.CT _ _ _ rfl, if_pos rfl]
  rcases ad with ⟨rfl, hn, D, hL, bs, S⟩ | ⟨L, rfl, ba, hL, hlen⟩
  · obtain ⟨j, hj, ae, _⟩ := hr'.obj s.nl _ hL;rw [H] at hj; obtain rfl := Option.some.inj hj;obtain ⟨c2, e2, bb, aw, al, bc, bd, a0⟩ := ae;obtain ⟨a1, _⟩ := bd am;simp only at aw al a1;have hmul : n * sz <= (cap + i.x) * sz := Nat.mul_le_mul_right _ hn;have be : (cap + i.x) * sz = cap * sz + i.x * sz := Nat.add_mul _ _ _;have bh : (cap + i.x - n) * sz = (cap + i.x) * sz - n * sz := Nat.mul_sub_right_distrib _ _ _;have bi : cs'.length = n * sz := by rw [<- S, List.length_take, List.length_drop]; omega
    have bj : lQ γ' w' ⟨i.b, i.d + o, cap + i.x - n⟩ (.cells cs' sz false) := by
      refine ⟨c2, e2, bb, aw, fun k v r => ?_, bc, fun _ => ⟨by simp only; omega, fun k y h2 => ?_⟩, a0⟩
      · rw [<- S, List.getElem?_take, List.getElem?_drop] at r;split at r
        · obtain ⟨y, cv, h2, h3⟩ := al _ v r;exact ⟨y, cv, by rw [<- h2]; simp only; congr 1; omega, h3⟩
        · cases r
      · simp only at y;obtain ⟨h3, cv, h4, h5⟩ := al (k - i.d) _ (List.getElem?_eq_getElem (show k - i.d < D.length by omega));exact ⟨_, cv, h3, by rw [<- h4]; congr 1; omega, h5⟩
    have A : s.nl = s.nl + K * s.st \/ (s.Em l K (.cells cs' sz false)).h s.nl = none := by
      by_cases Z : s.nl = s.nl + K * s.st
      · exact .inl Z
      · right;rw [AS.CT _ _ _ rfl, if_neg Z];split
        · rfl
        · have := z 0; simpa using this
    obtain ⟨g1, g2⟩ := Qi (s'' := s.Em l K (.cells cs' sz false)) hd' hr' (F := s.nl + K * s.st) (L := s.nl) Q hF hL rfl rfl A H (i2 := ⟨i.b, i.d + o, cap + i.x - n⟩) rfl bj O rfl rfl rfl R;simp only [ai, if_true] at hv;obtain ⟨i3, I, rfl⟩ := hv;rw [H] at I; obtain rfl := Option.some.inj I;refine ⟨_, _, _, _, rfl, ?_, g2, g1, rfl, rfl⟩;simp only [ai];refine ⟨_, cG _ _ _, ?_⟩;simp only [Bool.false_eq_true, if_false, Nat.add_zero];rw [show n + (cap + i.x - n) = cap + i.x by omega]
  · obtain ⟨j, hj, ae, _⟩ := hr'.obj L _ hL;have A : L = s.nl + K * s.st \/ (s.Em l K (.cells cs' sz false)).h L = none := by
      by_cases Z : L = s.nl + K * s.st
      · exact .inl Z
      · right;rw [AS.CT _ _ _ rfl, if_neg Z];split
        · rfl
        · exact ba
    obtain ⟨g1, g2⟩ := Qi (s'' := s.Em l K (.cells cs' sz false)) hd' hr' (F := s.nl + K * s.st) (L := L) Q hF hL rfl rfl A hj (i2 := j) rfl ae O rfl rfl rfl R;simp only [ai, Bool.false_eq_true, if_false] at hv;obtain ⟨i3, I, rfl⟩ := hv;rw [hj] at I; obtain rfl := Option.some.inj I;refine ⟨_, _, _, _, rfl, ?_, g2, g1, rfl, rfl⟩;simp only [ai];exact ⟨_, cG _ _ _, by simp⟩
end
section
open Go.ChangeShapes Go.WideShapes Go.Deep
/-! ### a table from a list -/
def Tr.Yb {α:Type} (F:Nat->α):List Nat->Tr α
 | []=>.E
 | x::xs=>(Tr.Yb F xs).set x (F x)
theorem Tr.Kv {α:Type} (F:Nat->α):∀ (l:List Nat) (x:Nat),(Tr.Yb F l).get x=if x∈l then some (F x) else none
 | [],x=>by simp [Tr.Yb,Tr.get]
 | y::ys,x=>by
  simp only [Tr.Yb,Tr.sk,Tr.Kv F ys x,List.mem_cons];by_cases h:x=y
  ·subst h;simp
  ·simp [h]
def blockSize:Obj->Nat
 | .cells c _ _=>c.size
 | _=>0
def U9:List Nat->Nat
 | []=>0
 | x::xs=>max x (U9 xs)
theorem U_ {l:List Nat} {x:Nat} (h:x∈l):x<=U9 l:=by
 induction l with
 | nil=>cases h
 | cons y ys b =>
  simp only [U9];rcases List.mem_cons.1 h with rfl | h
  ·omega
  ·have:=b h;omega
def MW (w:World):Nat:=U9 (w.heap.toList.map blockSize)+1
theorem Th {w:World} {b:Nat} {c:Array Value} {e:TypeId} {fz:Nat×Nat} (h:w.heap[b]? = some (.cells c e fz)):c.size<MW w:=by
 have:c.size∈w.heap.toList.map blockSize:=by
  rw [List.mem_map];refine ⟨.cells c e fz,?_,rfl⟩;rw [List.mem_iff_getElem?];exact ⟨b,by simpa using h⟩
 have:=U_ this;unfold MW;omega
mutual
def dM (n M:Nat):Value->AV
 | .bool b=>.bool b
 | .int k x=>.int k x
 | .string s=>.str s.data.toList
 | .pointer none=>.ptr none
 | .pointer (some ⟨b,o,none⟩)=>if b<n/\o<M then .ptr (some (b*M+o,0)) else .bad
 | .slice none x y=>.slc none x y true
 | .slice (some ⟨b,o,none⟩) x y=>if b<n/\0<M then (if o<M then .slc (some (b*M+o,0)) x y true else .slc (some (b*M,o)) x y true) else if x=0 then .emp else .bad
 | .slice (some ⟨_,_,some _⟩) x _=>if x=0 then .emp else .bad
 | .map none=>.map none
 | .agg ⟨l⟩=>.agg (GG n M l)
 | .nilFunc=>.nilFunc
 | .nilIface=>.nilIface
 | _=>.bad
def GG (n M:Nat):List Value->List AV
 | []=>[]
 | v::vs=>dM n M v::GG n M vs
end
theorem Jk (n M:Nat):∀ l,GG n M l=l.map (dM n M)
 | []=>rfl
 | v::vs=>by simp [GG,Jk n M vs]
def gW (n M:Nat):bT:=fun x=>if x<n*M then some ⟨x / M,x % M,0⟩ else none
theorem FF {b o M:Nat} (h:o<M):(b*M+o) / M=b/\(b*M+o) % M=o:=by
 rw [Nat.mul_comm];constructor
 ·rw [Nat.mul_add_div (by omega),Nat.div_eq_of_lt h,Nat.add_zero]
 ·rw [Nat.mul_add_mod,Nat.mod_eq_of_lt h]
theorem Ti {b o n M:Nat} (hb:b<n) (h:o<M):b*M+o<n*M:=by
 have:(b+1)*M<=n*M:=Nat.mul_le_mul_right _ hb;rw [Nat.add_mul,Nat.one_mul] at this;omega
theorem Tj {b o n M:Nat} (hb:b<n) (h:o<M):gW n M (b*M+o)=some ⟨b,o,0⟩:=by
 simp only [gW,if_pos (Ti hb h),(FF h).1,(FF h).2]
mutual
theorem Mj (n M:Nat):∀ v,ai (gW n M) (dM n M v) v
 | .bool b=>by simp [dM,ai]
 | .int k x=>by simp [dM,ai]
 | .string s=>by simp [dM,ai]
 | .pointer none=>by simp [dM,ai]
 | .pointer (some ⟨b,o,none⟩)=>by
  simp only [dM]
  split
  ·rename_i h;simp only [ai];exact ⟨_,Tj h.1 h.2,rfl⟩
  ·simp [ai]
 | .pointer (some ⟨b,o,some _⟩)=>by simp [dM,ai]
 | .slice none x y=>by simp [dM,ai]
 | .slice (some ⟨b,o,none⟩) x y=>by
  simp only [dM]
  split
  ·rename_i h
   split
   ·rename_i h2;simp only [ai];exact ⟨_,Tj h.1 h2,by simp⟩
   ·simp only [ai];exact ⟨_,Tj (o:=0) h.1 h.2,by simp⟩
  ·split
   ·rename_i h;subst h;simp only [ai];exact ⟨_,_,rfl⟩
   ·simp [ai]
 | .slice (some ⟨b,o,some _⟩) x y=>by
  simp only [dM]
  split
  ·rename_i h;subst h;simp only [ai];exact ⟨_,_,rfl⟩
  ·simp [ai]
 | .map none=>by simp [dM,ai]
 | .map (some _)=>by simp [dM,ai]
 | .agg ⟨l⟩=>by simp only [dM,ai];exact ⟨⟨l⟩,rfl,CU n M l⟩
 | .nilFunc=>by simp [dM,ai]
 | .nilIface=>by simp [dM,ai]
 | .func _ _ _=>by simp [dM,ai]
 | .iface _ _=>by simp [dM,ai]
 | .tuple _=>by simp [dM,ai]
 | .float _ _=>by simp [dM,ai]
 | .complex _ _ _=>by simp [dM,ai]
 | .chan _=>by simp [dM,ai]
theorem CU (n M:Nat):∀ l,au (gW n M) (GG n M l) l
 | []=>by simp [GG,au]
 | v::vs=>by simp only [GG];exact au.cons (Mj n M v) (CU n M vs)
end
def win (w:World) (c:Array Value) (o:Nat):List AV:=((c.toList.drop o).map (dM w.heap.size (MW w))).takeWhile AV.one
def WO (w:World) (x:Nat):AO:=match w.heap[x / MW w]? with
 | some (.cells c _ _)=>.cells (win w c (x % MW w)) 0 true
 | _=>.dead
def sW (w:World):AS:={ lay:=[Tr.Yb (WO w) (List.range (w.heap.size*MW w))],cur:=.E,nl:=w.heap.size*MW w,st:=1 }
theorem WQ {w:World} {x:Nat} {o:AO} (h:(sW w).h x=some o):x<w.heap.size*MW w/\∃ c e fz,w.heap[x / MW w]? = some (.cells c e fz)/\o=.cells (win w c (x % MW w)) 0 true:=by
 simp only [AS.h,sW,Tr.get,J2,Tr.Kv,List.mem_range] at h;by_cases b:x<w.heap.size*MW w
 ·refine ⟨b,?_⟩;rw [if_pos b] at h;simp only [WO] at h;cases hb:w.heap[x / MW w]? with
  | none=>rw [hb] at h;cases h
  | some ob =>
   rw [hb] at h;cases ob with
   | cells c e fz =>
    simp only [AO.Wu,Option.some.injEq] at h;exact ⟨c,e,fz,rfl,h.symm⟩
   | _=>cases h
 ·rw [if_neg b] at h;cases h
theorem Wg {w:World} {b o:Nat} {c:Array Value} {e:TypeId} {fz:Nat×Nat} (hb:w.heap[b]? = some (.cells c e fz)) (j:o<=c.size):At (sW w) (b*MW w+o) (win w c o):=by
 have k:=Th hb;have d:b<w.heap.size:=by
  rcases Nat.lt_or_ge b w.heap.size with h | h
  ·exact h
  ·rw [Array.getElem?_eq_none h] at hb;cases hb
 have i:=Ti d (show o<MW w by omega);refine ⟨0,true,?_⟩;simp only [AS.h,sW,Tr.get,J2,Tr.Kv,List.mem_range,if_pos i,WO,(FF (show o<MW w by omega)).1,(FF (show o<MW w by omega)).2,hb,AO.Wu]
theorem zg {p:AV->Bool}:∀ (l:List AV) (k:Nat) (v:AV),(l.takeWhile p)[k]? = some v->p v=true/\l[k]? = some v
 | [],k,v,h=>by simp at h
 | a::l,k,v,h=>by
  rw [List.takeWhile_cons] at h;split at h
  ·rename_i b;cases k with
   | zero=>simp at h;subst h;exact ⟨b,rfl⟩
   | succ k=>simp at h;simpa using zg l k v h
  ·simp at h
theorem ru {p:AV->Bool}:∀ (l:List AV) (N:Nat),(∀ v∈l.take N,p v=true)->(l.takeWhile p).take N=l.take N
 | l,0,_=>by simp
 | [],N+1,_=>by simp
 | a::l,N+1,h=>by
  have b:p a=true:=h a (by simp);rw [List.takeWhile_cons,if_pos b,List.take_succ_cons,List.take_succ_cons,ru l N fun v hv=>h v (by simp [hv])]
theorem chunks (l:List AV) (sz:Nat):∀ n,l.take (n*sz)=((List.range n).map fun i=>(l.drop (i*sz)).take sz).flatten
 | 0=>by simp
 | n+1=>by
  rw [Nat.add_mul,Nat.one_mul,List.take_add,chunks l sz n,List.range_succ,List.map_append,List.flatten_append];simp
theorem WR (w:World):Rel w.heap.size (gW w.heap.size (MW w)) (sW w) w:=by
 refine ⟨fun x o h=>?_,fun x y o o' i i' h n b=>?_,fun j=>?_,Nat.le_refl 1,Nat.le_refl _⟩
 ·obtain ⟨d,c,e,fz,hb,rfl⟩:=WQ h;refine ⟨⟨x / MW w,x % MW w,0⟩,by simp only [gW,if_pos d],⟨c,e,fz,hb,fun k v l=>?_,(fun h=>by cases h),(fun h=>absurd rfl h),(fun h=>by cases h)⟩,(fun h=>by cases h)⟩;obtain ⟨m,h2⟩:=zg _ _ _ l;refine ⟨m,?_⟩;rw [List.getElem?_map,List.getElem?_drop,Option.map_eq_some_iff] at h2;obtain ⟨cv,h3,rfl⟩:=h2;exact ⟨cv,by simpa using h3,Mj _ _ _⟩
 ·obtain ⟨_,c,e,fz,_,rfl⟩:=WQ h;cases b
 ·simp only [gW,sW,Nat.mul_one];rw [if_neg (by omega)]
/-! ### data of flat types -/
inductive LK where
 | int (k:IntKind)
 | bool
 | str
def CV:LK->AV->Prop
 | .int k,v=>∃ n,v=.int k n/\k.min<=n/\n<=k.max
 | .bool,v=>∃ b,v=.bool b
 | .str,v=>∃ b,v=.str b/\b.length<=maxLen
def cQ:List LK->List AV->Prop
 | [],[]=>True
 | k::ks,v::vs=>CV k v/\cQ ks vs
 | _,_=>False
theorem CV.one {k:LK} {v:AV} (h:CV k v):v.one=true:=by
 cases k
 ·obtain ⟨n,rfl,_⟩:=h;rfl
 ·obtain ⟨n,rfl⟩:=h;rfl
 ·obtain ⟨n,rfl,_⟩:=h;rfl
theorem cQ.len:∀ {ks:List LK} {vs:List AV},cQ ks vs->vs.length=ks.length
 | [],[],_=>rfl
 | [],_::_,h=>h.elim
 | _::_,[],h=>h.elim
 | k::ks,v::vs,h=>by simp [cQ.len h.2]
theorem cQ.one:∀ {ks:List LK} {vs:List AV},cQ ks vs->∀ v∈vs,v.one=true
 | [],[],_,v,hv=>by cases hv
 | [],_::_,h,_,_=>h.elim
 | _::_,[],h,_,_=>h.elim
 | k::ks,u::vs,h,v,hv=>by
  rcases List.mem_cons.1 hv with rfl | hv
  ·exact h.1.one
  ·exact cQ.one h.2 v hv
theorem cQ.append:∀ {ks b:List LK} {vs c:List AV},cQ ks vs->cQ b c->cQ (ks++b) (vs++c)
 | [],_,[],_,_,d=>by simpa using d
 | [],_,_::_,_,h,_=>h.elim
 | _::_,_,[],_,h,_=>h.elim
 | k::ks,_,v::vs,_,h,d=>⟨h.1,cQ.append h.2 d⟩
def Mk (P:Program) (rec:TypeId->Option (List LK)):List Field->Nat->Option (List LK)
 | [],_=>some []
 | f::fs,o=>(rec f.type).bind fun ks=>if f.offset=o/\P.cellsOf f.type=ks.length then (Mk P rec fs (o+ks.length)).map (ks++·) else none
def zh (P:Program):Nat->TypeId->Option (List LK)
 | 0,_=>none
 | d+1,t=>match P.underlying t with
  | some .bool=>some [.bool]
  | some (.int k)=>some [.int k]
  | some .string=>some [.str]
  | some (.struct fs)=>(Mk P (zh P d) fs.toList 0).bind fun ks=>if P.cellsOf t=ks.length then some ks else none
  | some (.array n e)=>(zh P d e).bind fun ks=>if P.cellsOf e=ks.length/\P.cellsOf t=n*ks.length then some (List.replicate n ks).flatten else none
  | _=>none
section
variable {H:Type} {enc:TypeId×Value->H} {P:Program} {w:World} {base:Nat} {spare:Nat->Bool} {held:Bool}
theorem CW:∀ (d:Nat) (t:TypeId) (ks:List LK) (fuel:Nat) (cs:List Value) (x:DataW H×List MemPlace) (n M:Nat),zh P d t=some ks->DataW.trod enc P w base spare held fuel t cs=some x->cQ ks (cs.map (dM n M)):=by
 intro d
 induction d with
 | zero=>intro t ks fuel cs x n M h;simp [zh] at h
 | succ d X =>
  intro t ks fuel cs x n M h ht;unfold zh at h;split at h
  ·rename_i hu;obtain rfl:=Option.some.inj h;obtain ⟨b,rfl,_⟩:=DataW.trod_bool hu ht;exact ⟨⟨b,by simp [dM]⟩,trivial⟩
  ·rename_i k hu;obtain rfl:=Option.some.inj h;obtain ⟨b,rfl,_,C⟩:=DataW.trod_int hu ht;simp only [Lit.wf,Bool.and_eq_true,decide_eq_true_eq] at C;exact ⟨⟨b,by simp [dM],C⟩,trivial⟩
  ·rename_i hu;obtain rfl:=Option.some.inj h;obtain ⟨b,rfl,_,Y⟩:=DataW.trod_string hu ht;exact ⟨⟨b.data.toList,by simp [dM],by simpa using Y⟩,trivial⟩
  ·rename_i fs hu;obtain ⟨xs,m,rfl,_,hlen,D,hf⟩:=DataW.trod_struct hu ht;simp only [Option.bind_eq_some_iff] at h;obtain ⟨J,K,h⟩:=h;split at h
   ·rename_i F;obtain rfl:=Option.some.inj h;have key:∀ (l:List Field) (o:Nat) (ks:List LK),Mk P (zh P d) l o=some ks->(∀ f∈l,∃ y,DataW.trod enc P w base spare held m f.type ((cs.drop f.offset).take (P.cellsOf f.type))=some y)->o+ks.length<=cs.length->cQ ks (((cs.drop o).take ks.length).map (dM n M)):=by
     intro l
     induction l with
     | nil=>intro o ks h _ _;simp only [Mk] at h;obtain rfl:=Option.some.inj h;simp [cQ]
     | cons f l L =>
      intro o ks h c hle;simp only [Mk,Option.bind_eq_some_iff] at h;obtain ⟨p,r,h⟩:=h;split at h
      ·rename_i O;obtain ⟨z,A⟩:=O;simp only [Option.map_eq_some_iff] at h;obtain ⟨k2,Q,rfl⟩:=h;obtain ⟨y,I⟩:=c f (by simp);have G:=X _ _ _ _ _ n M r I;rw [z,A] at G;rw [List.length_append] at hle;have R:=L (o+p.length) k2 Q (fun f hf=>c f (by simp [hf])) (by omega);have:=G.append R;rw [List.length_append,List.take_add,List.map_append,List.drop_drop];exact this
      ·cases h
    have c:∀ f∈fs.toList,∃ y,DataW.trod enc P w base spare held m f.type ((cs.drop f.offset).take (P.cellsOf f.type))=some y:=by
     intro f S;obtain ⟨i,hi⟩:=List.mem_iff_getElem?.1 S;have B:fs[i]? = some f:=by simpa using hi
     have U:i<xs.length:=by
      rw [D];rcases Nat.lt_or_ge i fs.size with h | h
      ·exact h
      ·rw [Array.getElem?_eq_none h] at B;cases B
     exact ⟨_,(hf i f B).trans (List.getElem?_eq_getElem U)⟩
    have:=key fs.toList 0 J K c (by rw [hlen,F];omega);rw [List.drop_zero,List.take_of_length_le (by rw [hlen,F];exact Nat.le_refl _)] at this;exact this
   ·cases h
  ·rename_i len e hu;obtain ⟨xs,m,rfl,_,hlen,D,hf⟩:=DataW.trod_array hu ht;simp only [Option.bind_eq_some_iff] at h;obtain ⟨p,r,h⟩:=h;split at h
   ·rename_i O;obtain ⟨z,A⟩:=O;obtain rfl:=Option.some.inj h;have key:∀ (j i:Nat),i+j=len->cQ (List.replicate j p).flatten (((cs.drop (i*p.length)).take (j*p.length)).map (dM n M)):=by
     intro j
     induction j with
     | zero=>intro i _;simp [cQ]
     | succ j W =>
      intro i Z;have I:=hf i (by omega);rw [List.getElem?_eq_getElem (by omega)] at I;have G:=X _ _ _ _ _ n M r I;rw [z] at G;have R:=W (i+1) (by omega);have:=G.append R;rw [List.replicate_succ,List.flatten_cons];have e1:(j+1)*p.length=p.length+j*p.length:=by rw [Nat.add_mul,Nat.one_mul,Nat.add_comm]
      rw [e1,List.take_add,List.map_append,List.drop_drop];have e2:i*p.length+p.length=(i+1)*p.length:=by rw [Nat.add_mul,Nat.one_mul]
      rw [e2];exact this
    have:=key len 0 (by omega);rw [Nat.zero_mul,List.drop_zero,List.take_of_length_le (by rw [hlen,A];exact Nat.le_refl _)] at this;exact this
   ·cases h
  ·cases h
theorem Rh {t e:TypeId} {d:Nat} {ks:List LK} (hu:P.underlying t=some (.slice e)) (W:zh P d e=some ks) (Q:P.cellsOf e=ks.length) (U:0<ks.length) {v:Value} {y:DataW H} {ps:List MemPlace}
  (hv:Value.okWide P w .any base t v) (h:DataW.Trod enc P w 0 (fun _=>true) true t v y ps) :
  ∃ C:List (List AV),bR (sW w) (dM w.heap.size (MW w) v) ks.length C.flatten C.length/\(∀ c∈C,cQ ks c)/\C.length<=maxLen:=by
 obtain ⟨fuel,h⟩:=h;rcases open_slice hu h with ⟨z,_⟩ | ⟨a,len,cap,m,n,D,Pl,z,hb,X,hm,sU,_,Y⟩
 ·have F:v=.slice none 0 0:=by
   cases v with
   | agg l=>exfalso;unfold Value.okWide at hv;rw [hu] at hv;simp only [Cell.okWide,hu,Cell.ok] at hv
   | _=>first | (simp [Value.cells] at z;done) | simpa [Value.cells] using z
  subst F;exact ⟨[],by simp only [dM,List.flatten_nil,List.length_nil];exact bR.nil,by simp,by simp⟩
 ·have F:v=.slice (some a) len cap:=by
   cases v with
   | agg l=>exfalso;unfold Value.okWide at hv;rw [hu] at hv;simp only [Cell.okWide,hu,Cell.ok] at hv
   | _=>first | (simp [Value.cells] at z;done) | simpa [Value.cells] using z
  subst F;simp only [if_true] at sU;subst sU;have K:w.has P .any base a e m:=by
   unfold Value.okWide at hv;rw [hu] at hv;simp only [Cell.okWide,hu,Cell.ok] at hv;exact hv.2.2
  obtain ⟨_,A,row,cells,p,_⟩:=K;obtain ⟨b,o,sp⟩:=a;simp only at A;subst A;obtain ⟨c,e',fz,k⟩:∃ c e' fz,w.heap[b]? = some (.cells c e' fz):=by
   unfold World.shape? at p;split at p
   ·rename_i c e' fz k;exact ⟨c,e',fz,k⟩
   ·cases p
  have L:b<w.heap.size:=by
   rcases Nat.lt_or_ge b w.heap.size with h | h
   ·exact h
   ·rw [Array.getElem?_eq_none h] at k;cases k
  have Z:=Th k;have B:∀ i,i<m->∃ G,G=((c.toList.drop (o+i*ks.length)).take ks.length)/\G.length=ks.length/\cQ ks (G.map (dM w.heap.size (MW w))):=by
   intro i hi;obtain ⟨cs',x,h2⟩:=Y i hi;rw [Q] at x;obtain ⟨_,hlen,I⟩:=World.cells?_some x;have M:cs'=(c.toList.drop (o+i*ks.length)).take ks.length:=by
    apply List.ext_getElem?;intro j;rw [List.getElem?_take,List.getElem?_drop];split
    ·rename_i hj;rw [<- I j hj];simp only [World.cell?];have r:(((⟨b,o,none⟩:Addr).add (i*ks.length)).add j).block=b/\(((⟨b,o,none⟩:Addr).add (i*ks.length)).add j).off=o+i*ks.length+j/\(((⟨b,o,none⟩:Addr).add (i*ks.length)).add j).spot=none:=by
      unfold Addr.add;by_cases h0:i*ks.length=0 <;> by_cases x:j=0 <;> simp [h0,x]
     rw [r.1,r.2.1,r.2.2,k];simp
    ·rw [List.getElem?_eq_none (by omega)]
   exact ⟨cs',M,hlen,CW d e ks n cs' _ _ _ W h2⟩
  refine ⟨(List.range len).map fun i=>((c.toList.drop (o+i*ks.length)).take ks.length).map (dM w.heap.size (MW w)),?_,?_,?_⟩
  ·rw [List.length_map,List.length_range];by_cases h0:len=0
   ·subst h0;simp only [List.range_zero,List.map_nil,List.flatten_nil];simp only [dM];rw [if_pos ⟨L,by omega⟩];split <;> exact bR.nil
   ·have ho:o<c.size:=by
     obtain ⟨G,x,h2,_⟩:=B 0 (by omega);have:=congrArg List.length x;rw [h2,List.length_take,List.length_drop,Nat.zero_mul,Nat.add_zero,show c.toList.length=c.size from Array.length_toList] at this;omega
    simp only [dM];rw [if_pos ⟨L,by omega⟩,if_pos (by omega)];have R:((List.range len).map fun i=>((c.toList.drop (o+i*ks.length)).take ks.length).map (dM w.heap.size (MW w))).flatten=((c.toList.drop o).map (dM w.heap.size (MW w))).take (len*ks.length):=by
     rw [chunks];congr 1;apply List.map_congr_left;intro i _;rw [List.map_take,<- List.map_drop,List.drop_drop]
    have O:∀ v∈((c.toList.drop o).map (dM w.heap.size (MW w))).take (len*ks.length),v.one=true:=by
     intro v hv;rw [<- R] at hv;obtain ⟨cc,J,S⟩:=List.mem_flatten.1 hv;obtain ⟨i,hi,rfl⟩:=List.mem_map.1 J;obtain ⟨G,x,_,h3⟩:=B i (by have:=List.mem_range.1 hi;omega);rw [x] at h3;exact h3.one v S
    refine bR.mk (Wg k (by omega)) ?_ ?_ X
    ·rw [R,List.length_take,List.length_map,List.length_drop,show c.toList.length=c.size from Array.length_toList];obtain ⟨G,x,h2,_⟩:=B (len - 1) (by omega);have:=congrArg List.length x;rw [h2,List.length_take,List.length_drop,show c.toList.length=c.size from Array.length_toList] at this;have e:(len - 1)*ks.length+ks.length=len*ks.length:=by
      rw [<- Nat.succ_mul];congr 1;omega
     omega
    ·rw [List.drop_zero];unfold win;rw [ru _ _ O,R]
  ·intro cc J;obtain ⟨i,hi,rfl⟩:=List.mem_map.1 J;obtain ⟨G,x,_,h3⟩:=B i (by have:=List.mem_range.1 hi;omega);rw [x] at h3;exact h3
  ·rw [List.length_map,List.length_range];omega
end
end
end Go.Am
