/-
  A part of O4 proof: an abstract machine Bo O4 model, and qi of qj of this program Bo it.
-/
import Derived.Orders
import Derived.Laws.Sem
import Derived.Laws.World
import GoSem.Dispatch
import Derived.Laws.Strings
import Derived.IntWalk
import Derived.Deep.LoopGhost
import Derived.Scope
set_option linter.unusedVariables false
set_option linter.unusedSimpArgs false
set_option linter.unusedSectionVars false
section
namespace Go.Am
structure CI where
 b:Nat
 d:Nat
 x:Nat
abbrev bM:=Nat->Option CI
inductive AV where
 | int (k:IntKind) (n:Int)
 | bool (b:Bool)
 | str (s:List UInt8)
 | ptr (a:Option (Nat×Nat))
 | slc (a:Option (Nat×Nat)) (len cap:Nat) (ex:Bool)
 | emp
 | map (r:Option Nat)
 | func (fn:FuncId) (captured:List AV)
 | tX (fn:FuncId) (first captured:List AV)
 | nilFunc
 | Qz (l:Nat)
 | iface (t:TypeId) (v:AV)
 | nilIface
 | agg (l:List AV)
 | aP (l:List AV)
 | bad
 deriving Inhabited
abbrev AV.undef:AV:=.aP []
def AV.cells:AV->List AV
 | .agg l=>l
 | v=>[v]
mutual
def ai (γ:bM):AV->Value->Prop
 | .int k n,c=>c=.int k n
 | .bool b,c=>c=.bool b
 | .str s,c=>c=.string ⟨s.toArray⟩
 | .ptr none,c=>c=.pointer none
 | .ptr (some (l,o)),c=>∃ i,γ l=some i/\c=.pointer (some ⟨i.b,i.d+o,none⟩)
 | .slc none n m e,c=>c=.slice none n m/\e=true
 | .slc (some (l,o)) n m e,c=>∃ i,γ l=some i/\c=.slice (some ⟨i.b,i.d+o,none⟩) n (if e then m else m+i.x)
 | .emp,c=>∃ a m,c=.slice (some a) 0 m
 | .map none,c=>c=.map none
 | .map (some l),c=>∃ i,γ l=some i/\c=.map (some i.b)
 | .func f cap,c=>∃ cc,c=.func (.func f) #[] cc/\ak γ cap cc.toList
 | .tX f ft cap,c=>∃ cf cc,c=.func (.func f) cf cc/\ak γ ft cf.toList/\ak γ cap cc.toList
 | .nilFunc,c=>c=.nilFunc
 | .Qz l,c=>c=.func (.yield l) #[] #[]
 | .iface t v,c=>∃ cv,c=.iface t cv/\ai γ v cv
 | .nilIface,c=>c=.nilIface
 | .agg l,c=>∃ cs,c=.agg cs/\ak γ l cs.toList
 | .aP l,c=>∃ cs,c=.tuple cs/\ak γ l cs.toList
 | .bad,_=>True
def ak (γ:bM):List AV->List Value->Prop
 | [],c=>c=[]
 | v::vs,c=>∃ d ds,c=d::ds/\ai γ v d/\ak γ vs ds
end
def bM.le (γ γ':bM):Prop:=∀ l i,γ l=some i->γ' l=some i
theorem bM.le_refl (γ:bM):bM.le γ γ:=fun _ _ h=>h
theorem bM.le_trans {a b c:bM} (h:bM.le a b) (d:bM.le b c):bM.le a c:=fun l i e=>d l i (h l i e)
mutual
theorem ai.mono {γ γ':bM} (h:bM.le γ γ'):∀ {v:AV} {c:Value},ai γ v c->ai γ' v c
 | .int _ _,_,e=>by simpa [ai] using e
 | .bool _,_,e=>by simpa [ai] using e
 | .str _,_,e=>by simpa [ai] using e
 | .ptr none,_,e=>by simpa [ai] using e
 | .ptr (some (l,o)),_,e=>by
  simp only [ai] at e ⊢;obtain ⟨i,hi,e⟩:=e;exact ⟨i,h l i hi,e⟩
 | .slc none _ _ _,_,e=>by simpa [ai] using e
 | .slc (some (l,o)) _ _ _,_,e=>by
  simp only [ai] at e ⊢;obtain ⟨i,hi,e⟩:=e;exact ⟨i,h l i hi,e⟩
 | .emp,_,e=>by simpa [ai] using e
 | .map none,_,e=>by simpa [ai] using e
 | .map (some l),_,e=>by
  simp only [ai] at e ⊢;obtain ⟨i,hi,e⟩:=e;exact ⟨i,h l i hi,e⟩
 | .func f cap,_,e=>by
  simp only [ai] at e ⊢;obtain ⟨i,hi,e⟩:=e;exact ⟨i,hi,ak.mono h e⟩
 | .tX f ft cap,_,e=>by
  simp only [ai] at e ⊢;obtain ⟨i,j,hi,e1,e2⟩:=e;exact ⟨i,j,hi,ak.mono h e1,ak.mono h e2⟩
 | .nilFunc,_,e=>by simpa [ai] using e
 | .Qz _,_,e=>by simpa [ai] using e
 | .iface t v,_,e=>by
  simp only [ai] at e ⊢;obtain ⟨i,hi,e⟩:=e;exact ⟨i,hi,ai.mono h e⟩
 | .nilIface,_,e=>by simpa [ai] using e
 | .agg l,_,e=>by
  simp only [ai] at e ⊢;obtain ⟨i,hi,e⟩:=e;exact ⟨i,hi,ak.mono h e⟩
 | .aP l,_,e=>by
  simp only [ai] at e ⊢;obtain ⟨i,hi,e⟩:=e;exact ⟨i,hi,ak.mono h e⟩
 | .bad,_,_=>by simp [ai]
theorem ak.mono {γ γ':bM} (h:bM.le γ γ'):∀ {v:List AV} {c:List Value},ak γ v c->ak γ' v c
 | [],_,e=>by simpa [ak] using e
 | v::vs,_,e=>by
  simp only [ak] at e ⊢;obtain ⟨d,ds,rfl,hv,hs⟩:=e;exact ⟨d,ds,rfl,ai.mono h hv,ak.mono h hs⟩
end
theorem ak.gV {γ:bM} {c:List Value}:ak γ [] c↔c=[]:=by simp [ak]
theorem ak.cD {γ:bM} {v:AV} {vs:List AV} {c:List Value}:ak γ (v::vs) c↔∃ d ds,c=d::ds/\ai γ v d/\ak γ vs ds:=by simp [ak]
theorem ak.cons {γ:bM} {v:AV} {vs:List AV} {d:Value} {ds:List Value} (h:ai γ v d) (hs:ak γ vs ds):ak γ (v::vs) (d::ds):=by
 simp only [ak];exact ⟨d,ds,rfl,h,hs⟩
theorem ak.nil {γ:bM}:ak γ [] []:=by simp [ak]
theorem ak.eV {γ:bM}:∀ {vs:List AV} {cs:List Value},ak γ vs cs↔vs.length=cs.length/\∀ (i:Nat) v c,vs[i]? = some v->cs[i]? = some c->ai γ v c
 | [],cs=>by
  constructor
  ·intro h;obtain rfl:=ak.gV.1 h;simp
  ·intro ⟨h,_⟩;simp at h;obtain rfl:cs=[]:=List.length_eq_zero_iff.1 h.symm;exact ak.nil
 | v::vs,cs=>by
  constructor
  ·intro h;obtain ⟨d,ds,rfl,hv,hs⟩:=ak.cD.1 h;obtain ⟨j,k⟩:=ak.eV.1 hs;refine ⟨by simp [j],fun i a b e hb=>?_⟩;cases i with
   | zero=>simp at e hb;subst e;subst hb;exact hv
   | succ i=>simp at e hb;exact k i a b e hb
  ·intro ⟨j,k⟩;cases cs with
   | nil=>simp at j
   | cons d ds =>
    exact ak.cons (k 0 v d rfl rfl) (ak.eV.2 ⟨by simpa using j,fun i a b e hb=>k (i+1) a b (by simpa using e) (by simpa using hb)⟩)
theorem ak.length {γ:bM} {vs:List AV} {cs:List Value} (h:ak γ vs cs):vs.length=cs.length:=(ak.eV.1 h).1
theorem ak.get {γ:bM} {vs:List AV} {cs:List Value} (h:ak γ vs cs) {i:Nat} {v:AV} (hv:vs[i]? = some v):∃ c,cs[i]? = some c/\ai γ v c:=by
 obtain ⟨d,b⟩:=ak.eV.1 h;have hi:i<vs.length:=by
  rcases Nat.lt_or_ge i vs.length with h | h
  ·exact h
  ·simp [List.getElem?_eq_none h] at hv
 exact ⟨cs[i]'(by omega),by simp [List.getElem?_eq_getElem (show i<cs.length by omega)],b i v _ hv (by simp [List.getElem?_eq_getElem (show i<cs.length by omega)])⟩
theorem ak.append {γ:bM}:∀ {vs us:List AV} {cs ds:List Value},ak γ vs cs->ak γ us ds->ak γ (vs++us) (cs++ds)
 | [],us,cs,ds,h,b=>by obtain rfl:=ak.gV.1 h;simpa using b
 | v::vs,us,cs,ds,h,b=>by
  obtain ⟨d,es,rfl,hv,hs⟩:=ak.cD.1 h;exact ak.cons hv (ak.append hs b)
theorem ak.drop {γ:bM} {vs:List AV} {cs:List Value} (h:ak γ vs cs) (n:Nat):ak γ (vs.drop n) (cs.drop n):=by
 obtain ⟨c,d⟩:=ak.eV.1 h;exact ak.eV.2 ⟨by simp [c],fun i a b e hb=>d (n+i) a b (by simpa using e) (by simpa using hb)⟩
theorem ak.take {γ:bM} {vs:List AV} {cs:List Value} (h:ak γ vs cs) (n:Nat):ak γ (vs.take n) (cs.take n):=by
 obtain ⟨d,e⟩:=ak.eV.1 h;refine ak.eV.2 ⟨by simp [d],fun i a b c hb=>?_⟩;rw [List.getElem?_take] at c hb;split at c
 ·rename_i hi;rw [if_pos hi] at hb;exact e i a b c hb
 ·simp at c
theorem ak.set {γ:bM} {vs:List AV} {cs:List Value} (h:ak γ vs cs) (n:Nat) {v:AV} {c:Value} (hv:ai γ v c):ak γ (vs.set n v) (cs.set n c):=by
 obtain ⟨e,j⟩:=ak.eV.1 h;refine ak.eV.2 ⟨by simp [e],fun i a b d hb=>?_⟩;rw [List.getElem?_set] at d hb;by_cases hi:n=i
 ·subst hi;simp at d hb;rw [<- d.2,<- hb.2];exact hv
 ·simp [hi] at d hb;exact j i a b d hb
def AV.one:AV->Bool
 | .agg _ | .aP _ | .bad=>false
 | _=>true
theorem ai.cells {γ:bM} {v:AV} {c:Value} (h:ai γ v c) (hb:v.cells.all AV.one=true):ak γ v.cells c.cells.toList:=by
 cases v with
 | agg l=>simp only [ai] at h;obtain ⟨cs,rfl,hs⟩:=h;exact hs
 | ptr a =>
  have d:=h;cases a <;> simp only [ai] at h
  ·subst h;exact ak.cons d ak.nil
  ·obtain ⟨i,_,rfl⟩:=h;exact ak.cons d ak.nil
 | slc a n m e =>
  have d:=h;cases a <;> simp only [ai] at h
  ·obtain ⟨rfl,_⟩:=h;exact ak.cons d ak.nil
  ·obtain ⟨i,_,rfl⟩:=h;exact ak.cons d ak.nil
 | emp=>have d:=h;simp only [ai] at h;obtain ⟨i,j,rfl⟩:=h;exact ak.cons d ak.nil
 | map r =>
  have d:=h;cases r <;> simp only [ai] at h
  ·subst h;exact ak.cons d ak.nil
  ·obtain ⟨i,_,rfl⟩:=h;exact ak.cons d ak.nil
 | func f cap=>have d:=h;simp only [ai] at h;obtain ⟨i,rfl,_⟩:=h;exact ak.cons d ak.nil
 | tX f ft cap=>have d:=h;simp only [ai] at h;obtain ⟨i,j,rfl,_⟩:=h;exact ak.cons d ak.nil
 | iface t v=>have d:=h;simp only [ai] at h;obtain ⟨i,rfl,_⟩:=h;exact ak.cons d ak.nil
 | aP l=>simp [AV.cells,AV.one] at hb
 | bad=>simp [AV.cells,AV.one] at hb
 | int k n=>have d:=h;simp only [ai] at h;subst h;exact ak.cons d ak.nil
 | bool b=>have d:=h;simp only [ai] at h;subst h;exact ak.cons d ak.nil
 | str s=>have d:=h;simp only [ai] at h;subst h;exact ak.cons d ak.nil
 | nilFunc=>have d:=h;simp only [ai] at h;subst h;exact ak.cons d ak.nil
 | Qz l=>have d:=h;simp only [ai] at h;subst h;exact ak.cons d ak.nil
 | nilIface=>have d:=h;simp only [ai] at h;subst h;exact ak.cons d ak.nil
theorem ai.one {γ:bM} {v:AV} {c:Value} (h:ai γ v c) (hv:v.one=true):c.oneCell'=true:=by
 cases v with
 | ptr a=>cases a <;> simp only [ai] at h <;> (first | (subst h;rfl) | (obtain ⟨_,_,rfl⟩:=h;rfl))
 | slc a n m e=>cases a <;> simp only [ai] at h <;> (first | (obtain ⟨rfl,_⟩:=h;rfl) | (obtain ⟨_,_,rfl⟩:=h;rfl))
 | emp=>simp only [ai] at h;obtain ⟨_,_,rfl⟩:=h;rfl
 | map r=>cases r <;> simp only [ai] at h <;> (first | (subst h;rfl) | (obtain ⟨_,_,rfl⟩:=h;rfl))
 | func f cap=>simp only [ai] at h;obtain ⟨_,rfl,_⟩:=h;rfl
 | tX f ft cap=>simp only [ai] at h;obtain ⟨_,_,rfl,_⟩:=h;rfl
 | iface t v=>simp only [ai] at h;obtain ⟨_,rfl,_⟩:=h;rfl
 | agg l=>simp [AV.one] at hv
 | aP l=>simp [AV.one] at hv
 | bad=>simp [AV.one] at hv
 | _=>simp only [ai] at h;subst h;rfl
inductive AO where
 | cells (cs:List AV) (g:Nat) (ro:Bool)
 | map (es:List (AV×AV×Nat)) (clock:Nat) (ro:Bool)
 | fH (m:Option Nat) (since:Nat) (seen:List Nat) (stepped:Nat) (ro:Bool)
 | pM (s:List UInt8) (pos:Nat) (ro:Bool)
 | dead
 deriving Inhabited
def AO.ro:AO->Bool
 | .cells _ _ r=>r
 | .map _ _ r=>r
 | .fH _ _ _ _ r=>r
 | .pM _ _ r=>r
 | .dead=>true
def AO.VM:AO->AO
 | .cells c g _=>.cells c g true
 | .map es k _=>.map es k true
 | .fH m a b c _=>.fH m a b c true
 | .pM s p _=>.pM s p true
 | .dead=>.dead
def bO (γ:bM):List (AV×AV×Nat)->List MapEntry->Prop
 | [],c=>c=[]
 | (k,v,n)::es,c=>∃ e cs,c=e::cs/\ai γ k e.key/\ai γ v e.val/\e.born=n/\bO γ es cs
theorem bO.mono {γ γ':bM} (h:bM.le γ γ'):∀ {es:List (AV×AV×Nat)} {cs:List MapEntry},bO γ es cs->bO γ' es cs
 | [],_,e=>by simpa [bO] using e
 | (k,v,n)::es,_,e=>by
  simp only [bO] at e ⊢;obtain ⟨d,ds,rfl,b,hv,c,hs⟩:=e;exact ⟨d,ds,rfl,b.mono h,hv.mono h,c,bO.mono h hs⟩
def kO (γ:bM) (w:World) (i:CI):AO->Prop
 | .cells cs g ro=>∃ c e fz,w.heap[i.b]? = some (.cells c e fz)/\(∀ (k:Nat) v,cs[k]? = some v->v.one=true/\∃ cv,c[i.d+k]? = some cv/\ai γ v cv) /\
   (ro=false->∀ o,o<c.size->¬ (fz.1<=o/\o<fz.2))/\(g≠0->c.size=i.d+cs.length+i.x*g/\∀ k,i.d+cs.length<=k->k<c.size->∃ v cv,v.one=true/\c[k]? = some cv/\ai γ v cv) /\
   (ro=false->(g≠1->fz=(0,0))/\fz.1<=fz.2)
 | .map es clock _=>∃ l,w.heap[i.b]? = some (.map l clock)/\bO γ es l.toList
 | .fH none since seen stepped _=>i.d=0/\w.heap[i.b]? = some (.mapIter none since seen.toArray stepped)
 | .fH (some m) since seen stepped _=>i.d=0/\∃ j,γ m=some j/\w.heap[i.b]? = some (.mapIter (some j.b) since seen.toArray stepped)
 | .pM s pos _=>i.d=0/\w.heap[i.b]? = some (.stringIter ⟨s.toArray⟩ pos)
 | .dead=>False
theorem kO.mono {γ γ':bM} {w:World} {i:CI} {o:AO} (h:bM.le γ γ') (l:kO γ w i o):kO γ' w i o:=by
 cases o with
 | cells cs g ro =>
  obtain ⟨c,e,fz,n,h2,h3,h4,z⟩:=l;exact ⟨c,e,fz,n,fun k v p=>let ⟨a,cv,b,d⟩:=h2 k v p;⟨a,cv,b,d.mono h⟩,h3,fun y=>⟨(h4 y).1,fun k p r=>let ⟨v,cv,a,b,d⟩:=(h4 y).2 k p r;⟨v,cv,a,b,d.mono h⟩⟩,z⟩
 | map es clock ro=>obtain ⟨x,n,h2⟩:=l;exact ⟨x,n,h2.mono h⟩
 | fH m since seen stepped ro=>cases m with
  | none=>exact l
  | some m=>obtain ⟨A,j,n,h2⟩:=l;exact ⟨A,j,h _ _ n,h2⟩
 | pM s pos ro=>exact l
 | dead=>exact l
theorem kO.congr {γ:bM} {w w':World} {i:CI} {o:AO} (d:w'.heap[i.b]? = w.heap[i.b]?) (c:kO γ w i o):kO γ w' i o:=by
 cases o with
 | cells cs g ro=>simpa [kO,d] using c
 | map es clock ro=>simpa [kO,d] using c
 | fH m since seen stepped ro=>cases m <;> simpa [kO,d] using c
 | pM s pos ro=>simpa [kO,d] using c
 | dead=>exact c
theorem kO.lt {γ:bM} {w:World} {i:CI} {o:AO} (d:kO γ w i o):i.b<w.heap.size:=by
 have key:∃ x,w.heap[i.b]? = some x:=by
  cases o with
  | cells cs g ro=>obtain ⟨c,e,fz,h,_⟩:=d;exact ⟨_,h⟩
  | map es clock ro=>obtain ⟨c,h,_⟩:=d;exact ⟨_,h⟩
  | fH m since seen stepped ro=>cases m with
   | none=>exact ⟨_,d.2⟩
   | some m=>obtain ⟨_,j,_,h⟩:=d;exact ⟨_,h⟩
  | pM s pos ro=>exact ⟨_,d.2⟩
  | dead=>exact d.elim
 obtain ⟨x,k⟩:=key;rcases Nat.lt_or_ge i.b w.heap.size with h | h
 ·exact h
 ·simp [Array.getElem?_eq_none h] at k
inductive Tr (α:Type) where
 | E
 | N (l:Tr α) (v:Option α) (r:Tr α)
 deriving Inhabited
def Tr.get {α:Type}:Tr α->Nat->Option α
 | .E,_=>none
 | .N l v r,n=>bif Nat.beq n 0 then v else bif Nat.beq (n % 2) 1 then l.get (n / 2) else r.get (n / 2 - 1)
def Tr.left {α:Type}:Tr α->Tr α
 | .E=>.E
 | .N l _ _=>l
def Tr.right {α:Type}:Tr α->Tr α
 | .E=>.E
 | .N _ _ r=>r
def Tr.val {α:Type}:Tr α->Option α
 | .E=>none
 | .N _ v _=>v
def Tr.QB {α:Type}:Nat->Tr α->Nat->α->Tr α
 | 0,t,_,_=>t
 | k+1,t,n,v=>bif Nat.beq n 0 then .N t.left (some v) t.right else bif Nat.beq (n % 2) 1 then .N (QB k t.left (n / 2) v) t.val t.right else .N t.left t.val (QB k t.right (n / 2 - 1) v)
def Tr.set {α:Type} (t:Tr α) (n:Nat) (v:α):Tr α:=t.QB (Nat.log2 (n+1)+1) n v
theorem HQ {a b:Nat} (h:¬ a=b):Nat.beq a b=false:=by
 cases c:Nat.beq a b with
 | false=>rfl
 | true=>exact absurd (Nat.eq_of_beq_eq_true c) h
theorem Tr.j_ {α:Type} (t:Tr α) (n:Nat):t.get n=if n=0 then t.val else if n % 2=1 then t.left.get (n / 2) else t.right.get (n / 2 - 1):=by
 cases t with
 | E=>simp [Tr.get,Tr.val,Tr.left,Tr.right]
 | N l v r =>
  simp only [Tr.get,Tr.val,Tr.left,Tr.right];by_cases c:n=0
  ·subst c;rfl
  ·rw [if_neg c];have:Nat.beq n 0=false:=HQ c;rw [this];by_cases b:n % 2=1
   ·rw [if_pos b,b];rfl
   ·rw [if_neg b];have:Nat.beq (n % 2) 1=false:=HQ b;rw [this];rfl
theorem Tr.Ec {α:Type}:∀ (k:Nat) (t:Tr α) (n:Nat) (v:α) (x:Nat),n+1<2 ^ k->(t.QB k n v).get x=if x=n then some v else t.get x
 | 0,t,n,v,x,h=>by simp at h
 | k+1,t,n,v,x,h=>by
  have l:2 ^ (k+1)=2*2 ^ k:=by rw [Nat.pow_succ];omega
  simp only [Tr.QB];by_cases i:n=0
  ·subst i;have e:Nat.beq 0 0=true:=rfl;rw [e,Tr.j_];simp only [cond_true,Tr.val,Tr.left,Tr.right];by_cases c:x=0
   ·rw [if_pos c,if_pos c]
   ·rw [if_neg c,if_neg c,Tr.j_ t x,if_neg c];cases t <;> rfl
  ·have e:Nat.beq n 0=false:=HQ i;rw [e];simp only [cond_false];by_cases j:n % 2=1
   ·rw [j];have e1:Nat.beq 1 1=true:=rfl;rw [e1,Tr.j_];simp only [cond_true,Tr.val,Tr.left,Tr.right];by_cases c:x=0
    ·rw [if_pos c,if_neg (by omega),Tr.j_ t x,if_pos c];cases t <;> rfl
    ·rw [if_neg c];by_cases b:x % 2=1
     ·rw [if_pos b,Tr.Ec k _ _ _ _ (by omega)];by_cases d:x=n
      ·subst d;simp
      ·rw [if_neg d,if_neg (by omega),Tr.j_ t x,if_neg c,if_pos b];cases t <;> rfl
     ·rw [if_neg b,if_neg (by omega),Tr.j_ t x,if_neg c,if_neg b];cases t <;> rfl
   ·have e1:Nat.beq (n % 2) 1=false:=HQ j;rw [e1];simp only [cond_false];rw [Tr.j_];simp only [Tr.val,Tr.left,Tr.right];by_cases c:x=0
    ·rw [if_pos c,if_neg (by omega),Tr.j_ t x,if_pos c];cases t <;> rfl
    ·rw [if_neg c];by_cases b:x % 2=1
     ·rw [if_pos b,if_neg (by omega),Tr.j_ t x,if_neg c,if_pos b];cases t <;> rfl
     ·rw [if_neg b,Tr.Ec k _ _ _ _ (by omega)];by_cases d:x=n
      ·subst d;simp
      ·rw [if_neg d,if_neg (by omega),Tr.j_ t x,if_neg c,if_neg b];cases t <;> rfl
theorem Tr.rA {α:Type} (t:Tr α) (n:Nat) (v:α) (x:Nat):(t.set n v).get x=if x=n then some v else t.get x :=
 Tr.Ec _ t n v x Nat.lt_log2_self
structure AS where
 lay:List (Tr AO)
 cur:Tr AO
 nl:Nat
 st:Nat
def Mn:List (Tr AO)->Nat->Option AO
 | [],_=>none
 | t::ts,l=>match t.get l with
  | some .dead=>none
  | some o=>some o.VM
  | none=>Mn ts l
def AS.h (s:AS) (l:Nat):Option AO :=
 match s.cur.get l with
 | some .dead=>none
 | some o=>some o
 | none=>Mn s.lay l
def AS.put (s:AS) (l:Nat) (o:AO):AS:={ s with cur:=s.cur.set l o }
def AS.kill (s:AS) (l:Nat):AS:={ s with cur:=s.cur.set l .dead }
def AS.new (s:AS) (o:AO):AS:={ s with cur:=s.cur.set s.nl o,nl:=s.nl+s.st }
def AO.live:AO->Bool
 | .dead=>false
 | _=>true
theorem AO.yy {o:AO} (h:o.ro=false):o.live=true:=by cases o <;> first | rfl | cases h
theorem AS.oq (s:AS) (l:Nat) {o:AO} (c:o.live=true) (x:Nat):(s.put l o).h x=if x=l then some o else s.h x:=by
 simp only [AS.h,AS.put,Tr.rA];by_cases b:x=l
 ·rw [if_pos b,if_pos b];cases o <;> first | rfl | cases c
 ·rw [if_neg b,if_neg b]
theorem AS.rX (s:AS) (l x:Nat):(s.kill l).h x=if x=l then none else s.h x:=by
 simp only [AS.h,AS.kill,Tr.rA];by_cases b:x=l
 ·rw [if_pos b,if_pos b]
 ·rw [if_neg b,if_neg b]
theorem AS.ot (s:AS) {o:AO} (c:o.live=true) (x:Nat):(s.new o).h x=if x=s.nl then some o else s.h x:=by
 simp only [AS.h,AS.new,Tr.rA];by_cases b:x=s.nl
 ·rw [if_pos b,if_pos b];cases o <;> first | rfl | cases c
 ·rw [if_neg b,if_neg b]
theorem AS.tY (s:AS) (o:AO):(s.new o).nl=s.nl+s.st:=rfl
theorem AS.Bp (s:AS) (l:Nat) (o:AO):(s.put l o).nl=s.nl:=rfl
theorem AS.nY (s:AS) (l:Nat):(s.kill l).nl=s.nl:=rfl
theorem AS.Mo (s:AS) (o:AO):(s.new o).st=s.st:=rfl
theorem AS.Uy (s:AS) (l:Nat) (o:AO):(s.put l o).st=s.st:=rfl
theorem AS.DU (s:AS) (l:Nat):(s.kill l).st=s.st:=rfl
structure Rel (B:Nat) (γ:bM) (s:AS) (w:World):Prop where
 obj:∀ l o,s.h l=some o->∃ i,γ l=some i/\kO γ w i o/\(o.ro=false->B<=i.b)
 inj:∀ l l' o o' i i',s.h l=some o->s.h l'=some o'->o.ro=false->γ l=some i->γ l'=some i'->i.b=i'.b->l=l'
 fin:∀ j,γ (s.nl+j*s.st)=none
 QC:1<=s.st
 base:B<=w.heap.size
theorem Rel.JQ {B:Nat} {γ:bM} {s:AS} {w:World} (h:Rel B γ s w):γ s.nl=none:=by simpa using h.fin 0
def Env (w w':World):Prop:=w'.os=w.os/\w'.tape=w.tape/\w'.output=w.output
theorem Env.trans {a b c:World} (h:Env a b) (d:Env b c):Env a c:=⟨d.1.trans h.1,d.2.1.trans h.2.1,d.2.2.trans h.2.2⟩
structure fM (B:Nat) (γ:bM) (s:AS) (w:World) (γ':bM) (s':AS) (w':World):Prop where
 le:bM.le γ γ'
 Uj:∀ b,b<w.heap.size->(∀ l o i,s.h l=some o->o.ro=false->γ l=some i->i.b≠b)->w'.heap[b]? = w.heap[b]?
 eU:w.heap.size<=w'.heap.size
 new:∀ l o i,s'.h l=some o->o.ro=false->γ' l=some i->w.heap.size<=i.b\/∃ l0 o0 i0,s.h l0=some o0/\o0.ro=false/\γ l0=some i0/\i0.b=i.b
 nl:∃ k,s'.nl=s.nl+k*s.st
 st:s'.st=s.st
 lay:s'.lay=s.lay
 dom:∀ l,γ l=none->γ' l≠none->∃ j,l=s.nl+j*s.st
 Wt:∀ l o,s'.cur.get l=some o->o.live=true->o.ro=true->s.cur.get l=some o
 env:Env w w'
theorem fM.refl {B:Nat} {γ:bM} {s:AS} {w:World}:fM B γ s w γ s w :=
 ⟨bM.le_refl γ,fun _ _ _=>rfl,Nat.le_refl _,fun l o i b h2 h3=>.inr ⟨l,o,i,b,h2,h3,rfl⟩,⟨0,by simp⟩,rfl,rfl,fun _ h c=>absurd h c,fun _ _ h _ _=>h,rfl,rfl,rfl⟩
theorem fM.trans {B:Nat} {γ γ' d:bM} {s s' s'':AS} {w w' w'':World} (a:fM B γ s w γ' s' w') (b:fM B γ' s' w' d s'' w''):fM B γ s w d s'' w'':=by
 refine ⟨bM.le_trans a.le b.le,fun k x y=>?_,Nat.le_trans a.eU b.eU,fun l o i c h2 h3=>?_,?_,b.st.trans a.st,b.lay.trans a.lay,fun l h z=>?_,fun l o h c h2=>a.Wt l o (b.Wt l o h c h2) c h2,a.env.trans b.env⟩
 ·rw [b.Uj k (Nat.lt_of_lt_of_le x a.eU) ?_,a.Uj k x y];intro l o i c h2 h3 e;rcases a.new l o i c h2 h3 with h | ⟨l0,o0,i0,m,n,p,A⟩
  ·omega
  ·exact y l0 o0 i0 m n p (by omega)
 ·rcases b.new l o i c h2 h3 with h | ⟨l0,o0,i0,m,n,p,A⟩
  ·exact .inl (Nat.le_trans a.eU h)
  ·rcases a.new l0 o0 i0 m n p with h | ⟨l1,C,i1,f1,f2,f3,f4⟩
   ·exact .inl (by omega)
   ·exact .inr ⟨l1,C,i1,f1,f2,f3,by omega⟩
 ·obtain ⟨r,e1⟩:=a.nl;obtain ⟨D,e2⟩:=b.nl;exact ⟨r+D,by rw [e2,e1,a.st,Nat.add_mul,Nat.add_assoc]⟩
 ·cases c:γ' l with
  | some i=>exact a.dom l h (by rw [c];simp)
  | none =>
   obtain ⟨r,e1⟩:=a.nl;obtain ⟨j,hj⟩:=b.dom l c z;exact ⟨r+j,by rw [hj,e1,a.st,Nat.add_mul,Nat.add_assoc]⟩
end Go.Am
end

section
namespace Go.Am
theorem Rel.of_heap {B:Nat} {γ:bM} {s:AS} {w w':World} (h:Rel B γ s w) (d:w'.heap=w.heap):Rel B γ s w' :=
 ⟨fun l o e=>let ⟨i,a,b,c⟩:=h.obj l o e;⟨i,a,b.congr (by rw [d]),c⟩,h.inj,h.fin,h.QC,by rw [d];exact h.base⟩
theorem fM.of_heap {B:Nat} {γ:bM} {s:AS} {w w':World} (b:w'.heap=w.heap) (c:Env w w':=by exact ⟨rfl,rfl,rfl⟩):fM B γ s w γ s w' :=
 ⟨bM.le_refl γ,fun _ _ _=>by rw [b],by rw [b];exact Nat.le_refl _,fun l o i d h2 h3=>.inr ⟨l,o,i,d,h2,h3,rfl⟩,⟨0,by simp⟩,rfl,rfl,fun _ h e=>absurd h e,fun _ _ h _ _=>h,c⟩
theorem S7 {s:AS} {l:Nat} {o':AO} (b:o'.ro=false):∀ x o,(s.put l o').cur.get x=some o->o.live=true->o.ro=true->s.cur.get x=some o:=by
 intro x o h c h2;simp only [AS.put,Tr.rA] at h;split at h
 ·obtain rfl:=Option.some.inj h;rw [b] at h2;cases h2
 ·exact h
theorem Ob {s:AS} {o':AO} (b:o'.ro=false):∀ x o,(s.new o').cur.get x=some o->o.live=true->o.ro=true->s.cur.get x=some o:=by
 intro x o h c h2;simp only [AS.new,Tr.rA] at h;split at h
 ·obtain rfl:=Option.some.inj h;rw [b] at h2;cases h2
 ·exact h
theorem JR {s:AS} {l:Nat}:∀ x o,(s.kill l).cur.get x=some o->o.live=true->o.ro=true->s.cur.get x=some o:=by
 intro x o h b h2;simp only [AS.kill,Tr.rA] at h;split at h
 ·obtain rfl:=Option.some.inj h;cases b
 ·exact h
theorem Rel.write {B:Nat} {γ:bM} {s:AS} {w w':World} {l:Nat} {o o':AO} {i:CI} {obj:Obj} (h:Rel B γ s w) (m:s.h l=some o) (d:o.ro=false) (k:o'.ro=false)
  (hi:γ l=some i) (F:w'.heap=w.heap.setIfInBounds i.b obj) (H:kO γ w' i o') (I:Env w w':=by exact ⟨rfl,rfl,rfl⟩):Rel B γ (s.put l o') w'/\fM B γ s w γ (s.put l o') w':=by
 have n:w'.heap.size=w.heap.size:=by rw [F];simp
 have r:∀ b,b≠i.b->w'.heap[b]? = w.heap[b]? := by
  intro b hb;rw [F,Array.getElem?_setIfInBounds_ne (Ne.symm hb)]
 have c:=AO.yy k;constructor
 ·refine ⟨fun l' p y=>?_,fun l1 G p1 J i1 i2 z h2 K L M e=>?_,h.fin,h.QC,by rw [n];exact h.base⟩
  ·rw [AS.oq _ _ c] at y;split at y
   ·rename_i e;subst e;obtain rfl:=Option.some.inj y;obtain ⟨j,hj,_,A⟩:=h.obj l' o m;rw [hi] at hj;obtain rfl:=Option.some.inj hj;exact ⟨i,hi,H,fun _=>A d⟩
   ·rename_i e;obtain ⟨j,hj,O,A⟩:=h.obj l' p y;refine ⟨j,hj,O.congr (r _ ?_),A⟩;intro e2;exact e (h.inj l l' o p i j m y d hi hj e2.symm).symm
  ·have key:∀ x p,(s.put l o').h x=some p->∃ q,s.h x=some q/\(p.ro=false->q.ro=false):=by
    intro x p C;rw [AS.oq _ _ c] at C;split at C
    ·rename_i e;subst e;exact ⟨o,m,fun _=>d⟩
    ·exact ⟨p,C,fun h=>h⟩
   obtain ⟨Q,R,D⟩:=key l1 p1 z;obtain ⟨S,U,_⟩:=key G J h2;exact h.inj l1 G Q S i1 i2 R U (D K) L M e
 ·refine ⟨bM.le_refl γ,fun b hb W=>r b fun e=>W l o i m d hi e.symm,by rw [n];exact Nat.le_refl _,fun l' p j z h2 h3=>.inr ?_,⟨0,by simp [AS.Bp]⟩,rfl,rfl,fun _ h X=>absurd h X,S7 k,I⟩;rw [AS.oq _ _ c] at z;split at z
  ·rename_i e;subst e;exact ⟨l',o,j,m,d,h3,rfl⟩
  ·exact ⟨l',p,j,z,h2,h3,rfl⟩
theorem Rel.same {B:Nat} {γ:bM} {s:AS} {w w':World} {l:Nat} {o:AO} {i:CI} {obj:Obj} (h:Rel B γ s w) (m:s.h l=some o) (c:o.ro=false)
  (hi:γ l=some i) (x:w'.heap=w.heap.setIfInBounds i.b obj) (y:kO γ w' i o) (z:Env w w':=by exact ⟨rfl,rfl,rfl⟩):Rel B γ s w'/\fM B γ s w γ s w':=by
 have d:w'.heap.size=w.heap.size:=by rw [x];simp
 have k:∀ b,b≠i.b->w'.heap[b]? = w.heap[b]? := by
  intro b hb;rw [x,Array.getElem?_setIfInBounds_ne (Ne.symm hb)]
 constructor
 ·refine ⟨fun l' p n=>?_,h.inj,h.fin,h.QC,by rw [d];exact h.base⟩;by_cases e:l'=l
  ·subst e;rw [m] at n;obtain rfl:=Option.some.inj n;obtain ⟨j,hj,_,r⟩:=h.obj _ _ m;rw [hi] at hj;obtain rfl:=Option.some.inj hj;exact ⟨i,hi,y,r⟩
  ·obtain ⟨j,hj,A,r⟩:=h.obj l' p n;refine ⟨j,hj,A.congr (k _ ?_),r⟩;intro e2;exact e (h.inj l l' o p i j m n c hi hj e2.symm).symm
 ·exact ⟨bM.le_refl γ,fun b hb C=>k b fun e=>C l o i m c hi e.symm,by rw [d];exact Nat.le_refl _,fun l' p j D h2 h3=>.inr ⟨l',p,j,D,h2,h3,rfl⟩,⟨0,by simp⟩,rfl,rfl,fun _ h F=>absurd h F,fun _ _ h _ _=>h,z⟩
def gX (γ:bM) (l:Nat) (i:CI):bM:=fun x=>if x=l then some i else γ x
theorem cg (γ:bM) (l:Nat) (i:CI):gX γ l i l=some i:=by simp [gX]
theorem bM.tZ {γ:bM} {l:Nat} {i:CI} (h:γ l=none):bM.le γ (gX γ l i):=by
 intro x j b;simp only [gX];split
 ·rename_i e;subst e;rw [h] at b;exact absurd b (by simp)
 ·exact b
theorem Oc {γ:bM} {s:AS} {i:CI} (l:Nat) (h:γ l=none) (b:gX γ s.nl i l≠none):∃ j,l=s.nl+j*s.st:=by
 simp only [gX] at b;split at b
 ·rename_i e;exact ⟨0,by simp [e]⟩
 ·exact absurd h b
theorem Rel.alloc {B:Nat} {γ:bM} {s:AS} {w w':World} {o:AO} {i:CI} {obj:Obj} (h:Rel B γ s w) (x:o.ro=false)
  (F:i.b=w.heap.size) (C:w'.heap=w.heap.push obj) (G:kO (gX γ s.nl i) w' i o) (H:Env w w':=by exact ⟨rfl,rfl,rfl⟩) :
  Rel B (gX γ s.nl i) (s.new o) w'/\fM B γ s w (gX γ s.nl i) (s.new o) w':=by
 have d:γ s.nl=none:=h.JQ;have hle:bM.le γ (gX γ s.nl i):=bM.tZ d;have hold:∀ b,b<w.heap.size->w'.heap[b]? = w.heap[b]? := by
  intro b hb;rw [C,Array.getElem?_push_lt hb,Array.getElem?_eq_getElem hb]
 have I:w'.heap.size=w.heap.size+1:=by rw [C];simp
 have L:=h.base;have y:=h.QC;have c:=AO.yy x;have J:∀ p,s.h s.nl=some p->False:=by
  intro p n;obtain ⟨j,hj,_⟩:=h.obj _ p n;rw [d] at hj;cases hj
 constructor
 ·refine ⟨fun l' p n=>?_,fun l1 z p1 D i1 i2 k h2 K l m e=>?_,fun j=>?_,y,by omega⟩
  ·rw [AS.ot _ c] at n;split at n
   ·rename_i e;subst e;obtain rfl:=Option.some.inj n;exact ⟨i,cg _ _ _,G,fun _=>by omega⟩
   ·obtain ⟨j,hj,r,A⟩:=h.obj l' p n;exact ⟨j,hle _ _ hj,(r.mono hle).congr (hold _ r.lt),A⟩
  ·rw [AS.ot _ c] at k h2;simp only [gX] at l m;by_cases e1:l1=s.nl <;> by_cases e2:z=s.nl
   ·rw [e1,e2]
   ·rw [if_pos e1] at l;rw [if_neg e2] at h2 m;obtain rfl:=Option.some.inj l;obtain ⟨j,hj,r,_⟩:=h.obj z D h2;rw [hj] at m;obtain rfl:=Option.some.inj m;have:=r.lt;omega
   ·rw [if_pos e2] at m;rw [if_neg e1] at k l;obtain rfl:=Option.some.inj m;obtain ⟨j,hj,r,_⟩:=h.obj l1 p1 k;rw [hj] at l;obtain rfl:=Option.some.inj l;have:=r.lt;omega
   ·rw [if_neg e1] at k l;rw [if_neg e2] at h2 m;exact h.inj l1 z p1 D i1 i2 k h2 K l m e
  ·rw [AS.tY,AS.Mo];simp only [gX];have e1:s.nl+s.st+j*s.st=s.nl+(j+1)*s.st:=by rw [Nat.add_mul,Nat.one_mul];omega
   rw [if_neg (by omega),e1];exact h.fin (j+1)
 ·refine ⟨hle,fun b hb _=>hold b hb,by omega,fun l' p j k h2 h3=>?_,⟨1,by simp [AS.tY]⟩,rfl,rfl,Oc,Ob x,H⟩;rw [AS.ot _ c] at k;simp only [gX] at h3;by_cases e:l'=s.nl
  ·rw [if_pos e] at h3;obtain rfl:=Option.some.inj h3;exact .inl (by omega)
  ·rw [if_neg e] at k h3;exact .inr ⟨l',p,j,k,h2,h3,rfl⟩
theorem Rel.kill {B:Nat} {γ:bM} {s:AS} {w:World} (h:Rel B γ s w) (l:Nat):Rel B γ (s.kill l) w/\fM B γ s w γ (s.kill l) w:=by
 have key:∀ x p,(s.kill l).h x=some p->s.h x=some p:=by
  intro x p b;rw [AS.rX] at b;split at b
  ·exact absurd b (by simp)
  ·exact b
 exact ⟨⟨fun l' p d=>h.obj l' p (key _ _ d),fun l1 i p1 k i1 i2 c h2 m n o e=>h.inj l1 i p1 k i1 i2 (key _ _ c) (key _ _ h2) m n o e,h.fin,h.QC,h.base⟩,
  ⟨bM.le_refl γ,fun _ _ _=>rfl,Nat.le_refl _,fun l' p j c h2 h3=>.inr ⟨l',p,j,key _ _ c,h2,h3,rfl⟩,⟨0,by simp [AS.nY]⟩,rfl,rfl,fun _ h r=>absurd h r,JR,rfl,rfl,rfl⟩⟩
theorem Rel.take {B:Nat} {γ:bM} {s:AS} {w w':World} {l:Nat} {o o':AO} {i i':CI} {obj:Obj} (h:Rel B γ s w) (L:s.h l=some o) (m:o.ro=false) (n:o'.ro=false)
  (hi:γ l=some i) (y:i'.b=i.b) (R:w'.heap=w.heap.setIfInBounds i.b obj) (S:kO (gX γ s.nl i') w' i' o') (U:Env w w':=by exact ⟨rfl,rfl,rfl⟩) :
  Rel B (gX γ s.nl i') ((s.kill l).new o') w'/\fM B γ s w (gX γ s.nl i') ((s.kill l).new o') w':=by
 have z:γ s.nl=none:=h.JQ;have hle:bM.le γ (gX γ s.nl i'):=bM.tZ z;have G:w'.heap.size=w.heap.size:=by rw [R];simp
 have H:∀ b,b≠i.b->w'.heap[b]? = w.heap[b]? := by
  intro b hb;rw [R,Array.getElem?_setIfInBounds_ne (Ne.symm hb)]
 obtain ⟨j0,I,W,J⟩:=h.obj l o L;rw [hi] at I;obtain rfl:=Option.some.inj I;have J:=J m;have O:=h.QC;have d:=AO.yy n;have key:∀ x p,x≠s.nl->((s.kill l).new o').h x=some p->x≠l/\s.h x=some p:=by
  intro x p k r;rw [AS.ot _ d,AS.nY,if_neg k,AS.rX] at r;split at r
  ·exact absurd r (by simp)
  ·rename_i e;exact ⟨e,r⟩
 have A:∀ x p j,s.h x=some p->x≠l->γ x=some j->j.b≠i.b:=by
  intro x p j k c hj e;exact c (h.inj l x o p i j L k m hi hj e.symm).symm
 constructor
 ·refine ⟨fun x p r=>?_,fun l1 K p1 M i1 i2 C h2 X D F e=>?_,fun j=>?_,O,by rw [G];exact h.base⟩
  ·by_cases e:x=s.nl
   ·subst e;rw [AS.ot _ d,AS.nY,if_pos rfl] at r;obtain rfl:=Option.some.inj r;exact ⟨i',cg _ _ _,S,fun _=>by omega⟩
   ·obtain ⟨c,k⟩:=key x p e r;obtain ⟨j,hj,Y,Q⟩:=h.obj x p k;exact ⟨j,hle _ _ hj,(Y.mono hle).congr (H _ (A x p j k c hj)),Q⟩
  ·simp only [gX] at D F;by_cases e1:l1=s.nl <;> by_cases e2:K=s.nl
   ·rw [e1,e2]
   ·rw [if_pos e1] at D;rw [if_neg e2] at F;obtain rfl:=Option.some.inj D;obtain ⟨c,k⟩:=key K M e2 h2;exact absurd (e.symm.trans y) (A K M i2 k c F)
   ·rw [if_pos e2] at F;rw [if_neg e1] at D;obtain rfl:=Option.some.inj F;obtain ⟨c,k⟩:=key l1 p1 e1 C;exact absurd (e.trans y) (A l1 p1 i1 k c D)
   ·rw [if_neg e1] at D;rw [if_neg e2] at F;exact h.inj l1 K p1 M i1 i2 (key l1 p1 e1 C).2 (key K M e2 h2).2 X D F e
  ·rw [AS.tY,AS.Mo,AS.nY,AS.DU];simp only [gX];have e1:s.nl+s.st+j*s.st=s.nl+(j+1)*s.st:=by rw [Nat.add_mul,Nat.one_mul];omega
   rw [if_neg (by omega),e1];exact h.fin (j+1)
 ·refine ⟨hle,fun b hb Z=>H b fun e=>Z l o i L m hi e.symm,by rw [G];exact Nat.le_refl _,fun x p j C h2 h3=>.inr ?_,⟨1,by simp [AS.tY,AS.nY,AS.DU]⟩,rfl,rfl,Oc,fun l p h C h2=>JR l p (Ob n l p h C h2) C h2,U⟩;simp only [gX] at h3;by_cases e:x=s.nl
  ·rw [if_pos e] at h3;obtain rfl:=Option.some.inj h3;exact ⟨l,o,i,L,m,hi,y.symm⟩
  ·rw [if_neg e] at h3;exact ⟨x,p,j,(key x p e C).2,h2,h3,rfl⟩
end Go.Am
end

section
namespace Go.Am
structure TT where
 cR:TypeId->Option TypeDesc
 eU:TypeId->Option Nat
 Gb:TypeId->Option Nat
 rY:TypeId->Option AV
 Qt:TypeId->Bool
 S8:TypeId->Bool
structure TT.Ok (P:Program) (T:TT):Prop where
 cR:∀ t d,T.cR t=some d->P.underlying t=some d
 eU:∀ t n,T.eU t=some n->(P.info? t).map (·.size)=some n
 Gb:∀ t n,T.Gb t=some n->(P.info? t).map (·.bytes)=some n
 rY:∀ t v,T.rY t=some v->∃ i c,P.info? t=some i/\i.zero=some c/\∀ γ,ai γ v c
 Qt:∀ t,T.Qt t=true->P.eqGuardType P.depth t=false
 S8:∀ t,T.S8 t=true->P.stoodInHeld t=false
mutual
def Bm:Value->AV
 | .bool b=>.bool b
 | .int k n=>.int k n
 | .string s=>.str s.data.toList
 | .pointer none=>.ptr none
 | .slice none n m=>.slc none n m true
 | .map none=>.map none
 | .func (.func f) ⟨[]⟩ ⟨c⟩=>.func f (Mp c)
 | .nilFunc=>.nilFunc
 | .iface t v=>.iface t (Bm v)
 | .nilIface=>.nilIface
 | .agg ⟨l⟩=>.agg (Mp l)
 | .tuple ⟨l⟩=>.aP (Mp l)
 | _=>.bad
def Mp:List Value->List AV
 | []=>[]
 | v::vs=>Bm v::Mp vs
end
mutual
theorem DV (γ:bM):∀ v,ai γ (Bm v) v
 | .bool b=>by simp [Bm,ai]
 | .int k n=>by simp [Bm,ai]
 | .string s=>by simp [Bm,ai]
 | .pointer none=>by simp [Bm,ai]
 | .pointer (some _)=>by simp [Bm,ai]
 | .slice none n m=>by simp [Bm,ai]
 | .slice (some _) n m=>by simp [Bm,ai]
 | .map none=>by simp [Bm,ai]
 | .map (some _)=>by simp [Bm,ai]
 | .func (.func f) ⟨[]⟩ ⟨c⟩=>by simp only [Bm,ai];exact ⟨⟨c⟩,rfl,zG γ c⟩
 | .func (.func f) ⟨_::_⟩ ⟨c⟩=>by simp [Bm,ai]
 | .func (.method _) _ _=>by simp [Bm,ai]
 | .func (.methodOf _ _) _ _=>by simp [Bm,ai]
 | .func (.via _ _ _ _) _ _=>by simp [Bm,ai]
 | .func (.yield _) _ _=>by simp [Bm,ai]
 | .nilFunc=>by simp [Bm,ai]
 | .iface t v=>by simp only [Bm,ai];exact ⟨v,rfl,DV γ v⟩
 | .nilIface=>by simp [Bm,ai]
 | .agg ⟨l⟩=>by simp only [Bm,ai];exact ⟨⟨l⟩,rfl,zG γ l⟩
 | .tuple ⟨l⟩=>by simp only [Bm,ai];exact ⟨⟨l⟩,rfl,zG γ l⟩
 | .float _ _=>by simp [Bm,ai]
 | .complex _ _ _=>by simp [Bm,ai]
 | .chan _=>by simp [Bm,ai]
theorem zG (γ:bM):∀ l,ak γ (Mp l) l
 | []=>by simp [Mp,ak]
 | v::vs=>by simp only [Mp];exact ak.cons (DV γ v) (zG γ vs)
end
def oU (f:Nat->AV):Operand->AV
 | .tmp t=>f t
 | .const v=>Bm v
 | .func g=>.func g []
 | .global _=>.bad
def bI (v:AV):Option (List AV):=if v.cells.all AV.one then some v.cells else none
def TT.agg (T:TT) (t:TypeId):Option Bool :=
 match T.cR t with
 | some (.struct _) | some (.array _ _)=>some true
 | some _=>some false
 | none=>none
def qk (cs:List AV) (o:Nat):List AV->List AV
 | []=>cs
 | v::vs=>qk (cs.set o v) (o+1) vs
def aD (s:AS) (l o n:Nat):Option (List AV) :=
 match s.h l with
 | some (.cells cs _ _)=>if o+n<=cs.length then some ((cs.drop o).take n) else none
 | _=>none
def av (s:AS) (l o:Nat):Option AV :=
 match s.h l with
 | some (.cells cs _ _)=>cs[o]?
 | _=>none
def Gc (T:TT) (t:TypeId) (s:AS):AV->Option AV
 | .ptr (some (l,o)) =>
  match T.agg t with
  | some true=>(T.eU t).bind fun n=>(aD s l o n).map .agg
  | some false=>av s l o
  | none=>none
 | _=>none
def cK (s:AS) (l o:Nat) (vs:List AV):Option AS :=
 match s.h l with
 | some (.cells cs g false)=>if o+vs.length<=cs.length then some (s.put l (.cells (qk cs o vs) g false)) else none
 | _=>none
def S9 (T:TT) (t:TypeId) (s:AS) (p v:AV):Option AS :=
 match p with
 | .ptr (some (l,o))=>(bI v).bind fun vs=>if T.eU t=some vs.length then cK s l o vs else none
 | _=>none
def part (T:TT) (t:TypeId) (cs:List AV) (off:Nat):Option AV :=
 match T.agg t with
 | some true=>(T.eU t).map fun n=>.agg ((cs.drop off).take n)
 | some false=>cs[off]?
 | none=>none
def jc (place:Nat->Option (Nat×Nat)) (cells:List AV):List (Nat×AV)->Option (List AV)
 | []=>some cells
 | (i,v)::rest =>
  match place i,bI v with
  | some (off,size),some b=>if b.length=size/\off+b.length<=cells.length then jc place (qk cells off b) rest else none
  | _,_=>none
def rep (n:Nat) (z:List AV):List AV:=(List.replicate n z).flatten
def aS (T:TT) (t:TypeId) (parts:List (Nat×AV)):Option AV :=
 (T.rY t).bind fun z=>(bI z).bind fun zc =>
  match T.cR t with
  | some (.struct fields) =>
   if fields.all (fun f=>(T.eU f.type).isSome) then
    (jc (fun i=>(fields[i]?).bind fun f=>(T.eU f.type).map fun n=>(f.offset,n)) zc parts).map .agg
   else none
  | some (.array _ elem)=>(T.eU elem).bind fun n=>(jc (fun i=>some (i*n,n)) zc parts).map .agg
  | _=>none
def S_ (T:TT) (t:TypeId):Nat->Nat
 | 0=>0
 | 1=>0
 | _+2=>match T.cR t with
  | some (.slice e)=>(match T.cR e with | some (.int .u8)=>1 | _=>0)
  | _=>0
def k_ (T:TT) (t:TypeId) (len:Nat) (parts:List (Nat×AV)) (s:AS):Option (AV×AS) :=
 match T.cR t with
 | some (.slice elem) =>
  (T.eU elem).bind fun n=>(T.rY elem).bind fun z=>(bI z).bind fun zc =>
   if zc.length=n/\len*n<=2 ^ 24 then
    (jc (fun i=>some (i*n,n)) (rep len zc) parts).map fun cs=>(.slc (some (s.nl,0)) len len true,s.new (.cells cs (S_ T t len) false))
   else none
 | _=>none
def eqFields (T:TT) (eqv:TypeId->AV->AV->Option Bool) (xs ys:List AV):List Field->Option Bool
 | []=>some true
 | f::fs =>
  if f.name ≠ "_" then
   (part T f.type xs f.offset).bind fun a=>(part T f.type ys f.offset).bind fun b =>
    match eqv f.type a b with
    | some true=>eqFields T eqv xs ys fs
    | r=>r
  else eqFields T eqv xs ys fs
def DW (T:TT) (eqv:TypeId->AV->AV->Option Bool) (elem:TypeId) (n:Nat) (xs ys:List AV):Nat->Nat->Option Bool
 | 0,_=>some true
 | len+1,i =>
  (part T elem xs (i*n)).bind fun a=>(part T elem ys (i*n)).bind fun b =>
   match eqv elem a b with
   | some true=>DW T eqv elem n xs ys len (i+1)
   | r=>r
def iB (T:TT):Nat->TypeId->AV->AV->Option Bool
 | 0,_,_,_=>none
 | d+1,t,x,y =>
  match T.cR t,x,y with
  | some .bool,.bool a,.bool b=>some (a==b)
  | some (.int _),.int k a,.int k' b=>if k=k' then some (a==b) else none
  | some .string,.str a,.str b=>some (a==b)
  | some (.pointer _),.ptr none,.ptr b=>some b.isNone
  | some (.pointer _),.ptr _,.ptr none=>some false
  | some (.slice _),.slc none _ _ _,.slc b _ _ _=>some b.isNone
  | some (.slice _),.slc _ _ _ _,.slc none _ _ _=>some false
  | some (.slice _),.emp,.slc none _ _ _=>some false
  | some (.slice _),.slc none _ _ _,.emp=>some false
  | some (.map _ _),.map none,.map b=>some b.isNone
  | some (.map _ _),.map _,.map none=>some false
  | some (.func _ _ _),.nilFunc,.nilFunc=>some true
  | some (.func _ _ _),.nilFunc,.func _ _=>some false
  | some (.func _ _ _),.nilFunc,.tX _ _ _=>some false
  | some (.func _ _ _),.tX _ _ _,.nilFunc=>some false
  | some (.func _ _ _),.func _ _,.nilFunc=>some false
  | some (.interface _),.nilIface,.nilIface=>some true
  | some (.interface _),.nilIface,.iface _ _=>some false
  | some (.interface _),.iface _ _,.nilIface=>some false
  | some (.struct fields),.agg xs,.agg ys=>if T.S8 t then eqFields T (iB T d) xs ys fields.toList else none
  | some (.array len elem),.agg xs,.agg ys=>(T.eU elem).bind fun n=>DW T (iB T d) elem n xs ys len 0
  | _,_,_=>none
def iW:List UInt8->List UInt8->Bool
 | _,[]=>false
 | [],_::_=>true
 | a::x,b::y=>a<b||(a==b&&iW x y)
def bA (op:BinOp) (k:IntKind) (x y:Int):Option AV :=
 match op with
 | .add=>some (.int k (k.wrap (x+y)))
 | .sub=>some (.int k (k.wrap (x - y)))
 | .mul=>some (.int k (k.wrap (x*y)))
 | .quo=>if y=0 then none else some (.int k (k.wrap (x.tdiv y)))
 | .rem=>if y=0 then none else some (.int k (x.tmod y))
 | .and=>some (.int k (k.wrap (BitVec.ofInt k.bits x &&& BitVec.ofInt k.bits y).toNat))
 | .or=>some (.int k (k.wrap (BitVec.ofInt k.bits x ||| BitVec.ofInt k.bits y).toNat))
 | .xor=>some (.int k (k.wrap (BitVec.ofInt k.bits x ^^^ BitVec.ofInt k.bits y).toNat))
 | .andNot=>some (.int k (k.wrap (BitVec.ofInt k.bits x &&& ~~~ BitVec.ofInt k.bits y).toNat))
 | .eql=>some (.bool (x==y))
 | .neq=>some (.bool (x != y))
 | .lss=>some (.bool (x<y))
 | .leq=>some (.bool (x<=y))
 | .gtr=>some (.bool (x>y))
 | .geq=>some (.bool (x>=y))
 | _=>none
def kP (T:TT) (op:BinOp) (t:TypeId) (x y:AV):Option AV :=
 match op,x,y with
 | .shl,.int k a,.int _ b=>if b<0 then none else some (.int k (k.wrap (a*2 ^ min b.toNat k.bits)))
 | .shr,.int k a,.int _ b=>if b<0 then none else some (.int k (a.fdiv (2 ^ min b.toNat k.bits)))
 | op,.int k a,.int k' b=>if k=k' then bA op k a b else none
 | .add,.str a,.str b=>if ((a.length+b.length:Nat):Int)<=9223372036854775807 then some (.str (a++b)) else none
 | .eql,.str a,.str b=>some (.bool (a==b))
 | .neq,.str a,.str b=>some (.bool !(a==b))
 | .lss,.str a,.str b=>some (.bool (iW a b))
 | .leq,.str a,.str b=>some (.bool (iW a b||a==b))
 | .gtr,.str a,.str b=>some (.bool !(iW a b||a==b))
 | .geq,.str a,.str b=>some (.bool !(iW a b))
 | .eql,x,y=>(iB T 100 t x y).map .bool
 | .neq,x,y=>(iB T 100 t x y).map fun b=>.bool !b
 | _,_,_=>none
def Mq:Operand->Bool
 | .const _=>true
 | _=>false
def Mr (T:TT) (t:TypeId) (x y:Operand):AV->AV->Bool
 | .agg _,.agg _=>T.Qt t
 | .nilIface,.nilIface=>Mq x||Mq y
 | .bad,_=>false
 | _,.bad=>false
 | _,_=>true
def Uk (op:UnOp) (x:AV):Option AV :=
 match op,x with
 | .neg,.int k n=>some (.int k (k.wrap (0 - n)))
 | .xor,.int k n=>bA .xor k (if k.signed then -1 else k.max) n
 | .not,.bool b=>some (.bool !b)
 | _,_=>none
def t_ (T:TT) (t:TypeId) (x:AV) (f:Nat):Option AV :=
 match T.cR t,x with
 | some (.struct fields),.ptr (some (l,o)) =>
  (fields[f]?).bind fun fd=>match T.eU fd.type with
   | some (_+1)=>some (.ptr (some (l,o+fd.offset)))
   | _=>none
 | _,_=>none
def ag (T:TT) (t:TypeId) (x ix:AV):Option AV :=
 match T.cR t,x,ix with
 | some (.array len elem),.ptr (some (l,o)),.int _ i =>
  (T.eU elem).bind fun n=>if 0<=i/\i<len then some (.ptr (some (l,o+i.toNat*n))) else none
 | some (.slice elem),.slc (some (l,o)) len _ _,.int _ i =>
  (T.eU elem).bind fun n=>if 0<=i/\i<len then some (.ptr (some (l,o+i.toNat*n))) else none
 | _,_,_=>none
def jd (T:TT) (t:TypeId) (x ix:AV):Option AV :=
 match T.cR t,x,ix with
 | some (.array len elem),.agg cs,.int _ i =>
  (T.eU elem).bind fun n=>if 0<=i/\i<len then part T elem cs (i.toNat*n) else none
 | some .string,.str s,.int _ i=>if 0<=i then (s[i.toNat]?).map fun b=>.int .u8 b.toNat else none
 | _,_,_=>none
def Ed (T:TT) (t:TypeId) (x:AV) (f:Nat):Option AV :=
 match T.cR t,x with
 | some (.struct fields),.agg cs=>(fields[f]?).bind fun fd=>part T fd.type cs fd.offset
 | _,_=>none
def gC (y:Nat):AV->Option Nat
 | .int _ i=>if 0<=i/\i<=y then some i.toNat else none
 | _=>none
def sM (y:Nat) (v:Option AV) (d:Nat):Option Nat :=
 match v with
 | none=>some d
 | some v=>gC y v
def pN (len m:Nat):Option AV->Option Nat
 | some v=>gC m v
 | none=>if len<=m then some len else none
def cN (len cap:Nat) (low high max:Option AV):Option (Nat×Nat×Nat) :=
 if high.isNone/\max.isSome then none else
 (sM cap max cap).bind fun m=>(pN len m high).bind fun h=>(sM h low 0).map fun l=>(l,h,m)
def aZ (T:TT) (t:TypeId) (x:AV) (low high max:Option AV):Option AV :=
 match T.cR t,x with
 | some .string,.str s =>
  if max.isSome then none else
  (cN s.length s.length low high none).map fun r=>.str ((s.drop r.1).take (r.2.1 - r.1))
 | some (.slice elem),.slc a len cap ex =>
  (T.eU elem).bind fun n=>(cN len cap low high max).bind fun (l,h,m) =>
   match a with
   | none=>some (.slc none (h - l) (m - l) true)
   | some (b,o) =>
    if ex||max.isSome then some (.slc (some (b,if m=l then o else o+l*n)) (h - l) (m - l) true)
    else if m=l then some .emp
    else some (.slc (some (b,o+l*n)) (h - l) (m - l) false)
 | some (.slice elem),.emp=>(T.eU elem).bind fun _=>(cN 0 0 low high max).map fun _=>.emp
 | some (.array k elem),.ptr (some (b,o)) =>
  (T.eU elem).bind fun n=>(cN k k low high max).map fun (l,h,m)=>.slc (some (b,if m=l then o else o+l*n)) (h - l) (m - l) true
 | _,_=>none
def ua (T:TT) (t:TypeId) (len cap:AV) (s:AS):Option (AV×AS) :=
 match T.cR t,len,cap with
 | some (.slice elem),.int _ l,.int _ c =>
  (T.eU elem).bind fun n=>(T.Gb elem).bind fun ql=>(T.rY elem).bind fun z=>(bI z).bind fun zc =>
   if 0<=l/\l<=c/\(ql:Int)*c<=2 ^ 48/\c<2 ^ 63/\zc.length=n then
    some (.slc (some (s.nl,0)) l.toNat c.toNat true,s.new (.cells (rep c.toNat zc) 0 false))
   else none
 | _,_,_=>none
def mX (size n:Nat) (s:AS):AV->Option (List AV)
 | .slc (some (l,o)) _ _ _=>if n=0 then some [] else aD s l o (n*size)
 | .slc none _ _ _=>some []
 | .emp=>if n=0 then some [] else none
 | .str b=>some ((b.take n).map fun c=>.int .u8 c.toNat)
 | _=>none
def CT:AV->Option Nat
 | .slc _ n _ _=>some n
 | .emp=>some 0
 | .str s=>some s.length
 | _=>none
def sN (T:TT) (elem:TypeId) (dst x:AV) (s:AS):Option (AV×AS) :=
 (T.eU elem).bind fun size=>(T.Gb elem).bind fun ql=>(T.rY elem).bind fun z=>(bI z).bind fun zc =>
 match dst,x with
 | .slc base len cap true,.int .i64 k =>
  if zc.length≠size\/k<0\/2 ^ 40<len+k.toNat\/2*((len+k.toNat+256)*ql)>2 ^ 48\/len+k.toNat<=cap then none else
  (mX size len s (.slc base len cap true)).map fun old=>(.slc (some (s.nl,0)) (len+k.toNat) (len+k.toNat) false,s.new (.cells (old++rep k.toNat zc) size false))
 | .slc (some (l,o)) len cap false,.int .i64 k =>
  if zc.length≠size\/k<0\/2 ^ 40<len+k.toNat\/2*((len+k.toNat+256)*ql)>2 ^ 48\/len≠cap then none else
  if k.toNat=0 then some (dst,s) else
  (mX size len s dst).bind fun old=>match s.h l with
   | some (.cells cs g false)=>if g=size/\size≠0/\o+cap*size=cs.length then
     some (.slc (some (s.nl,0)) (len+k.toNat) (len+k.toNat) false,(s.kill l).new (.cells (old++rep k.toNat zc) size false)) else none
   | _=>none
 | _,_=>none
def aI (T:TT) (t xt:TypeId) (dst x:AV) (s:AS):Option (AV×AS) :=
 match T.cR t,T.cR xt with
 | some (.slice elem),some b =>
  if (match b with | .int _=>true | _=>false) then sN T elem dst x s else
  (T.eU elem).bind fun size=>(T.Gb elem).bind fun ql=>(T.rY elem).bind fun z=>(bI z).bind fun zc =>
  (CT x).bind fun n=>(mX size n s x).bind fun new =>
  match dst with
  | .slc base len cap ex =>
   if zc.length≠size\/new.length≠n*size\/2 ^ 40<len+n\/2*((len+n+256)*ql)>2 ^ 48 then none else
   if len+n<=cap then
    (match base with
     | none=>some (.slc none (len+n) cap ex,s)
     | some (l,o) =>
      if new=[] then some (.slc base (len+n) cap ex,s)
      else (cK s l (o+len*size) new).map fun s'=>(.slc base (len+n) cap ex,s'))
   else
    (mX size len s (.slc base len cap ex)).bind fun old =>
     if ex then some (.slc (some (s.nl,0)) (len+n) (len+n) false,s.new (.cells (old++new) size false))
     else match base with
      | none=>none
      | some (l,o) =>
       match s.h l with
       | some (.cells cs g false) =>
        if g=size/\size≠0/\o+cap*size=cs.length then
         some (.slc (some (s.nl,0)) (len+n) (len+n) false,(s.kill l).new (.cells (old++new) size false))
        else none
       | _=>none
  | _=>none
 | _,_=>none
def qt (T:TT) (t:TypeId) (dst x:AV) (s:AS):Option (AV×AS) :=
 match T.cR t with
 | some (.slice elem) =>
  (T.eU elem).bind fun size=>(CT x).bind fun m=>(CT dst).bind fun d =>
   (mX size (min m d) s x).bind fun new =>
    match dst with
    | .slc (some (l,o)) _ _ _=>if new=[] then some (.int .i64 ((min m d:Nat):Int),s) else (cK s l o new).map fun s'=>(.int .i64 ((min m d:Nat):Int),s')
    | .slc none _ _ _=>some (.int .i64 ((min m d:Nat):Int),s)
    | .emp=>if new=[] then some (.int .i64 ((min m d:Nat):Int),s) else none
    | _=>none
 | _=>none
def vO (T:TT) (kt:TypeId) (k:AV):List (AV×AV×Nat)->Nat->Option (Option (Nat×AV))
 | [],_=>some none
 | (k',v,_)::es,i =>
  match iB T 100 kt k k' with
  | some true=>some (some (i,v))
  | some false=>vO T kt k es (i+1)
  | none=>none
def Bq (T:TT) (ok:TypeId->AV->Bool) (cs:List AV):List Field->Bool
 | []=>true
 | f :: fs => (if f.name ≠ "_" then (match part T f.type cs f.offset with | some v => ok f.type v | none => false) else true) && Bq T ok cs fs
def Ee (T:TT) (ok:TypeId->AV->Bool) (elem:TypeId) (n:Nat) (cs:List AV):Nat->Nat->Bool
 | 0,_=>true
 | len+1,i=>(match part T elem cs (i*n) with | some v=>ok elem v | none=>false)&&Ee T ok elem n cs len (i+1)
def mY (T:TT):Nat->TypeId->AV->Bool
 | 0,_,_=>false
 | d+1,t,v =>
  match T.cR t,v with
  | some (.array len elem),.agg cs=>match T.eU elem with | some n=>Ee T (mY T d) elem n cs len 0 | none=>false
  | some (.struct fields),.agg cs=>Bq T (mY T d) cs fields.toList
  | some (.interface _),_=>false
  | some (.array _ _),_=>false
  | some (.struct _),_=>false
  | some _,_=>true
  | none,_=>false
def CA (same:AV->AV->Bool):List AV->List AV->Bool
 | [],[]=>true
 | x::xs,y::ys=>same x y&&CA same xs ys
 | _,_=>false
def yj:Nat->AV->AV->Bool
 | 0,.bool a,.bool b=>a==b
 | 0,.int j a,.int k b=>j==k&&a==b
 | 0,.str a,.str b=>a==b
 | 0,_,_=>false
 | _+1,.bool a,.bool b=>a==b
 | _+1,.int j a,.int k b=>j==k&&a==b
 | _+1,.str a,.str b=>a==b
 | n+1,.agg a,.agg b=>CA (yj n) a b
 | _+1,_,_=>false
def dh (T:TT) (t:TypeId) (m k:AV) (b:Bool) (s:AS):Option AV :=
 match T.cR t,m with
 | some (.map kt et),.map r =>
  if mY T 100 kt k then
   (match r with
    | none=>some []
    | some l=>match s.h l with
     | some (.map es _ _)=>some es
     | _=>none).bind fun es =>
    (vO T kt k es 0).bind fun r =>
     (match r with
      | some (_,v)=>some (v,true)
      | none=>(T.rY et).map fun z=>(z,false)).map fun (v,ok)=>if b then .aP [v,.bool ok] else v
  else none
 | _,_=>none
def dJ (T:TT) (t:TypeId) (m k v:AV) (s:AS):Option AS :=
 match T.cR t,m with
 | some (.map kt _),.map (some l) =>
  match s.h l with
  | some (.map es clock false) =>
   if mY T 100 kt k then
    (vO T kt k es 0).bind fun r =>
     match r with
     | some (i,_)=>match es[i]? with
      | some (k',_,n)=>if yj 100 k' k then some (s.put l (.map (es.set i (k,v,n)) clock false)) else none
      | none=>none
     | none=>some (s.put l (.map (es++[(k,v,clock)]) (clock+1) false))
   else none
  | _=>none
 | _,_=>none
def pS (T:TT) (t:TypeId) (m k:AV) (s:AS):Option AS :=
 match T.cR t,m with
 | some (.map kt _),.map r =>
  if mY T 100 kt k then
   match r with
   | none=>some s
   | some l=>match s.h l with
    | some (.map es clock false) =>
     (vO T kt k es 0).map fun r=>match r with
      | some (i,_)=>s.put l (.map (es.eraseIdx i) clock false)
      | none=>s.put l (.map es clock false)
    | _=>none
  else none
 | _,_=>none
def aQ (T:TT) (t:TypeId) (x:AV) (s:AS):Option AV :=
 match T.cR t,x with
 | some .string,.str b=>some (.int .i64 b.length)
 | some (.array n _),_=>some (.int .i64 n)
 | some (.slice _),.slc _ n _ _=>some (.int .i64 n)
 | some (.slice _),.emp=>some (.int .i64 0)
 | some (.map _ _),.map none=>some (.int .i64 0)
 | some (.map _ _),.map (some l)=>match s.h l with
  | some (.map es _ _)=>some (.int .i64 es.length)
  | _=>none
 | _,_=>none
def vP (T:TT) (t:TypeId) (x:AV):Option AV :=
 match T.cR t,x with
 | some (.slice _),.slc _ _ c true=>some (.int .i64 c)
 | _,_=>none
def HR (T:TT) (t:TypeId) (x:AV) (s:AS):Option AS :=
 match T.cR t,x with
 | some (.slice _),.slc none _ _ _=>some s
 | some (.slice _),.emp=>some s
 | some (.slice elem),.slc (some (l,o)) n _ _ =>
  if n=0 then some s else
  (T.rY elem).bind fun z=>(bI z).bind fun zc=>cK s l o (rep n zc)
 | _,_=>none
def Od (b:Bool):AV->AV->Option AV
 | .int k x,.int _ y=>some (.int k (if b then (if y>x then y else x) else (if y<x then y else x)))
 | _,_=>none
def JS (b:Bool) (x:AV):List AV->Option AV
 | []=>some x
 | y::ys=>(Od b x y).bind fun z=>JS b z ys
def JT (b:Bool):List AV->Option AV
 | []=>none
 | x::rest=>JS b x rest
def yz:List AV->Option (List UInt8)
 | []=>some []
 | .int .u8 b::cs=>(yz cs).map fun l=>UInt8.ofNat b.toNat::l
 | _::_=>none
def cO (T:TT) (src dst:TypeId) (x:AV) (s:AS):Option (AV×AS) :=
 match T.cR src,T.cR dst,x with
 | some _,some (.int k),.int _ n=>some (.int k (k.wrap n),s)
 | some _,some .string,.str b=>some (.str b,s)
 | some _,some (.slice e),.str b =>
  match T.cR e with
  | some (.int .u8)=>some (.slc (some (s.nl,0)) b.length b.length false,s.new (.cells (b.map fun c=>.int .u8 c.toNat) 1 false))
  | _=>none
 | some (.slice e),some .string,.slc none n _ _ =>
  match T.cR e with
  | some (.int .u8)=>if n=0 then some (.str [],s) else none
  | _=>none
 | some (.slice e),some .string,.emp =>
  match T.cR e with
  | some (.int .u8)=>some (.str [],s)
  | _=>none
 | some (.slice e),some .string,.slc (some (l,o)) n _ _ =>
  match T.cR e with
  | some (.int .u8)=>if n=0 then some (.str [],s) else (aD s l o n).bind fun cs=>(yz cs).map fun bs=>(.str bs,s)
  | _=>none
 | some (.slice _),some (.slice e),.slc (some (l,o)) n m ex =>
  if src=dst then
   match T.cR e,s.h l with
   | some (.int .u8),some (.cells _ 1 false)=>some (.slc (some (l,o)) n m ex,s)
   | _,_=>none
  else none
 | _,_,_=>none
def dX (T:TT) (b:Builtin) (ts:List TypeId) (args:List AV) (s:AS):Option (AV×AS) :=
 match b,ts,args with
 | .len,t::_,x::_=>(aQ T t x s).map (·,s)
 | .cap,t::_,x::_=>(vP T t x).map (·,s)
 | .append,t::xt::_,dst::x::_=>aI T t xt dst x s
 | .copy,t::_::_,dst::x::_=>qt T t dst x s
 | .delete,t::_,m::k::_=>(pS T t m k s).map (.undef,·)
 | .clear,t::_,x::_=>(HR T t x s).map (.undef,·)
 | .max,_,l=>(JT true l).map (·,s)
 | .min,_,l=>(JT false l).map (·,s)
 | _,_,_=>none
def uc (x:AV) (s:AS):Option AV:=match x with
 | .ptr (some (l,0))=>match s.h l with
  | some (.fH (some m) _ seen stepped _)=>match s.h m with
   | some (.map es clock _)=>if clock=stepped then (seen.getLast?).bind fun n=>(es.find? fun e=>e.2.2==n).map fun e=>.aP [e.1,e.2.1] else none
   | _=>none
  | _=>none
 | _=>none
def O5 (T:TT) (t:TypeId):AV->Option AV
 | .slc (some p) len _ _=>match T.cR t with
  | some (.array n _)=>if len<n then none else some (.ptr (some p))
  | _=>none
 | _=>none
def cF (T:TT) (op:Op) (ρ:Operand->AV) (s:AS):Option (AV×AS) :=
 match op with
 | .move x | .assign x=>some (ρ x,s)
 | .pick c a b=>match ρ c with
  | .bool t=>some (if t then ρ a else ρ b,s)
  | _=>none
 | .alloc e=>(T.rY e).bind fun z=>(bI z).map fun cs=>(.ptr (some (s.nl,0)),s.new (.cells cs 0 false))
 | .box _ x=>(bI (ρ x)).map fun cs=>(.ptr (some (s.nl,0)),s.new (.cells cs 0 false))
 | .build t parts=>(aS T t (parts.toList.map fun p=>(p.1,ρ p.2))).map (·,s)
 | .buildSlice t len parts=>k_ T t len (parts.toList.map fun p=>(p.1,ρ p.2)) s
 | .load t a=>(Gc T t s (ρ a)).map (·,s)
 | .store t a x=>(S9 T t s (ρ a) (ρ x)).map (.undef,·)
 | .nilCheck x=>match ρ x with
  | .ptr (some p)=>some (.ptr (some p),s)
  | .func f c=>some (.func f c,s)
  | .tX f ft c=>some (.tX f ft c,s)
  | .iface t v=>some (.iface t v,s)
  | _=>none
 | .binOp op t x y _=>if Mr T t x y (ρ x) (ρ y) then (kP T op t (ρ x) (ρ y)).map (·,s) else none
 | .unOp op _ x=>(Uk op (ρ x)).map (·,s)
 | .convert src dst x=>cO T src dst (ρ x) s
 | .makeInterface t x=>match T.cR t with
  | some (.interface _)=>none
  | some _=>some (.iface t (ρ x),s)
  | none=>none
 | .makeFunc (.func f) first captured=>if first.isEmpty then some (.func f (captured.toList.map ρ),s) else some (.tX f (first.toList.map ρ) (captured.toList.map ρ),s)
 | .makeMap t none=>match T.cR t with
  | some _=>some (.map (some s.nl),s.new (.map [] 0 false))
  | none=>none
 | .makeSlice t l c=>ua T t (ρ l) (ρ c) s
 | .slice t x lo hi d=>(aZ T t (ρ x) (lo.map ρ) (hi.map ρ) (d.map ρ)).map (·,s)
 | .fieldAddr t x f=>(t_ T t (ρ x) f).map (·,s)
 | .field t x f=>(Ed T t (ρ x) f).map (·,s)
 | .indexAddr t x ix=>(ag T t (ρ x) (ρ ix)).map (·,s)
 | .index t x ix=>(jd T t (ρ x) (ρ ix)).map (·,s)
 | .lookup t x ix ok=>(dh T t (ρ x) (ρ ix) ok s).map (·,s)
 | .mapUpdate t m k v | .insert t m k v=>(dJ T t (ρ m) (ρ k) (ρ v) s).map (.undef,·)
 | .extract t i=>match ρ t with
  | .aP vs=>(vs[i]?).map (·,s)
  | _=>none
 | .call c=>match c.callee with
  | .builtin b=>dX T b c.argTypes.toList (c.args.toList.map ρ) s
  | _=>none
 | .range t x=>match T.cR t,ρ x with
  | some .string,.str b=>some (.ptr (some (s.nl,0)),s.new (.pM b 0 false))
  | some (.map _ _),.map none=>some (.ptr (some (s.nl,0)),s.new (.fH none 0 [] 0 false))
  | some (.map _ _),.map (some m)=>match s.h m with
   | some (.map _ clock _)=>some (.ptr (some (s.nl,0)),s.new (.fH (some m) clock [] clock false))
   | _=>none
  | _,_=>none
 | .entry it=>(uc (ρ it) s).map (·,s)
 | .sliceToArrayPointer t x=>(O5 T t (ρ x)).map (·,s)
 | _=>none
def CB (op:Op) (ρ:Operand->AV) (s:AS):Option (List (AV×AS)) :=
 match op with
 | .next it c=>match ρ it with
  | .ptr (some (l,0))=>match s.h l with
   | some (.fH none _ _ _ _)=>if c then none else some [(.aP [.bool false],s)]
   | some (.fH (some m) since seen last false)=>if c then none else match s.h m with
    | some (.map es clock _) =>
     if seen≠[]/\es≠[]/\(es.all fun e=>decide (last<=e.2.2)) then none else
     let left:=es.filter fun e=>!seen.contains e.2.2
     let old:=left.filter fun e=>decide (e.2.2<since)
     let new:=left.filter fun e=>decide (since<=e.2.2)
     some ((if old.isEmpty then [(.aP [.bool false],s)] else []) ++
      (old++new).map fun e=>(.aP [.bool true,e.1,e.2.1],s.put l (.fH (some m) since (seen++[e.2.2]) clock false)))
    | _=>none
   | some (.pM b pos false)=>if c then
     (if pos<b.length then
      let d:=Utf8.decode ⟨b.toArray⟩ pos
      some [(.aP [.bool true,.int .i64 pos,.int .i32 d.1],s.put l (.pM b (pos+d.2) false))]
     else some [(.aP [.bool false],s)])
    else none
   | _=>none
  | _=>none
 | _=>none
end Go.Am
end

section
namespace Go.Am
section
variable {P:Program} {T:TT} (hT:TT.Ok P T)
include hT
theorem run_underlying {t:TypeId} {d:TypeDesc} (h:T.cR t=some d) (w:World):(underlying t).run P w=.ok d w:=by
 simp [underlying,hT.cR t d h]
theorem run_sizeOf {t:TypeId} {n:Nat} (h:T.eU t=some n) (w:World):(sizeOf t).run P w=.ok n w:=by
 have:=hT.eU t n h;cases hi:P.info? t with
 | none=>simp [hi] at this
 | some i=>simp [hi] at this;simp [sizeOf,typeInfo,hi,this]
theorem qm {t:TypeId} {n:Nat} (h:T.Gb t=some n) (w:World):∃ i,(typeInfo t).run P w=.ok i w/\i.bytes=n:=by
 have:=hT.Gb t n h;cases hi:P.info? t with
 | none=>simp [hi] at this
 | some i=>simp [hi] at this;exact ⟨i,by simp [typeInfo,hi],this⟩
theorem iL {t:TypeId} {z:AV} (h:T.rY t=some z) (w:World):∃ c,(zeroValue t).run P w=.ok c w/\∀ γ,ai γ z c:=by
 obtain ⟨i,c,hi,b,d⟩:=hT.rY t z h;exact ⟨c,by simp [zeroValue,typeInfo,hi,b],d⟩
theorem xy {t:TypeId} {b:Bool} (h:T.agg t=some b) (w:World):(isAgg t).run P w=.ok b w:=by
 unfold TT.agg at h;cases hu:T.cR t with
 | none=>simp [hu] at h
 | some d =>
  rw [hu] at h;simp only [isAgg,Sem.run_bind,run_underlying hT hu,Result.andThen_ok];cases d <;> simp at h <;> subst h <;> rfl
end
theorem yA {w:World} {b o:Nat} {c:Array Value} {e:TypeId} {fz:Nat×Nat} {v:Value} (h:w.heap[b]? = some (.cells c e fz)) (hv:c[o]? = some v) :
  w.cell? ⟨b,o,none⟩=some v:=by simp [World.cell?,h,hv]
theorem iC (b o i:Nat):(Addr.mk b o none).add i=⟨b,o+i,none⟩:=by
 unfold Addr.add;split
 ·rename_i h;simp [h]
 ·rfl
theorem run_loadCellsFrom (P:Program) {w:World} {b o:Nat} {c:Array Value} {e:TypeId} {fz:Nat×Nat} (h:w.heap[b]? = some (.cells c e fz)) :
  ∀ (n i:Nat) (acc:Array Value),o+i+n<=c.size->(loadCellsFrom ⟨b,o,none⟩ i n acc).run P w=.ok (acc++c.extract (o+i) (o+i+n)) w
 | 0,i,acc,_=>by simp [loadCellsFrom];omega
 | n+1,i,acc,j=>by
  have d:c[o+i]? = some (c[o+i]'(by omega)):=Array.getElem?_eq_getElem (by omega);simp only [loadCellsFrom,Sem.run_bind,run_load,iC,yA h d,Result.andThen_ok];rw [run_loadCellsFrom P h n (i+1) _ (by omega)];congr 1;apply Array.ext';simp only [Array.toList_append,Array.toList_push,Array.toList_extract,List.append_assoc];congr 1;rw [show o+i+(n+1)=(o+i+1)+n by omega,show o+(i+1)=o+i+1 by omega];simp only [List.extract_eq_take_drop];rw [show (o+i+1+n - (o+i))=n+1 by omega,show (o+i+1+n - (o+i+1))=n by omega];rw [List.drop_eq_getElem_cons (show o+i<c.toList.length by simpa using (by omega:o+i<c.size))];simp
theorem run_loadCells (P:Program) {w:World} {b o n:Nat} {c:Array Value} {e:TypeId} {fz:Nat×Nat} (h:w.heap[b]? = some (.cells c e fz)) (d:o+n<=c.size) :
  (loadCells ⟨b,o,none⟩ n).run P w=.ok (c.extract o (o+n)) w:=by
 have:=run_loadCellsFrom P (o:=o) h n 0 #[] (by omega);simpa [loadCells] using this
def JU (c:Array Value) (o:Nat):List Value->Array Value
 | []=>c
 | v::vs=>JU (c.setIfInBounds o v) (o+1) vs
theorem sO:∀ (vs:List Value) (c:Array Value) (o:Nat),(JU c o vs).size=c.size
 | [],_,_=>rfl
 | v::vs,c,o=>by simp [JU,sO vs]
theorem HS {w:World} {b o:Nat} {c:Array Value} {e:TypeId} {fz:Nat×Nat} (h:w.heap[b]? = some (.cells c e fz)) (v:Value) :
  (w.setCell ⟨b,o,none⟩ v).heap=w.heap.setIfInBounds b (.cells (c.setIfInBounds o v) e fz):=by
 have hb:b<w.heap.size:=by
  rcases Nat.lt_or_ge b w.heap.size with d | d
  ·exact d
  ·simp [Array.getElem?_eq_none d] at h
 have j:w.heap[b]=.cells c e fz:=by simpa [Array.getElem?_eq_getElem hb] using h
 apply Array.ext_getElem?;intro i;simp only [World.setCell,Array.getElem?_modify,Array.getElem?_setIfInBounds];by_cases hi:b=i
 ·subst hi;simp [hb,j]
 ·simp [hi]
theorem Ms (w:World) (a:Addr) (v:Value):(w.setCell a v).os=w.os:=rfl
theorem Ef (w:World) (a:Addr) (v:Value):(w.setCell a v).output=w.output:=rfl
theorem qu (P:Program) {b o:Nat} {e:TypeId} {fz:Nat×Nat}:∀ (vs:List Value) (i:Nat) (w:World) (c:Array Value),w.heap[b]? = some (.cells c e fz) ->
  o+i+vs.length<=c.size->(∀ x,x<c.size->¬ (fz.1<=x/\x<fz.2))->(∀ v∈vs,v.oneCell'=true) ->
  ∃ w',(storeCells ⟨b,o,none⟩ vs i).run P w=.ok () w'/\w'.heap=w.heap.setIfInBounds b (.cells (JU c (o+i) vs) e fz)/\Env w w'
 | [],i,w,c,h,_,_,_=>by
  refine ⟨w,by simp [storeCells],?_,rfl,rfl,rfl⟩;apply Array.ext_getElem?;intro k;simp only [Array.getElem?_setIfInBounds];have hb:b<w.heap.size:=by
   rcases Nat.lt_or_ge b w.heap.size with d | d
   ·exact d
   ·simp [Array.getElem?_eq_none d] at h
  by_cases j:b=k
  ·subst j;simp only [JU,h,hb,if_true]
  ·simp [j]
 | v::vs,i,w,c,h,y,p,hv=>by
  simp only [List.length_cons] at y;have z:c[o+i]? = some (c[o+i]'(by omega)):=Array.getElem?_eq_getElem (by omega);have hb:b<w.heap.size:=by
   rcases Nat.lt_or_ge b w.heap.size with d | d
   ·exact d
   ·simp [Array.getElem?_eq_none d] at h
  have l:w.frozen? ⟨b,o+i,none⟩=false:=by
   have:=p (o+i) (by omega);simp only [World.frozen?,h,Bool.and_eq_false_iff,decide_eq_false_iff_not];by_cases g:fz.1<=o+i
   ·exact .inr fun A=>this ⟨g,A⟩
   ·exact .inl g
  have r:=HS (o:=o+i) h v;have B:(w.setCell ⟨b,o+i,none⟩ v).heap[b]? = some (.cells (c.setIfInBounds (o+i) v) e fz):=by
   rw [r];simp [hb]
  obtain ⟨w',hr,m,n⟩:=qu P (b:=b) (o:=o) vs (i+1) _ _ B (by simp;omega) (by simpa using p) (fun u hu=>hv u (List.mem_cons_of_mem _ hu));refine ⟨w',?_,?_,Env.trans ⟨Ms _ _ _,rfl,Ef _ _ _⟩ n⟩
  ·simp only [storeCells,Sem.run_bind,iC,run_store P w _ v .plain (hv v (by simp)),yA h z,l,Bool.false_eq_true,if_false,Result.andThen_ok];exact hr
  ·rw [m,r];apply Array.ext_getElem?;intro k;simp only [Array.getElem?_setIfInBounds,Array.size_setIfInBounds,JU];by_cases j:b=k
   ·subst j;simp [hb];rfl
   ·simp [j]
theorem je (P:Program) (w:World) (e:TypeId) (c:Array Value) :
  (newRow e c).run P w=.ok ⟨w.heap.size,0,none⟩ { w with heap:=w.heap.push (.cells c e) }:=by
 simp [newRow]
theorem gY:∀ (vs cs:List AV) (o:Nat),(qk cs o vs).length=cs.length
 | [],_,_=>rfl
 | v::vs,cs,o=>by simp [qk,gY vs]
theorem jH:∀ (vs cs:List AV) (o k:Nat),o+vs.length<=cs.length->(qk cs o vs)[k]? = if o<=k/\k<o+vs.length then vs[k - o]? else cs[k]?
 | [],cs,o,k,_=>by simp only [qk,List.length_nil];rw [if_neg (by omega)]
 | v::vs,cs,o,k,h=>by
  simp only [List.length_cons] at h ⊢;rw [qk,jH vs (cs.set o v) (o+1) k (by simp;omega)];by_cases b:o=k
  ·subst b;rw [if_neg (by omega),if_pos (by omega)];simp [List.getElem?_set];omega
  ·by_cases h2:o+1<=k/\k<o+1+vs.length
   ·rw [if_pos h2,if_pos (by omega)];rw [show k - o=(k - (o+1))+1 by omega];simp
   ·rw [if_neg h2,if_neg (by omega),List.getElem?_set];simp [b]
theorem zH:∀ (vs:List Value) (c:Array Value) (o k:Nat),o+vs.length<=c.size->(JU c o vs)[k]? = if o<=k/\k<o+vs.length then vs[k - o]? else c[k]?
 | [],c,o,k,_=>by simp only [JU,List.length_nil];rw [if_neg (by omega)]
 | v::vs,c,o,k,h=>by
  simp only [List.length_cons] at h ⊢;rw [JU,zH vs (c.setIfInBounds o v) (o+1) k (by simp;omega)];by_cases b:o=k
  ·subst b;rw [if_neg (by omega),if_pos (by omega)];simp [Array.getElem?_setIfInBounds];omega
  ·by_cases h2:o+1<=k/\k<o+1+vs.length
   ·rw [if_pos h2,if_pos (by omega)];rw [show k - o=(k - (o+1))+1 by omega];simp
   ·rw [if_neg h2,if_neg (by omega),Array.getElem?_setIfInBounds];simp [b]
theorem kO.read {γ:bM} {w:World} {i:CI} {cs:List AV} {g:Nat} {ro:Bool} (h:kO γ w i (.cells cs g ro)) {o n:Nat} (x:o+n<=cs.length) :
  ∃ c e fz,w.heap[i.b]? = some (.cells c e fz)/\(n≠0->i.d+o+n<=c.size)/\ak γ ((cs.drop o).take n) ((c.extract (i.d+o) (i.d+o+n)).toList):=by
 obtain ⟨c,e,fz,hb,r,_⟩:=h;have l:n≠0->i.d+o+n<=c.size:=by
  intro m;obtain ⟨_,cv,j,_⟩:=r (o+n - 1) _ (List.getElem?_eq_getElem (show o+n - 1<cs.length by omega));have:i.d+(o+n - 1)<c.size:=by
   rcases Nat.lt_or_ge (i.d+(o+n - 1)) c.size with h | h
   ·exact h
   ·simp [Array.getElem?_eq_none h] at j
  omega
 refine ⟨c,e,fz,hb,l,?_⟩;refine ak.eV.2 ⟨?_,fun k v cv hv j=>?_⟩
 ·by_cases m:n=0
  ·simp [m]
  ·have:=l m;simp;omega
 ·rw [List.getElem?_take] at hv;split at hv
  ·rename_i y;rw [List.getElem?_drop] at hv;obtain ⟨_,dv,p,hr⟩:=r (o+k) v hv;have:(c.extract (i.d+o) (i.d+o+n)).toList[k]? = some dv:=by
    have z:i.d+o+n<=c.size:=l (by omega);simp only [Array.toList_extract,List.extract_eq_take_drop,List.getElem?_take,List.getElem?_drop];rw [if_pos (by omega),<- Nat.add_assoc] at *;simpa [Nat.add_assoc] using p
   rw [this] at j;obtain rfl:=Option.some.inj j;exact hr
  ·simp at hv
theorem fD {v:AV} {l:List AV} (h:bI v=some l):l=v.cells/\l.all AV.one=true:=by
 unfold bI at h;split at h
 ·rename_i b;obtain rfl:=Option.some.inj h;exact ⟨rfl,b⟩
 ·simp at h
end Go.Am
end

section
namespace Go.Am
def yB (P:Program) (B:Nat) (γ:bM) (s:AS) (w:World) (m:Sem Value) (v:AV) (s':AS):Prop :=
 ∃ γ' w' cv,m.run P w=.ok cv w'/\ai γ' v cv/\fM B γ s w γ' s' w'/\Rel B γ' s' w'
def Uz (P:Program) (B:Nat) (γ:bM) (s:AS) (w:World) (m:Sem Unit) (s':AS):Prop :=
 ∃ γ' w',m.run P w=.ok () w'/\fM B γ s w γ' s' w'/\Rel B γ' s' w'
theorem yB.val {P:Program} {B:Nat} {γ:bM} {s:AS} {w:World} {m:Sem Value} {v:AV} {cv:Value} (hr:Rel B γ s w) (hm:m.run P w=.ok cv w) (hv:ai γ v cv) :
  yB P B γ s w m v s:=⟨γ,w,cv,hm,hv,fM.refl,hr⟩
theorem Rel.vQ {B:Nat} {γ:bM} {s:AS} {w w':World} {cs:List AV} {g x:Nat} {c:Array Value} {e:TypeId} (h:Rel B γ s w)
  (z:∀ (k:Nat) v,cs[k]? = some v->v.one=true/\∃ cv,c[k]? = some cv/\ai γ v cv) (p:g≠0->c.size=cs.length+x*g/\∀ k,cs.length<=k->k<c.size->∃ v cv,v.one=true/\c[k]? = some cv/\ai γ v cv) (fz:Nat×Nat) (l:∀ o,o<c.size->¬ (fz.1<=o/\o<fz.2)) (i:g≠1->fz=(0,0)) (j:fz.1<=fz.2)
  (r:w'.heap=w.heap.push (.cells c e fz)) (A:Env w w':=by exact ⟨rfl,rfl,rfl⟩) :
  Rel B (gX γ s.nl ⟨w.heap.size,0,x⟩) (s.new (.cells cs g false)) w'/\fM B γ s w (gX γ s.nl ⟨w.heap.size,0,x⟩) (s.new (.cells cs g false)) w':=by
 refine Rel.alloc h rfl rfl r ⟨c,e,fz,by rw [r];simp,fun k v m=>?_,fun _=>l,fun y=>?_,fun _=>⟨i,j⟩⟩ A
 ·obtain ⟨C,cv,h2,h3⟩:=z k v m;exact ⟨C,cv,by simpa using h2,h3.mono (bM.tZ h.JQ)⟩
 ·exact ⟨by simpa using (p y).1,fun k m n=>let ⟨v,cv,a,b,d⟩:=(p y).2 k (by simpa using m) n;⟨v,cv,a,b,d.mono (bM.tZ h.JQ)⟩⟩
theorem ud {γ:bM} {cs:List AV} {l:List Value} {c:Array Value} (h:ak γ cs l) (b:cs.all AV.one=true) (i:∀ (k:Nat) (v:Value),l[k]? = some v->c[k]? = some v) :
  ∀ (k:Nat) v,cs[k]? = some v->v.one=true/\∃ cv,c[k]? = some cv/\ai γ v cv:=by
 intro k v e;obtain ⟨cv,d,hr⟩:=h.get e;exact ⟨List.all_eq_true.1 b v (List.mem_of_getElem? e),cv,i k cv d,hr⟩
theorem Eg {P:Program} {B:Nat} {γ:bM} {s:AS} {w:World} {v:AV} {cv:Value} {cs:List AV} (t:TypeId) (hr:Rel B γ s w) (hv:ai γ v cv) (d:bI v=some cs) :
  yB P B γ s w (do pure (.pointer (some (<- newVar t cv)))) (.ptr (some (s.nl,0))) (s.new (.cells cs 0 false)):=by
 obtain ⟨rfl,b⟩:=fD d;have i:=ud (c:=cv.cells) (hv.cells b) b (by intro k v h;simpa using h);obtain ⟨j,h2⟩:=hr.vQ (w':={ w with heap:=w.heap.push (.cells cv.cells t) }) (g:=0) (x:=0) (e:=t) i (by simp) (0,0) (by simp) (fun _=>rfl) (Nat.le_refl _) rfl;refine ⟨_,_,.pointer (some ⟨w.heap.size,0,none⟩),?_,?_,h2,j⟩
 ·simp [newVar,je]
 ·simp [ai,cg]
section
variable {P:Program} {T:TT} (hT:TT.Ok P T) {B:Nat} {γ:bM} {s:AS} {w:World} (hr:Rel B γ s w)
include hT hr
theorem O6 {e:TypeId} {z:AV} {cs:List AV} (i:T.rY e=some z) (b:bI z=some cs) :
  yB P B γ s w (Instr.alloc e true (.tuple #[])) (.ptr (some (s.nl,0))) (s.new (.cells cs 0 false)):=by
 obtain ⟨c,j,d⟩:=iL hT i w;obtain ⟨γ',w',cv,k,h2⟩:=Eg (P:=P) e hr (d γ) b;refine ⟨γ',w',cv,?_,h2⟩;simp only [Instr.alloc,Sem.run_bind,j,Result.andThen_ok];simpa using k
theorem Oe {l o n:Nat} {cs:List AV} (h:aD s l o n=some cs):∃ i c e fz,γ l=some i/\w.heap[i.b]? = some (.cells c e fz)/\(n≠0->i.d+o+n<=c.size) /\
  ak γ cs ((c.extract (i.d+o) (i.d+o+n)).toList)/\cs.all AV.one=true/\cs.length=n:=by
 unfold aD at h;split at h
 ·rename_i cl g ro y;split at h
  ·rename_i z;obtain rfl:=Option.some.inj h;obtain ⟨i,hi,x,_⟩:=hr.obj l _ y;obtain ⟨c,e,fz,hb,j,m⟩:=x.read z;refine ⟨i,c,e,fz,hi,hb,j,m,?_,by simp;omega⟩;obtain ⟨c2,e2,A,B,p,_⟩:=x;rw [List.all_eq_true];intro v hv;have r:v∈cl:=List.mem_of_mem_drop (List.mem_of_mem_take hv);obtain ⟨k,C⟩:=List.mem_iff_getElem?.1 r;exact (p k v C).1
  ·simp at h
 ·simp at h
theorem lN {l o n:Nat} {cs:List AV} (h:aD s l o n=some cs):∃ i c,γ l=some i/\(loadCells ⟨i.b,i.d+o,none⟩ n).run P w=.ok c w/\ak γ cs c.toList/\cs.all AV.one=true/\cs.length=n/\c.size=n:=by
 obtain ⟨i,c,e,fz,hi,hb,m,k,j,hlen⟩:=Oe hT hr h;by_cases p:n=0
 ·subst p;refine ⟨i,#[],hi,rfl,?_,j,hlen,rfl⟩;obtain rfl:=List.length_eq_zero_iff.1 hlen;exact ak.nil
 ·refine ⟨i,_,hi,run_loadCells P hb (m p),k,j,hlen,?_⟩;have:=k.length;simp at this ⊢;omega
theorem Ta {l o:Nat} {v:AV} (h:av s l o=some v):∃ i cv,γ l=some i/\w.cell? ⟨i.b,i.d+o,none⟩=some cv/\ai γ v cv/\v.one=true:=by
 unfold av at h;split at h
 ·rename_i cl g ro j;obtain ⟨i,hi,⟨c,e,fz,hb,k,_⟩,_⟩:=hr.obj l _ j;obtain ⟨m,cv,h2,h3⟩:=k o v h;exact ⟨i,cv,hi,yA hb h2,h3,m⟩
 ·simp at h
theorem Of {t:TypeId} {l o:Nat} {v:AV} {i:CI} (hi:γ l=some i) (h:Gc T t s (.ptr (some (l,o)))=some v):∃ cv,(loadVar t ⟨i.b,i.d+o,none⟩).run P w=.ok cv w/\ai γ v cv:=by
 unfold Gc at h;simp only at h;split at h
 ·rename_i k;cases hs:T.eU t with
  | none=>simp [hs] at h
  | some n =>
   simp only [hs,Option.bind_some,Option.map_eq_some_iff] at h;obtain ⟨cs,m,rfl⟩:=h;obtain ⟨j,c,hj,e,p,_⟩:=lN hT hr m;rw [hi] at hj;obtain rfl:=Option.some.inj hj;exact ⟨.agg c,by simp [loadVar,xy hT k,run_sizeOf hT hs,e],by simp only [ai];exact ⟨c,rfl,p⟩⟩
 ·rename_i k;obtain ⟨j,cv,hj,r,hv,_⟩:=Ta hT hr h;rw [hi] at hj;obtain rfl:=Option.some.inj hj;exact ⟨cv,by simp [loadVar,xy hT k,r],hv⟩
 ·cases h
theorem QD {t:TypeId} {p v:AV} {c:Value} (d:ai γ p c) (h:Gc T t s p=some v):yB P B γ s w (Instr.loadAt t c) v s:=by
 have e:=h;unfold Gc at h;split at h
 ·rename_i l o;simp only [ai] at d;obtain ⟨i,hi,rfl⟩:=d;obtain ⟨cv,b,hv⟩:=Of hT hr hi e;exact yB.val hr (by simp [Instr.loadAt,Instr.sureAddr,b]) hv
 ·cases h
theorem DX {l o:Nat} {vs:List AV} {CU:List Value} {s':AS} (h:cK s l o vs=some s') (hv:ak γ vs CU) (r:vs.all AV.one=true):∃ i w',γ l=some i /\
  (storeCells ⟨i.b,i.d+o,none⟩ CU).run P w=.ok () w'/\fM B γ s w γ s' w'/\Rel B γ s' w':=by
 unfold cK at h;split at h
 ·rename_i cl g L;split at h
  ·rename_i X;obtain rfl:=Option.some.inj h;obtain ⟨i,hi,Y,_⟩:=hr.obj l _ L;obtain ⟨c,e,fz,hb,A,C,D,n⟩:=Y;have hlen:=hv.length;have x:vs.length≠0->i.d+o+vs.length<=c.size:=by
    intro z;obtain ⟨_,cv,M,_⟩:=A (o+vs.length - 1) _ (List.getElem?_eq_getElem (show o+vs.length - 1<cl.length by omega));have:i.d+(o+vs.length - 1)<c.size:=by
     rcases Nat.lt_or_ge (i.d+(o+vs.length - 1)) c.size with h | h
     ·exact h
     ·simp [Array.getElem?_eq_none h] at M
    omega
   have m:∀ v∈CU,v.oneCell'=true:=by
    intro v hm;obtain ⟨k,j⟩:=List.mem_iff_getElem?.1 hm;have O:k<vs.length:=by
     rcases Nat.lt_or_ge k CU.length with h | h
     ·omega
     ·simp [List.getElem?_eq_none h] at j
    have F:=List.getElem?_eq_getElem O;obtain ⟨c',p,hr'⟩:=hv.get F;rw [j] at p;obtain rfl:=Option.some.inj p;exact hr'.one (List.all_eq_true.1 r _ (List.mem_of_getElem? F))
   by_cases z:vs.length=0
   ·obtain rfl:=List.length_eq_zero_iff.1 z;obtain rfl:=List.length_eq_zero_iff.1 (hlen.symm.trans z);have Q:w.heap=w.heap.setIfInBounds i.b (.cells c e fz):=by
     apply Array.ext_getElem?;intro k;rw [Array.getElem?_setIfInBounds];have y:=kO.lt (γ:=γ) (o:=.cells cl g false) ⟨c,e,fz,hb,A,C,D,n⟩;by_cases j:i.b=k
     ·subst j;rw [if_pos rfl,if_pos y,hb]
     ·rw [if_neg j]
    obtain ⟨G,H⟩:=hr.write (w':=w) L rfl (o':=.cells (qk cl o []) g false) rfl hi Q ⟨c,e,fz,hb,A,C,D,n⟩;exact ⟨i,w,hi,rfl,H,G⟩
   ·obtain ⟨w',I,J,R⟩:=qu P (b:=i.b) (o:=i.d+o) CU 0 w c hb (by have:=x z;omega) (C rfl) m;have y:=kO.lt (γ:=γ) (o:=.cells cl g false) ⟨c,e,fz,hb,A,C,D,n⟩;have S:kO γ w' i (.cells (qk cl o vs) g false):=by
     refine ⟨JU c (i.d+o+0) CU,e,fz,by rw [J];simp [y],fun k v j=>?_,fun _=>by rw [sO];exact C rfl,fun W=>?_,n⟩
     ·have hs:=x z;rw [jH _ _ _ _ X] at j;rw [zH _ _ _ _ (by omega)];by_cases K:o<=k/\k<o+vs.length
      ·rw [if_pos K] at j;rw [if_pos (by omega)];obtain ⟨c',p,hr'⟩:=hv.get j;refine ⟨List.all_eq_true.1 r _ (List.mem_of_getElem? j),c',?_,hr'⟩;rw [show i.d+k - (i.d+o+0)=k - o by omega];exact p
      ·rw [if_neg K] at j;rw [if_neg (by omega)];exact A k v j
     ·rw [sO,gY];refine ⟨(D W).1,fun k j U=>?_⟩;obtain ⟨v,cv,G,H,Z⟩:=(D W).2 k j U;refine ⟨v,cv,G,?_,Z⟩;have hs:=x z;rw [zH _ _ _ _ (by omega),if_neg (by omega)];exact H
    obtain ⟨G,H⟩:=hr.write (w':=w') L rfl (o':=.cells (qk cl o vs) g false) rfl hi J S R;exact ⟨i,w',hi,I,H,G⟩
  ·simp at h
 ·simp at h
theorem O7 {t:TypeId} {p v:AV} {k cv:Value} {s':AS} (m:ai γ p k) (hv:ai γ v cv) (h:S9 T t s p v=some s'):Uz P B γ s w (Instr.storeAt t k cv) s':=by
 unfold S9 at h;split at h
 ·rename_i l o;simp only [ai] at m;obtain ⟨i,hi,rfl⟩:=m;cases d:bI v with
  | none=>simp [d] at h
  | some vs =>
   simp only [d,Option.bind_some] at h;split at h
   ·rename_i hs;obtain ⟨rfl,b⟩:=fD d;obtain ⟨j,w',hj,c,hd,hr'⟩:=DX hT hr h (hv.cells b) b;rw [hi] at hj;obtain rfl:=Option.some.inj hj;refine ⟨γ,w',?_,hd,hr'⟩;have e:cv.cells.size=v.cells.length:=by have:=(hv.cells b).length;simp at this;omega
    simp [Instr.storeAt,Instr.sureAddr,storeVar,run_sizeOf hT hs,e,c]
   ·simp at h
 ·simp at h
end
end Go.Am
end

section
namespace Go.Am
section
variable {P:Program} {T:TT} (hT:TT.Ok P T)
include hT
theorem ov {γ:bM} {t:TypeId} {cs:List AV} {b:Array Value} {off:Nat} {v:AV} (hv:ak γ cs b.toList) (h:part T t cs off=some v) (w:World) :
  ∃ c,(Go.part t b off).run P w=.ok c w/\ai γ v c:=by
 unfold part at h;split at h
 ·rename_i d;cases hs:T.eU t with
  | none=>simp [hs] at h
  | some n =>
   simp only [hs,Option.map_some] at h;obtain rfl:=Option.some.inj h;refine ⟨.agg (b.extract off (off+n)),by simp [Go.part,xy hT d,run_sizeOf hT hs],?_⟩;simp only [ai];refine ⟨_,rfl,?_⟩;have:=(hv.drop off).take n;simpa [Array.toList_extract,List.extract_eq_take_drop] using this
 ·rename_i d;obtain ⟨c,e,hr⟩:=hv.get h;refine ⟨c,?_,hr⟩;simp only [Go.part,Sem.run_bind,xy hT d,Result.andThen_ok];have:b[off]? = some c:=by simpa using e
  simp [this]
 ·simp at h
theorem DY {γ:bM} (w:World):∀ (d:Nat) (t:TypeId) (x y:AV) (b:Bool),iB T d t x y=some b->∀ (L cy:Value),ai γ x L->ai γ y cy->∀ D,d<=D->(Op.equalIn D t L cy).run P w=.ok b w:=by
 intro d
 induction d with
 | zero=>intro t x y b h;simp [iB] at h
 | succ d U =>
  intro t x y b h L cy j c D X;obtain ⟨D,rfl⟩:∃ W,D=W+1:=⟨D - 1,by omega⟩;have I:d<=D:=by omega
  unfold iB at h;cases hu:T.cR t with
  | none=>simp [hu] at h
  | some td =>
   simp only [hu] at h;simp only [Op.equalIn,Sem.run_bind,run_underlying hT hu,Result.andThen_ok];split at h
   all_goals (try (rename some td=some _=>e;cases e))
   case h_1=>simp only [ai] at j c;subst j c;simp at h;simp [h]
   case h_2=>simp only [ai] at j c;subst j c;simp at h;simp [h]
   case h_3 =>
    simp only [ai] at j c;subst j c;have:∀ (a b:List UInt8),((⟨a.toArray⟩:ByteArray)==⟨b.toArray⟩)=(a==b):=by
     intro a b;show (a.toArray==b.toArray)=(a==b);rw [Bool.eq_iff_iff];simp
    simp at h;simp [this,h]
   case h_4 q =>
    simp only [ai] at j;subst j;cases q with
    | none=>simp only [ai] at c;subst c;simpa using h
    | some q=>obtain ⟨l,o⟩:=q;simp only [ai] at c;obtain ⟨i,_,rfl⟩:=c;simpa using h
   case h_5 q B =>
    simp only [ai] at c;subst c;cases q with
    | none=>exact absurd rfl B
    | some q=>obtain ⟨l,o⟩:=q;simp only [ai] at j;obtain ⟨i,_,rfl⟩:=j;simpa using h
   case h_6 q _ _ _ =>
    simp only [ai] at j;obtain ⟨rfl,_⟩:=j;cases q with
    | none=>simp only [ai] at c;obtain ⟨rfl,_⟩:=c;simpa using h
    | some q=>obtain ⟨l,o⟩:=q;simp only [ai] at c;obtain ⟨i,_,rfl⟩:=c;simpa using h
   case h_7 q _ _ _ _ _ _ B =>
    simp only [ai] at c;obtain ⟨rfl,_⟩:=c;cases q with
    | none=>exact absurd rfl B
    | some q=>obtain ⟨l,o⟩:=q;simp only [ai] at j;obtain ⟨i,_,rfl⟩:=j;simpa using h
   case h_8=>simp only [ai] at j c;obtain ⟨rfl,_⟩:=c;obtain ⟨_,_,rfl⟩:=j;simpa using h
   case h_9=>simp only [ai] at j c;obtain ⟨rfl,_⟩:=j;obtain ⟨_,_,rfl⟩:=c;simpa using h
   case h_10 q =>
    simp only [ai] at j;subst j;cases q with
    | none=>simp only [ai] at c;subst c;simpa using h
    | some q=>simp only [ai] at c;obtain ⟨i,_,rfl⟩:=c;simpa using h
   case h_11 q B =>
    simp only [ai] at c;subst c;cases q with
    | none=>exact absurd rfl B
    | some q=>simp only [ai] at j;obtain ⟨i,_,rfl⟩:=j;simpa using h
   case h_12=>simp only [ai] at j c;subst j c;simpa using h
   case h_13=>simp only [ai] at j c;subst j;obtain ⟨_,rfl,_⟩:=c;simpa using h
   case h_14=>simp only [ai] at j c;subst j;obtain ⟨_,_,rfl,_⟩:=c;simpa using h
   case h_15=>simp only [ai] at j c;subst c;obtain ⟨_,_,rfl,_⟩:=j;simpa using h
   case h_16=>simp only [ai] at j c;subst c;obtain ⟨_,rfl,_⟩:=j;simpa using h
   case h_17=>simp only [ai] at j c;subst j c;simpa using h
   case h_18=>simp only [ai] at j c;subst j;obtain ⟨_,rfl,_⟩:=c;simpa using h
   case h_19=>simp only [ai] at j c;subst c;obtain ⟨_,rfl,_⟩:=j;simpa using h
   case h_20 fields xs ys =>
    simp only [ai] at j c;obtain ⟨M,rfl,C⟩:=j;obtain ⟨O,rfl,F⟩:=c;split at h
    ·rename_i B;have Q:=hT.S8 t B;simp only [Sem.run_bind,run_program,Result.andThen_ok,Q,Bool.false_eq_true,if_false,<- Array.forIn_toList];generalize fields.toList=fs at h ⊢
     induction fs with
     | nil=>simp [eqFields] at h;simp [h]
     | cons f fs J =>
      simp only [eqFields] at h;by_cases K : f.name ≠ "_"
      ·simp only [if_pos K] at h;cases A:part T f.type xs f.offset with
       | none=>simp [A] at h
       | some a =>
        cases hb:part T f.type ys f.offset with
        | none=>simp [A,hb] at h
        | some R =>
         simp only [A,hb,Option.bind_some] at h;obtain ⟨ca,p,G⟩:=ov hT C A w;obtain ⟨cb,z,H⟩:=ov hT F hb w;cases k:iB T d f.type a R with
         | none=>simp [k] at h
         | some r =>
          have m:=U _ _ _ _ k _ _ G H D I;cases r with
          | true =>
           simp only [k] at h;have:=J h;simp only [List.forIn_cons,Sem.run_bind,if_pos K,p,z,m,Result.andThen_ok] at this ⊢;simpa using this
          | false =>
           simp only [k] at h;obtain rfl:=Option.some.inj h;simp only [List.forIn_cons,Sem.run_bind,if_pos K,p,z,m,Result.andThen_ok];simp
      ·simp only [if_neg K] at h;have:=J h;simp only [List.forIn_cons,Sem.run_bind,if_neg K] at this ⊢;simpa using this
    ·simp at h
   case h_21 len elem xs ys =>
    simp only [ai] at j c;obtain ⟨M,rfl,C⟩:=j;obtain ⟨O,rfl,F⟩:=c;cases hs:T.eU elem with
    | none=>simp [hs] at h
    | some n =>
     simp only [hs,Option.bind_some] at h;simp only [Sem.run_bind,run_sizeOf hT hs,Result.andThen_ok,Std.Legacy.Range.forIn_eq_forIn_range',Std.Legacy.Range.size];simp only [Nat.sub_zero,Nat.add_one_sub_one,Nat.div_one];generalize 0=i0 at h ⊢;clear hu
     induction len generalizing i0 with
     | zero=>simp [DW] at h;simp [h]
     | succ len S =>
      simp only [DW] at h;cases A:part T elem xs (i0*n) with
      | none=>simp [A] at h
      | some a =>
       cases hb:part T elem ys (i0*n) with
       | none=>simp [A,hb] at h
       | some R =>
        simp only [A,hb,Option.bind_some] at h;obtain ⟨ca,p,G⟩:=ov hT C A w;obtain ⟨cb,z,H⟩:=ov hT F hb w;cases k:iB T d elem a R with
        | none=>simp [k] at h
        | some r =>
         have m:=U _ _ _ _ k _ _ G H D I;cases r with
         | true =>
          simp only [k] at h;have:=S _ h;simp only [List.range'_succ,List.forIn_cons,Sem.run_bind,p,z,m,Result.andThen_ok] at this ⊢;simpa using this
         | false =>
          simp only [k] at h;obtain rfl:=Option.some.inj h;simp only [List.range'_succ,List.forIn_cons,Sem.run_bind,p,z,m,Result.andThen_ok];simp
   case h_22=>simp at h
theorem JV {γ:bM} {op:BinOp} {t:TypeId} {x y:Operand} {a b:AV} {ca cb:Value} (c:ai γ a ca) (hb:ai γ b cb) (h:Mr T t x y a b=true) (w:World) :
  (eqGuard op t x y ca cb).run P w=.ok () w:=by
 have d:op=.eql\/op=.neq\/(eqGuard op t x y ca cb)=pure ():=by cases op <;> first | exact .inl rfl | exact .inr (.inl rfl) | exact .inr (.inr rfl)
 rcases d with rfl | rfl | d;rotate_left 2
 ·rw [d];rfl
 all_goals
  simp only [eqGuard,Bool.not_true,Bool.false_eq_true,if_false];split
  ·have e:(Mq x||Mq y)=true:=by
    cases a with
    | nilIface =>
     cases b with
     | nilIface=>simpa only [Mr] using h
     | bad=>simp [Mr] at h
     | ptr q=>cases q <;> simp only [ai] at hb <;> (first | (cases hb;done) | (obtain ⟨_,_,hb⟩:=hb;cases hb))
     | slc q _ _ _=>cases q <;> simp only [ai] at hb <;> (first | (obtain ⟨hb,_⟩:=hb;cases hb;done) | (obtain ⟨_,_,hb⟩:=hb;cases hb))
     | map q=>cases q <;> simp only [ai] at hb <;> (first | (cases hb;done) | (obtain ⟨_,_,hb⟩:=hb;cases hb))
     | emp=>simp only [ai] at hb;obtain ⟨_,_,hb⟩:=hb;cases hb
     | func _ _=>simp only [ai] at hb;obtain ⟨_,hb,_⟩:=hb;cases hb
     | tX _ _ _=>simp only [ai] at hb;obtain ⟨_,_,hb,_⟩:=hb;cases hb
     | iface _ _=>simp only [ai] at hb;obtain ⟨_,hb,_⟩:=hb;cases hb
     | agg _=>simp only [ai] at hb;obtain ⟨_,hb,_⟩:=hb;cases hb
     | aP _=>simp only [ai] at hb;obtain ⟨_,hb,_⟩:=hb;cases hb
     | _=>simp only [ai] at hb;cases hb
    | bad=>cases b <;> simp [Mr] at h
    | ptr q=>cases q <;> simp only [ai] at c <;> (first | (cases c;done) | (obtain ⟨_,_,c⟩:=c;cases c))
    | slc q _ _ _=>cases q <;> simp only [ai] at c <;> (first | (obtain ⟨c,_⟩:=c;cases c;done) | (obtain ⟨_,_,c⟩:=c;cases c))
    | map q=>cases q <;> simp only [ai] at c <;> (first | (cases c;done) | (obtain ⟨_,_,c⟩:=c;cases c))
    | emp=>simp only [ai] at c;obtain ⟨_,_,c⟩:=c;cases c
    | func _ _=>simp only [ai] at c;obtain ⟨_,c,_⟩:=c;cases c
    | tX _ _ _=>simp only [ai] at c;obtain ⟨_,_,c,_⟩:=c;cases c
    | iface _ _=>simp only [ai] at c;obtain ⟨_,c,_⟩:=c;cases c
    | agg _=>simp only [ai] at c;obtain ⟨_,c,_⟩:=c;cases c
    | aP _=>simp only [ai] at c;obtain ⟨_,c,_⟩:=c;cases c
    | _=>simp only [ai] at c;cases c
   cases x <;> cases y <;> first | rfl | (simp [Mq] at e;done)
  ·have i:T.Qt t=true:=by
    cases a with
    | agg _ =>
     cases b with
     | agg _=>simpa [Mr] using h
     | bad=>simp [Mr] at h
     | ptr q=>cases q <;> simp only [ai] at hb <;> (first | (cases hb;done) | (obtain ⟨_,_,hb⟩:=hb;cases hb))
     | slc q _ _ _=>cases q <;> simp only [ai] at hb <;> (first | (obtain ⟨hb,_⟩:=hb;cases hb;done) | (obtain ⟨_,_,hb⟩:=hb;cases hb))
     | map q=>cases q <;> simp only [ai] at hb <;> (first | (cases hb;done) | (obtain ⟨_,_,hb⟩:=hb;cases hb))
     | emp=>simp only [ai] at hb;obtain ⟨_,_,hb⟩:=hb;cases hb
     | func _ _=>simp only [ai] at hb;obtain ⟨_,hb,_⟩:=hb;cases hb
     | tX _ _ _=>simp only [ai] at hb;obtain ⟨_,_,hb,_⟩:=hb;cases hb
     | iface _ _=>simp only [ai] at hb;obtain ⟨_,hb,_⟩:=hb;cases hb
     | aP _=>simp only [ai] at hb;obtain ⟨_,hb,_⟩:=hb;cases hb
     | _=>simp only [ai] at hb;cases hb
    | bad=>cases b <;> simp [Mr] at h
    | ptr q=>cases q <;> simp only [ai] at c <;> (first | (cases c;done) | (obtain ⟨_,_,c⟩:=c;cases c))
    | slc q _ _ _=>cases q <;> simp only [ai] at c <;> (first | (obtain ⟨c,_⟩:=c;cases c;done) | (obtain ⟨_,_,c⟩:=c;cases c))
    | map q=>cases q <;> simp only [ai] at c <;> (first | (cases c;done) | (obtain ⟨_,_,c⟩:=c;cases c))
    | emp=>simp only [ai] at c;obtain ⟨_,_,c⟩:=c;cases c
    | func _ _=>simp only [ai] at c;obtain ⟨_,c,_⟩:=c;cases c
    | tX _ _ _=>simp only [ai] at c;obtain ⟨_,_,c,_⟩:=c;cases c
    | iface _ _=>simp only [ai] at c;obtain ⟨_,c,_⟩:=c;cases c
    | aP _=>simp only [ai] at c;obtain ⟨_,c,_⟩:=c;cases c
    | _=>simp only [ai] at c;cases c
   simp [hT.Qt t i]
  ·rfl
theorem Eh:∀ (a b:List UInt8),iW a b=Op.bytesLess a b
 | [],[]=>by simp [iW,Op.bytesLess]
 | _::_,[]=>by simp [iW,Op.bytesLess]
 | [],_::_=>by simp [iW,Op.bytesLess]
 | a::x,b::y=>by simp [iW,Op.bytesLess,Eh x y]
theorem JW {γ:bM} {op:BinOp} {k:IntKind} {a b:Int} {v:AV} (d:op≠.shl/\op≠.shr) (h:bA op k a b=some v) (t:TypeId) (w:World) :
  ∃ c,(Go.binOp op t (.int k a) (.int k b)).run P w=.ok c w/\ai γ v c:=by
 cases op <;> simp only [bA] at h
 all_goals (first | (exact absurd rfl d.1) | (exact absurd rfl d.2) | (cases h;done) | skip)
 all_goals (try split at h)
 all_goals (first | (cases h;done) | skip)
 all_goals (obtain rfl:=Option.some.inj h;simp [Go.binOp,Op.intArith,Op.intDiv,Op.intBits,Op.intCmp,ai, *])
end
end Go.Am
end

section
namespace Go.Am
section
variable {P:Program} {T:TT} (hT:TT.Ok P T)
include hT
omit hT in
theorem vR {γ:bM} {t:TypeId} {x:AV} {d cy:Value} (c:ai γ x d) (hi:∀ k a,x≠.int k a) (hs:∀ a,x≠.str a) (hb:x≠.bad) :
  Go.binOp .eql t d cy=(do pure (.bool (<- Op.equal t d cy)))/\Go.binOp .neq t d cy=(do pure (.bool (!(<- Op.equal t d cy)))):=by
 cases x with
 | int k a=>exact absurd rfl (hi k a)
 | str a=>exact absurd rfl (hs a)
 | bad=>exact absurd rfl hb
 | bool b=>simp only [ai] at c;subst c;exact ⟨rfl,rfl⟩
 | nilFunc=>simp only [ai] at c;subst c;exact ⟨rfl,rfl⟩
 | Qz _=>simp only [ai] at c;subst c;exact ⟨rfl,rfl⟩
 | nilIface=>simp only [ai] at c;subst c;exact ⟨rfl,rfl⟩
 | ptr q=>cases q <;> simp only [ai] at c <;> (first | (subst c;exact ⟨rfl,rfl⟩) | (obtain ⟨_,_,rfl⟩:=c;exact ⟨rfl,rfl⟩))
 | slc q _ _ _=>cases q <;> simp only [ai] at c <;> (first | (obtain ⟨rfl,_⟩:=c;exact ⟨rfl,rfl⟩) | (obtain ⟨_,_,rfl⟩:=c;exact ⟨rfl,rfl⟩))
 | map q=>cases q <;> simp only [ai] at c <;> (first | (subst c;exact ⟨rfl,rfl⟩) | (obtain ⟨_,_,rfl⟩:=c;exact ⟨rfl,rfl⟩))
 | emp=>simp only [ai] at c;obtain ⟨_,_,rfl⟩:=c;exact ⟨rfl,rfl⟩
 | func _ _=>simp only [ai] at c;obtain ⟨_,rfl,_⟩:=c;exact ⟨rfl,rfl⟩
 | tX _ _ _=>simp only [ai] at c;obtain ⟨_,_,rfl,_⟩:=c;exact ⟨rfl,rfl⟩
 | iface _ _=>simp only [ai] at c;obtain ⟨_,rfl,_⟩:=c;exact ⟨rfl,rfl⟩
 | agg _=>simp only [ai] at c;obtain ⟨_,rfl,_⟩:=c;exact ⟨rfl,rfl⟩
 | aP _=>simp only [ai] at c;obtain ⟨_,rfl,_⟩:=c;exact ⟨rfl,rfl⟩
omit hT in
theorem CC {d t:Nat} {y:AV} {b:Bool} (h:iB T d t .bad y=some b):False:=by
 cases d with
 | zero=>simp [iB] at h
 | succ d=>unfold iB at h;split at h <;> simp_all
omit hT in
theorem Og {d t:Nat} {y:AV} {k:IntKind} {a:Int} {b:Bool} (h:iB T d t (.int k a) y=some b):∃ k' a',y=.int k' a':=by
 cases d with
 | zero=>simp [iB] at h
 | succ d=>unfold iB at h;split at h <;> simp_all
omit hT in
theorem Oh {d t:Nat} {y:AV} {a:List UInt8} {b:Bool} (h:iB T d t (.str a) y=some b):∃ a',y=.str a':=by
 cases d with
 | zero=>simp [iB] at h
 | succ d=>unfold iB at h;split at h <;> simp_all
theorem QE {γ : bM} {op : BinOp} {t : TypeId} {x y v : AV} {o cy : Value} (d : ai γ x o) (j : ai γ y cy) (h : kP T op t x y = some v) (w : World) :
    ∃ c, (Go.binOp op t o cy).run P w = .ok c w /\ ai γ v c := by
  unfold kP at h;split at h
  · simp only [ai] at d j; subst d j;split at h
    · cases h
    · rename_i hb; obtain rfl := Option.some.inj h; simp [Go.binOp, Op.shift, hb, ai]
  · simp only [ai] at d j; subst d j;split at h
    · cases h
    · rename_i hb; obtain rfl := Option.some.inj h; simp [Go.binOp, Op.shift, hb, ai]
  · rename_i l h2;simp only [ai] at d j; subst d j;split at h
    · rename_i p; subst p;exact JW hT (γ := γ) ⟨l, h2⟩ h t w
    · cases h
  · rename_i a b;simp only [ai] at d j; subst d j;split at h
    · rename_i r;obtain rfl := Option.some.inj h;refine ⟨.string ⟨(a ++ b).toArray⟩, ?_, by simp [ai]⟩;have hm : ¬ (((ByteArray.mk a.toArray).size + (ByteArray.mk b.toArray).size : Nat) : Int) > IntKind.i64.max := by
        have : IntKind.i64.max = 9223372036854775807 := rfl;rw [this];simp only [ByteArray.size, List.size_toArray];omega
      have m : (ByteArray.mk a.toArray) ++ (ByteArray.mk b.toArray) = ⟨(a ++ b).toArray⟩ := by
        apply ByteArray.ext;simp
      simp only [Go.binOp, Op.stringOp, if_neg hm, m]; rfl
    · cases h
  all_goals (first
    | (rename_i a b; simp only [ai] at d j; subst d j; obtain rfl := Option.some.inj h
       simp [Go.binOp, Op.stringOp, ai, Eh hT]; done)
    | skip)
  · rename_i l h2;cases i : iB T 100 t x y with
    | none => simp [i] at h
    | some b =>
      simp only [i, Option.map_some] at h;obtain rfl := Option.some.inj h;obtain ⟨n, _⟩ := vR (t := t) (cy := cy) d (fun k a e => by subst e; obtain ⟨k', a', rfl⟩ := Og i; exact l _ _ _ _ rfl rfl)
        (fun a e => by subst e; obtain ⟨a', rfl⟩ := Oh i; exact h2 _ _ rfl rfl) (fun e => by subst e; exact CC i)
      exact ⟨.bool b, by simp [n, Op.equal, DY hT w _ _ _ _ _ i _ _ d j Op.maxDepth (by decide)], by simp [ai]⟩
  · rename_i l h2;cases i : iB T 100 t x y with
    | none => simp [i] at h
    | some b =>
      simp only [i, Option.map_some] at h;obtain rfl := Option.some.inj h;obtain ⟨_, n⟩ := vR (t := t) (cy := cy) d (fun k a e => by subst e; obtain ⟨k', a', rfl⟩ := Og i; exact l _ _ _ _ rfl rfl)
        (fun a e => by subst e; obtain ⟨a', rfl⟩ := Oh i; exact h2 _ _ rfl rfl) (fun e => by subst e; exact CC i)
      exact ⟨.bool (!b), by simp [n, Op.equal, DY hT w _ _ _ _ _ i _ _ d j Op.maxDepth (by decide)], by simp [ai]⟩
  · cases h
theorem Tb {γ:bM} {op:UnOp} {x v:AV} {d:Value} (b:ai γ x d) (h:Uk op x=some v) (w:World) :
  ∃ c,(Op.unary op d).run P w=.ok c w/\ai γ v c:=by
 unfold Uk at h;split at h <;> try simp only [ai] at b
 ·subst b;obtain rfl:=Option.some.inj h;simp [Op.unary,Op.intArith,ai]
 ·subst b;simp only [bA] at h;obtain rfl:=Option.some.inj h;exact ⟨_,by simp only [Op.unary,Op.intBits];rfl,by simp [ai]⟩
 ·subst b;obtain rfl:=Option.some.inj h;simp [Op.unary,ai]
 ·cases h
theorem Ei {γ:bM} {t:TypeId} {x v:AV} {f:Nat} {j:Value} (k:ai γ x j) (h:t_ T t x f=some v) (w:World) :
  ∃ c,(Instr.fieldAt t j f).run P w=.ok c w/\ai γ v c:=by
 unfold t_ at h;split at h
 ·rename_i fields l o hu;simp only [ai] at k;obtain ⟨i,hi,rfl⟩:=k;cases e:fields[f]? with
  | none=>simp [e] at h
  | some fd =>
   simp only [e,Option.bind_some] at h;split at h
   ·rename_i n m;obtain rfl:=Option.some.inj h;refine ⟨.pointer (some ⟨i.b,i.d+o+fd.offset,none⟩),?_,by simp only [ai];exact ⟨i,hi,by rw [Nat.add_assoc]⟩⟩;simp [Instr.fieldAt,run_underlying hT hu,e,Instr.sureAddr,fieldPlace,run_sizeOf hT m,iC]
   ·cases h
 ·cases h
theorem Ej {γ:bM} {t:TypeId} {x ix v:AV} {p r:Value} (m:ai γ x p) (e:ai γ ix r) (h:ag T t x ix=some v) (w:World) :
  ∃ c,(Instr.indexAt t p r).run P w=.ok c w/\ai γ v c:=by
 unfold ag at h;split at h
 ·rename_i len elem l o k j hu;simp only [ai] at m e;obtain ⟨i,hi,rfl⟩:=m;subst e;cases hs:T.eU elem with
  | none=>simp [hs] at h
  | some n =>
   simp only [hs,Option.bind_some] at h;split at h
   ·rename_i hb;obtain rfl:=Option.some.inj h;refine ⟨.pointer (some ⟨i.b,i.d+o+j.toNat*n,none⟩),?_,by simp only [ai];exact ⟨i,hi,by rw [Nat.add_assoc]⟩⟩;simp [Instr.indexAt,run_underlying hT hu,Instr.sureAddr,asIntOf,run_sizeOf hT hs,iC,hb]
   ·cases h
 ·rename_i elem l o len cap ex k j hu;simp only [ai] at m e;obtain ⟨i,hi,rfl⟩:=m;subst e;cases hs:T.eU elem with
  | none=>simp [hs] at h
  | some n =>
   simp only [hs,Option.bind_some] at h;split at h
   ·rename_i hb;obtain rfl:=Option.some.inj h;refine ⟨.pointer (some ⟨i.b,i.d+o+j.toNat*n,none⟩),?_,by simp only [ai];exact ⟨i,hi,by rw [Nat.add_assoc]⟩⟩;simp [Instr.indexAt,run_underlying hT hu,asIntOf,run_sizeOf hT hs,iC,hb]
   ·cases h
 ·cases h
theorem Mt {γ:bM} {t:TypeId} {x ix v:AV} {p r:Value} (m:ai γ x p) (d:ai γ ix r) (h:jd T t x ix=some v) (w:World) :
  ∃ c,(Instr.index t p r).run P w=.ok c w/\ai γ v c:=by
 unfold jd at h;split at h
 ·rename_i len elem cs k j hu;simp only [ai] at m d;obtain ⟨y,rfl,o⟩:=m;subst d;cases hs:T.eU elem with
  | none=>simp [hs] at h
  | some n =>
   simp only [hs,Option.bind_some] at h;split at h
   ·rename_i hb;obtain ⟨c,e,hr⟩:=ov hT o h w;refine ⟨c,?_,hr⟩;simp [Instr.index,run_underlying hT hu,asIntOf,run_sizeOf hT hs,hb,e]
   ·cases h
 ·rename_i s k j hu;simp only [ai] at m d;subst m d;split at h
  ·rename_i hb;cases e:s[j.toNat]? with
   | none=>simp [e] at h
   | some b =>
    simp only [e,Option.map_some] at h;obtain rfl:=Option.some.inj h;refine ⟨.int .u8 b.toNat,?_,by simp [ai]⟩;have:(ByteArray.mk s.toArray)[j.toNat]? = some b:=by
     have i:j.toNat<s.length:=by
      rcases Nat.lt_or_ge j.toNat s.length with h | h
      ·exact h
      ·simp [List.getElem?_eq_none h] at e
     have l:j.toNat<(ByteArray.mk s.toArray).size:=by simpa [ByteArray.size] using i
     rw [getElem?_pos (ByteArray.mk s.toArray) j.toNat l];congr 1;have:s[j.toNat]=b:=by simpa [List.getElem?_eq_getElem i] using e
     rw [<- this];rfl
    simp [Instr.index,run_underlying hT hu,asIntOf,hb,this]
  ·cases h
 ·cases h
theorem Mu {γ:bM} {t:TypeId} {x v:AV} {f:Nat} {e:Value} (i:ai γ x e) (h:Ed T t x f=some v) (w:World) :
  ∃ c,(Instr.field t e f).run P w=.ok c w/\ai γ v c:=by
 unfold Ed at h;split at h
 ·rename_i fields cs hu;simp only [ai] at i;obtain ⟨j,rfl,b⟩:=i;cases d:fields[f]? with
  | none=>simp [d] at h
  | some fd =>
   simp only [d,Option.bind_some] at h;obtain ⟨c,k,hr⟩:=ov hT b h w;exact ⟨c,by simp [Instr.field,run_underlying hT hu,d,asAgg,k],hr⟩
 ·cases h
end
end Go.Am
end

section
namespace Go.Am
def zI (γ:bM):Option AV->Option Value->Prop
 | none,c=>c=none
 | some v,c=>∃ cv,c=some cv/\ai γ v cv
theorem ue {P:Program} {γ:bM} {y Y n:Nat} {v:AV} {c:Value} {code:BoundsCode} (hv:ai γ v c) (h:gC y v=some n) (b:y<=Y) (w:World) :
  (Instr.sliceBound c Y code).run P w=.ok n w/\n<=y:=by
 unfold gC at h;split at h
 ·rename_i k i;simp only [ai] at hv;subst hv;split at h
  ·rename_i hb;obtain rfl:=Option.some.inj h;have:0<=i/\i<=(Y:Int):=⟨hb.1,by omega⟩;exact ⟨by simp [Instr.sliceBound,asIntOf,this],by omega⟩
  ·cases h
 ·cases h
theorem JX {P:Program} {γ:bM} {y n:Nat} {v:Option AV} {c:Option Value} {code:BoundsCode} (hv:zI γ v c) (h:sM y v 0=some n) (w:World) :
  (match c with | some v=>Instr.sliceBound v y code | none=>pure 0:Sem Nat).run P w=.ok n w/\n<=y:=by
 cases v with
 | none=>obtain rfl:=hv;simp only [sM] at h;obtain rfl:=Option.some.inj h;exact ⟨rfl,by omega⟩
 | some v=>obtain ⟨cv,rfl,hr⟩:=hv;exact ue hr h (Nat.le_refl _) w
theorem ox {P:Program} {γ:bM} {len cap cap':Nat} {low high max:Option AV} {lo hi x:Option Value} {l h m:Nat} (isSlice:Bool) (y:zI γ low lo) (k:zI γ high hi) (hm:zI γ max x)
  (z:cap<=cap') (hb:cN len cap low high max=some (l,h,m)) (w:World) :
  (Instr.sliceBounds isSlice len cap' lo hi x).run P w=.ok (l,h,if max.isSome then m else cap') w/\l<=h/\h<=m/\(max.isSome=false->m=cap):=by
 unfold cN at hb;split at hb
 ·cases hb
 ·rename_i n;simp only [Option.bind_eq_some_iff,Option.map_eq_some_iff] at hb;obtain ⟨m',c,A,b,l',i,e⟩:=hb;obtain ⟨rfl,rfl,rfl⟩:l'=l/\A=h/\m'=m:=by simpa using e
  cases max with
  | some G =>
   obtain ⟨H,rfl,o⟩:=hm;cases high with
   | none=>simp at n
   | some B =>
    obtain ⟨C,rfl,d⟩:=k;simp only [sM] at c;simp only [pN] at b;obtain ⟨D,I⟩:=ue (P:=P) (code:=if isSlice then .slice3Acap else .slice3Alen) o c z w;obtain ⟨p,r⟩:=ue (P:=P) (code:=.slice3B) d b (Nat.le_refl _) w;obtain ⟨F,j⟩:=JX (P:=P) (code:=.slice3C) y i w;refine ⟨?_,j,r,by simp⟩;simp only [Instr.sliceBounds,Sem.run_bind,D,p,Result.andThen_ok,Option.isSome_some,if_true];cases lo <;> simp_all
  | none =>
   obtain rfl:=hm;simp only [sM] at c;obtain rfl:=Option.some.inj c;obtain ⟨F,j⟩:=JX (P:=P) (code:=.sliceB) y i w;cases high with
   | none =>
    obtain rfl:=k;simp only [pN] at b;split at b
    ·rename_i hle;obtain rfl:=Option.some.inj b;refine ⟨?_,j,hle,by simp⟩;simp only [Instr.sliceBounds,Sem.run_bind,Sem.run_pure,Result.andThen_ok,Option.isSome_none];cases lo <;> simp_all
    ·cases b
   | some B =>
    obtain ⟨C,rfl,d⟩:=k;simp only [pN] at b;obtain ⟨p,r⟩:=ue (P:=P) (code:=if isSlice then .sliceAcap else .sliceAlen) d b z w;refine ⟨?_,j,r,by simp⟩;simp only [Instr.sliceBounds,Sem.run_bind,Sem.run_pure,p,Result.andThen_ok,Option.isSome_none];cases lo <;> simp_all
theorem Mv {len cap:Nat} {low high max:Option AV} {l h m:Nat} (hb:cN len cap low high max=some (l,h,m)):m<=cap:=by
 unfold cN at hb;split at hb
 ·cases hb
 ·simp only [Option.bind_eq_some_iff,Option.map_eq_some_iff] at hb;obtain ⟨m',b,c,d,l',i,e⟩:=hb;obtain ⟨rfl,rfl,rfl⟩:l'=l/\c=h/\m'=m:=by simpa using e
  cases max with
  | none=>simp only [sM] at b;obtain rfl:=Option.some.inj b;omega
  | some v =>
   simp only [sM,gC] at b;split at b
   ·split at b
    ·obtain rfl:=Option.some.inj b;omega
    ·cases b
   ·cases b
section
variable {P:Program} {T:TT} (hT:TT.Ok P T)
include hT
theorem Mw {γ:bM} {t:TypeId} {x v:AV} {I:Value} {low high max:Option AV} {lo hi J:Option Value} (z:zI γ low lo) (A:zI γ high hi) (hm:zI γ max J)
  (y:ai γ x I) (h:aZ T t x low high max=some v) (w:World):∃ c,(Instr.sliceAt t I lo hi J).run P w=.ok c w/\ai γ v c:=by
 unfold aZ at h;split at h
 ·rename_i s hu;simp only [ai] at y;subst y;split at h
  ·cases h
  ·rename_i p;have B:max=none:=by cases max <;> simp_all
   subst B;obtain rfl:=hm;cases hb:cN s.length s.length low high none with
   | none=>simp [hb] at h
   | some r =>
    obtain ⟨l,j,m⟩:=r;simp only [hb,Option.map_some] at h;obtain rfl:=Option.some.inj h;obtain ⟨hr,F,h2,h3⟩:=ox (P:=P) false z A (show zI γ none none from rfl) (Nat.le_refl s.length) hb w;have G:(ByteArray.mk s.toArray).size=s.length:=by simp [ByteArray.size]
    refine ⟨.string ((ByteArray.mk s.toArray).extract l j),?_,?_⟩
    ·simp [Instr.sliceAt,Instr.slice,run_underlying hT hu,G,hr]
    ·simp only [ai];congr 1;apply ByteArray.ext;simp [List.extract_eq_take_drop]
 ·rename_i elem a len cap ex hu;cases hs:T.eU elem with
  | none=>simp [hs] at h
  | some n =>
   simp only [hs,Option.bind_some] at h;cases hb:cN len cap low high max with
   | none=>simp [hb] at h
   | some r =>
    obtain ⟨l,j,m⟩:=r;simp only [hb,Option.bind_some] at h;cases a with
    | none =>
     simp only [ai] at y;obtain ⟨rfl,rfl⟩:=y;obtain rfl:=Option.some.inj h;obtain ⟨hr,F,h2,h3⟩:=ox (P:=P) true z A hm (Nat.le_refl cap) hb w;have vS:(if max.isSome then m else cap)=m:=by
      split
      ·rfl
      ·rename_i q;exact (h3 (by simpa using q)).symm
     rw [vS] at hr;refine ⟨.slice none (j - l) (m - l),?_,by simp [ai]⟩;simp [Instr.sliceAt,Instr.slice,run_underlying hT hu,hr,run_sizeOf hT hs]
    | some L =>
     obtain ⟨b,o⟩:=L;simp only [ai] at y;obtain ⟨i,hi,rfl⟩:=y;obtain ⟨hr,F,h2,h3⟩:=ox (P:=P) (cap':=if ex then cap else cap+i.x) true z A hm (by split <;> omega) hb w;simp only at h;split at h
     ·rename_i hex;obtain rfl:=Option.some.inj h;have vS:(if max.isSome then m else if ex then cap else cap+i.x)=m:=by
       by_cases p:max.isSome=true
       ·rw [if_pos p]
       ·rw [if_neg p,if_pos (by simpa [p] using hex)];exact (h3 (by simpa using p)).symm
      rw [vS] at hr;refine ⟨.slice (some ⟨i.b,if m=l then i.d+o else i.d+o+l*n,none⟩) (j - l) (m - l),?_,?_⟩
      ·simp only [Instr.sliceAt,Instr.slice,Sem.run_bind,run_underlying hT hu,hr,run_sizeOf hT hs,Result.andThen_ok];by_cases e:m=l
       ·simp [e]
       ·simp [e,iC]
      ·simp only [ai];refine ⟨i,hi,?_⟩;by_cases e:m=l
       ·simp [e]
       ·simp [e,Nat.add_assoc]
     ·rename_i hex;have C:ex=false/\max.isSome=false:=by simpa using hex
      obtain ⟨rfl,p⟩:=C;have H:=h3 p;subst H;simp only [p,Bool.false_eq_true,if_false] at hr;split at h
      ·rename_i e;obtain rfl:=Option.some.inj h;subst e;refine ⟨.slice (some (if m+i.x=m then ⟨i.b,i.d+o,none⟩ else ⟨i.b,i.d+o+m*n,none⟩)) (j - m) (m+i.x - m),?_,?_⟩
       ·simp only [Instr.sliceAt,Instr.slice,Sem.run_bind,run_underlying hT hu,Bool.false_eq_true,if_false,hr,run_sizeOf hT hs,Result.andThen_ok];by_cases e:m+i.x=m
        ·simp [e]
        ·simp [iC];split <;> rfl
       ·simp only [ai];exact ⟨_,_,by rw [show j - m=0 by omega]⟩
      ·rename_i e;obtain rfl:=Option.some.inj h;refine ⟨.slice (some ⟨i.b,i.d+o+l*n,none⟩) (j - l) (m+i.x - l),?_,?_⟩
       ·simp only [Instr.sliceAt,Instr.slice,Sem.run_bind,run_underlying hT hu,Bool.false_eq_true,if_false,hr,run_sizeOf hT hs,Result.andThen_ok];have:¬ (m+i.x=l):=by omega
        simp [this,iC]
       ·simp only [ai];exact ⟨i,hi,by simp [Nat.add_assoc];omega⟩
 ·rename_i elem hu;simp only [ai] at y;obtain ⟨K,D,rfl⟩:=y;cases hs:T.eU elem with
  | none=>simp [hs] at h
  | some n =>
   simp only [hs,Option.bind_some] at h;cases hb:cN 0 0 low high max with
   | none=>simp [hb] at h
   | some r =>
    obtain ⟨l,j,m⟩:=r;simp only [hb,Option.map_some] at h;obtain rfl:=Option.some.inj h;obtain ⟨hr,F,h2,h3⟩:=ox (P:=P) (cap':=D) true z A hm (Nat.zero_le D) hb w;have B:=Mv hb;obtain rfl:m=0:=by omega
    obtain rfl:j=0:=by omega
    obtain rfl:l=0:=by omega
    refine ⟨.slice (some (if (if max.isSome then 0 else D)=0 then K else K.add (0*n))) 0 ((if max.isSome then 0 else D) - 0),?_,?_⟩
    ·simp only [Instr.sliceAt,Instr.slice,Sem.run_bind,run_underlying hT hu,hr,run_sizeOf hT hs,Result.andThen_ok];generalize (if max.isSome then 0 else D)=q;by_cases M:q=0 <;> simp [M]
    ·simp only [ai];exact ⟨_,_,rfl⟩
 ·rename_i k elem b o hu;simp only [ai] at y;obtain ⟨i,hi,rfl⟩:=y;cases hs:T.eU elem with
  | none=>simp [hs] at h
  | some n =>
   simp only [hs,Option.bind_some] at h;cases hb:cN k k low high max with
   | none=>simp [hb] at h
   | some r =>
    obtain ⟨l,j,m⟩:=r;simp only [hb,Option.map_some] at h;obtain rfl:=Option.some.inj h;obtain ⟨hr,F,h2,h3⟩:=ox (P:=P) false z A hm (Nat.le_refl k) hb w;have vS:(if max.isSome then m else k)=m:=by
     split
     ·rfl
     ·rename_i q;exact (h3 (by simpa using q)).symm
    rw [vS] at hr;refine ⟨.slice (some ⟨i.b,if m=l then i.d+o else i.d+o+l*n,none⟩) (j - l) (m - l),?_,?_⟩
    ·simp only [Instr.sliceAt,Sem.run_bind,run_underlying hT hu,Instr.sureAddr,Sem.run_pure,hr,run_sizeOf hT hs,Result.andThen_ok];by_cases e:m=l
     ·simp [e]
     ·simp [e,iC]
    ·simp only [ai];refine ⟨i,hi,?_⟩;by_cases e:m=l
     ·simp [e]
     ·simp [e,Nat.add_assoc]
 ·cases h
end
end Go.Am
end

section
namespace Go.Am
def G0 (γ:bM):List (Nat×AV)->List (Nat×Value)->Prop
 | [],c=>c=[]
 | (i,v)::ps,c=>∃ d ds,c=(i,d)::ds/\ai γ v d/\G0 γ ps ds
theorem sP (off:Nat):∀ (l:List Value) (i:Nat) (c:Array Value),(l.zipIdx i).foldl (fun cs p=>cs.setIfInBounds (off+p.2) p.1) c=JU c (off+i) l
 | [],_,_=>rfl
 | v::vs,i,c=>by simp only [List.zipIdx_cons,List.foldl_cons,JU];rw [sP off vs (i+1)];rfl
theorem Oi {γ:bM}:∀ {vs:List AV} {CU:List Value} {cs:List AV} {c:Array Value} {o:Nat},ak γ vs CU->ak γ cs c.toList->ak γ (qk cs o vs) (JU c o CU).toList
 | [],CU,cs,c,o,h,b=>by obtain rfl:=ak.gV.1 h;exact b
 | v::vs,CU,cs,c,o,h,b=>by
  obtain ⟨d,ds,rfl,hv,hs⟩:=ak.cD.1 h;simp only [qk,JU];refine Oi hs ?_;have:=b.set o hv;simpa using this
theorem xz {γ:bM} {place place':Nat->Option (Nat×Nat)} (y:∀ i q,place i=some q->place' i=some q):∀ {parts:List (Nat×AV)} {mZ:List (Nat×Value)} {cs:List AV} {c:Array Value} {r:List AV},
  G0 γ parts mZ->ak γ cs c.toList->jc place cs parts=some r->∃ c',Instr.fill place' c mZ=some c'/\ak γ r c'.toList/\r.length=cs.length
 | [],mZ,cs,c,r,h,m,b=>by
  obtain rfl:mZ=[]:=h;simp only [jc] at b;obtain rfl:=Option.some.inj b;exact ⟨c,rfl,m,rfl⟩
 | (i,v)::ps,mZ,cs,c,r,h,m,b=>by
  obtain ⟨d,ds,rfl,hv,hs⟩:=h;simp only [jc] at b;split at b
  ·rename_i off size A n o;split at b
   ·rename_i w;obtain ⟨rfl,k⟩:=fD o;have l:=hv.cells k;have hlen:=l.length;have x:=m.length;have j:¬ (d.cells.size≠size\/off+d.cells.size>c.size):=by
     simp only [Array.length_toList] at hlen x;omega
    have e:(d.cells.zipIdx.foldl (fun cs p=>cs.setIfInBounds (off+p.2) p.1) c)=JU c off d.cells.toList:=by
     rw [<- Array.foldl_toList];have:=sP off d.cells.toList 0 c;simpa using this
    obtain ⟨c',z,h2,h3⟩:=xz y (c:=JU c off d.cells.toList) hs (Oi l m) b;refine ⟨c',?_,h2,by rw [h3,gY]⟩;simp only [Instr.fill,y i _ n];rw [if_neg (by simpa using j)];rw [<- z,<- e]
   ·cases b
  ·cases b
theorem G7 {place:Nat->Option (Nat×Nat)}:∀ {parts:List (Nat×AV)} {cs r:List AV},jc place cs parts=some r->cs.all AV.one=true->r.all AV.one=true
 | [],cs,r,b,h=>by simp only [jc] at b;obtain rfl:=Option.some.inj b;exact h
 | (i,v)::ps,cs,r,b,h=>by
  simp only [jc] at b;split at b
  ·rename_i off size n l j;split at b
   ·rename_i c;obtain ⟨rfl,d⟩:=fD j;refine G7 b ?_;rw [List.all_eq_true];intro x m;obtain ⟨k,e⟩:=List.mem_iff_getElem?.1 m;rw [jH _ _ _ _ c.2] at e;split at e
    ·exact List.all_eq_true.1 d x (List.mem_of_getElem? e)
    ·exact List.all_eq_true.1 h x (List.mem_of_getElem? e)
   ·cases b
  ·cases b
theorem JY {P:Program} {α b:Type} {f:α->Sem b} {g:α->b} {w:World}:∀ (l:List α),(∀ x∈l,(f x).run P w=.ok (g x) w)->(l.mapM f).run P w=.ok (l.map g) w
 | [],_=>by simp
 | x::xs,h=>by
  have c:=h x (by simp);have h2:=JY xs (fun y d=>h y (List.mem_cons_of_mem _ d));simp [List.mapM_cons,c,h2]
section
variable {P:Program} {T:TT} (hT:TT.Ok P T) {B:Nat} {γ:bM} {s:AS} {w:World} (hr:Rel B γ s w)
include hT
theorem Mx {t:TypeId} {parts:List (Nat×AV)} {mZ:Array (Nat×Value)} {v:AV} (C:G0 γ parts mZ.toList) (h:aS T t parts=some v) :
  ∃ c,(Instr.build t mZ).run P w=.ok c w/\ai γ v c:=by
 unfold aS at h;simp only [Option.bind_eq_some_iff] at h;obtain ⟨z,F,zc,m,h⟩:=h;obtain ⟨G,d,o⟩:=iL hT F w;obtain ⟨rfl,e⟩:=fD m;have j:=(o γ).cells e;split at h
 ·rename_i fields hu;split at h
  ·rename_i l;simp only [Option.map_eq_some_iff] at h;obtain ⟨r,hr',rfl⟩:=h;have p:∀ (i:Nat) (q:Nat×Nat),(((fields[i]?).bind fun (f:Field)=>(T.eU f.type).map fun n=>(f.offset,n))=some q)->(fields.map fun f=>(f.offset,(T.eU f.type).getD 0))[i]? = some q:=by
    intro i q D;simp only [Option.bind_eq_some_iff,Option.map_eq_some_iff] at D;obtain ⟨f,y,n,b,rfl⟩:=D;simp [y,b]
   obtain ⟨c',A,h2,_⟩:=xz p C j hr';have hm:(fields.mapM fun (f:Field)=>do pure (f.offset,<- sizeOf f.type):Sem (Array (Nat×Nat))).run P w=.ok (fields.map fun f=>(f.offset,(T.eU f.type).getD 0)) w:=by
    rw [Array.mapM_eq_mapM_toList];have:=JY (P:=P) (w:=w) (f:=fun (f:Field)=>(do pure (f.offset,<- sizeOf f.type):Sem (Nat×Nat))) (g:=fun f=>(f.offset,(T.eU f.type).getD 0)) fields.toList (by
     intro f y;have H:=Array.all_eq_true'.1 l f (by simpa using y);obtain ⟨n,b⟩:=Option.isSome_iff_exists.1 H;simp [run_sizeOf hT b,b])
    simp only [Sem.run_map,this,Result.andThen_ok];congr 1;apply Array.ext';simp
   refine ⟨.agg c',?_,by simp only [ai];exact ⟨c',rfl,h2⟩⟩;have B:Instr.fill (fun x=>(fields.map fun f=>(f.offset,(T.eU f.type).getD 0))[x]?) G.cells mZ.toList=some c':=A;simp only [Instr.build,Sem.run_bind,d,run_underlying hT hu,hm,Result.andThen_ok,Sem.run_pure,B]
  ·cases h
 ·rename_i k elem hu;simp only [Option.bind_eq_some_iff,Option.map_eq_some_iff] at h;obtain ⟨n,b,r,hr',rfl⟩:=h;obtain ⟨c',A,h2,_⟩:=xz (place':=fun i=>some (i*n,n)) (fun _ _ h=>h) C j hr';refine ⟨.agg c',?_,by simp only [ai];exact ⟨c',rfl,h2⟩⟩;simp only [Instr.build,Sem.run_bind,d,run_underlying hT hu,run_sizeOf hT b,Result.andThen_ok,Sem.run_pure];simp [A]
 ·cases h
omit hT in
theorem Tc (z:List AV) (n k:Nat):(rep n z)[k]? = if k<n*z.length then z[k % z.length]? else none:=by
 induction n generalizing k with
 | zero=>simp [rep]
 | succ n c =>
  have e:rep (n+1) z=z++rep n z:=by simp [rep,List.replicate_succ]
  rw [e,List.getElem?_append];split
  ·rename_i b;have:k<(n+1)*z.length:=by
    have:z.length<=(n+1)*z.length:=Nat.le_mul_of_pos_left _ (by omega);omega
   rw [if_pos this,Nat.mod_eq_of_lt b]
  ·rename_i b;rw [c];have d:(n+1)*z.length=n*z.length+z.length:=by rw [Nat.add_mul,Nat.one_mul]
   by_cases h:k - z.length<n*z.length
   ·rw [if_pos h,if_pos (by omega)];congr 1;exact (Nat.mod_eq_sub_mod (by omega)).symm
   ·rw [if_neg h,if_neg (by omega)]
omit hT in
theorem uf (z:List AV) (n:Nat):(rep n z).length=n*z.length:=by
 simp [rep]
omit hT in
theorem Ek {γ:bM} {z:List AV} {b:Array Value} (l:ak γ z b.toList) (n:Nat) (o:z.length≠0\/n=0\/True) :
  ak γ (rep n z) ((Array.range (n*b.size)).map (b[· % b.size]!)).toList:=by
 have e:=l.length;simp only [Array.length_toList] at e;refine ak.eV.2 ⟨by rw [uf];simp [e],fun i v c hv m=>?_⟩;rw [Tc] at hv;split at hv
 ·rename_i hi;obtain ⟨cv,d,hr⟩:=l.get hv;have j:0<b.size:=by
   rcases Nat.eq_zero_or_pos b.size with h | h
   ·rw [e,h] at hi;simp at hi
   ·exact h
  have:c=cv:=by
   have k:i<n*b.size:=by rw [<- e];exact hi
   simp [k] at m;rw [<- m];have hm:i % b.size<b.size:=Nat.mod_lt _ j;rw [e] at d;simp [hm] at d;rw [getElem!_pos b _ hm];exact d
  rw [this];exact hr
 ·cases hv
omit hT in
theorem ug {z:List AV} (h:z.all AV.one=true) (n:Nat):(rep n z).all AV.one=true:=by
 simp only [rep,List.all_eq_true,List.mem_flatten];rintro x ⟨l,b,c⟩;obtain rfl:=(List.mem_replicate.1 b).2;exact List.all_eq_true.1 h x c
include hr
theorem CV {t:TypeId} {len:Nat} {parts:List (Nat×AV)} {mZ:Array (Nat×Value)} {v:AV} {s':AS} (G:G0 γ parts mZ.toList) (h:k_ T t len parts s=some (v,s')) :
  yB P B γ s w (Instr.buildSlice t len mZ) v s':=by
 unfold k_ at h;split at h
 ·rename_i elem hu;simp only [Option.bind_eq_some_iff] at h;obtain ⟨n,H,z,I,zc,y,h⟩:=h;split at h
  ·rename_i l;obtain ⟨rfl,d⟩:=fD y;obtain ⟨hlen,hbound⟩:=l;simp only [Option.map_eq_some_iff] at h;obtain ⟨cs,o,e⟩:=h;obtain ⟨rfl,rfl⟩:_/\_:=by simpa using e
   obtain ⟨F,A,C⟩:=iL hT I w;have p:=(C γ).cells d;have j:=p.length;simp only [Array.length_toList] at j
   let c0:Array Value:=(Array.range (len*n)).map ((if len*n=0 then #[] else F.cells)[· % (if len*n=0 then #[] else F.cells).size]!)
   have D:ak γ (rep len z.cells) c0.toList:=by
    by_cases b:len*n=0
    ·have:rep len z.cells=[]:=by
      apply List.eq_nil_of_length_eq_zero;rw [uf,hlen,b]
     rw [this];simp [c0,b];exact ak.nil
    ·have:=Ek p len (.inr (.inr trivial));simp only [c0,if_neg b];rw [<- hlen,j];exact this
   obtain ⟨c',r,h2,h3⟩:=xz (place':=fun i=>some (i*n,n)) (fun _ _ h=>h) G D o;have m:=G7 o (ug d len);obtain ⟨J,K⟩:=hr.vQ (w':={ w with heap:=w.heap.push (.cells c' elem) }) (g:=S_ T t len) (x:=0) (e:=elem) (c:=c') (ud h2 m (by intro k v h;simpa using h)) (fun _=>⟨by have:=h2.length;simp at this ⊢;omega,fun k M L=>by have:=h2.length;simp at this;omega⟩) (0,0) (by simp) (fun _=>rfl) (Nat.le_refl _) rfl;refine ⟨_,_,.slice (some ⟨w.heap.size,0,none⟩) len len,?_,by simp only [ai];exact ⟨_,cg _ _ _,by simp⟩,K,J⟩;have hb:¬ (len*n>2 ^ 24):=by omega
   simp only [Instr.buildSlice,Sem.run_bind,run_underlying hT hu,run_sizeOf hT H,Result.andThen_ok,if_neg hb];by_cases b:len*n=0
   ·simp only [if_pos b,Sem.run_pure,Result.andThen_ok];simp only [c0,if_pos b] at r;simp [b] at r ⊢;simp [r,je]
   ·simp only [if_neg b,Sem.run_bind,A,Sem.run_pure,Result.andThen_ok];simp only [c0,if_neg b] at r;simp [r,je]
  ·cases h
 ·cases h
end
end Go.Am
end

section
namespace Go.Am
def My:TypeDesc->Bool
 | .int _=>true
 | _=>false
theorem G8 (need:Nat):∀ (r c:Nat),c<=need->Builtin.growBy need r c<=need+(need+768) / 4
 | 0,c,h=>by simp only [Builtin.growBy];omega
 | r+1,c,h=>by
  simp only [Builtin.growBy];split
  ·omega
  ·by_cases h2:c+(c+768) / 4<=need
   ·exact G8 need r _ h2
   ·cases r with
    | zero=>simp only [Builtin.growBy];omega
    | succ r=>simp only [Builtin.growBy];rw [if_pos (by omega)];omega
theorem nextslicecap_le {need cap:Nat} (h:cap<=need):Builtin.nextslicecap need cap<=2*(need+256):=by
 unfold Builtin.nextslicecap;split
 ·omega
 ·split
  ·omega
  ·have:=G8 need 4 cap h;omega
theorem jf {γ:bM} {z:List AV} {b:Array Value} (c:ak γ z b.toList) (n:Nat):ak γ (rep n z) (Builtin.zeroCells b n).toList:=by
 have:=Ek c n (.inr (.inr trivial));simpa [Builtin.zeroCells] using this
theorem lO (b:Array Value) (n:Nat):(Builtin.zeroCells b n).size=n*b.size:=by simp [Builtin.zeroCells]
section
variable {P:Program} {T:TT} (hT:TT.Ok P T) {B:Nat} {γ:bM} {s:AS} {w:World} (hr:Rel B γ s w)
include hT hr
theorem Em {t:TypeId} {l c v:AV} {cl cc:Value} {s':AS} (I:ai γ l cl) (J:ai γ c cc) (h:ua T t l c s=some (v,s')) :
  yB P B γ s w (Instr.makeSlice t cl cc) v s':=by
 unfold ua at h;split at h
 ·rename_i elem W l X c hu;simp only [ai] at I J;subst I J;simp only [Option.bind_eq_some_iff] at h;obtain ⟨n,L,ql,y,z,M,zc,A,h⟩:=h;split at h
  ·rename_i m;obtain ⟨O,Y,h2,h3,h4⟩:=m;obtain ⟨rfl,rfl⟩:_/\_:=by simpa using h
   obtain ⟨rfl,i⟩:=fD A;obtain ⟨K,C,D⟩:=iL hT M w;have o:=(D γ).cells i;have j:=o.length;simp only [Array.length_toList] at j;obtain ⟨inf,p,d⟩:=qm hT y w;have r:∀ x:Int,0<=x->x<2 ^ 63->IntKind.i64.wrap x=x:=fun x Q R=>IntWalk.i64_in x (by omega);have F:=r l O (by omega);have G:=r c (by omega) h3
   let c0:Array Value:=(Array.range (c.toNat*n)).map ((if c.toNat*n=0 then #[] else K.cells)[· % (if c.toNat*n=0 then #[] else K.cells).size]!)
   have H:ak γ (rep c.toNat z.cells) c0.toList:=by
    by_cases b:c.toNat*n=0
    ·have:rep c.toNat z.cells=[]:=by
      apply List.eq_nil_of_length_eq_zero;rw [uf,h4,b]
     rw [this];simp [c0,b];exact ak.nil
    ·have:=Ek o c.toNat (.inr (.inr trivial));simp only [c0,if_neg b];rw [<- h4,j];exact this
   obtain ⟨S,U⟩:=hr.vQ (w':={ w with heap:=w.heap.push (.cells c0 elem) }) (g:=0) (x:=0) (e:=elem) (c:=c0) (ud H (ug i _) (by intro k v h;simpa using h)) (by simp) (0,0) (by simp) (fun _=>rfl) (Nat.le_refl _) rfl;refine ⟨_,_,.slice (some ⟨w.heap.size,0,none⟩) l.toNat c.toNat,?_,by simp only [ai];exact ⟨_,cg _ _ _,by simp⟩,U,S⟩;simp only [Instr.makeSlice,Sem.run_bind,run_underlying hT hu,asInt,asIntOf,Sem.run_pure,p,Result.andThen_ok,d,F,G];have e1:(decide (c<0)||decide ((ql:Int)*c>2 ^ 48))=false:=by simp;omega
   rw [e1];have e2:((false||decide (l<0))||decide (l>c))=false:=by simp;omega
   simp only [e2,Bool.false_eq_true,if_false,Sem.run_bind,run_askRoom,run_sizeOf hT L,Result.andThen_ok];by_cases b:c.toNat*n=0
   ·simp only [if_pos b,c0];simp [je]
   ·simp only [if_neg b,Sem.run_bind,C,Sem.run_pure,Result.andThen_ok,je,c0]
  ·cases h
 ·cases h
theorem sQ {size n:Nat} {x:AV} {A:Value} {new:List AV} (d:ai γ x A) (h:mX size n s x=some new) :
  ∃ c,(Builtin.firstCells size n A).run P w=.ok c w/\ak γ new c.toList/\new.all AV.one=true:=by
 unfold mX at h;split at h
 ·rename_i l o _ _ _;simp only [ai] at d;obtain ⟨i,hi,rfl⟩:=d;split at h
  ·rename_i r;subst r;obtain rfl:=Option.some.inj h;exact ⟨#[],by simp [Builtin.firstCells,loadCells,loadCellsFrom],ak.nil,rfl⟩
  ·obtain ⟨j,c,hj,e,z,k,_⟩:=lN hT hr h;rw [hi] at hj;obtain rfl:=Option.some.inj hj;exact ⟨c,e,z,k⟩
 ·simp only [ai] at d;obtain ⟨rfl,_⟩:=d;obtain rfl:=Option.some.inj h;exact ⟨#[],rfl,ak.nil,rfl⟩
 ·simp only [ai] at d;obtain ⟨a,m,rfl⟩:=d;split at h
  ·rename_i r;subst r;obtain rfl:=Option.some.inj h;exact ⟨#[],by simp [Builtin.firstCells,loadCells,loadCellsFrom],ak.nil,rfl⟩
  ·cases h
 ·rename_i b;simp only [ai] at d;subst d;obtain rfl:=Option.some.inj h;refine ⟨_,rfl,?_,by rw [List.all_eq_true];intro x d;obtain ⟨y,_,rfl⟩:=List.mem_map.1 d;rfl⟩;have:(ByteArray.extract ⟨b.toArray⟩ 0 n).data.toList=b.take n:=by simp [List.extract_eq_take_drop]
  refine ak.eV.2 ⟨by simp [this],fun i v c hv p=>?_⟩;rw [Array.toList_map,this] at p;simp only [List.getElem?_map] at hv p;cases hb:(b.take n)[i]? with
  | none=>simp [hb] at hv
  | some u =>
   simp only [hb,Option.map_some] at hv p;obtain rfl:=Option.some.inj hv;obtain rfl:=Option.some.inj p;simp [ai]
 ·cases h
omit hT hr in
theorem En {x:AV} {d:Value} {n:Nat} (b:ai γ x d) (h:CT x=some n):(Builtin.lenOf d).run P w=.ok n w:=by
 unfold CT at h;split at h
 ·rename_i a m c e;cases a with
  | none=>simp only [ai] at b;obtain ⟨rfl,_⟩:=b;obtain rfl:=Option.some.inj h;rfl
  | some a=>obtain ⟨l,o⟩:=a;simp only [ai] at b;obtain ⟨i,_,rfl⟩:=b;obtain rfl:=Option.some.inj h;rfl
 ·simp only [ai] at b;obtain ⟨a,m,rfl⟩:=b;obtain rfl:=Option.some.inj h;rfl
 ·simp only [ai] at b;subst b;obtain rfl:=Option.some.inj h;simp [Builtin.lenOf,ByteArray.size]
 ·cases h
theorem O8 {t xt:TypeId} {dst x v:AV} {cd z:Value} {s':AS} (hd:ai γ dst cd) (K:ai γ x z) (h:qt T t dst x s=some (v,s')) (L:TypeId) :
  yB P B γ s w (Builtin.copy_ #[t,xt] L #[cd,z]) v s':=by
 unfold qt at h;split at h
 ·rename_i elem hu;simp only [Option.bind_eq_some_iff] at h;obtain ⟨size,hs,m,hm,d,p,new,A,h⟩:=h;obtain ⟨c,H,r,C⟩:=sQ hT hr K A;have y:=En (P:=P) (w:=w) K hm;have M:=En (P:=P) (w:=w) hd p;split at h
  ·rename_i l o len cap ex;simp only [ai] at hd;obtain ⟨i,hi,rfl⟩:=hd;obtain rfl:len=d:=by simpa [CT] using p
   have n:(Builtin.firstCells size (Nat.min m len) z).run P w=.ok c w:=H;have body:∀ w',(storeCells ⟨i.b,i.d+o,none⟩ c.toList).run P w=.ok () w'->(Builtin.copy_ #[t,xt] L #[.slice (some ⟨i.b,i.d+o,none⟩) len (if ex then cap else cap+i.x),z]).run P w=.ok (goInt ((min m len:Nat):Int)) w':=by
    intro w' I;simp only [Builtin.copy_,List.getElem?_toArray,List.getElem?_cons_zero,List.getElem?_cons_succ,Sem.run_bind,run_underlying hT hu,Result.andThen_ok,y,run_sizeOf hT hs,n,I,Sem.run_pure]
   split at h
   ·rename_i J;subst J;obtain ⟨rfl,rfl⟩:_/\_:=by simpa using h
    have:c.toList=[]:=ak.gV.1 r;exact yB.val hr (body w (by rw [this];rfl)) (by simp [ai,goInt])
   ·simp only [Option.map_eq_some_iff] at h;obtain ⟨s'',O,e⟩:=h;obtain ⟨rfl,rfl⟩:_/\_:=by simpa using e
    obtain ⟨j,w',hj,D,F,hr'⟩:=DX hT hr O r C;rw [hi] at hj;obtain rfl:=Option.some.inj hj;exact ⟨γ,w',_,body w' D,by simp [ai,goInt],F,hr'⟩
  ·rename_i len cap ex;simp only [ai] at hd;obtain ⟨rfl,_⟩:=hd;obtain rfl:len=d:=by simpa [CT] using p
   obtain ⟨rfl,rfl⟩:_/\_:=by simpa using h
   have n:(Builtin.firstCells size (Nat.min m len) z).run P w=.ok c w:=H;refine yB.val hr (cv:=goInt ((min m len:Nat):Int)) ?_ (by simp [ai,goInt]);simp only [Builtin.copy_,List.getElem?_toArray,List.getElem?_cons_zero,List.getElem?_cons_succ,Sem.run_bind,run_underlying hT hu,Result.andThen_ok,y,run_sizeOf hT hs,n,Sem.run_pure]
  ·simp only [ai] at hd;obtain ⟨a,k,rfl⟩:=hd;obtain rfl:0=d:=by simpa [CT] using p
   split at h
   ·rename_i J;subst J;obtain ⟨rfl,rfl⟩:_/\_:=by simpa using h
    have G:c.toList=[]:=ak.gV.1 r;have n:(Builtin.firstCells size (Nat.min m 0) z).run P w=.ok c w:=H;refine yB.val hr (cv:=goInt ((min m 0:Nat):Int)) ?_ (by simp [ai,goInt]);simp only [Builtin.copy_,List.getElem?_toArray,List.getElem?_cons_zero,List.getElem?_cons_succ,Sem.run_bind,run_underlying hT hu,Result.andThen_ok,y,run_sizeOf hT hs,n,G,storeCells,Sem.run_pure]
   ·cases h
  ·cases h
 ·cases h
omit hr in
theorem rB {t xt elem : TypeId} {i : TypeDesc} {size len cap' n : Nat} {base : Option Addr} {j : Value} {c : Array Value} {w' : World} (hu : T.cR t = some (.slice elem)) (k : T.cR xt = some i)
    (b : My i = false) (hs : T.eU elem = some size) (l : (Builtin.lenOf j).run P w = .ok n w) (m : (Builtin.firstCells size n j).run P w = .ok c w) (e : len + n <= cap') (o : TypeId)
    (d : (match base with | some a => storeCells (a.add (len * size)) c.toList | none => pure () : Sem Unit).run P w = .ok () w') :
    (Builtin.append_ #[t, xt] o #[.slice base len cap', j]).run P w = .ok (.slice base (len + n) cap') w' := by
  cases i <;> first
    | (cases b; done)
    | (simp only [Builtin.append_, List.getElem?_toArray, List.getElem?_cons_zero, List.getElem?_cons_succ, Sem.run_bind, run_underlying hT hu, run_underlying hT k, run_sizeOf hT hs, Result.andThen_ok, Sem.run_pure, Bool.false_eq_true, if_false, l, if_pos e, Bool.not_false, if_true, m]
       cases base with
       | none => simp only at d ⊢; cases d; rfl
       | some a => simp only at d ⊢; simp [d])
omit hr in
theorem JZ {t xt elem : TypeId} {o : TypeDesc} {size ql len cap' n : Nat} {base : Option Addr} {p y : Value} (hu : T.cR t = some (.slice elem)) (r : T.cR xt = some o)
    (d : My o = false) (hs : T.eU elem = some size) (m : T.Gb elem = some ql) (x : (Builtin.lenOf p).run P w = .ok n w) (A : ∀ w, (zeroValue elem).run P w = .ok y w)
    (l : ¬ len + n <= cap') (B : len + n <= 2 ^ 40) (C : 2 * ((len + n + 256) * ql) <= 2 ^ 48) (D : TypeId) :
    ∃ wd cU, (wd.heap = w.heap /\ Env w wd) /\ len + n <= cU /\ ∀ old new, (Builtin.firstCells size len (.slice base len cap')).run P wd = .ok old wd -> (Builtin.firstCells size n p).run P wd = .ok new wd ->
      (Builtin.append_ #[t, xt] D #[.slice base len cap', p]).run P w = .ok (.slice (some ⟨w.heap.size, 0, none⟩) (len + n) cU)
        { wd with heap := wd.heap.push (.cells (old ++ new ++ Builtin.zeroCells y.cells (cU - (len + n))) elem) } := by
  have F : (Question.appendCap (len + n) cap' elem).forced = false := rfl;refine ⟨{ w with drawn := w.drawn + 1 }, (Question.appendCap (len + n) cap' elem).cut (w.tape w.drawn (Question.appendCap (len + n) cap' elem)), ⟨rfl, rfl, rfl, rfl⟩, Nat.le_add_right _ _, fun old new G H => ?_⟩;obtain ⟨inf, c, e⟩ := qm hT m w;have b : ∀ w, (typeInfo elem).run P w = .ok inf w := by
    intro w2;obtain ⟨z, b, _⟩ := qm hT m w2;have e1 : (typeInfo elem).run P w = (match P.info? elem with | some i => .ok i w | none => .halt (.stuck "no such type") w) := by
      simp only [typeInfo, Sem.run_bind, run_program, Result.andThen_ok]; cases P.info? elem <;> rfl
    have e2 : (typeInfo elem).run P w2 = (match P.info? elem with | some i => .ok i w2 | none => .halt (.stuck "no such type") w2) := by
      simp only [typeInfo, Sem.run_bind, run_program, Result.andThen_ok]; cases P.info? elem <;> rfl
    rw [e1] at c; rw [e2];cases hi : P.info? elem with
    | none => rw [hi] at c; cases c
    | some i => rw [hi] at c; cases c; rfl
  have j : ¬ (((len + n : Nat) : Int) > IntKind.i64.max /\ ((false = true) \/ inf.bytes = 0)) := by
    have : IntKind.i64.max = 9223372036854775807 := rfl;rw [this]; omega
  have k : ¬ (Builtin.nextslicecap (len + n) cap' * inf.bytes > 2 ^ 48) := by
    have I := nextslicecap_le (need := len + n) (cap := cap') (by omega);have h2 : Builtin.nextslicecap (len + n) cap' * inf.bytes <= 2 * (len + n + 256) * ql := by rw [e]; exact Nat.mul_le_mul_right _ I
    have h3 : 2 * (len + n + 256) * ql = 2 * ((len + n + 256) * ql) := by rw [Nat.mul_assoc]
    omega
  cases o <;> first
    | (cases d; done)
    | (simp only [Builtin.append_, List.getElem?_toArray, List.getElem?_cons_zero, List.getElem?_cons_succ, Sem.run_bind, run_underlying hT hu, run_underlying hT r, run_sizeOf hT hs, Result.andThen_ok, Sem.run_pure, Bool.false_eq_true, if_false, x, if_neg l, Bool.not_false, if_true, b]
       rw [if_neg (by simpa using j)];simp only [Sem.run_bind, b, Result.andThen_ok];rw [if_neg k];simp only [Sem.run_bind, run_choose, F, Bool.false_eq_true, if_false, Result.andThen_ok, b, run_askRoom, G, H, A, je, Sem.run_pure])
omit hT hr in
theorem Mz {a b:List AV} (c:a.all AV.one=true) (h2:b.all AV.one=true):(a++b).all AV.one=true:=by simp [c,h2]
theorem Eo {elem:TypeId} {wd:World} {old new:List AV} {co b j:Array Value} {size need cU x:Nat} (K:wd.heap=w.heap) (y:Env w wd) (I:ak γ old co.toList) (J:ak γ new b.toList)
  (z:old.all AV.one=true) (A:new.all AV.one=true) (L:cU=need+x) (C:j.size=size) {zc:List AV} (D:ak γ zc j.toList) (F:zc.all AV.one=true) :
  Rel B (gX γ s.nl ⟨w.heap.size,0,x⟩) (s.new (.cells (old++new) size false)) { wd with heap:=wd.heap.push (.cells (co++b++Builtin.zeroCells j (cU - need)) elem) } /\
   fM B γ s w (gX γ s.nl ⟨w.heap.size,0,x⟩) (s.new (.cells (old++new) size false)) { wd with heap:=wd.heap.push (.cells (co++b++Builtin.zeroCells j (cU - need)) elem) }:=by
 have l:=I.length;have m:=J.length;simp only [Array.length_toList] at l m;refine hr.vQ (w':={ wd with heap:=wd.heap.push (.cells (co++b++Builtin.zeroCells j (cU - need)) elem) }) (g:=size) (x:=x) (e:=elem) (c:=co++b++Builtin.zeroCells j (cU - need))
  (ud (I.append J) (Mz z A) ?_) ?_ (0,0) (by simp) (fun _=>rfl) (Nat.le_refl _) (by simp [K]) y
 ·intro k v n;have d:k<co.size+b.size:=by
   rcases Nat.lt_or_ge k (co.size+b.size) with h | h
   ·exact h
   ·rw [List.getElem?_eq_none (by simp;omega)] at n;cases n
  rw [<- Array.getElem?_toList];simp only [Array.toList_append];rw [List.getElem?_append_left (by simpa using d)];exact n
 ·intro _;refine ⟨?_,fun k n G=>?_⟩
  ·simp only [Array.size_append,lO,List.length_append,l,m,C];rw [show cU - need=x by omega]
  ·rw [List.length_append,l,m] at n;rw [Array.getElem?_append_right (by simpa using n)];have d:k - (co++b).size<(Builtin.zeroCells j (cU - need)).size:=by simp only [Array.size_append] at G ⊢;omega
   rw [Array.getElem?_eq_getElem d];have o:=jf D (cU - need);have H:=o.length;simp only [Array.length_toList] at H;have i:k - (co++b).size<(rep (cU - need) zc).length:=by omega
   obtain ⟨c',p,r⟩:=o.get (List.getElem?_eq_getElem i);rw [Array.getElem?_toList,Array.getElem?_eq_getElem d] at p;obtain rfl:=Option.some.inj p;exact ⟨_,_,List.all_eq_true.1 (ug F _) _ (List.getElem_mem i),rfl,r⟩
theorem vT {l o len cap n g:Nat} {cs new old:List AV} {c:Array Value} {i:CI} (U:s.h l=some (.cells cs g false)) (hi:γ l=some i) (J:g≠0) (am:o+cap*g=cs.length) (K:new.length=n*g) (z:ak γ new c.toList) (D:new.all AV.one=true) (m:aD s l o (len*g)=some old) (W:¬ len+n<=cap) (A:len+n<=cap+i.x) :
  ∃ w',(storeCells ⟨i.b,i.d+o+len*g,none⟩ c.toList).run P w=.ok () w'/\Rel B (gX γ s.nl ⟨i.b,i.d+o,cap+i.x - (len+n)⟩) ((s.kill l).new (.cells (old++new) g false)) w'/\fM B γ s w (gX γ s.nl ⟨i.b,i.d+o,cap+i.x - (len+n)⟩) ((s.kill l).new (.cells (old++new) g false)) w':=by
 obtain ⟨j,hj,hO,hB⟩:=hr.obj l _ U;rw [hi] at hj;obtain rfl:=Option.some.inj hj;obtain ⟨ca,e,fz,hb,F,X,G,L⟩:=hO;have Y:=(G J).1;have Z:=z.length;simp only [Array.length_toList] at Z;have r:old.length=len*g:=by obtain ⟨_,_,_,_,_,_,_,_,_,hh⟩:=Oe hT hr m;exact hh
 have hmul:(len+n)*g<=(cap+i.x)*g:=Nat.mul_le_mul_right _ A;have e1:(len+n)*g=len*g+n*g:=Nat.add_mul _ _ _;have e2:(cap+i.x)*g=cap*g+i.x*g:=Nat.add_mul _ _ _;have y:∀ v∈c.toList,v.oneCell'=true:=by
  intro v hm;obtain ⟨k,p⟩:=List.mem_iff_getElem?.1 hm;have H:k<new.length:=by
   rcases Nat.lt_or_ge k c.toList.length with h | h
   ·have:=z.length;omega
   ·simp [List.getElem?_eq_none h] at p
  have M:=List.getElem?_eq_getElem H;obtain ⟨c',C,hr'⟩:=z.get M;rw [p] at C;obtain rfl:=Option.some.inj C;exact hr'.one (List.all_eq_true.1 D _ (List.mem_of_getElem? M))
 obtain ⟨w',O,Q,ab⟩:=qu P (b:=i.b) (o:=i.d+o+len*g) c.toList 0 w ca hb (by simp only [Array.length_toList];omega) (X rfl) y;have ad:=kO.lt (γ:=γ) (o:=.cells cs g false) ⟨ca,e,fz,hb,F,X,G,L⟩;have hle:bM.le γ (gX γ s.nl ⟨i.b,i.d+o,cap+i.x - (len+n)⟩):=bM.tZ hr.JQ;have ae:kO (gX γ s.nl ⟨i.b,i.d+o,cap+i.x - (len+n)⟩) w' ⟨i.b,i.d+o,cap+i.x - (len+n)⟩ (.cells (old++new) g false):=by
  refine ⟨JU ca (i.d+o+len*g+0) c.toList,e,fz,by simp only;rw [Q];simp [ad],fun k v p=>?_,fun _=>by rw [sO];exact X rfl,fun _=>⟨?_,fun k p I=>?_⟩,L⟩
  ·rw [zH _ _ _ _ (by simp only [Array.length_toList];omega)];rw [List.getElem?_append] at p;split at p
   ·rename_i H;simp only;rw [if_neg (by omega)];have al:cs[o+k]? = some v:=by
     unfold aD at m;rw [U] at m;simp only at m;split at m
     ·obtain rfl:=Option.some.inj m;rw [List.getElem?_take,List.getElem?_drop] at p;split at p
      ·exact p
      ·cases p
     ·cases m
    obtain ⟨R,cv,h2,h3⟩:=F _ v al;exact ⟨R,cv,by rw [<- h2];congr 1;omega,h3.mono hle⟩
   ·rename_i H;obtain ⟨c',C,hr'⟩:=z.get p;have an:k - old.length<new.length:=by
     rcases Nat.lt_or_ge (k - old.length) new.length with h | h
     ·exact h
     ·simp [List.getElem?_eq_none h] at p
    simp only;rw [if_pos (by simp only [Array.length_toList];omega)];refine ⟨List.all_eq_true.1 D _ (List.mem_of_getElem? p),c',?_,hr'.mono hle⟩;rw [<- C];congr 1;omega
  ·rw [sO,Y,List.length_append,r,K];simp only;rw [Nat.mul_sub_right_distrib];omega
  ·simp only at p I ⊢;rw [sO] at I;rw [List.length_append,r,K] at p;rw [zH _ _ _ _ (by simp only [Array.length_toList];omega),if_neg (by simp only [Array.length_toList];omega)];rcases Nat.lt_or_ge k (i.d+cs.length) with S | S
   ·obtain ⟨R,cv,h2,h3⟩:=F (k - i.d) _ (List.getElem?_eq_getElem (show k - i.d<cs.length by omega));exact ⟨_,cv,R,by rw [<- h2];congr 1;omega,h3.mono hle⟩
   ·obtain ⟨v,cv,R,h2,h3⟩:=(G J).2 k S I;exact ⟨v,cv,R,h2,h3.mono hle⟩
 obtain ⟨g1,g2⟩:=hr.take U rfl rfl hi (i':=⟨i.b,i.d+o,cap+i.x - (len+n)⟩) rfl Q ae ab;exact ⟨w',O,g1,g2⟩
omit hr in
theorem zJ {t xt elem:TypeId} {D:IntKind} {size ql len cap':Nat} {base:Option Addr} {k:Int} {o:Value} (hu:T.cR t=some (.slice elem)) (y:T.cR xt=some (.int D))
  (hs:T.eU elem=some size) (p:T.Gb elem=some ql) (A:∀ w,(zeroValue elem).run P w=.ok o w) (z:o.cells.size=size) (F:0<=k)
  (m:¬ len+k.toNat<=cap') (G:len+k.toNat<=2 ^ 40) (H:2*((len+k.toNat+256)*ql)<=2 ^ 48) (I:TypeId) :
  ∃ wd cU,(wd.heap=w.heap/\Env w wd)/\len+k.toNat<=cU/\∀ old,(Builtin.firstCells size len (.slice base len cap')).run P wd=.ok old wd ->
   (Builtin.append_ #[t,xt] I #[.slice base len cap',.int .i64 k]).run P w=.ok (.slice (some ⟨w.heap.size,0,none⟩) (len+k.toNat) cU)
    { wd with heap:=wd.heap.push (.cells (old++Builtin.zeroCells o.cells k.toNat++Builtin.zeroCells o.cells (cU - (len+k.toNat))) elem) }:=by
 have J:(Question.appendCap (len+k.toNat) cap' elem).forced=false:=rfl;refine ⟨{ w with drawn:=w.drawn+1 },(Question.appendCap (len+k.toNat) cap' elem).cut (w.tape w.drawn (Question.appendCap (len+k.toNat) cap' elem)),⟨rfl,rfl,rfl,rfl⟩,Nat.le_add_right _ _,fun old K=>?_⟩;obtain ⟨inf,c,d⟩:=qm hT p w;have b:∀ w,(typeInfo elem).run P w=.ok inf w:=by
  intro w2;obtain ⟨B,b,_⟩:=qm hT p w2;have e1 : (typeInfo elem).run P w = (match P.info? elem with | some i => .ok i w | none => .halt (.stuck "no such type") w) := by
   simp only [typeInfo,Sem.run_bind,run_program,Result.andThen_ok];cases P.info? elem <;> rfl
  have e2 : (typeInfo elem).run P w2 = (match P.info? elem with | some i => .ok i w2 | none => .halt (.stuck "no such type") w2) := by
   simp only [typeInfo,Sem.run_bind,run_program,Result.andThen_ok];cases P.info? elem <;> rfl
  rw [e1] at c;rw [e2];cases hi:P.info? elem with
  | none=>rw [hi] at c;cases c
  | some i=>rw [hi] at c;cases c;rfl
 have r:IntKind.i64.max=9223372036854775807:=rfl;have n:IntKind.i64.wrap k=k:=IntWalk.i64_in k (by omega);have e:¬ (((len+k.toNat:Nat):Int)>IntKind.i64.max/\((true=true)\/inf.bytes=0)):=by
  rw [r];omega
 have j:¬ (Builtin.nextslicecap (len+k.toNat) cap'*inf.bytes>2 ^ 48):=by
  have C:=nextslicecap_le (need:=len+k.toNat) (cap:=cap') (by omega);have h2:Builtin.nextslicecap (len+k.toNat) cap'*inf.bytes<=2*(len+k.toNat+256)*ql:=by rw [d];exact Nat.mul_le_mul_right _ C
  have h3:2*(len+k.toNat+256)*ql=2*((len+k.toNat+256)*ql):=by rw [Nat.mul_assoc]
  omega
 have l:¬ (k*(inf.bytes:Int)>2 ^ 48):=by
  rw [d];have C:k.toNat*ql<=(len+k.toNat+256)*ql:=Nat.mul_le_mul_right _ (by omega);have h2:k*(ql:Int)=((k.toNat*ql:Nat):Int):=by rw [Int.natCast_mul,Int.toNat_of_nonneg F]
  rw [h2];omega
 have x:∀ w,((if k.toNat*size=0 then pure #[] else do pure (Builtin.zeroCells (<- zeroValue elem).cells k.toNat)):Sem (Array Value)).run P w=.ok (Builtin.zeroCells o.cells k.toNat) w:=by
  intro w;split
  ·rename_i L;have:Builtin.zeroCells o.cells k.toNat=#[]:=Array.eq_empty_of_size_eq_zero (by rw [lO,z];exact L);rw [this];rfl
  ·simp only [Sem.run_bind,A,Result.andThen_ok,Sem.run_pure]
 simp only [Builtin.append_,List.getElem?_toArray,List.getElem?_cons_zero,List.getElem?_cons_succ,Sem.run_bind,run_underlying hT hu,run_underlying hT y,run_sizeOf hT hs,Result.andThen_ok,Sem.run_pure,asInt,asIntOf,if_true,n,b];rw [if_neg (by omega)];simp only [Sem.run_bind,Sem.run_pure,Result.andThen_ok,b];rw [if_neg l];simp only [Sem.run_bind,Sem.run_pure,Result.andThen_ok,b,if_neg m,Bool.not_true,Bool.false_eq_true,if_false];rw [if_neg (by simpa using e)];simp only [Sem.run_bind,b,Result.andThen_ok,Sem.run_pure];rw [if_neg j];simp only [Sem.run_bind,run_choose,J,Bool.false_eq_true,if_false,Result.andThen_ok,b,run_askRoom,K,x,A,je,Sem.run_pure]
omit hr in
theorem zK {t xt elem:TypeId} {r:IntKind} {size ql len cap':Nat} {base:Option Addr} {k:Int} {j:Value} {w':World} (hu:T.cR t=some (.slice elem)) (n:T.cR xt=some (.int r))
  (hs:T.eU elem=some size) (o:T.Gb elem=some ql) (x:∀ w,(zeroValue elem).run P w=.ok j w) (p:j.cells.size=size) (y:0<=k)
  (e:len+k.toNat<=cap') (z:len+k.toNat<=2 ^ 40) (A:2*((len+k.toNat+256)*ql)<=2 ^ 48) (B:TypeId)
  (b:(match base with | some a=>storeCells (a.add (len*size)) (Builtin.zeroCells j.cells k.toNat).toList | none=>pure ():Sem Unit).run P w=.ok () w') :
  (Builtin.append_ #[t,xt] B #[.slice base len cap',.int .i64 k]).run P w=.ok (.slice base (len+k.toNat) cap') w':=by
 obtain ⟨inf,l,c⟩:=qm hT o w;have i:IntKind.i64.wrap k=k:=IntWalk.i64_in k (by omega);have d:¬ (k*(inf.bytes:Int)>2 ^ 48):=by
  rw [c];have D:k.toNat*ql<=(len+k.toNat+256)*ql:=Nat.mul_le_mul_right _ (by omega);have h2:k*(ql:Int)=((k.toNat*ql:Nat):Int):=by rw [Int.natCast_mul,Int.toNat_of_nonneg y]
  rw [h2];omega
 have m:∀ w,((if k.toNat*size=0 then pure #[] else do pure (Builtin.zeroCells (<- zeroValue elem).cells k.toNat)):Sem (Array Value)).run P w=.ok (Builtin.zeroCells j.cells k.toNat) w:=by
  intro w;split
  ·rename_i C;have:Builtin.zeroCells j.cells k.toNat=#[]:=Array.eq_empty_of_size_eq_zero (by rw [lO,p];exact C);rw [this];rfl
  ·simp only [Sem.run_bind,x,Result.andThen_ok,Sem.run_pure]
 simp only [Builtin.append_,List.getElem?_toArray,List.getElem?_cons_zero,List.getElem?_cons_succ,Sem.run_bind,run_underlying hT hu,run_underlying hT n,run_sizeOf hT hs,Result.andThen_ok,Sem.run_pure,asInt,asIntOf,if_true,i];rw [if_neg (by omega)];simp only [Sem.run_bind,Sem.run_pure,Result.andThen_ok,l];rw [if_neg d];simp only [Sem.run_bind,Sem.run_pure,Result.andThen_ok,if_pos e,Bool.not_true,Bool.false_eq_true,if_false,m];cases base with
 | none=>simp only at b ⊢;cases b;rfl
 | some a=>simp only at b ⊢;simp [b]
theorem HT {t xt elem:TypeId} {xk:IntKind} {dst x v:AV} {cd cx:Value} {s':AS} (hu:T.cR t=some (.slice elem)) (H:T.cR xt=some (.int xk)) (hd:ai γ dst cd) (Z:ai γ x cx) (h:sN T elem dst x s=some (v,s')) (R:TypeId) :
  yB P B γ s w (Builtin.append_ #[t,xt] R #[cd,cx]) v s':=by
 unfold sN at h;simp only [Option.bind_eq_some_iff] at h;obtain ⟨size,hs,ql,I,z,hz,zc,ab,h⟩:=h;obtain ⟨rfl,c⟩:=fD ab;split at h
 ·rename_i base len cap k;split at h
  ·cases h
  ·rename_i j;simp only [not_or,Nat.not_lt,Int.not_lt,Decidable.not_not,gt_iff_lt,ne_eq] at j;obtain ⟨S,A,C,ad,ae⟩:=j;simp only [Option.map_eq_some_iff] at h;obtain ⟨old,hold,h⟩:=h;obtain ⟨rfl,rfl⟩:_/\_:=by simpa using h
   obtain ⟨r,D,m,y⟩:∃ r:Value,(∀ w,(zeroValue elem).run P w=.ok r w)/\r.cells.size=size/\ak γ z.cells r.cells.toList:=by
    obtain ⟨inf,r,hi,m,F⟩:=hT.rY elem z hz;refine ⟨r,fun w=>by simp [zeroValue,typeInfo,hi,m],?_,(F γ).cells c⟩;have:=((F γ).cells c).length;simp only [Array.length_toList] at this;omega
   simp only [ai] at Z;subst Z;obtain ⟨ca,al⟩:∃ ca,cd=.slice ca len cap:=by
    cases base with
    | none=>simp only [ai] at hd;exact ⟨none,hd.1⟩
    | some a=>obtain ⟨l,o⟩:=a;simp only [ai] at hd;obtain ⟨i,_,e⟩:=hd;exact ⟨_,by simpa using e⟩
   subst al;obtain ⟨wd,cU,⟨G,J⟩,am,p⟩:=zJ hT (w:=w) (base:=ca) (len:=len) (cap':=cap) (k:=k) hu H hs I D m A ae C (by omega) R;have K:Rel B γ s wd:=hr.of_heap G;obtain ⟨co,L,M,O⟩:=sQ hT K hd hold;obtain ⟨U,W⟩:=Eo (P:=P) hT hr (elem:=elem) (size:=size) (need:=len+k.toNat) (cU:=cU) (x:=cU - (len+k.toNat)) G J M (jf y k.toNat) O (ug c _) (by omega) m y c;refine ⟨_,_,_,p co L,?_,W,U⟩;simp only [ai];refine ⟨_,cg _ _ _,?_⟩;simp only [Bool.false_eq_true,if_false];rw [show len+k.toNat+(cU - (len+k.toNat))=cU by omega]
 ·rename_i l o len cap k;split at h
  ·cases h
  ·rename_i j;simp only [not_or,Nat.not_lt,Int.not_lt,Decidable.not_not,gt_iff_lt,ne_eq] at j;obtain ⟨S,A,C,ad,rfl⟩:=j;obtain ⟨r,D,m,y⟩:∃ r:Value,(∀ w,(zeroValue elem).run P w=.ok r w)/\r.cells.size=size/\ak γ z.cells r.cells.toList:=by
    obtain ⟨inf,r,hi,m,F⟩:=hT.rY elem z hz;refine ⟨r,fun w=>by simp [zeroValue,typeInfo,hi,m],?_,(F γ).cells c⟩;have:=((F γ).cells c).length;simp only [Array.length_toList] at this;omega
   simp only [ai] at Z;subst Z;have an:=hd;simp only [ai] at hd;obtain ⟨i,hi,rfl⟩:=hd;split at h
   ·rename_i X;obtain ⟨rfl,rfl⟩:_/\_:=by simpa using h
    have Y:(Builtin.zeroCells r.cells k.toNat).toList=[]:=by
     rw [Array.toList_eq_nil_iff];exact Array.eq_empty_of_size_eq_zero (by rw [lO,X,Nat.zero_mul])
    have:=zK hT (w:=w) (w':=w) (base:=some ⟨i.b,i.d+o,none⟩) (len:=len) (cap':=len+i.x) (k:=k) hu H hs I D m A (by omega) C (by omega) R (by simp only [Y];rfl);refine yB.val hr this ?_;simp only [ai];exact ⟨i,hi,by rw [X];rfl⟩
   ·rename_i X;simp only [Option.bind_eq_some_iff] at h;obtain ⟨old,hold,h⟩:=h;split at h
    ·rename_i cs g hl;split at h
     ·rename_i hg;obtain ⟨rfl,ao,ap⟩:=hg;obtain ⟨rfl,rfl⟩:_/\_:=by simpa using h
      have ar:(rep k.toNat z.cells).length=k.toNat*g:=by simp [rep,S]
      by_cases n:len+k.toNat<=len+i.x
      ·have Q:aD s l o (len*g)=some old:=by
        simp only [mX] at hold;split at hold
        ·rename_i X;obtain rfl:=Option.some.inj hold;simp only [aD,hl,X,Nat.zero_mul,Nat.add_zero,List.take_zero];rw [if_pos (by omega)]
        ·exact hold
       obtain ⟨w',p,U,W⟩:=vT hT hr hl hi ao ap ar (jf y k.toNat) (ug c _) Q (by omega) n;refine ⟨_,w',_,zK hT (base:=some ⟨i.b,i.d+o,none⟩) hu H hs I D m A n C (by omega) R (by simp only [iC];exact p),?_,W,U⟩;simp only [ai];refine ⟨_,cg _ _ _,?_⟩;simp only [Bool.false_eq_true,if_false,Nat.add_zero];rw [show len+k.toNat+(len+i.x - (len+k.toNat))=len+i.x by omega]
      ·obtain ⟨k1,k2⟩:=hr.kill l;obtain ⟨wd,cU,⟨G,J⟩,am,p⟩:=zJ hT (w:=w) (base:=some ⟨i.b,i.d+o,none⟩) (len:=len) (cap':=len+i.x) (k:=k) hu H hs I D m A n C (by omega) R;have K:Rel B γ s wd:=hr.of_heap G;obtain ⟨co,L,M,O⟩:=sQ hT K an hold;obtain ⟨U,W⟩:=Eo (P:=P) hT k1 (elem:=elem) (size:=g) (need:=len+k.toNat) (cU:=cU) (x:=cU - (len+k.toNat)) G J M (jf y k.toNat) O (ug c _) (by omega) m y c;refine ⟨_,_,_,p co L,?_,k2.trans W,U⟩;simp only [ai];refine ⟨_,cg _ _ _,?_⟩;simp only [Bool.false_eq_true,if_false];rw [show len+k.toNat+(cU - (len+k.toNat))=cU by omega]
     ·cases h
    ·cases h
 ·cases h
theorem J2 {t xt:TypeId} {dst x v:AV} {cd X:Value} {s':AS} (hd:ai γ dst cd) (U:ai γ x X) (h:aI T t xt dst x s=some (v,s')) (F:TypeId) :
  yB P B γ s w (Builtin.append_ #[t,xt] F #[cd,X]) v s':=by
 unfold aI at h;split at h
 ·rename_i elem xd hu r;split at h
  ·rename_i hint;simp only [if_true] at h;exact HT hT hr hu r hd U h F
  ·rename_i hint;simp only [Bool.false_eq_true,if_false,Option.bind_eq_some_iff] at h;obtain ⟨size,hs,ql,Y,z,hz,zc,Z,n,hn,new,G,h⟩:=h;obtain ⟨c,W,I,H⟩:=sQ hT hr U G;have y:=En (P:=P) (w:=w) U hn;obtain ⟨rfl,p⟩:=fD Z;have k:My xd=false:=by cases xd <;> first | rfl | exact (hint _ rfl).elim
   split at h
   ·rename_i base len cap ex;split at h
    ·cases h
    ·rename_i A;simp only [not_or,Nat.not_lt,Decidable.not_not,gt_iff_lt,ne_eq] at A;obtain ⟨a6,ab,a7,a8⟩:=A;obtain ⟨L,ad,J,ae⟩:∃ L:Value,(∀ w,(zeroValue elem).run P w=.ok L w)/\L.cells.size=size/\ak γ z.cells L.cells.toList:=by
      obtain ⟨inf,L,hi,J,M⟩:=hT.rY elem z hz;refine ⟨L,fun w=>by simp [zeroValue,typeInfo,hi,J],?_,(M γ).cells p⟩;have:=((M γ).cells p).length;simp only [Array.length_toList] at this;omega
     have grow:∀ (cap':Nat) (ca:Option Addr) (old:List AV) (s1:AS),(∀ l o,s1.h l=some o->s.h l=some o)->s1.nl=s.nl->Rel B γ s1 w->fM B γ s w γ s1 w->ai γ (.slc base len cap ex) (.slice ca len cap') ->
       mX size len s (.slc base len cap ex)=some old->¬ len+n<=cap' ->
       yB P B γ s w (Builtin.append_ #[t,xt] F #[.slice ca len cap',X]) (.slc (some (s.nl,0)) (len+n) (len+n) false) (s1.new (.cells (old++new) size false)):=by
      intro cap' ca old s1 a5 al am an hv hold b;obtain ⟨wd,cU,⟨O,ao⟩,a9,m⟩:=JZ hT (w:=w) (base:=ca) hu r k hs Y y ad b (by omega) (by omega) F;have Q:Rel B γ s wd:=hr.of_heap O;obtain ⟨co,ap,ar,aw⟩:=sQ hT Q hv hold;obtain ⟨cn,a0,a1,a2⟩:=sQ hT Q U G;obtain ⟨g1,g2⟩:=Eo (P:=P) hT am (elem:=elem) (size:=size) (need:=len+n) (cU:=cU) (x:=cU - (len+n)) O ao ar a1 aw a2 (by omega) J ae p;refine ⟨_,_,_,m co cn ap a0,?_,an.trans g2,g1⟩;simp only [ai];refine ⟨_,by rw [<- al];exact cg _ _ _,?_⟩;simp only [Bool.false_eq_true,if_false];rw [show len+n+(cU - (len+n))=cU by omega]
     cases base with
     | none =>
      simp only [ai] at hd;obtain ⟨rfl,rfl⟩:=hd;split at h
      ·rename_i b;obtain ⟨rfl,rfl⟩:_/\_:=by simpa using h
       exact yB.val hr (rB hT hu r k hs y W b F rfl) (by simp [ai])
      ·rename_i b;simp only [Option.bind_eq_some_iff,if_true] at h;obtain ⟨old,hold,h⟩:=h;obtain ⟨rfl,rfl⟩:_/\_:=by simpa using h
       exact grow cap none old s (fun _ _ h=>h) rfl hr fM.refl (by simp [ai]) hold b
     | some bo =>
      obtain ⟨l,o⟩:=bo;have C:=hd;simp only [ai] at hd;obtain ⟨i,hi,rfl⟩:=hd;split at h
      ·rename_i b;have d:len+n<=(if ex then cap else cap+i.x):=by split <;> omega
       simp only at h;split at h
       ·rename_i h0;obtain ⟨rfl,rfl⟩:_/\_:=by simpa using h
        subst h0;have R:c.toList=[]:=ak.gV.1 I;exact yB.val hr (rB hT hu r k hs y W d F (w':=w) (by simp [R,storeCells])) (by simp only [ai];exact ⟨i,hi,rfl⟩)
       ·simp only [Option.map_eq_some_iff] at h;obtain ⟨s'',hw,e⟩:=h;obtain ⟨rfl,rfl⟩:_/\_:=by simpa using e
        obtain ⟨j,w',hj,m,S,hr'⟩:=DX hT hr hw I H;rw [hi] at hj;obtain rfl:=Option.some.inj hj;exact ⟨γ,w',_,rB hT hu r k hs y W d F (by simp only [iC];rw [Nat.add_assoc];exact m),by simp only [ai];exact ⟨i,hi,rfl⟩,S,hr'⟩
      ·rename_i b;simp only [Option.bind_eq_some_iff] at h;obtain ⟨old,hold,h⟩:=h;cases ex with
       | true =>
        simp only [if_true] at h C ⊢;obtain ⟨rfl,rfl⟩:_/\_:=by simpa using h
        exact grow cap _ old s (fun _ _ h=>h) rfl hr fM.refl C hold b
       | false =>
        simp only [Bool.false_eq_true,if_false] at h C ⊢;split at h
        ·rename_i cs g hl;split at h
         ·rename_i hg;obtain ⟨rfl,a3,a4⟩:=hg;obtain ⟨rfl,rfl⟩:_/\_:=by simpa using h
          by_cases d:len+n<=cap+i.x
          ·
           have K:aD s l o (len*g)=some old:=by
            simp only [mX] at hold;split at hold
            ·rename_i h0;obtain rfl:=Option.some.inj hold;simp only [aD,hl,h0,Nat.zero_mul,Nat.add_zero,List.take_zero];rw [if_pos (by omega)]
            ·exact hold
           obtain ⟨w',m,g1,g2⟩:=vT hT hr hl hi a3 a4 ab I H K b d;refine ⟨_,w',_,rB hT hu r k hs y W d F (by simp only [iC];exact m),?_,g2,g1⟩;simp only [ai];refine ⟨_,cg _ _ _,?_⟩;simp only [Bool.false_eq_true,if_false,Nat.add_zero];rw [show len+n+(cap+i.x - (len+n))=cap+i.x by omega]
          ·obtain ⟨k1,k2⟩:=hr.kill l;refine grow (cap+i.x) _ old (s.kill l) ?_ rfl k1 k2 C hold d;intro l' o' D;rw [AS.rX] at D;split at D
           ·cases D
           ·exact D
         ·cases h
        ·cases h
   ·cases h
 ·cases h
end
end Go.Am
end

section
namespace Go.Am
theorem bO.eV {γ:bM}:∀ {es:List (AV×AV×Nat)} {cs:List MapEntry},bO γ es cs↔es.length=cs.length/\∀ (i:Nat) k v n c,es[i]? = some (k,v,n)->cs[i]? = some c->ai γ k c.key/\ai γ v c.val/\c.born=n
 | [],cs=>by
  constructor
  ·intro h;obtain rfl:cs=[]:=h;simp
  ·intro ⟨h,_⟩;simp at h;exact List.length_eq_zero_iff.1 h.symm
 | (k,v,n)::es,cs=>by
  constructor
  ·intro h;obtain ⟨d,ds,rfl,o,h2,h3,hs⟩:=h;obtain ⟨j,l⟩:=bO.eV.1 hs;refine ⟨by simp [j],fun i a b m c e hb=>?_⟩;cases i with
   | zero=>simp at e hb;obtain ⟨rfl,rfl,rfl⟩:=e;subst hb;exact ⟨o,h2,h3⟩
   | succ i=>simp at e hb;exact l i a b m c e hb
  ·intro ⟨j,l⟩;cases cs with
   | nil=>simp at j
   | cons d ds =>
    obtain ⟨o,h2,h3⟩:=l 0 k v n d rfl rfl;exact ⟨d,ds,rfl,o,h2,h3,bO.eV.2 ⟨by simpa using j,fun i a b m c e hb=>l (i+1) a b m c (by simpa using e) (by simpa using hb)⟩⟩
theorem bO.length {γ:bM} {es:List (AV×AV×Nat)} {cs:List MapEntry} (h:bO γ es cs):es.length=cs.length:=(bO.eV.1 h).1
theorem bO.append {γ:bM}:∀ {es fs:List (AV×AV×Nat)} {cs ds:List MapEntry},bO γ es cs->bO γ fs ds->bO γ (es++fs) (cs++ds)
 | [],fs,cs,ds,h,b=>by obtain rfl:cs=[]:=h;exact b
 | (k,v,n)::es,fs,cs,ds,h,b=>by
  obtain ⟨d,es',rfl,c,h2,h3,hs⟩:=h;exact ⟨d,es'++ds,rfl,c,h2,h3,bO.append hs b⟩
theorem bO.set {γ:bM} {es:List (AV×AV×Nat)} {cs:List MapEntry} (h:bO γ es cs) (i:Nat) {k v:AV} {n:Nat} {e:MapEntry} (l:ai γ k e.key) (hv:ai γ v e.val) (o:e.born=n) :
  bO γ (es.set i (k,v,n)) (cs.set i e):=by
 obtain ⟨p,r⟩:=bO.eV.1 h;refine bO.eV.2 ⟨by simp [p],fun j a b m c d hb=>?_⟩;rw [List.getElem?_set] at d hb;by_cases hj:i=j
 ·subst hj;simp at d hb;obtain ⟨_,rfl,rfl,rfl⟩:=d;obtain ⟨_,rfl⟩:=hb;exact ⟨l,hv,o⟩
 ·simp [hj] at d hb;exact r j a b m c d hb
theorem bO.erase {γ:bM}:∀ {es:List (AV×AV×Nat)} {cs:List MapEntry},bO γ es cs->∀ i,bO γ (es.eraseIdx i) (cs.eraseIdx i)
 | [],cs,h,i=>by obtain rfl:cs=[]:=h;simp [bO]
 | (k,v,n)::es,cs,h,i=>by
  obtain ⟨d,ds,rfl,b,h2,h3,hs⟩:=h;cases i with
  | zero=>simpa using hs
  | succ i=>simp only [List.eraseIdx_cons_succ];exact ⟨d,_,rfl,b,h2,h3,bO.erase hs i⟩
theorem bO.get {γ:bM} {es:List (AV×AV×Nat)} {cs:List MapEntry} (h:bO γ es cs) {i:Nat} {k v:AV} {n:Nat} (b:es[i]? = some (k,v,n)):∃ c,cs[i]? = some c/\ai γ k c.key/\ai γ v c.val/\c.born=n:=by
 obtain ⟨j,e⟩:=bO.eV.1 h;have hi:i<es.length:=by
  rcases Nat.lt_or_ge i es.length with h | h
  ·exact h
  ·simp [List.getElem?_eq_none h] at b
 have d:=List.getElem?_eq_getElem (show i<cs.length by omega);exact ⟨_,d,e i k v n _ b d⟩
theorem QF (a b:List UInt8):((⟨a.toArray⟩:ByteArray)==⟨b.toArray⟩)=(a==b):=by show (a.toArray==b.toArray)=(a==b);rw [Bool.eq_iff_iff];simp
def VN (γ:bM) (r:Option (Nat×AV)) (b:Option (Nat×Value)):Prop :=
 match r with
 | none=>b=none
 | some (j,v)=>∃ cv,b=some (j,cv)/\ai γ v cv
theorem O9 {γ:bM}:∀ (n:Nat) (x y:AV),yj n x y=true->∀ j cy,ai γ x j->ai γ y cy->∀ N,n<=N->Instr.sameBits N j cy=true:=by
 intro n
 induction n with
 | zero =>
  intro x y h j cy c e N _;cases x <;> cases y <;> simp only [yj] at h <;> (first | (cases h;done) | (simp only [ai] at c e;subst c e))
  ·cases N <;> simpa [Instr.sameBits] using h
  ·cases N <;> simpa [Instr.sameBits] using h
  ·rename_i a b;have:((ByteArray.mk a.toArray)==⟨b.toArray⟩)=true:=by rw [QF];exact h
   cases N <;> simpa [Instr.sameBits] using this
 | succ n z =>
  intro x y h j cy c e N D;obtain ⟨N,rfl⟩:∃ A,N=A+1:=⟨N - 1,by omega⟩;cases x <;> cases y <;> simp only [yj] at h <;> (first | (cases h;done) | skip)
  ·simp only [ai] at c e;subst c e;simpa [Instr.sameBits] using h
  ·simp only [ai] at c e;subst c e;simpa [Instr.sameBits] using h
  ·rename_i a b;simp only [ai] at c e;subst c e;have:((ByteArray.mk a.toArray)==⟨b.toArray⟩)=true:=by rw [QF];exact h
   simpa [Instr.sameBits] using this
  ·rename_i a b;simp only [ai] at c e;obtain ⟨ca,rfl,B⟩:=c;obtain ⟨cb,rfl,hb⟩:=e;have key:∀ (a b:List AV) (ca cb:List Value),CA (yj n) a b=true->ak γ a ca->ak γ b cb->ca.length=cb.length/\((ca.zip cb).all fun p=>Instr.sameBits N p.1 p.2)=true:=by
    intro a
    induction a with
    | nil =>
     intro b ca cb i h2 h3;cases b with
     | nil=>obtain rfl:=ak.gV.1 h2;obtain rfl:=ak.gV.1 h3;simp
     | cons _ _=>simp [CA] at i
    | cons x xs k =>
     intro b ca cb i h2 h3;cases b with
     | nil=>simp [CA] at i
     | cons y ys =>
      simp only [CA,Bool.and_eq_true] at i;obtain ⟨d,ds,rfl,hd,l⟩:=ak.cD.1 h2;obtain ⟨f,fs,rfl,C,m⟩:=ak.cD.1 h3;obtain ⟨o,r⟩:=k ys ds fs i.2 l m;have:=z x y i.1 d f hd C N (by omega);exact ⟨by simp [o],by simp only [List.zip_cons_cons,List.all_cons,this,r,Bool.and_self]⟩
   obtain ⟨o,r⟩:=key a b _ _ h B hb;have w:ca.size=cb.size:=by simpa using o
   simp only [Instr.sameBits,Bool.and_eq_true,beq_iff_eq];exact ⟨w,r⟩
section
variable {P:Program} {T:TT} (hT:TT.Ok P T) {γ:bM} {w:World}
include hT
theorem uh (empty:Bool):∀ (d:Nat) (t:TypeId) (v:AV),mY T d t v=true->∀ cv,ai γ v cv->∀ D,d<=D->(Instr.checkKey empty D t cv).run P w=.ok () w:=by
 intro d
 induction d with
 | zero=>intro t v h;simp [mY] at h
 | succ d r =>
  intro t v h cv hv D y;obtain ⟨D,rfl⟩:∃ x,D=x+1:=⟨D - 1,by omega⟩;unfold mY at h;cases hu:T.cR t with
  | none=>simp [hu] at h
  | some td =>
   simp only [hu] at h;simp only [Instr.checkKey,Sem.run_bind,run_underlying hT hu,Result.andThen_ok];cases td with
   | interface z=>cases v <;> simp at h
   | array len elem =>
    cases v <;> simp only at h <;> first | (cases h;done) | skip
    rename_i cs;simp only [ai] at hv;obtain ⟨l,rfl,e⟩:=hv;cases hs:T.eU elem with
    | none=>simp [hs] at h
    | some n =>
     simp only [hs] at h;simp only [Std.Legacy.Range.forIn_eq_forIn_range',Std.Legacy.Range.size,Nat.sub_zero,Nat.add_one_sub_one,Nat.div_one];generalize 0=i0 at h ⊢;clear hu
     induction len generalizing i0 with
     | zero=>simp
     | succ len m =>
      simp only [Ee,Bool.and_eq_true] at h;obtain ⟨c,h2⟩:=h;cases i:part T elem cs (i0*n) with
      | none=>simp [i] at c
      | some a =>
       simp only [i] at c;obtain ⟨ca,j,k⟩:=ov hT e i w;have b:=r _ _ c _ k D (by omega);have:=m _ h2;simp only [List.range'_succ,List.forIn_cons,Sem.run_bind,run_sizeOf hT hs,j,b,Result.andThen_ok,Sem.run_pure] at this ⊢;simpa using this
   | struct fields =>
    cases v <;> simp only at h <;> first | (cases h;done) | skip
    rename_i cs;simp only [ai] at hv;obtain ⟨l,rfl,e⟩:=hv;simp only [<- Array.forIn_toList];clear hu;generalize fields.toList=fs at h ⊢
    induction fs with
    | nil=>simp
    | cons f fs o =>
     simp only [Bq,Bool.and_eq_true] at h;obtain ⟨c,h2⟩:=h;have:=o h2;by_cases p : f.name ≠ "_"
     ·simp only [if_pos p] at c;cases i:part T f.type cs f.offset with
      | none=>simp [i] at c
      | some a =>
       simp only [i] at c;obtain ⟨ca,j,k⟩:=ov hT e i w;have b:=r _ _ c _ k D (by omega);simp only [List.forIn_cons,Sem.run_bind,if_pos p,j,b,Result.andThen_ok,Sem.run_pure] at this ⊢;simpa using this
     ·simp only [List.forIn_cons,Sem.run_bind,if_neg p,Result.andThen_ok,Sem.run_pure] at this ⊢;simpa using this
   | _=>rfl
theorem O_ {kt:TypeId} {k:AV} {y:Value} (z:ai γ k y):∀ (es:List (AV×AV×Nat)) (cs:List MapEntry) (i:Nat) (r:Option (Nat×AV)),bO γ es cs->vO T kt k es i=some r ->
  ∃ o,(Instr.findAsking kt y cs i).run P w=.ok o w/\VN γ r o/\(∀ j v,r=some (j,v)->i<=j/\∃ k' n,es[j - i]? = some (k',v,n)):=by
 intro es
 induction es with
 | nil =>
  intro cs i r h b;obtain rfl:cs=[]:=h;simp only [vO] at b;obtain rfl:=Option.some.inj b;exact ⟨none,rfl,rfl,by simp⟩
 | cons e es B =>
  obtain ⟨k',v,n⟩:=e;intro cs i r h b;obtain ⟨c,cs',rfl,A,h2,h3,hs⟩:=h;simp only [vO] at b;split at b
  ·rename_i p;obtain rfl:=Option.some.inj b;have:=DY hT w _ _ _ _ _ p _ _ z A Op.maxDepth (by decide);refine ⟨some (i,c.val),by simp [Instr.findAsking,Op.equal,this],⟨_,rfl,h2⟩,?_⟩;intro j v' e;obtain ⟨rfl,rfl⟩:_/\_:=by simpa using e
   exact ⟨Nat.le_refl _,k',n,by simp⟩
  ·rename_i p;have d:=DY hT w _ _ _ _ _ p _ _ z A Op.maxDepth (by decide);obtain ⟨o,x,l,m⟩:=B cs' (i+1) r hs b;refine ⟨o,by simp [Instr.findAsking,Op.equal,d,x],l,?_⟩;intro j v' e;obtain ⟨hle,C,n2,D⟩:=m j v' e;refine ⟨by omega,C,n2,?_⟩;rw [show j - i=(j - (i+1))+1 by omega];simpa using D
  ·cases b
theorem CD {kt:TypeId} {td:TypeDesc} (hu:T.cR kt=some td) (d:Value):∀ (cs:List MapEntry) (i:Nat) (r:Option (Nat×Value)),Instr.findNow td d cs i=some r->(Instr.findAsking kt d cs i).run P w=.ok r w
 | [],i,r,h=>by simp only [Instr.findNow] at h;obtain rfl:=Option.some.inj h;rfl
 | c::cs,i,r,h=>by
  simp only [Instr.findNow] at h;have hs:∀ b,Instr.sameNow td d c.key=some b->(Op.equal kt d c.key).run P w=.ok b w:=by
   intro b hb;unfold Instr.sameNow at hb;obtain ⟨D,j⟩:∃ D,Op.maxDepth=D+1:=⟨9999,rfl⟩;rw [Op.equal,j];split at hb
   ·split at hb
    ·rename_i k a k' l _ _ m;obtain rfl:=Option.some.inj hb;simp only [Op.equalIn,Sem.run_bind,run_underlying hT hu,Result.andThen_ok, *];simp
    ·cases hb
   ·obtain rfl:=Option.some.inj hb;simp only [Op.equalIn,Sem.run_bind,run_underlying hT hu,Result.andThen_ok, *];rfl
   ·obtain rfl:=Option.some.inj hb;simp only [Op.equalIn,Sem.run_bind,run_underlying hT hu,Result.andThen_ok, *];rfl
   ·cases hb
  split at h
  ·rename_i e;obtain rfl:=Option.some.inj h;simp [Instr.findAsking,hs true e]
  ·rename_i e;simp [Instr.findAsking,hs false e,CD hu d cs (i+1) r h]
  ·cases h
theorem vU {kt:TypeId} {td:TypeDesc} (hu:T.cR kt=some td) {k:AV} {b:Value} (i:ai γ k b) {es:List (AV×AV×Nat)} {cs:List MapEntry} {r:Option (Nat×AV)} (h:bO γ es cs) (l:vO T kt k es 0=some r) :
  ∃ c,(Instr.findKey kt b cs).run P w=.ok c w/\VN γ r c/\(∀ j v,r=some (j,v)->∃ k' n,es[j]? = some (k',v,n)):=by
 obtain ⟨c,d,h2,h3⟩:=O_ hT (w:=w) i es cs 0 r h l;refine ⟨c,?_,h2,fun j v e=>by obtain ⟨_,k',n,m⟩:=h3 j v e;exact ⟨k',n,by simpa using m⟩⟩;simp only [Instr.findKey,Sem.run_bind,run_underlying hT hu,Result.andThen_ok];cases o:Instr.findNow td b cs 0 with
 | none=>exact d
 | some p =>
  have:=CD hT (w:=w) hu b cs 0 p o;rw [d] at this;cases this;rfl
theorem J_ {B:Nat} {s:AS} (hr:Rel B γ s w) {t:TypeId} {m k v:AV} {M L:Value} {ok:Bool} (hm:ai γ m M) (Y:ai γ k L) (h:dh T t m k ok s=some v) :
  ∃ c,(Instr.lookup t M L ok).run P w=.ok c w/\ai γ v c:=by
 unfold dh at h;split at h
 ·rename_i kt et r hu;split at h
  ·rename_i G;simp only [Option.bind_eq_some_iff,Option.map_eq_some_iff] at h;obtain ⟨es,p,fr,S,⟨u,b⟩,H,rfl⟩:=h;obtain ⟨td,O⟩:∃ td,T.cR kt=some td:=by
    unfold mY at G;cases hq:T.cR kt with
    | none=>simp [hq] at G
    | some td=>exact ⟨td,rfl⟩
   have main:∀ (o:Array MapEntry),bO γ es o.toList->((M=.map none/\o=#[])\/∃ b A,M=.map (some b)/\w.heap[b]? = some (.map o A)) ->
     ∃ c,(Instr.lookup t M L ok).run P w=.ok c w/\ai γ (if ok then .aP [u,.bool b] else u) c:=by
    intro o I J;obtain ⟨R,K,C,_⟩:=vU hT (w:=w) O Y I S;have x:=uh hT (w:=w) o.isEmpty 100 kt k G L Y 10000 (by decide);have D:(∃ n,R=none/\b=false/\(zeroValue et).run P w=.ok n w/\ai γ u n)\/(∃ j n,R=some (j,n)/\b=true/\ai γ u n):=by
     cases fr with
     | none =>
      obtain rfl:R=none:=C;simp only [Option.map_eq_some_iff] at H;obtain ⟨z,Q,e⟩:=H;obtain ⟨rfl,rfl⟩:_/\_:=by simpa using e
      obtain ⟨cz,U,W⟩:=iL hT Q w;exact .inl ⟨cz,rfl,rfl,U,W γ⟩
     | some jv =>
      obtain ⟨j,v'⟩:=jv;obtain ⟨cv,rfl,X⟩:=C;obtain ⟨rfl,rfl⟩:_/\_:=by simpa using H
      exact .inr ⟨j,cv,rfl,rfl,X⟩
    have fin:∀ n,ai γ u n->ai γ (if ok then .aP [u,.bool b] else u) (if ok then .tuple #[n,.bool b] else n):=by
     intro n d;cases ok
     ·exact d
     ·simp only [if_true,ai];exact ⟨_,rfl,ak.cons d (ak.cons (by simp [ai]) ak.nil)⟩
    rcases J with ⟨rfl,rfl⟩ | ⟨bk,A,rfl,hb⟩
    ·have y:(Instr.checkKey true 10000 kt L).run P w=.ok () w:=x;have F:(Instr.findKey kt L []).run P w=.ok R w:=K;rcases D with ⟨n,rfl,rfl,Q,d⟩ | ⟨j,n,rfl,rfl,d⟩
     ·exact ⟨_,by simp [Instr.lookup,run_underlying hT hu,y,F,Q],fin n d⟩
     ·exact ⟨_,by simp [Instr.lookup,run_underlying hT hu,y,F],fin n d⟩
    ·have Z:(getObj bk).run P w=.ok (.map o A) w:=by simp [getObj,Sem.run,hb]
     rcases D with ⟨n,rfl,rfl,Q,d⟩ | ⟨j,n,rfl,rfl,d⟩
     ·exact ⟨_,by simp [Instr.lookup,run_underlying hT hu,Z,x,K,Q],fin n d⟩
     ·exact ⟨_,by simp [Instr.lookup,run_underlying hT hu,Z,x,K],fin n d⟩
   cases r with
   | none =>
    simp only [ai] at hm;subst hm;obtain rfl:=Option.some.inj p;exact main #[] rfl (.inl ⟨rfl,rfl⟩)
   | some l =>
    simp only [ai] at hm;obtain ⟨i,hi,rfl⟩:=hm;simp only at p;split at p
    ·rename_i es' A ro hl;obtain rfl:=Option.some.inj p;obtain ⟨j,hj,⟨o,hb,I⟩,_⟩:=hr.obj l _ hl;rw [hi] at hj;obtain rfl:=Option.some.inj hj;exact main o I (.inr ⟨_,_,rfl,hb⟩)
    ·cases p
  ·cases h
 ·cases h
theorem uj {b:Nat} {c:Array MapEntry} {d:Nat} {o:Obj} (hb:w.heap[b]? = some (.map c d)):(setObj b o).run P w=.ok () { w with heap:=w.heap.setIfInBounds b o }:=by
 simp [setObj,Sem.run,hb]
theorem xA {B:Nat} {s:AS} (hr:Rel B γ s w) {l:Nat} {es es':List (AV×AV×Nat)} {c Gf:Nat} {i:CI} {HU:Array MapEntry} (e:s.h l=some (.map es c false)) (hi:γ l=some i) (k:bO γ es' HU.toList) :
  fM B γ s w γ (s.put l (.map es' Gf false)) { w with heap:=w.heap.setIfInBounds i.b (.map HU Gf) }/\Rel B γ (s.put l (.map es' Gf false)) { w with heap:=w.heap.setIfInBounds i.b (.map HU Gf) }:=by
 obtain ⟨j,hj,m,_⟩:=hr.obj l _ e;rw [hi] at hj;obtain rfl:=Option.some.inj hj;have d:=m.lt;obtain ⟨n,h2⟩:=hr.write (w':={ w with heap:=w.heap.setIfInBounds i.b (.map HU Gf) }) e rfl (o':=.map es' Gf false) rfl hi rfl ⟨HU,by simp [d],k⟩;exact ⟨h2,n⟩
theorem vV {B:Nat} {s s':AS} (hr:Rel B γ s w) {t:TypeId} {m k v:AV} {Y p cv:Value} (hm:ai γ m Y) (F:ai γ k p) (hv:ai γ v cv) (h:dJ T t m k v s=some s') :
  Uz P B γ s w (Instr.mapUpdate t Y p cv) s':=by
 unfold dJ at h;split at h
 ·rename_i kt et l hu;simp only [ai] at hm;obtain ⟨i,hi,rfl⟩:=hm;split at h
  ·rename_i es o O;obtain ⟨j,hj,⟨d,hb,r⟩,_⟩:=hr.obj l _ O;rw [hi] at hj;obtain rfl:=Option.some.inj hj;split at h
   ·rename_i z;simp only [Option.bind_eq_some_iff] at h;obtain ⟨fr,Q,h⟩:=h;obtain ⟨td,G⟩:∃ td,T.cR kt=some td:=by
     unfold mY at z;cases hq:T.cR kt with
     | none=>simp [hq] at z
     | some td=>exact ⟨td,rfl⟩
    obtain ⟨cr,H,x,I⟩:=vU hT (w:=w) G F r Q;have y:=uh hT (w:=w) false 100 kt k z p F 10000 (by decide);have Z:(getObj i.b).run P w=.ok (.map d o) w:=by simp [getObj,Sem.run,hb]
    cases fr with
    | none =>
     obtain rfl:cr=none:=x;simp only at h;obtain rfl:=Option.some.inj h;obtain ⟨R,S⟩:=xA hT hr (Gf:=o+1) (es':=es++[(k,v,o)]) (HU:=d.push { key:=p,val:=cv,born:=o }) O hi (by rw [Array.toList_push];exact r.append ⟨_,_,rfl,F,hv,rfl,rfl⟩);exact ⟨γ,_,by simp [Instr.mapUpdate,run_underlying hT hu,Z,y,H,uj hT hb],R,S⟩
    | some jv =>
     obtain ⟨j,v'⟩:=jv;obtain ⟨ad,rfl,ab⟩:=x;obtain ⟨k',n,J⟩:=I j v' rfl;simp only [J] at h;split at h
     ·rename_i A;obtain rfl:=Option.some.inj h;obtain ⟨c,hc,U,ae,W⟩:=r.get J;have K:d[j]? = some c:=by simpa using hc
      have C:=O9 100 k' k A _ _ U F 10000 (by decide);have D:(Instr.keyThatStays (((d[j]?).map (·.key)).getD p) p).run P w=.ok p w:=by
       rw [K];simp only [Option.map_some,Option.getD_some,Instr.keyThatStays,C,if_true];rfl
      have L:(d.modify j fun e=>{ e with key:=p,val:=cv }).toList=d.toList.set j { key:=p,val:=cv,born:=c.born }:=by
       apply List.ext_getElem?;intro q;rw [Array.getElem?_toList,Array.getElem?_modify,List.getElem?_set];have X:j<d.toList.length:=by
        rcases Nat.lt_or_ge j d.toList.length with h | h
        ·exact h
        ·simp [List.getElem?_eq_none h] at hc
       by_cases M:j=q
       ·subst M;simp only [if_true,if_pos X,K,Option.map_some]
       ·simp only [if_neg M];simp
      obtain ⟨R,S⟩:=xA hT hr (Gf:=o) (es':=es.set j (k,v,n)) (HU:=d.modify j fun e=>{ e with key:=p,val:=cv }) O hi (by rw [L];exact r.set j F hv W);exact ⟨γ,_,by simp [Instr.mapUpdate,run_underlying hT hu,Z,y,H,D,uj hT hb],R,S⟩
     ·cases h
   ·cases h
  ·cases h
 ·cases h
theorem Ka {B:Nat} {s s':AS} (hr:Rel B γ s w) {t xt:TypeId} {m k:AV} {H z:Value} (hm:ai γ m H) (A:ai γ k z) (h:pS T t m k s=some s') (L:TypeId) :
  ∃ γ' w',(Builtin.delete_ #[t,xt] L #[H,z]).run P w=.ok undef w'/\fM B γ s w γ' s' w'/\Rel B γ' s' w':=by
 unfold pS at h;split at h
 ·rename_i kt et r hu;split at h
  ·rename_i e;obtain ⟨td,x⟩:∃ td,T.cR kt=some td:=by
    unfold mY at e;cases M:T.cR kt with
    | none=>simp [M] at e
    | some td=>exact ⟨td,rfl⟩
   cases r with
   | none =>
    simp only [ai] at hm;subst hm;obtain rfl:=Option.some.inj h;have c:=uh hT (w:=w) true 100 kt k e z A 10000 (by decide);exact ⟨γ,w,by simp [Builtin.delete_,run_underlying hT hu,c];rfl,fM.refl,hr⟩
   | some l =>
    simp only [ai] at hm;obtain ⟨i,hi,rfl⟩:=hm;simp only at h;split at h
    ·rename_i es o C;obtain ⟨j,hj,⟨d,hb,p⟩,_⟩:=hr.obj l _ C;rw [hi] at hj;obtain rfl:=Option.some.inj hj;simp only [Option.map_eq_some_iff] at h;obtain ⟨O,D,rfl⟩:=h;obtain ⟨Q,y,n,I⟩:=vU hT (w:=w) x A p D;have c:=uh hT (w:=w) d.isEmpty 100 kt k e z A 10000 (by decide);have J:(getObj i.b).run P w=.ok (.map d o) w:=by simp [getObj,Sem.run,hb]
     cases O with
     | none =>
      obtain rfl:Q=none:=n;obtain ⟨F,G⟩:=xA hT hr (Gf:=o) (es':=es) (HU:=d) C hi p;exact ⟨γ,_,by simp [Builtin.delete_,run_underlying hT hu,J,c,y,uj hT hb];rfl,F,G⟩
     | some R =>
      obtain ⟨j,v'⟩:=R;obtain ⟨S,rfl,K⟩:=n;have U:(d.eraseIdxIfInBounds j).toList=d.toList.eraseIdx j:=by simp
      obtain ⟨F,G⟩:=xA hT hr (Gf:=o) (es':=es.eraseIdx j) (HU:=d.eraseIdxIfInBounds j) C hi (by rw [U];exact p.erase j);exact ⟨γ,_,by simp [Builtin.delete_,run_underlying hT hu,J,c,y,uj hT hb];rfl,F,G⟩
    ·cases h
  ·cases h
 ·cases h
end
end Go.Am
end

section
namespace Go.Am
theorem vW {P:Program} {γ:bM} {w:World} {f:Value->ByteArray->Sem (ForInStep ByteArray)} (j:∀ n s,f (.int .u8 n) s=pure (ForInStep.yield (s.push (UInt8.ofNat n.toNat)))) :
  ∀ (cs:List AV) (i:List Value) (bs:List UInt8) (acc:ByteArray),ak γ cs i->yz cs=some bs->(forIn i acc f).run P w=.ok ⟨(acc.data.toList++bs).toArray⟩ w
 | [],i,bs,acc,h,hb=>by
  obtain rfl:=ak.gV.1 h;simp only [yz] at hb;obtain rfl:=Option.some.inj hb;simp
 | c::cs,i,bs,acc,h,hb=>by
  obtain ⟨d,ds,rfl,hd,hs⟩:=ak.cD.1 h;unfold yz at hb;split at hb
  ·cases ‹_::_=[]›
  ·rename_i b cs' e;obtain ⟨rfl,rfl⟩:_/\_:=by simpa using e
   simp only [Option.map_eq_some_iff] at hb;obtain ⟨l,k,rfl⟩:=hb;simp only [ai] at hd;subst hd;have:=vW (P:=P) (w:=w) j cs ds l (acc.push (UInt8.ofNat b.toNat)) hs k;simp only [List.forIn_cons,j,Sem.run_bind,Sem.run_pure,Result.andThen_ok];rw [this];simp [ByteArray.push]
  ·cases hb
theorem zL {P:Program} {w w1:World} {c:Array Value} {e:TypeId} (b:w1.heap=w.heap.push (.cells c e)) :
  (markStringish ⟨w.heap.size,0,none⟩).run P w1=.ok () { w1 with heap:=w.heap.push (.cells c e (c.size,c.size+1)) }:=by
 have d:w1.heap[w.heap.size]? = some (.cells c e):=by rw [b];simp
 simp only [markStringish,Sem.run_bind,run_shape,World.shape?,d,Result.andThen_ok,run_freeze];congr 1;simp only [World.freeze,Nat.one_ne_zero,if_false];congr 1;apply Array.ext_getElem?;intro i;rw [Array.getElem?_modify,b,Array.getElem?_push,Array.getElem?_push];by_cases hi:w.heap.size=i
 ·subst hi;simp
 ·rw [if_neg hi,if_neg (fun e=>hi e.symm),if_neg (fun e=>hi e.symm)]
section
variable {P:Program} {T:TT} (hT:TT.Ok P T) {B:Nat} {γ:bM} {s:AS} {w:World} (hr:Rel B γ s w)
include hT hr
theorem HV {src dst:TypeId} {x v:AV} {cx:Value} {s':AS} (y:ai γ x cx) (h:cO T src dst x s=some (v,s')):yB P B γ s w (convert src dst cx) v s':=by
 unfold cO at h;split at h
 ·rename_i H k k' n d p;obtain ⟨rfl,rfl⟩:_/\_:=by simpa using h
  simp only [ai] at y;subst y;refine yB.val hr (cv:=.int k (k.wrap n)) ?_ (by simp [ai]);simp only [convert,Sem.run_bind,run_underlying hT d,run_underlying hT p,Result.andThen_ok,Conv.intToInt];cases H <;> rfl
 ·rename_i H b d p;obtain ⟨rfl,rfl⟩:_/\_:=by simpa using h
  have F:=y;simp only [ai] at y;subst y;refine yB.val hr (cv:=.string ⟨b.toArray⟩) ?_ F;simp only [convert,Sem.run_bind,run_underlying hT d,run_underlying hT p,Result.andThen_ok];cases H <;> rfl
 ·rename_i H e b d p;simp only [ai] at y;subst y;split at h
  ·rename_i C;obtain ⟨rfl,rfl⟩:_/\_:=by simpa using h
   let q:Question:=.appendCap (ByteArray.mk b.toArray).size 0 e
   let cap:=q.cut (w.tape w.drawn q)
   have ao:b.length<=cap:=by
    have:(ByteArray.mk b.toArray).size=b.length:=by simp [ByteArray.size]
    show b.length<=(ByteArray.mk b.toArray).size+_;omega
   let c0:Array Value:=(b.toArray.map fun x=>Value.int .u8 x.toNat)++Array.replicate (cap - b.length) (.int .u8 0)
   have L:∀ (k:Nat) (v:AV),(b.map fun c=>AV.int .u8 c.toNat)[k]? = some v->v.one=true/\∃ cv,c0[k]? = some cv/\ai γ v cv:=by
    intro k v A;simp only [List.getElem?_map] at A;cases hb:b[k]? with
    | none=>simp [hb] at A
    | some u =>
     simp only [hb,Option.map_some] at A;obtain rfl:=Option.some.inj A;refine ⟨rfl,.int .u8 u.toNat,?_,by simp [ai]⟩;have z:k<b.length:=by
      rcases Nat.lt_or_ge k b.length with h | h
      ·exact h
      ·simp [List.getElem?_eq_none h] at hb
     have M:b[k]=u:=by simpa [List.getElem?_eq_getElem z] using hb
     show ((b.toArray.map fun x=>Value.int .u8 x.toNat)++Array.replicate (cap - b.length) (.int .u8 0))[k]? = _;rw [Array.getElem?_append_left (by simpa using z)];simp [z,M]
   have O:c0.size=b.length+(cap - b.length):=by simp [c0]
   have Q:∀ k,(b.map fun x=>AV.int .u8 x.toNat).length<=k->k<c0.size->∃ v cv,v.one=true/\c0[k]? = some cv/\ai γ v cv:=by
    intro k A R;simp only [List.length_map] at A;refine ⟨.int .u8 0,.int .u8 0,rfl,?_,by simp [ai]⟩;show ((b.toArray.map fun x=>Value.int .u8 x.toNat)++Array.replicate (cap - b.length) (.int .u8 0))[k]? = _;rw [Array.getElem?_append_right (by simpa using A)];rw [Array.getElem?_replicate,if_pos (by simp at R ⊢;omega)]
   obtain ⟨S,U⟩:=hr.vQ (w':={ w with heap:=w.heap.push (.cells c0 e (c0.size,c0.size+1)),drawn:=w.drawn+1 }) (g:=1) (x:=cap - b.length) (e:=e) (c:=c0) L (fun _=>⟨by simp [O],Q⟩) (c0.size,c0.size+1) (by intro o ho h;simp at h;omega) (fun h=>absurd rfl h) (Nat.le_succ _) rfl;refine ⟨_,_,.slice (some ⟨w.heap.size,0,none⟩) b.length cap,?_,?_,U,S⟩
   ·have D:(ByteArray.mk b.toArray).size=b.length:=by simp [ByteArray.size]
    have W:(convert src dst (.string ⟨b.toArray⟩)).run P w=(Conv.stringToBytes e ⟨b.toArray⟩).run P w:=by
     simp only [convert,Sem.run_bind,run_underlying hT d,run_underlying hT p,Result.andThen_ok];cases H <;> simp only [Sem.run_bind,run_underlying hT C,Result.andThen_ok]
    rw [W];have hf:q.forced=false:=rfl;simp only [Conv.stringToBytes,Sem.run_bind,run_choose];rw [show (Question.appendCap (ByteArray.mk b.toArray).size 0 e).forced=false from rfl];simp only [Bool.false_eq_true,if_false,Result.andThen_ok,je,Sem.run_bind];have X:(Array.map (fun x=>Value.int IntKind.u8 ↑(UInt8.toNat x)) (ByteArray.mk b.toArray).data++Array.replicate (cap - (ByteArray.mk b.toArray).size) (Value.int IntKind.u8 0))=c0:=by
     rw [D]
    change ((Sem.run P (markStringish ⟨w.heap.size,0,none⟩) { w with heap:=w.heap.push (.cells (Array.map (fun x=>Value.int IntKind.u8 ↑(UInt8.toNat x)) (ByteArray.mk b.toArray).data++Array.replicate (cap - (ByteArray.mk b.toArray).size) (Value.int IntKind.u8 0)) e),drawn:=w.drawn+1 }).andThen _)=_;rw [X,zL (w:=w) (c:=c0) (e:=e) rfl];simp only [Result.andThen_ok,Sem.run_pure,D];rfl
   ·simp only [ai];exact ⟨_,cg _ _ _,by simp;omega⟩
  ·cases h
 ·rename_i e n m ex d p;simp only [ai] at y;obtain ⟨rfl,_⟩:=y;split at h
  ·rename_i C;split at h
   ·obtain ⟨rfl,rfl⟩:_/\_:=by simpa using h
    refine yB.val hr (cv:=.string .empty) ?_ (by simp [ai];rfl);simp [convert,run_underlying hT d,run_underlying hT p,run_underlying hT C,Conv.bytesToString]
   ·cases h
  ·cases h
 ·rename_i e d p;simp only [ai] at y;obtain ⟨a,m,rfl⟩:=y;split at h
  ·rename_i C;obtain ⟨rfl,rfl⟩:_/\_:=by simpa using h
   refine yB.val hr (cv:=.string .empty) ?_ (by simp [ai];rfl);simp [convert,run_underlying hT d,run_underlying hT p,run_underlying hT C,Conv.bytesToString,loadCells,loadCellsFrom]
  ·cases h
 ·rename_i e l o n m ex d p;simp only [ai] at y;obtain ⟨i,hi,rfl⟩:=y;split at h
  ·rename_i C;by_cases G:n=0
   ·rw [if_pos G] at h;subst G;obtain ⟨rfl,rfl⟩:_/\_:=by simpa using h
    refine yB.val hr (cv:=.string .empty) ?_ (by simp [ai];rfl);simp [convert,run_underlying hT d,run_underlying hT p,run_underlying hT C,Conv.bytesToString,loadCells,loadCellsFrom]
   rw [if_neg G] at h;simp only [Option.bind_eq_some_iff,Option.map_eq_some_iff] at h;obtain ⟨cs,Y,bs,Z,e'⟩:=h;obtain ⟨rfl,rfl⟩:_/\_:=by simpa using e'
   obtain ⟨j,c,hj,I,ab,_⟩:=lN hT hr Y;rw [hi] at hj;obtain rfl:=Option.some.inj hj;refine yB.val hr (cv:=.string ⟨bs.toArray⟩) ?_ (by simp [ai]);simp only [convert,Sem.run_bind,run_underlying hT d,run_underlying hT p,run_underlying hT C,Result.andThen_ok,Conv.bytesToString,I];rw [<- Array.forIn_toList,vW (P:=P) (w:=w) (fun _ _=>rfl) cs c.toList bs .empty ab Z];simp
  ·cases h
 ·rename_i e0 e l o n m ex d p;split at h
  ·rename_i ad;split at h
   ·rename_i cs C hl;obtain ⟨rfl,rfl⟩:_/\_:=by simpa using h
    have F:=y;simp only [ai] at y;obtain ⟨i,hi,rfl⟩:=y;obtain ⟨i',J,hO,_⟩:=hr.obj l _ hl;rw [hi] at J;obtain rfl:=Option.some.inj J;have z:=hO.lt;obtain ⟨c,e2,fz,hb,hc,hf,hg,ae⟩:=hO
    let r:Nat×Nat:=if fz.1==fz.2 then (c.size,c.size+1) else (min fz.1 c.size,max fz.2 (c.size+1))
    have K:(∀ o,o<c.size->¬ (r.1<=o/\o<r.2))/\r.1<=r.2:=by
     have h1:=hf rfl;have h2:=(ae rfl).2;by_cases hq:fz.1=fz.2
     ·simp only [r,hq,beq_self_eq_true,if_true];exact ⟨fun o ho h=>by omega,by omega⟩
     ·have al:(fz.1==fz.2)=false:=by simpa using hq
      simp only [r,al,Bool.false_eq_true,if_false];have:c.size<=fz.1:=by
       rcases Nat.lt_or_ge fz.1 c.size with h | h
       ·exact absurd ⟨Nat.le_refl _,by omega⟩ (h1 _ h)
       ·exact h
      exact ⟨fun o ho h=>by omega,by omega⟩
    let w':World:={ w with heap:=w.heap.setIfInBounds i.b (.cells c e2 r) }
    have am:kO γ w' i (.cells cs 1 false):=⟨c,e2,r,by simp [w',z],hc,fun _=>K.1,hg,fun _=>⟨fun h=>absurd rfl h,K.2⟩⟩;obtain ⟨S,U⟩:=hr.same (w':=w') hl rfl hi rfl am;refine ⟨_,_,_,?_,F,U,S⟩;subst ad;have an:w.freeze ⟨i.b,c.size,none⟩ 1=w':=by
     simp only [World.freeze,Nat.one_ne_zero,if_false,w'];congr 1;apply Array.ext_getElem?;intro k;rw [Array.getElem?_modify,Array.getElem?_setIfInBounds];by_cases A:i.b=k
     ·subst A;rw [if_pos rfl,if_pos rfl,if_pos z,hb];rfl
     ·rw [if_neg A,if_neg A]
    obtain rfl:e0=e:=by rw [d] at p;simpa using p
    simp only [convert,Sem.run_bind,run_underlying hT d,run_underlying hT C,Result.andThen_ok,beq_self_eq_true,markStringish,run_shape,World.shape?,hb,run_freeze,an];rfl
   ·cases h
  ·cases h
 ·cases h
theorem Pa {t xt:TypeId} {x v:AV} {z:Value} (d:ai γ x z) (h:aQ T t x s=some v) (ts:List TypeId) (rest:List Value) (A:TypeId) :
  ∃ c,(Builtin.len_ (t::ts).toArray A (z::rest).toArray).run P w=.ok c w/\ai γ v c:=by
 unfold aQ at h;simp only [Builtin.len_,List.getElem?_toArray,List.getElem?_cons_zero];split at h
 ·rename_i b hu;obtain rfl:=Option.some.inj h;simp only [ai] at d;subst d;exact ⟨.int .i64 b.length,by simp only [Sem.run_bind,run_underlying hT hu,Result.andThen_ok,Sem.run_pure,goInt,ByteArray.size,List.size_toArray],by simp only [ai]⟩
 ·rename_i n e hu;obtain rfl:=Option.some.inj h;exact ⟨.int .i64 n,by simp [run_underlying hT hu,goInt],by simp [ai]⟩
 ·rename_i e a n c ex hu;obtain rfl:=Option.some.inj h;refine ⟨.int .i64 n,?_,by simp [ai]⟩;cases a with
  | none=>simp only [ai] at d;obtain ⟨rfl,_⟩:=d;simp [run_underlying hT hu,goInt]
  | some a=>obtain ⟨l,o⟩:=a;simp only [ai] at d;obtain ⟨i,_,rfl⟩:=d;simp [run_underlying hT hu,goInt]
 ·rename_i e hu;obtain rfl:=Option.some.inj h;simp only [ai] at d;obtain ⟨a,m,rfl⟩:=d;exact ⟨.int .i64 0,by simp [run_underlying hT hu,goInt],by simp [ai]⟩
 ·rename_i k e hu;obtain rfl:=Option.some.inj h;simp only [ai] at d;subst d;exact ⟨.int .i64 0,by simp [run_underlying hT hu,goInt],by simp [ai]⟩
 ·rename_i k e l hu;simp only [ai] at d;obtain ⟨i,hi,rfl⟩:=d;split at h
  ·rename_i es r ro B;obtain rfl:=Option.some.inj h;obtain ⟨j,hj,⟨p,hb,y⟩,_⟩:=hr.obj l _ B;rw [hi] at hj;obtain rfl:=Option.some.inj hj;have hlen:=y.length;simp only [Array.length_toList] at hlen;have C:(getObj i.b).run P w=.ok (.map p r) w:=by simp [getObj,Sem.run,hb]
   exact ⟨.int .i64 p.size,by simp only [Sem.run_bind,run_underlying hT hu,C,goInt,Result.andThen_ok,Sem.run_pure],by rw [hlen];simp only [ai]⟩
  ·cases h
 ·cases h
theorem Pb {t:TypeId} {x v:AV} {d:Value} (b:ai γ x d) (h:vP T t x=some v) (ts:List TypeId) (rest:List Value) (j:TypeId) :
  ∃ c,(Builtin.cap_ (t::ts).toArray j (d::rest).toArray).run P w=.ok c w/\ai γ v c:=by
 unfold vP at h;simp only [Builtin.cap_,List.getElem?_toArray,List.getElem?_cons_zero];split at h
 ·rename_i e a n c hu;obtain rfl:=Option.some.inj h;refine ⟨.int .i64 c,?_,by simp [ai]⟩;cases a with
  | none=>simp only [ai] at b;obtain ⟨rfl,_⟩:=b;simp [run_underlying hT hu,goInt]
  | some a=>obtain ⟨l,o⟩:=a;simp only [ai] at b;obtain ⟨i,_,rfl⟩:=b;simp [run_underlying hT hu,goInt]
 ·cases h
theorem MB {t:TypeId} {x:AV} {C:Value} {s':AS} (d:ai γ x C) (h:HR T t x s=some s') (ts:List TypeId) (rest:List Value) (F:TypeId) :
  yB P B γ s w (Builtin.clear_ (t::ts).toArray F (C::rest).toArray) .undef s':=by
 unfold HR at h;simp only [Builtin.clear_,List.getElem?_toArray,List.getElem?_cons_zero];have b:∀ γ,ai γ AV.undef (.tuple #[]):=by intro γ;simp only [ai];exact ⟨_,rfl,ak.nil⟩
 split at h
 ·rename_i e n m ex hu;obtain rfl:=Option.some.inj h;simp only [ai] at d;obtain ⟨rfl,_⟩:=d;exact yB.val hr (by simp [run_underlying hT hu]) (b _)
 ·rename_i e hu;obtain rfl:=Option.some.inj h;simp only [ai] at d;obtain ⟨a,m,rfl⟩:=d;exact yB.val hr (by simp [run_underlying hT hu]) (b _)
 ·rename_i e l o n m ex hu;simp only [ai] at d;obtain ⟨i,hi,rfl⟩:=d;split at h
  ·rename_i D;subst D;obtain rfl:=Option.some.inj h;exact yB.val hr (by simp [run_underlying hT hu]) (b _)
  ·rename_i D;simp only [Option.bind_eq_some_iff] at h;obtain ⟨z,G,zc,r,h⟩:=h;obtain ⟨rfl,c⟩:=fD r;obtain ⟨H,y,A⟩:=iL hT G w;obtain ⟨j,w',hj,p,hd,hr'⟩:=DX hT hr h (jf ((A γ).cells c) n) (ug c n);rw [hi] at hj;obtain rfl:=Option.some.inj hj;refine ⟨γ,w',.tuple #[],?_,b _,hd,hr'⟩;obtain ⟨k,rfl⟩:∃ k,n=k+1:=⟨n - 1,by omega⟩;simp [run_underlying hT hu,y,p]
 ·cases h
omit hT hr in
theorem Kb (e:Bool) {l:List AV} {cl:List Value} {v:AV} (p:ak γ l cl) (h:JT e l=some v) (ts:Array TypeId) (o:TypeId) :
  ∃ c,(if e then Builtin.max_ ts o cl.toArray else Builtin.min_ ts o cl.toArray).run P w=.ok c w/\ai γ v c:=by
 have key:∀ (rest:List AV) (b:List Value) (x:AV) (k:Value),ai γ x k->ak γ rest b->JS e x rest=some v ->
   ∃ c,(if e then b.foldlM Builtin.max2 k else b.foldlM Builtin.min2 k).run P w=.ok c w/\ai γ v c:=by
  intro rest
  induction rest with
  | nil =>
   intro b x k m i h;obtain rfl:=ak.gV.1 i;simp only [JS] at h;obtain rfl:=Option.some.inj h;exact ⟨k,by cases e <;> rfl,m⟩
  | cons y ys r =>
   intro b x k m i h;obtain ⟨d,ds,rfl,hd,j⟩:=ak.cD.1 i;simp only [JS,Option.bind_eq_some_iff] at h;obtain ⟨z,n,h⟩:=h;unfold Od at n;split at n
   ·obtain rfl:=Option.some.inj n;simp only [ai] at m hd;subst m hd;obtain ⟨c,i,hv⟩:=r ds _ _ (by simp only [ai];rfl) j h;refine ⟨c,?_,hv⟩;cases e
    ·simp only [Bool.false_eq_true,if_false] at i ⊢;simpa [List.foldlM_cons,Builtin.min2] using i
    ·simp only [if_true] at i ⊢;simpa [List.foldlM_cons,Builtin.max2] using i
   ·cases n
 cases l with
 | nil=>simp [JT] at h
 | cons x rest =>
  obtain ⟨d,ds,rfl,hd,j⟩:=ak.cD.1 p;obtain ⟨c,i,hv⟩:=key rest ds x d hd j h;exact ⟨c,by cases e <;> simpa [Builtin.max_,Builtin.min_] using i,hv⟩
omit hT hr in
theorem oV (γ:bM):ai γ AV.undef undef:=by simp only [ai];exact ⟨_,rfl,ak.nil⟩
omit hT hr in
theorem bO.find (n:Nat):∀ {es:List (AV×AV×Nat)} {cs:List MapEntry} {e:AV×AV×Nat},bO γ es cs->es.find? (fun e=>e.2.2==n)=some e->∃ c,cs.find? (fun c=>c.born==n)=some c/\ai γ e.1 c.key/\ai γ e.2.1 c.val
 | [],cs,e,h,b=>by cases b
 | (k,v,m)::es,cs,e,h,b=>by
  simp only [bO] at h;obtain ⟨c,cs',rfl,d,h2,h3,h4⟩:=h;simp only [List.find?_cons] at b ⊢;rw [h3];cases hm:(m==n) with
  | true =>
   rw [hm] at b;obtain rfl:=Option.some.inj b;exact ⟨c,rfl,d,h2⟩
  | false =>
   rw [hm] at b;exact bO.find n h4 b
omit hT in
theorem MC {x v:AV} {A:Value} (B:ai γ x A) (h:uc x s=some v):∃ c,(Instr.entry A).run P w=.ok c w/\ai γ v c:=by
 unfold uc at h;split at h
 ·rename_i l;simp only [ai] at B;obtain ⟨i,hi,rfl⟩:=B;split at h
  ·rename_i m since seen stepped ro C;obtain ⟨i',d,y,_⟩:=hr.obj l _ C;rw [hi] at d;obtain rfl:=Option.some.inj d;obtain ⟨D,j,hj,y⟩:=y;split at h
   ·rename_i es clock F hm;obtain ⟨j',k,G,_⟩:=hr.obj m _ hm;rw [hj] at k;obtain rfl:=Option.some.inj k;obtain ⟨o,p,r⟩:=G;split at h
    ·rename_i z;subst z;simp only [Option.bind_eq_some_iff,Option.map_eq_some_iff] at h;obtain ⟨n,H,e,I,rfl⟩:=h;obtain ⟨c,J,K,h2⟩:=bO.find n r I;refine ⟨.tuple #[c.key,c.val],?_,?_⟩
     ·have hb:seen.toArray.back? = some n:=by simpa using H
      have L:o.find? (fun c=>c.born==n)=some c:=by rw [<- Array.find?_toList];exact J
      have M:(getObj i.b).run P w=.ok (.mapIter (some j.b) since seen.toArray clock) w:=by simp [getObj,Sem.run,y]
      have O:(getObj j.b).run P w=.ok (.map o clock) w:=by simp [getObj,Sem.run,p]
      simp only [D,Nat.add_zero,Instr.entry,Sem.run_bind,M,Result.andThen_ok,hb,O,bne_self_eq_false,Bool.false_eq_true,if_false,L,Sem.run_pure]
     ·simp only [ai];exact ⟨_,rfl,ak.cons K (ak.cons h2 ak.nil)⟩
    ·cases h
   ·cases h
  ·cases h
 ·cases h
def ez (P:Program) (B:Nat) (γ:bM) (s:AS) (w:World) (m:Sem Next) (v:AV) (s':AS):Prop :=
 ∃ γ' w' n cv,m.run P w=.ok n w'/\(n=.value cv\/(n=.skip/\cv=undef))/\ai γ' v cv/\fM B γ s w γ' s' w'/\Rel B γ' s' w'
omit hT hr in
theorem ez.qv {m:Sem Value} {v:AV} {s':AS} (h:yB P B γ s w m v s'):ez P B γ s w (do pure (.value (<- m))) v s':=by
 obtain ⟨γ',w',cv,b,h2,h3,h4⟩:=h;exact ⟨γ',w',.value cv,cv,by simp [b],.inl rfl,h2,h3,h4⟩
omit hT hr in
theorem ez.HW {m:Sem Unit} {s':AS} (h:Uz P B γ s w m s'):ez P B γ s w (do m;pure .skip) .undef s':=by
 obtain ⟨γ',w',b,h3,h4⟩:=h;exact ⟨γ',w',.skip,undef,by simp [b],.inr ⟨rfl,rfl⟩,oV _,h3,h4⟩
omit hT in
theorem ez.kQ {m:Sem Value} {v:AV} (h:∃ c,m.run P w=.ok c w/\ai γ v c):ez P B γ s w (do pure (.value (<- m))) v s:=by
 obtain ⟨c,b,h2⟩:=h;exact ez.qv (yB.val hr b h2)
omit hT hr in
theorem Ep {ρ:Operand->AV} {b:Operand->Value} (c:∀ x,ai γ (ρ x) (b x)):∀ (l:List (Nat×Operand)),G0 γ (l.map fun p=>(p.1,ρ p.2)) (l.map fun p=>(p.1,b p.2))
 | []=>rfl
 | (i,x)::l=>⟨_,_,rfl,c x,Ep c l⟩
omit hT hr in
theorem oz {ρ:Operand->AV} {b:Operand->Value} (c:∀ x,ai γ (ρ x) (b x)):∀ (l:List Operand),ak γ (l.map ρ) (l.map b)
 | []=>ak.nil
 | x::l=>ak.cons (c x) (oz c l)
omit hT hr in
theorem Er {ρ:Operand->AV} {b:Operand->Value} (c:∀ x,ai γ (ρ x) (b x)):∀ (o:Option Operand),zI γ (o.map ρ) (o.map b)
 | none=>rfl
 | some x=>⟨_,rfl,c x⟩
theorem HX {b:Builtin} {ts:List TypeId} {args:List AV} {j:List Value} {v:AV} {s':AS} (o:ak γ args j) (h:dX T b ts args s=some (v,s')) (l:TypeId) (n:Array Bool) :
  ez P B γ s w (builtin b ts.toArray l n j.toArray) v s':=by
 unfold dX at h;split at h
 ·rename_i t c x rest;obtain ⟨d,ds,rfl,hd,i⟩:=ak.cD.1 o;simp only [Option.map_eq_some_iff] at h;obtain ⟨u,hu,e⟩:=h;obtain ⟨rfl,rfl⟩:_/\_:=by simpa using e
  exact ez.kQ hr (Pa hT hr (xt:=0) hd hu c ds l)
 ·rename_i t c x rest;obtain ⟨d,ds,rfl,hd,i⟩:=ak.cD.1 o;simp only [Option.map_eq_some_iff] at h;obtain ⟨u,hu,e⟩:=h;obtain ⟨rfl,rfl⟩:_/\_:=by simpa using e
  exact ez.kQ hr (Pb hT hr hd hu c ds l)
 ·rename_i t xt c dst x rest;obtain ⟨d,ds,rfl,hd,i⟩:=ak.cD.1 o;obtain ⟨f,fs,rfl,p,r⟩:=ak.cD.1 i;have:=J2 hT hr hd p h l;exact ez.qv (by simpa [Builtin.append_] using this)
 ·rename_i t xt c dst x rest;obtain ⟨d,ds,rfl,hd,i⟩:=ak.cD.1 o;obtain ⟨f,fs,rfl,p,r⟩:=ak.cD.1 i;have:=O8 hT hr (xt:=xt) hd p h l;exact ez.qv (by simpa [Builtin.copy_] using this)
 ·rename_i t c m k rest;obtain ⟨d,ds,rfl,hd,i⟩:=ak.cD.1 o;obtain ⟨f,fs,rfl,p,r⟩:=ak.cD.1 i;simp only [Option.map_eq_some_iff] at h;obtain ⟨u,hu,e⟩:=h;obtain ⟨rfl,rfl⟩:_/\_:=by simpa using e
  obtain ⟨γ',w',y,h2,h3⟩:=Ka hT hr (xt:=0) hd p hu l;exact ez.qv ⟨γ',w',undef,by simpa [Builtin.delete_] using y,oV _,h2,h3⟩
 ·rename_i t c x rest;obtain ⟨d,ds,rfl,hd,i⟩:=ak.cD.1 o;simp only [Option.map_eq_some_iff] at h;obtain ⟨u,hu,e⟩:=h;obtain ⟨rfl,rfl⟩:_/\_:=by simpa using e
  exact ez.qv (MB hT hr hd hu c ds l)
 ·simp only [Option.map_eq_some_iff] at h;obtain ⟨u,hu,e⟩:=h;obtain ⟨rfl,rfl⟩:_/\_:=by simpa using e
  exact ez.kQ hr (by simpa using Kb (P:=P) (w:=w) true o hu ts.toArray l)
 ·simp only [Option.map_eq_some_iff] at h;obtain ⟨u,hu,e⟩:=h;obtain ⟨rfl,rfl⟩:_/\_:=by simpa using e
  exact ez.kQ hr (by simpa using Kb (P:=P) (w:=w) false o hu ts.toArray l)
 ·cases h
set_option maxHeartbeats 2000000 in
theorem Oj {o : Oper} {ρ : Operand -> AV} {r : Operand -> Value} {v : AV} {s' : AS} (A : ∀ x, ai γ (ρ x) (r x)) (h : cF T o.op ρ s = some (v, s')) : ez P B γ s w (execOp r o) v s' := by
  obtain ⟨dst, op, type, pos, after, guard⟩ := o;simp only at h;unfold cF at h;split at h
  case h_1 x =>
    obtain ⟨rfl, rfl⟩ : _ /\ _ := by simpa using h
    exact ⟨γ, w, .value (r x), _, rfl, .inl rfl, A x, fM.refl, hr⟩
  case h_2 x =>
    obtain ⟨rfl, rfl⟩ : _ /\ _ := by simpa using h
    exact ⟨γ, w, .value (r x), _, rfl, .inl rfl, A x, fM.refl, hr⟩
  case h_3 c a b =>
    split at h
    · rename_i t ht;obtain ⟨rfl, rfl⟩ : _ /\ _ := by simpa using h
      have J := A c;rw [ht] at J; simp only [ai] at J;refine ⟨γ, w, .value (if t then r a else r b), _, ?_, .inl rfl, ?_, fM.refl, hr⟩
      · simp only [execOp, J, asBool, Sem.run_bind, Sem.run_pure, Result.andThen_ok]
      · cases t
        · exact A b
        · exact A a
    · cases h
  case h_4 e =>
    simp only [Option.bind_eq_some_iff, Option.map_eq_some_iff] at h;obtain ⟨z, hz, cs, G, D⟩ := h;obtain ⟨rfl, rfl⟩ : _ /\ _ := by simpa using D
    show ez P B γ s w (do pure (.value (<- Instr.alloc e true (.tuple #[])))) _ _;exact ez.qv (O6 hT hr hz G)
  case h_5 t x =>
    simp only [Option.map_eq_some_iff] at h;obtain ⟨cs, G, D⟩ := h;obtain ⟨rfl, rfl⟩ : _ /\ _ := by simpa using D
    show ez P B γ s w (do pure (.value (<- Instr.box t (r x)))) _ _;have hb : Instr.box t (r x) = (do pure (.pointer (some (<- newVar t (r x))))) := rfl;rw [hb];exact ez.qv (Eg t hr (A x) G)
  case h_6 t parts =>
    simp only [Option.map_eq_some_iff] at h;obtain ⟨u, hu, D⟩ := h;obtain ⟨rfl, rfl⟩ : _ /\ _ := by simpa using D
    show ez P B γ s w (do pure (.value (<- Instr.build t (parts.map fun (i, x) => (i, r x))))) _ _;exact ez.kQ hr (Mx hT (γ := γ) (w := w) (mZ := parts.map fun (i, x) => (i, r x)) (by simpa using Ep A parts.toList) hu)
  case h_7 t len parts =>
    have H : G0 γ (parts.toList.map fun p => (p.1, ρ p.2)) (parts.map fun (p : Nat × Operand) => (p.1, r p.2)).toList := by
      rw [Array.toList_map]; exact Ep A parts.toList
    have hs := ez.qv (CV hT hr H h);exact hs
  case h_8 t a =>
    simp only [Option.map_eq_some_iff] at h;obtain ⟨u, hu, D⟩ := h;obtain ⟨rfl, rfl⟩ : _ /\ _ := by simpa using D
    show ez P B γ s w (do pure (.value (<- Instr.loadAt t (r a)))) _ _;exact ez.qv (QD hT hr (A a) hu)
  case h_9 t a x =>
    simp only [Option.map_eq_some_iff] at h;obtain ⟨u, hu, D⟩ := h;obtain ⟨rfl, rfl⟩ : _ /\ _ := by simpa using D
    show ez P B γ s w (do Instr.storeAt t (r a) (r x); pure .skip) _ _;exact ez.HW (O7 hT hr (A a) (A x) hu)
  case h_10 x =>
    have C := A x;split at h
    · rename_i p H;obtain ⟨rfl, rfl⟩ : _ /\ _ := by simpa using h
      rw [H] at C;have F := C;obtain ⟨l, o⟩ := p;simp only [ai] at C; obtain ⟨i, hi, C⟩ := C;exact ⟨γ, w, .value (r x), _, by simp only [execOp, C]; rfl, .inl rfl, F, fM.refl, hr⟩
    · rename_i f c H;obtain ⟨rfl, rfl⟩ : _ /\ _ := by simpa using h
      rw [H] at C;have F := C;simp only [ai] at C; obtain ⟨cc, C, _⟩ := C;exact ⟨γ, w, .value (r x), _, by simp only [execOp, C]; rfl, .inl rfl, F, fM.refl, hr⟩
    · rename_i f ft c H;obtain ⟨rfl, rfl⟩ : _ /\ _ := by simpa using h
      rw [H] at C;have F := C;simp only [ai] at C; obtain ⟨cf, cc, C, _⟩ := C;exact ⟨γ, w, .value (r x), _, by simp only [execOp, C]; rfl, .inl rfl, F, fM.refl, hr⟩
    · rename_i t u H;obtain ⟨rfl, rfl⟩ : _ /\ _ := by simpa using h
      rw [H] at C;have F := C;simp only [ai] at C; obtain ⟨cc, C, _⟩ := C;exact ⟨γ, w, .value (r x), _, by simp only [execOp, C]; rfl, .inl rfl, F, fM.refl, hr⟩
    · cases h
  case h_11 op t x y yt =>
    split at h
    · rename_i R;simp only [Option.map_eq_some_iff] at h;obtain ⟨u, hu, D⟩ := h;obtain ⟨rfl, rfl⟩ : _ /\ _ := by simpa using D
      obtain ⟨c, J, hv⟩ := QE hT (A x) (A y) hu w;have he := JV hT (op := op) (A x) (A y) R w;exact ⟨γ, w, .value c, _, by simp only [execOp, Sem.run_bind, he, J, Result.andThen_ok, Sem.run_pure], .inl rfl, hv, fM.refl, hr⟩
    · cases h
  case h_12 op t x =>
    simp only [Option.map_eq_some_iff] at h;obtain ⟨u, hu, D⟩ := h;obtain ⟨rfl, rfl⟩ : _ /\ _ := by simpa using D
    show ez P B γ s w (do pure (.value (<- Op.unary op (r x)))) _ _;exact ez.kQ hr (Tb hT (A x) hu w)
  case h_13 src dst x =>
    show ez P B γ s w (do pure (.value (<- convert src dst (r x)))) _ _;exact ez.qv (HV hT hr (A x) h)
  case h_14 t x =>
    cases hu : T.cR t with
    | none => simp [hu] at h
    | some td =>
      have I : (Instr.makeInterface t (r x)).run P w = .ok (.iface t (r x)) w /\ v = .iface t (ρ x) /\ s' = s := by
        cases td <;> simp only [hu] at h <;> first
          | (cases h; done)
          | (obtain ⟨rfl, rfl⟩ : _ /\ _ := by simpa using h
             exact ⟨by simp only [Instr.makeInterface, Sem.run_bind, run_underlying hT hu, Result.andThen_ok, Sem.run_pure], rfl, rfl⟩)
      obtain ⟨I, rfl, rfl⟩ := I;show ez P B γ s' w (do pure (.value (<- Instr.makeInterface t (r x)))) _ _;exact ez.kQ hr ⟨_, I, by simp only [ai]; exact ⟨_, rfl, A x⟩⟩
  case h_15 f first captured =>
    split at h
    · rename_i hf;obtain ⟨rfl, rfl⟩ : _ /\ _ := by simpa using h
      have : first = #[] := by simpa using hf
      subst this;refine ⟨γ, w, .value (.func (.func f) #[] (captured.map r)), _, by simp [execOp, Instr.makeFunc], .inl rfl, ?_, fM.refl, hr⟩;simp only [ai];exact ⟨_, rfl, by simpa using oz A captured.toList⟩
    · obtain ⟨rfl, rfl⟩ : _ /\ _ := by simpa using h
      refine ⟨γ, w, .value (.func (.func f) (first.map r) (captured.map r)), _, by simp [execOp, Instr.makeFunc], .inl rfl, ?_, fM.refl, hr⟩;simp only [ai];exact ⟨_, _, rfl, by simpa using oz A first.toList, by simpa using oz A captured.toList⟩
  case h_16 t =>
    split at h
    · obtain ⟨rfl, rfl⟩ : _ /\ _ := by simpa using h
      obtain ⟨K, L⟩ := hr.alloc (w' := { w with heap := w.heap.push (.map #[] 0) }) (o := .map [] 0 false) (i := ⟨w.heap.size, 0, 0⟩) rfl rfl rfl ⟨#[], by simp, rfl⟩;refine ⟨_, _, .value (.map (some w.heap.size)), _, by simp [execOp, Instr.makeMap], .inl rfl, ?_, L, K⟩;simp only [ai];exact ⟨_, cg _ _ _, rfl⟩
    · cases h
  case h_17 t l c =>
    show ez P B γ s w (do pure (.value (<- Instr.makeSlice t (r l) (r c)))) _ _;exact ez.qv (Em hT hr (A l) (A c) h)
  case h_18 t x lo hi Y =>
    simp only [Option.map_eq_some_iff] at h;obtain ⟨u, hu, D⟩ := h;obtain ⟨rfl, rfl⟩ : _ /\ _ := by simpa using D
    show ez P B γ s w (do pure (.value (<- Instr.sliceAt t (r x) (lo.map r) (hi.map r) (Y.map r)))) _ _;exact ez.kQ hr (Mw hT (Er A lo) (Er A hi) (Er A Y) (A x) hu w)
  case h_19 t x f =>
    simp only [Option.map_eq_some_iff] at h;obtain ⟨u, hu, D⟩ := h;obtain ⟨rfl, rfl⟩ : _ /\ _ := by simpa using D
    show ez P B γ s w (do pure (.value (<- Instr.fieldAt t (r x) f))) _ _;exact ez.kQ hr (Ei hT (A x) hu w)
  case h_20 t x f =>
    simp only [Option.map_eq_some_iff] at h;obtain ⟨u, hu, D⟩ := h;obtain ⟨rfl, rfl⟩ : _ /\ _ := by simpa using D
    show ez P B γ s w (do pure (.value (<- Instr.field t (r x) f))) _ _;exact ez.kQ hr (Mu hT (A x) hu w)
  case h_21 t x ix =>
    simp only [Option.map_eq_some_iff] at h;obtain ⟨u, hu, D⟩ := h;obtain ⟨rfl, rfl⟩ : _ /\ _ := by simpa using D
    show ez P B γ s w (do pure (.value (<- Instr.indexAt t (r x) (r ix)))) _ _;exact ez.kQ hr (Ej hT (A x) (A ix) hu w)
  case h_22 t x ix =>
    simp only [Option.map_eq_some_iff] at h;obtain ⟨u, hu, D⟩ := h;obtain ⟨rfl, rfl⟩ : _ /\ _ := by simpa using D
    show ez P B γ s w (do pure (.value (<- Instr.index t (r x) (r ix)))) _ _;exact ez.kQ hr (Mt hT (A x) (A ix) hu w)
  case h_23 t x ix ok =>
    simp only [Option.map_eq_some_iff] at h;obtain ⟨u, hu, D⟩ := h;obtain ⟨rfl, rfl⟩ : _ /\ _ := by simpa using D
    show ez P B γ s w (do pure (.value (<- Instr.lookup t (r x) (r ix) ok))) _ _;exact ez.kQ hr (J_ hT hr (A x) (A ix) hu)
  case h_24 t m k u =>
    simp only [Option.map_eq_some_iff] at h;obtain ⟨u', hu, D⟩ := h;obtain ⟨rfl, rfl⟩ : _ /\ _ := by simpa using D
    show ez P B γ s w (do Instr.mapUpdate t (r m) (r k) (r u); pure .skip) _ _;exact ez.HW (vV hT hr (A m) (A k) (A u) hu)
  case h_25 t m k u =>
    simp only [Option.map_eq_some_iff] at h;obtain ⟨u', hu, D⟩ := h;obtain ⟨rfl, rfl⟩ : _ /\ _ := by simpa using D
    show ez P B γ s w (do Instr.mapUpdate t (r m) (r k) (r u); pure .skip) _ _;exact ez.HW (vV hT hr (A m) (A k) (A u) hu)
  case h_26 t i =>
    split at h
    · rename_i vs S;simp only [Option.map_eq_some_iff] at h;obtain ⟨u, hu, D⟩ := h;obtain ⟨rfl, rfl⟩ : _ /\ _ := by simpa using D
      have ht := A t;rw [S] at ht;simp only [ai] at ht;obtain ⟨cs, G, M⟩ := ht;obtain ⟨c, J, hv⟩ := M.get hu;have U : cs[i]? = some c := by simpa using J
      exact ez.kQ hr (m := Instr.extract (r t) i) ⟨c, by simp [Instr.extract, G, U], hv⟩
    · cases h
  case h_27 c =>
    split at h
    · rename_i b hb;have := HX hT hr (oz A c.args.toList) h type (c.args.map fun | .const _ => true | _ => false);obtain ⟨γ', w', n, cv, Z, h2⟩ := this;refine ⟨γ', w', n, cv, ?_, h2⟩;have ha : (List.map r c.args.toList).toArray = c.args.map r := by apply Array.ext'; rw [Array.toList_map]
      have ht : c.argTypes.toList.toArray = c.argTypes := Array.toArray_toList;rw [ha, ht] at Z;simp only [execOp, resolve, hb, Sem.run_bind, Sem.run_pure, Result.andThen_ok, invoke];exact Z
    · cases h
  case h_28 t x =>
    have C := A x;show ez P B γ s w (do pure (.value (<- Instr.range t (r x)))) _ _;split at h
    · rename_i b hu hb;obtain ⟨rfl, rfl⟩ : _ /\ _ := by simpa using h
      rw [hb] at C; simp only [ai] at C;obtain ⟨K, L⟩ := hr.alloc (w' := { w with heap := w.heap.push (.stringIter ⟨b.toArray⟩ 0) }) (o := .pM b 0 false) (i := ⟨w.heap.size, 0, 0⟩) rfl rfl rfl ⟨rfl, by simp⟩;exact ⟨_, _, _, .pointer (some ⟨w.heap.size, 0, none⟩), by simp [Instr.range, run_underlying hT hu, C], .inl rfl, by simp only [ai]; exact ⟨_, cg _ _ _, rfl⟩, L, K⟩
    · rename_i k e hu hb;obtain ⟨rfl, rfl⟩ : _ /\ _ := by simpa using h
      rw [hb] at C; simp only [ai] at C;obtain ⟨K, L⟩ := hr.alloc (w' := { w with heap := w.heap.push (.mapIter none 0 #[] 0) }) (o := .fH none 0 [] 0 false) (i := ⟨w.heap.size, 0, 0⟩) rfl rfl rfl ⟨rfl, by simp⟩;exact ⟨_, _, _, .pointer (some ⟨w.heap.size, 0, none⟩), by simp [Instr.range, run_underlying hT hu, C], .inl rfl, by simp only [ai]; exact ⟨_, cg _ _ _, rfl⟩, L, K⟩
    · rename_i k e m hu hb;split at h
      · rename_i es clock ro hm;obtain ⟨rfl, rfl⟩ : _ /\ _ := by simpa using h
        rw [hb] at C; simp only [ai] at C;obtain ⟨j, hj, C⟩ := C;obtain ⟨j', O, hO, _⟩ := hr.obj m _ hm;rw [hj] at O; obtain rfl := Option.some.inj O;obtain ⟨W, Q, _⟩ := hO;obtain ⟨K, L⟩ := hr.alloc (w' := { w with heap := w.heap.push (.mapIter (some j.b) clock #[] clock) }) (o := .fH (some m) clock [] clock false) (i := ⟨w.heap.size, 0, 0⟩) rfl rfl rfl ⟨rfl, j, bM.tZ hr.JQ _ _ hj, by simp⟩;have R : ∀ w2 : World, w2.heap[j.b]? = w.heap[j.b]? -> (getObj j.b).run P w2 = .ok (.map W clock) w2 := by
          intro w2 h2;simp [getObj, Sem.run, h2, Q]
        exact ⟨_, _, _, .pointer (some ⟨w.heap.size, 0, none⟩), by simp [Instr.range, run_underlying hT hu, C, R w rfl], .inl rfl, by simp only [ai]; exact ⟨_, cg _ _ _, rfl⟩, L, K⟩
      · cases h
    · cases h
  case h_29 it =>
    simp only [Option.map_eq_some_iff] at h;obtain ⟨u, hu, D⟩ := h;obtain ⟨rfl, rfl⟩ : _ /\ _ := by simpa using D
    show ez P B γ s w (do pure (.value (<- Instr.entry (r it)))) _ _;exact ez.kQ hr (MC hr (A it) hu)
  case h_30 t x =>
    have C := A x;simp only [Option.map_eq_some_iff] at h;obtain ⟨u, hu, D⟩ := h;obtain ⟨rfl, rfl⟩ : _ /\ _ := by simpa using D
    unfold O5 at hu;split at hu
    · rename_i p len c e H;split at hu
      · rename_i n el X;split at hu
        · cases hu
        · rename_i hn;obtain rfl := Option.some.inj hu;rw [H] at C;obtain ⟨l, o⟩ := p;simp only [ai] at C; obtain ⟨i, hi, C⟩ := C;exact ⟨γ, w, .value (.pointer (some ⟨i.b, i.d + o, none⟩)), _, by simp [execOp, Instr.arrayAt, run_underlying hT X, C, hn], .inl rfl, by simp only [ai]; exact ⟨i, hi, rfl⟩, fM.refl, hr⟩
      · cases hu
    · cases hu
  case h_31 => cases h
end
end Go.Am
end

section
namespace Go.Am
theorem bO.filter {γ:bM} (p:Nat->Bool):∀ {es:List (AV×AV×Nat)} {cs:List MapEntry},bO γ es cs->bO γ (es.filter fun e=>p e.2.2) (cs.filter fun c=>p c.born)
 | [],cs,h=>by simp only [bO] at h;subst h;simp [bO]
 | (k,v,n)::es,cs,h=>by
  simp only [bO] at h;obtain ⟨c,cs',rfl,d,h2,h3,h4⟩:=h;have b:=bO.filter p h4;simp only [List.filter_cons,h3];split
  ·simp only [bO];exact ⟨c,_,rfl,d,h2,h3,b⟩
  ·exact b
theorem bO.all {γ:bM} (p:Nat->Bool):∀ {es:List (AV×AV×Nat)} {cs:List MapEntry},bO γ es cs->(es.all fun e=>p e.2.2)=(cs.all fun c=>p c.born)
 | [],cs,h=>by simp only [bO] at h;subst h;rfl
 | (k,v,n)::es,cs,h=>by
  simp only [bO] at h;obtain ⟨c,cs',rfl,b,h2,h3,h4⟩:=h;simp only [List.all_cons,h3,bO.all p h4]
theorem bO.mem {γ:bM}:∀ {es:List (AV×AV×Nat)} {cs:List MapEntry} {i:Nat} {c:MapEntry},bO γ es cs->cs[i]? = some c->∃ e,es[i]? = some e/\ai γ e.1 c.key/\ai γ e.2.1 c.val/\c.born=e.2.2
 | [],cs,i,c,h,b=>by simp only [bO] at h;subst h;simp at b
 | (k,v,n)::es,cs,i,c,h,b=>by
  simp only [bO] at h;obtain ⟨d,cs',rfl,j,h2,h3,h4⟩:=h;cases i with
  | zero=>simp only [List.getElem?_cons_zero,Option.some.injEq] at b;subst b;exact ⟨_,rfl,j,h2,h3⟩
  | succ i =>
   obtain ⟨e,l⟩:=bO.mem (i:=i) h4 (by simpa using b);exact ⟨e,by simpa using l⟩
theorem qw {P:Program} {w:World} {r:Nat} {o:Obj} (h:w.heap[r]? = some o) (b:∀ c e f,o≠.cells c e f):(getObj r).run P w=.ok o w:=by
 cases o with
 | cells c e f=>exact absurd rfl (b c e f)
 | _=>simp [getObj,Sem.run,h]
theorem vX {P:Program} {w:World} {b:Nat} {o o':Obj} (hb:w.heap[b]? = some o) (d:∀ c e f,o≠.cells c e f):(setObj b o').run P w=.ok () { w with heap:=w.heap.setIfInBounds b o' }:=by
 cases o with
 | cells c e f=>exact absurd rfl (d c e f)
 | _=>simp [setObj,Sem.run,hb]
theorem run_choose {P:Program} {n:Nat} (c:0<n) (w:World):∃ (j:Nat) (w1:World),j<n/\w1.heap=w.heap/\Env w w1/\(choose (Question.mapNext n)).run P w=.ok j w1:=by
 by_cases b:n<=1
 ·exact ⟨0,w,by omega,rfl,⟨rfl,rfl,rfl⟩,by simp [choose,Sem.run,Question.forced,b]⟩
 ·exact ⟨_,{ w with drawn:=w.drawn+1 },Nat.mod_lt _ c,rfl,⟨rfl,rfl,rfl⟩,by
   simp only [choose,Sem.run,Question.forced,decide_eq_true_eq,b,if_false,Question.cut];rfl⟩
theorem G9 {P:Program} {B:Nat} {γ:bM} {s:AS} {w:World} (hr:Rel B γ s w) {ρ:Operand->AV} {I:Operand->Value} (aw:∀ x,ai γ (ρ x) (I x)) {o:Oper} {l:List (AV×AS)} (h:CB o.op ρ s=some l) :
  ∃ p∈l,∃ γ' w' cv,(execOp I o).run P w=.ok (.value cv) w'/\ai γ' p.1 cv/\fM B γ s w γ' p.2 w'/\Rel B γ' p.2 w':=by
 obtain ⟨dst,op,type,pos,after,guard⟩:=o;simp only at h;unfold CB at h;split at h
 ·rename_i it d;have F:=aw it;have hex:∀ v w',(Instr.next (I it) d type).run P w=.ok v w'->(execOp I { dst,op:=.next it d,type,pos,after,guard }).run P w=.ok (.value v) w':=by
   intro v w' hv;show Sem.run P (do pure (Next.value (<- Instr.next (I it) d type))) w=_;simp only [Sem.run_bind,hv,Result.andThen_ok,Sem.run_pure]
  split at h
  ·rename_i r hp;rw [hp] at F;simp only [ai] at F;obtain ⟨i,hi,F⟩:=F;split at h
   ·rename_i since seen last ro K;obtain ⟨j,hj,D,_⟩:=hr.obj r _ K;rw [hi] at hj;obtain rfl:=Option.some.inj hj;obtain ⟨M,D⟩:=D;split at h
    ·cases h
    ·rename_i hs;obtain rfl:=Option.some.inj h;have Q:d=false:=by simpa using hs
     refine ⟨_,List.mem_singleton.2 rfl,γ,w,.tuple #[.bool false],hex _ _ ?_,?_,fM.refl,hr⟩
     ·simp [Instr.next,F,M,qw D (by simp),Q]
     ·simp only [ai];exact ⟨_,rfl,ak.cons (by simp [ai]) ak.nil⟩
   ·rename_i m since seen last K;obtain ⟨j,hj,D,hB⟩:=hr.obj r _ K;rw [hi] at hj;obtain rfl:=Option.some.inj hj;obtain ⟨M,j,hj,D⟩:=D;split at h
    ·cases h
    ·rename_i hs;have Q:d=false:=by simpa using hs
     split at h
     ·rename_i es clock a5 hm;obtain ⟨j',Y,hM,_⟩:=hr.obj m _ hm;rw [hj] at Y;obtain rfl:=Option.some.inj Y;obtain ⟨y,Z,J⟩:=hM;split at h
      ·cases h
      ·rename_i R;obtain rfl:=Option.some.inj h;have hlen:=J.length;have ab:∀ {α:Type} (l:List α),l≠[]↔l.isEmpty=false:=by intro α l;cases l <;> simp
       have S:(!seen.toArray.isEmpty&&!y.isEmpty&&y.all (fun e=>decide (e.born>=last)))=false:=by
        have e1:seen.toArray.isEmpty=seen.isEmpty:=by cases seen <;> rfl
        have e2:y.isEmpty=es.isEmpty:=by
         obtain ⟨y⟩:=y;cases y with
         | nil=>cases es with
          | nil=>rfl
          | cons _ _=>simp at hlen
         | cons _ _=>cases es with
          | nil=>simp at hlen
          | cons _ _=>rfl
        have e3:y.all (fun e=>decide (e.born>=last))=es.all fun e=>decide (last<=e.2.2):=by
         rw [<- Array.all_toList];exact (bO.all (fun n=>decide (last<=n)) J).symm
        rw [e1,e2,e3];cases z:(!seen.isEmpty&&!es.isEmpty&&es.all fun e=>decide (last<=e.2.2)) with
        | false=>rfl
        | true =>
         exfalso;simp only [Bool.and_eq_true,Bool.not_eq_true'] at z;exact R ⟨(ab _).2 z.1.1,(ab _).2 z.1.2,z.2⟩
       have rl:=J.filter fun n=>!seen.contains n;have ro:=bO.filter (fun n=>decide (n<since)) rl;have rn:=bO.filter (fun n=>decide (since<=n)) rl;have ad:=ro.append rn
       let L:=y.filter fun e=>!seen.toArray.contains e.born
       let O:=L.filter fun e=>decide (e.born<since)
       let N:=L.filter fun e=>decide (e.born>=since)
       have hL:L.toList=y.toList.filter fun c=>!seen.contains c.born:=by simp [L]
       have ae:O.toList=(y.toList.filter fun c=>!seen.contains c.born).filter fun c=>decide (c.born<since):=by simp only [O,Array.toList_filter,hL]
       have a0:N.toList=(y.toList.filter fun c=>!seen.contains c.born).filter fun c=>decide (since<=c.born):=by simp only [N,Array.toList_filter,hL,ge_iff_le]
       rw [<- ae,<- a0] at ad;rw [<- ae] at ro;have a1:O.isEmpty=((es.filter fun e=>!seen.contains e.2.2).filter fun e=>decide (e.2.2<since)).isEmpty:=by
        have h1:=ro.length;cases z:O.isEmpty with
        | true =>
         have:O.toList=[]:=by simpa using z
         rw [this] at h1;have:((es.filter fun e=>!seen.contains e.2.2).filter fun e=>decide (e.2.2<since))=[]:=List.length_eq_zero_iff.1 (by simpa using h1);rw [this];rfl
        | false =>
         have:O.toList≠[]:=by intro e;rw [show O=#[] from by simpa using e] at z;simp at z
         cases a2:((es.filter fun e=>!seen.contains e.2.2).filter fun e=>decide (e.2.2<since)) with
         | nil=>rw [a2] at h1;simp only [List.length_nil] at h1;exact absurd (List.length_eq_zero_iff.1 h1.symm) this
         | cons _ _=>rfl
       let C:Array (Option MapEntry):=(if O.isEmpty then #[none] else #[])++(O++N).map some
       have U:0<C.size:=by
        simp only [C,Array.size_append,Array.size_map];cases z:O.isEmpty with
        | true=>simp only [if_true,List.size_toArray,List.length_cons];omega
        | false =>
         have:0<O.size:=by
          rcases Nat.eq_zero_or_pos O.size with h | h
          ·rw [Array.eq_empty_of_size_eq_zero h] at z;simp at z
          ·exact h
         simp;omega
       obtain ⟨k,w1,hk,A,al,a3⟩:=run_choose (P:=P) U w;have am:∀ v w',(match C[k]? with
         | some (some e)=>(do setObj i.b (.mapIter (some j.b) since (seen.toArray.push e.born) clock);pure (.tuple #[.bool true,e.key,e.val]):Sem Value)
         | some none=>pure (.tuple #[.bool false])
         | none => stuck "Next: no such candidate").run P w1 = .ok v w' -> (Instr.next (I it) d type).run P w = .ok v w' := by
        intro v w' hv;simp only [F,M,Nat.add_zero,Q,Instr.next,Sem.run_bind,qw D (by simp),Result.andThen_ok,qw Z (by simp),S,Bool.false_eq_true,if_false];show Result.andThen ((choose (Question.mapNext C.size)).run P w) _=_;rw [a3];exact hv
       have W:∃ x,C[k]? = some x:=⟨C[k],Array.getElem?_eq_getElem hk⟩;obtain ⟨x,G⟩:=W;have an:Rel B γ s w1:=hr.of_heap A;have ao:fM B γ s w γ s w1:=fM.of_heap A al;cases x with
       | none =>
        have ap:O.isEmpty=true:=by
         cases z:O.isEmpty with
         | true=>rfl
         | false =>
          simp only [C,z,Bool.false_eq_true,if_false,Array.empty_append,Array.getElem?_map,Option.map_eq_some_iff] at G;obtain ⟨_,_,h⟩:=G;cases h
        refine ⟨(.aP [.bool false],s),?_,γ,w1,.tuple #[.bool false],hex _ _ (am _ _ (by rw [G];rfl)),?_,ao,an⟩
        ·rw [a1] at ap;rw [if_pos ap];simp
        ·simp only [ai];exact ⟨_,rfl,ak.cons (by simp [ai]) ak.nil⟩
       | some c =>
        have a4:∃ q:Nat,(O++N).toList[q]? = some c:=by
         simp only [C] at G;cases z:O.isEmpty with
         | true =>
          rw [z] at G;simp only [if_true] at G;rw [Array.getElem?_append] at G;split at G
          ·rename_i H;have:k=0:=by simpa using H
           subst this;simp at G
          ·simp only [Array.getElem?_map,Option.map_eq_some_iff,Option.some.injEq,exists_eq_right] at G;exact ⟨_,by rw [Array.getElem?_toList];exact G⟩
         | false =>
          rw [z] at G;simp only [Bool.false_eq_true,if_false,Array.empty_append,Array.getElem?_map,Option.map_eq_some_iff,Option.some.injEq,exists_eq_right] at G;exact ⟨k,by rw [Array.getElem?_toList];exact G⟩
        obtain ⟨q,z⟩:=a4;rw [Array.toList_append] at z;obtain ⟨e,he,v1,v2,v3⟩:=bO.mem ad z;have H:i.b<w1.heap.size:=by
         have:=(hr.obj r _ K);rw [A];rcases Nat.lt_or_ge i.b w.heap.size with h | h
         ·exact h
         ·rw [Array.getElem?_eq_none h] at D;cases D
        obtain ⟨g1,g2⟩:=an.write (w':={ w1 with heap:=w1.heap.setIfInBounds i.b (.mapIter (some j.b) since (seen.toArray.push c.born) clock) }) K rfl (o':=.fH (some m) since (seen++[e.2.2]) clock false) rfl hi rfl ⟨M,j,hj,by simp [H,v3]⟩;refine ⟨(.aP [.bool true,e.1,e.2.1],s.put r (.fH (some m) since (seen++[e.2.2]) clock false)),?_,γ,_,.tuple #[.bool true,c.key,c.val],hex _ _ (am _ _ (by rw [G];simp only [Sem.run_bind,vX (show w1.heap[i.b]? = some (.mapIter (some j.b) since seen.toArray last) by rw [A];exact D) (by simp),Result.andThen_ok,Sem.run_pure])),?_,ao.trans g2,g1⟩
        ·refine List.mem_append_right _ (List.mem_map.2 ⟨e,List.mem_of_getElem? he,rfl⟩)
        ·simp only [ai];exact ⟨_,rfl,ak.cons (by simp [ai]) (ak.cons v1 (ak.cons v2 ak.nil))⟩
     ·cases h
   ·rename_i b pos K;obtain ⟨j,hj,D,_⟩:=hr.obj r _ K;rw [hi] at hj;obtain rfl:=Option.some.inj hj;obtain ⟨M,D⟩:=D;split at h
    ·rename_i hs;split at h
     ·rename_i H;obtain rfl:=Option.some.inj h;have ar:i.b<w.heap.size:=by
       rcases Nat.lt_or_ge i.b w.heap.size with h | h
       ·exact h
       ·rw [Array.getElem?_eq_none h] at D;cases D
      obtain ⟨g1,g2⟩:=hr.write (w':={ w with heap:=w.heap.setIfInBounds i.b (.stringIter ⟨b.toArray⟩ (pos+(Utf8.decode ⟨b.toArray⟩ pos).2)) }) K rfl (o':=.pM b (pos+(Utf8.decode ⟨b.toArray⟩ pos).2) false) rfl hi rfl ⟨M,by simp [ar]⟩;refine ⟨_,List.mem_singleton.2 rfl,γ,_,.tuple #[.bool true,goInt pos,.int .i32 (Utf8.decode ⟨b.toArray⟩ pos).1],hex _ _ ?_,?_,g2,g1⟩
      ·have X:pos<(ByteArray.mk b.toArray).size:=by simpa [ByteArray.size] using H
       simp only [F,M,Nat.add_zero,hs,Instr.next,Sem.run_bind,qw D (by simp),Result.andThen_ok,if_pos X];simp only [vX D (by simp),Result.andThen_ok,Sem.run_pure]
      ·simp only [ai];exact ⟨_,rfl,ak.cons (by simp [ai]) (ak.cons (by simp [ai,goInt]) (ak.cons (by simp [ai]) ak.nil))⟩
     ·rename_i H;obtain rfl:=Option.some.inj h;refine ⟨_,List.mem_singleton.2 rfl,γ,w,.tuple #[.bool false],hex _ _ ?_,?_,fM.refl,hr⟩
      ·have X:¬ pos<(ByteArray.mk b.toArray).size:=by simpa [ByteArray.size] using H
       simp only [F,M,Nat.add_zero,hs,Instr.next,Sem.run_bind,qw D (by simp),Result.andThen_ok,if_neg X,Sem.run_pure]
      ·simp only [ai];exact ⟨_,rfl,ak.cons (by simp [ai]) ak.nil⟩
    ·cases h
   ·cases h
  ·cases h
 ·cases h
end Go.Am
end

section
namespace Go.Am
abbrev Fr:=Nat->AV
def oW (f:Fr) (d:Nat) (v:AV):Fr:=fun t=>if t=d then v else f t
@[simp] theorem QG (f:Fr) (d:Nat) (v:AV):oW f d v d=v:=by simp [oW]
theorem QH (f:Fr) {d t:Nat} (v:AV) (h:t≠d):oW f d v t=f t:=by simp [oW,h]
def bN (f:Fr) (d:Option Nat) (v:AV):Fr:=match d with | some d=>oW f d v | none=>f
structure m_ (γ:bM) (n:Nat) (f:Fr) (a:Act):Prop where
 size:a.tmps.size=n
 defers:a.defers=[]
 vals:∀ t,ai γ (f t) (a.tmps.getD t undef)
theorem m_.mono {γ γ':bM} {n:Nat} {f:Fr} {a:Act} (h:m_ γ n f a) (hle:bM.le γ γ'):m_ γ' n f a:=⟨h.size,h.defers,fun t=>(h.vals t).mono hle⟩
theorem m_.eval {γ:bM} {n:Nat} {f:Fr} {a:Act} (h:m_ γ n f a):∀ x,ai γ (oU f x) (a.eval x)
 | .tmp t=>h.vals t
 | .const v=>DV γ v
 | .func g=>by simp only [oU,Act.eval,ai];exact ⟨_,rfl,ak.nil⟩
 | .global _=>by simp [oU,ai]
def dY (n:Nat):Option Nat->Bool
 | some d=>decide (d<n)
 | none=>true
theorem m_.put {γ:bM} {n:Nat} {f:Fr} {a:Act} (h:m_ γ n f a) {d:Option Nat} {v:AV} {c:Value} (hd:dY n d=true) (hv:ai γ v c):m_ γ n (bN f d v) (a.put d c):=by
 cases d with
 | none=>exact h
 | some d =>
  have b:d<n:=by simpa [dY] using hd
  refine ⟨by simp [Act.put,h.size],h.defers,fun t=>?_⟩;simp only [bN,oW,Act.put];by_cases ht:t=d
  ·subst ht;have:(a.tmps.setIfInBounds t c).getD t undef=c:=by simp [Array.getD,h.size,b]
   rw [if_pos rfl,this];exact hv
  ·rw [if_neg ht];have:=h.vals t;have e:(a.tmps.setIfInBounds d c).getD t undef=a.tmps.getD t undef:=by
    simp only [Array.getD_eq_getD_getElem?];rw [Array.getElem?_setIfInBounds_ne (fun e=>ht e.symm)]
   rw [e];exact this
def va (B:Nat) (γ:bM) (s:AS) (w:World) (n:Nat) (Q:Exit->Fr->AS->Prop):Exit->Act->World->Prop:=fun e a' w' =>
 ∃ γ' f' s',m_ γ' n f' a'/\fM B γ s w γ' s' w'/\Rel B γ' s' w'/\Q e f' s'
def ke (P:Program) (n:Nat) (c:Code) (f:Fr) (s:AS) (Q:Exit->Fr->AS->Prop):Prop :=
 ∀ (B:Nat) (γ:bM) (a:Act) (w:World),m_ γ n f a->Rel B γ s w->c.wp P (va B γ s w n Q) a w
def CE (K:Fr->AS->Prop) (Q:Exit->Fr->AS->Prop):Exit->Fr->AS->Prop
 | .normal,f,s=>K f s
 | e,f,s=>Q e f s
def yC (id:Nat) (Q:Exit->Fr->AS->Prop):Exit->Fr->AS->Prop
 | .exit b,f,s=>if b=id then Q .normal f s else Q (.exit b) f s
 | e,f,s=>Q e f s
def QI (Q:Exit->Fr->AS->Prop):Exit->Fr->AS->Prop
 | .goto _,_,_=>False
 | e,f,s=>Q e f s
theorem va.trans {B:Nat} {γ γ':bM} {s s':AS} {w w':World} {n:Nat} {Q:Exit->Fr->AS->Prop} (hd:fM B γ s w γ' s' w') {e:Exit} {a:Act} {w'':World} (h:va B γ' s' w' n Q e a w''):va B γ s w n Q e a w'':=by
 obtain ⟨b,f2,s2,c,h2,h3,h4⟩:=h;exact ⟨b,f2,s2,c,hd.trans h2,h3,h4⟩
section
variable {P:Program} {n:Nat} {f:Fr} {s:AS} {Q:Exit->Fr->AS->Prop}
theorem ke.mono {c:Code} {Q':Exit->Fr->AS->Prop} (h:ke P n c f s Q) (b:∀ e f s,Q e f s->Q' e f s):ke P n c f s Q' :=
 fun B γ a w d hr=>wp_mono (h B γ a w d hr) fun e a' w' ⟨γ',f',s',i,h2,h3,h4⟩=>⟨γ',f',s',i,h2,h3,b _ _ _ h4⟩
theorem ke.skip (h:Q .normal f s):ke P n .skip f s Q:=fun B γ a w b hr=>wp_skip ⟨γ,f,s,b,fM.refl,hr,h⟩
theorem ke.label {l:Nat} (h:Q .normal f s):ke P n (.label l) f s Q:=fun B γ a w b hr=>wp_label ⟨γ,f,s,b,fM.refl,hr,h⟩
theorem ke.exit {id:Nat} (h:Q (.exit id) f s):ke P n (.exit id) f s Q:=fun B γ a w b hr=>wp_exit ⟨γ,f,s,b,fM.refl,hr,h⟩
theorem ke.ret (h:Q .ret f s):ke P n .ret f s Q:=fun B γ a w b hr=>wp_ret ⟨γ,f,s,b,fM.refl,hr,h⟩
theorem ke.seq {x y:Code} (h:ke P n x f s (CE (fun f s=>ke P n y f s Q) Q)):ke P n (.seq x y) f s Q:=by
 intro B γ a w c hr;refine wp_seq (wp_mono (h B γ a w c hr) ?_);rintro e a' w' ⟨γ',f',s',b,h2,h3,h4⟩;cases e with
 | normal=>exact wp_mono (h4 B γ' a' w' b h3) fun e a w d=>va.trans h2 d
 | _=>exact ⟨γ',f',s',b,h2,h3,h4⟩
theorem ke.cond {c:Operand} {x y:Code} {t:Bool} (d:oU f c=.bool t) (h:ke P n (if t then x else y) f s Q):ke P n (.cond c x y) f s Q:=by
 intro B γ a w b hr;have hv:=b.eval c;rw [d] at hv;simp only [ai] at hv;exact wp_cond hv (h B γ a w b hr)
theorem ke.block {id:Nat} {c:Code} (h:ke P n c f s (yC id Q)):ke P n (.block id c) f s Q:=by
 intro B γ a w i hr;refine wp_block (wp_mono (h B γ a w i hr) ?_);rintro e a' w' ⟨γ',f',s',d,h2,h3,h4⟩;cases e with
 | exit j =>
  simp only [yC] at h4;simp only [Exit.inBlock];split
  ·rename_i b;rw [if_pos b] at h4;exact ⟨γ',f',s',d,h2,h3,h4⟩
  ·rename_i b;rw [if_neg b] at h4;exact ⟨γ',f',s',d,h2,h3,h4⟩
 | _=>exact ⟨γ',f',s',d,h2,h3,h4⟩
theorem ke.scope {c:Code} (h:ke P n c f s (QI Q)):ke P n (.scope c) f s Q:=by
 intro B γ a w b hr;refine wp_scope_straight (wp_mono (h B γ a w b hr) ?_);rintro e a' w' ⟨γ',f',s',d,h2,h3,h4⟩;cases e with
 | goto l=>exact h4.elim
 | _=>exact ⟨γ',f',s',d,h2,h3,h4⟩
theorem ke.loop {c:Code} (I:Nat->Fr->AS->Prop) (m:Nat) (b:I m f s)
  (round:∀ m f s,I m f s->ke P n c f s (CE (fun f' s'=>∃ m',m'<m/\I m' f' s') Q)):ke P n (.loop c) f s Q:=by
 intro B γ a w o hr;refine wp_loop_ghost (fun m a' w'=>∃ γ' f' s',m_ γ' n f' a'/\fM B γ s w γ' s' w'/\Rel B γ' s' w'/\I m f' s') m ⟨γ,f,s,o,fM.refl,hr,b⟩ ?_;rintro m a' w' ⟨γ',f',s',p,h2,h3,h4⟩;refine wp_mono (round m f' s' h4 B γ' a' w' p h3) ?_;rintro e a2 w2 ⟨d,f2,s2,i,j,k,l⟩;cases e with
 | normal=>obtain ⟨m',hm,r⟩:=l;exact ⟨m',hm,d,f2,s2,i,h2.trans j,k,r⟩
 | _=>exact ⟨d,f2,s2,i,h2.trans j,k,l⟩
end
def fU (P:Program) (g:FuncId):Bool :=
 match P.funcs[g]? with
 | some fn => !(fn.name == "runtime.NumGoroutine") && !fn.body.isNone
 | none=>false
theorem lP {P:Program} {g:FuncId} (h:fU P g=true) (args:Array Value) (w:World):(callFunc g args).run P w=.ok (.enter g args) w:=by
 unfold fU at h;cases b:P.funcs[g]? with
 | none=>simp [b] at h
 | some fn =>
  simp only [b,Bool.and_eq_true,Bool.not_eq_true'] at h;simp only [callFunc,Sem.run_bind,run_program,Result.andThen_ok,b,h.1,h.2,Bool.false_eq_true,if_false,Sem.run_pure]
def Ol (P:Program) (g:FuncId) (b:Array Value) (w:World) (R:Ending->World->Prop):Prop :=
 ((callFunc g b).run P w=.ok (.enter g b) w/\Calls P g b w R)\/∃ cv w',(callFunc g b).run P w=.ok (.value cv) w'/\R (.returned cv) w'
theorem Ol.mono {P:Program} {g:FuncId} {b:Array Value} {w:World} {R R':Ending->World->Prop} (h:Ol P g b w R) (hr:∀ e w,R e w->R' e w):Ol P g b w R':=by
 rcases h with ⟨c,h2⟩ | ⟨cv,w',c,h2⟩
 ·exact .inl ⟨c,h2.mono hr⟩
 ·exact .inr ⟨cv,w',c,hr _ _ h2⟩
def aa (P:Program) (g:FuncId) (args:List AV) (s:AS) (R:AV->AS->Prop):Prop :=
 ∀ (B:Nat) (γ:bM) (b:Array Value) (w:World),ak γ args b.toList->Rel B γ s w ->
  Ol P g b w fun e w'=>∃ γ' v cv s',e=.returned cv/\ai γ' v cv/\fM B γ s w γ' s' w'/\Rel B γ' s' w'/\R v s'
theorem aa.mono {P:Program} {g:FuncId} {args:List AV} {s:AS} {R R':AV->AS->Prop} (h:aa P g args s R) (hr:∀ v s,R v s->R' v s):aa P g args s R' :=
 fun B γ ca w i h2=>(h B γ ca w i h2).mono fun e w' ⟨γ',v,cv,s',a,b,c,d,e⟩=>⟨γ',v,cv,s',a,b,c,d,hr _ _ e⟩
def cY (ops:Array Oper) (f:Fr) (o:Oper):Option Bool :=
 match o.guard with
 | none=>some true
 | some (j,want) =>
  match (ops[j]?).bind (·.dst) with
  | some d=>match f d with
   | .bool b=>some (b==want)
   | .aP _=>some false
   | _=>none
  | none=>some false
theorem ep {γ:bM} {n:Nat} {f:Fr} {a:Act} (h:m_ γ n f a) {ops:Array Oper} {o:Oper} {b:Bool} (e:cY ops f o=some b):Region.wanted o (yielded ops a.tmps)=b:=by
 unfold cY at e;unfold Region.wanted;cases r:o.guard with
 | none=>simp only [r] at e ⊢;exact Option.some.inj e
 | some p =>
  obtain ⟨j,want⟩:=p;simp only [r] at e ⊢;unfold yielded;cases hd:(ops[j]?).bind (·.dst) with
  | none=>simp only [hd] at e ⊢;simpa using e
  | some d =>
   simp only [hd] at e;have hv:=h.vals d;simp only [Option.bind_some];split at e
   ·rename_i c m;rw [m] at hv;simp only [ai] at hv;obtain rfl:=Option.some.inj e;have:a.tmps[d]? = some (.bool c):=by
     rw [Array.getD_eq_getD_getElem?] at hv;cases i:a.tmps[d]? with
     | none=>rw [i] at hv;simp [undef] at hv
     | some u=>rw [i] at hv;simp at hv;rw [hv]
    rw [this];simp
   ·rename_i l m;rw [m] at hv;simp only [ai] at hv;obtain ⟨cs,k,_⟩:=hv;obtain rfl:=Option.some.inj e;have:∀ c,a.tmps[d]? ≠ some (.bool c):=by
     intro c i;rw [Array.getD_eq_getD_getElem?,i] at k;simp at k
    cases i:a.tmps[d]? with
    | none=>rfl
    | some u=>cases u <;> first | rfl | exact (this _ i).elim
   ·cases e
def eW (f:Fr):Op->Option (FuncId×List AV)
 | .call c=>match c.callee with
  | .value x=>match oU f x with
   | .func g cap=>some (g,c.args.toList.map (oU f)++cap)
   | .tX g ft cap=>some (g,ft++(c.args.toList.map (oU f)++cap))
   | _=>none
  | _=>none
 | _=>none
def Es (P:Program) (T:TT) (n:Nat) (o:Oper) (f:Fr) (s:AS) (K:Fr->AS->Prop):Prop :=
 dY n o.dst=true /\
 ((match eW f o.op with
 | some (g,args)=>aa P g args s fun v s'=>K (bN f o.dst v) s'
 | none=>∃ v s',cF T o.op (oU f) s=some (v,s')/\K (bN f o.dst v) s') \/
 ∃ l,CB o.op (oU f) s=some l/\∀ p∈l,K (bN f o.dst p.1) p.2)
def yD:Op->Bool
 | .next ..=>true
 | _=>false
theorem yE {op:Op} (h:yD op=false) (ρ:Operand->AV) (s:AS):CB op ρ s=none:=by
 cases op <;> first | rfl | cases h
def fq (P:Program) (T:TT) (n:Nat) (ops:Array Oper):List Oper->Fr->AS->(Fr->AS->Prop)->Prop
 | [],f,s,K=>K f s
 | o::rest,f,s,K=>match cY ops f o with
  | some true=>Es P T n o f s fun f' s'=>fq P T n ops rest f' s' K
  | some false=>dY n o.dst=true/\fq P T n ops rest (bN f o.dst .undef) s K
  | none=>False
theorem CF {γ:bM} {n:Nat} {f:Fr} {a:Act} (h:m_ γ n f a) {o:Oper} {g:FuncId} {args:List AV} (e:eW f o.op=some (g,args)) {P:Program} (w:World) :
  ∃ b:Array Value,ak γ args b.toList/\(execOp a.eval o).run P w=(callFunc g b).run P w:=by
 obtain ⟨dst,op,type,pos,after,guard⟩:=o;simp only at e;unfold eW at e;split at e
 ·rename_i c;split at e
  ·rename_i x l;split at e
   ·rename_i m cap hv;obtain ⟨rfl,rfl⟩:_/\_:=by simpa using e
    have i:=h.eval x;rw [hv] at i;simp only [ai] at i;obtain ⟨cc,j,d⟩:=i;refine ⟨(c.args.map a.eval)++cc,?_,?_⟩
    ·rw [Array.toList_append,Array.toList_map];exact (oz h.eval c.args.toList).append d
    ·simp only [execOp,resolve,l,j,Deferred.ofValue,Sem.run_bind,Sem.run_pure,Result.andThen_ok,invoke];have:(#[]:Array Value)++c.args.map a.eval=c.args.map a.eval:=by simp
     rw [this]
   ·rename_i m ft cap hv;obtain ⟨rfl,rfl⟩:_/\_:=by simpa using e
    have i:=h.eval x;rw [hv] at i;simp only [ai] at i;obtain ⟨cf,cc,j,k,d⟩:=i;refine ⟨(cf++c.args.map a.eval)++cc,?_,?_⟩
    ·rw [Array.toList_append,Array.toList_append,Array.toList_map,List.append_assoc];exact k.append ((oz h.eval c.args.toList).append d)
    ·simp only [execOp,resolve,l,j,Deferred.ofValue,Sem.run_bind,Sem.run_pure,Result.andThen_ok,invoke]
   ·cases e
  ·cases e
 ·cases e
theorem jh {P:Program} {T:TT} (hT:TT.Ok P T) {n:Nat} {o:Oper} {f:Fr} {s:AS} {K:Fr->AS->Prop} (h:Es P T n o f s K) {B:Nat} {γ:bM} {a:Act} {w:World} (d:m_ γ n f a) (hr:Rel B γ s w)
  {next:Act->World->Prop} {Q:Exit->Act->World->Prop} (m:∀ γ' f' s' a' w',m_ γ' n f' a'->fM B γ s w γ' s' w'->Rel B γ' s' w'->K f' s'->next a' w'):o.wp P a w next Q:=by
 obtain ⟨hd,h⟩:=h;unfold Oper.wp;rcases h with h | ⟨l,z,h⟩
 rotate_left
 ·obtain ⟨p,A,γ',w',cv,c,hv,b,hr'⟩:=G9 (P:=P) hr d.eval z;rw [c];exact m γ' _ p.2 _ w' ((d.mono b.le).put hd hv) b hr' (h p A)
 split at h
 ·rename_i g args C;obtain ⟨i,j,c⟩:=CF d C (P:=P) w;rw [c];rcases h B γ i w j hr with ⟨r,h2⟩ | ⟨cv,w',r,γ',v,D,s',e,hv,b,hr',k⟩
  ·rw [r];simp only [Oper.upon];refine h2.mono ?_;rintro e w' ⟨γ',v,cv,s',rfl,hv,b,hr',k⟩;exact m γ' _ s' _ w' ((d.mono b.le).put hd hv) b hr' k
  ·rw [r];injection e with e
   subst e;exact m γ' _ s' _ w' ((d.mono b.le).put hd hv) b hr' k
 ·obtain ⟨v,s',x,k⟩:=h;obtain ⟨γ',w',nx,cv,c,y,hv,b,hr'⟩:=Oj hT hr d.eval x;rw [c];rcases y with rfl | ⟨rfl,rfl⟩
  ·exact m γ' _ s' _ w' ((d.mono b.le).put hd hv) b hr' k
  ·exact m γ' _ s' _ w' ((d.mono b.le).put hd hv) b hr' k
theorem vY {P:Program} {T:TT} (hT:TT.Ok P T) {n:Nat} {ops:Array Oper} {Q:Exit->Fr->AS->Prop} {B:Nat} {Et:bM} {s0:AS} {w0:World}:∀ (l:List Nat) (os:List Oper) (f:Fr) (s:AS) (γ:bM) (a:Act) (w:World),
  l.map (ops[·]?)=os.map some->fq P T n ops os f s (fun f s=>Q .normal f s)->m_ γ n f a->Rel B γ s w->fM B Et s0 w0 γ s w->wpOps P ops (va B Et s0 w0 n Q) l a w
 | [],os,f,s,γ,a,w,b,h,c,hr,hd=>by
  cases os with
  | nil=>exact ⟨γ,f,s,c,hd,hr,h⟩
  | cons _ _=>simp at b
 | i::l,os,f,s,γ,a,w,b,h,c,hr,hd=>by
  cases os with
  | nil=>simp at b
  | cons o os =>
   simp only [List.map_cons,List.cons.injEq] at b;simp only [wpOps,b.1];simp only [fq] at h;split at h
   ·rename_i d;rw [ep c d,if_pos rfl];exact .inl (jh hT h c hr fun γ' f' s' a' w' e h2 h3 h4=>vY hT l os f' s' γ' a' w' b.2 h4 e h3 (hd.trans h2))
   ·rename_i d;rw [ep c d,if_neg (by simp)];exact vY hT l os _ s γ _ w b.2 h.2 (c.put h.1 (oV γ)) hr hd
   ·exact h.elim
theorem ke.region {P:Program} {T:TT} (hT:TT.Ok P T) {n:Nat} {id:Nat} {ops:Array Oper} {f:Fr} {s:AS} {Q:Exit->Fr->AS->Prop} (h:fq P T n ops ops.toList f s fun f s=>Q .normal f s) :
  ke P n (.region id ops false) f s Q:=by
 intro B γ a w b hr;refine wp_region (vY hT (List.range ops.size) ops.toList f s γ a w ?_ h b hr fM.refl);apply List.ext_getElem?;intro i;simp only [List.getElem?_map];by_cases hi:i<ops.size
 ·simp [hi]
 ·have:ops.toList[i]? = none:=List.getElem?_eq_none (by simpa using hi);rw [this,List.getElem?_eq_none (by simpa using hi)];rfl
def xM (T:TT) (rs:List ResultVar) (f:Fr) (s:AS):Option AV :=
 (CW rs).map fun vs=>match vs with | [v]=>v | vs=>.aP vs
where
 CW:List ResultVar->Option (List AV)
  | []=>some []
  | .tmp t::rs=>(CW rs).map fun vs=>f t::vs
  | .cell a t::rs=>(Gc T t s (f a)).bind fun v=>(CW rs).map fun vs=>v::vs
def VO (tmps:Array Value):ResultVar->Sem Value
 | .tmp t=>pure (tmps.getD t undef)
 | .cell x t=>do loadVar t (<- asAddr (tmps.getD x undef))
theorem vZ {P:Program} {T:TT} (hT:TT.Ok P T) {B:Nat} {γ:bM} {n:Nat} {f:Fr} {s:AS} {a:Act} {w:World} (I:m_ γ n f a) (hr:Rel B γ s w) {fn:Func} {v:AV} (h:xM T fn.results.toList f s=some v) :
  ∃ cv,(results fn a.tmps).run P w=.ok cv w/\ai γ v cv:=by
 unfold xM at h;simp only [Option.map_eq_some_iff] at h;obtain ⟨vs,p,e⟩:=h;have key:∀ (F:ResultVar->Sem Value),(∀ t,F (.tmp t)=pure (a.tmps.getD t undef))->(∀ x t,F (.cell x t)=do loadVar t (<- asAddr (a.tmps.getD x undef))) ->
   ∀ (rs:List ResultVar) (vs:List AV),xM.CW T f s rs=some vs->∃ CU:List Value,(rs.mapM F).run P w=.ok CU w/\ak γ vs CU:=by
  intro F y z rs
  induction rs with
  | nil=>intro vs h;simp only [xM.CW] at h;obtain rfl:=Option.some.inj h;exact ⟨[],rfl,ak.nil⟩
  | cons r rs J =>
   intro vs h;cases r with
   | tmp t =>
    simp only [xM.CW,Option.map_eq_some_iff] at h;obtain ⟨us,k,rfl⟩:=h;obtain ⟨CU,j,h2⟩:=J us k;exact ⟨_,by simp only [List.mapM_cons,Sem.run_bind,y,Sem.run_pure,Result.andThen_ok,j],ak.cons (I.vals t) h2⟩
   | cell x t =>
    simp only [xM.CW,Option.bind_eq_some_iff,Option.map_eq_some_iff] at h;obtain ⟨u,hu,us,k,rfl⟩:=h;obtain ⟨CU,j,h2⟩:=J us k;have A:=I.vals x;have C:∃ l o,f x=.ptr (some (l,o)):=by
     unfold Gc at hu;split at hu
     ·rename_i l o e;exact ⟨l,o,e⟩
     ·cases hu
    obtain ⟨l,o,C⟩:=C;rw [C] at A hu;simp only [ai] at A;obtain ⟨i,hi,D⟩:=A;obtain ⟨cv,b,hv⟩:=Of hT hr hi hu;exact ⟨_,by simp only [List.mapM_cons,Sem.run_bind,z,D,asAddr,b,Sem.run_pure,Result.andThen_ok,j],ak.cons hv h2⟩
 have m:∃ CU:List Value,(results fn a.tmps).run P w=.ok (if h:CU.toArray.size=1 then CU.toArray[0] else .tuple CU.toArray) w/\ak γ vs CU:=by
  have K:results fn a.tmps=(do let vs <- fn.results.mapM (VO a.tmps);pure (if h:vs.size=1 then vs[0] else .tuple vs)):=rfl;rw [K];simp only [Sem.run_bind];rw [Array.mapM_eq_mapM_toList];obtain ⟨CU,j,h2⟩:=key (VO a.tmps) (fun _=>rfl) (fun _ _=>rfl) fn.results.toList vs p;exact ⟨CU,by simp only [Sem.run_map,j,Result.andThen_ok,Sem.run_pure],h2⟩
 obtain ⟨CU,b,c⟩:=m;refine ⟨_,b,?_⟩;subst e;split
 ·obtain ⟨d,ds,rfl,hd,G⟩:=ak.cD.1 c;obtain rfl:=ak.gV.1 G;rw [dif_pos (by simp)];exact hd
 ·rename_i L H;have hlen:=c.length;have:¬ CU.toArray.size=1:=by
   intro j;simp only [List.size_toArray] at j;obtain ⟨v,rfl⟩:=List.length_eq_one_iff.1 (hlen.trans j);exact H v rfl
  rw [dif_neg this];simp only [ai];exact ⟨_,rfl,c⟩
def rC (args:List AV):Fr:=fun t=>args.getD t .undef
theorem aa.Td {P:Program} {T:TT} (hT:TT.Ok P T) {g:FuncId} {fn:Func} {c:Code} {args:List AV} {s:AS} {R:AV->AS->Prop} (p:P.funcs[g]? = some fn) (r:fU P g=true) (hb:fn.body=some c)
  (h:ke P (args.length+(fn.ntmps - args.length)) c (rC args) s fun e f s'=>match e with
   | .normal | .ret=>∃ v,xM T fn.results.toList f s'=some v/\R v s'
   | _=>False):aa P g args s R:=by
 refine fun B γ b w i hr=>.inl ⟨lP r _ w,calls_of_wp p hb ?_⟩;have hlen:=i.length;simp only [Array.length_toList] at hlen;have n:m_ γ (args.length+(fn.ntmps - args.length)) (rC args) { tmps:=b++Array.replicate (fn.ntmps - b.size) undef,defers:=[] }:=by
  refine ⟨by simp [hlen],rfl,fun t=>?_⟩;simp only [rC,Array.getD_eq_getD_getElem?,List.getD_eq_getElem?_getD];by_cases ht:t<args.length
  ·obtain ⟨cv,k,d⟩:=i.get (List.getElem?_eq_getElem ht);rw [Array.getElem?_append_left (by omega)];rw [Array.getElem?_toList] at k;rw [k,List.getElem?_eq_getElem ht];exact d
  ·rw [List.getElem?_eq_none (by omega)];have:((b++Array.replicate (fn.ntmps - b.size) undef)[t]?).getD undef=undef:=by
    rw [Array.getElem?_append_right (by omega)];by_cases x:t - b.size<fn.ntmps - b.size
    ·simp [x]
    ·rw [Array.getElem?_eq_none (by simp;omega)];rfl
   rw [this];exact oV γ
 refine wp_mono (h B γ _ w n hr) ?_;rintro e a' w' ⟨γ',f',s',m,h2,h3,h4⟩;cases e with
 | normal =>
  obtain ⟨v,hv,o⟩:=h4;obtain ⟨cv,j,d⟩:=vZ hT m h3 hv;exact ⟨m.defers,cv,j,γ',v,cv,s',rfl,d,h2,h3,o⟩
 | ret =>
  obtain ⟨v,hv,o⟩:=h4;obtain ⟨cv,j,d⟩:=vZ hT m h3 hv;exact ⟨m.defers,cv,j,γ',v,cv,s',rfl,d,h2,h3,o⟩
 | exit id=>exact h4.elim
 | goto l=>exact h4.elim
 | panic y=>exact h4.elim
 | outgrown=>exact h4.elim
end Go.Am
end
