/-
  A part of QX proof: an abstract machine CF QX model, and qO of qP of this program CF it.
-/
import Derived.Orders
import Derived.Laws.Sem
import Derived.Laws.World
import GoSem.Dispatch
import Derived.Laws.Strings
import Derived.IntWalk
import Derived.Deep.LoopGhost
import Derived.Scope
set_option linter.unusedVariables false
set_option linter.unusedSimpArgs false
set_option linter.unusedSectionVars false
namespace Go.Am
section
structure CI where
 b:Nat
 d:Nat
 x:Nat
abbrev bT:=Nat->Option CI
inductive AV where
 | int (k:IntKind) (n:Int)
 | bool (b:Bool)
 | str (s:List UInt8)
 | ptr (a:Option (Nat×Nat))
 | slc (a:Option (Nat×Nat)) (len cap:Nat) (ex:Bool)
 | emp
 | map (r:Option Nat)
 | func (fn:FuncId) (captured:List AV)
 | uS (fn:FuncId) (first captured:List AV)
 | nilFunc
 | Ss (l:Nat)
 | iface (t:TypeId) (v:AV)
 | nilIface
 | agg (l:List AV)
 | aQ (l:List AV)
 | bad
 deriving Inhabited
abbrev AV.undef:AV:=.aQ []
def AV.cells:AV->List AV
 | .agg l=>l
 | v=>[v]
mutual
def ai (γ:bT):AV->Value->Prop
 | .int k n,c=>c=.int k n
 | .bool b,c=>c=.bool b
 | .str s,c=>c=.string ⟨s.toArray⟩
 | .ptr none,c=>c=.pointer none
 | .ptr (some (l,o)),c=>∃ i,γ l=some i/\c=.pointer (some ⟨i.b,i.d+o,none⟩)
 | .slc none n m e,c=>c=.slice none n m/\e=true
 | .slc (some (l,o)) n m e,c=>∃ i,γ l=some i/\c=.slice (some ⟨i.b,i.d+o,none⟩) n (if e then m else m+i.x)
 | .emp,c=>∃ a m,c=.slice (some a) 0 m
 | .map none,c=>c=.map none
 | .map (some l),c=>∃ i,γ l=some i/\c=.map (some i.b)
 | .func f cap,c=>∃ cc,c=.func (.func f) #[] cc/\au γ cap cc.toList
 | .uS f ft cap,c=>∃ cf cc,c=.func (.func f) cf cc/\au γ ft cf.toList/\au γ cap cc.toList
 | .nilFunc,c=>c=.nilFunc
 | .Ss l,c=>c=.func (.yield l) #[] #[]
 | .iface t v,c=>∃ cv,c=.iface t cv/\ai γ v cv
 | .nilIface,c=>c=.nilIface
 | .agg l,c=>∃ cs,c=.agg cs/\au γ l cs.toList
 | .aQ l,c=>∃ cs,c=.tuple cs/\au γ l cs.toList
 | .bad,_=>True
def au (γ:bT):List AV->List Value->Prop
 | [],c=>c=[]
 | v::vs,c=>∃ d ds,c=d::ds/\ai γ v d/\au γ vs ds
end
def bT.le (γ γ':bT):Prop:=∀ l i,γ l=some i->γ' l=some i
theorem bT.le_refl (γ:bT):bT.le γ γ:=fun _ _ h=>h
theorem bT.le_trans {a b c:bT} (h:bT.le a b) (d:bT.le b c):bT.le a c:=fun l i e=>d l i (h l i e)
mutual
theorem ai.mono {γ γ':bT} (h:bT.le γ γ'):∀ {v:AV} {c:Value},ai γ v c->ai γ' v c
 | .int _ _,_,e=>by simpa [ai] using e
 | .bool _,_,e=>by simpa [ai] using e
 | .str _,_,e=>by simpa [ai] using e
 | .ptr none,_,e=>by simpa [ai] using e
 | .ptr (some (l,o)),_,e=>by
  simp only [ai] at e ⊢;obtain ⟨i,hi,e⟩:=e;exact ⟨i,h l i hi,e⟩
 | .slc none _ _ _,_,e=>by simpa [ai] using e
 | .slc (some (l,o)) _ _ _,_,e=>by
  simp only [ai] at e ⊢;obtain ⟨i,hi,e⟩:=e;exact ⟨i,h l i hi,e⟩
 | .emp,_,e=>by simpa [ai] using e
 | .map none,_,e=>by simpa [ai] using e
 | .map (some l),_,e=>by
  simp only [ai] at e ⊢;obtain ⟨i,hi,e⟩:=e;exact ⟨i,h l i hi,e⟩
 | .func f cap,_,e=>by
  simp only [ai] at e ⊢;obtain ⟨i,hi,e⟩:=e;exact ⟨i,hi,au.mono h e⟩
 | .uS f ft cap,_,e=>by
  simp only [ai] at e ⊢;obtain ⟨i,j,hi,e1,e2⟩:=e;exact ⟨i,j,hi,au.mono h e1,au.mono h e2⟩
 | .nilFunc,_,e=>by simpa [ai] using e
 | .Ss _,_,e=>by simpa [ai] using e
 | .iface t v,_,e=>by
  simp only [ai] at e ⊢;obtain ⟨i,hi,e⟩:=e;exact ⟨i,hi,ai.mono h e⟩
 | .nilIface,_,e=>by simpa [ai] using e
 | .agg l,_,e=>by
  simp only [ai] at e ⊢;obtain ⟨i,hi,e⟩:=e;exact ⟨i,hi,au.mono h e⟩
 | .aQ l,_,e=>by
  simp only [ai] at e ⊢;obtain ⟨i,hi,e⟩:=e;exact ⟨i,hi,au.mono h e⟩
 | .bad,_,_=>by simp [ai]
theorem au.mono {γ γ':bT} (h:bT.le γ γ'):∀ {v:List AV} {c:List Value},au γ v c->au γ' v c
 | [],_,e=>by simpa [au] using e
 | v::vs,_,e=>by
  simp only [au] at e ⊢;obtain ⟨d,ds,rfl,hv,hs⟩:=e;exact ⟨d,ds,rfl,ai.mono h hv,au.mono h hs⟩
end
theorem au.iL {γ:bT} {c:List Value}:au γ [] c↔c=[]:=by simp [au]
theorem au.cN {γ:bT} {v:AV} {vs:List AV} {c:List Value}:au γ (v::vs) c↔∃ d ds,c=d::ds/\ai γ v d/\au γ vs ds:=by simp [au]
theorem au.cons {γ:bT} {v:AV} {vs:List AV} {d:Value} {ds:List Value} (h:ai γ v d) (hs:au γ vs ds):au γ (v::vs) (d::ds):=by
 simp only [au];exact ⟨d,ds,rfl,h,hs⟩
theorem au.nil {γ:bT}:au γ [] []:=by simp [au]
theorem au.fo {γ:bT}:∀ {vs:List AV} {cs:List Value},au γ vs cs↔vs.length=cs.length/\∀ (i:Nat) v c,vs[i]? = some v->cs[i]? = some c->ai γ v c
 | [],cs=>by
  constructor
  ·intro h;obtain rfl:=au.iL.1 h;simp
  ·intro ⟨h,_⟩;simp at h;obtain rfl:cs=[]:=List.length_eq_zero_iff.1 h.symm;exact au.nil
 | v::vs,cs=>by
  constructor
  ·intro h;obtain ⟨d,ds,rfl,hv,hs⟩:=au.cN.1 h;obtain ⟨j,k⟩:=au.fo.1 hs;refine ⟨by simp [j],fun i a b e hb=>?_⟩;cases i with
   | zero=>simp at e hb;subst e;subst hb;exact hv
   | succ i=>simp at e hb;exact k i a b e hb
  ·intro ⟨j,k⟩;cases cs with
   | nil=>simp at j
   | cons d ds =>
    exact au.cons (k 0 v d rfl rfl) (au.fo.2 ⟨by simpa using j,fun i a b e hb=>k (i+1) a b (by simpa using e) (by simpa using hb)⟩)
theorem au.length {γ:bT} {vs:List AV} {cs:List Value} (h:au γ vs cs):vs.length=cs.length:=(au.fo.1 h).1
theorem au.get {γ:bT} {vs:List AV} {cs:List Value} (h:au γ vs cs) {i:Nat} {v:AV} (hv:vs[i]? = some v):∃ c,cs[i]? = some c/\ai γ v c:=by
 obtain ⟨d,b⟩:=au.fo.1 h;have hi:i<vs.length:=by
  rcases Nat.lt_or_ge i vs.length with h | h
  ·exact h
  ·simp [List.getElem?_eq_none h] at hv
 exact ⟨cs[i]'(by omega),by simp [List.getElem?_eq_getElem (show i<cs.length by omega)],b i v _ hv (by simp [List.getElem?_eq_getElem (show i<cs.length by omega)])⟩
theorem au.append {γ:bT}:∀ {vs us:List AV} {cs ds:List Value},au γ vs cs->au γ us ds->au γ (vs++us) (cs++ds)
 | [],us,cs,ds,h,b=>by obtain rfl:=au.iL.1 h;simpa using b
 | v::vs,us,cs,ds,h,b=>by
  obtain ⟨d,es,rfl,hv,hs⟩:=au.cN.1 h;exact au.cons hv (au.append hs b)
theorem au.drop {γ:bT} {vs:List AV} {cs:List Value} (h:au γ vs cs) (n:Nat):au γ (vs.drop n) (cs.drop n):=by
 obtain ⟨c,d⟩:=au.fo.1 h;exact au.fo.2 ⟨by simp [c],fun i a b e hb=>d (n+i) a b (by simpa using e) (by simpa using hb)⟩
theorem au.take {γ:bT} {vs:List AV} {cs:List Value} (h:au γ vs cs) (n:Nat):au γ (vs.take n) (cs.take n):=by
 obtain ⟨d,e⟩:=au.fo.1 h;refine au.fo.2 ⟨by simp [d],fun i a b c hb=>?_⟩;rw [List.getElem?_take] at c hb;split at c
 ·rename_i hi;rw [if_pos hi] at hb;exact e i a b c hb
 ·simp at c
theorem au.set {γ:bT} {vs:List AV} {cs:List Value} (h:au γ vs cs) (n:Nat) {v:AV} {c:Value} (hv:ai γ v c):au γ (vs.set n v) (cs.set n c):=by
 obtain ⟨e,j⟩:=au.fo.1 h;refine au.fo.2 ⟨by simp [e],fun i a b d hb=>?_⟩;rw [List.getElem?_set] at d hb;by_cases hi:n=i
 ·subst hi;simp at d hb;rw [<- d.2,<- hb.2];exact hv
 ·simp [hi] at d hb;exact j i a b d hb
def AV.one:AV->Bool
 | .agg _ | .aQ _ | .bad=>false
 | _=>true
theorem ai.cells {γ:bT} {v:AV} {c:Value} (h:ai γ v c) (hb:v.cells.all AV.one=true):au γ v.cells c.cells.toList:=by
 cases v with
 | agg l=>simp only [ai] at h;obtain ⟨cs,rfl,hs⟩:=h;exact hs
 | ptr a =>
  have d:=h;cases a <;> simp only [ai] at h
  ·subst h;exact au.cons d au.nil
  ·obtain ⟨i,_,rfl⟩:=h;exact au.cons d au.nil
 | slc a n m e =>
  have d:=h;cases a <;> simp only [ai] at h
  ·obtain ⟨rfl,_⟩:=h;exact au.cons d au.nil
  ·obtain ⟨i,_,rfl⟩:=h;exact au.cons d au.nil
 | emp=>have d:=h;simp only [ai] at h;obtain ⟨i,j,rfl⟩:=h;exact au.cons d au.nil
 | map r =>
  have d:=h;cases r <;> simp only [ai] at h
  ·subst h;exact au.cons d au.nil
  ·obtain ⟨i,_,rfl⟩:=h;exact au.cons d au.nil
 | func f cap=>have d:=h;simp only [ai] at h;obtain ⟨i,rfl,_⟩:=h;exact au.cons d au.nil
 | uS f ft cap=>have d:=h;simp only [ai] at h;obtain ⟨i,j,rfl,_⟩:=h;exact au.cons d au.nil
 | iface t v=>have d:=h;simp only [ai] at h;obtain ⟨i,rfl,_⟩:=h;exact au.cons d au.nil
 | aQ l=>simp [AV.cells,AV.one] at hb
 | bad=>simp [AV.cells,AV.one] at hb
 | int k n=>have d:=h;simp only [ai] at h;subst h;exact au.cons d au.nil
 | bool b=>have d:=h;simp only [ai] at h;subst h;exact au.cons d au.nil
 | str s=>have d:=h;simp only [ai] at h;subst h;exact au.cons d au.nil
 | nilFunc=>have d:=h;simp only [ai] at h;subst h;exact au.cons d au.nil
 | Ss l=>have d:=h;simp only [ai] at h;subst h;exact au.cons d au.nil
 | nilIface=>have d:=h;simp only [ai] at h;subst h;exact au.cons d au.nil
theorem ai.one {γ:bT} {v:AV} {c:Value} (h:ai γ v c) (hv:v.one=true):c.oneCell'=true:=by
 cases v with
 | ptr a=>cases a <;> simp only [ai] at h <;> (first | (subst h;rfl) | (obtain ⟨_,_,rfl⟩:=h;rfl))
 | slc a n m e=>cases a <;> simp only [ai] at h <;> (first | (obtain ⟨rfl,_⟩:=h;rfl) | (obtain ⟨_,_,rfl⟩:=h;rfl))
 | emp=>simp only [ai] at h;obtain ⟨_,_,rfl⟩:=h;rfl
 | map r=>cases r <;> simp only [ai] at h <;> (first | (subst h;rfl) | (obtain ⟨_,_,rfl⟩:=h;rfl))
 | func f cap=>simp only [ai] at h;obtain ⟨_,rfl,_⟩:=h;rfl
 | uS f ft cap=>simp only [ai] at h;obtain ⟨_,_,rfl,_⟩:=h;rfl
 | iface t v=>simp only [ai] at h;obtain ⟨_,rfl,_⟩:=h;rfl
 | agg l=>simp [AV.one] at hv
 | aQ l=>simp [AV.one] at hv
 | bad=>simp [AV.one] at hv
 | _=>simp only [ai] at h;subst h;rfl
inductive AO where
 | cells (cs:List AV) (g:Nat) (ro:Bool)
 | map (es:List (AV×AV×Nat)) (clock:Nat) (ro:Bool)
 | fW (m:Option Nat) (since:Nat) (seen:List Nat) (stepped:Nat) (ro:Bool)
 | qp (s:List UInt8) (pos:Nat) (ro:Bool)
 | dead
 deriving Inhabited
def AO.ro:AO->Bool
 | .cells _ _ r=>r
 | .map _ _ r=>r
 | .fW _ _ _ _ r=>r
 | .qp _ _ r=>r
 | .dead=>true
def AO.Wu:AO->AO
 | .cells c g _=>.cells c g true
 | .map es k _=>.map es k true
 | .fW m a b c _=>.fW m a b c true
 | .qp s p _=>.qp s p true
 | .dead=>.dead
def bW (γ:bT):List (AV×AV×Nat)->List MapEntry->Prop
 | [],c=>c=[]
 | (k,v,n)::es,c=>∃ e cs,c=e::cs/\ai γ k e.key/\ai γ v e.val/\e.born=n/\bW γ es cs
theorem bW.mono {γ γ':bT} (h:bT.le γ γ'):∀ {es:List (AV×AV×Nat)} {cs:List MapEntry},bW γ es cs->bW γ' es cs
 | [],_,e=>by simpa [bW] using e
 | (k,v,n)::es,_,e=>by
  simp only [bW] at e ⊢;obtain ⟨d,ds,rfl,b,hv,c,hs⟩:=e;exact ⟨d,ds,rfl,b.mono h,hv.mono h,c,bW.mono h hs⟩
def lQ (γ:bT) (w:World) (i:CI):AO->Prop
 | .cells cs g ro=>∃ c e fz,w.heap[i.b]? = some (.cells c e fz)/\(∀ (k:Nat) v,cs[k]? = some v->v.one=true/\∃ cv,c[i.d+k]? = some cv/\ai γ v cv) /\
   (ro=false->∀ o,o<c.size->¬ (fz.1<=o/\o<fz.2))/\(g≠0->c.size=i.d+cs.length+i.x*g/\∀ k,i.d+cs.length<=k->k<c.size->∃ v cv,v.one=true/\c[k]? = some cv/\ai γ v cv) /\
   (ro=false->(g≠1->fz=(0,0))/\fz.1<=fz.2)
 | .map es clock _=>∃ l,w.heap[i.b]? = some (.map l clock)/\bW γ es l.toList
 | .fW none since seen stepped _=>i.d=0/\w.heap[i.b]? = some (.mapIter none since seen.toArray stepped)
 | .fW (some m) since seen stepped _=>i.d=0/\∃ j,γ m=some j/\w.heap[i.b]? = some (.mapIter (some j.b) since seen.toArray stepped)
 | .qp s pos _=>i.d=0/\w.heap[i.b]? = some (.stringIter ⟨s.toArray⟩ pos)
 | .dead=>False
theorem lQ.mono {γ γ':bT} {w:World} {i:CI} {o:AO} (h:bT.le γ γ') (l:lQ γ w i o):lQ γ' w i o:=by
 cases o with
 | cells cs g ro =>
  obtain ⟨c,e,fz,n,h2,h3,h4,z⟩:=l;exact ⟨c,e,fz,n,fun k v p=>let ⟨a,cv,b,d⟩:=h2 k v p;⟨a,cv,b,d.mono h⟩,h3,fun y=>⟨(h4 y).1,fun k p r=>let ⟨v,cv,a,b,d⟩:=(h4 y).2 k p r;⟨v,cv,a,b,d.mono h⟩⟩,z⟩
 | map es clock ro=>obtain ⟨x,n,h2⟩:=l;exact ⟨x,n,h2.mono h⟩
 | fW m since seen stepped ro=>cases m with
  | none=>exact l
  | some m=>obtain ⟨h0,j,n,h2⟩:=l;exact ⟨h0,j,h _ _ n,h2⟩
 | qp s pos ro=>exact l
 | dead=>exact l
theorem lQ.congr {γ:bT} {w w':World} {i:CI} {o:AO} (d:w'.heap[i.b]? = w.heap[i.b]?) (c:lQ γ w i o):lQ γ w' i o:=by
 cases o with
 | cells cs g ro=>simpa [lQ,d] using c
 | map es clock ro=>simpa [lQ,d] using c
 | fW m since seen stepped ro=>cases m <;> simpa [lQ,d] using c
 | qp s pos ro=>simpa [lQ,d] using c
 | dead=>exact c
theorem lQ.lt {γ:bT} {w:World} {i:CI} {o:AO} (d:lQ γ w i o):i.b<w.heap.size:=by
 have key:∃ x,w.heap[i.b]? = some x:=by
  cases o with
  | cells cs g ro=>obtain ⟨c,e,fz,h,_⟩:=d;exact ⟨_,h⟩
  | map es clock ro=>obtain ⟨c,h,_⟩:=d;exact ⟨_,h⟩
  | fW m since seen stepped ro=>cases m with
   | none=>exact ⟨_,d.2⟩
   | some m=>obtain ⟨_,j,_,h⟩:=d;exact ⟨_,h⟩
  | qp s pos ro=>exact ⟨_,d.2⟩
  | dead=>exact d.elim
 obtain ⟨x,k⟩:=key;rcases Nat.lt_or_ge i.b w.heap.size with h | h
 ·exact h
 ·simp [Array.getElem?_eq_none h] at k
inductive Tr (α:Type) where
 | E
 | N (l:Tr α) (v:Option α) (r:Tr α)
 deriving Inhabited
def Tr.get {α:Type}:Tr α->Nat->Option α
 | .E,_=>none
 | .N l v r,n=>bif Nat.beq n 0 then v else bif Nat.beq (n % 2) 1 then l.get (n / 2) else r.get (n / 2 - 1)
def Tr.left {α:Type}:Tr α->Tr α
 | .E=>.E
 | .N l _ _=>l
def Tr.right {α:Type}:Tr α->Tr α
 | .E=>.E
 | .N _ _ r=>r
def Tr.val {α:Type}:Tr α->Option α
 | .E=>none
 | .N _ v _=>v
def Tr.St {α:Type}:Nat->Tr α->Nat->α->Tr α
 | 0,t,_,_=>t
 | k+1,t,n,v=>bif Nat.beq n 0 then .N t.left (some v) t.right else bif Nat.beq (n % 2) 1 then .N (St k t.left (n / 2) v) t.val t.right else .N t.left t.val (St k t.right (n / 2 - 1) v)
def Tr.set {α:Type} (t:Tr α) (n:Nat) (v:α):Tr α:=t.St (Nat.log2 (n+1)+1) n v
theorem JZ {a b:Nat} (h:¬ a=b):Nat.beq a b=false:=by
 cases c:Nat.beq a b with
 | false=>rfl
 | true=>exact absurd (Nat.eq_of_beq_eq_true c) h
theorem Tr.kW {α:Type} (t:Tr α) (n:Nat):t.get n=if n=0 then t.val else if n % 2=1 then t.left.get (n / 2) else t.right.get (n / 2 - 1):=by
 cases t with
 | E=>simp [Tr.get,Tr.val,Tr.left,Tr.right]
 | N l v r =>
  simp only [Tr.get,Tr.val,Tr.left,Tr.right];by_cases h0:n=0
  ·subst h0;rfl
  ·rw [if_neg h0];have:Nat.beq n 0=false:=JZ h0;rw [this];by_cases b:n % 2=1
   ·rw [if_pos b,b];rfl
   ·rw [if_neg b];have:Nat.beq (n % 2) 1=false:=JZ b;rw [this];rfl
theorem Tr.FV {α:Type}:∀ (k:Nat) (t:Tr α) (n:Nat) (v:α) (x:Nat),n+1<2 ^ k->(t.St k n v).get x=if x=n then some v else t.get x
 | 0,t,n,v,x,h=>by simp at h
 | k+1,t,n,v,x,h=>by
  have j:2 ^ (k+1)=2*2 ^ k:=by rw [Nat.pow_succ];omega
  simp only [Tr.St];by_cases h0:n=0
  ·subst h0;have e:Nat.beq 0 0=true:=rfl;rw [e,Tr.kW];simp only [cond_true,Tr.val,Tr.left,Tr.right];by_cases c:x=0
   ·rw [if_pos c,if_pos c]
   ·rw [if_neg c,if_neg c,Tr.kW t x,if_neg c];cases t <;> rfl
  ·have e:Nat.beq n 0=false:=JZ h0;rw [e];simp only [cond_false];by_cases i:n % 2=1
   ·rw [i];have e1:Nat.beq 1 1=true:=rfl;rw [e1,Tr.kW];simp only [cond_true,Tr.val,Tr.left,Tr.right];by_cases c:x=0
    ·rw [if_pos c,if_neg (by omega),Tr.kW t x,if_pos c];cases t <;> rfl
    ·rw [if_neg c];by_cases b:x % 2=1
     ·rw [if_pos b,Tr.FV k _ _ _ _ (by omega)];by_cases d:x=n
      ·subst d;simp
      ·rw [if_neg d,if_neg (by omega),Tr.kW t x,if_neg c,if_pos b];cases t <;> rfl
     ·rw [if_neg b,if_neg (by omega),Tr.kW t x,if_neg c,if_neg b];cases t <;> rfl
   ·have e1:Nat.beq (n % 2) 1=false:=JZ i;rw [e1];simp only [cond_false];rw [Tr.kW];simp only [Tr.val,Tr.left,Tr.right];by_cases c:x=0
    ·rw [if_pos c,if_neg (by omega),Tr.kW t x,if_pos c];cases t <;> rfl
    ·rw [if_neg c];by_cases b:x % 2=1
     ·rw [if_pos b,if_neg (by omega),Tr.kW t x,if_neg c,if_pos b];cases t <;> rfl
     ·rw [if_neg b,Tr.FV k _ _ _ _ (by omega)];by_cases d:x=n
      ·subst d;simp
      ·rw [if_neg d,if_neg (by omega),Tr.kW t x,if_neg c,if_neg b];cases t <;> rfl
theorem Tr.sk {α:Type} (t:Tr α) (n:Nat) (v:α) (x:Nat):(t.set n v).get x=if x=n then some v else t.get x :=
 Tr.FV _ t n v x Nat.lt_log2_self
structure AS where
 lay:List (Tr AO)
 cur:Tr AO
 nl:Nat
 st:Nat
def J2:List (Tr AO)->Nat->Option AO
 | [],_=>none
 | t::ts,l=>match t.get l with
  | some .dead=>none
  | some o=>some o.Wu
  | none=>J2 ts l
def AS.h (s:AS) (l:Nat):Option AO :=
 match s.cur.get l with
 | some .dead=>none
 | some o=>some o
 | none=>J2 s.lay l
def AS.put (s:AS) (l:Nat) (o:AO):AS:={ s with cur:=s.cur.set l o }
def AS.kill (s:AS) (l:Nat):AS:={ s with cur:=s.cur.set l .dead }
def AS.new (s:AS) (o:AO):AS:={ s with cur:=s.cur.set s.nl o,nl:=s.nl+s.st }
def AO.live:AO->Bool
 | .dead=>false
 | _=>true
theorem AO.zo {o:AO} (h:o.ro=false):o.live=true:=by cases o <;> first | rfl | cases h
theorem AS.oZ (s:AS) (l:Nat) {o:AO} (c:o.live=true) (x:Nat):(s.put l o).h x=if x=l then some o else s.h x:=by
 simp only [AS.h,AS.put,Tr.sk];by_cases b:x=l
 ·rw [if_pos b,if_pos b];cases o <;> first | rfl | cases c
 ·rw [if_neg b,if_neg b]
theorem AS.sR (s:AS) (l x:Nat):(s.kill l).h x=if x=l then none else s.h x:=by
 simp only [AS.h,AS.kill,Tr.sk];by_cases b:x=l
 ·rw [if_pos b,if_pos b]
 ·rw [if_neg b,if_neg b]
theorem AS.o_ (s:AS) {o:AO} (c:o.live=true) (x:Nat):(s.new o).h x=if x=s.nl then some o else s.h x:=by
 simp only [AS.h,AS.new,Tr.sk];by_cases b:x=s.nl
 ·rw [if_pos b,if_pos b];cases o <;> first | rfl | cases c
 ·rw [if_neg b,if_neg b]
theorem AS.uT (s:AS) (o:AO):(s.new o).nl=s.nl+s.st:=rfl
theorem AS.CG (s:AS) (l:Nat) (o:AO):(s.put l o).nl=s.nl:=rfl
theorem AS.oV (s:AS) (l:Nat):(s.kill l).nl=s.nl:=rfl
theorem AS.N_ (s:AS) (o:AO):(s.new o).st=s.st:=rfl
theorem AS.Wv (s:AS) (l:Nat) (o:AO):(s.put l o).st=s.st:=rfl
theorem AS.Ft (s:AS) (l:Nat):(s.kill l).st=s.st:=rfl
structure Rel (B:Nat) (γ:bT) (s:AS) (w:World):Prop where
 obj:∀ l o,s.h l=some o->∃ i,γ l=some i/\lQ γ w i o/\(o.ro=false->B<=i.b)
 inj:∀ l l' o o' i i',s.h l=some o->s.h l'=some o'->o.ro=false->γ l=some i->γ l'=some i'->i.b=i'.b->l=l'
 fin:∀ j,γ (s.nl+j*s.st)=none
 Su:1<=s.st
 base:B<=w.heap.size
theorem Rel.LI {B:Nat} {γ:bT} {s:AS} {w:World} (h:Rel B γ s w):γ s.nl=none:=by simpa using h.fin 0
def Env (w w':World):Prop:=w'.os=w.os/\w'.tape=w.tape/\w'.output=w.output
theorem Env.trans {a b c:World} (h:Env a b) (d:Env b c):Env a c:=⟨d.1.trans h.1,d.2.1.trans h.2.1,d.2.2.trans h.2.2⟩
structure gq (B:Nat) (γ:bT) (s:AS) (w:World) (γ':bT) (s':AS) (w':World):Prop where
 le:bT.le γ γ'
 V8:∀ b,b<w.heap.size->(∀ l o i,s.h l=some o->o.ro=false->γ l=some i->i.b≠b)->w'.heap[b]? = w.heap[b]?
 eZ:w.heap.size<=w'.heap.size
 new:∀ l o i,s'.h l=some o->o.ro=false->γ' l=some i->w.heap.size<=i.b\/∃ l0 o0 i0,s.h l0=some o0/\o0.ro=false/\γ l0=some i0/\i0.b=i.b
 nl:∃ k,s'.nl=s.nl+k*s.st
 st:s'.st=s.st
 lay:s'.lay=s.lay
 dom:∀ l,γ l=none->γ' l≠none->∃ j,l=s.nl+j*s.st
 YA:∀ l o,s'.cur.get l=some o->o.live=true->o.ro=true->s.cur.get l=some o
 env:Env w w'
theorem gq.refl {B:Nat} {γ:bT} {s:AS} {w:World}:gq B γ s w γ s w :=
 ⟨bT.le_refl γ,fun _ _ _=>rfl,Nat.le_refl _,fun l o i b h2 h3=>.inr ⟨l,o,i,b,h2,h3,rfl⟩,⟨0,by simp⟩,rfl,rfl,fun _ h c=>absurd h c,fun _ _ h _ _=>h,rfl,rfl,rfl⟩
theorem gq.trans {B:Nat} {γ γ' d:bT} {s s' s'':AS} {w w' w'':World} (a:gq B γ s w γ' s' w') (b:gq B γ' s' w' d s'' w''):gq B γ s w d s'' w'':=by
 refine ⟨bT.le_trans a.le b.le,fun k x y=>?_,Nat.le_trans a.eZ b.eZ,fun l o i c h2 h3=>?_,?_,b.st.trans a.st,b.lay.trans a.lay,fun l h z=>?_,fun l o h c h2=>a.YA l o (b.YA l o h c h2) c h2,a.env.trans b.env⟩
 ·rw [b.V8 k (Nat.lt_of_lt_of_le x a.eZ) ?_,a.V8 k x y];intro l o i c h2 h3 e;rcases a.new l o i c h2 h3 with h | ⟨l0,o0,i0,m,n,p,A⟩
  ·omega
  ·exact y l0 o0 i0 m n p (by omega)
 ·rcases b.new l o i c h2 h3 with h | ⟨l0,o0,i0,m,n,p,A⟩
  ·exact .inl (Nat.le_trans a.eZ h)
  ·rcases a.new l0 o0 i0 m n p with h | ⟨l1,C,i1,f1,f2,f3,f4⟩
   ·exact .inl (by omega)
   ·exact .inr ⟨l1,C,i1,f1,f2,f3,by omega⟩
 ·obtain ⟨r,e1⟩:=a.nl;obtain ⟨k2,e2⟩:=b.nl;exact ⟨r+k2,by rw [e2,e1,a.st,Nat.add_mul,Nat.add_assoc]⟩
 ·cases c:γ' l with
  | some i=>exact a.dom l h (by rw [c];simp)
  | none =>
   obtain ⟨r,e1⟩:=a.nl;obtain ⟨j,hj⟩:=b.dom l c z;exact ⟨r+j,by rw [hj,e1,a.st,Nat.add_mul,Nat.add_assoc]⟩
end
section
theorem Rel.of_heap {B:Nat} {γ:bT} {s:AS} {w w':World} (h:Rel B γ s w) (d:w'.heap=w.heap):Rel B γ s w' :=
 ⟨fun l o e=>let ⟨i,a,b,c⟩:=h.obj l o e;⟨i,a,b.congr (by rw [d]),c⟩,h.inj,h.fin,h.Su,by rw [d];exact h.base⟩
theorem gq.of_heap {B:Nat} {γ:bT} {s:AS} {w w':World} (b:w'.heap=w.heap) (c:Env w w':=by exact ⟨rfl,rfl,rfl⟩):gq B γ s w γ s w' :=
 ⟨bT.le_refl γ,fun _ _ _=>by rw [b],by rw [b];exact Nat.le_refl _,fun l o i d h2 h3=>.inr ⟨l,o,i,d,h2,h3,rfl⟩,⟨0,by simp⟩,rfl,rfl,fun _ h e=>absurd h e,fun _ _ h _ _=>h,c⟩
theorem US {s:AS} {l:Nat} {o':AO} (b:o'.ro=false):∀ x o,(s.put l o').cur.get x=some o->o.live=true->o.ro=true->s.cur.get x=some o:=by
 intro x o h c h2;simp only [AS.put,Tr.sk] at h;split at h
 ·obtain rfl:=Option.some.inj h;rw [b] at h2;cases h2
 ·exact h
theorem PX {s:AS} {o':AO} (b:o'.ro=false):∀ x o,(s.new o').cur.get x=some o->o.live=true->o.ro=true->s.cur.get x=some o:=by
 intro x o h c h2;simp only [AS.new,Tr.sk] at h;split at h
 ·obtain rfl:=Option.some.inj h;rw [b] at h2;cases h2
 ·exact h
theorem LJ {s:AS} {l:Nat}:∀ x o,(s.kill l).cur.get x=some o->o.live=true->o.ro=true->s.cur.get x=some o:=by
 intro x o h b h2;simp only [AS.kill,Tr.sk] at h;split at h
 ·obtain rfl:=Option.some.inj h;cases b
 ·exact h
theorem Rel.write {B:Nat} {γ:bT} {s:AS} {w w':World} {l:Nat} {o o':AO} {i:CI} {obj:Obj} (h:Rel B γ s w) (m:s.h l=some o) (d:o.ro=false) (k:o'.ro=false)
  (hi:γ l=some i) (D:w'.heap=w.heap.setIfInBounds i.b obj) (G:lQ γ w' i o') (H:Env w w':=by exact ⟨rfl,rfl,rfl⟩):Rel B γ (s.put l o') w'/\gq B γ s w γ (s.put l o') w':=by
 have n:w'.heap.size=w.heap.size:=by rw [D];simp
 have r:∀ b,b≠i.b->w'.heap[b]? = w.heap[b]? := by
  intro b hb;rw [D,Array.getElem?_setIfInBounds_ne (Ne.symm hb)]
 have c:=AO.zo k;constructor
 ·refine ⟨fun l' p hp=>?_,fun l1 F p1 I i1 i2 y h2 J K L e=>?_,h.fin,h.Su,by rw [n];exact h.base⟩
  ·rw [AS.oZ _ _ c] at hp;split at hp
   ·rename_i e;subst e;obtain rfl:=Option.some.inj hp;obtain ⟨j,hj,_,z⟩:=h.obj l' o m;rw [hi] at hj;obtain rfl:=Option.some.inj hj;exact ⟨i,hi,G,fun _=>z d⟩
   ·rename_i e;obtain ⟨j,hj,M,z⟩:=h.obj l' p hp;refine ⟨j,hj,M.congr (r _ ?_),z⟩;intro e2;exact e (h.inj l l' o p i j m hp d hi hj e2.symm).symm
  ·have key:∀ x p,(s.put l o').h x=some p->∃ q,s.h x=some q/\(p.ro=false->q.ro=false):=by
    intro x p A;rw [AS.oZ _ _ c] at A;split at A
    ·rename_i e;subst e;exact ⟨o,m,fun _=>d⟩
    ·exact ⟨p,A,fun h=>h⟩
   obtain ⟨O,Q,C⟩:=key l1 p1 y;obtain ⟨R,k2,_⟩:=key F I h2;exact h.inj l1 F O R i1 i2 Q k2 (C J) K L e
 ·refine ⟨bT.le_refl γ,fun b hb S=>r b fun e=>S l o i m d hi e.symm,by rw [n];exact Nat.le_refl _,fun l' p j y h2 h3=>.inr ?_,⟨0,by simp [AS.CG]⟩,rfl,rfl,fun _ h U=>absurd h U,US k,H⟩;rw [AS.oZ _ _ c] at y;split at y
  ·rename_i e;subst e;exact ⟨l',o,j,m,d,h3,rfl⟩
  ·exact ⟨l',p,j,y,h2,h3,rfl⟩
theorem Rel.same {B:Nat} {γ:bT} {s:AS} {w w':World} {l:Nat} {o:AO} {i:CI} {obj:Obj} (h:Rel B γ s w) (m:s.h l=some o) (c:o.ro=false)
  (hi:γ l=some i) (r:w'.heap=w.heap.setIfInBounds i.b obj) (x:lQ γ w' i o) (y:Env w w':=by exact ⟨rfl,rfl,rfl⟩):Rel B γ s w'/\gq B γ s w γ s w':=by
 have d:w'.heap.size=w.heap.size:=by rw [r];simp
 have k:∀ b,b≠i.b->w'.heap[b]? = w.heap[b]? := by
  intro b hb;rw [r,Array.getElem?_setIfInBounds_ne (Ne.symm hb)]
 constructor
 ·refine ⟨fun l' p hp=>?_,h.inj,h.fin,h.Su,by rw [d];exact h.base⟩;by_cases e:l'=l
  ·subst e;rw [m] at hp;obtain rfl:=Option.some.inj hp;obtain ⟨j,hj,_,n⟩:=h.obj _ _ m;rw [hi] at hj;obtain rfl:=Option.some.inj hj;exact ⟨i,hi,x,n⟩
  ·obtain ⟨j,hj,z,n⟩:=h.obj l' p hp;refine ⟨j,hj,z.congr (k _ ?_),n⟩;intro e2;exact e (h.inj l l' o p i j m hp c hi hj e2.symm).symm
 ·exact ⟨bT.le_refl γ,fun b hb A=>k b fun e=>A l o i m c hi e.symm,by rw [d];exact Nat.le_refl _,fun l' p j C h2 h3=>.inr ⟨l',p,j,C,h2,h3,rfl⟩,⟨0,by simp⟩,rfl,rfl,fun _ h D=>absurd h D,fun _ _ h _ _=>h,y⟩
def iM (γ:bT) (l:Nat) (i:CI):bT:=fun x=>if x=l then some i else γ x
theorem cG (γ:bT) (l:Nat) (i:CI):iM γ l i l=some i:=by simp [iM]
theorem bT.uU {γ:bT} {l:Nat} {i:CI} (h:γ l=none):bT.le γ (iM γ l i):=by
 intro x j b;simp only [iM];split
 ·rename_i e;subst e;rw [h] at b;exact absurd b (by simp)
 ·exact b
theorem PY {γ:bT} {s:AS} {i:CI} (l:Nat) (h:γ l=none) (b:iM γ s.nl i l≠none):∃ j,l=s.nl+j*s.st:=by
 simp only [iM] at b;split at b
 ·rename_i e;exact ⟨0,by simp [e]⟩
 ·exact absurd h b
theorem Rel.alloc {B:Nat} {γ:bT} {s:AS} {w w':World} {o:AO} {i:CI} {obj:Obj} (h:Rel B γ s w) (r:o.ro=false)
  (D:i.b=w.heap.size) (A:w'.heap=w.heap.push obj) (F:lQ (iM γ s.nl i) w' i o) (G:Env w w':=by exact ⟨rfl,rfl,rfl⟩) :
  Rel B (iM γ s.nl i) (s.new o) w'/\gq B γ s w (iM γ s.nl i) (s.new o) w':=by
 have d:γ s.nl=none:=h.LI;have hle:bT.le γ (iM γ s.nl i):=bT.uU d;have hold:∀ b,b<w.heap.size->w'.heap[b]? = w.heap[b]? := by
  intro b hb;rw [A,Array.getElem?_push_lt hb,Array.getElem?_eq_getElem hb]
 have H:w'.heap.size=w.heap.size+1:=by rw [A];simp
 have K:=h.base;have x:=h.Su;have c:=AO.zo r;have I:∀ p,s.h s.nl=some p->False:=by
  intro p hp;obtain ⟨j,hj,_⟩:=h.obj _ p hp;rw [d] at hj;cases hj
 constructor
 ·refine ⟨fun l' p hp=>?_,fun l1 y p1 C i1 i2 k h2 J l m e=>?_,fun j=>?_,x,by omega⟩
  ·rw [AS.o_ _ c] at hp;split at hp
   ·rename_i e;subst e;obtain rfl:=Option.some.inj hp;exact ⟨i,cG _ _ _,F,fun _=>by omega⟩
   ·obtain ⟨j,hj,n,z⟩:=h.obj l' p hp;exact ⟨j,hle _ _ hj,(n.mono hle).congr (hold _ n.lt),z⟩
  ·rw [AS.o_ _ c] at k h2;simp only [iM] at l m;by_cases e1:l1=s.nl <;> by_cases e2:y=s.nl
   ·rw [e1,e2]
   ·rw [if_pos e1] at l;rw [if_neg e2] at h2 m;obtain rfl:=Option.some.inj l;obtain ⟨j,hj,n,_⟩:=h.obj y C h2;rw [hj] at m;obtain rfl:=Option.some.inj m;have:=n.lt;omega
   ·rw [if_pos e2] at m;rw [if_neg e1] at k l;obtain rfl:=Option.some.inj m;obtain ⟨j,hj,n,_⟩:=h.obj l1 p1 k;rw [hj] at l;obtain rfl:=Option.some.inj l;have:=n.lt;omega
   ·rw [if_neg e1] at k l;rw [if_neg e2] at h2 m;exact h.inj l1 y p1 C i1 i2 k h2 J l m e
  ·rw [AS.uT,AS.N_];simp only [iM];have e1:s.nl+s.st+j*s.st=s.nl+(j+1)*s.st:=by rw [Nat.add_mul,Nat.one_mul];omega
   rw [if_neg (by omega),e1];exact h.fin (j+1)
 ·refine ⟨hle,fun b hb _=>hold b hb,by omega,fun l' p j k h2 h3=>?_,⟨1,by simp [AS.uT]⟩,rfl,rfl,PY,PX r,G⟩;rw [AS.o_ _ c] at k;simp only [iM] at h3;by_cases e:l'=s.nl
  ·rw [if_pos e] at h3;obtain rfl:=Option.some.inj h3;exact .inl (by omega)
  ·rw [if_neg e] at k h3;exact .inr ⟨l',p,j,k,h2,h3,rfl⟩
theorem Rel.kill {B:Nat} {γ:bT} {s:AS} {w:World} (h:Rel B γ s w) (l:Nat):Rel B γ (s.kill l) w/\gq B γ s w γ (s.kill l) w:=by
 have key:∀ x p,(s.kill l).h x=some p->s.h x=some p:=by
  intro x p b;rw [AS.sR] at b;split at b
  ·exact absurd b (by simp)
  ·exact b
 exact ⟨⟨fun l' p hp=>h.obj l' p (key _ _ hp),fun l1 d p1 i i1 i2 c h2 k m n e=>h.inj l1 d p1 i i1 i2 (key _ _ c) (key _ _ h2) k m n e,h.fin,h.Su,h.base⟩,
  ⟨bT.le_refl γ,fun _ _ _=>rfl,Nat.le_refl _,fun l' p j c h2 h3=>.inr ⟨l',p,j,key _ _ c,h2,h3,rfl⟩,⟨0,by simp [AS.oV]⟩,rfl,rfl,fun _ h o=>absurd h o,LJ,rfl,rfl,rfl⟩⟩
theorem Rel.take {B:Nat} {γ:bT} {s:AS} {w w':World} {l:Nat} {o o':AO} {i i':CI} {obj:Obj} (h:Rel B γ s w) (K:s.h l=some o) (m:o.ro=false) (n:o'.ro=false)
  (hi:γ l=some i) (r:i'.b=i.b) (Q:w'.heap=w.heap.setIfInBounds i.b obj) (R:lQ (iM γ s.nl i') w' i' o') (S:Env w w':=by exact ⟨rfl,rfl,rfl⟩) :
  Rel B (iM γ s.nl i') ((s.kill l).new o') w'/\gq B γ s w (iM γ s.nl i') ((s.kill l).new o') w':=by
 have y:γ s.nl=none:=h.LI;have hle:bT.le γ (iM γ s.nl i'):=bT.uU y;have F:w'.heap.size=w.heap.size:=by rw [Q];simp
 have G:∀ b,b≠i.b->w'.heap[b]? = w.heap[b]? := by
  intro b hb;rw [Q,Array.getElem?_setIfInBounds_ne (Ne.symm hb)]
 obtain ⟨Z,H,U,I⟩:=h.obj l o K;rw [hi] at H;obtain rfl:=Option.some.inj H;have I:=I m;have M:=h.Su;have d:=AO.zo n;have key:∀ x p,x≠s.nl->((s.kill l).new o').h x=some p->x≠l/\s.h x=some p:=by
  intro x p k hp;rw [AS.o_ _ d,AS.oV,if_neg k,AS.sR] at hp;split at hp
  ·exact absurd hp (by simp)
  ·rename_i e;exact ⟨e,hp⟩
 have z:∀ x p j,s.h x=some p->x≠l->γ x=some j->j.b≠i.b:=by
  intro x p j k c hj e;exact c (h.inj l x o p i j K k m hi hj e.symm).symm
 constructor
 ·refine ⟨fun x p hp=>?_,fun l1 J p1 L i1 i2 A h2 W C D e=>?_,fun j=>?_,M,by rw [F];exact h.base⟩
  ·by_cases e:x=s.nl
   ·subst e;rw [AS.o_ _ d,AS.oV,if_pos rfl] at hp;obtain rfl:=Option.some.inj hp;exact ⟨i',cG _ _ _,R,fun _=>by omega⟩
   ·obtain ⟨c,k⟩:=key x p e hp;obtain ⟨j,hj,X,O⟩:=h.obj x p k;exact ⟨j,hle _ _ hj,(X.mono hle).congr (G _ (z x p j k c hj)),O⟩
  ·simp only [iM] at C D;by_cases e1:l1=s.nl <;> by_cases e2:J=s.nl
   ·rw [e1,e2]
   ·rw [if_pos e1] at C;rw [if_neg e2] at D;obtain rfl:=Option.some.inj C;obtain ⟨c,k⟩:=key J L e2 h2;exact absurd (e.symm.trans r) (z J L i2 k c D)
   ·rw [if_pos e2] at D;rw [if_neg e1] at C;obtain rfl:=Option.some.inj D;obtain ⟨c,k⟩:=key l1 p1 e1 A;exact absurd (e.trans r) (z l1 p1 i1 k c C)
   ·rw [if_neg e1] at C;rw [if_neg e2] at D;exact h.inj l1 J p1 L i1 i2 (key l1 p1 e1 A).2 (key J L e2 h2).2 W C D e
  ·rw [AS.uT,AS.N_,AS.oV,AS.Ft];simp only [iM];have e1:s.nl+s.st+j*s.st=s.nl+(j+1)*s.st:=by rw [Nat.add_mul,Nat.one_mul];omega
   rw [if_neg (by omega),e1];exact h.fin (j+1)
 ·refine ⟨hle,fun b hb Y=>G b fun e=>Y l o i K m hi e.symm,by rw [F];exact Nat.le_refl _,fun x p j A h2 h3=>.inr ?_,⟨1,by simp [AS.uT,AS.oV,AS.Ft]⟩,rfl,rfl,PY,fun l p h A h2=>LJ l p (PX n l p h A h2) A h2,S⟩;simp only [iM] at h3;by_cases e:x=s.nl
  ·rw [if_pos e] at h3;obtain rfl:=Option.some.inj h3;exact ⟨l,o,i,K,m,hi,r.symm⟩
  ·rw [if_neg e] at h3;exact ⟨x,p,j,(key x p e A).2,h2,h3,rfl⟩
end
section
structure TT where
 cW:TypeId->Option TypeDesc
 eZ:TypeId->Option Nat
 HX:TypeId->Option Nat
 sS:TypeId->Option AV
 Sm:TypeId->Bool
 UT:TypeId->Bool
structure TT.Ok (P:Program) (T:TT):Prop where
 cW:∀ t d,T.cW t=some d->P.underlying t=some d
 eZ:∀ t n,T.eZ t=some n->(P.info? t).map (·.size)=some n
 HX:∀ t n,T.HX t=some n->(P.info? t).map (·.bytes)=some n
 sS:∀ t v,T.sS t=some v->∃ i c,P.info? t=some i/\i.zero=some c/\∀ γ,ai γ v c
 Sm:∀ t,T.Sm t=true->P.eqGuardType P.depth t=false
 UT:∀ t,T.UT t=true->P.stoodInHeld t=false
mutual
def CB:Value->AV
 | .bool b=>.bool b
 | .int k n=>.int k n
 | .string s=>.str s.data.toList
 | .pointer none=>.ptr none
 | .slice none n m=>.slc none n m true
 | .map none=>.map none
 | .func (.func f) ⟨[]⟩ ⟨c⟩=>.func f (Oa c)
 | .nilFunc=>.nilFunc
 | .iface t v=>.iface t (CB v)
 | .nilIface=>.nilIface
 | .agg ⟨l⟩=>.agg (Oa l)
 | .tuple ⟨l⟩=>.aQ (Oa l)
 | _=>.bad
def Oa:List Value->List AV
 | []=>[]
 | v::vs=>CB v::Oa vs
end
mutual
theorem Fu (γ:bT):∀ v,ai γ (CB v) v
 | .bool b=>by simp [CB,ai]
 | .int k n=>by simp [CB,ai]
 | .string s=>by simp [CB,ai]
 | .pointer none=>by simp [CB,ai]
 | .pointer (some _)=>by simp [CB,ai]
 | .slice none n m=>by simp [CB,ai]
 | .slice (some _) n m=>by simp [CB,ai]
 | .map none=>by simp [CB,ai]
 | .map (some _)=>by simp [CB,ai]
 | .func (.func f) ⟨[]⟩ ⟨c⟩=>by simp only [CB,ai];exact ⟨⟨c⟩,rfl,AK γ c⟩
 | .func (.func f) ⟨_::_⟩ ⟨c⟩=>by simp [CB,ai]
 | .func (.method _) _ _=>by simp [CB,ai]
 | .func (.methodOf _ _) _ _=>by simp [CB,ai]
 | .func (.via _ _ _ _) _ _=>by simp [CB,ai]
 | .func (.yield _) _ _=>by simp [CB,ai]
 | .nilFunc=>by simp [CB,ai]
 | .iface t v=>by simp only [CB,ai];exact ⟨v,rfl,Fu γ v⟩
 | .nilIface=>by simp [CB,ai]
 | .agg ⟨l⟩=>by simp only [CB,ai];exact ⟨⟨l⟩,rfl,AK γ l⟩
 | .tuple ⟨l⟩=>by simp only [CB,ai];exact ⟨⟨l⟩,rfl,AK γ l⟩
 | .float _ _=>by simp [CB,ai]
 | .complex _ _ _=>by simp [CB,ai]
 | .chan _=>by simp [CB,ai]
theorem AK (γ:bT):∀ l,au γ (Oa l) l
 | []=>by simp [Oa,au]
 | v::vs=>by simp only [Oa];exact au.cons (Fu γ v) (AK γ vs)
end
def pW (f:Nat->AV):Operand->AV
 | .tmp t=>f t
 | .const v=>CB v
 | .func g=>.func g []
 | .global _=>.bad
def bN (v:AV):Option (List AV):=if v.cells.all AV.one then some v.cells else none
def TT.agg (T:TT) (t:TypeId):Option Bool :=
 match T.cW t with
 | some (.struct _) | some (.array _ _)=>some true
 | some _=>some false
 | none=>none
def qQ (cs:List AV) (o:Nat):List AV->List AV
 | []=>cs
 | v::vs=>qQ (cs.set o v) (o+1) vs
def aD (s:AS) (l o n:Nat):Option (List AV) :=
 match s.h l with
 | some (.cells cs _ _)=>if o+n<=cs.length then some ((cs.drop o).take n) else none
 | _=>none
def ak (s:AS) (l o:Nat):Option AV :=
 match s.h l with
 | some (.cells cs _ _)=>cs[o]?
 | _=>none
def HY (T:TT) (t:TypeId) (s:AS):AV->Option AV
 | .ptr (some (l,o)) =>
  match T.agg t with
  | some true=>(T.eZ t).bind fun n=>(aD s l o n).map .agg
  | some false=>ak s l o
  | none=>none
 | _=>none
def cS (s:AS) (l o:Nat) (vs:List AV):Option AS :=
 match s.h l with
 | some (.cells cs g false)=>if o+vs.length<=cs.length then some (s.put l (.cells (qQ cs o vs) g false)) else none
 | _=>none
def UU (T:TT) (t:TypeId) (s:AS) (p v:AV):Option AS :=
 match p with
 | .ptr (some (l,o))=>(bN v).bind fun vs=>if T.eZ t=some vs.length then cS s l o vs else none
 | _=>none
def part (T:TT) (t:TypeId) (cs:List AV) (off:Nat):Option AV :=
 match T.agg t with
 | some true=>(T.eZ t).map fun n=>.agg ((cs.drop off).take n)
 | some false=>cs[off]?
 | none=>none
def jQ (place:Nat->Option (Nat×Nat)) (cells:List AV):List (Nat×AV)->Option (List AV)
 | []=>some cells
 | (i,v)::rest =>
  match place i,bN v with
  | some (off,size),some b=>if b.length=size/\off+b.length<=cells.length then jQ place (qQ cells off b) rest else none
  | _,_=>none
def rep (n:Nat) (z:List AV):List AV:=(List.replicate n z).flatten
def aY (T:TT) (t:TypeId) (parts:List (Nat×AV)):Option AV :=
 (T.sS t).bind fun z=>(bN z).bind fun zc =>
  match T.cW t with
  | some (.struct fields) =>
   if fields.all (fun f=>(T.eZ f.type).isSome) then
    (jQ (fun i=>(fields[i]?).bind fun f=>(T.eZ f.type).map fun n=>(f.offset,n)) zc parts).map .agg
   else none
  | some (.array _ elem)=>(T.eZ elem).bind fun n=>(jQ (fun i=>some (i*n,n)) zc parts).map .agg
  | _=>none
def UW (T:TT) (t:TypeId):Nat->Nat
 | 0=>0
 | 1=>0
 | _+2=>match T.cW t with
  | some (.slice e)=>(match T.cW e with | some (.int .u8)=>1 | _=>0)
  | _=>0
def mj (T:TT) (t:TypeId) (len:Nat) (parts:List (Nat×AV)) (s:AS):Option (AV×AS) :=
 match T.cW t with
 | some (.slice elem) =>
  (T.eZ elem).bind fun n=>(T.sS elem).bind fun z=>(bN z).bind fun zc =>
   if zc.length=n/\len*n<=2 ^ 24 then
    (jQ (fun i=>some (i*n,n)) (rep len zc) parts).map fun cs=>(.slc (some (s.nl,0)) len len true,s.new (.cells cs (UW T t len) false))
   else none
 | _=>none
def eqFields (T:TT) (eqv:TypeId->AV->AV->Option Bool) (xs ys:List AV):List Field->Option Bool
 | []=>some true
 | f::fs =>
  if f.name ≠ "_" then
   (part T f.type xs f.offset).bind fun a=>(part T f.type ys f.offset).bind fun b =>
    match eqv f.type a b with
    | some true=>eqFields T eqv xs ys fs
    | r=>r
  else eqFields T eqv xs ys fs
def Fx (T:TT) (eqv:TypeId->AV->AV->Option Bool) (elem:TypeId) (n:Nat) (xs ys:List AV):Nat->Nat->Option Bool
 | 0,_=>some true
 | len+1,i =>
  (part T elem xs (i*n)).bind fun a=>(part T elem ys (i*n)).bind fun b =>
   match eqv elem a b with
   | some true=>Fx T eqv elem n xs ys len (i+1)
   | r=>r
def iZ (T:TT):Nat->TypeId->AV->AV->Option Bool
 | 0,_,_,_=>none
 | d+1,t,x,y =>
  match T.cW t,x,y with
  | some .bool,.bool a,.bool b=>some (a==b)
  | some (.int _),.int k a,.int k' b=>if k=k' then some (a==b) else none
  | some .string,.str a,.str b=>some (a==b)
  | some (.pointer _),.ptr none,.ptr b=>some b.isNone
  | some (.pointer _),.ptr _,.ptr none=>some false
  | some (.slice _),.slc none _ _ _,.slc b _ _ _=>some b.isNone
  | some (.slice _),.slc _ _ _ _,.slc none _ _ _=>some false
  | some (.slice _),.emp,.slc none _ _ _=>some false
  | some (.slice _),.slc none _ _ _,.emp=>some false
  | some (.map _ _),.map none,.map b=>some b.isNone
  | some (.map _ _),.map _,.map none=>some false
  | some (.func _ _ _),.nilFunc,.nilFunc=>some true
  | some (.func _ _ _),.nilFunc,.func _ _=>some false
  | some (.func _ _ _),.nilFunc,.uS _ _ _=>some false
  | some (.func _ _ _),.uS _ _ _,.nilFunc=>some false
  | some (.func _ _ _),.func _ _,.nilFunc=>some false
  | some (.interface _),.nilIface,.nilIface=>some true
  | some (.interface _),.nilIface,.iface _ _=>some false
  | some (.interface _),.iface _ _,.nilIface=>some false
  | some (.struct fields),.agg xs,.agg ys=>if T.UT t then eqFields T (iZ T d) xs ys fields.toList else none
  | some (.array len elem),.agg xs,.agg ys=>(T.eZ elem).bind fun n=>Fx T (iZ T d) elem n xs ys len 0
  | _,_,_=>none
def jH:List UInt8->List UInt8->Bool
 | _,[]=>false
 | [],_::_=>true
 | a::x,b::y=>a<b||(a==b&&jH x y)
def bG (op:BinOp) (k:IntKind) (x y:Int):Option AV :=
 match op with
 | .add=>some (.int k (k.wrap (x+y)))
 | .sub=>some (.int k (k.wrap (x - y)))
 | .mul=>some (.int k (k.wrap (x*y)))
 | .quo=>if y=0 then none else some (.int k (k.wrap (x.tdiv y)))
 | .rem=>if y=0 then none else some (.int k (x.tmod y))
 | .and=>some (.int k (k.wrap (BitVec.ofInt k.bits x &&& BitVec.ofInt k.bits y).toNat))
 | .or=>some (.int k (k.wrap (BitVec.ofInt k.bits x ||| BitVec.ofInt k.bits y).toNat))
 | .xor=>some (.int k (k.wrap (BitVec.ofInt k.bits x ^^^ BitVec.ofInt k.bits y).toNat))
 | .andNot=>some (.int k (k.wrap (BitVec.ofInt k.bits x &&& ~~~ BitVec.ofInt k.bits y).toNat))
 | .eql=>some (.bool (x==y))
 | .neq=>some (.bool (x != y))
 | .lss=>some (.bool (x<y))
 | .leq=>some (.bool (x<=y))
 | .gtr=>some (.bool (x>y))
 | .geq=>some (.bool (x>=y))
 | _=>none
def lR (T:TT) (op:BinOp) (t:TypeId) (x y:AV):Option AV :=
 match op,x,y with
 | .shl,.int k a,.int _ b=>if b<0 then none else some (.int k (k.wrap (a*2 ^ min b.toNat k.bits)))
 | .shr,.int k a,.int _ b=>if b<0 then none else some (.int k (a.fdiv (2 ^ min b.toNat k.bits)))
 | op,.int k a,.int k' b=>if k=k' then bG op k a b else none
 | .add,.str a,.str b=>if ((a.length+b.length:Nat):Int)<=9223372036854775807 then some (.str (a++b)) else none
 | .eql,.str a,.str b=>some (.bool (a==b))
 | .neq,.str a,.str b=>some (.bool !(a==b))
 | .lss,.str a,.str b=>some (.bool (jH a b))
 | .leq,.str a,.str b=>some (.bool (jH a b||a==b))
 | .gtr,.str a,.str b=>some (.bool !(jH a b||a==b))
 | .geq,.str a,.str b=>some (.bool !(jH a b))
 | .eql,x,y=>(iZ T 100 t x y).map .bool
 | .neq,x,y=>(iZ T 100 t x y).map fun b=>.bool !b
 | _,_,_=>none
def Ob:Operand->Bool
 | .const _=>true
 | _=>false
def Oc (T:TT) (t:TypeId) (x y:Operand):AV->AV->Bool
 | .agg _,.agg _=>T.Sm t
 | .nilIface,.nilIface=>Ob x||Ob y
 | .bad,_=>false
 | _,.bad=>false
 | _,_=>true
def V9 (op:UnOp) (x:AV):Option AV :=
 match op,x with
 | .neg,.int k n=>some (.int k (k.wrap (0 - n)))
 | .xor,.int k n=>bG .xor k (if k.signed then -1 else k.max) n
 | .not,.bool b=>some (.bool !b)
 | _,_=>none
def uV (T:TT) (t:TypeId) (x:AV) (f:Nat):Option AV :=
 match T.cW t,x with
 | some (.struct fields),.ptr (some (l,o)) =>
  (fields[f]?).bind fun fd=>match T.eZ fd.type with
   | some (_+1)=>some (.ptr (some (l,o+fd.offset)))
   | _=>none
 | _,_=>none
def ag (T:TT) (t:TypeId) (x ix:AV):Option AV :=
 match T.cW t,x,ix with
 | some (.array len elem),.ptr (some (l,o)),.int _ i =>
  (T.eZ elem).bind fun n=>if 0<=i/\i<len then some (.ptr (some (l,o+i.toNat*n))) else none
 | some (.slice elem),.slc (some (l,o)) len _ _,.int _ i =>
  (T.eZ elem).bind fun n=>if 0<=i/\i<len then some (.ptr (some (l,o+i.toNat*n))) else none
 | _,_,_=>none
def ju (T:TT) (t:TypeId) (x ix:AV):Option AV :=
 match T.cW t,x,ix with
 | some (.array len elem),.agg cs,.int _ i =>
  (T.eZ elem).bind fun n=>if 0<=i/\i<len then part T elem cs (i.toNat*n) else none
 | some .string,.str s,.int _ i=>if 0<=i then (s[i.toNat]?).map fun b=>.int .u8 b.toNat else none
 | _,_,_=>none
def FW (T:TT) (t:TypeId) (x:AV) (f:Nat):Option AV :=
 match T.cW t,x with
 | some (.struct fields),.agg cs=>(fields[f]?).bind fun fd=>part T fd.type cs fd.offset
 | _,_=>none
def ie (y:Nat):AV->Option Nat
 | .int _ i=>if 0<=i/\i<=y then some i.toNat else none
 | _=>none
def tX (y:Nat) (v:Option AV) (d:Nat):Option Nat :=
 match v with
 | none=>some d
 | some v=>ie y v
def qq (len m:Nat):Option AV->Option Nat
 | some v=>ie m v
 | none=>if len<=m then some len else none
def cX (len cap:Nat) (low high max:Option AV):Option (Nat×Nat×Nat) :=
 if high.isNone/\max.isSome then none else
 (tX cap max cap).bind fun m=>(qq len m high).bind fun h=>(tX h low 0).map fun l=>(l,h,m)
def bf (T:TT) (t:TypeId) (x:AV) (low high max:Option AV):Option AV :=
 match T.cW t,x with
 | some .string,.str s =>
  if max.isSome then none else
  (cX s.length s.length low high none).map fun r=>.str ((s.drop r.1).take (r.2.1 - r.1))
 | some (.slice elem),.slc a len cap ex =>
  (T.eZ elem).bind fun n=>(cX len cap low high max).bind fun (l,h,m) =>
   match a with
   | none=>some (.slc none (h - l) (m - l) true)
   | some (b,o) =>
    if ex||max.isSome then some (.slc (some (b,if m=l then o else o+l*n)) (h - l) (m - l) true)
    else if m=l then some .emp
    else some (.slc (some (b,o+l*n)) (h - l) (m - l) false)
 | some (.slice elem),.emp=>(T.eZ elem).bind fun _=>(cX 0 0 low high max).map fun _=>.emp
 | some (.array k elem),.ptr (some (b,o)) =>
  (T.eZ elem).bind fun n=>(cX k k low high max).map fun (l,h,m)=>.slc (some (b,if m=l then o else o+l*n)) (h - l) (m - l) true
 | _,_=>none
def uW (T:TT) (t:TypeId) (len cap:AV) (s:AS):Option (AV×AS) :=
 match T.cW t,len,cap with
 | some (.slice elem),.int _ l,.int _ c =>
  (T.eZ elem).bind fun n=>(T.HX elem).bind fun qR=>(T.sS elem).bind fun z=>(bN z).bind fun zc =>
   if 0<=l/\l<=c/\(qR:Int)*c<=2 ^ 48/\c<2 ^ 63/\zc.length=n then
    some (.slc (some (s.nl,0)) l.toNat c.toNat true,s.new (.cells (rep c.toNat zc) 0 false))
   else none
 | _,_,_=>none
def nZ (size n:Nat) (s:AS):AV->Option (List AV)
 | .slc (some (l,o)) _ _ _=>if n=0 then some [] else aD s l o (n*size)
 | .slc none _ _ _=>some []
 | .emp=>if n=0 then some [] else none
 | .str b=>some ((b.take n).map fun c=>.int .u8 c.toNat)
 | _=>none
def Ef:AV->Option Nat
 | .slc _ n _ _=>some n
 | .emp=>some 0
 | .str s=>some s.length
 | _=>none
def tY (T:TT) (elem:TypeId) (dst x:AV) (s:AS):Option (AV×AS) :=
 (T.eZ elem).bind fun size=>(T.HX elem).bind fun qR=>(T.sS elem).bind fun z=>(bN z).bind fun zc =>
 match dst,x with
 | .slc base len cap true,.int .i64 k =>
  if zc.length≠size\/k<0\/2 ^ 40<len+k.toNat\/2*((len+k.toNat+256)*qR)>2 ^ 48\/len+k.toNat<=cap then none else
  (nZ size len s (.slc base len cap true)).map fun old=>(.slc (some (s.nl,0)) (len+k.toNat) (len+k.toNat) false,s.new (.cells (old++rep k.toNat zc) size false))
 | .slc (some (l,o)) len cap false,.int .i64 k =>
  if zc.length≠size\/k<0\/2 ^ 40<len+k.toNat\/2*((len+k.toNat+256)*qR)>2 ^ 48\/len≠cap then none else
  if k.toNat=0 then some (dst,s) else
  (nZ size len s dst).bind fun old=>match s.h l with
   | some (.cells cs g false)=>if g=size/\size≠0/\o+cap*size=cs.length then
     some (.slc (some (s.nl,0)) (len+k.toNat) (len+k.toNat) false,(s.kill l).new (.cells (old++rep k.toNat zc) size false)) else none
   | _=>none
 | _,_=>none
def aG (T:TT) (t xt:TypeId) (dst x:AV) (s:AS):Option (AV×AS) :=
 match T.cW t,T.cW xt with
 | some (.slice elem),some b =>
  if (match b with | .int _=>true | _=>false) then tY T elem dst x s else
  (T.eZ elem).bind fun size=>(T.HX elem).bind fun qR=>(T.sS elem).bind fun z=>(bN z).bind fun zc =>
  (Ef x).bind fun n=>(nZ size n s x).bind fun new =>
  match dst with
  | .slc base len cap ex =>
   if zc.length≠size\/new.length≠n*size\/2 ^ 40<len+n\/2*((len+n+256)*qR)>2 ^ 48 then none else
   if len+n<=cap then
    (match base with
     | none=>some (.slc none (len+n) cap ex,s)
     | some (l,o) =>
      if new=[] then some (.slc base (len+n) cap ex,s)
      else (cS s l (o+len*size) new).map fun s'=>(.slc base (len+n) cap ex,s'))
   else
    (nZ size len s (.slc base len cap ex)).bind fun old =>
     if ex then some (.slc (some (s.nl,0)) (len+n) (len+n) false,s.new (.cells (old++new) size false))
     else match base with
      | none=>none
      | some (l,o) =>
       match s.h l with
       | some (.cells cs g false) =>
        if g=size/\size≠0/\o+cap*size=cs.length then
         some (.slc (some (s.nl,0)) (len+n) (len+n) false,(s.kill l).new (.cells (old++new) size false))
        else none
       | _=>none
  | _=>none
 | _,_=>none
def q8 (T:TT) (t:TypeId) (dst x:AV) (s:AS):Option (AV×AS) :=
 match T.cW t with
 | some (.slice elem) =>
  (T.eZ elem).bind fun size=>(Ef x).bind fun m=>(Ef dst).bind fun d =>
   (nZ size (min m d) s x).bind fun new =>
    match dst with
    | .slc (some (l,o)) _ _ _=>if new=[] then some (.int .i64 ((min m d:Nat):Int),s) else (cS s l o new).map fun s'=>(.int .i64 ((min m d:Nat):Int),s')
    | .slc none _ _ _=>some (.int .i64 ((min m d:Nat):Int),s)
    | .emp=>if new=[] then some (.int .i64 ((min m d:Nat):Int),s) else none
    | _=>none
 | _=>none
def wP (T:TT) (kt:TypeId) (k:AV):List (AV×AV×Nat)->Nat->Option (Option (Nat×AV))
 | [],_=>some none
 | (k',v,_)::es,i =>
  match iZ T 100 kt k k' with
  | some true=>some (some (i,v))
  | some false=>wP T kt k es (i+1)
  | none=>none
def CH (T:TT) (ok:TypeId->AV->Bool) (cs:List AV):List Field->Bool
 | []=>true
 | f :: fs => (if f.name ≠ "_" then (match part T f.type cs f.offset with | some v => ok f.type v | none => false) else true) && CH T ok cs fs
def FY (T:TT) (ok:TypeId->AV->Bool) (elem:TypeId) (n:Nat) (cs:List AV):Nat->Nat->Bool
 | 0,_=>true
 | len+1,i=>(match part T elem cs (i*n) with | some v=>ok elem v | none=>false)&&FY T ok elem n cs len (i+1)
def n_ (T:TT):Nat->TypeId->AV->Bool
 | 0,_,_=>false
 | d+1,t,v =>
  match T.cW t,v with
  | some (.array len elem),.agg cs=>match T.eZ elem with | some n=>FY T (n_ T d) elem n cs len 0 | none=>false
  | some (.struct fields),.agg cs=>CH T (n_ T d) cs fields.toList
  | some (.interface _),_=>false
  | some (.array _ _),_=>false
  | some (.struct _),_=>false
  | some _,_=>true
  | none,_=>false
def AL (same:AV->AV->Bool):List AV->List AV->Bool
 | [],[]=>true
 | x::xs,y::ys=>same x y&&AL same xs ys
 | _,_=>false
def wQ:Nat->AV->AV->Bool
 | 0,.bool a,.bool b=>a==b
 | 0,.int j a,.int k b=>j==k&&a==b
 | 0,.str a,.str b=>a==b
 | 0,_,_=>false
 | _+1,.bool a,.bool b=>a==b
 | _+1,.int j a,.int k b=>j==k&&a==b
 | _+1,.str a,.str b=>a==b
 | n+1,.agg a,.agg b=>AL (wQ n) a b
 | _+1,_,_=>false
def dA (T:TT) (t:TypeId) (m k:AV) (b:Bool) (s:AS):Option AV :=
 match T.cW t,m with
 | some (.map kt et),.map r =>
  if n_ T 100 kt k then
   (match r with
    | none=>some []
    | some l=>match s.h l with
     | some (.map es _ _)=>some es
     | _=>none).bind fun es =>
    (wP T kt k es 0).bind fun r =>
     (match r with
      | some (_,v)=>some (v,true)
      | none=>(T.sS et).map fun z=>(z,false)).map fun (v,ok)=>if b then .aQ [v,.bool ok] else v
  else none
 | _,_=>none
def dG (T:TT) (t:TypeId) (m k v:AV) (s:AS):Option AS :=
 match T.cW t,m with
 | some (.map kt _),.map (some l) =>
  match s.h l with
  | some (.map es clock false) =>
   if n_ T 100 kt k then
    (wP T kt k es 0).bind fun r =>
     match r with
     | some (i,_)=>match es[i]? with
      | some (k',_,n)=>if wQ 100 k' k then some (s.put l (.map (es.set i (k,v,n)) clock false)) else none
      | none=>none
     | none=>some (s.put l (.map (es++[(k,v,clock)]) (clock+1) false))
   else none
  | _=>none
 | _,_=>none
def mM (T:TT) (t:TypeId) (m k:AV) (s:AS):Option AS :=
 match T.cW t,m with
 | some (.map kt _),.map r =>
  if n_ T 100 kt k then
   match r with
   | none=>some s
   | some l=>match s.h l with
    | some (.map es clock false) =>
     (wP T kt k es 0).map fun r=>match r with
      | some (i,_)=>s.put l (.map (es.eraseIdx i) clock false)
      | none=>s.put l (.map es clock false)
    | _=>none
  else none
 | _,_=>none
def aL (T:TT) (t:TypeId) (x:AV) (s:AS):Option AV :=
 match T.cW t,x with
 | some .string,.str b=>some (.int .i64 b.length)
 | some (.array n _),_=>some (.int .i64 n)
 | some (.slice _),.slc _ n _ _=>some (.int .i64 n)
 | some (.slice _),.emp=>some (.int .i64 0)
 | some (.map _ _),.map none=>some (.int .i64 0)
 | some (.map _ _),.map (some l)=>match s.h l with
  | some (.map es _ _)=>some (.int .i64 es.length)
  | _=>none
 | _,_=>none
def wR (T:TT) (t:TypeId) (x:AV):Option AV :=
 match T.cW t,x with
 | some (.slice _),.slc _ _ c true=>some (.int .i64 c)
 | _,_=>none
def J_ (T:TT) (t:TypeId) (x:AV) (s:AS):Option AS :=
 match T.cW t,x with
 | some (.slice _),.slc none _ _ _=>some s
 | some (.slice _),.emp=>some s
 | some (.slice elem),.slc (some (l,o)) n _ _ =>
  if n=0 then some s else
  (T.sS elem).bind fun z=>(bN z).bind fun zc=>cS s l o (rep n zc)
 | _,_=>none
def PZ (b:Bool):AV->AV->Option AV
 | .int k x,.int _ y=>some (.int k (if b then (if y>x then y else x) else (if y<x then y else x)))
 | _,_=>none
def LL (b:Bool) (x:AV):List AV->Option AV
 | []=>some x
 | y::ys=>(PZ b x y).bind fun z=>LL b z ys
def LM (b:Bool):List AV->Option AV
 | []=>none
 | x::rest=>LL b x rest
def zq:List AV->Option (List UInt8)
 | []=>some []
 | .int .u8 b::cs=>(zq cs).map fun l=>UInt8.ofNat b.toNat::l
 | _::_=>none
def cY (T:TT) (src dst:TypeId) (x:AV) (s:AS):Option (AV×AS) :=
 match T.cW src,T.cW dst,x with
 | some _,some (.int k),.int _ n=>some (.int k (k.wrap n),s)
 | some _,some .string,.str b=>some (.str b,s)
 | some _,some (.slice e),.str b =>
  match T.cW e with
  | some (.int .u8)=>some (.slc (some (s.nl,0)) b.length b.length false,s.new (.cells (b.map fun c=>.int .u8 c.toNat) 1 false))
  | _=>none
 | some (.slice e),some .string,.slc none n _ _ =>
  match T.cW e with
  | some (.int .u8)=>if n=0 then some (.str [],s) else none
  | _=>none
 | some (.slice e),some .string,.emp =>
  match T.cW e with
  | some (.int .u8)=>some (.str [],s)
  | _=>none
 | some (.slice e),some .string,.slc (some (l,o)) n _ _ =>
  match T.cW e with
  | some (.int .u8)=>if n=0 then some (.str [],s) else (aD s l o n).bind fun cs=>(zq cs).map fun bs=>(.str bs,s)
  | _=>none
 | some (.slice _),some (.slice e),.slc (some (l,o)) n m ex =>
  if src=dst then
   match T.cW e,s.h l with
   | some (.int .u8),some (.cells _ 1 false)=>some (.slc (some (l,o)) n m ex,s)
   | _,_=>none
  else none
 | _,_,_=>none
def er (T:TT) (b:Builtin) (ts:List TypeId) (args:List AV) (s:AS):Option (AV×AS) :=
 match b,ts,args with
 | .len,t::_,x::_=>(aL T t x s).map (·,s)
 | .cap,t::_,x::_=>(wR T t x).map (·,s)
 | .append,t::xt::_,dst::x::_=>aG T t xt dst x s
 | .copy,t::_::_,dst::x::_=>q8 T t dst x s
 | .delete,t::_,m::k::_=>(mM T t m k s).map (.undef,·)
 | .clear,t::_,x::_=>(J_ T t x s).map (.undef,·)
 | .max,_,l=>(LM true l).map (·,s)
 | .min,_,l=>(LM false l).map (·,s)
 | _,_,_=>none
def wS (x:AV) (s:AS):Option AV:=match x with
 | .ptr (some (l,0))=>match s.h l with
  | some (.fW (some m) _ seen stepped _)=>match s.h m with
   | some (.map es clock _)=>if clock=stepped then (seen.getLast?).bind fun n=>(es.find? fun e=>e.2.2==n).map fun e=>.aQ [e.1,e.2.1] else none
   | _=>none
  | _=>none
 | _=>none
def QY (T:TT) (t:TypeId):AV->Option AV
 | .slc (some p) len _ _=>match T.cW t with
  | some (.array n _)=>if len<n then none else some (.ptr (some p))
  | _=>none
 | _=>none
def cO (T:TT) (op:Op) (ρ:Operand->AV) (s:AS):Option (AV×AS) :=
 match op with
 | .move x | .assign x=>some (ρ x,s)
 | .pick c a b=>match ρ c with
  | .bool t=>some (if t then ρ a else ρ b,s)
  | _=>none
 | .alloc e=>(T.sS e).bind fun z=>(bN z).map fun cs=>(.ptr (some (s.nl,0)),s.new (.cells cs 0 false))
 | .box _ x=>(bN (ρ x)).map fun cs=>(.ptr (some (s.nl,0)),s.new (.cells cs 0 false))
 | .build t parts=>(aY T t (parts.toList.map fun p=>(p.1,ρ p.2))).map (·,s)
 | .buildSlice t len parts=>mj T t len (parts.toList.map fun p=>(p.1,ρ p.2)) s
 | .load t a=>(HY T t s (ρ a)).map (·,s)
 | .store t a x=>(UU T t s (ρ a) (ρ x)).map (.undef,·)
 | .nilCheck x=>match ρ x with
  | .ptr (some p)=>some (.ptr (some p),s)
  | .func f c=>some (.func f c,s)
  | .uS f ft c=>some (.uS f ft c,s)
  | .iface t v=>some (.iface t v,s)
  | _=>none
 | .binOp op t x y _=>if Oc T t x y (ρ x) (ρ y) then (lR T op t (ρ x) (ρ y)).map (·,s) else none
 | .unOp op _ x=>(V9 op (ρ x)).map (·,s)
 | .convert src dst x=>cY T src dst (ρ x) s
 | .makeInterface t x=>match T.cW t with
  | some (.interface _)=>none
  | some _=>some (.iface t (ρ x),s)
  | none=>none
 | .makeFunc (.func f) first captured=>if first.isEmpty then some (.func f (captured.toList.map ρ),s) else some (.uS f (first.toList.map ρ) (captured.toList.map ρ),s)
 | .makeMap t none=>match T.cW t with
  | some _=>some (.map (some s.nl),s.new (.map [] 0 false))
  | none=>none
 | .makeSlice t l c=>uW T t (ρ l) (ρ c) s
 | .slice t x lo hi d=>(bf T t (ρ x) (lo.map ρ) (hi.map ρ) (d.map ρ)).map (·,s)
 | .fieldAddr t x f=>(uV T t (ρ x) f).map (·,s)
 | .field t x f=>(FW T t (ρ x) f).map (·,s)
 | .indexAddr t x ix=>(ag T t (ρ x) (ρ ix)).map (·,s)
 | .index t x ix=>(ju T t (ρ x) (ρ ix)).map (·,s)
 | .lookup t x ix ok=>(dA T t (ρ x) (ρ ix) ok s).map (·,s)
 | .mapUpdate t m k v | .insert t m k v=>(dG T t (ρ m) (ρ k) (ρ v) s).map (.undef,·)
 | .extract t i=>match ρ t with
  | .aQ vs=>(vs[i]?).map (·,s)
  | _=>none
 | .call c=>match c.callee with
  | .builtin b=>er T b c.argTypes.toList (c.args.toList.map ρ) s
  | _=>none
 | .range t x=>match T.cW t,ρ x with
  | some .string,.str b=>some (.ptr (some (s.nl,0)),s.new (.qp b 0 false))
  | some (.map _ _),.map none=>some (.ptr (some (s.nl,0)),s.new (.fW none 0 [] 0 false))
  | some (.map _ _),.map (some m)=>match s.h m with
   | some (.map _ clock _)=>some (.ptr (some (s.nl,0)),s.new (.fW (some m) clock [] clock false))
   | _=>none
  | _,_=>none
 | .entry it=>(wS (ρ it) s).map (·,s)
 | .sliceToArrayPointer t x=>(QY T t (ρ x)).map (·,s)
 | _=>none
def DW (op:Op) (ρ:Operand->AV) (s:AS):Option (List (AV×AS)) :=
 match op with
 | .next it c=>match ρ it with
  | .ptr (some (l,0))=>match s.h l with
   | some (.fW none _ _ _ _)=>if c then none else some [(.aQ [.bool false],s)]
   | some (.fW (some m) since seen last false)=>if c then none else match s.h m with
    | some (.map es clock _) =>
     if seen≠[]/\es≠[]/\(es.all fun e=>decide (last<=e.2.2)) then none else
     let left:=es.filter fun e=>!seen.contains e.2.2
     let old:=left.filter fun e=>decide (e.2.2<since)
     let new:=left.filter fun e=>decide (since<=e.2.2)
     some ((if old.isEmpty then [(.aQ [.bool false],s)] else []) ++
      (old++new).map fun e=>(.aQ [.bool true,e.1,e.2.1],s.put l (.fW (some m) since (seen++[e.2.2]) clock false)))
    | _=>none
   | some (.qp b pos false)=>if c then
     (if pos<b.length then
      let d:=Utf8.decode ⟨b.toArray⟩ pos
      some [(.aQ [.bool true,.int .i64 pos,.int .i32 d.1],s.put l (.qp b (pos+d.2) false))]
     else some [(.aQ [.bool false],s)])
    else none
   | _=>none
  | _=>none
 | _=>none
end
section
section
variable {P:Program} {T:TT} (hT:TT.Ok P T)
include hT
theorem run_underlying {t:TypeId} {d:TypeDesc} (h:T.cW t=some d) (w:World):(underlying t).run P w=.ok d w:=by
 simp [underlying,hT.cW t d h]
theorem run_sizeOf {t:TypeId} {n:Nat} (h:T.eZ t=some n) (w:World):(sizeOf t).run P w=.ok n w:=by
 have:=hT.eZ t n h;cases hi:P.info? t with
 | none=>simp [hi] at this
 | some i=>simp [hi] at this;simp [sizeOf,typeInfo,hi,this]
theorem qS {t:TypeId} {n:Nat} (h:T.HX t=some n) (w:World):∃ i,(typeInfo t).run P w=.ok i w/\i.bytes=n:=by
 have:=hT.HX t n h;cases hi:P.info? t with
 | none=>simp [hi] at this
 | some i=>simp [hi] at this;exact ⟨i,by simp [typeInfo,hi],this⟩
theorem jl {t:TypeId} {z:AV} (h:T.sS t=some z) (w:World):∃ c,(zeroValue t).run P w=.ok c w/\∀ γ,ai γ z c:=by
 obtain ⟨i,c,hi,b,d⟩:=hT.sS t z h;exact ⟨c,by simp [zeroValue,typeInfo,hi,b],d⟩
theorem yA {t:TypeId} {b:Bool} (h:T.agg t=some b) (w:World):(isAgg t).run P w=.ok b w:=by
 unfold TT.agg at h;cases hu:T.cW t with
 | none=>simp [hu] at h
 | some d =>
  rw [hu] at h;simp only [isAgg,Sem.run_bind,run_underlying hT hu,Result.andThen_ok];cases d <;> simp at h <;> subst h <;> rfl
end
theorem zu {w:World} {b o:Nat} {c:Array Value} {e:TypeId} {fz:Nat×Nat} {v:Value} (h:w.heap[b]? = some (.cells c e fz)) (hv:c[o]? = some v) :
  w.cell? ⟨b,o,none⟩=some v:=by simp [World.cell?,h,hv]
theorem i_ (b o i:Nat):(Addr.mk b o none).add i=⟨b,o+i,none⟩:=by
 unfold Addr.add;split
 ·rename_i h;simp [h]
 ·rfl
theorem run_loadCellsFrom (P:Program) {w:World} {b o:Nat} {c:Array Value} {e:TypeId} {fz:Nat×Nat} (h:w.heap[b]? = some (.cells c e fz)) :
  ∀ (n i:Nat) (acc:Array Value),o+i+n<=c.size->(loadCellsFrom ⟨b,o,none⟩ i n acc).run P w=.ok (acc++c.extract (o+i) (o+i+n)) w
 | 0,i,acc,_=>by simp [loadCellsFrom];omega
 | n+1,i,acc,j=>by
  have d:c[o+i]? = some (c[o+i]'(by omega)):=Array.getElem?_eq_getElem (by omega);simp only [loadCellsFrom,Sem.run_bind,run_load,i_,zu h d,Result.andThen_ok];rw [run_loadCellsFrom P h n (i+1) _ (by omega)];congr 1;apply Array.ext';simp only [Array.toList_append,Array.toList_push,Array.toList_extract,List.append_assoc];congr 1;rw [show o+i+(n+1)=(o+i+1)+n by omega,show o+(i+1)=o+i+1 by omega];simp only [List.extract_eq_take_drop];rw [show (o+i+1+n - (o+i))=n+1 by omega,show (o+i+1+n - (o+i+1))=n by omega];rw [List.drop_eq_getElem_cons (show o+i<c.toList.length by simpa using (by omega:o+i<c.size))];simp
theorem run_loadCells (P:Program) {w:World} {b o n:Nat} {c:Array Value} {e:TypeId} {fz:Nat×Nat} (h:w.heap[b]? = some (.cells c e fz)) (d:o+n<=c.size) :
  (loadCells ⟨b,o,none⟩ n).run P w=.ok (c.extract o (o+n)) w:=by
 have:=run_loadCellsFrom P (o:=o) h n 0 #[] (by omega);simpa [loadCells] using this
def LN (c:Array Value) (o:Nat):List Value->Array Value
 | []=>c
 | v::vs=>LN (c.setIfInBounds o v) (o+1) vs
theorem tZ:∀ (vs:List Value) (c:Array Value) (o:Nat),(LN c o vs).size=c.size
 | [],_,_=>rfl
 | v::vs,c,o=>by simp [LN,tZ vs]
theorem Ka {w:World} {b o:Nat} {c:Array Value} {e:TypeId} {fz:Nat×Nat} (h:w.heap[b]? = some (.cells c e fz)) (v:Value) :
  (w.setCell ⟨b,o,none⟩ v).heap=w.heap.setIfInBounds b (.cells (c.setIfInBounds o v) e fz):=by
 have hb:b<w.heap.size:=by
  rcases Nat.lt_or_ge b w.heap.size with d | d
  ·exact d
  ·simp [Array.getElem?_eq_none d] at h
 have j:w.heap[b]=.cells c e fz:=by simpa [Array.getElem?_eq_getElem hb] using h
 apply Array.ext_getElem?;intro i;simp only [World.setCell,Array.getElem?_modify,Array.getElem?_setIfInBounds];by_cases hi:b=i
 ·subst hi;simp [hb,j]
 ·simp [hi]
theorem Od (w:World) (a:Addr) (v:Value):(w.setCell a v).os=w.os:=rfl
theorem FZ (w:World) (a:Addr) (v:Value):(w.setCell a v).output=w.output:=rfl
theorem q9 (P:Program) {b o:Nat} {e:TypeId} {fz:Nat×Nat}:∀ (vs:List Value) (i:Nat) (w:World) (c:Array Value),w.heap[b]? = some (.cells c e fz) ->
  o+i+vs.length<=c.size->(∀ x,x<c.size->¬ (fz.1<=x/\x<fz.2))->(∀ v∈vs,v.oneCell'=true) ->
  ∃ w',(storeCells ⟨b,o,none⟩ vs i).run P w=.ok () w'/\w'.heap=w.heap.setIfInBounds b (.cells (LN c (o+i) vs) e fz)/\Env w w'
 | [],i,w,c,h,_,_,_=>by
  refine ⟨w,by simp [storeCells],?_,rfl,rfl,rfl⟩;apply Array.ext_getElem?;intro k;simp only [Array.getElem?_setIfInBounds];have hb:b<w.heap.size:=by
   rcases Nat.lt_or_ge b w.heap.size with d | d
   ·exact d
   ·simp [Array.getElem?_eq_none d] at h
  by_cases j:b=k
  ·subst j;simp only [LN,h,hb,if_true]
  ·simp [j]
 | v::vs,i,w,c,h,r,hf,hv=>by
  simp only [List.length_cons] at r;have y:c[o+i]? = some (c[o+i]'(by omega)):=Array.getElem?_eq_getElem (by omega);have hb:b<w.heap.size:=by
   rcases Nat.lt_or_ge b w.heap.size with d | d
   ·exact d
   ·simp [Array.getElem?_eq_none d] at h
  have l:w.frozen? ⟨b,o+i,none⟩=false:=by
   have:=hf (o+i) (by omega);simp only [World.frozen?,h,Bool.and_eq_false_iff,decide_eq_false_iff_not];by_cases g:fz.1<=o+i
   ·exact .inr fun z=>this ⟨g,z⟩
   ·exact .inl g
  have p:=Ka (o:=o+i) h v;have A:(w.setCell ⟨b,o+i,none⟩ v).heap[b]? = some (.cells (c.setIfInBounds (o+i) v) e fz):=by
   rw [p];simp [hb]
  obtain ⟨w',hr,m,n⟩:=q9 P (b:=b) (o:=o) vs (i+1) _ _ A (by simp;omega) (by simpa using hf) (fun u hu=>hv u (List.mem_cons_of_mem _ hu));refine ⟨w',?_,?_,Env.trans ⟨Od _ _ _,rfl,FZ _ _ _⟩ n⟩
  ·simp only [storeCells,Sem.run_bind,i_,run_store P w _ v .plain (hv v (by simp)),zu h y,l,Bool.false_eq_true,if_false,Result.andThen_ok];exact hr
  ·rw [m,p];apply Array.ext_getElem?;intro k;simp only [Array.getElem?_setIfInBounds,Array.size_setIfInBounds,LN];by_cases j:b=k
   ·subst j;simp [hb];rfl
   ·simp [j]
theorem jR (P:Program) (w:World) (e:TypeId) (c:Array Value) :
  (newRow e c).run P w=.ok ⟨w.heap.size,0,none⟩ { w with heap:=w.heap.push (.cells c e) }:=by
 simp [newRow]
theorem iN:∀ (vs cs:List AV) (o:Nat),(qQ cs o vs).length=cs.length
 | [],_,_=>rfl
 | v::vs,cs,o=>by simp [qQ,iN vs]
theorem kF:∀ (vs cs:List AV) (o k:Nat),o+vs.length<=cs.length->(qQ cs o vs)[k]? = if o<=k/\k<o+vs.length then vs[k - o]? else cs[k]?
 | [],cs,o,k,_=>by simp only [qQ,List.length_nil];rw [if_neg (by omega)]
 | v::vs,cs,o,k,h=>by
  simp only [List.length_cons] at h ⊢;rw [qQ,kF vs (cs.set o v) (o+1) k (by simp;omega)];by_cases b:o=k
  ·subst b;rw [if_neg (by omega),if_pos (by omega)];simp [List.getElem?_set];omega
  ·by_cases h2:o+1<=k/\k<o+1+vs.length
   ·rw [if_pos h2,if_pos (by omega)];rw [show k - o=(k - (o+1))+1 by omega];simp
   ·rw [if_neg h2,if_neg (by omega),List.getElem?_set];simp [b]
theorem AM:∀ (vs:List Value) (c:Array Value) (o k:Nat),o+vs.length<=c.size->(LN c o vs)[k]? = if o<=k/\k<o+vs.length then vs[k - o]? else c[k]?
 | [],c,o,k,_=>by simp only [LN,List.length_nil];rw [if_neg (by omega)]
 | v::vs,c,o,k,h=>by
  simp only [List.length_cons] at h ⊢;rw [LN,AM vs (c.setIfInBounds o v) (o+1) k (by simp;omega)];by_cases b:o=k
  ·subst b;rw [if_neg (by omega),if_pos (by omega)];simp [Array.getElem?_setIfInBounds];omega
  ·by_cases h2:o+1<=k/\k<o+1+vs.length
   ·rw [if_pos h2,if_pos (by omega)];rw [show k - o=(k - (o+1))+1 by omega];simp
   ·rw [if_neg h2,if_neg (by omega),Array.getElem?_setIfInBounds];simp [b]
theorem lQ.read {γ:bT} {w:World} {i:CI} {cs:List AV} {g:Nat} {ro:Bool} (h:lQ γ w i (.cells cs g ro)) {o n:Nat} (r:o+n<=cs.length) :
  ∃ c e fz,w.heap[i.b]? = some (.cells c e fz)/\(n≠0->i.d+o+n<=c.size)/\au γ ((cs.drop o).take n) ((c.extract (i.d+o) (i.d+o+n)).toList):=by
 obtain ⟨c,e,fz,hb,p,_⟩:=h;have l:n≠0->i.d+o+n<=c.size:=by
  intro h0;obtain ⟨_,cv,j,_⟩:=p (o+n - 1) _ (List.getElem?_eq_getElem (show o+n - 1<cs.length by omega));have:i.d+(o+n - 1)<c.size:=by
   rcases Nat.lt_or_ge (i.d+(o+n - 1)) c.size with h | h
   ·exact h
   ·simp [Array.getElem?_eq_none h] at j
  omega
 refine ⟨c,e,fz,hb,l,?_⟩;refine au.fo.2 ⟨?_,fun k v cv hv j=>?_⟩
 ·by_cases h0:n=0
  ·simp [h0]
  ·have:=l h0;simp;omega
 ·rw [List.getElem?_take] at hv;split at hv
  ·rename_i x;rw [List.getElem?_drop] at hv;obtain ⟨_,dv,m,hr⟩:=p (o+k) v hv;have:(c.extract (i.d+o) (i.d+o+n)).toList[k]? = some dv:=by
    have y:i.d+o+n<=c.size:=l (by omega);simp only [Array.toList_extract,List.extract_eq_take_drop,List.getElem?_take,List.getElem?_drop];rw [if_pos (by omega),<- Nat.add_assoc] at *;simpa [Nat.add_assoc] using m
   rw [this] at j;obtain rfl:=Option.some.inj j;exact hr
  ·simp at hv
theorem fP {v:AV} {l:List AV} (h:bN v=some l):l=v.cells/\l.all AV.one=true:=by
 unfold bN at h;split at h
 ·rename_i b;obtain rfl:=Option.some.inj h;exact ⟨rfl,b⟩
 ·simp at h
end
section
def zv (P:Program) (B:Nat) (γ:bT) (s:AS) (w:World) (m:Sem Value) (v:AV) (s':AS):Prop :=
 ∃ γ' w' cv,m.run P w=.ok cv w'/\ai γ' v cv/\gq B γ s w γ' s' w'/\Rel B γ' s' w'
def Ww (P:Program) (B:Nat) (γ:bT) (s:AS) (w:World) (m:Sem Unit) (s':AS):Prop :=
 ∃ γ' w',m.run P w=.ok () w'/\gq B γ s w γ' s' w'/\Rel B γ' s' w'
theorem zv.val {P:Program} {B:Nat} {γ:bT} {s:AS} {w:World} {m:Sem Value} {v:AV} {cv:Value} (hr:Rel B γ s w) (hm:m.run P w=.ok cv w) (hv:ai γ v cv) :
  zv P B γ s w m v s:=⟨γ,w,cv,hm,hv,gq.refl,hr⟩
theorem Rel.wT {B:Nat} {γ:bT} {s:AS} {w w':World} {cs:List AV} {g x:Nat} {c:Array Value} {e:TypeId} (h:Rel B γ s w)
  (y:∀ (k:Nat) v,cs[k]? = some v->v.one=true/\∃ cv,c[k]? = some cv/\ai γ v cv) (p:g≠0->c.size=cs.length+x*g/\∀ k,cs.length<=k->k<c.size->∃ v cv,v.one=true/\c[k]? = some cv/\ai γ v cv) (fz:Nat×Nat) (l:∀ o,o<c.size->¬ (fz.1<=o/\o<fz.2)) (i:g≠1->fz=(0,0)) (j:fz.1<=fz.2)
  (r:w'.heap=w.heap.push (.cells c e fz)) (z:Env w w':=by exact ⟨rfl,rfl,rfl⟩) :
  Rel B (iM γ s.nl ⟨w.heap.size,0,x⟩) (s.new (.cells cs g false)) w'/\gq B γ s w (iM γ s.nl ⟨w.heap.size,0,x⟩) (s.new (.cells cs g false)) w':=by
 refine Rel.alloc h rfl rfl r ⟨c,e,fz,by rw [r];simp,fun k v m=>?_,fun _=>l,fun h0=>?_,fun _=>⟨i,j⟩⟩ z
 ·obtain ⟨A,cv,h2,h3⟩:=y k v m;exact ⟨A,cv,by simpa using h2,h3.mono (bT.uU h.LI)⟩
 ·exact ⟨by simpa using (p h0).1,fun k m n=>let ⟨v,cv,a,b,d⟩:=(p h0).2 k (by simpa using m) n;⟨v,cv,a,b,d.mono (bT.uU h.LI)⟩⟩
theorem uX {γ:bT} {cs:List AV} {l:List Value} {c:Array Value} (h:au γ cs l) (b:cs.all AV.one=true) (i:∀ (k:Nat) (v:Value),l[k]? = some v->c[k]? = some v) :
  ∀ (k:Nat) v,cs[k]? = some v->v.one=true/\∃ cv,c[k]? = some cv/\ai γ v cv:=by
 intro k v e;obtain ⟨cv,d,hr⟩:=h.get e;exact ⟨List.all_eq_true.1 b v (List.mem_of_getElem? e),cv,i k cv d,hr⟩
theorem F_ {P:Program} {B:Nat} {γ:bT} {s:AS} {w:World} {v:AV} {cv:Value} {cs:List AV} (t:TypeId) (hr:Rel B γ s w) (hv:ai γ v cv) (d:bN v=some cs) :
  zv P B γ s w (do pure (.pointer (some (<- newVar t cv)))) (.ptr (some (s.nl,0))) (s.new (.cells cs 0 false)):=by
 obtain ⟨rfl,b⟩:=fP d;have i:=uX (c:=cv.cells) (hv.cells b) b (by intro k v h;simpa using h);obtain ⟨j,h2⟩:=hr.wT (w':={ w with heap:=w.heap.push (.cells cv.cells t) }) (g:=0) (x:=0) (e:=t) i (by simp) (0,0) (by simp) (fun _=>rfl) (Nat.le_refl _) rfl;refine ⟨_,_,.pointer (some ⟨w.heap.size,0,none⟩),?_,?_,h2,j⟩
 ·simp [newVar,jR]
 ·simp [ai,cG]
section
variable {P:Program} {T:TT} (hT:TT.Ok P T) {B:Nat} {γ:bT} {s:AS} {w:World} (hr:Rel B γ s w)
include hT hr
theorem QZ {e:TypeId} {z:AV} {cs:List AV} (i:T.sS e=some z) (b:bN z=some cs) :
  zv P B γ s w (Instr.alloc e true (.tuple #[])) (.ptr (some (s.nl,0))) (s.new (.cells cs 0 false)):=by
 obtain ⟨c,j,d⟩:=jl hT i w;obtain ⟨γ',w',cv,k,h2⟩:=F_ (P:=P) e hr (d γ) b;refine ⟨γ',w',cv,?_,h2⟩;simp only [Instr.alloc,Sem.run_bind,j,Result.andThen_ok];simpa using k
theorem P0 {l o n:Nat} {cs:List AV} (h:aD s l o n=some cs):∃ i c e fz,γ l=some i/\w.heap[i.b]? = some (.cells c e fz)/\(n≠0->i.d+o+n<=c.size) /\
  au γ cs ((c.extract (i.d+o) (i.d+o+n)).toList)/\cs.all AV.one=true/\cs.length=n:=by
 unfold aD at h;split at h
 ·rename_i cl g ro y;split at h
  ·rename_i z;obtain rfl:=Option.some.inj h;obtain ⟨i,hi,x,_⟩:=hr.obj l _ y;obtain ⟨c,e,fz,hb,j,m⟩:=x.read z;refine ⟨i,c,e,fz,hi,hb,j,m,?_,by simp;omega⟩;obtain ⟨c2,e2,A,B,p,_⟩:=x;rw [List.all_eq_true];intro v hv;have r:v∈cl:=List.mem_of_mem_drop (List.mem_of_mem_take hv);obtain ⟨k,C⟩:=List.mem_iff_getElem?.1 r;exact (p k v C).1
  ·simp at h
 ·simp at h
theorem mN {l o n:Nat} {cs:List AV} (h:aD s l o n=some cs):∃ i c,γ l=some i/\(loadCells ⟨i.b,i.d+o,none⟩ n).run P w=.ok c w/\au γ cs c.toList/\cs.all AV.one=true/\cs.length=n/\c.size=n:=by
 obtain ⟨i,c,e,fz,hi,hb,m,k,j,hlen⟩:=P0 hT hr h;by_cases h0:n=0
 ·subst h0;refine ⟨i,#[],hi,rfl,?_,j,hlen,rfl⟩;obtain rfl:=List.length_eq_zero_iff.1 hlen;exact au.nil
 ·refine ⟨i,_,hi,run_loadCells P hb (m h0),k,j,hlen,?_⟩;have:=k.length;simp at this ⊢;omega
theorem UX {l o:Nat} {v:AV} (h:ak s l o=some v):∃ i cv,γ l=some i/\w.cell? ⟨i.b,i.d+o,none⟩=some cv/\ai γ v cv/\v.one=true:=by
 unfold ak at h;split at h
 ·rename_i cl g ro j;obtain ⟨i,hi,⟨c,e,fz,hb,k,_⟩,_⟩:=hr.obj l _ j;obtain ⟨m,cv,h2,h3⟩:=k o v h;exact ⟨i,cv,hi,zu hb h2,h3,m⟩
 ·simp at h
theorem P1 {t:TypeId} {l o:Nat} {v:AV} {i:CI} (hi:γ l=some i) (h:HY T t s (.ptr (some (l,o)))=some v):∃ cv,(loadVar t ⟨i.b,i.d+o,none⟩).run P w=.ok cv w/\ai γ v cv:=by
 unfold HY at h;simp only at h;split at h
 ·rename_i k;cases hs:T.eZ t with
  | none=>simp [hs] at h
  | some n =>
   simp only [hs,Option.bind_some,Option.map_eq_some_iff] at h;obtain ⟨cs,m,rfl⟩:=h;obtain ⟨j,c,hj,e,p,_⟩:=mN hT hr m;rw [hi] at hj;obtain rfl:=Option.some.inj hj;exact ⟨.agg c,by simp [loadVar,yA hT k,run_sizeOf hT hs,e],by simp only [ai];exact ⟨c,rfl,p⟩⟩
 ·rename_i k;obtain ⟨j,cv,hj,r,hv,_⟩:=UX hT hr h;rw [hi] at hj;obtain rfl:=Option.some.inj hj;exact ⟨cv,by simp [loadVar,yA hT k,r],hv⟩
 ·cases h
theorem Sv {t:TypeId} {p v:AV} {c:Value} (hp:ai γ p c) (h:HY T t s p=some v):zv P B γ s w (Instr.loadAt t c) v s:=by
 have h0:=h;unfold HY at h;split at h
 ·rename_i l o;simp only [ai] at hp;obtain ⟨i,hi,rfl⟩:=hp;obtain ⟨cv,b,hv⟩:=P1 hT hr hi h0;exact zv.val hr (by simp [Instr.loadAt,Instr.sureAddr,b]) hv
 ·cases h
theorem Fy {l o:Nat} {vs:List AV} {Eg:List Value} {s':AS} (h:cS s l o vs=some s') (hv:au γ vs Eg) (r:vs.all AV.one=true):∃ i w',γ l=some i /\
  (storeCells ⟨i.b,i.d+o,none⟩ Eg).run P w=.ok () w'/\gq B γ s w γ s' w'/\Rel B γ s' w':=by
 unfold cS at h;split at h
 ·rename_i cl g J;split at h
  ·rename_i U;obtain rfl:=Option.some.inj h;obtain ⟨i,hi,W,_⟩:=hr.obj l _ J;obtain ⟨c,e,fz,hb,z,hf,A,n⟩:=W;have hlen:=hv.length;have x:vs.length≠0->i.d+o+vs.length<=c.size:=by
    intro h0;obtain ⟨_,cv,K,_⟩:=z (o+vs.length - 1) _ (List.getElem?_eq_getElem (show o+vs.length - 1<cl.length by omega));have:i.d+(o+vs.length - 1)<c.size:=by
     rcases Nat.lt_or_ge (i.d+(o+vs.length - 1)) c.size with h | h
     ·exact h
     ·simp [Array.getElem?_eq_none h] at K
    omega
   have m:∀ v∈Eg,v.oneCell'=true:=by
    intro v hm;obtain ⟨k,j⟩:=List.mem_iff_getElem?.1 hm;have L:k<vs.length:=by
     rcases Nat.lt_or_ge k Eg.length with h | h
     ·omega
     ·simp [List.getElem?_eq_none h] at j
    have C:=List.getElem?_eq_getElem L;obtain ⟨c',p,hr'⟩:=hv.get C;rw [j] at p;obtain rfl:=Option.some.inj p;exact hr'.one (List.all_eq_true.1 r _ (List.mem_of_getElem? C))
   by_cases h0:vs.length=0
   ·obtain rfl:=List.length_eq_zero_iff.1 h0;obtain rfl:=List.length_eq_zero_iff.1 (hlen.symm.trans h0);have M:w.heap=w.heap.setIfInBounds i.b (.cells c e fz):=by
     apply Array.ext_getElem?;intro k;rw [Array.getElem?_setIfInBounds];have y:=lQ.lt (γ:=γ) (o:=.cells cl g false) ⟨c,e,fz,hb,z,hf,A,n⟩;by_cases j:i.b=k
     ·subst j;rw [if_pos rfl,if_pos y,hb]
     ·rw [if_neg j]
    obtain ⟨D,F⟩:=hr.write (w':=w) J rfl (o':=.cells (qQ cl o []) g false) rfl hi M ⟨c,e,fz,hb,z,hf,A,n⟩;exact ⟨i,w,hi,rfl,F,D⟩
   ·obtain ⟨w',G,H,O⟩:=q9 P (b:=i.b) (o:=i.d+o) Eg 0 w c hb (by have:=x h0;omega) (hf rfl) m;have y:=lQ.lt (γ:=γ) (o:=.cells cl g false) ⟨c,e,fz,hb,z,hf,A,n⟩;have Q:lQ γ w' i (.cells (qQ cl o vs) g false):=by
     refine ⟨LN c (i.d+o+0) Eg,e,fz,by rw [H];simp [y],fun k v j=>?_,fun _=>by rw [tZ];exact hf rfl,fun S=>?_,n⟩
     ·have hs:=x h0;rw [kF _ _ _ _ U] at j;rw [AM _ _ _ _ (by omega)];by_cases I:o<=k/\k<o+vs.length
      ·rw [if_pos I] at j;rw [if_pos (by omega)];obtain ⟨c',p,hr'⟩:=hv.get j;refine ⟨List.all_eq_true.1 r _ (List.mem_of_getElem? j),c',?_,hr'⟩;rw [show i.d+k - (i.d+o+0)=k - o by omega];exact p
      ·rw [if_neg I] at j;rw [if_neg (by omega)];exact z k v j
     ·rw [tZ,iN];refine ⟨(A S).1,fun k j R=>?_⟩;obtain ⟨v,cv,D,F,X⟩:=(A S).2 k j R;refine ⟨v,cv,D,?_,X⟩;have hs:=x h0;rw [AM _ _ _ _ (by omega),if_neg (by omega)];exact F
    obtain ⟨D,F⟩:=hr.write (w':=w') J rfl (o':=.cells (qQ cl o vs) g false) rfl hi H Q O;exact ⟨i,w',hi,G,F,D⟩
  ·simp at h
 ·simp at h
theorem Q0 {t:TypeId} {p v:AV} {k cv:Value} {s':AS} (hp:ai γ p k) (hv:ai γ v cv) (h:UU T t s p v=some s'):Ww P B γ s w (Instr.storeAt t k cv) s':=by
 unfold UU at h;split at h
 ·rename_i l o;simp only [ai] at hp;obtain ⟨i,hi,rfl⟩:=hp;cases d:bN v with
  | none=>simp [d] at h
  | some vs =>
   simp only [d,Option.bind_some] at h;split at h
   ·rename_i hs;obtain ⟨rfl,b⟩:=fP d;obtain ⟨j,w',hj,c,hd,hr'⟩:=Fy hT hr h (hv.cells b) b;rw [hi] at hj;obtain rfl:=Option.some.inj hj;refine ⟨γ,w',?_,hd,hr'⟩;have e:cv.cells.size=v.cells.length:=by have:=(hv.cells b).length;simp at this;omega
    simp [Instr.storeAt,Instr.sureAddr,storeVar,run_sizeOf hT hs,e,c]
   ·simp at h
 ·simp at h
end
end
section
section
variable {P:Program} {T:TT} (hT:TT.Ok P T)
include hT
theorem pe {γ:bT} {t:TypeId} {cs:List AV} {b:Array Value} {off:Nat} {v:AV} (hv:au γ cs b.toList) (h:part T t cs off=some v) (w:World) :
  ∃ c,(Go.part t b off).run P w=.ok c w/\ai γ v c:=by
 unfold part at h;split at h
 ·rename_i d;cases hs:T.eZ t with
  | none=>simp [hs] at h
  | some n =>
   simp only [hs,Option.map_some] at h;obtain rfl:=Option.some.inj h;refine ⟨.agg (b.extract off (off+n)),by simp [Go.part,yA hT d,run_sizeOf hT hs],?_⟩;simp only [ai];refine ⟨_,rfl,?_⟩;have:=(hv.drop off).take n;simpa [Array.toList_extract,List.extract_eq_take_drop] using this
 ·rename_i d;obtain ⟨c,e,hr⟩:=hv.get h;refine ⟨c,?_,hr⟩;simp only [Go.part,Sem.run_bind,yA hT d,Result.andThen_ok];have:b[off]? = some c:=by simpa using e
  simp [this]
 ·simp at h
theorem FA {γ:bT} (w:World):∀ (d:Nat) (t:TypeId) (x y:AV) (b:Bool),iZ T d t x y=some b->∀ (L cy:Value),ai γ x L->ai γ y cy->∀ D,d<=D->(Op.equalIn D t L cy).run P w=.ok b w:=by
 intro d
 induction d with
 | zero=>intro t x y b h;simp [iZ] at h
 | succ d U =>
  intro t x y b h L cy j c D X;obtain ⟨D,rfl⟩:∃ W,D=W+1:=⟨D - 1,by omega⟩;have I:d<=D:=by omega
  unfold iZ at h;cases hu:T.cW t with
  | none=>simp [hu] at h
  | some td =>
   simp only [hu] at h;simp only [Op.equalIn,Sem.run_bind,run_underlying hT hu,Result.andThen_ok];split at h
   all_goals (try (rename some td=some _=>e;cases e))
   case h_1=>simp only [ai] at j c;subst j c;simp at h;simp [h]
   case h_2=>simp only [ai] at j c;subst j c;simp at h;simp [h]
   case h_3 =>
    simp only [ai] at j c;subst j c;have:∀ (a b:List UInt8),((⟨a.toArray⟩:ByteArray)==⟨b.toArray⟩)=(a==b):=by
     intro a b;show (a.toArray==b.toArray)=(a==b);rw [Bool.eq_iff_iff];simp
    simp at h;simp [this,h]
   case h_4 q =>
    simp only [ai] at j;subst j;cases q with
    | none=>simp only [ai] at c;subst c;simpa using h
    | some q=>obtain ⟨l,o⟩:=q;simp only [ai] at c;obtain ⟨i,_,rfl⟩:=c;simpa using h
   case h_5 q B =>
    simp only [ai] at c;subst c;cases q with
    | none=>exact absurd rfl B
    | some q=>obtain ⟨l,o⟩:=q;simp only [ai] at j;obtain ⟨i,_,rfl⟩:=j;simpa using h
   case h_6 q _ _ _ =>
    simp only [ai] at j;obtain ⟨rfl,_⟩:=j;cases q with
    | none=>simp only [ai] at c;obtain ⟨rfl,_⟩:=c;simpa using h
    | some q=>obtain ⟨l,o⟩:=q;simp only [ai] at c;obtain ⟨i,_,rfl⟩:=c;simpa using h
   case h_7 q _ _ _ _ _ _ B =>
    simp only [ai] at c;obtain ⟨rfl,_⟩:=c;cases q with
    | none=>exact absurd rfl B
    | some q=>obtain ⟨l,o⟩:=q;simp only [ai] at j;obtain ⟨i,_,rfl⟩:=j;simpa using h
   case h_8=>simp only [ai] at j c;obtain ⟨rfl,_⟩:=c;obtain ⟨_,_,rfl⟩:=j;simpa using h
   case h_9=>simp only [ai] at j c;obtain ⟨rfl,_⟩:=j;obtain ⟨_,_,rfl⟩:=c;simpa using h
   case h_10 q =>
    simp only [ai] at j;subst j;cases q with
    | none=>simp only [ai] at c;subst c;simpa using h
    | some q=>simp only [ai] at c;obtain ⟨i,_,rfl⟩:=c;simpa using h
   case h_11 q B =>
    simp only [ai] at c;subst c;cases q with
    | none=>exact absurd rfl B
    | some q=>simp only [ai] at j;obtain ⟨i,_,rfl⟩:=j;simpa using h
   case h_12=>simp only [ai] at j c;subst j c;simpa using h
   case h_13=>simp only [ai] at j c;subst j;obtain ⟨_,rfl,_⟩:=c;simpa using h
   case h_14=>simp only [ai] at j c;subst j;obtain ⟨_,_,rfl,_⟩:=c;simpa using h
   case h_15=>simp only [ai] at j c;subst c;obtain ⟨_,_,rfl,_⟩:=j;simpa using h
   case h_16=>simp only [ai] at j c;subst c;obtain ⟨_,rfl,_⟩:=j;simpa using h
   case h_17=>simp only [ai] at j c;subst j c;simpa using h
   case h_18=>simp only [ai] at j c;subst j;obtain ⟨_,rfl,_⟩:=c;simpa using h
   case h_19=>simp only [ai] at j c;subst c;obtain ⟨_,rfl,_⟩:=j;simpa using h
   case h_20 fields xs ys =>
    simp only [ai] at j c;obtain ⟨M,rfl,C⟩:=j;obtain ⟨O,rfl,F⟩:=c;split at h
    ·rename_i B;have Q:=hT.UT t B;simp only [Sem.run_bind,run_program,Result.andThen_ok,Q,Bool.false_eq_true,if_false,<- Array.forIn_toList];generalize fields.toList=fs at h ⊢
     induction fs with
     | nil=>simp [eqFields] at h;simp [h]
     | cons f fs J =>
      simp only [eqFields] at h;by_cases K : f.name ≠ "_"
      ·simp only [if_pos K] at h;cases A:part T f.type xs f.offset with
       | none=>simp [A] at h
       | some a =>
        cases hb:part T f.type ys f.offset with
        | none=>simp [A,hb] at h
        | some R =>
         simp only [A,hb,Option.bind_some] at h;obtain ⟨ca,p,G⟩:=pe hT C A w;obtain ⟨cb,z,H⟩:=pe hT F hb w;cases k:iZ T d f.type a R with
         | none=>simp [k] at h
         | some r =>
          have m:=U _ _ _ _ k _ _ G H D I;cases r with
          | true =>
           simp only [k] at h;have:=J h;simp only [List.forIn_cons,Sem.run_bind,if_pos K,p,z,m,Result.andThen_ok] at this ⊢;simpa using this
          | false =>
           simp only [k] at h;obtain rfl:=Option.some.inj h;simp only [List.forIn_cons,Sem.run_bind,if_pos K,p,z,m,Result.andThen_ok];simp
      ·simp only [if_neg K] at h;have:=J h;simp only [List.forIn_cons,Sem.run_bind,if_neg K] at this ⊢;simpa using this
    ·simp at h
   case h_21 len elem xs ys =>
    simp only [ai] at j c;obtain ⟨M,rfl,C⟩:=j;obtain ⟨O,rfl,F⟩:=c;cases hs:T.eZ elem with
    | none=>simp [hs] at h
    | some n =>
     simp only [hs,Option.bind_some] at h;simp only [Sem.run_bind,run_sizeOf hT hs,Result.andThen_ok,Std.Legacy.Range.forIn_eq_forIn_range',Std.Legacy.Range.size];simp only [Nat.sub_zero,Nat.add_one_sub_one,Nat.div_one];generalize 0=i0 at h ⊢;clear hu
     induction len generalizing i0 with
     | zero=>simp [Fx] at h;simp [h]
     | succ len S =>
      simp only [Fx] at h;cases A:part T elem xs (i0*n) with
      | none=>simp [A] at h
      | some a =>
       cases hb:part T elem ys (i0*n) with
       | none=>simp [A,hb] at h
       | some R =>
        simp only [A,hb,Option.bind_some] at h;obtain ⟨ca,p,G⟩:=pe hT C A w;obtain ⟨cb,z,H⟩:=pe hT F hb w;cases k:iZ T d elem a R with
        | none=>simp [k] at h
        | some r =>
         have m:=U _ _ _ _ k _ _ G H D I;cases r with
         | true =>
          simp only [k] at h;have:=S _ h;simp only [List.range'_succ,List.forIn_cons,Sem.run_bind,p,z,m,Result.andThen_ok] at this ⊢;simpa using this
         | false =>
          simp only [k] at h;obtain rfl:=Option.some.inj h;simp only [List.range'_succ,List.forIn_cons,Sem.run_bind,p,z,m,Result.andThen_ok];simp
   case h_22=>simp at h
theorem LO {γ:bT} {op:BinOp} {t:TypeId} {x y:Operand} {a b:AV} {ca cb:Value} (c:ai γ a ca) (hb:ai γ b cb) (h:Oc T t x y a b=true) (w:World) :
  (eqGuard op t x y ca cb).run P w=.ok () w:=by
 have d:op=.eql\/op=.neq\/(eqGuard op t x y ca cb)=pure ():=by cases op <;> first | exact .inl rfl | exact .inr (.inl rfl) | exact .inr (.inr rfl)
 rcases d with rfl | rfl | d;rotate_left 2
 ·rw [d];rfl
 all_goals
  simp only [eqGuard,Bool.not_true,Bool.false_eq_true,if_false];split
  ·have e:(Ob x||Ob y)=true:=by
    cases a with
    | nilIface =>
     cases b with
     | nilIface=>simpa only [Oc] using h
     | bad=>simp [Oc] at h
     | ptr q=>cases q <;> simp only [ai] at hb <;> (first | (cases hb;done) | (obtain ⟨_,_,hb⟩:=hb;cases hb))
     | slc q _ _ _=>cases q <;> simp only [ai] at hb <;> (first | (obtain ⟨hb,_⟩:=hb;cases hb;done) | (obtain ⟨_,_,hb⟩:=hb;cases hb))
     | map q=>cases q <;> simp only [ai] at hb <;> (first | (cases hb;done) | (obtain ⟨_,_,hb⟩:=hb;cases hb))
     | emp=>simp only [ai] at hb;obtain ⟨_,_,hb⟩:=hb;cases hb
     | func _ _=>simp only [ai] at hb;obtain ⟨_,hb,_⟩:=hb;cases hb
     | uS _ _ _=>simp only [ai] at hb;obtain ⟨_,_,hb,_⟩:=hb;cases hb
     | iface _ _=>simp only [ai] at hb;obtain ⟨_,hb,_⟩:=hb;cases hb
     | agg _=>simp only [ai] at hb;obtain ⟨_,hb,_⟩:=hb;cases hb
     | aQ _=>simp only [ai] at hb;obtain ⟨_,hb,_⟩:=hb;cases hb
     | _=>simp only [ai] at hb;cases hb
    | bad=>cases b <;> simp [Oc] at h
    | ptr q=>cases q <;> simp only [ai] at c <;> (first | (cases c;done) | (obtain ⟨_,_,c⟩:=c;cases c))
    | slc q _ _ _=>cases q <;> simp only [ai] at c <;> (first | (obtain ⟨c,_⟩:=c;cases c;done) | (obtain ⟨_,_,c⟩:=c;cases c))
    | map q=>cases q <;> simp only [ai] at c <;> (first | (cases c;done) | (obtain ⟨_,_,c⟩:=c;cases c))
    | emp=>simp only [ai] at c;obtain ⟨_,_,c⟩:=c;cases c
    | func _ _=>simp only [ai] at c;obtain ⟨_,c,_⟩:=c;cases c
    | uS _ _ _=>simp only [ai] at c;obtain ⟨_,_,c,_⟩:=c;cases c
    | iface _ _=>simp only [ai] at c;obtain ⟨_,c,_⟩:=c;cases c
    | agg _=>simp only [ai] at c;obtain ⟨_,c,_⟩:=c;cases c
    | aQ _=>simp only [ai] at c;obtain ⟨_,c,_⟩:=c;cases c
    | _=>simp only [ai] at c;cases c
   cases x <;> cases y <;> first | rfl | (simp [Ob] at e;done)
  ·have i:T.Sm t=true:=by
    cases a with
    | agg _ =>
     cases b with
     | agg _=>simpa [Oc] using h
     | bad=>simp [Oc] at h
     | ptr q=>cases q <;> simp only [ai] at hb <;> (first | (cases hb;done) | (obtain ⟨_,_,hb⟩:=hb;cases hb))
     | slc q _ _ _=>cases q <;> simp only [ai] at hb <;> (first | (obtain ⟨hb,_⟩:=hb;cases hb;done) | (obtain ⟨_,_,hb⟩:=hb;cases hb))
     | map q=>cases q <;> simp only [ai] at hb <;> (first | (cases hb;done) | (obtain ⟨_,_,hb⟩:=hb;cases hb))
     | emp=>simp only [ai] at hb;obtain ⟨_,_,hb⟩:=hb;cases hb
     | func _ _=>simp only [ai] at hb;obtain ⟨_,hb,_⟩:=hb;cases hb
     | uS _ _ _=>simp only [ai] at hb;obtain ⟨_,_,hb,_⟩:=hb;cases hb
     | iface _ _=>simp only [ai] at hb;obtain ⟨_,hb,_⟩:=hb;cases hb
     | aQ _=>simp only [ai] at hb;obtain ⟨_,hb,_⟩:=hb;cases hb
     | _=>simp only [ai] at hb;cases hb
    | bad=>cases b <;> simp [Oc] at h
    | ptr q=>cases q <;> simp only [ai] at c <;> (first | (cases c;done) | (obtain ⟨_,_,c⟩:=c;cases c))
    | slc q _ _ _=>cases q <;> simp only [ai] at c <;> (first | (obtain ⟨c,_⟩:=c;cases c;done) | (obtain ⟨_,_,c⟩:=c;cases c))
    | map q=>cases q <;> simp only [ai] at c <;> (first | (cases c;done) | (obtain ⟨_,_,c⟩:=c;cases c))
    | emp=>simp only [ai] at c;obtain ⟨_,_,c⟩:=c;cases c
    | func _ _=>simp only [ai] at c;obtain ⟨_,c,_⟩:=c;cases c
    | uS _ _ _=>simp only [ai] at c;obtain ⟨_,_,c,_⟩:=c;cases c
    | iface _ _=>simp only [ai] at c;obtain ⟨_,c,_⟩:=c;cases c
    | aQ _=>simp only [ai] at c;obtain ⟨_,c,_⟩:=c;cases c
    | _=>simp only [ai] at c;cases c
   simp [hT.Sm t i]
  ·rfl
theorem Ga:∀ (a b:List UInt8),jH a b=Op.bytesLess a b
 | [],[]=>by simp [jH,Op.bytesLess]
 | _::_,[]=>by simp [jH,Op.bytesLess]
 | [],_::_=>by simp [jH,Op.bytesLess]
 | a::x,b::y=>by simp [jH,Op.bytesLess,Ga x y]
theorem LP {γ:bT} {op:BinOp} {k:IntKind} {a b:Int} {v:AV} (d:op≠.shl/\op≠.shr) (h:bG op k a b=some v) (t:TypeId) (w:World) :
  ∃ c,(Go.binOp op t (.int k a) (.int k b)).run P w=.ok c w/\ai γ v c:=by
 cases op <;> simp only [bG] at h
 all_goals (first | (exact absurd rfl d.1) | (exact absurd rfl d.2) | (cases h;done) | skip)
 all_goals (try split at h)
 all_goals (first | (cases h;done) | skip)
 all_goals (obtain rfl:=Option.some.inj h;simp [Go.binOp,Op.intArith,Op.intDiv,Op.intBits,Op.intCmp,ai, *])
end
end
section
section
variable {P:Program} {T:TT} (hT:TT.Ok P T)
include hT
omit hT in
theorem wU {γ:bT} {t:TypeId} {x:AV} {d cy:Value} (c:ai γ x d) (hi:∀ k a,x≠.int k a) (hs:∀ a,x≠.str a) (hb:x≠.bad) :
  Go.binOp .eql t d cy=(do pure (.bool (<- Op.equal t d cy)))/\Go.binOp .neq t d cy=(do pure (.bool (!(<- Op.equal t d cy)))):=by
 cases x with
 | int k a=>exact absurd rfl (hi k a)
 | str a=>exact absurd rfl (hs a)
 | bad=>exact absurd rfl hb
 | bool b=>simp only [ai] at c;subst c;exact ⟨rfl,rfl⟩
 | nilFunc=>simp only [ai] at c;subst c;exact ⟨rfl,rfl⟩
 | Ss _=>simp only [ai] at c;subst c;exact ⟨rfl,rfl⟩
 | nilIface=>simp only [ai] at c;subst c;exact ⟨rfl,rfl⟩
 | ptr q=>cases q <;> simp only [ai] at c <;> (first | (subst c;exact ⟨rfl,rfl⟩) | (obtain ⟨_,_,rfl⟩:=c;exact ⟨rfl,rfl⟩))
 | slc q _ _ _=>cases q <;> simp only [ai] at c <;> (first | (obtain ⟨rfl,_⟩:=c;exact ⟨rfl,rfl⟩) | (obtain ⟨_,_,rfl⟩:=c;exact ⟨rfl,rfl⟩))
 | map q=>cases q <;> simp only [ai] at c <;> (first | (subst c;exact ⟨rfl,rfl⟩) | (obtain ⟨_,_,rfl⟩:=c;exact ⟨rfl,rfl⟩))
 | emp=>simp only [ai] at c;obtain ⟨_,_,rfl⟩:=c;exact ⟨rfl,rfl⟩
 | func _ _=>simp only [ai] at c;obtain ⟨_,rfl,_⟩:=c;exact ⟨rfl,rfl⟩
 | uS _ _ _=>simp only [ai] at c;obtain ⟨_,_,rfl,_⟩:=c;exact ⟨rfl,rfl⟩
 | iface _ _=>simp only [ai] at c;obtain ⟨_,rfl,_⟩:=c;exact ⟨rfl,rfl⟩
 | agg _=>simp only [ai] at c;obtain ⟨_,rfl,_⟩:=c;exact ⟨rfl,rfl⟩
 | aQ _=>simp only [ai] at c;obtain ⟨_,rfl,_⟩:=c;exact ⟨rfl,rfl⟩
omit hT in
theorem DX {d t:Nat} {y:AV} {b:Bool} (h:iZ T d t .bad y=some b):False:=by
 cases d with
 | zero=>simp [iZ] at h
 | succ d=>unfold iZ at h;split at h <;> simp_all
omit hT in
theorem P4 {d t:Nat} {y:AV} {k:IntKind} {a:Int} {b:Bool} (h:iZ T d t (.int k a) y=some b):∃ k' a',y=.int k' a':=by
 cases d with
 | zero=>simp [iZ] at h
 | succ d=>unfold iZ at h;split at h <;> simp_all
omit hT in
theorem P6 {d t:Nat} {y:AV} {a:List UInt8} {b:Bool} (h:iZ T d t (.str a) y=some b):∃ a',y=.str a':=by
 cases d with
 | zero=>simp [iZ] at h
 | succ d=>unfold iZ at h;split at h <;> simp_all
theorem Sx {γ : bT} {op : BinOp} {t : TypeId} {x y v : AV} {o cy : Value} (d : ai γ x o) (j : ai γ y cy) (h : lR T op t x y = some v) (w : World) :
    ∃ c, (Go.binOp op t o cy).run P w = .ok c w /\ ai γ v c := by
  unfold lR at h;split at h
  · simp only [ai] at d j; subst d j;split at h
    · cases h
    · rename_i hb; obtain rfl := Option.some.inj h; simp [Go.binOp, Op.shift, hb, ai]
  · simp only [ai] at d j; subst d j;split at h
    · cases h
    · rename_i hb; obtain rfl := Option.some.inj h; simp [Go.binOp, Op.shift, hb, ai]
  · rename_i l h2;simp only [ai] at d j; subst d j;split at h
    · rename_i p; subst p;exact LP hT (γ := γ) ⟨l, h2⟩ h t w
    · cases h
  · rename_i a b;simp only [ai] at d j; subst d j;split at h
    · rename_i r;obtain rfl := Option.some.inj h;refine ⟨.string ⟨(a ++ b).toArray⟩, ?_, by simp [ai]⟩;have hm : ¬ (((ByteArray.mk a.toArray).size + (ByteArray.mk b.toArray).size : Nat) : Int) > IntKind.i64.max := by
        have : IntKind.i64.max = 9223372036854775807 := rfl;rw [this];simp only [ByteArray.size, List.size_toArray];omega
      have m : (ByteArray.mk a.toArray) ++ (ByteArray.mk b.toArray) = ⟨(a ++ b).toArray⟩ := by
        apply ByteArray.ext;simp
      simp only [Go.binOp, Op.stringOp, if_neg hm, m]; rfl
    · cases h
  all_goals (first
    | (rename_i a b; simp only [ai] at d j; subst d j; obtain rfl := Option.some.inj h
       simp [Go.binOp, Op.stringOp, ai, Ga hT]; done)
    | skip)
  · rename_i l h2;cases i : iZ T 100 t x y with
    | none => simp [i] at h
    | some b =>
      simp only [i, Option.map_some] at h;obtain rfl := Option.some.inj h;obtain ⟨n, _⟩ := wU (t := t) (cy := cy) d (fun k a e => by subst e; obtain ⟨k', a', rfl⟩ := P4 i; exact l _ _ _ _ rfl rfl)
        (fun a e => by subst e; obtain ⟨a', rfl⟩ := P6 i; exact h2 _ _ rfl rfl) (fun e => by subst e; exact DX i)
      exact ⟨.bool b, by simp [n, Op.equal, FA hT w _ _ _ _ _ i _ _ d j Op.maxDepth (by decide)], by simp [ai]⟩
  · rename_i l h2;cases i : iZ T 100 t x y with
    | none => simp [i] at h
    | some b =>
      simp only [i, Option.map_some] at h;obtain rfl := Option.some.inj h;obtain ⟨_, n⟩ := wU (t := t) (cy := cy) d (fun k a e => by subst e; obtain ⟨k', a', rfl⟩ := P4 i; exact l _ _ _ _ rfl rfl)
        (fun a e => by subst e; obtain ⟨a', rfl⟩ := P6 i; exact h2 _ _ rfl rfl) (fun e => by subst e; exact DX i)
      exact ⟨.bool (!b), by simp [n, Op.equal, FA hT w _ _ _ _ _ i _ _ d j Op.maxDepth (by decide)], by simp [ai]⟩
  · cases h
theorem UY {γ:bT} {op:UnOp} {x v:AV} {d:Value} (b:ai γ x d) (h:V9 op x=some v) (w:World) :
  ∃ c,(Op.unary op d).run P w=.ok c w/\ai γ v c:=by
 unfold V9 at h;split at h <;> try simp only [ai] at b
 ·subst b;obtain rfl:=Option.some.inj h;simp [Op.unary,Op.intArith,ai]
 ·subst b;simp only [bG] at h;obtain rfl:=Option.some.inj h;exact ⟨_,by simp only [Op.unary,Op.intBits];rfl,by simp [ai]⟩
 ·subst b;obtain rfl:=Option.some.inj h;simp [Op.unary,ai]
 ·cases h
theorem Gb {γ:bT} {t:TypeId} {x v:AV} {f:Nat} {e:Value} (j:ai γ x e) (h:uV T t x f=some v) (w:World) :
  ∃ c,(Instr.fieldAt t e f).run P w=.ok c w/\ai γ v c:=by
 unfold uV at h;split at h
 ·rename_i fields l o hu;simp only [ai] at j;obtain ⟨i,hi,rfl⟩:=j;cases hf:fields[f]? with
  | none=>simp [hf] at h
  | some fd =>
   simp only [hf,Option.bind_some] at h;split at h
   ·rename_i n k;obtain rfl:=Option.some.inj h;refine ⟨.pointer (some ⟨i.b,i.d+o+fd.offset,none⟩),?_,by simp only [ai];exact ⟨i,hi,by rw [Nat.add_assoc]⟩⟩;simp [Instr.fieldAt,run_underlying hT hu,hf,Instr.sureAddr,fieldPlace,run_sizeOf hT k,i_]
   ·cases h
 ·cases h
theorem Gc {γ:bT} {t:TypeId} {x ix v:AV} {p r:Value} (m:ai γ x p) (e:ai γ ix r) (h:ag T t x ix=some v) (w:World) :
  ∃ c,(Instr.indexAt t p r).run P w=.ok c w/\ai γ v c:=by
 unfold ag at h;split at h
 ·rename_i len elem l o k j hu;simp only [ai] at m e;obtain ⟨i,hi,rfl⟩:=m;subst e;cases hs:T.eZ elem with
  | none=>simp [hs] at h
  | some n =>
   simp only [hs,Option.bind_some] at h;split at h
   ·rename_i hb;obtain rfl:=Option.some.inj h;refine ⟨.pointer (some ⟨i.b,i.d+o+j.toNat*n,none⟩),?_,by simp only [ai];exact ⟨i,hi,by rw [Nat.add_assoc]⟩⟩;simp [Instr.indexAt,run_underlying hT hu,Instr.sureAddr,asIntOf,run_sizeOf hT hs,i_,hb]
   ·cases h
 ·rename_i elem l o len cap ex k j hu;simp only [ai] at m e;obtain ⟨i,hi,rfl⟩:=m;subst e;cases hs:T.eZ elem with
  | none=>simp [hs] at h
  | some n =>
   simp only [hs,Option.bind_some] at h;split at h
   ·rename_i hb;obtain rfl:=Option.some.inj h;refine ⟨.pointer (some ⟨i.b,i.d+o+j.toNat*n,none⟩),?_,by simp only [ai];exact ⟨i,hi,by rw [Nat.add_assoc]⟩⟩;simp [Instr.indexAt,run_underlying hT hu,asIntOf,run_sizeOf hT hs,i_,hb]
   ·cases h
 ·cases h
theorem Oe {γ:bT} {t:TypeId} {x ix v:AV} {p r:Value} (m:ai γ x p) (d:ai γ ix r) (h:ju T t x ix=some v) (w:World) :
  ∃ c,(Instr.index t p r).run P w=.ok c w/\ai γ v c:=by
 unfold ju at h;split at h
 ·rename_i len elem cs k j hu;simp only [ai] at m d;obtain ⟨y,rfl,o⟩:=m;subst d;cases hs:T.eZ elem with
  | none=>simp [hs] at h
  | some n =>
   simp only [hs,Option.bind_some] at h;split at h
   ·rename_i hb;obtain ⟨c,e,hr⟩:=pe hT o h w;refine ⟨c,?_,hr⟩;simp [Instr.index,run_underlying hT hu,asIntOf,run_sizeOf hT hs,hb,e]
   ·cases h
 ·rename_i s k j hu;simp only [ai] at m d;subst m d;split at h
  ·rename_i hb;cases e:s[j.toNat]? with
   | none=>simp [e] at h
   | some b =>
    simp only [e,Option.map_some] at h;obtain rfl:=Option.some.inj h;refine ⟨.int .u8 b.toNat,?_,by simp [ai]⟩;have:(ByteArray.mk s.toArray)[j.toNat]? = some b:=by
     have i:j.toNat<s.length:=by
      rcases Nat.lt_or_ge j.toNat s.length with h | h
      ·exact h
      ·simp [List.getElem?_eq_none h] at e
     have l:j.toNat<(ByteArray.mk s.toArray).size:=by simpa [ByteArray.size] using i
     rw [getElem?_pos (ByteArray.mk s.toArray) j.toNat l];congr 1;have:s[j.toNat]=b:=by simpa [List.getElem?_eq_getElem i] using e
     rw [<- this];rfl
    simp [Instr.index,run_underlying hT hu,asIntOf,hb,this]
  ·cases h
 ·cases h
theorem Of {γ:bT} {t:TypeId} {x v:AV} {f:Nat} {d:Value} (e:ai γ x d) (h:FW T t x f=some v) (w:World) :
  ∃ c,(Instr.field t d f).run P w=.ok c w/\ai γ v c:=by
 unfold FW at h;split at h
 ·rename_i fields cs hu;simp only [ai] at e;obtain ⟨i,rfl,b⟩:=e;cases hf:fields[f]? with
  | none=>simp [hf] at h
  | some fd =>
   simp only [hf,Option.bind_some] at h;obtain ⟨c,j,hr⟩:=pe hT b h w;exact ⟨c,by simp [Instr.field,run_underlying hT hu,hf,asAgg,j],hr⟩
 ·cases h
end
end
section
def AN (γ:bT):Option AV->Option Value->Prop
 | none,c=>c=none
 | some v,c=>∃ cv,c=some cv/\ai γ v cv
theorem uY {P:Program} {γ:bT} {y Y n:Nat} {v:AV} {c:Value} {code:BoundsCode} (hv:ai γ v c) (h:ie y v=some n) (b:y<=Y) (w:World) :
  (Instr.sliceBound c Y code).run P w=.ok n w/\n<=y:=by
 unfold ie at h;split at h
 ·rename_i k i;simp only [ai] at hv;subst hv;split at h
  ·rename_i hb;obtain rfl:=Option.some.inj h;have:0<=i/\i<=(Y:Int):=⟨hb.1,by omega⟩;exact ⟨by simp [Instr.sliceBound,asIntOf,this],by omega⟩
  ·cases h
 ·cases h
theorem LQ {P:Program} {γ:bT} {y n:Nat} {v:Option AV} {c:Option Value} {code:BoundsCode} (hv:AN γ v c) (h:tX y v 0=some n) (w:World) :
  (match c with | some v=>Instr.sliceBound v y code | none=>pure 0:Sem Nat).run P w=.ok n w/\n<=y:=by
 cases v with
 | none=>obtain rfl:=hv;simp only [tX] at h;obtain rfl:=Option.some.inj h;exact ⟨rfl,by omega⟩
 | some v=>obtain ⟨cv,rfl,hr⟩:=hv;exact uY hr h (Nat.le_refl _) w
theorem pg {P:Program} {γ:bT} {len cap cap':Nat} {low high max:Option AV} {lo hi x:Option Value} {l h m:Nat} (isSlice:Bool) (y:AN γ low lo) (k:AN γ high hi) (hm:AN γ max x)
  (z:cap<=cap') (hb:cX len cap low high max=some (l,h,m)) (w:World) :
  (Instr.sliceBounds isSlice len cap' lo hi x).run P w=.ok (l,h,if max.isSome then m else cap') w/\l<=h/\h<=m/\(max.isSome=false->m=cap):=by
 unfold cX at hb;split at hb
 ·cases hb
 ·rename_i n;simp only [Option.bind_eq_some_iff,Option.map_eq_some_iff] at hb;obtain ⟨m',c,A,b,l',i,e⟩:=hb;obtain ⟨rfl,rfl,rfl⟩:l'=l/\A=h/\m'=m:=by simpa using e
  cases max with
  | some G =>
   obtain ⟨H,rfl,o⟩:=hm;cases high with
   | none=>simp at n
   | some B =>
    obtain ⟨C,rfl,d⟩:=k;simp only [tX] at c;simp only [qq] at b;obtain ⟨D,I⟩:=uY (P:=P) (code:=if isSlice then .slice3Acap else .slice3Alen) o c z w;obtain ⟨p,r⟩:=uY (P:=P) (code:=.slice3B) d b (Nat.le_refl _) w;obtain ⟨F,j⟩:=LQ (P:=P) (code:=.slice3C) y i w;refine ⟨?_,j,r,by simp⟩;simp only [Instr.sliceBounds,Sem.run_bind,D,p,Result.andThen_ok,Option.isSome_some,if_true];cases lo <;> simp_all
  | none =>
   obtain rfl:=hm;simp only [tX] at c;obtain rfl:=Option.some.inj c;obtain ⟨F,j⟩:=LQ (P:=P) (code:=.sliceB) y i w;cases high with
   | none =>
    obtain rfl:=k;simp only [qq] at b;split at b
    ·rename_i hle;obtain rfl:=Option.some.inj b;refine ⟨?_,j,hle,by simp⟩;simp only [Instr.sliceBounds,Sem.run_bind,Sem.run_pure,Result.andThen_ok,Option.isSome_none];cases lo <;> simp_all
    ·cases b
   | some B =>
    obtain ⟨C,rfl,d⟩:=k;simp only [qq] at b;obtain ⟨p,r⟩:=uY (P:=P) (code:=if isSlice then .sliceAcap else .sliceAlen) d b z w;refine ⟨?_,j,r,by simp⟩;simp only [Instr.sliceBounds,Sem.run_bind,Sem.run_pure,p,Result.andThen_ok,Option.isSome_none];cases lo <;> simp_all
theorem Og {len cap:Nat} {low high max:Option AV} {l h m:Nat} (hb:cX len cap low high max=some (l,h,m)):m<=cap:=by
 unfold cX at hb;split at hb
 ·cases hb
 ·simp only [Option.bind_eq_some_iff,Option.map_eq_some_iff] at hb;obtain ⟨m',b,c,d,l',i,e⟩:=hb;obtain ⟨rfl,rfl,rfl⟩:l'=l/\c=h/\m'=m:=by simpa using e
  cases max with
  | none=>simp only [tX] at b;obtain rfl:=Option.some.inj b;omega
  | some v =>
   simp only [tX,ie] at b;split at b
   ·split at b
    ·obtain rfl:=Option.some.inj b;omega
    ·cases b
   ·cases b
section
variable {P:Program} {T:TT} (hT:TT.Ok P T)
include hT
theorem Oh {γ:bT} {t:TypeId} {x v:AV} {I:Value} {low high max:Option AV} {lo hi J:Option Value} (z:AN γ low lo) (A:AN γ high hi) (hm:AN γ max J)
  (y:ai γ x I) (h:bf T t x low high max=some v) (w:World):∃ c,(Instr.sliceAt t I lo hi J).run P w=.ok c w/\ai γ v c:=by
 unfold bf at h;split at h
 ·rename_i s hu;simp only [ai] at y;subst y;split at h
  ·cases h
  ·rename_i p;have B:max=none:=by cases max <;> simp_all
   subst B;obtain rfl:=hm;cases hb:cX s.length s.length low high none with
   | none=>simp [hb] at h
   | some r =>
    obtain ⟨l,j,m⟩:=r;simp only [hb,Option.map_some] at h;obtain rfl:=Option.some.inj h;obtain ⟨hr,F,h2,h3⟩:=pg (P:=P) false z A (show AN γ none none from rfl) (Nat.le_refl s.length) hb w;have G:(ByteArray.mk s.toArray).size=s.length:=by simp [ByteArray.size]
    refine ⟨.string ((ByteArray.mk s.toArray).extract l j),?_,?_⟩
    ·simp [Instr.sliceAt,Instr.slice,run_underlying hT hu,G,hr]
    ·simp only [ai];congr 1;apply ByteArray.ext;simp [List.extract_eq_take_drop]
 ·rename_i elem a len cap ex hu;cases hs:T.eZ elem with
  | none=>simp [hs] at h
  | some n =>
   simp only [hs,Option.bind_some] at h;cases hb:cX len cap low high max with
   | none=>simp [hb] at h
   | some r =>
    obtain ⟨l,j,m⟩:=r;simp only [hb,Option.bind_some] at h;cases a with
    | none =>
     simp only [ai] at y;obtain ⟨rfl,rfl⟩:=y;obtain rfl:=Option.some.inj h;obtain ⟨hr,F,h2,h3⟩:=pg (P:=P) true z A hm (Nat.le_refl cap) hb w;have sU:(if max.isSome then m else cap)=m:=by
      split
      ·rfl
      ·rename_i q;exact (h3 (by simpa using q)).symm
     rw [sU] at hr;refine ⟨.slice none (j - l) (m - l),?_,by simp [ai]⟩;simp [Instr.sliceAt,Instr.slice,run_underlying hT hu,hr,run_sizeOf hT hs]
    | some L =>
     obtain ⟨b,o⟩:=L;simp only [ai] at y;obtain ⟨i,hi,rfl⟩:=y;obtain ⟨hr,F,h2,h3⟩:=pg (P:=P) (cap':=if ex then cap else cap+i.x) true z A hm (by split <;> omega) hb w;simp only at h;split at h
     ·rename_i hex;obtain rfl:=Option.some.inj h;have sU:(if max.isSome then m else if ex then cap else cap+i.x)=m:=by
       by_cases p:max.isSome=true
       ·rw [if_pos p]
       ·rw [if_neg p,if_pos (by simpa [p] using hex)];exact (h3 (by simpa using p)).symm
      rw [sU] at hr;refine ⟨.slice (some ⟨i.b,if m=l then i.d+o else i.d+o+l*n,none⟩) (j - l) (m - l),?_,?_⟩
      ·simp only [Instr.sliceAt,Instr.slice,Sem.run_bind,run_underlying hT hu,hr,run_sizeOf hT hs,Result.andThen_ok];by_cases e:m=l
       ·simp [e]
       ·simp [e,i_]
      ·simp only [ai];refine ⟨i,hi,?_⟩;by_cases e:m=l
       ·simp [e]
       ·simp [e,Nat.add_assoc]
     ·rename_i hex;have C:ex=false/\max.isSome=false:=by simpa using hex
      obtain ⟨rfl,p⟩:=C;have H:=h3 p;subst H;simp only [p,Bool.false_eq_true,if_false] at hr;split at h
      ·rename_i e;obtain rfl:=Option.some.inj h;subst e;refine ⟨.slice (some (if m+i.x=m then ⟨i.b,i.d+o,none⟩ else ⟨i.b,i.d+o+m*n,none⟩)) (j - m) (m+i.x - m),?_,?_⟩
       ·simp only [Instr.sliceAt,Instr.slice,Sem.run_bind,run_underlying hT hu,Bool.false_eq_true,if_false,hr,run_sizeOf hT hs,Result.andThen_ok];by_cases e:m+i.x=m
        ·simp [e]
        ·simp [i_];split <;> rfl
       ·simp only [ai];exact ⟨_,_,by rw [show j - m=0 by omega]⟩
      ·rename_i e;obtain rfl:=Option.some.inj h;refine ⟨.slice (some ⟨i.b,i.d+o+l*n,none⟩) (j - l) (m+i.x - l),?_,?_⟩
       ·simp only [Instr.sliceAt,Instr.slice,Sem.run_bind,run_underlying hT hu,Bool.false_eq_true,if_false,hr,run_sizeOf hT hs,Result.andThen_ok];have:¬ (m+i.x=l):=by omega
        simp [this,i_]
       ·simp only [ai];exact ⟨i,hi,by simp [Nat.add_assoc];omega⟩
 ·rename_i elem hu;simp only [ai] at y;obtain ⟨K,D,rfl⟩:=y;cases hs:T.eZ elem with
  | none=>simp [hs] at h
  | some n =>
   simp only [hs,Option.bind_some] at h;cases hb:cX 0 0 low high max with
   | none=>simp [hb] at h
   | some r =>
    obtain ⟨l,j,m⟩:=r;simp only [hb,Option.map_some] at h;obtain rfl:=Option.some.inj h;obtain ⟨hr,F,h2,h3⟩:=pg (P:=P) (cap':=D) true z A hm (Nat.zero_le D) hb w;have B:=Og hb;obtain rfl:m=0:=by omega
    obtain rfl:j=0:=by omega
    obtain rfl:l=0:=by omega
    refine ⟨.slice (some (if (if max.isSome then 0 else D)=0 then K else K.add (0*n))) 0 ((if max.isSome then 0 else D) - 0),?_,?_⟩
    ·simp only [Instr.sliceAt,Instr.slice,Sem.run_bind,run_underlying hT hu,hr,run_sizeOf hT hs,Result.andThen_ok];generalize (if max.isSome then 0 else D)=q;by_cases M:q=0 <;> simp [M]
    ·simp only [ai];exact ⟨_,_,rfl⟩
 ·rename_i k elem b o hu;simp only [ai] at y;obtain ⟨i,hi,rfl⟩:=y;cases hs:T.eZ elem with
  | none=>simp [hs] at h
  | some n =>
   simp only [hs,Option.bind_some] at h;cases hb:cX k k low high max with
   | none=>simp [hb] at h
   | some r =>
    obtain ⟨l,j,m⟩:=r;simp only [hb,Option.map_some] at h;obtain rfl:=Option.some.inj h;obtain ⟨hr,F,h2,h3⟩:=pg (P:=P) false z A hm (Nat.le_refl k) hb w;have sU:(if max.isSome then m else k)=m:=by
     split
     ·rfl
     ·rename_i q;exact (h3 (by simpa using q)).symm
    rw [sU] at hr;refine ⟨.slice (some ⟨i.b,if m=l then i.d+o else i.d+o+l*n,none⟩) (j - l) (m - l),?_,?_⟩
    ·simp only [Instr.sliceAt,Sem.run_bind,run_underlying hT hu,Instr.sureAddr,Sem.run_pure,hr,run_sizeOf hT hs,Result.andThen_ok];by_cases e:m=l
     ·simp [e]
     ·simp [e,i_]
    ·simp only [ai];refine ⟨i,hi,?_⟩;by_cases e:m=l
     ·simp [e]
     ·simp [e,Nat.add_assoc]
 ·cases h
end
end
section
def IW (γ:bT):List (Nat×AV)->List (Nat×Value)->Prop
 | [],c=>c=[]
 | (i,v)::ps,c=>∃ d ds,c=(i,d)::ds/\ai γ v d/\IW γ ps ds
theorem t_ (off:Nat):∀ (l:List Value) (i:Nat) (c:Array Value),(l.zipIdx i).foldl (fun cs p=>cs.setIfInBounds (off+p.2) p.1) c=LN c (off+i) l
 | [],_,_=>rfl
 | v::vs,i,c=>by simp only [List.zipIdx_cons,List.foldl_cons,LN];rw [t_ off vs (i+1)];rfl
theorem P7 {γ:bT}:∀ {vs:List AV} {Eg:List Value} {cs:List AV} {c:Array Value} {o:Nat},au γ vs Eg->au γ cs c.toList->au γ (qQ cs o vs) (LN c o Eg).toList
 | [],Eg,cs,c,o,h,b=>by obtain rfl:=au.iL.1 h;exact b
 | v::vs,Eg,cs,c,o,h,b=>by
  obtain ⟨d,ds,rfl,hv,hs⟩:=au.cN.1 h;simp only [qQ,LN];refine P7 hs ?_;have:=b.set o hv;simpa using this
theorem yB {γ:bT} {place place':Nat->Option (Nat×Nat)} (hp:∀ i q,place i=some q->place' i=some q):∀ {parts:List (Nat×AV)} {og:List (Nat×Value)} {cs:List AV} {c:Array Value} {r:List AV},
  IW γ parts og->au γ cs c.toList->jQ place cs parts=some r->∃ c',Instr.fill place' c og=some c'/\au γ r c'.toList/\r.length=cs.length
 | [],og,cs,c,r,h,l,hf=>by
  obtain rfl:og=[]:=h;simp only [jQ] at hf;obtain rfl:=Option.some.inj hf;exact ⟨c,rfl,l,rfl⟩
 | (i,v)::ps,og,cs,c,r,h,l,hf=>by
  obtain ⟨d,ds,rfl,hv,hs⟩:=h;simp only [jQ] at hf;split at hf
  ·rename_i off size y m n;split at hf
   ·rename_i o;obtain ⟨rfl,j⟩:=fP n;have k:=hv.cells j;have hlen:=k.length;have w:=l.length;have b:¬ (d.cells.size≠size\/off+d.cells.size>c.size):=by
     simp only [Array.length_toList] at hlen w;omega
    have e:(d.cells.zipIdx.foldl (fun cs p=>cs.setIfInBounds (off+p.2) p.1) c)=LN c off d.cells.toList:=by
     rw [<- Array.foldl_toList];have:=t_ off d.cells.toList 0 c;simpa using this
    obtain ⟨c',x,h2,h3⟩:=yB hp (c:=LN c off d.cells.toList) hs (P7 k l) hf;refine ⟨c',?_,h2,by rw [h3,iN]⟩;simp only [Instr.fill,hp i _ m];rw [if_neg (by simpa using b)];rw [<- x,<- e]
   ·cases hf
  ·cases hf
theorem IX {place:Nat->Option (Nat×Nat)}:∀ {parts:List (Nat×AV)} {cs r:List AV},jQ place cs parts=some r->cs.all AV.one=true->r.all AV.one=true
 | [],cs,r,hf,h=>by simp only [jQ] at hf;obtain rfl:=Option.some.inj hf;exact h
 | (i,v)::ps,cs,r,hf,h=>by
  simp only [jQ] at hf;split at hf
  ·rename_i off size m j e;split at hf
   ·rename_i b;obtain ⟨rfl,c⟩:=fP e;refine IX hf ?_;rw [List.all_eq_true];intro x l;obtain ⟨k,d⟩:=List.mem_iff_getElem?.1 l;rw [kF _ _ _ _ b.2] at d;split at d
    ·exact List.all_eq_true.1 c x (List.mem_of_getElem? d)
    ·exact List.all_eq_true.1 h x (List.mem_of_getElem? d)
   ·cases hf
  ·cases hf
theorem LR {P:Program} {α b:Type} {f:α->Sem b} {g:α->b} {w:World}:∀ (l:List α),(∀ x∈l,(f x).run P w=.ok (g x) w)->(l.mapM f).run P w=.ok (l.map g) w
 | [],_=>by simp
 | x::xs,h=>by
  have c:=h x (by simp);have h2:=LR xs (fun y d=>h y (List.mem_cons_of_mem _ d));simp [List.mapM_cons,c,h2]
section
variable {P:Program} {T:TT} (hT:TT.Ok P T) {B:Nat} {γ:bT} {s:AS} {w:World} (hr:Rel B γ s w)
include hT
theorem Oi {t:TypeId} {parts:List (Nat×AV)} {og:Array (Nat×Value)} {v:AV} (hp:IW γ parts og.toList) (h:aY T t parts=some v) :
  ∃ c,(Instr.build t og).run P w=.ok c w/\ai γ v c:=by
 unfold aY at h;simp only [Option.bind_eq_some_iff] at h;obtain ⟨z,C,zc,m,h⟩:=h;obtain ⟨D,d,o⟩:=jl hT C w;obtain ⟨rfl,e⟩:=fP m;have j:=(o γ).cells e;split at h
 ·rename_i fields hu;split at h
  ·rename_i l;simp only [Option.map_eq_some_iff] at h;obtain ⟨r,hr',rfl⟩:=h;have p:∀ (i:Nat) (q:Nat×Nat),(((fields[i]?).bind fun (f:Field)=>(T.eZ f.type).map fun n=>(f.offset,n))=some q)->(fields.map fun f=>(f.offset,(T.eZ f.type).getD 0))[i]? = some q:=by
    intro i q B;simp only [Option.bind_eq_some_iff,Option.map_eq_some_iff] at B;obtain ⟨f,hf,n,b,rfl⟩:=B;simp [hf,b]
   obtain ⟨c',y,h2,_⟩:=yB p hp j hr';have hm:(fields.mapM fun (f:Field)=>do pure (f.offset,<- sizeOf f.type):Sem (Array (Nat×Nat))).run P w=.ok (fields.map fun f=>(f.offset,(T.eZ f.type).getD 0)) w:=by
    rw [Array.mapM_eq_mapM_toList];have:=LR (P:=P) (w:=w) (f:=fun (f:Field)=>(do pure (f.offset,<- sizeOf f.type):Sem (Nat×Nat))) (g:=fun f=>(f.offset,(T.eZ f.type).getD 0)) fields.toList (by
     intro f hf;have F:=Array.all_eq_true'.1 l f (by simpa using hf);obtain ⟨n,b⟩:=Option.isSome_iff_exists.1 F;simp [run_sizeOf hT b,b])
    simp only [Sem.run_map,this,Result.andThen_ok];congr 1;apply Array.ext';simp
   refine ⟨.agg c',?_,by simp only [ai];exact ⟨c',rfl,h2⟩⟩;have A:Instr.fill (fun x=>(fields.map fun f=>(f.offset,(T.eZ f.type).getD 0))[x]?) D.cells og.toList=some c':=y;simp only [Instr.build,Sem.run_bind,d,run_underlying hT hu,hm,Result.andThen_ok,Sem.run_pure,A]
  ·cases h
 ·rename_i k elem hu;simp only [Option.bind_eq_some_iff,Option.map_eq_some_iff] at h;obtain ⟨n,b,r,hr',rfl⟩:=h;obtain ⟨c',y,h2,_⟩:=yB (place':=fun i=>some (i*n,n)) (fun _ _ h=>h) hp j hr';refine ⟨.agg c',?_,by simp only [ai];exact ⟨c',rfl,h2⟩⟩;simp only [Instr.build,Sem.run_bind,d,run_underlying hT hu,run_sizeOf hT b,Result.andThen_ok,Sem.run_pure];simp [y]
 ·cases h
omit hT in
theorem UZ (z:List AV) (n k:Nat):(rep n z)[k]? = if k<n*z.length then z[k % z.length]? else none:=by
 induction n generalizing k with
 | zero=>simp [rep]
 | succ n c =>
  have e:rep (n+1) z=z++rep n z:=by simp [rep,List.replicate_succ]
  rw [e,List.getElem?_append];split
  ·rename_i b;have:k<(n+1)*z.length:=by
    have:z.length<=(n+1)*z.length:=Nat.le_mul_of_pos_left _ (by omega);omega
   rw [if_pos this,Nat.mod_eq_of_lt b]
  ·rename_i b;rw [c];have d:(n+1)*z.length=n*z.length+z.length:=by rw [Nat.add_mul,Nat.one_mul]
   by_cases h:k - z.length<n*z.length
   ·rw [if_pos h,if_pos (by omega)];congr 1;exact (Nat.mod_eq_sub_mod (by omega)).symm
   ·rw [if_neg h,if_neg (by omega)]
omit hT in
theorem uZ (z:List AV) (n:Nat):(rep n z).length=n*z.length:=by
 simp [rep]
omit hT in
theorem Gf {γ:bT} {z:List AV} {b:Array Value} (l:au γ z b.toList) (n:Nat) (o:z.length≠0\/n=0\/True) :
  au γ (rep n z) ((Array.range (n*b.size)).map (b[· % b.size]!)).toList:=by
 have e:=l.length;simp only [Array.length_toList] at e;refine au.fo.2 ⟨by rw [uZ];simp [e],fun i v c hv m=>?_⟩;rw [UZ] at hv;split at hv
 ·rename_i hi;obtain ⟨cv,d,hr⟩:=l.get hv;have j:0<b.size:=by
   rcases Nat.eq_zero_or_pos b.size with h | h
   ·rw [e,h] at hi;simp at hi
   ·exact h
  have:c=cv:=by
   have k:i<n*b.size:=by rw [<- e];exact hi
   simp [k] at m;rw [<- m];have hm:i % b.size<b.size:=Nat.mod_lt _ j;rw [e] at d;simp [hm] at d;rw [getElem!_pos b _ hm];exact d
  rw [this];exact hr
 ·cases hv
omit hT in
theorem u0 {z:List AV} (h:z.all AV.one=true) (n:Nat):(rep n z).all AV.one=true:=by
 simp only [rep,List.all_eq_true,List.mem_flatten];rintro x ⟨l,b,c⟩;obtain rfl:=(List.mem_replicate.1 b).2;exact List.all_eq_true.1 h x c
include hr
theorem Eh {t:TypeId} {len:Nat} {parts:List (Nat×AV)} {og:Array (Nat×Value)} {v:AV} {s':AS} (hp:IW γ parts og.toList) (h:mj T t len parts s=some (v,s')) :
  zv P B γ s w (Instr.buildSlice t len og) v s':=by
 unfold mj at h;split at h
 ·rename_i elem hu;simp only [Option.bind_eq_some_iff] at h;obtain ⟨n,F,z,G,zc,r,h⟩:=h;split at h
  ·rename_i j;obtain ⟨rfl,b⟩:=fP r;obtain ⟨hlen,hbound⟩:=j;simp only [Option.map_eq_some_iff] at h;obtain ⟨cs,m,e⟩:=h;obtain ⟨rfl,rfl⟩:_/\_:=by simpa using e
   obtain ⟨D,y,A⟩:=jl hT G w;have o:=(A γ).cells b;have d:=o.length;simp only [Array.length_toList] at d
   let c0:Array Value:=(Array.range (len*n)).map ((if len*n=0 then #[] else D.cells)[· % (if len*n=0 then #[] else D.cells).size]!)
   have C:au γ (rep len z.cells) c0.toList:=by
    by_cases h0:len*n=0
    ·have:rep len z.cells=[]:=by
      apply List.eq_nil_of_length_eq_zero;rw [uZ,hlen,h0]
     rw [this];simp [c0,h0];exact au.nil
    ·have:=Gf o len (.inr (.inr trivial));simp only [c0,if_neg h0];rw [<- hlen,d];exact this
   obtain ⟨c',p,h2,h3⟩:=yB (place':=fun i=>some (i*n,n)) (fun _ _ h=>h) hp C m;have l:=IX m (u0 b len);obtain ⟨H,I⟩:=hr.wT (w':={ w with heap:=w.heap.push (.cells c' elem) }) (g:=UW T t len) (x:=0) (e:=elem) (c:=c') (uX h2 l (by intro k v h;simpa using h)) (fun _=>⟨by have:=h2.length;simp at this ⊢;omega,fun k K J=>by have:=h2.length;simp at this;omega⟩) (0,0) (by simp) (fun _=>rfl) (Nat.le_refl _) rfl;refine ⟨_,_,.slice (some ⟨w.heap.size,0,none⟩) len len,?_,by simp only [ai];exact ⟨_,cG _ _ _,by simp⟩,I,H⟩;have hb:¬ (len*n>2 ^ 24):=by omega
   simp only [Instr.buildSlice,Sem.run_bind,run_underlying hT hu,run_sizeOf hT F,Result.andThen_ok,if_neg hb];by_cases h0:len*n=0
   ·simp only [if_pos h0,Sem.run_pure,Result.andThen_ok];simp only [c0,if_pos h0] at p;simp [h0] at p ⊢;simp [p,jR]
   ·simp only [if_neg h0,Sem.run_bind,y,Sem.run_pure,Result.andThen_ok];simp only [c0,if_neg h0] at p;simp [p,jR]
  ·cases h
 ·cases h
end
end
section
def Oj:TypeDesc->Bool
 | .int _=>true
 | _=>false
theorem IY (need:Nat):∀ (r c:Nat),c<=need->Builtin.growBy need r c<=need+(need+768) / 4
 | 0,c,h=>by simp only [Builtin.growBy];omega
 | r+1,c,h=>by
  simp only [Builtin.growBy];split
  ·omega
  ·by_cases h2:c+(c+768) / 4<=need
   ·exact IY need r _ h2
   ·cases r with
    | zero=>simp only [Builtin.growBy];omega
    | succ r=>simp only [Builtin.growBy];rw [if_pos (by omega)];omega
theorem nextslicecap_le {need cap:Nat} (h:cap<=need):Builtin.nextslicecap need cap<=2*(need+256):=by
 unfold Builtin.nextslicecap;split
 ·omega
 ·split
  ·omega
  ·have:=IY need 4 cap h;omega
theorem jS {γ:bT} {z:List AV} {b:Array Value} (c:au γ z b.toList) (n:Nat):au γ (rep n z) (Builtin.zeroCells b n).toList:=by
 have:=Gf c n (.inr (.inr trivial));simpa [Builtin.zeroCells] using this
theorem mO (b:Array Value) (n:Nat):(Builtin.zeroCells b n).size=n*b.size:=by simp [Builtin.zeroCells]
section
variable {P:Program} {T:TT} (hT:TT.Ok P T) {B:Nat} {γ:bT} {s:AS} {w:World} (hr:Rel B γ s w)
include hT hr
theorem Gg {t:TypeId} {l c v:AV} {cl cc:Value} {s':AS} (I:ai γ l cl) (J:ai γ c cc) (h:uW T t l c s=some (v,s')) :
  zv P B γ s w (Instr.makeSlice t cl cc) v s':=by
 unfold uW at h;split at h
 ·rename_i elem U l k2 c hu;simp only [ai] at I J;subst I J;simp only [Option.bind_eq_some_iff] at h;obtain ⟨n,L,qR,y,z,M,zc,A,h⟩:=h;split at h
  ·rename_i m;obtain ⟨h0,W,h2,h3,h4⟩:=m;obtain ⟨rfl,rfl⟩:_/\_:=by simpa using h
   obtain ⟨rfl,i⟩:=fP A;obtain ⟨K,C,D⟩:=jl hT M w;have o:=(D γ).cells i;have j:=o.length;simp only [Array.length_toList] at j;obtain ⟨inf,p,d⟩:=qS hT y w;have r:∀ x:Int,0<=x->x<2 ^ 63->IntKind.i64.wrap x=x:=fun x O Q=>IntWalk.i64_in x (by omega);have F:=r l h0 (by omega);have G:=r c (by omega) h3
   let c0:Array Value:=(Array.range (c.toNat*n)).map ((if c.toNat*n=0 then #[] else K.cells)[· % (if c.toNat*n=0 then #[] else K.cells).size]!)
   have H:au γ (rep c.toNat z.cells) c0.toList:=by
    by_cases b:c.toNat*n=0
    ·have:rep c.toNat z.cells=[]:=by
      apply List.eq_nil_of_length_eq_zero;rw [uZ,h4,b]
     rw [this];simp [c0,b];exact au.nil
    ·have:=Gf o c.toNat (.inr (.inr trivial));simp only [c0,if_neg b];rw [<- h4,j];exact this
   obtain ⟨R,S⟩:=hr.wT (w':={ w with heap:=w.heap.push (.cells c0 elem) }) (g:=0) (x:=0) (e:=elem) (c:=c0) (uX H (u0 i _) (by intro k v h;simpa using h)) (by simp) (0,0) (by simp) (fun _=>rfl) (Nat.le_refl _) rfl;refine ⟨_,_,.slice (some ⟨w.heap.size,0,none⟩) l.toNat c.toNat,?_,by simp only [ai];exact ⟨_,cG _ _ _,by simp⟩,S,R⟩;simp only [Instr.makeSlice,Sem.run_bind,run_underlying hT hu,asInt,asIntOf,Sem.run_pure,p,Result.andThen_ok,d,F,G];have e1:(decide (c<0)||decide ((qR:Int)*c>2 ^ 48))=false:=by simp;omega
   rw [e1];have e2:((false||decide (l<0))||decide (l>c))=false:=by simp;omega
   simp only [e2,Bool.false_eq_true,if_false,Sem.run_bind,run_askRoom,run_sizeOf hT L,Result.andThen_ok];by_cases b:c.toNat*n=0
   ·simp only [if_pos b,c0];simp [jR]
   ·simp only [if_neg b,Sem.run_bind,C,Sem.run_pure,Result.andThen_ok,jR,c0]
  ·cases h
 ·cases h
theorem ua {size n:Nat} {x:AV} {z:Value} {new:List AV} (d:ai γ x z) (h:nZ size n s x=some new) :
  ∃ c,(Builtin.firstCells size n z).run P w=.ok c w/\au γ new c.toList/\new.all AV.one=true:=by
 unfold nZ at h;split at h
 ·rename_i l o _ _ _;simp only [ai] at d;obtain ⟨i,hi,rfl⟩:=d;split at h
  ·rename_i h0;subst h0;obtain rfl:=Option.some.inj h;exact ⟨#[],by simp [Builtin.firstCells,loadCells,loadCellsFrom],au.nil,rfl⟩
  ·obtain ⟨j,c,hj,e,r,k,_⟩:=mN hT hr h;rw [hi] at hj;obtain rfl:=Option.some.inj hj;exact ⟨c,e,r,k⟩
 ·simp only [ai] at d;obtain ⟨rfl,_⟩:=d;obtain rfl:=Option.some.inj h;exact ⟨#[],rfl,au.nil,rfl⟩
 ·simp only [ai] at d;obtain ⟨a,m,rfl⟩:=d;split at h
  ·rename_i h0;subst h0;obtain rfl:=Option.some.inj h;exact ⟨#[],by simp [Builtin.firstCells,loadCells,loadCellsFrom],au.nil,rfl⟩
  ·cases h
 ·rename_i b;simp only [ai] at d;subst d;obtain rfl:=Option.some.inj h;refine ⟨_,rfl,?_,by rw [List.all_eq_true];intro x d;obtain ⟨y,_,rfl⟩:=List.mem_map.1 d;rfl⟩;have:(ByteArray.extract ⟨b.toArray⟩ 0 n).data.toList=b.take n:=by simp [List.extract_eq_take_drop]
  refine au.fo.2 ⟨by simp [this],fun i v c hv p=>?_⟩;rw [Array.toList_map,this] at p;simp only [List.getElem?_map] at hv p;cases hb:(b.take n)[i]? with
  | none=>simp [hb] at hv
  | some u =>
   simp only [hb,Option.map_some] at hv p;obtain rfl:=Option.some.inj hv;obtain rfl:=Option.some.inj p;simp [ai]
 ·cases h
omit hT hr in
theorem Gh {x:AV} {d:Value} {n:Nat} (b:ai γ x d) (h:Ef x=some n):(Builtin.lenOf d).run P w=.ok n w:=by
 unfold Ef at h;split at h
 ·rename_i a m c e;cases a with
  | none=>simp only [ai] at b;obtain ⟨rfl,_⟩:=b;obtain rfl:=Option.some.inj h;rfl
  | some a=>obtain ⟨l,o⟩:=a;simp only [ai] at b;obtain ⟨i,_,rfl⟩:=b;obtain rfl:=Option.some.inj h;rfl
 ·simp only [ai] at b;obtain ⟨a,m,rfl⟩:=b;obtain rfl:=Option.some.inj h;rfl
 ·simp only [ai] at b;subst b;obtain rfl:=Option.some.inj h;simp [Builtin.lenOf,ByteArray.size]
 ·cases h
theorem Q1 {t xt:TypeId} {dst x v:AV} {cd y:Value} {s':AS} (hd:ai γ dst cd) (I:ai γ x y) (h:q8 T t dst x s=some (v,s')) (J:TypeId) :
  zv P B γ s w (Builtin.copy_ #[t,xt] J #[cd,y]) v s':=by
 unfold q8 at h;split at h
 ·rename_i elem hu;simp only [Option.bind_eq_some_iff] at h;obtain ⟨size,hs,m,hm,d,hd',new,z,h⟩:=h;obtain ⟨c,G,p,A⟩:=ua hT hr I z;have r:=Gh (P:=P) (w:=w) I hm;have K:=Gh (P:=P) (w:=w) hd hd';split at h
  ·rename_i l o len cap ex;simp only [ai] at hd;obtain ⟨i,hi,rfl⟩:=hd;obtain rfl:len=d:=by simpa [Ef] using hd'
   have n:(Builtin.firstCells size (Nat.min m len) y).run P w=.ok c w:=G;have body:∀ w',(storeCells ⟨i.b,i.d+o,none⟩ c.toList).run P w=.ok () w'->(Builtin.copy_ #[t,xt] J #[.slice (some ⟨i.b,i.d+o,none⟩) len (if ex then cap else cap+i.x),y]).run P w=.ok (goInt ((min m len:Nat):Int)) w':=by
    intro w' H;simp only [Builtin.copy_,List.getElem?_toArray,List.getElem?_cons_zero,List.getElem?_cons_succ,Sem.run_bind,run_underlying hT hu,Result.andThen_ok,r,run_sizeOf hT hs,n,H,Sem.run_pure]
   split at h
   ·rename_i h0;subst h0;obtain ⟨rfl,rfl⟩:_/\_:=by simpa using h
    have:c.toList=[]:=au.iL.1 p;exact zv.val hr (body w (by rw [this];rfl)) (by simp [ai,goInt])
   ·simp only [Option.map_eq_some_iff] at h;obtain ⟨s'',L,e⟩:=h;obtain ⟨rfl,rfl⟩:_/\_:=by simpa using e
    obtain ⟨j,w',hj,C,D,hr'⟩:=Fy hT hr L p A;rw [hi] at hj;obtain rfl:=Option.some.inj hj;exact ⟨γ,w',_,body w' C,by simp [ai,goInt],D,hr'⟩
  ·rename_i len cap ex;simp only [ai] at hd;obtain ⟨rfl,_⟩:=hd;obtain rfl:len=d:=by simpa [Ef] using hd'
   obtain ⟨rfl,rfl⟩:_/\_:=by simpa using h
   have n:(Builtin.firstCells size (Nat.min m len) y).run P w=.ok c w:=G;refine zv.val hr (cv:=goInt ((min m len:Nat):Int)) ?_ (by simp [ai,goInt]);simp only [Builtin.copy_,List.getElem?_toArray,List.getElem?_cons_zero,List.getElem?_cons_succ,Sem.run_bind,run_underlying hT hu,Result.andThen_ok,r,run_sizeOf hT hs,n,Sem.run_pure]
  ·simp only [ai] at hd;obtain ⟨a,k,rfl⟩:=hd;obtain rfl:0=d:=by simpa [Ef] using hd'
   split at h
   ·rename_i h0;subst h0;obtain ⟨rfl,rfl⟩:_/\_:=by simpa using h
    have F:c.toList=[]:=au.iL.1 p;have n:(Builtin.firstCells size (Nat.min m 0) y).run P w=.ok c w:=G;refine zv.val hr (cv:=goInt ((min m 0:Nat):Int)) ?_ (by simp [ai,goInt]);simp only [Builtin.copy_,List.getElem?_toArray,List.getElem?_cons_zero,List.getElem?_cons_succ,Sem.run_bind,run_underlying hT hu,Result.andThen_ok,r,run_sizeOf hT hs,n,F,storeCells,Sem.run_pure]
   ·cases h
  ·cases h
 ·cases h
omit hr in
theorem sn {t xt elem : TypeId} {i : TypeDesc} {size len cap' n : Nat} {base : Option Addr} {j : Value} {c : Array Value} {w' : World} (hu : T.cW t = some (.slice elem)) (k : T.cW xt = some i)
    (b : Oj i = false) (hs : T.eZ elem = some size) (l : (Builtin.lenOf j).run P w = .ok n w) (m : (Builtin.firstCells size n j).run P w = .ok c w) (e : len + n <= cap') (o : TypeId)
    (d : (match base with | some a => storeCells (a.add (len * size)) c.toList | none => pure () : Sem Unit).run P w = .ok () w') :
    (Builtin.append_ #[t, xt] o #[.slice base len cap', j]).run P w = .ok (.slice base (len + n) cap') w' := by
  cases i <;> first
    | (cases b; done)
    | (simp only [Builtin.append_, List.getElem?_toArray, List.getElem?_cons_zero, List.getElem?_cons_succ, Sem.run_bind, run_underlying hT hu, run_underlying hT k, run_sizeOf hT hs, Result.andThen_ok, Sem.run_pure, Bool.false_eq_true, if_false, l, if_pos e, Bool.not_false, if_true, m]
       cases base with
       | none => simp only at d ⊢; cases d; rfl
       | some a => simp only at d ⊢; simp [d])
omit hr in
theorem LS {t xt elem : TypeId} {o : TypeDesc} {size qR len cap' n : Nat} {base : Option Addr} {p y : Value} (hu : T.cW t = some (.slice elem)) (r : T.cW xt = some o)
    (d : Oj o = false) (hs : T.eZ elem = some size) (m : T.HX elem = some qR) (x : (Builtin.lenOf p).run P w = .ok n w) (A : ∀ w, (zeroValue elem).run P w = .ok y w)
    (l : ¬ len + n <= cap') (B : len + n <= 2 ^ 40) (C : 2 * ((len + n + 256) * qR) <= 2 ^ 48) (D : TypeId) :
    ∃ wd di, (wd.heap = w.heap /\ Env w wd) /\ len + n <= di /\ ∀ old new, (Builtin.firstCells size len (.slice base len cap')).run P wd = .ok old wd -> (Builtin.firstCells size n p).run P wd = .ok new wd ->
      (Builtin.append_ #[t, xt] D #[.slice base len cap', p]).run P w = .ok (.slice (some ⟨w.heap.size, 0, none⟩) (len + n) di)
        { wd with heap := wd.heap.push (.cells (old ++ new ++ Builtin.zeroCells y.cells (di - (len + n))) elem) } := by
  have F : (Question.appendCap (len + n) cap' elem).forced = false := rfl;refine ⟨{ w with drawn := w.drawn + 1 }, (Question.appendCap (len + n) cap' elem).cut (w.tape w.drawn (Question.appendCap (len + n) cap' elem)), ⟨rfl, rfl, rfl, rfl⟩, Nat.le_add_right _ _, fun old new G H => ?_⟩;obtain ⟨inf, c, e⟩ := qS hT m w;have b : ∀ w, (typeInfo elem).run P w = .ok inf w := by
    intro w2;obtain ⟨z, b, _⟩ := qS hT m w2;have e1 : (typeInfo elem).run P w = (match P.info? elem with | some i => .ok i w | none => .halt (.stuck "no such type") w) := by
      simp only [typeInfo, Sem.run_bind, run_program, Result.andThen_ok]; cases P.info? elem <;> rfl
    have e2 : (typeInfo elem).run P w2 = (match P.info? elem with | some i => .ok i w2 | none => .halt (.stuck "no such type") w2) := by
      simp only [typeInfo, Sem.run_bind, run_program, Result.andThen_ok]; cases P.info? elem <;> rfl
    rw [e1] at c; rw [e2];cases hi : P.info? elem with
    | none => rw [hi] at c; cases c
    | some i => rw [hi] at c; cases c; rfl
  have j : ¬ (((len + n : Nat) : Int) > IntKind.i64.max /\ ((false = true) \/ inf.bytes = 0)) := by
    have : IntKind.i64.max = 9223372036854775807 := rfl;rw [this]; omega
  have k : ¬ (Builtin.nextslicecap (len + n) cap' * inf.bytes > 2 ^ 48) := by
    have I := nextslicecap_le (need := len + n) (cap := cap') (by omega);have h2 : Builtin.nextslicecap (len + n) cap' * inf.bytes <= 2 * (len + n + 256) * qR := by rw [e]; exact Nat.mul_le_mul_right _ I
    have h3 : 2 * (len + n + 256) * qR = 2 * ((len + n + 256) * qR) := by rw [Nat.mul_assoc]
    omega
  cases o <;> first
    | (cases d; done)
    | (simp only [Builtin.append_, List.getElem?_toArray, List.getElem?_cons_zero, List.getElem?_cons_succ, Sem.run_bind, run_underlying hT hu, run_underlying hT r, run_sizeOf hT hs, Result.andThen_ok, Sem.run_pure, Bool.false_eq_true, if_false, x, if_neg l, Bool.not_false, if_true, b]
       rw [if_neg (by simpa using j)];simp only [Sem.run_bind, b, Result.andThen_ok];rw [if_neg k];simp only [Sem.run_bind, run_choose, F, Bool.false_eq_true, if_false, Result.andThen_ok, b, run_askRoom, G, H, A, jR, Sem.run_pure])
omit hT hr in
theorem Ol {a b:List AV} (c:a.all AV.one=true) (h2:b.all AV.one=true):(a++b).all AV.one=true:=by simp [c,h2]
theorem Gi {elem:TypeId} {wd:World} {old new:List AV} {co b j:Array Value} {size need di x:Nat} (K:wd.heap=w.heap) (y:Env w wd) (I:au γ old co.toList) (J:au γ new b.toList)
  (z:old.all AV.one=true) (A:new.all AV.one=true) (L:di=need+x) (C:j.size=size) {zc:List AV} (D:au γ zc j.toList) (F:zc.all AV.one=true) :
  Rel B (iM γ s.nl ⟨w.heap.size,0,x⟩) (s.new (.cells (old++new) size false)) { wd with heap:=wd.heap.push (.cells (co++b++Builtin.zeroCells j (di - need)) elem) } /\
   gq B γ s w (iM γ s.nl ⟨w.heap.size,0,x⟩) (s.new (.cells (old++new) size false)) { wd with heap:=wd.heap.push (.cells (co++b++Builtin.zeroCells j (di - need)) elem) }:=by
 have l:=I.length;have m:=J.length;simp only [Array.length_toList] at l m;refine hr.wT (w':={ wd with heap:=wd.heap.push (.cells (co++b++Builtin.zeroCells j (di - need)) elem) }) (g:=size) (x:=x) (e:=elem) (c:=co++b++Builtin.zeroCells j (di - need))
  (uX (I.append J) (Ol z A) ?_) ?_ (0,0) (by simp) (fun _=>rfl) (Nat.le_refl _) (by simp [K]) y
 ·intro k v n;have d:k<co.size+b.size:=by
   rcases Nat.lt_or_ge k (co.size+b.size) with h | h
   ·exact h
   ·rw [List.getElem?_eq_none (by simp;omega)] at n;cases n
  rw [<- Array.getElem?_toList];simp only [Array.toList_append];rw [List.getElem?_append_left (by simpa using d)];exact n
 ·intro _;refine ⟨?_,fun k n G=>?_⟩
  ·simp only [Array.size_append,mO,List.length_append,l,m,C];rw [show di - need=x by omega]
  ·rw [List.length_append,l,m] at n;rw [Array.getElem?_append_right (by simpa using n)];have d:k - (co++b).size<(Builtin.zeroCells j (di - need)).size:=by simp only [Array.size_append] at G ⊢;omega
   rw [Array.getElem?_eq_getElem d];have o:=jS D (di - need);have H:=o.length;simp only [Array.length_toList] at H;have i:k - (co++b).size<(rep (di - need) zc).length:=by omega
   obtain ⟨c',p,r⟩:=o.get (List.getElem?_eq_getElem i);rw [Array.getElem?_toList,Array.getElem?_eq_getElem d] at p;obtain rfl:=Option.some.inj p;exact ⟨_,_,List.all_eq_true.1 (u0 F _) _ (List.getElem_mem i),rfl,r⟩
theorem wV {l o len cap n g:Nat} {cs new old:List AV} {c:Array Value} {i:CI} (U:s.h l=some (.cells cs g false)) (hi:γ l=some i) (J:g≠0) (al:o+cap*g=cs.length) (K:new.length=n*g) (z:au γ new c.toList) (D:new.all AV.one=true) (m:aD s l o (len*g)=some old) (W:¬ len+n<=cap) (A:len+n<=cap+i.x) :
  ∃ w',(storeCells ⟨i.b,i.d+o+len*g,none⟩ c.toList).run P w=.ok () w'/\Rel B (iM γ s.nl ⟨i.b,i.d+o,cap+i.x - (len+n)⟩) ((s.kill l).new (.cells (old++new) g false)) w'/\gq B γ s w (iM γ s.nl ⟨i.b,i.d+o,cap+i.x - (len+n)⟩) ((s.kill l).new (.cells (old++new) g false)) w':=by
 obtain ⟨j,hj,hO,hB⟩:=hr.obj l _ U;rw [hi] at hj;obtain rfl:=Option.some.inj hj;obtain ⟨ca,e,fz,hb,F,hf,G,L⟩:=hO;have X:=(G J).1;have Y:=z.length;simp only [Array.length_toList] at Y;have r:old.length=len*g:=by obtain ⟨_,_,_,_,_,_,_,_,_,hh⟩:=P0 hT hr m;exact hh
 have hmul:(len+n)*g<=(cap+i.x)*g:=Nat.mul_le_mul_right _ A;have e1:(len+n)*g=len*g+n*g:=Nat.add_mul _ _ _;have e2:(cap+i.x)*g=cap*g+i.x*g:=Nat.add_mul _ _ _;have y:∀ v∈c.toList,v.oneCell'=true:=by
  intro v hm;obtain ⟨k,p⟩:=List.mem_iff_getElem?.1 hm;have H:k<new.length:=by
   rcases Nat.lt_or_ge k c.toList.length with h | h
   ·have:=z.length;omega
   ·simp [List.getElem?_eq_none h] at p
  have M:=List.getElem?_eq_getElem H;obtain ⟨c',C,hr'⟩:=z.get M;rw [p] at C;obtain rfl:=Option.some.inj C;exact hr'.one (List.all_eq_true.1 D _ (List.mem_of_getElem? M))
 obtain ⟨w',O,Q,Z⟩:=q9 P (b:=i.b) (o:=i.d+o+len*g) c.toList 0 w ca hb (by simp only [Array.length_toList];omega) (hf rfl) y;have ab:=lQ.lt (γ:=γ) (o:=.cells cs g false) ⟨ca,e,fz,hb,F,hf,G,L⟩;have hle:bT.le γ (iM γ s.nl ⟨i.b,i.d+o,cap+i.x - (len+n)⟩):=bT.uU hr.LI;have ad:lQ (iM γ s.nl ⟨i.b,i.d+o,cap+i.x - (len+n)⟩) w' ⟨i.b,i.d+o,cap+i.x - (len+n)⟩ (.cells (old++new) g false):=by
  refine ⟨LN ca (i.d+o+len*g+0) c.toList,e,fz,by simp only;rw [Q];simp [ab],fun k v p=>?_,fun _=>by rw [tZ];exact hf rfl,fun _=>⟨?_,fun k p I=>?_⟩,L⟩
  ·rw [AM _ _ _ _ (by simp only [Array.length_toList];omega)];rw [List.getElem?_append] at p;split at p
   ·rename_i H;simp only;rw [if_neg (by omega)];have ae:cs[o+k]? = some v:=by
     unfold aD at m;rw [U] at m;simp only at m;split at m
     ·obtain rfl:=Option.some.inj m;rw [List.getElem?_take,List.getElem?_drop] at p;split at p
      ·exact p
      ·cases p
     ·cases m
    obtain ⟨R,cv,h2,h3⟩:=F _ v ae;exact ⟨R,cv,by rw [<- h2];congr 1;omega,h3.mono hle⟩
   ·rename_i H;obtain ⟨c',C,hr'⟩:=z.get p;have am:k - old.length<new.length:=by
     rcases Nat.lt_or_ge (k - old.length) new.length with h | h
     ·exact h
     ·simp [List.getElem?_eq_none h] at p
    simp only;rw [if_pos (by simp only [Array.length_toList];omega)];refine ⟨List.all_eq_true.1 D _ (List.mem_of_getElem? p),c',?_,hr'.mono hle⟩;rw [<- C];congr 1;omega
  ·rw [tZ,X,List.length_append,r,K];simp only;rw [Nat.mul_sub_right_distrib];omega
  ·simp only at p I ⊢;rw [tZ] at I;rw [List.length_append,r,K] at p;rw [AM _ _ _ _ (by simp only [Array.length_toList];omega),if_neg (by simp only [Array.length_toList];omega)];rcases Nat.lt_or_ge k (i.d+cs.length) with S | S
   ·obtain ⟨R,cv,h2,h3⟩:=F (k - i.d) _ (List.getElem?_eq_getElem (show k - i.d<cs.length by omega));exact ⟨_,cv,R,by rw [<- h2];congr 1;omega,h3.mono hle⟩
   ·obtain ⟨v,cv,R,h2,h3⟩:=(G J).2 k S I;exact ⟨v,cv,R,h2,h3.mono hle⟩
 obtain ⟨g1,g2⟩:=hr.take U rfl rfl hi (i':=⟨i.b,i.d+o,cap+i.x - (len+n)⟩) rfl Q ad Z;exact ⟨w',O,g1,g2⟩
omit hr in
theorem AP {t xt elem:TypeId} {D:IntKind} {size qR len cap':Nat} {base:Option Addr} {k:Int} {o:Value} (hu:T.cW t=some (.slice elem)) (y:T.cW xt=some (.int D))
  (hs:T.eZ elem=some size) (p:T.HX elem=some qR) (A:∀ w,(zeroValue elem).run P w=.ok o w) (z:o.cells.size=size) (F:0<=k)
  (m:¬ len+k.toNat<=cap') (G:len+k.toNat<=2 ^ 40) (H:2*((len+k.toNat+256)*qR)<=2 ^ 48) (I:TypeId) :
  ∃ wd di,(wd.heap=w.heap/\Env w wd)/\len+k.toNat<=di/\∀ old,(Builtin.firstCells size len (.slice base len cap')).run P wd=.ok old wd ->
   (Builtin.append_ #[t,xt] I #[.slice base len cap',.int .i64 k]).run P w=.ok (.slice (some ⟨w.heap.size,0,none⟩) (len+k.toNat) di)
    { wd with heap:=wd.heap.push (.cells (old++Builtin.zeroCells o.cells k.toNat++Builtin.zeroCells o.cells (di - (len+k.toNat))) elem) }:=by
 have J:(Question.appendCap (len+k.toNat) cap' elem).forced=false:=rfl;refine ⟨{ w with drawn:=w.drawn+1 },(Question.appendCap (len+k.toNat) cap' elem).cut (w.tape w.drawn (Question.appendCap (len+k.toNat) cap' elem)),⟨rfl,rfl,rfl,rfl⟩,Nat.le_add_right _ _,fun old K=>?_⟩;obtain ⟨inf,c,d⟩:=qS hT p w;have b:∀ w,(typeInfo elem).run P w=.ok inf w:=by
  intro w2;obtain ⟨B,b,_⟩:=qS hT p w2;have e1 : (typeInfo elem).run P w = (match P.info? elem with | some i => .ok i w | none => .halt (.stuck "no such type") w) := by
   simp only [typeInfo,Sem.run_bind,run_program,Result.andThen_ok];cases P.info? elem <;> rfl
  have e2 : (typeInfo elem).run P w2 = (match P.info? elem with | some i => .ok i w2 | none => .halt (.stuck "no such type") w2) := by
   simp only [typeInfo,Sem.run_bind,run_program,Result.andThen_ok];cases P.info? elem <;> rfl
  rw [e1] at c;rw [e2];cases hi:P.info? elem with
  | none=>rw [hi] at c;cases c
  | some i=>rw [hi] at c;cases c;rfl
 have r:IntKind.i64.max=9223372036854775807:=rfl;have n:IntKind.i64.wrap k=k:=IntWalk.i64_in k (by omega);have e:¬ (((len+k.toNat:Nat):Int)>IntKind.i64.max/\((true=true)\/inf.bytes=0)):=by
  rw [r];omega
 have j:¬ (Builtin.nextslicecap (len+k.toNat) cap'*inf.bytes>2 ^ 48):=by
  have C:=nextslicecap_le (need:=len+k.toNat) (cap:=cap') (by omega);have h2:Builtin.nextslicecap (len+k.toNat) cap'*inf.bytes<=2*(len+k.toNat+256)*qR:=by rw [d];exact Nat.mul_le_mul_right _ C
  have h3:2*(len+k.toNat+256)*qR=2*((len+k.toNat+256)*qR):=by rw [Nat.mul_assoc]
  omega
 have l:¬ (k*(inf.bytes:Int)>2 ^ 48):=by
  rw [d];have C:k.toNat*qR<=(len+k.toNat+256)*qR:=Nat.mul_le_mul_right _ (by omega);have h2:k*(qR:Int)=((k.toNat*qR:Nat):Int):=by rw [Int.natCast_mul,Int.toNat_of_nonneg F]
  rw [h2];omega
 have x:∀ w,((if k.toNat*size=0 then pure #[] else do pure (Builtin.zeroCells (<- zeroValue elem).cells k.toNat)):Sem (Array Value)).run P w=.ok (Builtin.zeroCells o.cells k.toNat) w:=by
  intro w;split
  ·rename_i h0;have:Builtin.zeroCells o.cells k.toNat=#[]:=Array.eq_empty_of_size_eq_zero (by rw [mO,z];exact h0);rw [this];rfl
  ·simp only [Sem.run_bind,A,Result.andThen_ok,Sem.run_pure]
 simp only [Builtin.append_,List.getElem?_toArray,List.getElem?_cons_zero,List.getElem?_cons_succ,Sem.run_bind,run_underlying hT hu,run_underlying hT y,run_sizeOf hT hs,Result.andThen_ok,Sem.run_pure,asInt,asIntOf,if_true,n,b];rw [if_neg (by omega)];simp only [Sem.run_bind,Sem.run_pure,Result.andThen_ok,b];rw [if_neg l];simp only [Sem.run_bind,Sem.run_pure,Result.andThen_ok,b,if_neg m,Bool.not_true,Bool.false_eq_true,if_false];rw [if_neg (by simpa using e)];simp only [Sem.run_bind,b,Result.andThen_ok,Sem.run_pure];rw [if_neg j];simp only [Sem.run_bind,run_choose,J,Bool.false_eq_true,if_false,Result.andThen_ok,b,run_askRoom,K,x,A,jR,Sem.run_pure]
omit hr in
theorem AQ {t xt elem:TypeId} {r:IntKind} {size qR len cap':Nat} {base:Option Addr} {k:Int} {j:Value} {w':World} (hu:T.cW t=some (.slice elem)) (n:T.cW xt=some (.int r))
  (hs:T.eZ elem=some size) (o:T.HX elem=some qR) (x:∀ w,(zeroValue elem).run P w=.ok j w) (p:j.cells.size=size) (y:0<=k)
  (e:len+k.toNat<=cap') (z:len+k.toNat<=2 ^ 40) (A:2*((len+k.toNat+256)*qR)<=2 ^ 48) (B:TypeId)
  (b:(match base with | some a=>storeCells (a.add (len*size)) (Builtin.zeroCells j.cells k.toNat).toList | none=>pure ():Sem Unit).run P w=.ok () w') :
  (Builtin.append_ #[t,xt] B #[.slice base len cap',.int .i64 k]).run P w=.ok (.slice base (len+k.toNat) cap') w':=by
 obtain ⟨inf,l,c⟩:=qS hT o w;have i:IntKind.i64.wrap k=k:=IntWalk.i64_in k (by omega);have d:¬ (k*(inf.bytes:Int)>2 ^ 48):=by
  rw [c];have C:k.toNat*qR<=(len+k.toNat+256)*qR:=Nat.mul_le_mul_right _ (by omega);have h2:k*(qR:Int)=((k.toNat*qR:Nat):Int):=by rw [Int.natCast_mul,Int.toNat_of_nonneg y]
  rw [h2];omega
 have m:∀ w,((if k.toNat*size=0 then pure #[] else do pure (Builtin.zeroCells (<- zeroValue elem).cells k.toNat)):Sem (Array Value)).run P w=.ok (Builtin.zeroCells j.cells k.toNat) w:=by
  intro w;split
  ·rename_i h0;have:Builtin.zeroCells j.cells k.toNat=#[]:=Array.eq_empty_of_size_eq_zero (by rw [mO,p];exact h0);rw [this];rfl
  ·simp only [Sem.run_bind,x,Result.andThen_ok,Sem.run_pure]
 simp only [Builtin.append_,List.getElem?_toArray,List.getElem?_cons_zero,List.getElem?_cons_succ,Sem.run_bind,run_underlying hT hu,run_underlying hT n,run_sizeOf hT hs,Result.andThen_ok,Sem.run_pure,asInt,asIntOf,if_true,i];rw [if_neg (by omega)];simp only [Sem.run_bind,Sem.run_pure,Result.andThen_ok,l];rw [if_neg d];simp only [Sem.run_bind,Sem.run_pure,Result.andThen_ok,if_pos e,Bool.not_true,Bool.false_eq_true,if_false,m];cases base with
 | none=>simp only at b ⊢;cases b;rfl
 | some a=>simp only at b ⊢;simp [b]
theorem Kb {t xt elem:TypeId} {xk:IntKind} {dst x v:AV} {cd cx:Value} {s':AS} (hu:T.cW t=some (.slice elem)) (H:T.cW xt=some (.int xk)) (hd:ai γ dst cd) (Y:ai γ x cx) (h:tY T elem dst x s=some (v,s')) (R:TypeId) :
  zv P B γ s w (Builtin.append_ #[t,xt] R #[cd,cx]) v s':=by
 unfold tY at h;simp only [Option.bind_eq_some_iff] at h;obtain ⟨size,hs,qR,I,z,hz,zc,Z,h⟩:=h;obtain ⟨rfl,c⟩:=fP Z;split at h
 ·rename_i base len cap k;split at h
  ·cases h
  ·rename_i j;simp only [not_or,Nat.not_lt,Int.not_lt,Decidable.not_not,gt_iff_lt,ne_eq] at j;obtain ⟨S,A,C,ab,ad⟩:=j;simp only [Option.map_eq_some_iff] at h;obtain ⟨old,hold,h⟩:=h;obtain ⟨rfl,rfl⟩:_/\_:=by simpa using h
   obtain ⟨r,D,m,y⟩:∃ r:Value,(∀ w,(zeroValue elem).run P w=.ok r w)/\r.cells.size=size/\au γ z.cells r.cells.toList:=by
    obtain ⟨inf,r,hi,m,F⟩:=hT.sS elem z hz;refine ⟨r,fun w=>by simp [zeroValue,typeInfo,hi,m],?_,(F γ).cells c⟩;have:=((F γ).cells c).length;simp only [Array.length_toList] at this;omega
   simp only [ai] at Y;subst Y;obtain ⟨ca,ae⟩:∃ ca,cd=.slice ca len cap:=by
    cases base with
    | none=>simp only [ai] at hd;exact ⟨none,hd.1⟩
    | some a=>obtain ⟨l,o⟩:=a;simp only [ai] at hd;obtain ⟨i,_,e⟩:=hd;exact ⟨_,by simpa using e⟩
   subst ae;obtain ⟨wd,di,⟨G,J⟩,al,p⟩:=AP hT (w:=w) (base:=ca) (len:=len) (cap':=cap) (k:=k) hu H hs I D m A ad C (by omega) R;have K:Rel B γ s wd:=hr.of_heap G;obtain ⟨co,L,M,O⟩:=ua hT K hd hold;obtain ⟨U,W⟩:=Gi (P:=P) hT hr (elem:=elem) (size:=size) (need:=len+k.toNat) (di:=di) (x:=di - (len+k.toNat)) G J M (jS y k.toNat) O (u0 c _) (by omega) m y c;refine ⟨_,_,_,p co L,?_,W,U⟩;simp only [ai];refine ⟨_,cG _ _ _,?_⟩;simp only [Bool.false_eq_true,if_false];rw [show len+k.toNat+(di - (len+k.toNat))=di by omega]
 ·rename_i l o len cap k;split at h
  ·cases h
  ·rename_i j;simp only [not_or,Nat.not_lt,Int.not_lt,Decidable.not_not,gt_iff_lt,ne_eq] at j;obtain ⟨S,A,C,ab,rfl⟩:=j;obtain ⟨r,D,m,y⟩:∃ r:Value,(∀ w,(zeroValue elem).run P w=.ok r w)/\r.cells.size=size/\au γ z.cells r.cells.toList:=by
    obtain ⟨inf,r,hi,m,F⟩:=hT.sS elem z hz;refine ⟨r,fun w=>by simp [zeroValue,typeInfo,hi,m],?_,(F γ).cells c⟩;have:=((F γ).cells c).length;simp only [Array.length_toList] at this;omega
   simp only [ai] at Y;subst Y;have am:=hd;simp only [ai] at hd;obtain ⟨i,hi,rfl⟩:=hd;split at h
   ·rename_i h0;obtain ⟨rfl,rfl⟩:_/\_:=by simpa using h
    have X:(Builtin.zeroCells r.cells k.toNat).toList=[]:=by
     rw [Array.toList_eq_nil_iff];exact Array.eq_empty_of_size_eq_zero (by rw [mO,h0,Nat.zero_mul])
    have:=AQ hT (w:=w) (w':=w) (base:=some ⟨i.b,i.d+o,none⟩) (len:=len) (cap':=len+i.x) (k:=k) hu H hs I D m A (by omega) C (by omega) R (by simp only [X];rfl);refine zv.val hr this ?_;simp only [ai];exact ⟨i,hi,by rw [h0];rfl⟩
   ·rename_i h0;simp only [Option.bind_eq_some_iff] at h;obtain ⟨old,hold,h⟩:=h;split at h
    ·rename_i cs g hl;split at h
     ·rename_i hg;obtain ⟨rfl,an,ao⟩:=hg;obtain ⟨rfl,rfl⟩:_/\_:=by simpa using h
      have ar:(rep k.toNat z.cells).length=k.toNat*g:=by simp [rep,S]
      by_cases n:len+k.toNat<=len+i.x
      ·have Q:aD s l o (len*g)=some old:=by
        simp only [nZ] at hold;split at hold
        ·rename_i h0;obtain rfl:=Option.some.inj hold;simp only [aD,hl,h0,Nat.zero_mul,Nat.add_zero,List.take_zero];rw [if_pos (by omega)]
        ·exact hold
       obtain ⟨w',p,U,W⟩:=wV hT hr hl hi an ao ar (jS y k.toNat) (u0 c _) Q (by omega) n;refine ⟨_,w',_,AQ hT (base:=some ⟨i.b,i.d+o,none⟩) hu H hs I D m A n C (by omega) R (by simp only [i_];exact p),?_,W,U⟩;simp only [ai];refine ⟨_,cG _ _ _,?_⟩;simp only [Bool.false_eq_true,if_false,Nat.add_zero];rw [show len+k.toNat+(len+i.x - (len+k.toNat))=len+i.x by omega]
      ·obtain ⟨k1,k2⟩:=hr.kill l;obtain ⟨wd,di,⟨G,J⟩,al,p⟩:=AP hT (w:=w) (base:=some ⟨i.b,i.d+o,none⟩) (len:=len) (cap':=len+i.x) (k:=k) hu H hs I D m A n C (by omega) R;have K:Rel B γ s wd:=hr.of_heap G;obtain ⟨co,L,M,O⟩:=ua hT K am hold;obtain ⟨U,W⟩:=Gi (P:=P) hT k1 (elem:=elem) (size:=g) (need:=len+k.toNat) (di:=di) (x:=di - (len+k.toNat)) G J M (jS y k.toNat) O (u0 c _) (by omega) m y c;refine ⟨_,_,_,p co L,?_,k2.trans W,U⟩;simp only [ai];refine ⟨_,cG _ _ _,?_⟩;simp only [Bool.false_eq_true,if_false];rw [show len+k.toNat+(di - (len+k.toNat))=di by omega]
     ·cases h
    ·cases h
 ·cases h
theorem LU {t xt:TypeId} {dst x v:AV} {cd X:Value} {s':AS} (hd:ai γ dst cd) (U:ai γ x X) (h:aG T t xt dst x s=some (v,s')) (F:TypeId) :
  zv P B γ s w (Builtin.append_ #[t,xt] F #[cd,X]) v s':=by
 unfold aG at h;split at h
 ·rename_i elem xd hu r;split at h
  ·rename_i hint;simp only [if_true] at h;exact Kb hT hr hu r hd U h F
  ·rename_i hint;simp only [Bool.false_eq_true,if_false,Option.bind_eq_some_iff] at h;obtain ⟨size,hs,qR,Y,z,hz,zc,Z,n,hn,new,G,h⟩:=h;obtain ⟨c,W,I,H⟩:=ua hT hr U G;have y:=Gh (P:=P) (w:=w) U hn;obtain ⟨rfl,p⟩:=fP Z;have k:Oj xd=false:=by cases xd <;> first | rfl | exact (hint _ rfl).elim
   split at h
   ·rename_i base len cap ex;split at h
    ·cases h
    ·rename_i A;simp only [not_or,Nat.not_lt,Decidable.not_not,gt_iff_lt,ne_eq] at A;obtain ⟨a7,ab,a8,a9⟩:=A;obtain ⟨L,ad,J,ae⟩:∃ L:Value,(∀ w,(zeroValue elem).run P w=.ok L w)/\L.cells.size=size/\au γ z.cells L.cells.toList:=by
      obtain ⟨inf,L,hi,J,M⟩:=hT.sS elem z hz;refine ⟨L,fun w=>by simp [zeroValue,typeInfo,hi,J],?_,(M γ).cells p⟩;have:=((M γ).cells p).length;simp only [Array.length_toList] at this;omega
     have grow:∀ (cap':Nat) (ca:Option Addr) (old:List AV) (s1:AS),(∀ l o,s1.h l=some o->s.h l=some o)->s1.nl=s.nl->Rel B γ s1 w->gq B γ s w γ s1 w->ai γ (.slc base len cap ex) (.slice ca len cap') ->
       nZ size len s (.slc base len cap ex)=some old->¬ len+n<=cap' ->
       zv P B γ s w (Builtin.append_ #[t,xt] F #[.slice ca len cap',X]) (.slc (some (s.nl,0)) (len+n) (len+n) false) (s1.new (.cells (old++new) size false)):=by
      intro cap' ca old s1 a6 al am an hv hold b;obtain ⟨wd,di,⟨O,ao⟩,a',m⟩:=LS hT (w:=w) (base:=ca) hu r k hs Y y ad b (by omega) (by omega) F;have Q:Rel B γ s wd:=hr.of_heap O;obtain ⟨co,ar,aw,a0⟩:=ua hT Q hv hold;obtain ⟨cn,a1,a2,a3⟩:=ua hT Q U G;obtain ⟨g1,g2⟩:=Gi (P:=P) hT am (elem:=elem) (size:=size) (need:=len+n) (di:=di) (x:=di - (len+n)) O ao aw a2 a0 a3 (by omega) J ae p;refine ⟨_,_,_,m co cn ar a1,?_,an.trans g2,g1⟩;simp only [ai];refine ⟨_,by rw [<- al];exact cG _ _ _,?_⟩;simp only [Bool.false_eq_true,if_false];rw [show len+n+(di - (len+n))=di by omega]
     cases base with
     | none =>
      simp only [ai] at hd;obtain ⟨rfl,rfl⟩:=hd;split at h
      ·rename_i b;obtain ⟨rfl,rfl⟩:_/\_:=by simpa using h
       exact zv.val hr (sn hT hu r k hs y W b F rfl) (by simp [ai])
      ·rename_i b;simp only [Option.bind_eq_some_iff,if_true] at h;obtain ⟨old,hold,h⟩:=h;obtain ⟨rfl,rfl⟩:_/\_:=by simpa using h
       exact grow cap none old s (fun _ _ h=>h) rfl hr gq.refl (by simp [ai]) hold b
     | some bo =>
      obtain ⟨l,o⟩:=bo;have C:=hd;simp only [ai] at hd;obtain ⟨i,hi,rfl⟩:=hd;split at h
      ·rename_i b;have d:len+n<=(if ex then cap else cap+i.x):=by split <;> omega
       simp only at h;split at h
       ·rename_i h0;obtain ⟨rfl,rfl⟩:_/\_:=by simpa using h
        subst h0;have R:c.toList=[]:=au.iL.1 I;exact zv.val hr (sn hT hu r k hs y W d F (w':=w) (by simp [R,storeCells])) (by simp only [ai];exact ⟨i,hi,rfl⟩)
       ·simp only [Option.map_eq_some_iff] at h;obtain ⟨s'',hw,e⟩:=h;obtain ⟨rfl,rfl⟩:_/\_:=by simpa using e
        obtain ⟨j,w',hj,m,S,hr'⟩:=Fy hT hr hw I H;rw [hi] at hj;obtain rfl:=Option.some.inj hj;exact ⟨γ,w',_,sn hT hu r k hs y W d F (by simp only [i_];rw [Nat.add_assoc];exact m),by simp only [ai];exact ⟨i,hi,rfl⟩,S,hr'⟩
      ·rename_i b;simp only [Option.bind_eq_some_iff] at h;obtain ⟨old,hold,h⟩:=h;cases ex with
       | true =>
        simp only [if_true] at h C ⊢;obtain ⟨rfl,rfl⟩:_/\_:=by simpa using h
        exact grow cap _ old s (fun _ _ h=>h) rfl hr gq.refl C hold b
       | false =>
        simp only [Bool.false_eq_true,if_false] at h C ⊢;split at h
        ·rename_i cs g hl;split at h
         ·rename_i hg;obtain ⟨rfl,a4,a5⟩:=hg;obtain ⟨rfl,rfl⟩:_/\_:=by simpa using h
          by_cases d:len+n<=cap+i.x
          ·
           have K:aD s l o (len*g)=some old:=by
            simp only [nZ] at hold;split at hold
            ·rename_i h0;obtain rfl:=Option.some.inj hold;simp only [aD,hl,h0,Nat.zero_mul,Nat.add_zero,List.take_zero];rw [if_pos (by omega)]
            ·exact hold
           obtain ⟨w',m,g1,g2⟩:=wV hT hr hl hi a4 a5 ab I H K b d;refine ⟨_,w',_,sn hT hu r k hs y W d F (by simp only [i_];exact m),?_,g2,g1⟩;simp only [ai];refine ⟨_,cG _ _ _,?_⟩;simp only [Bool.false_eq_true,if_false,Nat.add_zero];rw [show len+n+(cap+i.x - (len+n))=cap+i.x by omega]
          ·obtain ⟨k1,k2⟩:=hr.kill l;refine grow (cap+i.x) _ old (s.kill l) ?_ rfl k1 k2 C hold d;intro l' o' D;rw [AS.sR] at D;split at D
           ·cases D
           ·exact D
         ·cases h
        ·cases h
   ·cases h
 ·cases h
end
end
section
theorem bW.fo {γ:bT}:∀ {es:List (AV×AV×Nat)} {cs:List MapEntry},bW γ es cs↔es.length=cs.length/\∀ (i:Nat) k v n c,es[i]? = some (k,v,n)->cs[i]? = some c->ai γ k c.key/\ai γ v c.val/\c.born=n
 | [],cs=>by
  constructor
  ·intro h;obtain rfl:cs=[]:=h;simp
  ·intro ⟨h,_⟩;simp at h;exact List.length_eq_zero_iff.1 h.symm
 | (k,v,n)::es,cs=>by
  constructor
  ·intro h;obtain ⟨d,ds,rfl,o,h2,h3,hs⟩:=h;obtain ⟨j,l⟩:=bW.fo.1 hs;refine ⟨by simp [j],fun i a b m c e hb=>?_⟩;cases i with
   | zero=>simp at e hb;obtain ⟨rfl,rfl,rfl⟩:=e;subst hb;exact ⟨o,h2,h3⟩
   | succ i=>simp at e hb;exact l i a b m c e hb
  ·intro ⟨j,l⟩;cases cs with
   | nil=>simp at j
   | cons d ds =>
    obtain ⟨o,h2,h3⟩:=l 0 k v n d rfl rfl;exact ⟨d,ds,rfl,o,h2,h3,bW.fo.2 ⟨by simpa using j,fun i a b m c e hb=>l (i+1) a b m c (by simpa using e) (by simpa using hb)⟩⟩
theorem bW.length {γ:bT} {es:List (AV×AV×Nat)} {cs:List MapEntry} (h:bW γ es cs):es.length=cs.length:=(bW.fo.1 h).1
theorem bW.append {γ:bT}:∀ {es fs:List (AV×AV×Nat)} {cs ds:List MapEntry},bW γ es cs->bW γ fs ds->bW γ (es++fs) (cs++ds)
 | [],fs,cs,ds,h,b=>by obtain rfl:cs=[]:=h;exact b
 | (k,v,n)::es,fs,cs,ds,h,b=>by
  obtain ⟨d,es',rfl,c,h2,h3,hs⟩:=h;exact ⟨d,es'++ds,rfl,c,h2,h3,bW.append hs b⟩
theorem bW.set {γ:bT} {es:List (AV×AV×Nat)} {cs:List MapEntry} (h:bW γ es cs) (i:Nat) {k v:AV} {n:Nat} {e:MapEntry} (l:ai γ k e.key) (hv:ai γ v e.val) (o:e.born=n) :
  bW γ (es.set i (k,v,n)) (cs.set i e):=by
 obtain ⟨p,r⟩:=bW.fo.1 h;refine bW.fo.2 ⟨by simp [p],fun j a b m c d hb=>?_⟩;rw [List.getElem?_set] at d hb;by_cases hj:i=j
 ·subst hj;simp at d hb;obtain ⟨_,rfl,rfl,rfl⟩:=d;obtain ⟨_,rfl⟩:=hb;exact ⟨l,hv,o⟩
 ·simp [hj] at d hb;exact r j a b m c d hb
theorem bW.erase {γ:bT}:∀ {es:List (AV×AV×Nat)} {cs:List MapEntry},bW γ es cs->∀ i,bW γ (es.eraseIdx i) (cs.eraseIdx i)
 | [],cs,h,i=>by obtain rfl:cs=[]:=h;simp [bW]
 | (k,v,n)::es,cs,h,i=>by
  obtain ⟨d,ds,rfl,b,h2,h3,hs⟩:=h;cases i with
  | zero=>simpa using hs
  | succ i=>simp only [List.eraseIdx_cons_succ];exact ⟨d,_,rfl,b,h2,h3,bW.erase hs i⟩
theorem bW.get {γ:bT} {es:List (AV×AV×Nat)} {cs:List MapEntry} (h:bW γ es cs) {i:Nat} {k v:AV} {n:Nat} (b:es[i]? = some (k,v,n)):∃ c,cs[i]? = some c/\ai γ k c.key/\ai γ v c.val/\c.born=n:=by
 obtain ⟨j,e⟩:=bW.fo.1 h;have hi:i<es.length:=by
  rcases Nat.lt_or_ge i es.length with h | h
  ·exact h
  ·simp [List.getElem?_eq_none h] at b
 have d:=List.getElem?_eq_getElem (show i<cs.length by omega);exact ⟨_,d,e i k v n _ b d⟩
theorem Sy (a b:List UInt8):((⟨a.toArray⟩:ByteArray)==⟨b.toArray⟩)=(a==b):=by show (a.toArray==b.toArray)=(a==b);rw [Bool.eq_iff_iff];simp
def XY (γ:bT) (r:Option (Nat×AV)) (b:Option (Nat×Value)):Prop :=
 match r with
 | none=>b=none
 | some (j,v)=>∃ cv,b=some (j,cv)/\ai γ v cv
theorem Q2 {γ:bT}:∀ (n:Nat) (x y:AV),wQ n x y=true->∀ j cy,ai γ x j->ai γ y cy->∀ N,n<=N->Instr.sameBits N j cy=true:=by
 intro n
 induction n with
 | zero =>
  intro x y h j cy c e N _;cases x <;> cases y <;> simp only [wQ] at h <;> (first | (cases h;done) | (simp only [ai] at c e;subst c e))
  ·cases N <;> simpa [Instr.sameBits] using h
  ·cases N <;> simpa [Instr.sameBits] using h
  ·rename_i a b;have:((ByteArray.mk a.toArray)==⟨b.toArray⟩)=true:=by rw [Sy];exact h
   cases N <;> simpa [Instr.sameBits] using this
 | succ n z =>
  intro x y h j cy c e N C;obtain ⟨N,rfl⟩:∃ A,N=A+1:=⟨N - 1,by omega⟩;cases x <;> cases y <;> simp only [wQ] at h <;> (first | (cases h;done) | skip)
  ·simp only [ai] at c e;subst c e;simpa [Instr.sameBits] using h
  ·simp only [ai] at c e;subst c e;simpa [Instr.sameBits] using h
  ·rename_i a b;simp only [ai] at c e;subst c e;have:((ByteArray.mk a.toArray)==⟨b.toArray⟩)=true:=by rw [Sy];exact h
   simpa [Instr.sameBits] using this
  ·rename_i a b;simp only [ai] at c e;obtain ⟨ca,rfl,B⟩:=c;obtain ⟨cb,rfl,hb⟩:=e;have key:∀ (a b:List AV) (ca cb:List Value),AL (wQ n) a b=true->au γ a ca->au γ b cb->ca.length=cb.length/\((ca.zip cb).all fun p=>Instr.sameBits N p.1 p.2)=true:=by
    intro a
    induction a with
    | nil =>
     intro b ca cb i h2 h3;cases b with
     | nil=>obtain rfl:=au.iL.1 h2;obtain rfl:=au.iL.1 h3;simp
     | cons _ _=>simp [AL] at i
    | cons x xs k =>
     intro b ca cb i h2 h3;cases b with
     | nil=>simp [AL] at i
     | cons y ys =>
      simp only [AL,Bool.and_eq_true] at i;obtain ⟨d,ds,rfl,hd,l⟩:=au.cN.1 h2;obtain ⟨f,fs,rfl,hf,m⟩:=au.cN.1 h3;obtain ⟨o,r⟩:=k ys ds fs i.2 l m;have:=z x y i.1 d f hd hf N (by omega);exact ⟨by simp [o],by simp only [List.zip_cons_cons,List.all_cons,this,r,Bool.and_self]⟩
   obtain ⟨o,r⟩:=key a b _ _ h B hb;have w:ca.size=cb.size:=by simpa using o
   simp only [Instr.sameBits,Bool.and_eq_true,beq_iff_eq];exact ⟨w,r⟩
section
variable {P:Program} {T:TT} (hT:TT.Ok P T) {γ:bT} {w:World}
include hT
theorem u5 (empty:Bool):∀ (d:Nat) (t:TypeId) (v:AV),n_ T d t v=true->∀ cv,ai γ v cv->∀ D,d<=D->(Instr.checkKey empty D t cv).run P w=.ok () w:=by
 intro d
 induction d with
 | zero=>intro t v h;simp [n_] at h
 | succ d r =>
  intro t v h cv hv D y;obtain ⟨D,rfl⟩:∃ x,D=x+1:=⟨D - 1,by omega⟩;unfold n_ at h;cases hu:T.cW t with
  | none=>simp [hu] at h
  | some td =>
   simp only [hu] at h;simp only [Instr.checkKey,Sem.run_bind,run_underlying hT hu,Result.andThen_ok];cases td with
   | interface z=>cases v <;> simp at h
   | array len elem =>
    cases v <;> simp only at h <;> first | (cases h;done) | skip
    rename_i cs;simp only [ai] at hv;obtain ⟨l,rfl,e⟩:=hv;cases hs:T.eZ elem with
    | none=>simp [hs] at h
    | some n =>
     simp only [hs] at h;simp only [Std.Legacy.Range.forIn_eq_forIn_range',Std.Legacy.Range.size,Nat.sub_zero,Nat.add_one_sub_one,Nat.div_one];generalize 0=i0 at h ⊢;clear hu
     induction len generalizing i0 with
     | zero=>simp
     | succ len m =>
      simp only [FY,Bool.and_eq_true] at h;obtain ⟨c,h2⟩:=h;cases i:part T elem cs (i0*n) with
      | none=>simp [i] at c
      | some a =>
       simp only [i] at c;obtain ⟨ca,j,k⟩:=pe hT e i w;have b:=r _ _ c _ k D (by omega);have:=m _ h2;simp only [List.range'_succ,List.forIn_cons,Sem.run_bind,run_sizeOf hT hs,j,b,Result.andThen_ok,Sem.run_pure] at this ⊢;simpa using this
   | struct fields =>
    cases v <;> simp only at h <;> first | (cases h;done) | skip
    rename_i cs;simp only [ai] at hv;obtain ⟨l,rfl,e⟩:=hv;simp only [<- Array.forIn_toList];clear hu;generalize fields.toList=fs at h ⊢
    induction fs with
    | nil=>simp
    | cons f fs o =>
     simp only [CH,Bool.and_eq_true] at h;obtain ⟨c,h2⟩:=h;have:=o h2;by_cases p : f.name ≠ "_"
     ·simp only [if_pos p] at c;cases i:part T f.type cs f.offset with
      | none=>simp [i] at c
      | some a =>
       simp only [i] at c;obtain ⟨ca,j,k⟩:=pe hT e i w;have b:=r _ _ c _ k D (by omega);simp only [List.forIn_cons,Sem.run_bind,if_pos p,j,b,Result.andThen_ok,Sem.run_pure] at this ⊢;simpa using this
     ·simp only [List.forIn_cons,Sem.run_bind,if_neg p,Result.andThen_ok,Sem.run_pure] at this ⊢;simpa using this
   | _=>rfl
theorem Q3 {kt:TypeId} {k:AV} {x:Value} (y:ai γ k x):∀ (es:List (AV×AV×Nat)) (cs:List MapEntry) (i:Nat) (r:Option (Nat×AV)),bW γ es cs->wP T kt k es i=some r ->
  ∃ m,(Instr.findAsking kt x cs i).run P w=.ok m w/\XY γ r m/\(∀ j v,r=some (j,v)->i<=j/\∃ k' n,es[j - i]? = some (k',v,n)):=by
 intro es
 induction es with
 | nil =>
  intro cs i r h hf;obtain rfl:cs=[]:=h;simp only [wP] at hf;obtain rfl:=Option.some.inj hf;exact ⟨none,rfl,rfl,by simp⟩
 | cons e es A =>
  obtain ⟨k',v,n⟩:=e;intro cs i r h hf;obtain ⟨c,cs',rfl,z,h2,h3,hs⟩:=h;simp only [wP] at hf;split at hf
  ·rename_i o;obtain rfl:=Option.some.inj hf;have:=FA hT w _ _ _ _ _ o _ _ y z Op.maxDepth (by decide);refine ⟨some (i,c.val),by simp [Instr.findAsking,Op.equal,this],⟨_,rfl,h2⟩,?_⟩;intro j v' e;obtain ⟨rfl,rfl⟩:_/\_:=by simpa using e
   exact ⟨Nat.le_refl _,k',n,by simp⟩
  ·rename_i o;have b:=FA hT w _ _ _ _ _ o _ _ y z Op.maxDepth (by decide);obtain ⟨m,p,d,l⟩:=A cs' (i+1) r hs hf;refine ⟨m,by simp [Instr.findAsking,Op.equal,b,p],d,?_⟩;intro j v' e;obtain ⟨hle,k2,n2,B⟩:=l j v' e;refine ⟨by omega,k2,n2,?_⟩;rw [show j - i=(j - (i+1))+1 by omega];simpa using B
  ·cases hf
theorem DY {kt:TypeId} {td:TypeDesc} (hu:T.cW kt=some td) (d:Value):∀ (cs:List MapEntry) (i:Nat) (r:Option (Nat×Value)),Instr.findNow td d cs i=some r->(Instr.findAsking kt d cs i).run P w=.ok r w
 | [],i,r,h=>by simp only [Instr.findNow] at h;obtain rfl:=Option.some.inj h;rfl
 | c::cs,i,r,h=>by
  simp only [Instr.findNow] at h;have hs:∀ b,Instr.sameNow td d c.key=some b->(Op.equal kt d c.key).run P w=.ok b w:=by
   intro b hb;unfold Instr.sameNow at hb;obtain ⟨D,j⟩:∃ D,Op.maxDepth=D+1:=⟨9999,rfl⟩;rw [Op.equal,j];split at hb
   ·split at hb
    ·rename_i k a k' l _ _ m;obtain rfl:=Option.some.inj hb;simp only [Op.equalIn,Sem.run_bind,run_underlying hT hu,Result.andThen_ok, *];simp
    ·cases hb
   ·obtain rfl:=Option.some.inj hb;simp only [Op.equalIn,Sem.run_bind,run_underlying hT hu,Result.andThen_ok, *];rfl
   ·obtain rfl:=Option.some.inj hb;simp only [Op.equalIn,Sem.run_bind,run_underlying hT hu,Result.andThen_ok, *];rfl
   ·cases hb
  split at h
  ·rename_i e;obtain rfl:=Option.some.inj h;simp [Instr.findAsking,hs true e]
  ·rename_i e;simp [Instr.findAsking,hs false e,DY hu d cs (i+1) r h]
  ·cases h
theorem wW {kt:TypeId} {td:TypeDesc} (hu:T.cW kt=some td) {k:AV} {b:Value} (i:ai γ k b) {es:List (AV×AV×Nat)} {cs:List MapEntry} {r:Option (Nat×AV)} (h:bW γ es cs) (hf:wP T kt k es 0=some r) :
  ∃ c,(Instr.findKey kt b cs).run P w=.ok c w/\XY γ r c/\(∀ j v,r=some (j,v)->∃ k' n,es[j]? = some (k',v,n)):=by
 obtain ⟨c,d,h2,h3⟩:=Q3 hT (w:=w) i es cs 0 r h hf;refine ⟨c,?_,h2,fun j v e=>by obtain ⟨_,k',n,l⟩:=h3 j v e;exact ⟨k',n,by simpa using l⟩⟩;simp only [Instr.findKey,Sem.run_bind,run_underlying hT hu,Result.andThen_ok];cases m:Instr.findNow td b cs 0 with
 | none=>exact d
 | some o =>
  have:=DY hT (w:=w) hu b cs 0 o m;rw [d] at this;cases this;rfl
theorem LV {B:Nat} {s:AS} (hr:Rel B γ s w) {t:TypeId} {m k v:AV} {M L:Value} {ok:Bool} (hm:ai γ m M) (Y:ai γ k L) (h:dA T t m k ok s=some v) :
  ∃ c,(Instr.lookup t M L ok).run P w=.ok c w/\ai γ v c:=by
 unfold dA at h;split at h
 ·rename_i kt et r hu;split at h
  ·rename_i G;simp only [Option.bind_eq_some_iff,Option.map_eq_some_iff] at h;obtain ⟨es,p,fr,S,⟨u,b⟩,H,rfl⟩:=h;obtain ⟨td,O⟩:∃ td,T.cW kt=some td:=by
    unfold n_ at G;cases hq:T.cW kt with
    | none=>simp [hq] at G
    | some td=>exact ⟨td,rfl⟩
   have main:∀ (o:Array MapEntry),bW γ es o.toList->((M=.map none/\o=#[])\/∃ b A,M=.map (some b)/\w.heap[b]? = some (.map o A)) ->
     ∃ c,(Instr.lookup t M L ok).run P w=.ok c w/\ai γ (if ok then .aQ [u,.bool b] else u) c:=by
    intro o I J;obtain ⟨R,K,C,_⟩:=wW hT (w:=w) O Y I S;have x:=u5 hT (w:=w) o.isEmpty 100 kt k G L Y 10000 (by decide);have D:(∃ n,R=none/\b=false/\(zeroValue et).run P w=.ok n w/\ai γ u n)\/(∃ j n,R=some (j,n)/\b=true/\ai γ u n):=by
     cases fr with
     | none =>
      obtain rfl:R=none:=C;simp only [Option.map_eq_some_iff] at H;obtain ⟨z,Q,e⟩:=H;obtain ⟨rfl,rfl⟩:_/\_:=by simpa using e
      obtain ⟨cz,U,W⟩:=jl hT Q w;exact .inl ⟨cz,rfl,rfl,U,W γ⟩
     | some jv =>
      obtain ⟨j,v'⟩:=jv;obtain ⟨cv,rfl,X⟩:=C;obtain ⟨rfl,rfl⟩:_/\_:=by simpa using H
      exact .inr ⟨j,cv,rfl,rfl,X⟩
    have fin:∀ n,ai γ u n->ai γ (if ok then .aQ [u,.bool b] else u) (if ok then .tuple #[n,.bool b] else n):=by
     intro n d;cases ok
     ·exact d
     ·simp only [if_true,ai];exact ⟨_,rfl,au.cons d (au.cons (by simp [ai]) au.nil)⟩
    rcases J with ⟨rfl,rfl⟩ | ⟨bk,A,rfl,hb⟩
    ·have y:(Instr.checkKey true 10000 kt L).run P w=.ok () w:=x;have F:(Instr.findKey kt L []).run P w=.ok R w:=K;rcases D with ⟨n,rfl,rfl,Q,d⟩ | ⟨j,n,rfl,rfl,d⟩
     ·exact ⟨_,by simp [Instr.lookup,run_underlying hT hu,y,F,Q],fin n d⟩
     ·exact ⟨_,by simp [Instr.lookup,run_underlying hT hu,y,F],fin n d⟩
    ·have Z:(getObj bk).run P w=.ok (.map o A) w:=by simp [getObj,Sem.run,hb]
     rcases D with ⟨n,rfl,rfl,Q,d⟩ | ⟨j,n,rfl,rfl,d⟩
     ·exact ⟨_,by simp [Instr.lookup,run_underlying hT hu,Z,x,K,Q],fin n d⟩
     ·exact ⟨_,by simp [Instr.lookup,run_underlying hT hu,Z,x,K],fin n d⟩
   cases r with
   | none =>
    simp only [ai] at hm;subst hm;obtain rfl:=Option.some.inj p;exact main #[] rfl (.inl ⟨rfl,rfl⟩)
   | some l =>
    simp only [ai] at hm;obtain ⟨i,hi,rfl⟩:=hm;simp only at p;split at p
    ·rename_i es' A ro hl;obtain rfl:=Option.some.inj p;obtain ⟨j,hj,⟨o,hb,I⟩,_⟩:=hr.obj l _ hl;rw [hi] at hj;obtain rfl:=Option.some.inj hj;exact main o I (.inr ⟨_,_,rfl,hb⟩)
    ·cases p
  ·cases h
 ·cases h
theorem u6 {b:Nat} {c:Array MapEntry} {d:Nat} {o:Obj} (hb:w.heap[b]? = some (.map c d)):(setObj b o).run P w=.ok () { w with heap:=w.heap.setIfInBounds b o }:=by
 simp [setObj,Sem.run,hb]
theorem yC {B:Nat} {s:AS} (hr:Rel B γ s w) {l:Nat} {es es':List (AV×AV×Nat)} {c HZ:Nat} {i:CI} {Kc:Array MapEntry} (e:s.h l=some (.map es c false)) (hi:γ l=some i) (k:bW γ es' Kc.toList) :
  gq B γ s w γ (s.put l (.map es' HZ false)) { w with heap:=w.heap.setIfInBounds i.b (.map Kc HZ) }/\Rel B γ (s.put l (.map es' HZ false)) { w with heap:=w.heap.setIfInBounds i.b (.map Kc HZ) }:=by
 obtain ⟨j,hj,m,_⟩:=hr.obj l _ e;rw [hi] at hj;obtain rfl:=Option.some.inj hj;have d:=m.lt;obtain ⟨n,h2⟩:=hr.write (w':={ w with heap:=w.heap.setIfInBounds i.b (.map Kc HZ) }) e rfl (o':=.map es' HZ false) rfl hi rfl ⟨Kc,by simp [d],k⟩;exact ⟨h2,n⟩
theorem wX {B:Nat} {s s':AS} (hr:Rel B γ s w) {t:TypeId} {m k v:AV} {Y p cv:Value} (hm:ai γ m Y) (F:ai γ k p) (hv:ai γ v cv) (h:dG T t m k v s=some s') :
  Ww P B γ s w (Instr.mapUpdate t Y p cv) s':=by
 unfold dG at h;split at h
 ·rename_i kt et l hu;simp only [ai] at hm;obtain ⟨i,hi,rfl⟩:=hm;split at h
  ·rename_i es o O;obtain ⟨j,hj,⟨d,hb,r⟩,_⟩:=hr.obj l _ O;rw [hi] at hj;obtain rfl:=Option.some.inj hj;split at h
   ·rename_i z;simp only [Option.bind_eq_some_iff] at h;obtain ⟨fr,Q,h⟩:=h;obtain ⟨td,G⟩:∃ td,T.cW kt=some td:=by
     unfold n_ at z;cases hq:T.cW kt with
     | none=>simp [hq] at z
     | some td=>exact ⟨td,rfl⟩
    obtain ⟨cr,H,x,I⟩:=wW hT (w:=w) G F r Q;have y:=u5 hT (w:=w) false 100 kt k z p F 10000 (by decide);have Z:(getObj i.b).run P w=.ok (.map d o) w:=by simp [getObj,Sem.run,hb]
    cases fr with
    | none =>
     obtain rfl:cr=none:=x;simp only at h;obtain rfl:=Option.some.inj h;obtain ⟨R,S⟩:=yC hT hr (HZ:=o+1) (es':=es++[(k,v,o)]) (Kc:=d.push { key:=p,val:=cv,born:=o }) O hi (by rw [Array.toList_push];exact r.append ⟨_,_,rfl,F,hv,rfl,rfl⟩);exact ⟨γ,_,by simp [Instr.mapUpdate,run_underlying hT hu,Z,y,H,u6 hT hb],R,S⟩
    | some jv =>
     obtain ⟨j,v'⟩:=jv;obtain ⟨ad,rfl,ab⟩:=x;obtain ⟨k',n,J⟩:=I j v' rfl;simp only [J] at h;split at h
     ·rename_i A;obtain rfl:=Option.some.inj h;obtain ⟨c,hc,U,ae,W⟩:=r.get J;have K:d[j]? = some c:=by simpa using hc
      have C:=Q2 100 k' k A _ _ U F 10000 (by decide);have D:(Instr.keyThatStays (((d[j]?).map (·.key)).getD p) p).run P w=.ok p w:=by
       rw [K];simp only [Option.map_some,Option.getD_some,Instr.keyThatStays,C,if_true];rfl
      have L:(d.modify j fun e=>{ e with key:=p,val:=cv }).toList=d.toList.set j { key:=p,val:=cv,born:=c.born }:=by
       apply List.ext_getElem?;intro q;rw [Array.getElem?_toList,Array.getElem?_modify,List.getElem?_set];have X:j<d.toList.length:=by
        rcases Nat.lt_or_ge j d.toList.length with h | h
        ·exact h
        ·simp [List.getElem?_eq_none h] at hc
       by_cases M:j=q
       ·subst M;simp only [if_true,if_pos X,K,Option.map_some]
       ·simp only [if_neg M];simp
      obtain ⟨R,S⟩:=yC hT hr (HZ:=o) (es':=es.set j (k,v,n)) (Kc:=d.modify j fun e=>{ e with key:=p,val:=cv }) O hi (by rw [L];exact r.set j F hv W);exact ⟨γ,_,by simp [Instr.mapUpdate,run_underlying hT hu,Z,y,H,D,u6 hT hb],R,S⟩
     ·cases h
   ·cases h
  ·cases h
 ·cases h
theorem LW {B:Nat} {s s':AS} (hr:Rel B γ s w) {t xt:TypeId} {m k:AV} {H z:Value} (hm:ai γ m H) (A:ai γ k z) (h:mM T t m k s=some s') (L:TypeId) :
  ∃ γ' w',(Builtin.delete_ #[t,xt] L #[H,z]).run P w=.ok undef w'/\gq B γ s w γ' s' w'/\Rel B γ' s' w':=by
 unfold mM at h;split at h
 ·rename_i kt et r hu;split at h
  ·rename_i e;obtain ⟨td,x⟩:∃ td,T.cW kt=some td:=by
    unfold n_ at e;cases M:T.cW kt with
    | none=>simp [M] at e
    | some td=>exact ⟨td,rfl⟩
   cases r with
   | none =>
    simp only [ai] at hm;subst hm;obtain rfl:=Option.some.inj h;have c:=u5 hT (w:=w) true 100 kt k e z A 10000 (by decide);exact ⟨γ,w,by simp [Builtin.delete_,run_underlying hT hu,c];rfl,gq.refl,hr⟩
   | some l =>
    simp only [ai] at hm;obtain ⟨i,hi,rfl⟩:=hm;simp only at h;split at h
    ·rename_i es o C;obtain ⟨j,hj,⟨d,hb,p⟩,_⟩:=hr.obj l _ C;rw [hi] at hj;obtain rfl:=Option.some.inj hj;simp only [Option.map_eq_some_iff] at h;obtain ⟨O,D,rfl⟩:=h;obtain ⟨Q,y,n,I⟩:=wW hT (w:=w) x A p D;have c:=u5 hT (w:=w) d.isEmpty 100 kt k e z A 10000 (by decide);have J:(getObj i.b).run P w=.ok (.map d o) w:=by simp [getObj,Sem.run,hb]
     cases O with
     | none =>
      obtain rfl:Q=none:=n;obtain ⟨F,G⟩:=yC hT hr (HZ:=o) (es':=es) (Kc:=d) C hi p;exact ⟨γ,_,by simp [Builtin.delete_,run_underlying hT hu,J,c,y,u6 hT hb];rfl,F,G⟩
     | some R =>
      obtain ⟨j,v'⟩:=R;obtain ⟨S,rfl,K⟩:=n;have U:(d.eraseIdxIfInBounds j).toList=d.toList.eraseIdx j:=by simp
      obtain ⟨F,G⟩:=yC hT hr (HZ:=o) (es':=es.eraseIdx j) (Kc:=d.eraseIdxIfInBounds j) C hi (by rw [U];exact p.erase j);exact ⟨γ,_,by simp [Builtin.delete_,run_underlying hT hu,J,c,y,u6 hT hb];rfl,F,G⟩
    ·cases h
  ·cases h
 ·cases h
end
end
section
theorem wY {P:Program} {γ:bT} {w:World} {f:Value->ByteArray->Sem (ForInStep ByteArray)} (hf:∀ n s,f (.int .u8 n) s=pure (ForInStep.yield (s.push (UInt8.ofNat n.toNat)))) :
  ∀ (cs:List AV) (i:List Value) (bs:List UInt8) (acc:ByteArray),au γ cs i->zq cs=some bs->(forIn i acc f).run P w=.ok ⟨(acc.data.toList++bs).toArray⟩ w
 | [],i,bs,acc,h,hb=>by
  obtain rfl:=au.iL.1 h;simp only [zq] at hb;obtain rfl:=Option.some.inj hb;simp
 | c::cs,i,bs,acc,h,hb=>by
  obtain ⟨d,ds,rfl,hd,hs⟩:=au.cN.1 h;unfold zq at hb;split at hb
  ·cases ‹_::_=[]›
  ·rename_i b cs' e;obtain ⟨rfl,rfl⟩:_/\_:=by simpa using e
   simp only [Option.map_eq_some_iff] at hb;obtain ⟨l,j,rfl⟩:=hb;simp only [ai] at hd;subst hd;have:=wY (P:=P) (w:=w) hf cs ds l (acc.push (UInt8.ofNat b.toNat)) hs j;simp only [List.forIn_cons,hf,Sem.run_bind,Sem.run_pure,Result.andThen_ok];rw [this];simp [ByteArray.push]
  ·cases hb
theorem AR {P:Program} {w w1:World} {c:Array Value} {e:TypeId} (b:w1.heap=w.heap.push (.cells c e)) :
  (markStringish ⟨w.heap.size,0,none⟩).run P w1=.ok () { w1 with heap:=w.heap.push (.cells c e (c.size,c.size+1)) }:=by
 have d:w1.heap[w.heap.size]? = some (.cells c e):=by rw [b];simp
 simp only [markStringish,Sem.run_bind,run_shape,World.shape?,d,Result.andThen_ok,run_freeze];congr 1;simp only [World.freeze,Nat.one_ne_zero,if_false];congr 1;apply Array.ext_getElem?;intro i;rw [Array.getElem?_modify,b,Array.getElem?_push,Array.getElem?_push];by_cases hi:w.heap.size=i
 ·subst hi;simp
 ·rw [if_neg hi,if_neg (fun e=>hi e.symm),if_neg (fun e=>hi e.symm)]
section
variable {P:Program} {T:TT} (hT:TT.Ok P T) {B:Nat} {γ:bT} {s:AS} {w:World} (hr:Rel B γ s w)
include hT hr
theorem Ke {src dst:TypeId} {x v:AV} {cx:Value} {s':AS} (y:ai γ x cx) (h:cY T src dst x s=some (v,s')):zv P B γ s w (convert src dst cx) v s':=by
 unfold cY at h;split at h
 ·rename_i H k k' n d p;obtain ⟨rfl,rfl⟩:_/\_:=by simpa using h
  simp only [ai] at y;subst y;refine zv.val hr (cv:=.int k (k.wrap n)) ?_ (by simp [ai]);simp only [convert,Sem.run_bind,run_underlying hT d,run_underlying hT p,Result.andThen_ok,Conv.intToInt];cases H <;> rfl
 ·rename_i H b d p;obtain ⟨rfl,rfl⟩:_/\_:=by simpa using h
  have F:=y;simp only [ai] at y;subst y;refine zv.val hr (cv:=.string ⟨b.toArray⟩) ?_ F;simp only [convert,Sem.run_bind,run_underlying hT d,run_underlying hT p,Result.andThen_ok];cases H <;> rfl
 ·rename_i H e b d p;simp only [ai] at y;subst y;split at h
  ·rename_i C;obtain ⟨rfl,rfl⟩:_/\_:=by simpa using h
   let q:Question:=.appendCap (ByteArray.mk b.toArray).size 0 e
   let cap:=q.cut (w.tape w.drawn q)
   have ao:b.length<=cap:=by
    have:(ByteArray.mk b.toArray).size=b.length:=by simp [ByteArray.size]
    show b.length<=(ByteArray.mk b.toArray).size+_;omega
   let c0:Array Value:=(b.toArray.map fun x=>Value.int .u8 x.toNat)++Array.replicate (cap - b.length) (.int .u8 0)
   have L:∀ (k:Nat) (v:AV),(b.map fun c=>AV.int .u8 c.toNat)[k]? = some v->v.one=true/\∃ cv,c0[k]? = some cv/\ai γ v cv:=by
    intro k v A;simp only [List.getElem?_map] at A;cases hb:b[k]? with
    | none=>simp [hb] at A
    | some u =>
     simp only [hb,Option.map_some] at A;obtain rfl:=Option.some.inj A;refine ⟨rfl,.int .u8 u.toNat,?_,by simp [ai]⟩;have z:k<b.length:=by
      rcases Nat.lt_or_ge k b.length with h | h
      ·exact h
      ·simp [List.getElem?_eq_none h] at hb
     have M:b[k]=u:=by simpa [List.getElem?_eq_getElem z] using hb
     show ((b.toArray.map fun x=>Value.int .u8 x.toNat)++Array.replicate (cap - b.length) (.int .u8 0))[k]? = _;rw [Array.getElem?_append_left (by simpa using z)];simp [z,M]
   have O:c0.size=b.length+(cap - b.length):=by simp [c0]
   have Q:∀ k,(b.map fun x=>AV.int .u8 x.toNat).length<=k->k<c0.size->∃ v cv,v.one=true/\c0[k]? = some cv/\ai γ v cv:=by
    intro k A R;simp only [List.length_map] at A;refine ⟨.int .u8 0,.int .u8 0,rfl,?_,by simp [ai]⟩;show ((b.toArray.map fun x=>Value.int .u8 x.toNat)++Array.replicate (cap - b.length) (.int .u8 0))[k]? = _;rw [Array.getElem?_append_right (by simpa using A)];rw [Array.getElem?_replicate,if_pos (by simp at R ⊢;omega)]
   obtain ⟨S,U⟩:=hr.wT (w':={ w with heap:=w.heap.push (.cells c0 e (c0.size,c0.size+1)),drawn:=w.drawn+1 }) (g:=1) (x:=cap - b.length) (e:=e) (c:=c0) L (fun _=>⟨by simp [O],Q⟩) (c0.size,c0.size+1) (by intro o ho h;simp at h;omega) (fun h=>absurd rfl h) (Nat.le_succ _) rfl;refine ⟨_,_,.slice (some ⟨w.heap.size,0,none⟩) b.length cap,?_,?_,U,S⟩
   ·have D:(ByteArray.mk b.toArray).size=b.length:=by simp [ByteArray.size]
    have W:(convert src dst (.string ⟨b.toArray⟩)).run P w=(Conv.stringToBytes e ⟨b.toArray⟩).run P w:=by
     simp only [convert,Sem.run_bind,run_underlying hT d,run_underlying hT p,Result.andThen_ok];cases H <;> simp only [Sem.run_bind,run_underlying hT C,Result.andThen_ok]
    rw [W];have hf:q.forced=false:=rfl;simp only [Conv.stringToBytes,Sem.run_bind,run_choose];rw [show (Question.appendCap (ByteArray.mk b.toArray).size 0 e).forced=false from rfl];simp only [Bool.false_eq_true,if_false,Result.andThen_ok,jR,Sem.run_bind];have X:(Array.map (fun x=>Value.int IntKind.u8 ↑(UInt8.toNat x)) (ByteArray.mk b.toArray).data++Array.replicate (cap - (ByteArray.mk b.toArray).size) (Value.int IntKind.u8 0))=c0:=by
     rw [D]
    change ((Sem.run P (markStringish ⟨w.heap.size,0,none⟩) { w with heap:=w.heap.push (.cells (Array.map (fun x=>Value.int IntKind.u8 ↑(UInt8.toNat x)) (ByteArray.mk b.toArray).data++Array.replicate (cap - (ByteArray.mk b.toArray).size) (Value.int IntKind.u8 0)) e),drawn:=w.drawn+1 }).andThen _)=_;rw [X,AR (w:=w) (c:=c0) (e:=e) rfl];simp only [Result.andThen_ok,Sem.run_pure,D];rfl
   ·simp only [ai];exact ⟨_,cG _ _ _,by simp;omega⟩
  ·cases h
 ·rename_i e n m ex d p;simp only [ai] at y;obtain ⟨rfl,_⟩:=y;split at h
  ·rename_i C;split at h
   ·obtain ⟨rfl,rfl⟩:_/\_:=by simpa using h
    refine zv.val hr (cv:=.string .empty) ?_ (by simp [ai];rfl);simp [convert,run_underlying hT d,run_underlying hT p,run_underlying hT C,Conv.bytesToString]
   ·cases h
  ·cases h
 ·rename_i e d p;simp only [ai] at y;obtain ⟨a,m,rfl⟩:=y;split at h
  ·rename_i C;obtain ⟨rfl,rfl⟩:_/\_:=by simpa using h
   refine zv.val hr (cv:=.string .empty) ?_ (by simp [ai];rfl);simp [convert,run_underlying hT d,run_underlying hT p,run_underlying hT C,Conv.bytesToString,loadCells,loadCellsFrom]
  ·cases h
 ·rename_i e l o n m ex d p;simp only [ai] at y;obtain ⟨i,hi,rfl⟩:=y;split at h
  ·rename_i C;by_cases G:n=0
   ·rw [if_pos G] at h;subst G;obtain ⟨rfl,rfl⟩:_/\_:=by simpa using h
    refine zv.val hr (cv:=.string .empty) ?_ (by simp [ai];rfl);simp [convert,run_underlying hT d,run_underlying hT p,run_underlying hT C,Conv.bytesToString,loadCells,loadCellsFrom]
   rw [if_neg G] at h;simp only [Option.bind_eq_some_iff,Option.map_eq_some_iff] at h;obtain ⟨cs,Y,bs,Z,e'⟩:=h;obtain ⟨rfl,rfl⟩:_/\_:=by simpa using e'
   obtain ⟨j,c,hj,I,ab,_⟩:=mN hT hr Y;rw [hi] at hj;obtain rfl:=Option.some.inj hj;refine zv.val hr (cv:=.string ⟨bs.toArray⟩) ?_ (by simp [ai]);simp only [convert,Sem.run_bind,run_underlying hT d,run_underlying hT p,run_underlying hT C,Result.andThen_ok,Conv.bytesToString,I];rw [<- Array.forIn_toList,wY (P:=P) (w:=w) (fun _ _=>rfl) cs c.toList bs .empty ab Z];simp
  ·cases h
 ·rename_i e0 e l o n m ex d p;split at h
  ·rename_i ad;split at h
   ·rename_i cs C hl;obtain ⟨rfl,rfl⟩:_/\_:=by simpa using h
    have F:=y;simp only [ai] at y;obtain ⟨i,hi,rfl⟩:=y;obtain ⟨i',J,hO,_⟩:=hr.obj l _ hl;rw [hi] at J;obtain rfl:=Option.some.inj J;have z:=hO.lt;obtain ⟨c,e2,fz,hb,hc,hf,hg,ae⟩:=hO
    let r:Nat×Nat:=if fz.1==fz.2 then (c.size,c.size+1) else (min fz.1 c.size,max fz.2 (c.size+1))
    have K:(∀ o,o<c.size->¬ (r.1<=o/\o<r.2))/\r.1<=r.2:=by
     have h1:=hf rfl;have h2:=(ae rfl).2;by_cases hq:fz.1=fz.2
     ·simp only [r,hq,beq_self_eq_true,if_true];exact ⟨fun o ho h=>by omega,by omega⟩
     ·have al:(fz.1==fz.2)=false:=by simpa using hq
      simp only [r,al,Bool.false_eq_true,if_false];have:c.size<=fz.1:=by
       rcases Nat.lt_or_ge fz.1 c.size with h | h
       ·exact absurd ⟨Nat.le_refl _,by omega⟩ (h1 _ h)
       ·exact h
      exact ⟨fun o ho h=>by omega,by omega⟩
    let w':World:={ w with heap:=w.heap.setIfInBounds i.b (.cells c e2 r) }
    have am:lQ γ w' i (.cells cs 1 false):=⟨c,e2,r,by simp [w',z],hc,fun _=>K.1,hg,fun _=>⟨fun h=>absurd rfl h,K.2⟩⟩;obtain ⟨S,U⟩:=hr.same (w':=w') hl rfl hi rfl am;refine ⟨_,_,_,?_,F,U,S⟩;subst ad;have an:w.freeze ⟨i.b,c.size,none⟩ 1=w':=by
     simp only [World.freeze,Nat.one_ne_zero,if_false,w'];congr 1;apply Array.ext_getElem?;intro k;rw [Array.getElem?_modify,Array.getElem?_setIfInBounds];by_cases A:i.b=k
     ·subst A;rw [if_pos rfl,if_pos rfl,if_pos z,hb];rfl
     ·rw [if_neg A,if_neg A]
    obtain rfl:e0=e:=by rw [d] at p;simpa using p
    simp only [convert,Sem.run_bind,run_underlying hT d,run_underlying hT C,Result.andThen_ok,beq_self_eq_true,markStringish,run_shape,World.shape?,hb,run_freeze,an];rfl
   ·cases h
  ·cases h
 ·cases h
theorem Q4 {t xt:TypeId} {x v:AV} {z:Value} (d:ai γ x z) (h:aL T t x s=some v) (ts:List TypeId) (rest:List Value) (A:TypeId) :
  ∃ c,(Builtin.len_ (t::ts).toArray A (z::rest).toArray).run P w=.ok c w/\ai γ v c:=by
 unfold aL at h;simp only [Builtin.len_,List.getElem?_toArray,List.getElem?_cons_zero];split at h
 ·rename_i b hu;obtain rfl:=Option.some.inj h;simp only [ai] at d;subst d;exact ⟨.int .i64 b.length,by simp only [Sem.run_bind,run_underlying hT hu,Result.andThen_ok,Sem.run_pure,goInt,ByteArray.size,List.size_toArray],by simp only [ai]⟩
 ·rename_i n e hu;obtain rfl:=Option.some.inj h;exact ⟨.int .i64 n,by simp [run_underlying hT hu,goInt],by simp [ai]⟩
 ·rename_i e a n c ex hu;obtain rfl:=Option.some.inj h;refine ⟨.int .i64 n,?_,by simp [ai]⟩;cases a with
  | none=>simp only [ai] at d;obtain ⟨rfl,_⟩:=d;simp [run_underlying hT hu,goInt]
  | some a=>obtain ⟨l,o⟩:=a;simp only [ai] at d;obtain ⟨i,_,rfl⟩:=d;simp [run_underlying hT hu,goInt]
 ·rename_i e hu;obtain rfl:=Option.some.inj h;simp only [ai] at d;obtain ⟨a,m,rfl⟩:=d;exact ⟨.int .i64 0,by simp [run_underlying hT hu,goInt],by simp [ai]⟩
 ·rename_i k e hu;obtain rfl:=Option.some.inj h;simp only [ai] at d;subst d;exact ⟨.int .i64 0,by simp [run_underlying hT hu,goInt],by simp [ai]⟩
 ·rename_i k e l hu;simp only [ai] at d;obtain ⟨i,hi,rfl⟩:=d;split at h
  ·rename_i es r ro B;obtain rfl:=Option.some.inj h;obtain ⟨j,hj,⟨p,hb,y⟩,_⟩:=hr.obj l _ B;rw [hi] at hj;obtain rfl:=Option.some.inj hj;have hlen:=y.length;simp only [Array.length_toList] at hlen;have C:(getObj i.b).run P w=.ok (.map p r) w:=by simp [getObj,Sem.run,hb]
   exact ⟨.int .i64 p.size,by simp only [Sem.run_bind,run_underlying hT hu,C,goInt,Result.andThen_ok,Sem.run_pure],by rw [hlen];simp only [ai]⟩
  ·cases h
 ·cases h
theorem Q5 {t:TypeId} {x v:AV} {d:Value} (b:ai γ x d) (h:wR T t x=some v) (ts:List TypeId) (rest:List Value) (j:TypeId) :
  ∃ c,(Builtin.cap_ (t::ts).toArray j (d::rest).toArray).run P w=.ok c w/\ai γ v c:=by
 unfold wR at h;simp only [Builtin.cap_,List.getElem?_toArray,List.getElem?_cons_zero];split at h
 ·rename_i e a n c hu;obtain rfl:=Option.some.inj h;refine ⟨.int .i64 c,?_,by simp [ai]⟩;cases a with
  | none=>simp only [ai] at b;obtain ⟨rfl,_⟩:=b;simp [run_underlying hT hu,goInt]
  | some a=>obtain ⟨l,o⟩:=a;simp only [ai] at b;obtain ⟨i,_,rfl⟩:=b;simp [run_underlying hT hu,goInt]
 ·cases h
theorem Om {t:TypeId} {x:AV} {C:Value} {s':AS} (d:ai γ x C) (h:J_ T t x s=some s') (ts:List TypeId) (rest:List Value) (D:TypeId) :
  zv P B γ s w (Builtin.clear_ (t::ts).toArray D (C::rest).toArray) .undef s':=by
 unfold J_ at h;simp only [Builtin.clear_,List.getElem?_toArray,List.getElem?_cons_zero];have b:∀ γ,ai γ AV.undef (.tuple #[]):=by intro γ;simp only [ai];exact ⟨_,rfl,au.nil⟩
 split at h
 ·rename_i e n m ex hu;obtain rfl:=Option.some.inj h;simp only [ai] at d;obtain ⟨rfl,_⟩:=d;exact zv.val hr (by simp [run_underlying hT hu]) (b _)
 ·rename_i e hu;obtain rfl:=Option.some.inj h;simp only [ai] at d;obtain ⟨a,m,rfl⟩:=d;exact zv.val hr (by simp [run_underlying hT hu]) (b _)
 ·rename_i e l o n m ex hu;simp only [ai] at d;obtain ⟨i,hi,rfl⟩:=d;split at h
  ·rename_i h0;subst h0;obtain rfl:=Option.some.inj h;exact zv.val hr (by simp [run_underlying hT hu]) (b _)
  ·rename_i h0;simp only [Option.bind_eq_some_iff] at h;obtain ⟨z,F,zc,r,h⟩:=h;obtain ⟨rfl,c⟩:=fP r;obtain ⟨G,y,A⟩:=jl hT F w;obtain ⟨j,w',hj,p,hd,hr'⟩:=Fy hT hr h (jS ((A γ).cells c) n) (u0 c n);rw [hi] at hj;obtain rfl:=Option.some.inj hj;refine ⟨γ,w',.tuple #[],?_,b _,hd,hr'⟩;obtain ⟨k,rfl⟩:∃ k,n=k+1:=⟨n - 1,by omega⟩;simp [run_underlying hT hu,y,p]
 ·cases h
omit hT hr in
theorem LX (e:Bool) {l:List AV} {cl:List Value} {v:AV} (p:au γ l cl) (h:LM e l=some v) (ts:Array TypeId) (o:TypeId) :
  ∃ c,(if e then Builtin.max_ ts o cl.toArray else Builtin.min_ ts o cl.toArray).run P w=.ok c w/\ai γ v c:=by
 have key:∀ (rest:List AV) (b:List Value) (x:AV) (k:Value),ai γ x k->au γ rest b->LL e x rest=some v ->
   ∃ c,(if e then b.foldlM Builtin.max2 k else b.foldlM Builtin.min2 k).run P w=.ok c w/\ai γ v c:=by
  intro rest
  induction rest with
  | nil =>
   intro b x k m i h;obtain rfl:=au.iL.1 i;simp only [LL] at h;obtain rfl:=Option.some.inj h;exact ⟨k,by cases e <;> rfl,m⟩
  | cons y ys r =>
   intro b x k m i h;obtain ⟨d,ds,rfl,hd,j⟩:=au.cN.1 i;simp only [LL,Option.bind_eq_some_iff] at h;obtain ⟨z,n,h⟩:=h;unfold PZ at n;split at n
   ·obtain rfl:=Option.some.inj n;simp only [ai] at m hd;subst m hd;obtain ⟨c,i,hv⟩:=r ds _ _ (by simp only [ai];rfl) j h;refine ⟨c,?_,hv⟩;cases e
    ·simp only [Bool.false_eq_true,if_false] at i ⊢;simpa [List.foldlM_cons,Builtin.min2] using i
    ·simp only [if_true] at i ⊢;simpa [List.foldlM_cons,Builtin.max2] using i
   ·cases n
 cases l with
 | nil=>simp [LM] at h
 | cons x rest =>
  obtain ⟨d,ds,rfl,hd,j⟩:=au.cN.1 p;obtain ⟨c,i,hv⟩:=key rest ds x d hd j h;exact ⟨c,by cases e <;> simpa [Builtin.max_,Builtin.min_] using i,hv⟩
omit hT hr in
theorem pX (γ:bT):ai γ AV.undef undef:=by simp only [ai];exact ⟨_,rfl,au.nil⟩
omit hT hr in
theorem bW.find (n:Nat):∀ {es:List (AV×AV×Nat)} {cs:List MapEntry} {e:AV×AV×Nat},bW γ es cs->es.find? (fun e=>e.2.2==n)=some e->∃ c,cs.find? (fun c=>c.born==n)=some c/\ai γ e.1 c.key/\ai γ e.2.1 c.val
 | [],cs,e,h,b=>by cases b
 | (k,v,m)::es,cs,e,h,b=>by
  simp only [bW] at h;obtain ⟨c,cs',rfl,d,h2,h3,h4⟩:=h;simp only [List.find?_cons] at b ⊢;rw [h3];cases hm:(m==n) with
  | true =>
   rw [hm] at b;obtain rfl:=Option.some.inj b;exact ⟨c,rfl,d,h2⟩
  | false =>
   rw [hm] at b;exact bW.find n h4 b
omit hT in
theorem On {x v:AV} {A:Value} (B:ai γ x A) (h:wS x s=some v):∃ c,(Instr.entry A).run P w=.ok c w/\ai γ v c:=by
 unfold wS at h;split at h
 ·rename_i l;simp only [ai] at B;obtain ⟨i,hi,rfl⟩:=B;split at h
  ·rename_i m since seen stepped ro C;obtain ⟨i',d,y,_⟩:=hr.obj l _ C;rw [hi] at d;obtain rfl:=Option.some.inj d;obtain ⟨h0,j,hj,y⟩:=y;split at h
   ·rename_i es clock D hm;obtain ⟨j',k,F,_⟩:=hr.obj m _ hm;rw [hj] at k;obtain rfl:=Option.some.inj k;obtain ⟨o,p,r⟩:=F;split at h
    ·rename_i z;subst z;simp only [Option.bind_eq_some_iff,Option.map_eq_some_iff] at h;obtain ⟨n,G,e,H,rfl⟩:=h;obtain ⟨c,I,J,h2⟩:=bW.find n r H;refine ⟨.tuple #[c.key,c.val],?_,?_⟩
     ·have hb:seen.toArray.back? = some n:=by simpa using G
      have hf:o.find? (fun c=>c.born==n)=some c:=by rw [<- Array.find?_toList];exact I
      have K:(getObj i.b).run P w=.ok (.mapIter (some j.b) since seen.toArray clock) w:=by simp [getObj,Sem.run,y]
      have L:(getObj j.b).run P w=.ok (.map o clock) w:=by simp [getObj,Sem.run,p]
      simp only [h0,Nat.add_zero,Instr.entry,Sem.run_bind,K,Result.andThen_ok,hb,L,bne_self_eq_false,Bool.false_eq_true,if_false,hf,Sem.run_pure]
     ·simp only [ai];exact ⟨_,rfl,au.cons J (au.cons h2 au.nil)⟩
    ·cases h
   ·cases h
  ·cases h
 ·cases h
def eO (P:Program) (B:Nat) (γ:bT) (s:AS) (w:World) (m:Sem Next) (v:AV) (s':AS):Prop :=
 ∃ γ' w' n cv,m.run P w=.ok n w'/\(n=.value cv\/(n=.skip/\cv=undef))/\ai γ' v cv/\gq B γ s w γ' s' w'/\Rel B γ' s' w'
omit hT hr in
theorem eO.q_ {m:Sem Value} {v:AV} {s':AS} (h:zv P B γ s w m v s'):eO P B γ s w (do pure (.value (<- m))) v s':=by
 obtain ⟨γ',w',cv,b,h2,h3,h4⟩:=h;exact ⟨γ',w',.value cv,cv,by simp [b],.inl rfl,h2,h3,h4⟩
omit hT hr in
theorem eO.Kf {m:Sem Unit} {s':AS} (h:Ww P B γ s w m s'):eO P B γ s w (do m;pure .skip) .undef s':=by
 obtain ⟨γ',w',b,h3,h4⟩:=h;exact ⟨γ',w',.skip,undef,by simp [b],.inr ⟨rfl,rfl⟩,pX _,h3,h4⟩
omit hT in
theorem eO.lS {m:Sem Value} {v:AV} (h:∃ c,m.run P w=.ok c w/\ai γ v c):eO P B γ s w (do pure (.value (<- m))) v s:=by
 obtain ⟨c,b,h2⟩:=h;exact eO.q_ (zv.val hr b h2)
omit hT hr in
theorem Gj {ρ:Operand->AV} {b:Operand->Value} (c:∀ x,ai γ (ρ x) (b x)):∀ (l:List (Nat×Operand)),IW γ (l.map fun p=>(p.1,ρ p.2)) (l.map fun p=>(p.1,b p.2))
 | []=>rfl
 | (i,x)::l=>⟨_,_,rfl,c x,Gj c l⟩
omit hT hr in
theorem pn {ρ:Operand->AV} {b:Operand->Value} (c:∀ x,ai γ (ρ x) (b x)):∀ (l:List Operand),au γ (l.map ρ) (l.map b)
 | []=>au.nil
 | x::l=>au.cons (c x) (pn c l)
omit hT hr in
theorem Gk {ρ:Operand->AV} {b:Operand->Value} (c:∀ x,ai γ (ρ x) (b x)):∀ (o:Option Operand),AN γ (o.map ρ) (o.map b)
 | none=>rfl
 | some x=>⟨_,rfl,c x⟩
theorem Kg {b:Builtin} {ts:List TypeId} {args:List AV} {j:List Value} {v:AV} {s':AS} (o:au γ args j) (h:er T b ts args s=some (v,s')) (l:TypeId) (n:Array Bool) :
  eO P B γ s w (builtin b ts.toArray l n j.toArray) v s':=by
 unfold er at h;split at h
 ·rename_i t c x rest;obtain ⟨d,ds,rfl,hd,i⟩:=au.cN.1 o;simp only [Option.map_eq_some_iff] at h;obtain ⟨u,hu,e⟩:=h;obtain ⟨rfl,rfl⟩:_/\_:=by simpa using e
  exact eO.lS hr (Q4 hT hr (xt:=0) hd hu c ds l)
 ·rename_i t c x rest;obtain ⟨d,ds,rfl,hd,i⟩:=au.cN.1 o;simp only [Option.map_eq_some_iff] at h;obtain ⟨u,hu,e⟩:=h;obtain ⟨rfl,rfl⟩:_/\_:=by simpa using e
  exact eO.lS hr (Q5 hT hr hd hu c ds l)
 ·rename_i t xt c dst x rest;obtain ⟨d,ds,rfl,hd,i⟩:=au.cN.1 o;obtain ⟨f,fs,rfl,hf,p⟩:=au.cN.1 i;have:=LU hT hr hd hf h l;exact eO.q_ (by simpa [Builtin.append_] using this)
 ·rename_i t xt c dst x rest;obtain ⟨d,ds,rfl,hd,i⟩:=au.cN.1 o;obtain ⟨f,fs,rfl,hf,p⟩:=au.cN.1 i;have:=Q1 hT hr (xt:=xt) hd hf h l;exact eO.q_ (by simpa [Builtin.copy_] using this)
 ·rename_i t c m k rest;obtain ⟨d,ds,rfl,hd,i⟩:=au.cN.1 o;obtain ⟨f,fs,rfl,hf,p⟩:=au.cN.1 i;simp only [Option.map_eq_some_iff] at h;obtain ⟨u,hu,e⟩:=h;obtain ⟨rfl,rfl⟩:_/\_:=by simpa using e
  obtain ⟨γ',w',r,h2,h3⟩:=LW hT hr (xt:=0) hd hf hu l;exact eO.q_ ⟨γ',w',undef,by simpa [Builtin.delete_] using r,pX _,h2,h3⟩
 ·rename_i t c x rest;obtain ⟨d,ds,rfl,hd,i⟩:=au.cN.1 o;simp only [Option.map_eq_some_iff] at h;obtain ⟨u,hu,e⟩:=h;obtain ⟨rfl,rfl⟩:_/\_:=by simpa using e
  exact eO.q_ (Om hT hr hd hu c ds l)
 ·simp only [Option.map_eq_some_iff] at h;obtain ⟨u,hu,e⟩:=h;obtain ⟨rfl,rfl⟩:_/\_:=by simpa using e
  exact eO.lS hr (by simpa using LX (P:=P) (w:=w) true o hu ts.toArray l)
 ·simp only [Option.map_eq_some_iff] at h;obtain ⟨u,hu,e⟩:=h;obtain ⟨rfl,rfl⟩:_/\_:=by simpa using e
  exact eO.lS hr (by simpa using LX (P:=P) (w:=w) false o hu ts.toArray l)
 ·cases h
set_option maxHeartbeats 2000000 in
theorem P8 {o : Oper} {ρ : Operand -> AV} {r : Operand -> Value} {v : AV} {s' : AS} (A : ∀ x, ai γ (ρ x) (r x)) (h : cO T o.op ρ s = some (v, s')) : eO P B γ s w (execOp r o) v s' := by
  obtain ⟨dst, op, type, pos, after, guard⟩ := o;simp only at h;unfold cO at h;split at h
  case h_1 x =>
    obtain ⟨rfl, rfl⟩ : _ /\ _ := by simpa using h
    exact ⟨γ, w, .value (r x), _, rfl, .inl rfl, A x, gq.refl, hr⟩
  case h_2 x =>
    obtain ⟨rfl, rfl⟩ : _ /\ _ := by simpa using h
    exact ⟨γ, w, .value (r x), _, rfl, .inl rfl, A x, gq.refl, hr⟩
  case h_3 c a b =>
    split at h
    · rename_i t ht;obtain ⟨rfl, rfl⟩ : _ /\ _ := by simpa using h
      have H := A c;rw [ht] at H; simp only [ai] at H;refine ⟨γ, w, .value (if t then r a else r b), _, ?_, .inl rfl, ?_, gq.refl, hr⟩
      · simp only [execOp, H, asBool, Sem.run_bind, Sem.run_pure, Result.andThen_ok]
      · cases t
        · exact A b
        · exact A a
    · cases h
  case h_4 e =>
    simp only [Option.bind_eq_some_iff, Option.map_eq_some_iff] at h;obtain ⟨z, Y, cs, F, e'⟩ := h;obtain ⟨rfl, rfl⟩ : _ /\ _ := by simpa using e'
    show eO P B γ s w (do pure (.value (<- Instr.alloc e true (.tuple #[])))) _ _;exact eO.q_ (QZ hT hr Y F)
  case h_5 t x =>
    simp only [Option.map_eq_some_iff] at h;obtain ⟨cs, F, e'⟩ := h;obtain ⟨rfl, rfl⟩ : _ /\ _ := by simpa using e'
    show eO P B γ s w (do pure (.value (<- Instr.box t (r x)))) _ _;have hb : Instr.box t (r x) = (do pure (.pointer (some (<- newVar t (r x))))) := rfl;rw [hb];exact eO.q_ (F_ t hr (A x) F)
  case h_6 t parts =>
    simp only [Option.map_eq_some_iff] at h;obtain ⟨u, hu, e'⟩ := h;obtain ⟨rfl, rfl⟩ : _ /\ _ := by simpa using e'
    show eO P B γ s w (do pure (.value (<- Instr.build t (parts.map fun (i, x) => (i, r x))))) _ _;exact eO.lS hr (Oi hT (γ := γ) (w := w) (og := parts.map fun (i, x) => (i, r x)) (by simpa using Gj A parts.toList) hu)
  case h_7 t len parts =>
    have hp : IW γ (parts.toList.map fun p => (p.1, ρ p.2)) (parts.map fun (p : Nat × Operand) => (p.1, r p.2)).toList := by
      rw [Array.toList_map]; exact Gj A parts.toList
    have hs := eO.q_ (Eh hT hr hp h);exact hs
  case h_8 t a =>
    simp only [Option.map_eq_some_iff] at h;obtain ⟨u, hu, e'⟩ := h;obtain ⟨rfl, rfl⟩ : _ /\ _ := by simpa using e'
    show eO P B γ s w (do pure (.value (<- Instr.loadAt t (r a)))) _ _;exact eO.q_ (Sv hT hr (A a) hu)
  case h_9 t a x =>
    simp only [Option.map_eq_some_iff] at h;obtain ⟨u, hu, e'⟩ := h;obtain ⟨rfl, rfl⟩ : _ /\ _ := by simpa using e'
    show eO P B γ s w (do Instr.storeAt t (r a) (r x); pure .skip) _ _;exact eO.Kf (Q0 hT hr (A a) (A x) hu)
  case h_10 x =>
    have C := A x;split at h
    · rename_i p hp;obtain ⟨rfl, rfl⟩ : _ /\ _ := by simpa using h
      rw [hp] at C;have D := C;obtain ⟨l, o⟩ := p;simp only [ai] at C; obtain ⟨i, hi, C⟩ := C;exact ⟨γ, w, .value (r x), _, by simp only [execOp, C]; rfl, .inl rfl, D, gq.refl, hr⟩
    · rename_i f c hp;obtain ⟨rfl, rfl⟩ : _ /\ _ := by simpa using h
      rw [hp] at C;have D := C;simp only [ai] at C; obtain ⟨cc, C, _⟩ := C;exact ⟨γ, w, .value (r x), _, by simp only [execOp, C]; rfl, .inl rfl, D, gq.refl, hr⟩
    · rename_i f ft c hp;obtain ⟨rfl, rfl⟩ : _ /\ _ := by simpa using h
      rw [hp] at C;have D := C;simp only [ai] at C; obtain ⟨cf, cc, C, _⟩ := C;exact ⟨γ, w, .value (r x), _, by simp only [execOp, C]; rfl, .inl rfl, D, gq.refl, hr⟩
    · rename_i t u hp;obtain ⟨rfl, rfl⟩ : _ /\ _ := by simpa using h
      rw [hp] at C;have D := C;simp only [ai] at C; obtain ⟨cc, C, _⟩ := C;exact ⟨γ, w, .value (r x), _, by simp only [execOp, C]; rfl, .inl rfl, D, gq.refl, hr⟩
    · cases h
  case h_11 op t x y yt =>
    split at h
    · rename_i O;simp only [Option.map_eq_some_iff] at h;obtain ⟨u, hu, e'⟩ := h;obtain ⟨rfl, rfl⟩ : _ /\ _ := by simpa using e'
      obtain ⟨c, H, hv⟩ := Sx hT (A x) (A y) hu w;have Z := LO hT (op := op) (A x) (A y) O w;exact ⟨γ, w, .value c, _, by simp only [execOp, Sem.run_bind, Z, H, Result.andThen_ok, Sem.run_pure], .inl rfl, hv, gq.refl, hr⟩
    · cases h
  case h_12 op t x =>
    simp only [Option.map_eq_some_iff] at h;obtain ⟨u, hu, e'⟩ := h;obtain ⟨rfl, rfl⟩ : _ /\ _ := by simpa using e'
    show eO P B γ s w (do pure (.value (<- Op.unary op (r x)))) _ _;exact eO.lS hr (UY hT (A x) hu w)
  case h_13 src dst x =>
    show eO P B γ s w (do pure (.value (<- convert src dst (r x)))) _ _;exact eO.q_ (Ke hT hr (A x) h)
  case h_14 t x =>
    cases hu : T.cW t with
    | none => simp [hu] at h
    | some td =>
      have G : (Instr.makeInterface t (r x)).run P w = .ok (.iface t (r x)) w /\ v = .iface t (ρ x) /\ s' = s := by
        cases td <;> simp only [hu] at h <;> first
          | (cases h; done)
          | (obtain ⟨rfl, rfl⟩ : _ /\ _ := by simpa using h
             exact ⟨by simp only [Instr.makeInterface, Sem.run_bind, run_underlying hT hu, Result.andThen_ok, Sem.run_pure], rfl, rfl⟩)
      obtain ⟨G, rfl, rfl⟩ := G;show eO P B γ s' w (do pure (.value (<- Instr.makeInterface t (r x)))) _ _;exact eO.lS hr ⟨_, G, by simp only [ai]; exact ⟨_, rfl, A x⟩⟩
  case h_15 f first captured =>
    split at h
    · rename_i hf;obtain ⟨rfl, rfl⟩ : _ /\ _ := by simpa using h
      have : first = #[] := by simpa using hf
      subst this;refine ⟨γ, w, .value (.func (.func f) #[] (captured.map r)), _, by simp [execOp, Instr.makeFunc], .inl rfl, ?_, gq.refl, hr⟩;simp only [ai];exact ⟨_, rfl, by simpa using pn A captured.toList⟩
    · obtain ⟨rfl, rfl⟩ : _ /\ _ := by simpa using h
      refine ⟨γ, w, .value (.func (.func f) (first.map r) (captured.map r)), _, by simp [execOp, Instr.makeFunc], .inl rfl, ?_, gq.refl, hr⟩;simp only [ai];exact ⟨_, _, rfl, by simpa using pn A first.toList, by simpa using pn A captured.toList⟩
  case h_16 t =>
    split at h
    · obtain ⟨rfl, rfl⟩ : _ /\ _ := by simpa using h
      obtain ⟨I, J⟩ := hr.alloc (w' := { w with heap := w.heap.push (.map #[] 0) }) (o := .map [] 0 false) (i := ⟨w.heap.size, 0, 0⟩) rfl rfl rfl ⟨#[], by simp, rfl⟩;refine ⟨_, _, .value (.map (some w.heap.size)), _, by simp [execOp, Instr.makeMap], .inl rfl, ?_, J, I⟩;simp only [ai];exact ⟨_, cG _ _ _, rfl⟩
    · cases h
  case h_17 t l c =>
    show eO P B γ s w (do pure (.value (<- Instr.makeSlice t (r l) (r c)))) _ _;exact eO.q_ (Gg hT hr (A l) (A c) h)
  case h_18 t x lo hi W =>
    simp only [Option.map_eq_some_iff] at h;obtain ⟨u, hu, e'⟩ := h;obtain ⟨rfl, rfl⟩ : _ /\ _ := by simpa using e'
    show eO P B γ s w (do pure (.value (<- Instr.sliceAt t (r x) (lo.map r) (hi.map r) (W.map r)))) _ _;exact eO.lS hr (Oh hT (Gk A lo) (Gk A hi) (Gk A W) (A x) hu w)
  case h_19 t x f =>
    simp only [Option.map_eq_some_iff] at h;obtain ⟨u, hu, e'⟩ := h;obtain ⟨rfl, rfl⟩ : _ /\ _ := by simpa using e'
    show eO P B γ s w (do pure (.value (<- Instr.fieldAt t (r x) f))) _ _;exact eO.lS hr (Gb hT (A x) hu w)
  case h_20 t x f =>
    simp only [Option.map_eq_some_iff] at h;obtain ⟨u, hu, e'⟩ := h;obtain ⟨rfl, rfl⟩ : _ /\ _ := by simpa using e'
    show eO P B γ s w (do pure (.value (<- Instr.field t (r x) f))) _ _;exact eO.lS hr (Of hT (A x) hu w)
  case h_21 t x ix =>
    simp only [Option.map_eq_some_iff] at h;obtain ⟨u, hu, e'⟩ := h;obtain ⟨rfl, rfl⟩ : _ /\ _ := by simpa using e'
    show eO P B γ s w (do pure (.value (<- Instr.indexAt t (r x) (r ix)))) _ _;exact eO.lS hr (Gc hT (A x) (A ix) hu w)
  case h_22 t x ix =>
    simp only [Option.map_eq_some_iff] at h;obtain ⟨u, hu, e'⟩ := h;obtain ⟨rfl, rfl⟩ : _ /\ _ := by simpa using e'
    show eO P B γ s w (do pure (.value (<- Instr.index t (r x) (r ix)))) _ _;exact eO.lS hr (Oe hT (A x) (A ix) hu w)
  case h_23 t x ix ok =>
    simp only [Option.map_eq_some_iff] at h;obtain ⟨u, hu, e'⟩ := h;obtain ⟨rfl, rfl⟩ : _ /\ _ := by simpa using e'
    show eO P B γ s w (do pure (.value (<- Instr.lookup t (r x) (r ix) ok))) _ _;exact eO.lS hr (LV hT hr (A x) (A ix) hu)
  case h_24 t m k u =>
    simp only [Option.map_eq_some_iff] at h;obtain ⟨u', hu, e'⟩ := h;obtain ⟨rfl, rfl⟩ : _ /\ _ := by simpa using e'
    show eO P B γ s w (do Instr.mapUpdate t (r m) (r k) (r u); pure .skip) _ _;exact eO.Kf (wX hT hr (A m) (A k) (A u) hu)
  case h_25 t m k u =>
    simp only [Option.map_eq_some_iff] at h;obtain ⟨u', hu, e'⟩ := h;obtain ⟨rfl, rfl⟩ : _ /\ _ := by simpa using e'
    show eO P B γ s w (do Instr.mapUpdate t (r m) (r k) (r u); pure .skip) _ _;exact eO.Kf (wX hT hr (A m) (A k) (A u) hu)
  case h_26 t i =>
    split at h
    · rename_i vs Q;simp only [Option.map_eq_some_iff] at h;obtain ⟨u, hu, e'⟩ := h;obtain ⟨rfl, rfl⟩ : _ /\ _ := by simpa using e'
      have ht := A t;rw [Q] at ht;simp only [ai] at ht;obtain ⟨cs, F, K⟩ := ht;obtain ⟨c, H, hv⟩ := K.get hu;have R : cs[i]? = some c := by simpa using H
      exact eO.lS hr (m := Instr.extract (r t) i) ⟨c, by simp [Instr.extract, F, R], hv⟩
    · cases h
  case h_27 c =>
    split at h
    · rename_i b hb;have := Kg hT hr (pn A c.args.toList) h type (c.args.map fun | .const _ => true | _ => false);obtain ⟨γ', w', n, cv, X, h2⟩ := this;refine ⟨γ', w', n, cv, ?_, h2⟩;have ha : (List.map r c.args.toList).toArray = c.args.map r := by apply Array.ext'; rw [Array.toList_map]
      have ht : c.argTypes.toList.toArray = c.argTypes := Array.toArray_toList;rw [ha, ht] at X;simp only [execOp, resolve, hb, Sem.run_bind, Sem.run_pure, Result.andThen_ok, invoke];exact X
    · cases h
  case h_28 t x =>
    have C := A x;show eO P B γ s w (do pure (.value (<- Instr.range t (r x)))) _ _;split at h
    · rename_i b hu hb;obtain ⟨rfl, rfl⟩ : _ /\ _ := by simpa using h
      rw [hb] at C; simp only [ai] at C;obtain ⟨I, J⟩ := hr.alloc (w' := { w with heap := w.heap.push (.stringIter ⟨b.toArray⟩ 0) }) (o := .qp b 0 false) (i := ⟨w.heap.size, 0, 0⟩) rfl rfl rfl ⟨rfl, by simp⟩;exact ⟨_, _, _, .pointer (some ⟨w.heap.size, 0, none⟩), by simp [Instr.range, run_underlying hT hu, C], .inl rfl, by simp only [ai]; exact ⟨_, cG _ _ _, rfl⟩, J, I⟩
    · rename_i k e hu hb;obtain ⟨rfl, rfl⟩ : _ /\ _ := by simpa using h
      rw [hb] at C; simp only [ai] at C;obtain ⟨I, J⟩ := hr.alloc (w' := { w with heap := w.heap.push (.mapIter none 0 #[] 0) }) (o := .fW none 0 [] 0 false) (i := ⟨w.heap.size, 0, 0⟩) rfl rfl rfl ⟨rfl, by simp⟩;exact ⟨_, _, _, .pointer (some ⟨w.heap.size, 0, none⟩), by simp [Instr.range, run_underlying hT hu, C], .inl rfl, by simp only [ai]; exact ⟨_, cG _ _ _, rfl⟩, J, I⟩
    · rename_i k e m hu hb;split at h
      · rename_i es clock ro hm;obtain ⟨rfl, rfl⟩ : _ /\ _ := by simpa using h
        rw [hb] at C; simp only [ai] at C;obtain ⟨j, hj, C⟩ := C;obtain ⟨j', L, hO, _⟩ := hr.obj m _ hm;rw [hj] at L; obtain rfl := Option.some.inj L;obtain ⟨S, M, _⟩ := hO;obtain ⟨I, J⟩ := hr.alloc (w' := { w with heap := w.heap.push (.mapIter (some j.b) clock #[] clock) }) (o := .fW (some m) clock [] clock false) (i := ⟨w.heap.size, 0, 0⟩) rfl rfl rfl ⟨rfl, j, bT.uU hr.LI _ _ hj, by simp⟩;have O : ∀ w2 : World, w2.heap[j.b]? = w.heap[j.b]? -> (getObj j.b).run P w2 = .ok (.map S clock) w2 := by
          intro w2 h2;simp [getObj, Sem.run, h2, M]
        exact ⟨_, _, _, .pointer (some ⟨w.heap.size, 0, none⟩), by simp [Instr.range, run_underlying hT hu, C, O w rfl], .inl rfl, by simp only [ai]; exact ⟨_, cG _ _ _, rfl⟩, J, I⟩
      · cases h
    · cases h
  case h_29 it =>
    simp only [Option.map_eq_some_iff] at h;obtain ⟨u, hu, e'⟩ := h;obtain ⟨rfl, rfl⟩ : _ /\ _ := by simpa using e'
    show eO P B γ s w (do pure (.value (<- Instr.entry (r it)))) _ _;exact eO.lS hr (On hr (A it) hu)
  case h_30 t x =>
    have C := A x;simp only [Option.map_eq_some_iff] at h;obtain ⟨u, hu, e'⟩ := h;obtain ⟨rfl, rfl⟩ : _ /\ _ := by simpa using e'
    unfold QY at hu;split at hu
    · rename_i p len c e hp;split at hu
      · rename_i n el U;split at hu
        · cases hu
        · rename_i hn;obtain rfl := Option.some.inj hu;rw [hp] at C;obtain ⟨l, o⟩ := p;simp only [ai] at C; obtain ⟨i, hi, C⟩ := C;exact ⟨γ, w, .value (.pointer (some ⟨i.b, i.d + o, none⟩)), _, by simp [execOp, Instr.arrayAt, run_underlying hT U, C, hn], .inl rfl, by simp only [ai]; exact ⟨i, hi, rfl⟩, gq.refl, hr⟩
      · cases hu
    · cases hu
  case h_31 => cases h
end
end
section
theorem bW.filter {γ:bT} (p:Nat->Bool):∀ {es:List (AV×AV×Nat)} {cs:List MapEntry},bW γ es cs->bW γ (es.filter fun e=>p e.2.2) (cs.filter fun c=>p c.born)
 | [],cs,h=>by simp only [bW] at h;subst h;simp [bW]
 | (k,v,n)::es,cs,h=>by
  simp only [bW] at h;obtain ⟨c,cs',rfl,d,h2,h3,h4⟩:=h;have b:=bW.filter p h4;simp only [List.filter_cons,h3];split
  ·simp only [bW];exact ⟨c,_,rfl,d,h2,h3,b⟩
  ·exact b
theorem bW.all {γ:bT} (p:Nat->Bool):∀ {es:List (AV×AV×Nat)} {cs:List MapEntry},bW γ es cs->(es.all fun e=>p e.2.2)=(cs.all fun c=>p c.born)
 | [],cs,h=>by simp only [bW] at h;subst h;rfl
 | (k,v,n)::es,cs,h=>by
  simp only [bW] at h;obtain ⟨c,cs',rfl,b,h2,h3,h4⟩:=h;simp only [List.all_cons,h3,bW.all p h4]
theorem bW.mem {γ:bT}:∀ {es:List (AV×AV×Nat)} {cs:List MapEntry} {i:Nat} {c:MapEntry},bW γ es cs->cs[i]? = some c->∃ e,es[i]? = some e/\ai γ e.1 c.key/\ai γ e.2.1 c.val/\c.born=e.2.2
 | [],cs,i,c,h,b=>by simp only [bW] at h;subst h;simp at b
 | (k,v,n)::es,cs,i,c,h,b=>by
  simp only [bW] at h;obtain ⟨d,cs',rfl,j,h2,h3,h4⟩:=h;cases i with
  | zero=>simp only [List.getElem?_cons_zero,Option.some.injEq] at b;subst b;exact ⟨_,rfl,j,h2,h3⟩
  | succ i =>
   obtain ⟨e,l⟩:=bW.mem (i:=i) h4 (by simpa using b);exact ⟨e,by simpa using l⟩
theorem ri {P:Program} {w:World} {r:Nat} {o:Obj} (h:w.heap[r]? = some o) (b:∀ c e f,o≠.cells c e f):(getObj r).run P w=.ok o w:=by
 cases o with
 | cells c e f=>exact absurd rfl (b c e f)
 | _=>simp [getObj,Sem.run,h]
theorem wZ {P:Program} {w:World} {b:Nat} {o o':Obj} (hb:w.heap[b]? = some o) (d:∀ c e f,o≠.cells c e f):(setObj b o').run P w=.ok () { w with heap:=w.heap.setIfInBounds b o' }:=by
 cases o with
 | cells c e f=>exact absurd rfl (d c e f)
 | _=>simp [setObj,Sem.run,hb]
theorem run_choose {P:Program} {n:Nat} (b:0<n) (w:World):∃ (j:Nat) (w1:World),j<n/\w1.heap=w.heap/\Env w w1/\(choose (Question.mapNext n)).run P w=.ok j w1:=by
 by_cases hf:n<=1
 ·exact ⟨0,w,by omega,rfl,⟨rfl,rfl,rfl⟩,by simp [choose,Sem.run,Question.forced,hf]⟩
 ·exact ⟨_,{ w with drawn:=w.drawn+1 },Nat.mod_lt _ b,rfl,⟨rfl,rfl,rfl⟩,by
   simp only [choose,Sem.run,Question.forced,decide_eq_true_eq,hf,if_false,Question.cut];rfl⟩
theorem IZ {P:Program} {B:Nat} {γ:bT} {s:AS} {w:World} (hr:Rel B γ s w) {ρ:Operand->AV} {I:Operand->Value} (aw:∀ x,ai γ (ρ x) (I x)) {o:Oper} {l:List (AV×AS)} (h:DW o.op ρ s=some l) :
  ∃ p∈l,∃ γ' w' cv,(execOp I o).run P w=.ok (.value cv) w'/\ai γ' p.1 cv/\gq B γ s w γ' p.2 w'/\Rel B γ' p.2 w':=by
 obtain ⟨dst,op,type,pos,after,guard⟩:=o;simp only at h;unfold DW at h;split at h
 ·rename_i it d;have F:=aw it;have hex:∀ v w',(Instr.next (I it) d type).run P w=.ok v w'->(execOp I { dst,op:=.next it d,type,pos,after,guard }).run P w=.ok (.value v) w':=by
   intro v w' hv;show Sem.run P (do pure (Next.value (<- Instr.next (I it) d type))) w=_;simp only [Sem.run_bind,hv,Result.andThen_ok,Sem.run_pure]
  split at h
  ·rename_i r hp;rw [hp] at F;simp only [ai] at F;obtain ⟨i,hi,F⟩:=F;split at h
   ·rename_i since seen last ro K;obtain ⟨j,hj,D,_⟩:=hr.obj r _ K;rw [hi] at hj;obtain rfl:=Option.some.inj hj;obtain ⟨h0,D⟩:=D;split at h
    ·cases h
    ·rename_i hs;obtain rfl:=Option.some.inj h;have M:d=false:=by simpa using hs
     refine ⟨_,List.mem_singleton.2 rfl,γ,w,.tuple #[.bool false],hex _ _ ?_,?_,gq.refl,hr⟩
     ·simp [Instr.next,F,h0,ri D (by simp),M]
     ·simp only [ai];exact ⟨_,rfl,au.cons (by simp [ai]) au.nil⟩
   ·rename_i m since seen last K;obtain ⟨j,hj,D,hB⟩:=hr.obj r _ K;rw [hi] at hj;obtain rfl:=Option.some.inj hj;obtain ⟨h0,j,hj,D⟩:=D;split at h
    ·cases h
    ·rename_i hs;have M:d=false:=by simpa using hs
     split at h
     ·rename_i es clock a5 hm;obtain ⟨j',X,hM,_⟩:=hr.obj m _ hm;rw [hj] at X;obtain rfl:=Option.some.inj X;obtain ⟨y,Y,J⟩:=hM;split at h
      ·cases h
      ·rename_i Q;obtain rfl:=Option.some.inj h;have hlen:=J.length;have Z:∀ {α:Type} (l:List α),l≠[]↔l.isEmpty=false:=by intro α l;cases l <;> simp
       have R:(!seen.toArray.isEmpty&&!y.isEmpty&&y.all (fun e=>decide (e.born>=last)))=false:=by
        have e1:seen.toArray.isEmpty=seen.isEmpty:=by cases seen <;> rfl
        have e2:y.isEmpty=es.isEmpty:=by
         obtain ⟨y⟩:=y;cases y with
         | nil=>cases es with
          | nil=>rfl
          | cons _ _=>simp at hlen
         | cons _ _=>cases es with
          | nil=>simp at hlen
          | cons _ _=>rfl
        have e3:y.all (fun e=>decide (e.born>=last))=es.all fun e=>decide (last<=e.2.2):=by
         rw [<- Array.all_toList];exact (bW.all (fun n=>decide (last<=n)) J).symm
        rw [e1,e2,e3];cases z:(!seen.isEmpty&&!es.isEmpty&&es.all fun e=>decide (last<=e.2.2)) with
        | false=>rfl
        | true =>
         exfalso;simp only [Bool.and_eq_true,Bool.not_eq_true'] at z;exact Q ⟨(Z _).2 z.1.1,(Z _).2 z.1.2,z.2⟩
       have rl:=J.filter fun n=>!seen.contains n;have ro:=bW.filter (fun n=>decide (n<since)) rl;have rn:=bW.filter (fun n=>decide (since<=n)) rl;have ab:=ro.append rn
       let L:=y.filter fun e=>!seen.toArray.contains e.born
       let O:=L.filter fun e=>decide (e.born<since)
       let N:=L.filter fun e=>decide (e.born>=since)
       have hL:L.toList=y.toList.filter fun c=>!seen.contains c.born:=by simp [L]
       have ad:O.toList=(y.toList.filter fun c=>!seen.contains c.born).filter fun c=>decide (c.born<since):=by simp only [O,Array.toList_filter,hL]
       have a0:N.toList=(y.toList.filter fun c=>!seen.contains c.born).filter fun c=>decide (since<=c.born):=by simp only [N,Array.toList_filter,hL,ge_iff_le]
       rw [<- ad,<- a0] at ab;rw [<- ad] at ro;have a1:O.isEmpty=((es.filter fun e=>!seen.contains e.2.2).filter fun e=>decide (e.2.2<since)).isEmpty:=by
        have h1:=ro.length;cases z:O.isEmpty with
        | true =>
         have:O.toList=[]:=by simpa using z
         rw [this] at h1;have:((es.filter fun e=>!seen.contains e.2.2).filter fun e=>decide (e.2.2<since))=[]:=List.length_eq_zero_iff.1 (by simpa using h1);rw [this];rfl
        | false =>
         have:O.toList≠[]:=by intro e;rw [show O=#[] from by simpa using e] at z;simp at z
         cases a2:((es.filter fun e=>!seen.contains e.2.2).filter fun e=>decide (e.2.2<since)) with
         | nil=>rw [a2] at h1;simp only [List.length_nil] at h1;exact absurd (List.length_eq_zero_iff.1 h1.symm) this
         | cons _ _=>rfl
       let C:Array (Option MapEntry):=(if O.isEmpty then #[none] else #[])++(O++N).map some
       have S:0<C.size:=by
        simp only [C,Array.size_append,Array.size_map];cases z:O.isEmpty with
        | true=>simp only [if_true,List.size_toArray,List.length_cons];omega
        | false =>
         have:0<O.size:=by
          rcases Nat.eq_zero_or_pos O.size with h | h
          ·rw [Array.eq_empty_of_size_eq_zero h] at z;simp at z
          ·exact h
         simp;omega
       obtain ⟨k,w1,hk,A,ae,a3⟩:=run_choose (P:=P) S w;have al:∀ v w',(match C[k]? with
         | some (some e)=>(do setObj i.b (.mapIter (some j.b) since (seen.toArray.push e.born) clock);pure (.tuple #[.bool true,e.key,e.val]):Sem Value)
         | some none=>pure (.tuple #[.bool false])
         | none => stuck "Next: no such candidate").run P w1 = .ok v w' -> (Instr.next (I it) d type).run P w = .ok v w' := by
        intro v w' hv;simp only [F,h0,Nat.add_zero,M,Instr.next,Sem.run_bind,ri D (by simp),Result.andThen_ok,ri Y (by simp),R,Bool.false_eq_true,if_false];show Result.andThen ((choose (Question.mapNext C.size)).run P w) _=_;rw [a3];exact hv
       have U:∃ x,C[k]? = some x:=⟨C[k],Array.getElem?_eq_getElem hk⟩;obtain ⟨x,G⟩:=U;have am:Rel B γ s w1:=hr.of_heap A;have an:gq B γ s w γ s w1:=gq.of_heap A ae;cases x with
       | none =>
        have ao:O.isEmpty=true:=by
         cases z:O.isEmpty with
         | true=>rfl
         | false =>
          simp only [C,z,Bool.false_eq_true,if_false,Array.empty_append,Array.getElem?_map,Option.map_eq_some_iff] at G;obtain ⟨_,_,h⟩:=G;cases h
        refine ⟨(.aQ [.bool false],s),?_,γ,w1,.tuple #[.bool false],hex _ _ (al _ _ (by rw [G];rfl)),?_,an,am⟩
        ·rw [a1] at ao;rw [if_pos ao];simp
        ·simp only [ai];exact ⟨_,rfl,au.cons (by simp [ai]) au.nil⟩
       | some c =>
        have a4:∃ q:Nat,(O++N).toList[q]? = some c:=by
         simp only [C] at G;cases z:O.isEmpty with
         | true =>
          rw [z] at G;simp only [if_true] at G;rw [Array.getElem?_append] at G;split at G
          ·rename_i H;have:k=0:=by simpa using H
           subst this;simp at G
          ·simp only [Array.getElem?_map,Option.map_eq_some_iff,Option.some.injEq,exists_eq_right] at G;exact ⟨_,by rw [Array.getElem?_toList];exact G⟩
         | false =>
          rw [z] at G;simp only [Bool.false_eq_true,if_false,Array.empty_append,Array.getElem?_map,Option.map_eq_some_iff,Option.some.injEq,exists_eq_right] at G;exact ⟨k,by rw [Array.getElem?_toList];exact G⟩
        obtain ⟨q,z⟩:=a4;rw [Array.toList_append] at z;obtain ⟨e,he,v1,v2,v3⟩:=bW.mem ab z;have H:i.b<w1.heap.size:=by
         have:=(hr.obj r _ K);rw [A];rcases Nat.lt_or_ge i.b w.heap.size with h | h
         ·exact h
         ·rw [Array.getElem?_eq_none h] at D;cases D
        obtain ⟨g1,g2⟩:=am.write (w':={ w1 with heap:=w1.heap.setIfInBounds i.b (.mapIter (some j.b) since (seen.toArray.push c.born) clock) }) K rfl (o':=.fW (some m) since (seen++[e.2.2]) clock false) rfl hi rfl ⟨h0,j,hj,by simp [H,v3]⟩;refine ⟨(.aQ [.bool true,e.1,e.2.1],s.put r (.fW (some m) since (seen++[e.2.2]) clock false)),?_,γ,_,.tuple #[.bool true,c.key,c.val],hex _ _ (al _ _ (by rw [G];simp only [Sem.run_bind,wZ (show w1.heap[i.b]? = some (.mapIter (some j.b) since seen.toArray last) by rw [A];exact D) (by simp),Result.andThen_ok,Sem.run_pure])),?_,an.trans g2,g1⟩
        ·refine List.mem_append_right _ (List.mem_map.2 ⟨e,List.mem_of_getElem? he,rfl⟩)
        ·simp only [ai];exact ⟨_,rfl,au.cons (by simp [ai]) (au.cons v1 (au.cons v2 au.nil))⟩
     ·cases h
   ·rename_i b pos K;obtain ⟨j,hj,D,_⟩:=hr.obj r _ K;rw [hi] at hj;obtain rfl:=Option.some.inj hj;obtain ⟨h0,D⟩:=D;split at h
    ·rename_i hs;split at h
     ·rename_i H;obtain rfl:=Option.some.inj h;have ar:i.b<w.heap.size:=by
       rcases Nat.lt_or_ge i.b w.heap.size with h | h
       ·exact h
       ·rw [Array.getElem?_eq_none h] at D;cases D
      obtain ⟨g1,g2⟩:=hr.write (w':={ w with heap:=w.heap.setIfInBounds i.b (.stringIter ⟨b.toArray⟩ (pos+(Utf8.decode ⟨b.toArray⟩ pos).2)) }) K rfl (o':=.qp b (pos+(Utf8.decode ⟨b.toArray⟩ pos).2) false) rfl hi rfl ⟨h0,by simp [ar]⟩;refine ⟨_,List.mem_singleton.2 rfl,γ,_,.tuple #[.bool true,goInt pos,.int .i32 (Utf8.decode ⟨b.toArray⟩ pos).1],hex _ _ ?_,?_,g2,g1⟩
      ·have W:pos<(ByteArray.mk b.toArray).size:=by simpa [ByteArray.size] using H
       simp only [F,h0,Nat.add_zero,hs,Instr.next,Sem.run_bind,ri D (by simp),Result.andThen_ok,if_pos W];simp only [wZ D (by simp),Result.andThen_ok,Sem.run_pure]
      ·simp only [ai];exact ⟨_,rfl,au.cons (by simp [ai]) (au.cons (by simp [ai,goInt]) (au.cons (by simp [ai]) au.nil))⟩
     ·rename_i H;obtain rfl:=Option.some.inj h;refine ⟨_,List.mem_singleton.2 rfl,γ,w,.tuple #[.bool false],hex _ _ ?_,?_,gq.refl,hr⟩
      ·have W:¬ pos<(ByteArray.mk b.toArray).size:=by simpa [ByteArray.size] using H
       simp only [F,h0,Nat.add_zero,hs,Instr.next,Sem.run_bind,ri D (by simp),Result.andThen_ok,if_neg W,Sem.run_pure]
      ·simp only [ai];exact ⟨_,rfl,au.cons (by simp [ai]) au.nil⟩
    ·cases h
   ·cases h
  ·cases h
 ·cases h
end
section
abbrev Fr:=Nat->AV
def pq (f:Fr) (d:Nat) (v:AV):Fr:=fun t=>if t=d then v else f t
@[simp] theorem Sz (f:Fr) (d:Nat) (v:AV):pq f d v d=v:=by simp [pq]
theorem SA (f:Fr) {d t:Nat} (v:AV) (h:t≠d):pq f d v t=f t:=by simp [pq,h]
def bU (f:Fr) (d:Option Nat) (v:AV):Fr:=match d with | some d=>pq f d v | none=>f
structure oh (γ:bT) (n:Nat) (f:Fr) (a:Act):Prop where
 size:a.tmps.size=n
 defers:a.defers=[]
 vals:∀ t,ai γ (f t) (a.tmps.getD t undef)
theorem oh.mono {γ γ':bT} {n:Nat} {f:Fr} {a:Act} (h:oh γ n f a) (hle:bT.le γ γ'):oh γ' n f a:=⟨h.size,h.defers,fun t=>(h.vals t).mono hle⟩
theorem oh.eval {γ:bT} {n:Nat} {f:Fr} {a:Act} (h:oh γ n f a):∀ x,ai γ (pW f x) (a.eval x)
 | .tmp t=>h.vals t
 | .const v=>Fu γ v
 | .func g=>by simp only [pW,Act.eval,ai];exact ⟨_,rfl,au.nil⟩
 | .global _=>by simp [pW,ai]
def eu (n:Nat):Option Nat->Bool
 | some d=>decide (d<n)
 | none=>true
theorem oh.put {γ:bT} {n:Nat} {f:Fr} {a:Act} (h:oh γ n f a) {d:Option Nat} {v:AV} {c:Value} (hd:eu n d=true) (hv:ai γ v c):oh γ n (bU f d v) (a.put d c):=by
 cases d with
 | none=>exact h
 | some d =>
  have b:d<n:=by simpa [eu] using hd
  refine ⟨by simp [Act.put,h.size],h.defers,fun t=>?_⟩;simp only [bU,pq,Act.put];by_cases ht:t=d
  ·subst ht;have:(a.tmps.setIfInBounds t c).getD t undef=c:=by simp [Array.getD,h.size,b]
   rw [if_pos rfl,this];exact hv
  ·rw [if_neg ht];have:=h.vals t;have e:(a.tmps.setIfInBounds d c).getD t undef=a.tmps.getD t undef:=by
    simp only [Array.getD_eq_getD_getElem?];rw [Array.getElem?_setIfInBounds_ne (fun e=>ht e.symm)]
   rw [e];exact this
def v_ (B:Nat) (γ:bT) (s:AS) (w:World) (n:Nat) (Q:Exit->Fr->AS->Prop):Exit->Act->World->Prop:=fun e a' w' =>
 ∃ γ' f' s',oh γ' n f' a'/\gq B γ s w γ' s' w'/\Rel B γ' s' w'/\Q e f' s'
def kX (P:Program) (n:Nat) (c:Code) (f:Fr) (s:AS) (Q:Exit->Fr->AS->Prop):Prop :=
 ∀ (B:Nat) (γ:bT) (a:Act) (w:World),oh γ n f a->Rel B γ s w->c.wp P (v_ B γ s w n Q) a w
def DZ (K:Fr->AS->Prop) (Q:Exit->Fr->AS->Prop):Exit->Fr->AS->Prop
 | .normal,f,s=>K f s
 | e,f,s=>Q e f s
def zw (id:Nat) (Q:Exit->Fr->AS->Prop):Exit->Fr->AS->Prop
 | .exit b,f,s=>if b=id then Q .normal f s else Q (.exit b) f s
 | e,f,s=>Q e f s
def SB (Q:Exit->Fr->AS->Prop):Exit->Fr->AS->Prop
 | .goto _,_,_=>False
 | e,f,s=>Q e f s
theorem v_.trans {B:Nat} {γ γ':bT} {s s':AS} {w w':World} {n:Nat} {Q:Exit->Fr->AS->Prop} (hd:gq B γ s w γ' s' w') {e:Exit} {a:Act} {w'':World} (h:v_ B γ' s' w' n Q e a w''):v_ B γ s w n Q e a w'':=by
 obtain ⟨b,f2,s2,c,h2,h3,h4⟩:=h;exact ⟨b,f2,s2,c,hd.trans h2,h3,h4⟩
section
variable {P:Program} {n:Nat} {f:Fr} {s:AS} {Q:Exit->Fr->AS->Prop}
theorem kX.mono {c:Code} {Q':Exit->Fr->AS->Prop} (h:kX P n c f s Q) (b:∀ e f s,Q e f s->Q' e f s):kX P n c f s Q' :=
 fun B γ a w hf hr=>wp_mono (h B γ a w hf hr) fun e a' w' ⟨γ',f',s',d,h2,h3,h4⟩=>⟨γ',f',s',d,h2,h3,b _ _ _ h4⟩
theorem kX.skip (h:Q .normal f s):kX P n .skip f s Q:=fun B γ a w hf hr=>wp_skip ⟨γ,f,s,hf,gq.refl,hr,h⟩
theorem kX.label {l:Nat} (h:Q .normal f s):kX P n (.label l) f s Q:=fun B γ a w hf hr=>wp_label ⟨γ,f,s,hf,gq.refl,hr,h⟩
theorem kX.exit {id:Nat} (h:Q (.exit id) f s):kX P n (.exit id) f s Q:=fun B γ a w hf hr=>wp_exit ⟨γ,f,s,hf,gq.refl,hr,h⟩
theorem kX.ret (h:Q .ret f s):kX P n .ret f s Q:=fun B γ a w hf hr=>wp_ret ⟨γ,f,s,hf,gq.refl,hr,h⟩
theorem kX.seq {x y:Code} (h:kX P n x f s (DZ (fun f s=>kX P n y f s Q) Q)):kX P n (.seq x y) f s Q:=by
 intro B γ a w hf hr;refine wp_seq (wp_mono (h B γ a w hf hr) ?_);rintro e a' w' ⟨γ',f',s',b,h2,h3,h4⟩;cases e with
 | normal=>exact wp_mono (h4 B γ' a' w' b h3) fun e a w c=>v_.trans h2 c
 | _=>exact ⟨γ',f',s',b,h2,h3,h4⟩
theorem kX.cond {c:Operand} {x y:Code} {t:Bool} (b:pW f c=.bool t) (h:kX P n (if t then x else y) f s Q):kX P n (.cond c x y) f s Q:=by
 intro B γ a w hf hr;have hv:=hf.eval c;rw [b] at hv;simp only [ai] at hv;exact wp_cond hv (h B γ a w hf hr)
theorem kX.block {id:Nat} {c:Code} (h:kX P n c f s (zw id Q)):kX P n (.block id c) f s Q:=by
 intro B γ a w hf hr;refine wp_block (wp_mono (h B γ a w hf hr) ?_);rintro e a' w' ⟨γ',f',s',d,h2,h3,h4⟩;cases e with
 | exit i =>
  simp only [zw] at h4;simp only [Exit.inBlock];split
  ·rename_i b;rw [if_pos b] at h4;exact ⟨γ',f',s',d,h2,h3,h4⟩
  ·rename_i b;rw [if_neg b] at h4;exact ⟨γ',f',s',d,h2,h3,h4⟩
 | _=>exact ⟨γ',f',s',d,h2,h3,h4⟩
theorem kX.scope {c:Code} (h:kX P n c f s (SB Q)):kX P n (.scope c) f s Q:=by
 intro B γ a w hf hr;refine wp_scope_straight (wp_mono (h B γ a w hf hr) ?_);rintro e a' w' ⟨γ',f',s',b,h2,h3,h4⟩;cases e with
 | goto l=>exact h4.elim
 | _=>exact ⟨γ',f',s',b,h2,h3,h4⟩
theorem kX.loop {c:Code} (I:Nat->Fr->AS->Prop) (m:Nat) (b:I m f s)
  (round:∀ m f s,I m f s->kX P n c f s (DZ (fun f' s'=>∃ m',m'<m/\I m' f' s') Q)):kX P n (.loop c) f s Q:=by
 intro B γ a w hf hr;refine wp_loop_ghost (fun m a' w'=>∃ γ' f' s',oh γ' n f' a'/\gq B γ s w γ' s' w'/\Rel B γ' s' w'/\I m f' s') m ⟨γ,f,s,hf,gq.refl,hr,b⟩ ?_;rintro m a' w' ⟨γ',f',s',o,h2,h3,h4⟩;refine wp_mono (round m f' s' h4 B γ' a' w' o h3) ?_;rintro e a2 w2 ⟨d,f2,s2,i,j,k,l⟩;cases e with
 | normal=>obtain ⟨m',hm,p⟩:=l;exact ⟨m',hm,d,f2,s2,i,h2.trans j,k,p⟩
 | _=>exact ⟨d,f2,s2,i,h2.trans j,k,l⟩
end
def gB (P:Program) (g:FuncId):Bool :=
 match P.funcs[g]? with
 | some fn => !(fn.name == "runtime.NumGoroutine") && !fn.body.isNone
 | none=>false
theorem mP {P:Program} {g:FuncId} (h:gB P g=true) (args:Array Value) (w:World):(callFunc g args).run P w=.ok (.enter g args) w:=by
 unfold gB at h;cases hf:P.funcs[g]? with
 | none=>simp [hf] at h
 | some fn =>
  simp only [hf,Bool.and_eq_true,Bool.not_eq_true'] at h;simp only [callFunc,Sem.run_bind,run_program,Result.andThen_ok,hf,h.1,h.2,Bool.false_eq_true,if_false,Sem.run_pure]
def P_ (P:Program) (g:FuncId) (b:Array Value) (w:World) (R:Ending->World->Prop):Prop :=
 ((callFunc g b).run P w=.ok (.enter g b) w/\Calls P g b w R)\/∃ cv w',(callFunc g b).run P w=.ok (.value cv) w'/\R (.returned cv) w'
theorem P_.mono {P:Program} {g:FuncId} {b:Array Value} {w:World} {R R':Ending->World->Prop} (h:P_ P g b w R) (hr:∀ e w,R e w->R' e w):P_ P g b w R':=by
 rcases h with ⟨c,h2⟩ | ⟨cv,w',c,h2⟩
 ·exact .inl ⟨c,h2.mono hr⟩
 ·exact .inr ⟨cv,w',c,hr _ _ h2⟩
def aa (P:Program) (g:FuncId) (args:List AV) (s:AS) (R:AV->AS->Prop):Prop :=
 ∀ (B:Nat) (γ:bT) (b:Array Value) (w:World),au γ args b.toList->Rel B γ s w ->
  P_ P g b w fun e w'=>∃ γ' v cv s',e=.returned cv/\ai γ' v cv/\gq B γ s w γ' s' w'/\Rel B γ' s' w'/\R v s'
theorem aa.mono {P:Program} {g:FuncId} {args:List AV} {s:AS} {R R':AV->AS->Prop} (h:aa P g args s R) (hr:∀ v s,R v s->R' v s):aa P g args s R' :=
 fun B γ ca w i h2=>(h B γ ca w i h2).mono fun e w' ⟨γ',v,cv,s',a,b,c,d,e⟩=>⟨γ',v,cv,s',a,b,c,d,hr _ _ e⟩
def dB (ops:Array Oper) (f:Fr) (o:Oper):Option Bool :=
 match o.guard with
 | none=>some true
 | some (j,want) =>
  match (ops[j]?).bind (·.dst) with
  | some d=>match f d with
   | .bool b=>some (b==want)
   | .aQ _=>some false
   | _=>none
  | none=>some false
theorem eJ {γ:bT} {n:Nat} {f:Fr} {a:Act} (h:oh γ n f a) {ops:Array Oper} {o:Oper} {b:Bool} (e:dB ops f o=some b):Region.wanted o (yielded ops a.tmps)=b:=by
 unfold dB at e;unfold Region.wanted;cases r:o.guard with
 | none=>simp only [r] at e ⊢;exact Option.some.inj e
 | some p =>
  obtain ⟨j,want⟩:=p;simp only [r] at e ⊢;unfold yielded;cases hd:(ops[j]?).bind (·.dst) with
  | none=>simp only [hd] at e ⊢;simpa using e
  | some d =>
   simp only [hd] at e;have hv:=h.vals d;simp only [Option.bind_some];split at e
   ·rename_i c m;rw [m] at hv;simp only [ai] at hv;obtain rfl:=Option.some.inj e;have:a.tmps[d]? = some (.bool c):=by
     rw [Array.getD_eq_getD_getElem?] at hv;cases i:a.tmps[d]? with
     | none=>rw [i] at hv;simp [undef] at hv
     | some u=>rw [i] at hv;simp at hv;rw [hv]
    rw [this];simp
   ·rename_i l m;rw [m] at hv;simp only [ai] at hv;obtain ⟨cs,k,_⟩:=hv;obtain rfl:=Option.some.inj e;have:∀ c,a.tmps[d]? ≠ some (.bool c):=by
     intro c i;rw [Array.getD_eq_getD_getElem?,i] at k;simp at k
    cases i:a.tmps[d]? with
    | none=>rfl
    | some u=>cases u <;> first | rfl | exact (this _ i).elim
   ·cases e
def fq (f:Fr):Op->Option (FuncId×List AV)
 | .call c=>match c.callee with
  | .value x=>match pW f x with
   | .func g cap=>some (g,c.args.toList.map (pW f)++cap)
   | .uS g ft cap=>some (g,ft++(c.args.toList.map (pW f)++cap))
   | _=>none
  | _=>none
 | _=>none
def Gl (P:Program) (T:TT) (n:Nat) (o:Oper) (f:Fr) (s:AS) (K:Fr->AS->Prop):Prop :=
 eu n o.dst=true /\
 ((match fq f o.op with
 | some (g,args)=>aa P g args s fun v s'=>K (bU f o.dst v) s'
 | none=>∃ v s',cO T o.op (pW f) s=some (v,s')/\K (bU f o.dst v) s') \/
 ∃ l,DW o.op (pW f) s=some l/\∀ p∈l,K (bU f o.dst p.1) p.2)
def zx:Op->Bool
 | .next ..=>true
 | _=>false
theorem zy {op:Op} (h:zx op=false) (ρ:Operand->AV) (s:AS):DW op ρ s=none:=by
 cases op <;> first | rfl | cases h
def fI (P:Program) (T:TT) (n:Nat) (ops:Array Oper):List Oper->Fr->AS->(Fr->AS->Prop)->Prop
 | [],f,s,K=>K f s
 | o::rest,f,s,K=>match dB ops f o with
  | some true=>Gl P T n o f s fun f' s'=>fI P T n ops rest f' s' K
  | some false=>eu n o.dst=true/\fI P T n ops rest (bU f o.dst .undef) s K
  | none=>False
theorem D0 {γ:bT} {n:Nat} {f:Fr} {a:Act} (h:oh γ n f a) {o:Oper} {g:FuncId} {args:List AV} (e:fq f o.op=some (g,args)) {P:Program} (w:World) :
  ∃ b:Array Value,au γ args b.toList/\(execOp a.eval o).run P w=(callFunc g b).run P w:=by
 obtain ⟨dst,op,type,pos,after,guard⟩:=o;simp only at e;unfold fq at e;split at e
 ·rename_i c;split at e
  ·rename_i x l;split at e
   ·rename_i m cap hv;obtain ⟨rfl,rfl⟩:_/\_:=by simpa using e
    have i:=h.eval x;rw [hv] at i;simp only [ai] at i;obtain ⟨cc,j,d⟩:=i;refine ⟨(c.args.map a.eval)++cc,?_,?_⟩
    ·rw [Array.toList_append,Array.toList_map];exact (pn h.eval c.args.toList).append d
    ·simp only [execOp,resolve,l,j,Deferred.ofValue,Sem.run_bind,Sem.run_pure,Result.andThen_ok,invoke];have:(#[]:Array Value)++c.args.map a.eval=c.args.map a.eval:=by simp
     rw [this]
   ·rename_i m ft cap hv;obtain ⟨rfl,rfl⟩:_/\_:=by simpa using e
    have i:=h.eval x;rw [hv] at i;simp only [ai] at i;obtain ⟨cf,cc,j,k,d⟩:=i;refine ⟨(cf++c.args.map a.eval)++cc,?_,?_⟩
    ·rw [Array.toList_append,Array.toList_append,Array.toList_map,List.append_assoc];exact k.append ((pn h.eval c.args.toList).append d)
    ·simp only [execOp,resolve,l,j,Deferred.ofValue,Sem.run_bind,Sem.run_pure,Result.andThen_ok,invoke]
   ·cases e
  ·cases e
 ·cases e
theorem jT {P:Program} {T:TT} (hT:TT.Ok P T) {n:Nat} {o:Oper} {f:Fr} {s:AS} {K:Fr->AS->Prop} (h:Gl P T n o f s K) {B:Nat} {γ:bT} {a:Act} {w:World} (hf:oh γ n f a) (hr:Rel B γ s w)
  {next:Act->World->Prop} {Q:Exit->Act->World->Prop} (k:∀ γ' f' s' a' w',oh γ' n f' a'->gq B γ s w γ' s' w'->Rel B γ' s' w'->K f' s'->next a' w'):o.wp P a w next Q:=by
 obtain ⟨hd,h⟩:=h;unfold Oper.wp;rcases h with h | ⟨l,y,h⟩
 rotate_left
 ·obtain ⟨p,hp,γ',w',cv,c,hv,b,hr'⟩:=IZ (P:=P) hr hf.eval y;rw [c];exact k γ' _ p.2 _ w' ((hf.mono b.le).put hd hv) b hr' (h p hp)
 split at h
 ·rename_i g args z;obtain ⟨d,i,c⟩:=D0 hf z (P:=P) w;rw [c];rcases h B γ d w i hr with ⟨m,h2⟩ | ⟨cv,w',m,γ',v,A,s',e,hv,b,hr',j⟩
  ·rw [m];simp only [Oper.upon];refine h2.mono ?_;rintro e w' ⟨γ',v,cv,s',rfl,hv,b,hr',j⟩;exact k γ' _ s' _ w' ((hf.mono b.le).put hd hv) b hr' j
  ·rw [m];injection e with e
   subst e;exact k γ' _ s' _ w' ((hf.mono b.le).put hd hv) b hr' j
 ·obtain ⟨v,s',r,j⟩:=h;obtain ⟨γ',w',nx,cv,c,x,hv,b,hr'⟩:=P8 hT hr hf.eval r;rw [c];rcases x with rfl | ⟨rfl,rfl⟩
  ·exact k γ' _ s' _ w' ((hf.mono b.le).put hd hv) b hr' j
  ·exact k γ' _ s' _ w' ((hf.mono b.le).put hd hv) b hr' j
theorem w_ {P:Program} {T:TT} (hT:TT.Ok P T) {n:Nat} {ops:Array Oper} {Q:Exit->Fr->AS->Prop} {B:Nat} {Gm:bT} {s0:AS} {w0:World}:∀ (l:List Nat) (os:List Oper) (f:Fr) (s:AS) (γ:bT) (a:Act) (w:World),
  l.map (ops[·]?)=os.map some->fI P T n ops os f s (fun f s=>Q .normal f s)->oh γ n f a->Rel B γ s w->gq B Gm s0 w0 γ s w->wpOps P ops (v_ B Gm s0 w0 n Q) l a w
 | [],os,f,s,γ,a,w,b,h,hf,hr,hd=>by
  cases os with
  | nil=>exact ⟨γ,f,s,hf,hd,hr,h⟩
  | cons _ _=>simp at b
 | i::l,os,f,s,γ,a,w,b,h,hf,hr,hd=>by
  cases os with
  | nil=>simp at b
  | cons o os =>
   simp only [List.map_cons,List.cons.injEq] at b;simp only [wpOps,b.1];simp only [fI] at h;split at h
   ·rename_i c;rw [eJ hf c,if_pos rfl];exact .inl (jT hT h hf hr fun γ' f' s' a' w' d h2 h3 h4=>w_ hT l os f' s' γ' a' w' b.2 h4 d h3 (hd.trans h2))
   ·rename_i c;rw [eJ hf c,if_neg (by simp)];exact w_ hT l os _ s γ _ w b.2 h.2 (hf.put h.1 (pX γ)) hr hd
   ·exact h.elim
theorem kX.region {P:Program} {T:TT} (hT:TT.Ok P T) {n:Nat} {id:Nat} {ops:Array Oper} {f:Fr} {s:AS} {Q:Exit->Fr->AS->Prop} (h:fI P T n ops ops.toList f s fun f s=>Q .normal f s) :
  kX P n (.region id ops false) f s Q:=by
 intro B γ a w hf hr;refine wp_region (w_ hT (List.range ops.size) ops.toList f s γ a w ?_ h hf hr gq.refl);apply List.ext_getElem?;intro i;simp only [List.getElem?_map];by_cases hi:i<ops.size
 ·simp [hi]
 ·have:ops.toList[i]? = none:=List.getElem?_eq_none (by simpa using hi);rw [this,List.getElem?_eq_none (by simpa using hi)];rfl
def yM (T:TT) (rs:List ResultVar) (f:Fr) (s:AS):Option AV :=
 (Ei rs).map fun vs=>match vs with | [v]=>v | vs=>.aQ vs
where
 Ei:List ResultVar->Option (List AV)
  | []=>some []
  | .tmp t::rs=>(Ei rs).map fun vs=>f t::vs
  | .cell a t::rs=>(HY T t s (f a)).bind fun v=>(Ei rs).map fun vs=>v::vs
def XZ (tmps:Array Value):ResultVar->Sem Value
 | .tmp t=>pure (tmps.getD t undef)
 | .cell x t=>do loadVar t (<- asAddr (tmps.getD x undef))
theorem xe {P:Program} {T:TT} (hT:TT.Ok P T) {B:Nat} {γ:bT} {n:Nat} {f:Fr} {s:AS} {a:Act} {w:World} (hf:oh γ n f a) (hr:Rel B γ s w) {fn:Func} {v:AV} (h:yM T fn.results.toList f s=some v) :
  ∃ cv,(results fn a.tmps).run P w=.ok cv w/\ai γ v cv:=by
 unfold yM at h;simp only [Option.map_eq_some_iff] at h;obtain ⟨vs,p,e⟩:=h;have key:∀ (F:ResultVar->Sem Value),(∀ t,F (.tmp t)=pure (a.tmps.getD t undef))->(∀ x t,F (.cell x t)=do loadVar t (<- asAddr (a.tmps.getD x undef))) ->
   ∀ (rs:List ResultVar) (vs:List AV),yM.Ei T f s rs=some vs->∃ Eg:List Value,(rs.mapM F).run P w=.ok Eg w/\au γ vs Eg:=by
  intro F y z rs
  induction rs with
  | nil=>intro vs h;simp only [yM.Ei] at h;obtain rfl:=Option.some.inj h;exact ⟨[],rfl,au.nil⟩
  | cons r rs H =>
   intro vs h;cases r with
   | tmp t =>
    simp only [yM.Ei,Option.map_eq_some_iff] at h;obtain ⟨us,k,rfl⟩:=h;obtain ⟨Eg,j,h2⟩:=H us k;exact ⟨_,by simp only [List.mapM_cons,Sem.run_bind,y,Sem.run_pure,Result.andThen_ok,j],au.cons (hf.vals t) h2⟩
   | cell x t =>
    simp only [yM.Ei,Option.bind_eq_some_iff,Option.map_eq_some_iff] at h;obtain ⟨u,hu,us,k,rfl⟩:=h;obtain ⟨Eg,j,h2⟩:=H us k;have A:=hf.vals x;have hp:∃ l o,f x=.ptr (some (l,o)):=by
     unfold HY at hu;split at hu
     ·rename_i l o e;exact ⟨l,o,e⟩
     ·cases hu
    obtain ⟨l,o,hp⟩:=hp;rw [hp] at A hu;simp only [ai] at A;obtain ⟨i,hi,C⟩:=A;obtain ⟨cv,b,hv⟩:=P1 hT hr hi hu;exact ⟨_,by simp only [List.mapM_cons,Sem.run_bind,z,C,asAddr,b,Sem.run_pure,Result.andThen_ok,j],au.cons hv h2⟩
 have m:∃ Eg:List Value,(results fn a.tmps).run P w=.ok (if h:Eg.toArray.size=1 then Eg.toArray[0] else .tuple Eg.toArray) w/\au γ vs Eg:=by
  have I:results fn a.tmps=(do let vs <- fn.results.mapM (XZ a.tmps);pure (if h:vs.size=1 then vs[0] else .tuple vs)):=rfl;rw [I];simp only [Sem.run_bind];rw [Array.mapM_eq_mapM_toList];obtain ⟨Eg,j,h2⟩:=key (XZ a.tmps) (fun _=>rfl) (fun _ _=>rfl) fn.results.toList vs p;exact ⟨Eg,by simp only [Sem.run_map,j,Result.andThen_ok,Sem.run_pure],h2⟩
 obtain ⟨Eg,b,c⟩:=m;refine ⟨_,b,?_⟩;subst e;split
 ·obtain ⟨d,ds,rfl,hd,D⟩:=au.cN.1 c;obtain rfl:=au.iL.1 D;rw [dif_pos (by simp)];exact hd
 ·rename_i J G;have hlen:=c.length;have:¬ Eg.toArray.size=1:=by
   intro j;simp only [List.size_toArray] at j;obtain ⟨v,rfl⟩:=List.length_eq_one_iff.1 (hlen.trans j);exact G v rfl
  rw [dif_neg this];simp only [ai];exact ⟨_,rfl,c⟩
def sq (args:List AV):Fr:=fun t=>args.getD t .undef
theorem aa.U0 {P:Program} {T:TT} (hT:TT.Ok P T) {g:FuncId} {fn:Func} {c:Code} {args:List AV} {s:AS} {R:AV->AS->Prop} (hf:P.funcs[g]? = some fn) (p:gB P g=true) (hb:fn.body=some c)
  (h:kX P (args.length+(fn.ntmps - args.length)) c (sq args) s fun e f s'=>match e with
   | .normal | .ret=>∃ v,yM T fn.results.toList f s'=some v/\R v s'
   | _=>False):aa P g args s R:=by
 refine fun B γ b w i hr=>.inl ⟨mP p _ w,calls_of_wp hf hb ?_⟩;have hlen:=i.length;simp only [Array.length_toList] at hlen;have n:oh γ (args.length+(fn.ntmps - args.length)) (sq args) { tmps:=b++Array.replicate (fn.ntmps - b.size) undef,defers:=[] }:=by
  refine ⟨by simp [hlen],rfl,fun t=>?_⟩;simp only [sq,Array.getD_eq_getD_getElem?,List.getD_eq_getElem?_getD];by_cases ht:t<args.length
  ·obtain ⟨cv,k,d⟩:=i.get (List.getElem?_eq_getElem ht);rw [Array.getElem?_append_left (by omega)];rw [Array.getElem?_toList] at k;rw [k,List.getElem?_eq_getElem ht];exact d
  ·rw [List.getElem?_eq_none (by omega)];have:((b++Array.replicate (fn.ntmps - b.size) undef)[t]?).getD undef=undef:=by
    rw [Array.getElem?_append_right (by omega)];by_cases r:t - b.size<fn.ntmps - b.size
    ·simp [r]
    ·rw [Array.getElem?_eq_none (by simp;omega)];rfl
   rw [this];exact pX γ
 refine wp_mono (h B γ _ w n hr) ?_;rintro e a' w' ⟨γ',f',s',m,h2,h3,h4⟩;cases e with
 | normal =>
  obtain ⟨v,hv,o⟩:=h4;obtain ⟨cv,j,d⟩:=xe hT m h3 hv;exact ⟨m.defers,cv,j,γ',v,cv,s',rfl,d,h2,h3,o⟩
 | ret =>
  obtain ⟨v,hv,o⟩:=h4;obtain ⟨cv,j,d⟩:=xe hT m h3 hv;exact ⟨m.defers,cv,j,γ',v,cv,s',rfl,d,h2,h3,o⟩
 | exit id=>exact h4.elim
 | goto l=>exact h4.elim
 | panic x=>exact h4.elim
 | outgrown=>exact h4.elim
end
end Go.Am
