/-
  A part of the proof: an abstract machine over the model, and contracts of functions of this program over it.
-/
import Derived.Orders
import Derived.Laws.Sem
import Derived.Laws.World
import GoSem.Dispatch
import Derived.Laws.Strings
import Derived.IntWalk
import Derived.Deep.LoopGhost
import Derived.Scope
set_option linter.unusedVariables false
set_option linter.unusedSimpArgs false
set_option linter.unusedSectionVars false
section
namespace Go.Am
structure CI where
 b:Nat
 d:Nat
 x:Nat
abbrev bM:=Nat→Option CI
inductive AV where
 | int (k:IntKind) (n:Int)
 | bool (b:Bool)
 | str (s:List UInt8)
 | ptr (a:Option (Nat×Nat))
 | slc (a:Option (Nat×Nat)) (len cap:Nat) (ex:Bool)
 | emp
 | map (r:Option Nat)
 | func (fn:FuncId) (captured:List AV)
 | uE (fn:FuncId) (first captured:List AV)
 | nilFunc
 | Xj (l:Nat)
 | iface (t:TypeId) (v:AV)
 | nilIface
 | agg (l:List AV)
 | aQ (l:List AV)
 | bad
 deriving Inhabited
abbrev AV.undef:AV:=.aQ []
def AV.cells:AV→List AV
 | .agg l=>l
 | v=>[v]
mutual
def ah (γ:bM):AV→Value→Prop
 | .int k n,c=>c=.int k n
 | .bool b,c=>c=.bool b
 | .str s,c=>c=.string ⟨s.toArray⟩
 | .ptr none,c=>c=.pointer none
 | .ptr (some (l,o)),c=>∃ i,γ l=some i∧c=.pointer (some ⟨i.b,i.d+o,none⟩)
 | .slc none n m e,c=>c=.slice none n m∧e=true
 | .slc (some (l,o)) n m e,c=>∃ i,γ l=some i∧c=.slice (some ⟨i.b,i.d+o,none⟩) n (if e then m else m+i.x)
 | .emp,c=>∃ a m,c=.slice (some a) 0 m
 | .map none,c=>c=.map none
 | .map (some l),c=>∃ i,γ l=some i∧c=.map (some i.b)
 | .func f cap,c=>∃ cc,c=.func (.func f) #[] cc∧ak γ cap cc.toList
 | .uE f ft cap,c=>∃ cf cc,c=.func (.func f) cf cc∧ak γ ft cf.toList∧ak γ cap cc.toList
 | .nilFunc,c=>c=.nilFunc
 | .Xj l,c=>c=.func (.yield l) #[] #[]
 | .iface t v,c=>∃ cv,c=.iface t cv∧ah γ v cv
 | .nilIface,c=>c=.nilIface
 | .agg l,c=>∃ cs,c=.agg cs∧ak γ l cs.toList
 | .aQ l,c=>∃ cs,c=.tuple cs∧ak γ l cs.toList
 | .bad,_=>True
def ak (γ:bM):List AV→List Value→Prop
 | [],c=>c=[]
 | v::vs,c=>∃ d ds,c=d::ds∧ah γ v d∧ak γ vs ds
end
def bM.le (γ γ':bM):Prop:=∀ l i,γ l=some i→γ' l=some i
theorem bM.le_refl (γ:bM):bM.le γ γ:=fun _ _ h=>h
theorem bM.le_trans {a b c:bM} (h:bM.le a b) (h':bM.le b c):bM.le a c:=fun l i e=>h' l i (h l i e)
mutual
theorem ah.mono {γ γ':bM} (h:bM.le γ γ'):∀ {v:AV} {c:Value},ah γ v c→ah γ' v c
 | .int _ _,_,e=>by simpa [ah] using e
 | .bool _,_,e=>by simpa [ah] using e
 | .str _,_,e=>by simpa [ah] using e
 | .ptr none,_,e=>by simpa [ah] using e
 | .ptr (some (l,o)),_,e=>by
  simp only [ah] at e ⊢;obtain ⟨i,hi,e⟩:=e;exact ⟨i,h l i hi,e⟩
 | .slc none _ _ _,_,e=>by simpa [ah] using e
 | .slc (some (l,o)) _ _ _,_,e=>by
  simp only [ah] at e ⊢;obtain ⟨i,hi,e⟩:=e;exact ⟨i,h l i hi,e⟩
 | .emp,_,e=>by simpa [ah] using e
 | .map none,_,e=>by simpa [ah] using e
 | .map (some l),_,e=>by
  simp only [ah] at e ⊢;obtain ⟨i,hi,e⟩:=e;exact ⟨i,h l i hi,e⟩
 | .func f cap,_,e=>by
  simp only [ah] at e ⊢;obtain ⟨i,hi,e⟩:=e;exact ⟨i,hi,ak.mono h e⟩
 | .uE f ft cap,_,e=>by
  simp only [ah] at e ⊢;obtain ⟨i,j,hi,e1,e2⟩:=e;exact ⟨i,j,hi,ak.mono h e1,ak.mono h e2⟩
 | .nilFunc,_,e=>by simpa [ah] using e
 | .Xj _,_,e=>by simpa [ah] using e
 | .iface t v,_,e=>by
  simp only [ah] at e ⊢;obtain ⟨i,hi,e⟩:=e;exact ⟨i,hi,ah.mono h e⟩
 | .nilIface,_,e=>by simpa [ah] using e
 | .agg l,_,e=>by
  simp only [ah] at e ⊢;obtain ⟨i,hi,e⟩:=e;exact ⟨i,hi,ak.mono h e⟩
 | .aQ l,_,e=>by
  simp only [ah] at e ⊢;obtain ⟨i,hi,e⟩:=e;exact ⟨i,hi,ak.mono h e⟩
 | .bad,_,_=>by simp [ah]
theorem ak.mono {γ γ':bM} (h:bM.le γ γ'):∀ {v:List AV} {c:List Value},ak γ v c→ak γ' v c
 | [],_,e=>by simpa [ak] using e
 | v::vs,_,e=>by
  simp only [ak] at e ⊢;obtain ⟨d,ds,rfl,hv,hs⟩:=e;exact ⟨d,ds,rfl,ah.mono h hv,ak.mono h hs⟩
end
theorem ak.gQ {γ:bM} {c:List Value}:ak γ [] c↔c=[]:=by simp [ak]
theorem ak.cE {γ:bM} {v:AV} {vs:List AV} {c:List Value}:ak γ (v::vs) c↔∃ d ds,c=d::ds∧ah γ v d∧ak γ vs ds:=by simp [ak]
theorem ak.cons {γ:bM} {v:AV} {vs:List AV} {d:Value} {ds:List Value} (h:ah γ v d) (hs:ak γ vs ds):ak γ (v::vs) (d::ds):=by
 simp only [ak];exact ⟨d,ds,rfl,h,hs⟩
theorem ak.nil {γ:bM}:ak γ [] []:=by simp [ak]
theorem ak.eS {γ:bM}:∀ {vs:List AV} {cs:List Value},ak γ vs cs↔vs.length=cs.length∧∀ (i:Nat) v c,vs[i]? = some v→cs[i]? = some c→ah γ v c
 | [],cs=>by
  constructor
  ·intro h;obtain rfl:=ak.gQ.1 h;simp
  ·intro ⟨h,_⟩;simp at h;obtain rfl:cs=[]:=List.length_eq_zero_iff.1 h.symm;exact ak.nil
 | v::vs,cs=>by
  constructor
  ·intro h
   obtain ⟨d,ds,rfl,hv,hs⟩:=ak.cE.1 h
   obtain ⟨hl,hg⟩:=ak.eS.1 hs
   refine ⟨by simp [hl],fun i a b ha hb=>?_⟩
   cases i with
   | zero=>simp at ha hb;subst ha;subst hb;exact hv
   | succ i=>simp at ha hb;exact hg i a b ha hb
  ·intro ⟨hl,hg⟩
   cases cs with
   | nil=>simp at hl
   | cons d ds =>
    exact ak.cons (hg 0 v d rfl rfl) (ak.eS.2 ⟨by simpa using hl,fun i a b ha hb=>hg (i+1) a b (by simpa using ha) (by simpa using hb)⟩)
theorem ak.length {γ:bM} {vs:List AV} {cs:List Value} (h:ak γ vs cs):vs.length=cs.length:=(ak.eS.1 h).1
theorem ak.get {γ:bM} {vs:List AV} {cs:List Value} (h:ak γ vs cs) {i:Nat} {v:AV} (hv:vs[i]? = some v):∃ c,cs[i]? = some c∧ah γ v c:=by
 obtain ⟨hl,hg⟩:=ak.eS.1 h
 have hi:i<vs.length:=by
  rcases Nat.lt_or_ge i vs.length with h | h
  ·exact h
  ·simp [List.getElem?_eq_none h] at hv
 exact ⟨cs[i]'(by omega),by simp [List.getElem?_eq_getElem (show i<cs.length by omega)],hg i v _ hv (by simp [List.getElem?_eq_getElem (show i<cs.length by omega)])⟩
theorem ak.append {γ:bM}:∀ {vs us:List AV} {cs ds:List Value},ak γ vs cs→ak γ us ds→ak γ (vs++us) (cs++ds)
 | [],us,cs,ds,h,h'=>by obtain rfl:=ak.gQ.1 h;simpa using h'
 | v::vs,us,cs,ds,h,h'=>by
  obtain ⟨d,es,rfl,hv,hs⟩:=ak.cE.1 h
  exact ak.cons hv (ak.append hs h')
theorem ak.drop {γ:bM} {vs:List AV} {cs:List Value} (h:ak γ vs cs) (n:Nat):ak γ (vs.drop n) (cs.drop n):=by
 obtain ⟨hl,hg⟩:=ak.eS.1 h
 exact ak.eS.2 ⟨by simp [hl],fun i a b ha hb=>hg (n+i) a b (by simpa using ha) (by simpa using hb)⟩
theorem ak.take {γ:bM} {vs:List AV} {cs:List Value} (h:ak γ vs cs) (n:Nat):ak γ (vs.take n) (cs.take n):=by
 obtain ⟨hl,hg⟩:=ak.eS.1 h
 refine ak.eS.2 ⟨by simp [hl],fun i a b ha hb=>?_⟩
 rw [List.getElem?_take] at ha hb
 split at ha
 ·rename_i hi;rw [if_pos hi] at hb;exact hg i a b ha hb
 ·simp at ha
theorem ak.set {γ:bM} {vs:List AV} {cs:List Value} (h:ak γ vs cs) (n:Nat) {v:AV} {c:Value} (hv:ah γ v c):ak γ (vs.set n v) (cs.set n c):=by
 obtain ⟨hl,hg⟩:=ak.eS.1 h
 refine ak.eS.2 ⟨by simp [hl],fun i a b ha hb=>?_⟩
 rw [List.getElem?_set] at ha hb
 by_cases hi:n=i
 ·subst hi;simp at ha hb;rw [← ha.2,← hb.2];exact hv
 ·simp [hi] at ha hb;exact hg i a b ha hb
def AV.one:AV→Bool
 | .agg _ | .aQ _ | .bad=>false
 | _=>true
theorem ah.cells {γ:bM} {v:AV} {c:Value} (h:ah γ v c) (hb:v.cells.all AV.one=true):ak γ v.cells c.cells.toList:=by
 cases v with
 | agg l=>simp only [ah] at h;obtain ⟨cs,rfl,hs⟩:=h;exact hs
 | ptr a =>
  have h':=h
  cases a <;> simp only [ah] at h
  ·subst h;exact ak.cons h' ak.nil
  ·obtain ⟨i,_,rfl⟩:=h;exact ak.cons h' ak.nil
 | slc a n m e =>
  have h':=h
  cases a <;> simp only [ah] at h
  ·obtain ⟨rfl,_⟩:=h;exact ak.cons h' ak.nil
  ·obtain ⟨i,_,rfl⟩:=h;exact ak.cons h' ak.nil
 | emp=>have h':=h;simp only [ah] at h;obtain ⟨i,j,rfl⟩:=h;exact ak.cons h' ak.nil
 | map r =>
  have h':=h
  cases r <;> simp only [ah] at h
  ·subst h;exact ak.cons h' ak.nil
  ·obtain ⟨i,_,rfl⟩:=h;exact ak.cons h' ak.nil
 | func f cap=>have h':=h;simp only [ah] at h;obtain ⟨i,rfl,_⟩:=h;exact ak.cons h' ak.nil
 | uE f ft cap=>have h':=h;simp only [ah] at h;obtain ⟨i,j,rfl,_⟩:=h;exact ak.cons h' ak.nil
 | iface t v=>have h':=h;simp only [ah] at h;obtain ⟨i,rfl,_⟩:=h;exact ak.cons h' ak.nil
 | aQ l=>simp [AV.cells,AV.one] at hb
 | bad=>simp [AV.cells,AV.one] at hb
 | int k n=>have h':=h;simp only [ah] at h;subst h;exact ak.cons h' ak.nil
 | bool b=>have h':=h;simp only [ah] at h;subst h;exact ak.cons h' ak.nil
 | str s=>have h':=h;simp only [ah] at h;subst h;exact ak.cons h' ak.nil
 | nilFunc=>have h':=h;simp only [ah] at h;subst h;exact ak.cons h' ak.nil
 | Xj l=>have h':=h;simp only [ah] at h;subst h;exact ak.cons h' ak.nil
 | nilIface=>have h':=h;simp only [ah] at h;subst h;exact ak.cons h' ak.nil
theorem ah.one {γ:bM} {v:AV} {c:Value} (h:ah γ v c) (hv:v.one=true):c.oneCell'=true:=by
 cases v with
 | ptr a=>cases a <;> simp only [ah] at h <;> (first | (subst h;rfl) | (obtain ⟨_,_,rfl⟩:=h;rfl))
 | slc a n m e=>cases a <;> simp only [ah] at h <;> (first | (obtain ⟨rfl,_⟩:=h;rfl) | (obtain ⟨_,_,rfl⟩:=h;rfl))
 | emp=>simp only [ah] at h;obtain ⟨_,_,rfl⟩:=h;rfl
 | map r=>cases r <;> simp only [ah] at h <;> (first | (subst h;rfl) | (obtain ⟨_,_,rfl⟩:=h;rfl))
 | func f cap=>simp only [ah] at h;obtain ⟨_,rfl,_⟩:=h;rfl
 | uE f ft cap=>simp only [ah] at h;obtain ⟨_,_,rfl,_⟩:=h;rfl
 | iface t v=>simp only [ah] at h;obtain ⟨_,rfl,_⟩:=h;rfl
 | agg l=>simp [AV.one] at hv
 | aQ l=>simp [AV.one] at hv
 | bad=>simp [AV.one] at hv
 | _=>simp only [ah] at h;subst h;rfl
inductive AO where
 | cells (cs:List AV) (g:Nat) (ro:Bool)
 | map (es:List (AV×AV×Nat)) (clock:Nat) (ro:Bool)
 | fC (m:Option Nat) (since:Nat) (seen:List Nat) (stepped:Nat) (ro:Bool)
 | qf (s:List UInt8) (pos:Nat) (ro:Bool)
 | dead
 deriving Inhabited
def AO.ro:AO→Bool
 | .cells _ _ r=>r
 | .map _ _ r=>r
 | .fC _ _ _ _ r=>r
 | .qf _ _ r=>r
 | .dead=>true
def AO.acj:AO→AO
 | .cells c g _=>.cells c g true
 | .map es k _=>.map es k true
 | .fC m a b c _=>.fC m a b c true
 | .qf s p _=>.qf s p true
 | .dead=>.dead
def bP (γ:bM):List (AV×AV×Nat)→List MapEntry→Prop
 | [],c=>c=[]
 | (k,v,n)::es,c=>∃ e cs,c=e::cs∧ah γ k e.key∧ah γ v e.val∧e.born=n∧bP γ es cs
theorem bP.mono {γ γ':bM} (h:bM.le γ γ'):∀ {es:List (AV×AV×Nat)} {cs:List MapEntry},bP γ es cs→bP γ' es cs
 | [],_,e=>by simpa [bP] using e
 | (k,v,n)::es,_,e=>by
  simp only [bP] at e ⊢;obtain ⟨d,ds,rfl,hk,hv,hn,hs⟩:=e;exact ⟨d,ds,rfl,hk.mono h,hv.mono h,hn,bP.mono h hs⟩
def k_ (γ:bM) (w:World) (i:CI):AO→Prop
 | .cells cs g ro=>∃ c e fz,w.heap[i.b]? = some (.cells c e fz)∧(∀ (k:Nat) v,cs[k]? = some v→v.one=true∧∃ cv,c[i.d+k]? = some cv∧ah γ v cv) ∧
   (ro=false→∀ o,o<c.size→¬ (fz.1≤o∧o<fz.2))∧(g≠0→c.size=i.d+cs.length+i.x*g∧∀ k,i.d+cs.length≤k→k<c.size→∃ v cv,v.one=true∧c[k]? = some cv∧ah γ v cv) ∧
   (ro=false→(g≠1→fz=(0,0))∧fz.1≤fz.2)
 | .map es clock _=>∃ mh,w.heap[i.b]? = some (.map mh clock)∧bP γ es mh.toList
 | .fC none since seen stepped _=>i.d=0∧w.heap[i.b]? = some (.mapIter none since seen.toArray stepped)
 | .fC (some m) since seen stepped _=>i.d=0∧∃ j,γ m=some j∧w.heap[i.b]? = some (.mapIter (some j.b) since seen.toArray stepped)
 | .qf s pos _=>i.d=0∧w.heap[i.b]? = some (.stringIter ⟨s.toArray⟩ pos)
 | .dead=>False
theorem k_.mono {γ γ':bM} {w:World} {i:CI} {o:AO} (h:bM.le γ γ') (ho:k_ γ w i o):k_ γ' w i o:=by
 cases o with
 | cells cs g ro =>
  obtain ⟨c,e,fz,h1,h2,h3,h4,h5⟩:=ho
  exact ⟨c,e,fz,h1,fun k v hk=>let ⟨a,cv,b,d⟩:=h2 k v hk;⟨a,cv,b,d.mono h⟩,h3,fun hg=>⟨(h4 hg).1,fun k hk hk'=>let ⟨v,cv,a,b,d⟩:=(h4 hg).2 k hk hk';⟨v,cv,a,b,d.mono h⟩⟩,h5⟩
 | map es clock ro=>obtain ⟨mh,h1,h2⟩:=ho;exact ⟨mh,h1,h2.mono h⟩
 | fC m since seen stepped ro=>cases m with
  | none=>exact ho
  | some m=>obtain ⟨h0,j,h1,h2⟩:=ho;exact ⟨h0,j,h _ _ h1,h2⟩
 | qf s pos ro=>exact ho
 | dead=>exact ho
theorem k_.congr {γ:bM} {w w':World} {i:CI} {o:AO} (he:w'.heap[i.b]? = w.heap[i.b]?) (ho:k_ γ w i o):k_ γ w' i o:=by
 cases o with
 | cells cs g ro=>simpa [k_,he] using ho
 | map es clock ro=>simpa [k_,he] using ho
 | fC m since seen stepped ro=>cases m <;> simpa [k_,he] using ho
 | qf s pos ro=>simpa [k_,he] using ho
 | dead=>exact ho
theorem k_.lt {γ:bM} {w:World} {i:CI} {o:AO} (ho:k_ γ w i o):i.b<w.heap.size:=by
 have key:∃ x,w.heap[i.b]? = some x:=by
  cases o with
  | cells cs g ro=>obtain ⟨c,e,fz,h,_⟩:=ho;exact ⟨_,h⟩
  | map es clock ro=>obtain ⟨c,h,_⟩:=ho;exact ⟨_,h⟩
  | fC m since seen stepped ro=>cases m with
   | none=>exact ⟨_,ho.2⟩
   | some m=>obtain ⟨_,j,_,h⟩:=ho;exact ⟨_,h⟩
  | qf s pos ro=>exact ⟨_,ho.2⟩
  | dead=>exact ho.elim
 obtain ⟨x,hx⟩:=key
 rcases Nat.lt_or_ge i.b w.heap.size with h | h
 ·exact h
 ·simp [Array.getElem?_eq_none h] at hx
inductive Tr (α:Type) where
 | E
 | N (l:Tr α) (v:Option α) (r:Tr α)
 deriving Inhabited
def Tr.get {α:Type}:Tr α→Nat→Option α
 | .E,_=>none
 | .N l v r,n=>bif Nat.beq n 0 then v else bif Nat.beq (n % 2) 1 then l.get (n / 2) else r.get (n / 2 - 1)
def Tr.left {α:Type}:Tr α→Tr α
 | .E=>.E
 | .N l _ _=>l
def Tr.right {α:Type}:Tr α→Tr α
 | .E=>.E
 | .N _ _ r=>r
def Tr.val {α:Type}:Tr α→Option α
 | .E=>none
 | .N _ v _=>v
def Tr.Xk {α:Type}:Nat→Tr α→Nat→α→Tr α
 | 0,t,_,_=>t
 | k+1,t,n,v=>bif Nat.beq n 0 then .N t.left (some v) t.right else bif Nat.beq (n % 2) 1 then .N (Xk k t.left (n / 2) v) t.val t.right else .N t.left t.val (Xk k t.right (n / 2 - 1) v)
def Tr.set {α:Type} (t:Tr α) (n:Nat) (v:α):Tr α:=t.Xk (Nat.log2 (n+1)+1) n v
theorem Lz {a b:Nat} (h:¬ a=b):Nat.beq a b=false:=by
 cases hq:Nat.beq a b with
 | false=>rfl
 | true=>exact absurd (Nat.eq_of_beq_eq_true hq) h
theorem Tr.kz {α:Type} (t:Tr α) (n:Nat):t.get n=if n=0 then t.val else if n % 2=1 then t.left.get (n / 2) else t.right.get (n / 2 - 1):=by
 cases t with
 | E=>simp [Tr.get,Tr.val,Tr.left,Tr.right]
 | N l v r =>
  simp only [Tr.get,Tr.val,Tr.left,Tr.right]
  by_cases h0:n=0
  ·subst h0;rfl
  ·rw [if_neg h0]
   have:Nat.beq n 0=false:=Lz h0
   rw [this]
   by_cases h1:n % 2=1
   ·rw [if_pos h1,h1];rfl
   ·rw [if_neg h1]
    have:Nat.beq (n % 2) 1=false:=Lz h1
    rw [this];rfl
theorem Tr.G0 {α:Type}:∀ (k:Nat) (t:Tr α) (n:Nat) (v:α) (x:Nat),n+1<2 ^ k→(t.Xk k n v).get x=if x=n then some v else t.get x
 | 0,t,n,v,x,h=>by simp at h
 | k+1,t,n,v,x,h=>by
  have hk:2 ^ (k+1)=2*2 ^ k:=by rw [Nat.pow_succ];omega
  simp only [Tr.Xk]
  by_cases h0:n=0
  ·subst h0
   have e0:Nat.beq 0 0=true:=rfl
   rw [e0,Tr.kz]
   simp only [cond_true,Tr.val,Tr.left,Tr.right]
   by_cases hx:x=0
   ·rw [if_pos hx,if_pos hx]
   ·rw [if_neg hx,if_neg hx,Tr.kz t x,if_neg hx];cases t <;> rfl
  ·have e0:Nat.beq n 0=false:=Lz h0
   rw [e0]
   simp only [cond_false]
   by_cases h1:n % 2=1
   ·rw [h1]
    have e1:Nat.beq 1 1=true:=rfl
    rw [e1,Tr.kz]
    simp only [cond_true,Tr.val,Tr.left,Tr.right]
    by_cases hx:x=0
    ·rw [if_pos hx,if_neg (by omega),Tr.kz t x,if_pos hx];cases t <;> rfl
    ·rw [if_neg hx]
     by_cases Wy:x % 2=1
     ·rw [if_pos Wy,Tr.G0 k _ _ _ _ (by omega)]
      by_cases hxn:x=n
      ·subst hxn;simp
      ·rw [if_neg hxn,if_neg (by omega),Tr.kz t x,if_neg hx,if_pos Wy];cases t <;> rfl
     ·rw [if_neg Wy,if_neg (by omega),Tr.kz t x,if_neg hx,if_neg Wy];cases t <;> rfl
   ·have e1:Nat.beq (n % 2) 1=false:=Lz h1
    rw [e1]
    simp only [cond_false]
    rw [Tr.kz]
    simp only [Tr.val,Tr.left,Tr.right]
    by_cases hx:x=0
    ·rw [if_pos hx,if_neg (by omega),Tr.kz t x,if_pos hx];cases t <;> rfl
    ·rw [if_neg hx]
     by_cases Wy:x % 2=1
     ·rw [if_pos Wy,if_neg (by omega),Tr.kz t x,if_neg hx,if_pos Wy];cases t <;> rfl
     ·rw [if_neg Wy,Tr.G0 k _ _ _ _ (by omega)]
      by_cases hxn:x=n
      ·subst hxn;simp
      ·rw [if_neg hxn,if_neg (by omega),Tr.kz t x,if_neg hx,if_neg Wy];cases t <;> rfl
theorem Tr.r0 {α:Type} (t:Tr α) (n:Nat) (v:α) (x:Nat):(t.set n v).get x=if x=n then some v else t.get x :=
 Tr.G0 _ t n v x Nat.lt_log2_self
structure AS where
 lay:List (Tr AO)
 cur:Tr AO
 nl:Nat
 st:Nat
def LA:List (Tr AO)→Nat→Option AO
 | [],_=>none
 | t::ts,l=>match t.get l with
  | some .dead=>none
  | some o=>some o.acj
  | none=>LA ts l
def AS.h (s:AS) (l:Nat):Option AO :=
 match s.cur.get l with
 | some .dead=>none
 | some o=>some o
 | none=>LA s.lay l
def AS.put (s:AS) (l:Nat) (o:AO):AS:={ s with cur:=s.cur.set l o }
def AS.kill (s:AS) (l:Nat):AS:={ s with cur:=s.cur.set l .dead }
def AS.new (s:AS) (o:AO):AS:={ s with cur:=s.cur.set s.nl o,nl:=s.nl+s.st }
def AO.live:AO→Bool
 | .dead=>false
 | _=>true
theorem AO.zF {o:AO} (h:o.ro=false):o.live=true:=by cases o <;> first | rfl | cases h
theorem AS.oJ (s:AS) (l:Nat) {o:AO} (ho:o.live=true) (x:Nat):(s.put l o).h x=if x=l then some o else s.h x:=by
 simp only [AS.h,AS.put,Tr.r0]
 by_cases hx:x=l
 ·rw [if_pos hx,if_pos hx];cases o <;> first | rfl | cases ho
 ·rw [if_neg hx,if_neg hx]
theorem AS.sJ (s:AS) (l x:Nat):(s.kill l).h x=if x=l then none else s.h x:=by
 simp only [AS.h,AS.kill,Tr.r0]
 by_cases hx:x=l
 ·rw [if_pos hx,if_pos hx]
 ·rw [if_neg hx,if_neg hx]
theorem AS.oK (s:AS) {o:AO} (ho:o.live=true) (x:Nat):(s.new o).h x=if x=s.nl then some o else s.h x:=by
 simp only [AS.h,AS.new,Tr.r0]
 by_cases hx:x=s.nl
 ·rw [if_pos hx,if_pos hx];cases o <;> first | rfl | cases ho
 ·rw [if_neg hx,if_neg hx]
theorem AS.uF (s:AS) (o:AO):(s.new o).nl=s.nl+s.st:=rfl
theorem AS.CS (s:AS) (l:Nat) (o:AO):(s.put l o).nl=s.nl:=rfl
theorem AS.oF (s:AS) (l:Nat):(s.kill l).nl=s.nl:=rfl
theorem AS.Q2 (s:AS) (o:AO):(s.new o).st=s.st:=rfl
theorem AS.acm (s:AS) (l:Nat) (o:AO):(s.put l o).st=s.st:=rfl
theorem AS.Gw (s:AS) (l:Nat):(s.kill l).st=s.st:=rfl
structure Rel (B:Nat) (γ:bM) (s:AS) (w:World):Prop where
 obj:∀ l o,s.h l=some o→∃ i,γ l=some i∧k_ γ w i o∧(o.ro=false→B≤i.b)
 inj:∀ l l' o o' i i',s.h l=some o→s.h l'=some o'→o.ro=false→γ l=some i→γ l'=some i'→i.b=i'.b→l=l'
 fin:∀ j,γ (s.nl+j*s.st)=none
 Xl:1≤s.st
 base:B≤w.heap.size
theorem Rel.N0 {B:Nat} {γ:bM} {s:AS} {w:World} (h:Rel B γ s w):γ s.nl=none:=by simpa using h.fin 0
def Env (w w':World):Prop:=w'.os=w.os∧w'.tape=w.tape∧w'.output=w.output
theorem Env.trans {a b c:World} (h:Env a b) (h':Env b c):Env a c:=⟨h'.1.trans h.1,h'.2.1.trans h.2.1,h'.2.2.trans h.2.2⟩
structure fJ (B:Nat) (γ:bM) (s:AS) (w:World) (γ':bM) (s':AS) (w':World):Prop where
 le:bM.le γ γ'
 frm:∀ b,b<w.heap.size→(∀ l o i,s.h l=some o→o.ro=false→γ l=some i→i.b≠b)→w'.heap[b]? = w.heap[b]?
 eN:w.heap.size≤w'.heap.size
 new:∀ l o i,s'.h l=some o→o.ro=false→γ' l=some i→w.heap.size≤i.b∨∃ l0 o0 i0,s.h l0=some o0∧o0.ro=false∧γ l0=some i0∧i0.b=i.b
 nl:∃ k,s'.nl=s.nl+k*s.st
 st:s'.st=s.st
 lay:s'.lay=s.lay
 dom:∀ l,γ l=none→γ' l≠none→∃ j,l=s.nl+j*s.st
 sld:∀ l o,s'.cur.get l=some o→o.live=true→o.ro=true→s.cur.get l=some o
 env:Env w w'
theorem fJ.refl {B:Nat} {γ:bM} {s:AS} {w:World}:fJ B γ s w γ s w :=
 ⟨bM.le_refl γ,fun _ _ _=>rfl,Nat.le_refl _,fun l o i h1 h2 h3=>.inr ⟨l,o,i,h1,h2,h3,rfl⟩,⟨0,by simp⟩,rfl,rfl,fun _ h h'=>absurd h h',fun _ _ h _ _=>h,rfl,rfl,rfl⟩
theorem fJ.trans {B:Nat} {γ γ' aep:bM} {s s' s'':AS} {w w' w'':World} (a:fJ B γ s w γ' s' w') (b:fJ B γ' s' w' aep s'' w''):fJ B γ s w aep s'' w'':=by
 refine ⟨bM.le_trans a.le b.le,fun k hk hn=>?_,Nat.le_trans a.eN b.eN,fun l o i h1 h2 h3=>?_,?_,b.st.trans a.st,b.lay.trans a.lay,fun l h h'=>?_,fun l o h h1 h2=>a.sld l o (b.sld l o h h1 h2) h1 h2,a.env.trans b.env⟩
 ·rw [b.frm k (Nat.lt_of_lt_of_le hk a.eN) ?_,a.frm k hk hn]
  intro l o i h1 h2 h3 e
  rcases a.new l o i h1 h2 h3 with h | ⟨l0,o0,i0,g1,g2,g3,g4⟩
  ·omega
  ·exact hn l0 o0 i0 g1 g2 g3 (by omega)
 ·rcases b.new l o i h1 h2 h3 with h | ⟨l0,o0,i0,g1,g2,g3,g4⟩
  ·exact .inl (Nat.le_trans a.eN h)
  ·rcases a.new l0 o0 i0 g1 g2 g3 with h | ⟨l1,o1,i1,f1,f2,f3,f4⟩
   ·exact .inl (by omega)
   ·exact .inr ⟨l1,o1,i1,f1,f2,f3,by omega⟩
 ·obtain ⟨k1,e1⟩:=a.nl
  obtain ⟨k2,e2⟩:=b.nl
  exact ⟨k1+k2,by rw [e2,e1,a.st,Nat.add_mul,Nat.add_assoc]⟩
 ·cases h1:γ' l with
  | some i=>exact a.dom l h (by rw [h1];simp)
  | none =>
   obtain ⟨k1,e1⟩:=a.nl
   obtain ⟨j,hj⟩:=b.dom l h1 h'
   exact ⟨k1+j,by rw [hj,e1,a.st,Nat.add_mul,Nat.add_assoc]⟩
end Go.Am
end

section
namespace Go.Am
theorem Rel.of_heap {B:Nat} {γ:bM} {s:AS} {w w':World} (h:Rel B γ s w) (hw:w'.heap=w.heap):Rel B γ s w' :=
 ⟨fun l o hl=>let ⟨i,a,b,c⟩:=h.obj l o hl;⟨i,a,b.congr (by rw [hw]),c⟩,h.inj,h.fin,h.Xl,by rw [hw];exact h.base⟩
theorem fJ.of_heap {B:Nat} {γ:bM} {s:AS} {w w':World} (hw:w'.heap=w.heap) (he:Env w w':=by exact ⟨rfl,rfl,rfl⟩):fJ B γ s w γ s w' :=
 ⟨bM.le_refl γ,fun _ _ _=>by rw [hw],by rw [hw];exact Nat.le_refl _,fun l o i h1 h2 h3=>.inr ⟨l,o,i,h1,h2,h3,rfl⟩,⟨0,by simp⟩,rfl,rfl,fun _ h h'=>absurd h h',fun _ _ h _ _=>h,he⟩
theorem aas {s:AS} {l:Nat} {o':AO} (CT:o'.ro=false):∀ x o,(s.put l o').cur.get x=some o→o.live=true→o.ro=true→s.cur.get x=some o:=by
 intro x o h h1 h2
 simp only [AS.put,Tr.r0] at h
 split at h
 ·obtain rfl:=Option.some.inj h;rw [CT] at h2;cases h2
 ·exact h
theorem Tk {s:AS} {o':AO} (CT:o'.ro=false):∀ x o,(s.new o').cur.get x=some o→o.live=true→o.ro=true→s.cur.get x=some o:=by
 intro x o h h1 h2
 simp only [AS.new,Tr.r0] at h
 split at h
 ·obtain rfl:=Option.some.inj h;rw [CT] at h2;cases h2
 ·exact h
theorem N1 {s:AS} {l:Nat}:∀ x o,(s.kill l).cur.get x=some o→o.live=true→o.ro=true→s.cur.get x=some o:=by
 intro x o h h1 h2
 simp only [AS.kill,Tr.r0] at h
 split at h
 ·obtain rfl:=Option.some.inj h;cases h1
 ·exact h
theorem Rel.write {B:Nat} {γ:bM} {s:AS} {w w':World} {l:Nat} {o o':AO} {i:CI} {obj:Obj} (h:Rel B γ s w) (hl:s.h l=some o) (hro:o.ro=false) (CT:o'.ro=false)
  (hi:γ l=some i) (hw:w'.heap=w.heap.setIfInBounds i.b obj) (ho:k_ γ w' i o') (he:Env w w':=by exact ⟨rfl,rfl,rfl⟩):Rel B γ (s.put l o') w'∧fJ B γ s w γ (s.put l o') w':=by
 have hsz:w'.heap.size=w.heap.size:=by rw [hw];simp
 have hne:∀ b,b≠i.b→w'.heap[b]? = w.heap[b]? := by
  intro b hb;rw [hw,Array.getElem?_setIfInBounds_ne (Ne.symm hb)]
 have tM:=AO.zF CT
 constructor
 ·refine ⟨fun l' p hp=>?_,fun l1 l2 p1 p2 i1 i2 h1 h2 r1 g1 g2 e=>?_,h.fin,h.Xl,by rw [hsz];exact h.base⟩
  ·rw [AS.oJ _ _ tM] at hp
   split at hp
   ·rename_i e;subst e
    obtain rfl:=Option.some.inj hp
    obtain ⟨j,hj,_,hB⟩:=h.obj l' o hl
    rw [hi] at hj;obtain rfl:=Option.some.inj hj
    exact ⟨i,hi,ho,fun _=>hB hro⟩
   ·rename_i e
    obtain ⟨j,hj,hO,hB⟩:=h.obj l' p hp
    refine ⟨j,hj,hO.congr (hne _ ?_),hB⟩
    intro e2
    exact e (h.inj l l' o p i j hl hp hro hi hj e2.symm).symm
  ·have key:∀ x p,(s.put l o').h x=some p→∃ q,s.h x=some q∧(p.ro=false→q.ro=false):=by
    intro x p hx
    rw [AS.oJ _ _ tM] at hx
    split at hx
    ·rename_i e;subst e;exact ⟨o,hl,fun _=>hro⟩
    ·exact ⟨p,hx,fun h=>h⟩
   obtain ⟨q1,k1,r1'⟩:=key l1 p1 h1
   obtain ⟨q2,k2,_⟩:=key l2 p2 h2
   exact h.inj l1 l2 q1 q2 i1 i2 k1 k2 (r1' r1) g1 g2 e
 ·refine ⟨bM.le_refl γ,fun b hb hn=>hne b fun e=>hn l o i hl hro hi e.symm,by rw [hsz];exact Nat.le_refl _,fun l' p j h1 h2 h3=>.inr ?_,⟨0,by simp [AS.CS]⟩,rfl,rfl,fun _ h h'=>absurd h h',aas CT,he⟩
  rw [AS.oJ _ _ tM] at h1
  split at h1
  ·rename_i e;subst e;exact ⟨l',o,j,hl,hro,h3,rfl⟩
  ·exact ⟨l',p,j,h1,h2,h3,rfl⟩
theorem Rel.same {B:Nat} {γ:bM} {s:AS} {w w':World} {l:Nat} {o:AO} {i:CI} {obj:Obj} (h:Rel B γ s w) (hl:s.h l=some o) (hro:o.ro=false)
  (hi:γ l=some i) (hw:w'.heap=w.heap.setIfInBounds i.b obj) (ho:k_ γ w' i o) (he:Env w w':=by exact ⟨rfl,rfl,rfl⟩):Rel B γ s w'∧fJ B γ s w γ s w':=by
 have hsz:w'.heap.size=w.heap.size:=by rw [hw];simp
 have hne:∀ b,b≠i.b→w'.heap[b]? = w.heap[b]? := by
  intro b hb;rw [hw,Array.getElem?_setIfInBounds_ne (Ne.symm hb)]
 constructor
 ·refine ⟨fun l' p hp=>?_,h.inj,h.fin,h.Xl,by rw [hsz];exact h.base⟩
  by_cases e:l'=l
  ·subst e
   rw [hl] at hp
   obtain rfl:=Option.some.inj hp
   obtain ⟨j,hj,_,hB⟩:=h.obj _ _ hl
   rw [hi] at hj;obtain rfl:=Option.some.inj hj
   exact ⟨i,hi,ho,hB⟩
  ·obtain ⟨j,hj,hO,hB⟩:=h.obj l' p hp
   refine ⟨j,hj,hO.congr (hne _ ?_),hB⟩
   intro e2
   exact e (h.inj l l' o p i j hl hp hro hi hj e2.symm).symm
 ·exact ⟨bM.le_refl γ,fun b hb hn=>hne b fun e=>hn l o i hl hro hi e.symm,by rw [hsz];exact Nat.le_refl _,fun l' p j h1 h2 h3=>.inr ⟨l',p,j,h1,h2,h3,rfl⟩,⟨0,by simp⟩,rfl,rfl,fun _ h h'=>absurd h h',fun _ _ h _ _=>h,he⟩
def gR (γ:bM) (l:Nat) (i:CI):bM:=fun x=>if x=l then some i else γ x
theorem b_ (γ:bM) (l:Nat) (i:CI):gR γ l i l=some i:=by simp [gR]
theorem bM.uG {γ:bM} {l:Nat} {i:CI} (h:γ l=none):bM.le γ (gR γ l i):=by
 intro x j hx
 simp only [gR]
 split
 ·rename_i e;subst e;rw [h] at hx;exact absurd hx (by simp)
 ·exact hx
theorem Tm {γ:bM} {s:AS} {i:CI} (l:Nat) (h:γ l=none) (h':gR γ s.nl i l≠none):∃ j,l=s.nl+j*s.st:=by
 simp only [gR] at h'
 split at h'
 ·rename_i e;exact ⟨0,by simp [e]⟩
 ·exact absurd h h'
theorem Rel.alloc {B:Nat} {γ:bM} {s:AS} {w w':World} {o:AO} {i:CI} {obj:Obj} (h:Rel B γ s w) (hro:o.ro=false)
  (Wz:i.b=w.heap.size) (hw:w'.heap=w.heap.push obj) (ho:k_ (gR γ s.nl i) w' i o) (he:Env w w':=by exact ⟨rfl,rfl,rfl⟩) :
  Rel B (gR γ s.nl i) (s.new o) w'∧fJ B γ s w (gR γ s.nl i) (s.new o) w':=by
 have hnone:γ s.nl=none:=h.N0
 have hle:bM.le γ (gR γ s.nl i):=bM.uG hnone
 have hold:∀ b,b<w.heap.size→w'.heap[b]? = w.heap[b]? := by
  intro b hb;rw [hw,Array.getElem?_push_lt hb,Array.getElem?_eq_getElem hb]
 have hsz:w'.heap.size=w.heap.size+1:=by rw [hw];simp
 have hB:=h.base
 have hst:=h.Xl
 have tM:=AO.zF hro
 have hno:∀ p,s.h s.nl=some p→False:=by
  intro p hp
  obtain ⟨j,hj,_⟩:=h.obj _ p hp
  rw [hnone] at hj;cases hj
 constructor
 ·refine ⟨fun l' p hp=>?_,fun l1 l2 p1 p2 i1 i2 h1 h2 r1 g1 g2 e=>?_,fun j=>?_,hst,by omega⟩
  ·rw [AS.oK _ tM] at hp
   split at hp
   ·rename_i e;subst e
    obtain rfl:=Option.some.inj hp
    exact ⟨i,b_ _ _ _,ho,fun _=>by omega⟩
   ·obtain ⟨j,hj,hO,Xm⟩:=h.obj l' p hp
    exact ⟨j,hle _ _ hj,(hO.mono hle).congr (hold _ hO.lt),Xm⟩
  ·rw [AS.oK _ tM] at h1 h2
   simp only [gR] at g1 g2
   by_cases e1:l1=s.nl <;> by_cases e2:l2=s.nl
   ·rw [e1,e2]
   ·rw [if_pos e1] at g1;rw [if_neg e2] at h2 g2
    obtain rfl:=Option.some.inj g1
    obtain ⟨j,hj,hO,_⟩:=h.obj l2 p2 h2
    rw [hj] at g2;obtain rfl:=Option.some.inj g2
    have:=hO.lt
    omega
   ·rw [if_pos e2] at g2;rw [if_neg e1] at h1 g1
    obtain rfl:=Option.some.inj g2
    obtain ⟨j,hj,hO,_⟩:=h.obj l1 p1 h1
    rw [hj] at g1;obtain rfl:=Option.some.inj g1
    have:=hO.lt
    omega
   ·rw [if_neg e1] at h1 g1;rw [if_neg e2] at h2 g2
    exact h.inj l1 l2 p1 p2 i1 i2 h1 h2 r1 g1 g2 e
  ·rw [AS.uF,AS.Q2]
   simp only [gR]
   have e1:s.nl+s.st+j*s.st=s.nl+(j+1)*s.st:=by rw [Nat.add_mul,Nat.one_mul];omega
   rw [if_neg (by omega),e1]
   exact h.fin (j+1)
 ·refine ⟨hle,fun b hb _=>hold b hb,by omega,fun l' p j h1 h2 h3=>?_,⟨1,by simp [AS.uF]⟩,rfl,rfl,Tm,Tk hro,he⟩
  rw [AS.oK _ tM] at h1
  simp only [gR] at h3
  by_cases e:l'=s.nl
  ·rw [if_pos e] at h3;obtain rfl:=Option.some.inj h3;exact .inl (by omega)
  ·rw [if_neg e] at h1 h3;exact .inr ⟨l',p,j,h1,h2,h3,rfl⟩
theorem Rel.kill {B:Nat} {γ:bM} {s:AS} {w:World} (h:Rel B γ s w) (l:Nat):Rel B γ (s.kill l) w∧fJ B γ s w γ (s.kill l) w:=by
 have key:∀ x p,(s.kill l).h x=some p→s.h x=some p:=by
  intro x p hx
  rw [AS.sJ] at hx
  split at hx
  ·exact absurd hx (by simp)
  ·exact hx
 exact ⟨⟨fun l' p hp=>h.obj l' p (key _ _ hp),fun l1 l2 p1 p2 i1 i2 h1 h2 r1 g1 g2 e=>h.inj l1 l2 p1 p2 i1 i2 (key _ _ h1) (key _ _ h2) r1 g1 g2 e,h.fin,h.Xl,h.base⟩,
  ⟨bM.le_refl γ,fun _ _ _=>rfl,Nat.le_refl _,fun l' p j h1 h2 h3=>.inr ⟨l',p,j,key _ _ h1,h2,h3,rfl⟩,⟨0,by simp [AS.oF]⟩,rfl,rfl,fun _ h h'=>absurd h h',N1,rfl,rfl,rfl⟩⟩
theorem Rel.take {B:Nat} {γ:bM} {s:AS} {w w':World} {l:Nat} {o o':AO} {i i':CI} {obj:Obj} (h:Rel B γ s w) (hl:s.h l=some o) (hro:o.ro=false) (CT:o'.ro=false)
  (hi:γ l=some i) (Wz:i'.b=i.b) (hw:w'.heap=w.heap.setIfInBounds i.b obj) (ho:k_ (gR γ s.nl i') w' i' o') (he:Env w w':=by exact ⟨rfl,rfl,rfl⟩) :
  Rel B (gR γ s.nl i') ((s.kill l).new o') w'∧fJ B γ s w (gR γ s.nl i') ((s.kill l).new o') w':=by
 have hnone:γ s.nl=none:=h.N0
 have hle:bM.le γ (gR γ s.nl i'):=bM.uG hnone
 have hsz:w'.heap.size=w.heap.size:=by rw [hw];simp
 have hne:∀ b,b≠i.b→w'.heap[b]? = w.heap[b]? := by
  intro b hb;rw [hw,Array.getElem?_setIfInBounds_ne (Ne.symm hb)]
 obtain ⟨j0,hj0,hO0,hB0⟩:=h.obj l o hl
 rw [hi] at hj0;obtain rfl:=Option.some.inj hj0
 have hB0:=hB0 hro
 have hst:=h.Xl
 have tM:=AO.zF CT
 have key:∀ x p,x≠s.nl→((s.kill l).new o').h x=some p→x≠l∧s.h x=some p:=by
  intro x p hx hp
  rw [AS.oK _ tM,AS.oF,if_neg hx,AS.sJ] at hp
  split at hp
  ·exact absurd hp (by simp)
  ·rename_i e;exact ⟨e,hp⟩
 have far:∀ x p j,s.h x=some p→x≠l→γ x=some j→j.b≠i.b:=by
  intro x p j hx hxl hj e
  exact hxl (h.inj l x o p i j hl hx hro hi hj e.symm).symm
 constructor
 ·refine ⟨fun x p hp=>?_,fun l1 l2 p1 p2 i1 i2 h1 h2 r1 g1 g2 e=>?_,fun j=>?_,hst,by rw [hsz];exact h.base⟩
  ·by_cases e:x=s.nl
   ·subst e
    rw [AS.oK _ tM,AS.oF,if_pos rfl] at hp
    obtain rfl:=Option.some.inj hp
    exact ⟨i',b_ _ _ _,ho,fun _=>by omega⟩
   ·obtain ⟨hxl,hx⟩:=key x p e hp
    obtain ⟨j,hj,hO,Xm⟩:=h.obj x p hx
    exact ⟨j,hle _ _ hj,(hO.mono hle).congr (hne _ (far x p j hx hxl hj)),Xm⟩
  ·simp only [gR] at g1 g2
   by_cases e1:l1=s.nl <;> by_cases e2:l2=s.nl
   ·rw [e1,e2]
   ·rw [if_pos e1] at g1;rw [if_neg e2] at g2
    obtain rfl:=Option.some.inj g1
    obtain ⟨hxl,hx⟩:=key l2 p2 e2 h2
    exact absurd (e.symm.trans Wz) (far l2 p2 i2 hx hxl g2)
   ·rw [if_pos e2] at g2;rw [if_neg e1] at g1
    obtain rfl:=Option.some.inj g2
    obtain ⟨hxl,hx⟩:=key l1 p1 e1 h1
    exact absurd (e.trans Wz) (far l1 p1 i1 hx hxl g1)
   ·rw [if_neg e1] at g1;rw [if_neg e2] at g2
    exact h.inj l1 l2 p1 p2 i1 i2 (key l1 p1 e1 h1).2 (key l2 p2 e2 h2).2 r1 g1 g2 e
  ·rw [AS.uF,AS.Q2,AS.oF,AS.Gw]
   simp only [gR]
   have e1:s.nl+s.st+j*s.st=s.nl+(j+1)*s.st:=by rw [Nat.add_mul,Nat.one_mul];omega
   rw [if_neg (by omega),e1]
   exact h.fin (j+1)
 ·refine ⟨hle,fun b hb hn=>hne b fun e=>hn l o i hl hro hi e.symm,by rw [hsz];exact Nat.le_refl _,fun x p j h1 h2 h3=>.inr ?_,⟨1,by simp [AS.uF,AS.oF,AS.Gw]⟩,rfl,rfl,Tm,fun l p h h1 h2=>N1 l p (Tk CT l p h h1 h2) h1 h2,he⟩
  simp only [gR] at h3
  by_cases e:x=s.nl
  ·rw [if_pos e] at h3;obtain rfl:=Option.some.inj h3;exact ⟨l,o,i,hl,hro,hi,Wz.symm⟩
  ·rw [if_neg e] at h3;exact ⟨x,p,j,(key x p e h1).2,h2,h3,rfl⟩
end Go.Am
end

section
namespace Go.Am
structure TT where
 cM:TypeId→Option TypeDesc
 eN:TypeId→Option Nat
 Jo:TypeId→Option Nat
 sL:TypeId→Option AV
 WA:TypeId→Bool
 eqt:TypeId→Bool
structure TT.Ok (P:Program) (T:TT):Prop where
 cM:∀ t d,T.cM t=some d→P.underlying t=some d
 eN:∀ t n,T.eN t=some n→(P.info? t).map (·.size)=some n
 Jo:∀ t n,T.Jo t=some n→(P.info? t).map (·.bytes)=some n
 sL:∀ t v,T.sL t=some v→∃ i c,P.info? t=some i∧i.zero=some c∧∀ γ,ah γ v c
 WA:∀ t,T.WA t=true→P.eqGuardType P.depth t=false
 eqt:∀ t,T.eqt t=true→P.stoodInHeld t=false
mutual
def CL:Value→AV
 | .bool b=>.bool b
 | .int k n=>.int k n
 | .string s=>.str s.data.toList
 | .pointer none=>.ptr none
 | .slice none n m=>.slc none n m true
 | .map none=>.map none
 | .func (.func f) ⟨[]⟩ ⟨c⟩=>.func f (Q3 c)
 | .nilFunc=>.nilFunc
 | .iface t v=>.iface t (CL v)
 | .nilIface=>.nilIface
 | .agg ⟨l⟩=>.agg (Q3 l)
 | .tuple ⟨l⟩=>.aQ (Q3 l)
 | _=>.bad
def Q3:List Value→List AV
 | []=>[]
 | v::vs=>CL v::Q3 vs
end
mutual
theorem Gx (γ:bM):∀ v,ah γ (CL v) v
 | .bool b=>by simp [CL,ah]
 | .int k n=>by simp [CL,ah]
 | .string s=>by simp [CL,ah]
 | .pointer none=>by simp [CL,ah]
 | .pointer (some _)=>by simp [CL,ah]
 | .slice none n m=>by simp [CL,ah]
 | .slice (some _) n m=>by simp [CL,ah]
 | .map none=>by simp [CL,ah]
 | .map (some _)=>by simp [CL,ah]
 | .func (.func f) ⟨[]⟩ ⟨c⟩=>by simp only [CL,ah];exact ⟨⟨c⟩,rfl,A5 γ c⟩
 | .func (.func f) ⟨_::_⟩ ⟨c⟩=>by simp [CL,ah]
 | .func (.method _) _ _=>by simp [CL,ah]
 | .func (.methodOf _ _) _ _=>by simp [CL,ah]
 | .func (.via _ _ _ _) _ _=>by simp [CL,ah]
 | .func (.yield _) _ _=>by simp [CL,ah]
 | .nilFunc=>by simp [CL,ah]
 | .iface t v=>by simp only [CL,ah];exact ⟨v,rfl,Gx γ v⟩
 | .nilIface=>by simp [CL,ah]
 | .agg ⟨l⟩=>by simp only [CL,ah];exact ⟨⟨l⟩,rfl,A5 γ l⟩
 | .tuple ⟨l⟩=>by simp only [CL,ah];exact ⟨⟨l⟩,rfl,A5 γ l⟩
 | .float _ _=>by simp [CL,ah]
 | .complex _ _ _=>by simp [CL,ah]
 | .chan _=>by simp [CL,ah]
theorem A5 (γ:bM):∀ l,ak γ (Q3 l) l
 | []=>by simp [Q3,ak]
 | v::vs=>by simp only [Q3];exact ak.cons (Gx γ v) (A5 γ vs)
end
def pH (f:Nat→AV):Operand→AV
 | .tmp t=>f t
 | .const v=>CL v
 | .func g=>.func g []
 | .global _=>.bad
def bJ (v:AV):Option (List AV):=if v.cells.all AV.one then some v.cells else none
def TT.agg (T:TT) (t:TypeId):Option Bool :=
 match T.cM t with
 | some (.struct _) | some (.array _ _)=>some true
 | some _=>some false
 | none=>none
def qJ (cs:List AV) (o:Nat):List AV→List AV
 | []=>cs
 | v::vs=>qJ (cs.set o v) (o+1) vs
def aB (s:AS) (l o n:Nat):Option (List AV) :=
 match s.h l with
 | some (.cells cs _ _)=>if o+n≤cs.length then some ((cs.drop o).take n) else none
 | _=>none
def av (s:AS) (l o:Nat):Option AV :=
 match s.h l with
 | some (.cells cs _ _)=>cs[o]?
 | _=>none
def Jp (T:TT) (t:TypeId) (s:AS):AV→Option AV
 | .ptr (some (l,o)) =>
  match T.agg t with
  | some true=>(T.eN t).bind fun n=>(aB s l o n).map .agg
  | some false=>av s l o
  | none=>none
 | _=>none
def cN (s:AS) (l o:Nat) (vs:List AV):Option AS :=
 match s.h l with
 | some (.cells cs g false)=>if o+vs.length≤cs.length then some (s.put l (.cells (qJ cs o vs) g false)) else none
 | _=>none
def ast (T:TT) (t:TypeId) (s:AS) (p v:AV):Option AS :=
 match p with
 | .ptr (some (l,o))=>(bJ v).bind fun vs=>if T.eN t=some vs.length then cN s l o vs else none
 | _=>none
def part (T:TT) (t:TypeId) (cs:List AV) (off:Nat):Option AV :=
 match T.agg t with
 | some true=>(T.eN t).map fun n=>.agg ((cs.drop off).take n)
 | some false=>cs[off]?
 | none=>none
def jc (place:Nat→Option (Nat×Nat)) (cells:List AV):List (Nat×AV)→Option (List AV)
 | []=>some cells
 | (i,v)::rest =>
  match place i,bJ v with
  | some (off,size),some vc=>if vc.length=size∧off+vc.length≤cells.length then jc place (qJ cells off vc) rest else none
  | _,_=>none
def rep (n:Nat) (z:List AV):List AV:=(List.replicate n z).flatten
def aU (T:TT) (t:TypeId) (parts:List (Nat×AV)):Option AV :=
 (T.sL t).bind fun z=>(bJ z).bind fun zc =>
  match T.cM t with
  | some (.struct fields) =>
   if fields.all (fun f=>(T.eN f.type).isSome) then
    (jc (fun i=>(fields[i]?).bind fun f=>(T.eN f.type).map fun n=>(f.offset,n)) zc parts).map .agg
   else none
  | some (.array _ elem)=>(T.eN elem).bind fun n=>(jc (fun i=>some (i*n,n)) zc parts).map .agg
  | _=>none
def aat (T:TT) (t:TypeId):Nat→Nat
 | 0=>0
 | 1=>0
 | _+2=>match T.cM t with
  | some (.slice e)=>(match T.cM e with | some (.int .u8)=>1 | _=>0)
  | _=>0
def lK (T:TT) (t:TypeId) (len:Nat) (parts:List (Nat×AV)) (s:AS):Option (AV×AS) :=
 match T.cM t with
 | some (.slice elem) =>
  (T.eN elem).bind fun n=>(T.sL elem).bind fun z=>(bJ z).bind fun zc =>
   if zc.length=n∧len*n≤2 ^ 24 then
    (jc (fun i=>some (i*n,n)) (rep len zc) parts).map fun cs=>(.slc (some (s.nl,0)) len len true,s.new (.cells cs (aat T t len) false))
   else none
 | _=>none
def eqFields (T:TT) (eqv:TypeId→AV→AV→Option Bool) (xs ys:List AV):List Field→Option Bool
 | []=>some true
 | f::fs =>
  if f.name ≠ "_" then
   (part T f.type xs f.offset).bind fun a=>(part T f.type ys f.offset).bind fun b =>
    match eqv f.type a b with
    | some true=>eqFields T eqv xs ys fs
    | r=>r
  else eqFields T eqv xs ys fs
def Gy (T:TT) (eqv:TypeId→AV→AV→Option Bool) (elem:TypeId) (n:Nat) (xs ys:List AV):Nat→Nat→Option Bool
 | 0,_=>some true
 | len+1,i =>
  (part T elem xs (i*n)).bind fun a=>(part T elem ys (i*n)).bind fun b =>
   match eqv elem a b with
   | some true=>Gy T eqv elem n xs ys len (i+1)
   | r=>r
def iK (T:TT):Nat→TypeId→AV→AV→Option Bool
 | 0,_,_,_=>none
 | d+1,t,x,y =>
  match T.cM t,x,y with
  | some .bool,.bool a,.bool b=>some (a==b)
  | some (.int _),.int k a,.int k' b=>if k=k' then some (a==b) else none
  | some .string,.str a,.str b=>some (a==b)
  | some (.pointer _),.ptr none,.ptr b=>some b.isNone
  | some (.pointer _),.ptr _,.ptr none=>some false
  | some (.slice _),.slc none _ _ _,.slc b _ _ _=>some b.isNone
  | some (.slice _),.slc _ _ _ _,.slc none _ _ _=>some false
  | some (.slice _),.emp,.slc none _ _ _=>some false
  | some (.slice _),.slc none _ _ _,.emp=>some false
  | some (.map _ _),.map none,.map b=>some b.isNone
  | some (.map _ _),.map _,.map none=>some false
  | some (.func _ _ _),.nilFunc,.nilFunc=>some true
  | some (.func _ _ _),.nilFunc,.func _ _=>some false
  | some (.func _ _ _),.nilFunc,.uE _ _ _=>some false
  | some (.func _ _ _),.uE _ _ _,.nilFunc=>some false
  | some (.func _ _ _),.func _ _,.nilFunc=>some false
  | some (.interface _),.nilIface,.nilIface=>some true
  | some (.interface _),.nilIface,.iface _ _=>some false
  | some (.interface _),.iface _ _,.nilIface=>some false
  | some (.struct fields),.agg xs,.agg ys=>if T.eqt t then eqFields T (iK T d) xs ys fields.toList else none
  | some (.array len elem),.agg xs,.agg ys=>(T.eN elem).bind fun n=>Gy T (iK T d) elem n xs ys len 0
  | _,_,_=>none
def iU:List UInt8→List UInt8→Bool
 | _,[]=>false
 | [],_::_=>true
 | a::x,b::y=>a<b||(a==b&&iU x y)
def bB (op:BinOp) (k:IntKind) (x y:Int):Option AV :=
 match op with
 | .add=>some (.int k (k.wrap (x+y)))
 | .sub=>some (.int k (k.wrap (x - y)))
 | .mul=>some (.int k (k.wrap (x*y)))
 | .quo=>if y=0 then none else some (.int k (k.wrap (x.tdiv y)))
 | .rem=>if y=0 then none else some (.int k (x.tmod y))
 | .and=>some (.int k (k.wrap (BitVec.ofInt k.bits x &&& BitVec.ofInt k.bits y).toNat))
 | .or=>some (.int k (k.wrap (BitVec.ofInt k.bits x ||| BitVec.ofInt k.bits y).toNat))
 | .xor=>some (.int k (k.wrap (BitVec.ofInt k.bits x ^^^ BitVec.ofInt k.bits y).toNat))
 | .andNot=>some (.int k (k.wrap (BitVec.ofInt k.bits x &&& ~~~ BitVec.ofInt k.bits y).toNat))
 | .eql=>some (.bool (x==y))
 | .neq=>some (.bool (x != y))
 | .lss=>some (.bool (x<y))
 | .leq=>some (.bool (x≤y))
 | .gtr=>some (.bool (x>y))
 | .geq=>some (.bool (x≥y))
 | _=>none
def lf (T:TT) (op:BinOp) (t:TypeId) (x y:AV):Option AV :=
 match op,x,y with
 | .shl,.int k a,.int _ b=>if b<0 then none else some (.int k (k.wrap (a*2 ^ min b.toNat k.bits)))
 | .shr,.int k a,.int _ b=>if b<0 then none else some (.int k (a.fdiv (2 ^ min b.toNat k.bits)))
 | op,.int k a,.int k' b=>if k=k' then bB op k a b else none
 | .add,.str a,.str b=>if ((a.length+b.length:Nat):Int)≤9223372036854775807 then some (.str (a++b)) else none
 | .eql,.str a,.str b=>some (.bool (a==b))
 | .neq,.str a,.str b=>some (.bool !(a==b))
 | .lss,.str a,.str b=>some (.bool (iU a b))
 | .leq,.str a,.str b=>some (.bool (iU a b||a==b))
 | .gtr,.str a,.str b=>some (.bool !(iU a b||a==b))
 | .geq,.str a,.str b=>some (.bool !(iU a b))
 | .eql,x,y=>(iK T 100 t x y).map .bool
 | .neq,x,y=>(iK T 100 t x y).map fun b=>.bool !b
 | _,_,_=>none
def Q4:Operand→Bool
 | .const _=>true
 | _=>false
def Q5 (T:TT) (t:TypeId) (x y:Operand):AV→AV→Bool
 | .agg _,.agg _=>T.WA t
 | .nilIface,.nilIface=>Q4 x||Q4 y
 | .bad,_=>false
 | _,.bad=>false
 | _,_=>true
def aun (op:UnOp) (x:AV):Option AV :=
 match op,x with
 | .neg,.int k n=>some (.int k (k.wrap (0 - n)))
 | .xor,.int k n=>bB .xor k (if k.signed then -1 else k.max) n
 | .not,.bool b=>some (.bool !b)
 | _,_=>none
def uH (T:TT) (t:TypeId) (x:AV) (f:Nat):Option AV :=
 match T.cM t,x with
 | some (.struct fields),.ptr (some (l,o)) =>
  (fields[f]?).bind fun fd=>match T.eN fd.type with
   | some (_+1)=>some (.ptr (some (l,o+fd.offset)))
   | _=>none
 | _,_=>none
def ag (T:TT) (t:TypeId) (x ix:AV):Option AV :=
 match T.cM t,x,ix with
 | some (.array len elem),.ptr (some (l,o)),.int _ i =>
  (T.eN elem).bind fun n=>if 0≤i∧i<len then some (.ptr (some (l,o+i.toNat*n))) else none
 | some (.slice elem),.slc (some (l,o)) len _ _,.int _ i =>
  (T.eN elem).bind fun n=>if 0≤i∧i<len then some (.ptr (some (l,o+i.toNat*n))) else none
 | _,_,_=>none
def jd (T:TT) (t:TypeId) (x ix:AV):Option AV :=
 match T.cM t,x,ix with
 | some (.array len elem),.agg cs,.int _ i =>
  (T.eN elem).bind fun n=>if 0≤i∧i<len then part T elem cs (i.toNat*n) else none
 | some .string,.str s,.int _ i=>if 0≤i then (s[i.toNat]?).map fun b=>.int .u8 b.toNat else none
 | _,_,_=>none
def G7 (T:TT) (t:TypeId) (x:AV) (f:Nat):Option AV :=
 match T.cM t,x with
 | some (.struct fields),.agg cs=>(fields[f]?).bind fun fd=>part T fd.type cs fd.offset
 | _,_=>none
def gy (y:Nat):AV→Option Nat
 | .int _ i=>if 0≤i∧i≤y then some i.toNat else none
 | _=>none
def tN (y:Nat) (v:Option AV) (d:Nat):Option Nat :=
 match v with
 | none=>some d
 | some v=>gy y v
def qg (len m:Nat):Option AV→Option Nat
 | some v=>gy m v
 | none=>if len≤m then some len else none
def cO (len cap:Nat) (low high max:Option AV):Option (Nat×Nat×Nat) :=
 if high.isNone∧max.isSome then none else
 (tN cap max cap).bind fun m=>(qg len m high).bind fun h=>(tN h low 0).map fun l=>(l,h,m)
def aY (T:TT) (t:TypeId) (x:AV) (low high max:Option AV):Option AV :=
 match T.cM t,x with
 | some .string,.str s =>
  if max.isSome then none else
  (cO s.length s.length low high none).map fun r=>.str ((s.drop r.1).take (r.2.1 - r.1))
 | some (.slice elem),.slc a len cap ex =>
  (T.eN elem).bind fun n=>(cO len cap low high max).bind fun (l,h,m) =>
   match a with
   | none=>some (.slc none (h - l) (m - l) true)
   | some (b,o) =>
    if ex||max.isSome then some (.slc (some (b,if m=l then o else o+l*n)) (h - l) (m - l) true)
    else if m=l then some .emp
    else some (.slc (some (b,o+l*n)) (h - l) (m - l) false)
 | some (.slice elem),.emp=>(T.eN elem).bind fun _=>(cO 0 0 low high max).map fun _=>.emp
 | some (.array k elem),.ptr (some (b,o)) =>
  (T.eN elem).bind fun n=>(cO k k low high max).map fun (l,h,m)=>.slc (some (b,if m=l then o else o+l*n)) (h - l) (m - l) true
 | _,_=>none
def uI (T:TT) (t:TypeId) (len cap:AV) (s:AS):Option (AV×AS) :=
 match T.cM t,len,cap with
 | some (.slice elem),.int _ l,.int _ c =>
  (T.eN elem).bind fun n=>(T.Jo elem).bind fun qK=>(T.sL elem).bind fun z=>(bJ z).bind fun zc =>
   if 0≤l∧l≤c∧(qK:Int)*c≤2 ^ 48∧c<2 ^ 63∧zc.length=n then
    some (.slc (some (s.nl,0)) l.toNat c.toNat true,s.new (.cells (rep c.toNat zc) 0 false))
   else none
 | _,_,_=>none
def nH (size n:Nat) (s:AS):AV→Option (List AV)
 | .slc (some (l,o)) _ _ _=>if n=0 then some [] else aB s l o (n*size)
 | .slc none _ _ _=>some []
 | .emp=>if n=0 then some [] else none
 | .str b=>some ((b.take n).map fun c=>.int .u8 c.toNat)
 | _=>none
def ES:AV→Option Nat
 | .slc _ n _ _=>some n
 | .emp=>some 0
 | .str s=>some s.length
 | _=>none
def tO (T:TT) (elem:TypeId) (dst x:AV) (s:AS):Option (AV×AS) :=
 (T.eN elem).bind fun size=>(T.Jo elem).bind fun qK=>(T.sL elem).bind fun z=>(bJ z).bind fun zc =>
 match dst,x with
 | .slc base len cap true,.int .i64 k =>
  if zc.length≠size∨k<0∨2 ^ 40<len+k.toNat∨2*((len+k.toNat+256)*qK)>2 ^ 48∨len+k.toNat≤cap then none else
  (nH size len s (.slc base len cap true)).map fun old=>(.slc (some (s.nl,0)) (len+k.toNat) (len+k.toNat) false,s.new (.cells (old++rep k.toNat zc) size false))
 | .slc (some (l,o)) len cap false,.int .i64 k =>
  if zc.length≠size∨k<0∨2 ^ 40<len+k.toNat∨2*((len+k.toNat+256)*qK)>2 ^ 48∨len≠cap then none else
  if k.toNat=0 then some (dst,s) else
  (nH size len s dst).bind fun old=>match s.h l with
   | some (.cells cs g false)=>if g=size∧size≠0∧o+cap*size=cs.length then
     some (.slc (some (s.nl,0)) (len+k.toNat) (len+k.toNat) false,(s.kill l).new (.cells (old++rep k.toNat zc) size false)) else none
   | _=>none
 | _,_=>none
def aJ (T:TT) (t xt:TypeId) (dst x:AV) (s:AS):Option (AV×AS) :=
 match T.cM t,T.cM xt with
 | some (.slice elem),some xd =>
  if (match xd with | .int _=>true | _=>false) then tO T elem dst x s else
  (T.eN elem).bind fun size=>(T.Jo elem).bind fun qK=>(T.sL elem).bind fun z=>(bJ z).bind fun zc =>
  (ES x).bind fun n=>(nH size n s x).bind fun new =>
  match dst with
  | .slc base len cap ex =>
   if zc.length≠size∨new.length≠n*size∨2 ^ 40<len+n∨2*((len+n+256)*qK)>2 ^ 48 then none else
   if len+n≤cap then
    (match base with
     | none=>some (.slc none (len+n) cap ex,s)
     | some (l,o) =>
      if new=[] then some (.slc base (len+n) cap ex,s)
      else (cN s l (o+len*size) new).map fun s'=>(.slc base (len+n) cap ex,s'))
   else
    (nH size len s (.slc base len cap ex)).bind fun old =>
     if ex then some (.slc (some (s.nl,0)) (len+n) (len+n) false,s.new (.cells (old++new) size false))
     else match base with
      | none=>none
      | some (l,o) =>
       match s.h l with
       | some (.cells cs g false) =>
        if g=size∧size≠0∧o+cap*size=cs.length then
         some (.slc (some (s.nl,0)) (len+n) (len+n) false,(s.kill l).new (.cells (old++new) size false))
        else none
       | _=>none
  | _=>none
 | _,_=>none
def qT (T:TT) (t:TypeId) (dst x:AV) (s:AS):Option (AV×AS) :=
 match T.cM t with
 | some (.slice elem) =>
  (T.eN elem).bind fun size=>(ES x).bind fun m=>(ES dst).bind fun d =>
   (nH size (min m d) s x).bind fun new =>
    match dst with
    | .slc (some (l,o)) _ _ _=>if new=[] then some (.int .i64 ((min m d:Nat):Int),s) else (cN s l o new).map fun s'=>(.int .i64 ((min m d:Nat):Int),s')
    | .slc none _ _ _=>some (.int .i64 ((min m d:Nat):Int),s)
    | .emp=>if new=[] then some (.int .i64 ((min m d:Nat):Int),s) else none
    | _=>none
 | _=>none
def wV (T:TT) (kt:TypeId) (k:AV):List (AV×AV×Nat)→Nat→Option (Option (Nat×AV))
 | [],_=>some none
 | (k',v,_)::es,i =>
  match iK T 100 kt k k' with
  | some true=>some (some (i,v))
  | some false=>wV T kt k es (i+1)
  | none=>none
def CU (T:TT) (ok:TypeId→AV→Bool) (cs:List AV):List Field→Bool
 | []=>true
 | f :: fs => (if f.name ≠ "_" then (match part T f.type cs f.offset with | some v => ok f.type v | none => false) else true) && CU T ok cs fs
def G8 (T:TT) (ok:TypeId→AV→Bool) (elem:TypeId) (n:Nat) (cs:List AV):Nat→Nat→Bool
 | 0,_=>true
 | len+1,i=>(match part T elem cs (i*n) with | some v=>ok elem v | none=>false)&&G8 T ok elem n cs len (i+1)
def nI (T:TT):Nat→TypeId→AV→Bool
 | 0,_,_=>false
 | d+1,t,v =>
  match T.cM t,v with
  | some (.array len elem),.agg cs=>match T.eN elem with | some n=>G8 T (nI T d) elem n cs len 0 | none=>false
  | some (.struct fields),.agg cs=>CU T (nI T d) cs fields.toList
  | some (.interface _),_=>false
  | some (.array _ _),_=>false
  | some (.struct _),_=>false
  | some _,_=>true
  | none,_=>false
def Ej (same:AV→AV→Bool):List AV→List AV→Bool
 | [],[]=>true
 | x::xs,y::ys=>same x y&&Ej same xs ys
 | _,_=>false
def zq:Nat→AV→AV→Bool
 | 0,.bool a,.bool b=>a==b
 | 0,.int j a,.int k b=>j==k&&a==b
 | 0,.str a,.str b=>a==b
 | 0,_,_=>false
 | _+1,.bool a,.bool b=>a==b
 | _+1,.int j a,.int k b=>j==k&&a==b
 | _+1,.str a,.str b=>a==b
 | n+1,.agg a,.agg b=>Ej (zq n) a b
 | _+1,_,_=>false
def dI (T:TT) (t:TypeId) (m k:AV) (commaOk:Bool) (s:AS):Option AV :=
 match T.cM t,m with
 | some (.map kt et),.map r =>
  if nI T 100 kt k then
   (match r with
    | none=>some []
    | some l=>match s.h l with
     | some (.map es _ _)=>some es
     | _=>none).bind fun es =>
    (wV T kt k es 0).bind fun r =>
     (match r with
      | some (_,v)=>some (v,true)
      | none=>(T.sL et).map fun z=>(z,false)).map fun (v,ok)=>if commaOk then .aQ [v,.bool ok] else v
  else none
 | _,_=>none
def dN (T:TT) (t:TypeId) (m k v:AV) (s:AS):Option AS :=
 match T.cM t,m with
 | some (.map kt _),.map (some l) =>
  match s.h l with
  | some (.map es clock false) =>
   if nI T 100 kt k then
    (wV T kt k es 0).bind fun r =>
     match r with
     | some (i,_)=>match es[i]? with
      | some (k',_,n)=>if zq 100 k' k then some (s.put l (.map (es.set i (k,v,n)) clock false)) else none
      | none=>none
     | none=>some (s.put l (.map (es++[(k,v,clock)]) (clock+1) false))
   else none
  | _=>none
 | _,_=>none
def qp (T:TT) (t:TypeId) (m k:AV) (s:AS):Option AS :=
 match T.cM t,m with
 | some (.map kt _),.map r =>
  if nI T 100 kt k then
   match r with
   | none=>some s
   | some l=>match s.h l with
    | some (.map es clock false) =>
     (wV T kt k es 0).map fun r=>match r with
      | some (i,_)=>s.put l (.map (es.eraseIdx i) clock false)
      | none=>s.put l (.map es clock false)
    | _=>none
  else none
 | _,_=>none
def aP (T:TT) (t:TypeId) (x:AV) (s:AS):Option AV :=
 match T.cM t,x with
 | some .string,.str b=>some (.int .i64 b.length)
 | some (.array n _),_=>some (.int .i64 n)
 | some (.slice _),.slc _ n _ _=>some (.int .i64 n)
 | some (.slice _),.emp=>some (.int .i64 0)
 | some (.map _ _),.map none=>some (.int .i64 0)
 | some (.map _ _),.map (some l)=>match s.h l with
  | some (.map es _ _)=>some (.int .i64 es.length)
  | _=>none
 | _,_=>none
def wW (T:TT) (t:TypeId) (x:AV):Option AV :=
 match T.cM t,x with
 | some (.slice _),.slc _ _ c true=>some (.int .i64 c)
 | _,_=>none
def LB (T:TT) (t:TypeId) (x:AV) (s:AS):Option AS :=
 match T.cM t,x with
 | some (.slice _),.slc none _ _ _=>some s
 | some (.slice _),.emp=>some s
 | some (.slice elem),.slc (some (l,o)) n _ _ =>
  if n=0 then some s else
  (T.sL elem).bind fun z=>(bJ z).bind fun zc=>cN s l o (rep n zc)
 | _,_=>none
def Tn (To:Bool):AV→AV→Option AV
 | .int k x,.int _ y=>some (.int k (if To then (if y>x then y else x) else (if y<x then y else x)))
 | _,_=>none
def N2 (To:Bool) (x:AV):List AV→Option AV
 | []=>some x
 | y::ys=>(Tn To x y).bind fun z=>N2 To z ys
def N3 (To:Bool):List AV→Option AV
 | []=>none
 | x::rest=>N2 To x rest
def zG:List AV→Option (List UInt8)
 | []=>some []
 | .int .u8 b::cs=>(zG cs).map fun l=>UInt8.ofNat b.toNat::l
 | _::_=>none
def cP (T:TT) (src dst:TypeId) (x:AV) (s:AS):Option (AV×AS) :=
 match T.cM src,T.cM dst,x with
 | some _,some (.int k),.int _ n=>some (.int k (k.wrap n),s)
 | some _,some .string,.str b=>some (.str b,s)
 | some _,some (.slice e),.str b =>
  match T.cM e with
  | some (.int .u8)=>some (.slc (some (s.nl,0)) b.length b.length false,s.new (.cells (b.map fun c=>.int .u8 c.toNat) 1 false))
  | _=>none
 | some (.slice e),some .string,.slc none n _ _ =>
  match T.cM e with
  | some (.int .u8)=>if n=0 then some (.str [],s) else none
  | _=>none
 | some (.slice e),some .string,.emp =>
  match T.cM e with
  | some (.int .u8)=>some (.str [],s)
  | _=>none
 | some (.slice e),some .string,.slc (some (l,o)) n _ _ =>
  match T.cM e with
  | some (.int .u8)=>if n=0 then some (.str [],s) else (aB s l o n).bind fun cs=>(zG cs).map fun bs=>(.str bs,s)
  | _=>none
 | some (.slice _),some (.slice e),.slc (some (l,o)) n m ex =>
  if src=dst then
   match T.cM e,s.h l with
   | some (.int .u8),some (.cells _ 1 false)=>some (.slc (some (l,o)) n m ex,s)
   | _,_=>none
  else none
 | _,_,_=>none
def dO (T:TT) (b:Builtin) (ts:List TypeId) (args:List AV) (s:AS):Option (AV×AS) :=
 match b,ts,args with
 | .len,t::_,x::_=>(aP T t x s).map (·,s)
 | .cap,t::_,x::_=>(wW T t x).map (·,s)
 | .append,t::xt::_,dst::x::_=>aJ T t xt dst x s
 | .copy,t::_::_,dst::x::_=>qT T t dst x s
 | .delete,t::_,m::k::_=>(qp T t m k s).map (.undef,·)
 | .clear,t::_,x::_=>(LB T t x s).map (.undef,·)
 | .max,_,l=>(N3 true l).map (·,s)
 | .min,_,l=>(N3 false l).map (·,s)
 | _,_,_=>none
def wX (x:AV) (s:AS):Option AV:=match x with
 | .ptr (some (l,0))=>match s.h l with
  | some (.fC (some m) _ seen stepped _)=>match s.h m with
   | some (.map es clock _)=>if clock=stepped then (seen.getLast?).bind fun n=>(es.find? fun e=>e.2.2==n).map fun e=>.aQ [e.1,e.2.1] else none
   | _=>none
  | _=>none
 | _=>none
def Ur (T:TT) (t:TypeId):AV→Option AV
 | .slc (some p) len _ _=>match T.cM t with
  | some (.array n _)=>if len<n then none else some (.ptr (some p))
  | _=>none
 | _=>none
def cH (T:TT) (op:Op) (ρ:Operand→AV) (s:AS):Option (AV×AS) :=
 match op with
 | .move x | .assign x=>some (ρ x,s)
 | .pick c a b=>match ρ c with
  | .bool t=>some (if t then ρ a else ρ b,s)
  | _=>none
 | .alloc e=>(T.sL e).bind fun z=>(bJ z).map fun cs=>(.ptr (some (s.nl,0)),s.new (.cells cs 0 false))
 | .box _ x=>(bJ (ρ x)).map fun cs=>(.ptr (some (s.nl,0)),s.new (.cells cs 0 false))
 | .build t parts=>(aU T t (parts.toList.map fun p=>(p.1,ρ p.2))).map (·,s)
 | .buildSlice t len parts=>lK T t len (parts.toList.map fun p=>(p.1,ρ p.2)) s
 | .load t a=>(Jp T t s (ρ a)).map (·,s)
 | .store t a x=>(ast T t s (ρ a) (ρ x)).map (.undef,·)
 | .nilCheck x=>match ρ x with
  | .ptr (some p)=>some (.ptr (some p),s)
  | .func f c=>some (.func f c,s)
  | .uE f ft c=>some (.uE f ft c,s)
  | .iface t v=>some (.iface t v,s)
  | _=>none
 | .binOp op t x y _=>if Q5 T t x y (ρ x) (ρ y) then (lf T op t (ρ x) (ρ y)).map (·,s) else none
 | .unOp op _ x=>(aun op (ρ x)).map (·,s)
 | .convert src dst x=>cP T src dst (ρ x) s
 | .makeInterface t x=>match T.cM t with
  | some (.interface _)=>none
  | some _=>some (.iface t (ρ x),s)
  | none=>none
 | .makeFunc (.func f) first captured=>if first.isEmpty then some (.func f (captured.toList.map ρ),s) else some (.uE f (first.toList.map ρ) (captured.toList.map ρ),s)
 | .makeMap t none=>match T.cM t with
  | some _=>some (.map (some s.nl),s.new (.map [] 0 false))
  | none=>none
 | .makeSlice t l c=>uI T t (ρ l) (ρ c) s
 | .slice t x lo hi mx=>(aY T t (ρ x) (lo.map ρ) (hi.map ρ) (mx.map ρ)).map (·,s)
 | .fieldAddr t x f=>(uH T t (ρ x) f).map (·,s)
 | .field t x f=>(G7 T t (ρ x) f).map (·,s)
 | .indexAddr t x ix=>(ag T t (ρ x) (ρ ix)).map (·,s)
 | .index t x ix=>(jd T t (ρ x) (ρ ix)).map (·,s)
 | .lookup t x ix ok=>(dI T t (ρ x) (ρ ix) ok s).map (·,s)
 | .mapUpdate t m k v | .insert t m k v=>(dN T t (ρ m) (ρ k) (ρ v) s).map (.undef,·)
 | .extract t i=>match ρ t with
  | .aQ vs=>(vs[i]?).map (·,s)
  | _=>none
 | .call c=>match c.callee with
  | .builtin b=>dO T b c.argTypes.toList (c.args.toList.map ρ) s
  | _=>none
 | .range t x=>match T.cM t,ρ x with
  | some .string,.str b=>some (.ptr (some (s.nl,0)),s.new (.qf b 0 false))
  | some (.map _ _),.map none=>some (.ptr (some (s.nl,0)),s.new (.fC none 0 [] 0 false))
  | some (.map _ _),.map (some m)=>match s.h m with
   | some (.map _ clock _)=>some (.ptr (some (s.nl,0)),s.new (.fC (some m) clock [] clock false))
   | _=>none
  | _,_=>none
 | .entry it=>(wX (ρ it) s).map (·,s)
 | .sliceToArrayPointer t x=>(Ur T t (ρ x)).map (·,s)
 | _=>none
def Ek (op:Op) (ρ:Operand→AV) (s:AS):Option (List (AV×AS)) :=
 match op with
 | .next it isStr=>match ρ it with
  | .ptr (some (l,0))=>match s.h l with
   | some (.fC none _ _ _ _)=>if isStr then none else some [(.aQ [.bool false],s)]
   | some (.fC (some m) since seen last false)=>if isStr then none else match s.h m with
    | some (.map es clock _) =>
     if seen≠[]∧es≠[]∧(es.all fun e=>decide (last≤e.2.2)) then none else
     let left:=es.filter fun e=>!seen.contains e.2.2
     let old:=left.filter fun e=>decide (e.2.2<since)
     let new:=left.filter fun e=>decide (since≤e.2.2)
     some ((if old.isEmpty then [(.aQ [.bool false],s)] else []) ++
      (old++new).map fun e=>(.aQ [.bool true,e.1,e.2.1],s.put l (.fC (some m) since (seen++[e.2.2]) clock false)))
    | _=>none
   | some (.qf b pos false)=>if isStr then
     (if pos<b.length then
      let cw:=Utf8.decode ⟨b.toArray⟩ pos
      some [(.aQ [.bool true,.int .i64 pos,.int .i32 cw.1],s.put l (.qf b (pos+cw.2) false))]
     else some [(.aQ [.bool false],s)])
    else none
   | _=>none
  | _=>none
 | _=>none
end Go.Am
end

section
namespace Go.Am
section
variable {P:Program} {T:TT} (hT:TT.Ok P T)
include hT
theorem run_underlying {t:TypeId} {d:TypeDesc} (h:T.cM t=some d) (w:World):(underlying t).run P w=.ok d w:=by
 simp [underlying,hT.cM t d h]
theorem run_sizeOf {t:TypeId} {n:Nat} (h:T.eN t=some n) (w:World):(sizeOf t).run P w=.ok n w:=by
 have:=hT.eN t n h
 cases hi:P.info? t with
 | none=>simp [hi] at this
 | some i=>simp [hi] at this;simp [sizeOf,typeInfo,hi,this]
theorem qL {t:TypeId} {n:Nat} (h:T.Jo t=some n) (w:World):∃ i,(typeInfo t).run P w=.ok i w∧i.bytes=n:=by
 have:=hT.Jo t n h
 cases hi:P.info? t with
 | none=>simp [hi] at this
 | some i=>simp [hi] at this;exact ⟨i,by simp [typeInfo,hi],this⟩
theorem iF {t:TypeId} {z:AV} (h:T.sL t=some z) (w:World):∃ c,(zeroValue t).run P w=.ok c w∧∀ γ,ah γ z c:=by
 obtain ⟨i,c,hi,hc,hz⟩:=hT.sL t z h
 exact ⟨c,by simp [zeroValue,typeInfo,hi,hc],hz⟩
theorem yz {t:TypeId} {b:Bool} (h:T.agg t=some b) (w:World):(isAgg t).run P w=.ok b w:=by
 unfold TT.agg at h
 cases hu:T.cM t with
 | none=>simp [hu] at h
 | some d =>
  rw [hu] at h
  simp only [isAgg,Sem.run_bind,run_underlying hT hu,Result.andThen_ok]
  cases d <;> simp at h <;> subst h <;> rfl
end
theorem zH {w:World} {b o:Nat} {c:Array Value} {e:TypeId} {fz:Nat×Nat} {v:Value} (h:w.heap[b]? = some (.cells c e fz)) (hv:c[o]? = some v) :
  w.cell? ⟨b,o,none⟩=some v:=by simp [World.cell?,h,hv]
theorem iq (b o i:Nat):(Addr.mk b o none).add i=⟨b,o+i,none⟩:=by
 unfold Addr.add;split
 ·rename_i h;simp [h]
 ·rfl
theorem run_loadCellsFrom (P:Program) {w:World} {b o:Nat} {c:Array Value} {e:TypeId} {fz:Nat×Nat} (h:w.heap[b]? = some (.cells c e fz)) :
  ∀ (n i:Nat) (acc:Array Value),o+i+n≤c.size→(loadCellsFrom ⟨b,o,none⟩ i n acc).run P w=.ok (acc++c.extract (o+i) (o+i+n)) w
 | 0,i,acc,_=>by simp [loadCellsFrom];omega
 | n+1,i,acc,hn=>by
  have hc:c[o+i]? = some (c[o+i]'(by omega)):=Array.getElem?_eq_getElem (by omega)
  simp only [loadCellsFrom,Sem.run_bind,run_load,iq,zH h hc,Result.andThen_ok]
  rw [run_loadCellsFrom P h n (i+1) _ (by omega)]
  congr 1
  apply Array.ext'
  simp only [Array.toList_append,Array.toList_push,Array.toList_extract,List.append_assoc]
  congr 1
  rw [show o+i+(n+1)=(o+i+1)+n by omega,show o+(i+1)=o+i+1 by omega]
  simp only [List.extract_eq_take_drop]
  rw [show (o+i+1+n - (o+i))=n+1 by omega,show (o+i+1+n - (o+i+1))=n by omega]
  rw [List.drop_eq_getElem_cons (show o+i<c.toList.length by simpa using (by omega:o+i<c.size))]
  simp
theorem run_loadCells (P:Program) {w:World} {b o n:Nat} {c:Array Value} {e:TypeId} {fz:Nat×Nat} (h:w.heap[b]? = some (.cells c e fz)) (hn:o+n≤c.size) :
  (loadCells ⟨b,o,none⟩ n).run P w=.ok (c.extract o (o+n)) w:=by
 have:=run_loadCellsFrom P (o:=o) h n 0 #[] (by omega)
 simpa [loadCells] using this
def N4 (c:Array Value) (o:Nat):List Value→Array Value
 | []=>c
 | v::vs=>N4 (c.setIfInBounds o v) (o+1) vs
theorem tP:∀ (vs:List Value) (c:Array Value) (o:Nat),(N4 c o vs).size=c.size
 | [],_,_=>rfl
 | v::vs,c,o=>by simp [N4,tP vs]
theorem LC {w:World} {b o:Nat} {c:Array Value} {e:TypeId} {fz:Nat×Nat} (h:w.heap[b]? = some (.cells c e fz)) (v:Value) :
  (w.setCell ⟨b,o,none⟩ v).heap=w.heap.setIfInBounds b (.cells (c.setIfInBounds o v) e fz):=by
 have hb:b<w.heap.size:=by
  rcases Nat.lt_or_ge b w.heap.size with h' | h'
  ·exact h'
  ·simp [Array.getElem?_eq_none h'] at h
 have hg:w.heap[b]=.cells c e fz:=by simpa [Array.getElem?_eq_getElem hb] using h
 apply Array.ext_getElem?
 intro i
 simp only [World.setCell,Array.getElem?_modify,Array.getElem?_setIfInBounds]
 by_cases hi:b=i
 ·subst hi;simp [hb,hg]
 ·simp [hi]
theorem Q6 (w:World) (a:Addr) (v:Value):(w.setCell a v).os=w.os:=rfl
theorem G9 (w:World) (a:Addr) (v:Value):(w.setCell a v).output=w.output:=rfl
theorem qU (P:Program) {b o:Nat} {e:TypeId} {fz:Nat×Nat}:∀ (vs:List Value) (i:Nat) (w:World) (c:Array Value),w.heap[b]? = some (.cells c e fz) →
  o+i+vs.length≤c.size→(∀ x,x<c.size→¬ (fz.1≤x∧x<fz.2))→(∀ v∈vs,v.oneCell'=true) →
  ∃ w',(storeCells ⟨b,o,none⟩ vs i).run P w=.ok () w'∧w'.heap=w.heap.setIfInBounds b (.cells (N4 c (o+i) vs) e fz)∧Env w w'
 | [],i,w,c,h,_,_,_=>by
  refine ⟨w,by simp [storeCells],?_,rfl,rfl,rfl⟩
  apply Array.ext_getElem?
  intro k
  simp only [Array.getElem?_setIfInBounds]
  have hb:b<w.heap.size:=by
   rcases Nat.lt_or_ge b w.heap.size with h' | h'
   ·exact h'
   ·simp [Array.getElem?_eq_none h'] at h
  by_cases hk:b=k
  ·subst hk;simp only [N4,h,hb,if_true]
  ·simp [hk]
 | v::vs,i,w,c,h,hn,hf,hv=>by
  simp only [List.length_cons] at hn
  have hc:c[o+i]? = some (c[o+i]'(by omega)):=Array.getElem?_eq_getElem (by omega)
  have hb:b<w.heap.size:=by
   rcases Nat.lt_or_ge b w.heap.size with h' | h'
   ·exact h'
   ·simp [Array.getElem?_eq_none h'] at h
  have hfr:w.frozen? ⟨b,o+i,none⟩=false:=by
   have:=hf (o+i) (by omega)
   simp only [World.frozen?,h,Bool.and_eq_false_iff,decide_eq_false_iff_not]
   by_cases g:fz.1≤o+i
   ·exact .inr fun g2=>this ⟨g,g2⟩
   ·exact .inl g
  have hh:=LC (o:=o+i) h v
  have h1:(w.setCell ⟨b,o+i,none⟩ v).heap[b]? = some (.cells (c.setIfInBounds (o+i) v) e fz):=by
   rw [hh];simp [hb]
  obtain ⟨w',hr,CV,hev⟩:=qU P (b:=b) (o:=o) vs (i+1) _ _ h1 (by simp;omega) (by simpa using hf) (fun u hu=>hv u (List.mem_cons_of_mem _ hu))
  refine ⟨w',?_,?_,Env.trans ⟨Q6 _ _ _,rfl,G9 _ _ _⟩ hev⟩
  ·simp only [storeCells,Sem.run_bind,iq,run_store P w _ v .plain (hv v (by simp)),zH h hc,hfr,Bool.false_eq_true,if_false,Result.andThen_ok]
   exact hr
  ·rw [CV,hh]
   apply Array.ext_getElem?
   intro k
   simp only [Array.getElem?_setIfInBounds,Array.size_setIfInBounds,N4]
   by_cases hk:b=k
   ·subst hk;simp [hb];rfl
   ·simp [hk]
theorem je (P:Program) (w:World) (e:TypeId) (c:Array Value) :
  (newRow e c).run P w=.ok ⟨w.heap.size,0,none⟩ { w with heap:=w.heap.push (.cells c e) }:=by
 simp [newRow]
theorem gS:∀ (vs cs:List AV) (o:Nat),(qJ cs o vs).length=cs.length
 | [],_,_=>rfl
 | v::vs,cs,o=>by simp [qJ,gS vs]
theorem jM:∀ (vs cs:List AV) (o k:Nat),o+vs.length≤cs.length→(qJ cs o vs)[k]? = if o≤k∧k<o+vs.length then vs[k - o]? else cs[k]?
 | [],cs,o,k,_=>by simp only [qJ,List.length_nil];rw [if_neg (by omega)]
 | v::vs,cs,o,k,h=>by
  simp only [List.length_cons] at h ⊢
  rw [qJ,jM vs (cs.set o v) (o+1) k (by simp;omega)]
  by_cases h1:o=k
  ·subst h1
   rw [if_neg (by omega),if_pos (by omega)]
   simp [List.getElem?_set]
   omega
  ·by_cases h2:o+1≤k∧k<o+1+vs.length
   ·rw [if_pos h2,if_pos (by omega)]
    rw [show k - o=(k - (o+1))+1 by omega]
    simp
   ·rw [if_neg h2,if_neg (by omega),List.getElem?_set]
    simp [h1]
theorem A7:∀ (vs:List Value) (c:Array Value) (o k:Nat),o+vs.length≤c.size→(N4 c o vs)[k]? = if o≤k∧k<o+vs.length then vs[k - o]? else c[k]?
 | [],c,o,k,_=>by simp only [N4,List.length_nil];rw [if_neg (by omega)]
 | v::vs,c,o,k,h=>by
  simp only [List.length_cons] at h ⊢
  rw [N4,A7 vs (c.setIfInBounds o v) (o+1) k (by simp;omega)]
  by_cases h1:o=k
  ·subst h1
   rw [if_neg (by omega),if_pos (by omega)]
   simp [Array.getElem?_setIfInBounds]
   omega
  ·by_cases h2:o+1≤k∧k<o+1+vs.length
   ·rw [if_pos h2,if_pos (by omega)]
    rw [show k - o=(k - (o+1))+1 by omega]
    simp
   ·rw [if_neg h2,if_neg (by omega),Array.getElem?_setIfInBounds]
    simp [h1]
theorem k_.read {γ:bM} {w:World} {i:CI} {cs:List AV} {g:Nat} {ro:Bool} (h:k_ γ w i (.cells cs g ro)) {o n:Nat} (hn:o+n≤cs.length) :
  ∃ c e fz,w.heap[i.b]? = some (.cells c e fz)∧(n≠0→i.d+o+n≤c.size)∧ak γ ((cs.drop o).take n) ((c.extract (i.d+o) (i.d+o+n)).toList):=by
 obtain ⟨c,e,fz,hb,hc,_⟩:=h
 have hsz:n≠0→i.d+o+n≤c.size:=by
  intro h0
  obtain ⟨_,cv,AY,_⟩:=hc (o+n - 1) _ (List.getElem?_eq_getElem (show o+n - 1<cs.length by omega))
  have:i.d+(o+n - 1)<c.size:=by
   rcases Nat.lt_or_ge (i.d+(o+n - 1)) c.size with h | h
   ·exact h
   ·simp [Array.getElem?_eq_none h] at AY
  omega
 refine ⟨c,e,fz,hb,hsz,?_⟩
 refine ak.eS.2 ⟨?_,fun k v cv hv AY=>?_⟩
 ·by_cases h0:n=0
  ·simp [h0]
  ·have:=hsz h0;simp;omega
 ·rw [List.getElem?_take] at hv
  split at hv
  ·rename_i hk
   rw [List.getElem?_drop] at hv
   obtain ⟨_,dv,hdv,hr⟩:=hc (o+k) v hv
   have:(c.extract (i.d+o) (i.d+o+n)).toList[k]? = some dv:=by
    have h1:i.d+o+n≤c.size:=hsz (by omega)
    simp only [Array.toList_extract,List.extract_eq_take_drop,List.getElem?_take,List.getElem?_drop]
    rw [if_pos (by omega),← Nat.add_assoc] at *
    simpa [Nat.add_assoc] using hdv
   rw [this] at AY
   obtain rfl:=Option.some.inj AY
   exact hr
  ·simp at hv
theorem fq {v:AV} {l:List AV} (h:bJ v=some l):l=v.cells∧l.all AV.one=true:=by
 unfold bJ at h
 split at h
 ·rename_i hh;obtain rfl:=Option.some.inj h;exact ⟨rfl,hh⟩
 ·simp at h
end Go.Am
end

section
namespace Go.Am
def zI (P:Program) (B:Nat) (γ:bM) (s:AS) (w:World) (m:Sem Value) (v:AV) (s':AS):Prop :=
 ∃ γ' w' cv,m.run P w=.ok cv w'∧ah γ' v cv∧fJ B γ s w γ' s' w'∧Rel B γ' s' w'
def acn (P:Program) (B:Nat) (γ:bM) (s:AS) (w:World) (m:Sem Unit) (s':AS):Prop :=
 ∃ γ' w',m.run P w=.ok () w'∧fJ B γ s w γ' s' w'∧Rel B γ' s' w'
theorem zI.val {P:Program} {B:Nat} {γ:bM} {s:AS} {w:World} {m:Sem Value} {v:AV} {cv:Value} (hr:Rel B γ s w) (hm:m.run P w=.ok cv w) (hv:ah γ v cv) :
  zI P B γ s w m v s:=⟨γ,w,cv,hm,hv,fJ.refl,hr⟩
theorem Rel.wY {B:Nat} {γ:bM} {s:AS} {w w':World} {cs:List AV} {g x:Nat} {c:Array Value} {e:TypeId} (h:Rel B γ s w)
  (hc:∀ (k:Nat) v,cs[k]? = some v→v.one=true∧∃ cv,c[k]? = some cv∧ah γ v cv) (hg:g≠0→c.size=cs.length+x*g∧∀ k,cs.length≤k→k<c.size→∃ v cv,v.one=true∧c[k]? = some cv∧ah γ v cv) (fz:Nat×Nat) (hfz:∀ o,o<c.size→¬ (fz.1≤o∧o<fz.2)) (agI:g≠1→fz=(0,0)) (agJ:fz.1≤fz.2)
  (hw:w'.heap=w.heap.push (.cells c e fz)) (he:Env w w':=by exact ⟨rfl,rfl,rfl⟩) :
  Rel B (gR γ s.nl ⟨w.heap.size,0,x⟩) (s.new (.cells cs g false)) w'∧fJ B γ s w (gR γ s.nl ⟨w.heap.size,0,x⟩) (s.new (.cells cs g false)) w':=by
 refine Rel.alloc h rfl rfl hw ⟨c,e,fz,by rw [hw];simp,fun k v hk=>?_,fun _=>hfz,fun h0=>?_,fun _=>⟨agI,agJ⟩⟩ he
 ·obtain ⟨h1,cv,h2,h3⟩:=hc k v hk
  exact ⟨h1,cv,by simpa using h2,h3.mono (bM.uG h.N0)⟩
 ·exact ⟨by simpa using (hg h0).1,fun k hk hk'=>let ⟨v,cv,a,b,d⟩:=(hg h0).2 k (by simpa using hk) hk';⟨v,cv,a,b,d.mono (bM.uG h.N0)⟩⟩
theorem uJ {γ:bM} {cs:List AV} {l:List Value} {c:Array Value} (h:ak γ cs l) (hone:cs.all AV.one=true) (hl:∀ (k:Nat) (v:Value),l[k]? = some v→c[k]? = some v) :
  ∀ (k:Nat) v,cs[k]? = some v→v.one=true∧∃ cv,c[k]? = some cv∧ah γ v cv:=by
 intro k v hk
 obtain ⟨cv,AY,hr⟩:=h.get hk
 exact ⟨List.all_eq_true.1 hone v (List.mem_of_getElem? hk),cv,hl k cv AY,hr⟩
theorem G_ {P:Program} {B:Nat} {γ:bM} {s:AS} {w:World} {v:AV} {cv:Value} {cs:List AV} (t:TypeId) (hr:Rel B γ s w) (hv:ah γ v cv) (hcs:bJ v=some cs) :
  zI P B γ s w (do pure (.pointer (some (← newVar t cv)))) (.ptr (some (s.nl,0))) (s.new (.cells cs 0 false)):=by
 obtain ⟨rfl,hone⟩:=fq hcs
 have hc:=uJ (c:=cv.cells) (hv.cells hone) hone (by intro k v h;simpa using h)
 obtain ⟨h1,h2⟩:=hr.wY (w':={ w with heap:=w.heap.push (.cells cv.cells t) }) (g:=0) (x:=0) (e:=t) hc (by simp) (0,0) (by simp) (fun _=>rfl) (Nat.le_refl _) rfl
 refine ⟨_,_,.pointer (some ⟨w.heap.size,0,none⟩),?_,?_,h2,h1⟩
 ·simp [newVar,je]
 ·simp [ah,b_]
section
variable {P:Program} {T:TT} (hT:TT.Ok P T) {B:Nat} {γ:bM} {s:AS} {w:World} (hr:Rel B γ s w)
include hT hr
theorem Us {e:TypeId} {z:AV} {cs:List AV} (hz:T.sL e=some z) (hcs:bJ z=some cs) :
  zI P B γ s w (Instr.alloc e true (.tuple #[])) (.ptr (some (s.nl,0))) (s.new (.cells cs 0 false)):=by
 obtain ⟨c,hc,WB⟩:=iF hT hz w
 obtain ⟨γ',w',cv,h1,h2⟩:=G_ (P:=P) e hr (WB γ) hcs
 refine ⟨γ',w',cv,?_,h2⟩
 simp only [Instr.alloc,Sem.run_bind,hc,Result.andThen_ok]
 simpa using h1
theorem Tp {l o n:Nat} {cs:List AV} (h:aB s l o n=some cs):∃ i c e fz,γ l=some i∧w.heap[i.b]? = some (.cells c e fz)∧(n≠0→i.d+o+n≤c.size) ∧
  ak γ cs ((c.extract (i.d+o) (i.d+o+n)).toList)∧cs.all AV.one=true∧cs.length=n:=by
 unfold aB at h
 split at h
 ·rename_i cl g ro hl
  split at h
  ·rename_i hn
   obtain rfl:=Option.some.inj h
   obtain ⟨i,hi,hO,_⟩:=hr.obj l _ hl
   obtain ⟨c,e,fz,hb,hsz,hvs⟩:=hO.read hn
   refine ⟨i,c,e,fz,hi,hb,hsz,hvs,?_,by simp;omega⟩
   obtain ⟨c2,e2,fz2,Em,zu,_⟩:=hO
   rw [List.all_eq_true]
   intro v hv
   have hv2:v∈cl:=List.mem_of_mem_drop (List.mem_of_mem_take hv)
   obtain ⟨k,hk⟩:=List.mem_iff_getElem?.1 hv2
   exact (zu k v hk).1
  ·simp at h
 ·simp at h
theorem mj {l o n:Nat} {cs:List AV} (h:aB s l o n=some cs):∃ i c,γ l=some i∧(loadCells ⟨i.b,i.d+o,none⟩ n).run P w=.ok c w∧ak γ cs c.toList∧cs.all AV.one=true∧cs.length=n∧c.size=n:=by
 obtain ⟨i,c,e,fz,hi,hb,hsz,hvs,hone,hlen⟩:=Tp hT hr h
 by_cases h0:n=0
 ·subst h0
  refine ⟨i,#[],hi,rfl,?_,hone,hlen,rfl⟩
  obtain rfl:=List.length_eq_zero_iff.1 hlen
  exact ak.nil
 ·refine ⟨i,_,hi,run_loadCells P hb (hsz h0),hvs,hone,hlen,?_⟩
  have:=hvs.length
  simp at this ⊢;omega
theorem aau {l o:Nat} {v:AV} (h:av s l o=some v):∃ i cv,γ l=some i∧w.cell? ⟨i.b,i.d+o,none⟩=some cv∧ah γ v cv∧v.one=true:=by
 unfold av at h
 split at h
 ·rename_i cl g ro hl
  obtain ⟨i,hi,⟨c,e,fz,hb,hc,_⟩,_⟩:=hr.obj l _ hl
  obtain ⟨h1,cv,h2,h3⟩:=hc o v h
  exact ⟨i,cv,hi,zH hb h2,h3,h1⟩
 ·simp at h
theorem Tq {t:TypeId} {l o:Nat} {v:AV} {i:CI} (hi:γ l=some i) (h:Jp T t s (.ptr (some (l,o)))=some v):∃ cv,(loadVar t ⟨i.b,i.d+o,none⟩).run P w=.ok cv w∧ah γ v cv:=by
 unfold Jp at h
 simp only at h
 split at h
 ·rename_i ha
  cases hs:T.eN t with
  | none=>simp [hs] at h
  | some n =>
   simp only [hs,Option.bind_some,Option.map_eq_some_iff] at h
   obtain ⟨cs,hcs,rfl⟩:=h
   obtain ⟨j,c,hj,hrun,hvs,_⟩:=mj hT hr hcs
   rw [hi] at hj;obtain rfl:=Option.some.inj hj
   exact ⟨.agg c,by simp [loadVar,yz hT ha,run_sizeOf hT hs,hrun],by simp only [ah];exact ⟨c,rfl,hvs⟩⟩
 ·rename_i ha
  obtain ⟨j,cv,hj,hc,hv,_⟩:=aau hT hr h
  rw [hi] at hj;obtain rfl:=Option.some.inj hj
  exact ⟨cv,by simp [loadVar,yz hT ha,hc],hv⟩
 ·cases h
theorem Xn {t:TypeId} {p v:AV} {cp:Value} (hp:ah γ p cp) (h:Jp T t s p=some v):zI P B γ s w (Instr.loadAt t cp) v s:=by
 have h0:=h
 unfold Jp at h
 split at h
 ·rename_i l o
  simp only [ah] at hp
  obtain ⟨i,hi,rfl⟩:=hp
  obtain ⟨cv,hrun,hv⟩:=Tq hT hr hi h0
  exact zI.val hr (by simp [Instr.loadAt,Instr.sureAddr,hrun]) hv
 ·cases h
theorem Gz {l o:Nat} {vs:List AV} {ET:List Value} {s':AS} (h:cN s l o vs=some s') (hv:ak γ vs ET) (hone:vs.all AV.one=true):∃ i w',γ l=some i ∧
  (storeCells ⟨i.b,i.d+o,none⟩ ET).run P w=.ok () w'∧fJ B γ s w γ s' w'∧Rel B γ s' w':=by
 unfold cN at h
 split at h
 ·rename_i cl g hl
  split at h
  ·rename_i hn
   obtain rfl:=Option.some.inj h
   obtain ⟨i,hi,hO,_⟩:=hr.obj l _ hl
   obtain ⟨c,e,fz,hb,hc,hf,hg,Ts⟩:=hO
   have hlen:=hv.length
   have hsz:vs.length≠0→i.d+o+vs.length≤c.size:=by
    intro h0
    obtain ⟨_,cv,AY,_⟩:=hc (o+vs.length - 1) _ (List.getElem?_eq_getElem (show o+vs.length - 1<cl.length by omega))
    have:i.d+(o+vs.length - 1)<c.size:=by
     rcases Nat.lt_or_ge (i.d+(o+vs.length - 1)) c.size with h | h
     ·exact h
     ·simp [Array.getElem?_eq_none h] at AY
    omega
   have LD:∀ v∈ET,v.oneCell'=true:=by
    intro v hm
    obtain ⟨k,hk⟩:=List.mem_iff_getElem?.1 hm
    have En:k<vs.length:=by
     rcases Nat.lt_or_ge k ET.length with h | h
     ·omega
     ·simp [List.getElem?_eq_none h] at hk
    have hvk:=List.getElem?_eq_getElem En
    obtain ⟨c',rN,hr'⟩:=hv.get hvk
    rw [hk] at rN;obtain rfl:=Option.some.inj rN
    exact hr'.one (List.all_eq_true.1 hone _ (List.mem_of_getElem? hvk))
   by_cases h0:vs.length=0
   ·obtain rfl:=List.length_eq_zero_iff.1 h0
    obtain rfl:=List.length_eq_zero_iff.1 (hlen.symm.trans h0)
    have hw0:w.heap=w.heap.setIfInBounds i.b (.cells c e fz):=by
     apply Array.ext_getElem?
     intro k
     rw [Array.getElem?_setIfInBounds]
     have hb':=k_.lt (γ:=γ) (o:=.cells cl g false) ⟨c,e,fz,hb,hc,hf,hg,Ts⟩
     by_cases hk:i.b=k
     ·subst hk;rw [if_pos rfl,if_pos hb',hb]
     ·rw [if_neg hk]
    obtain ⟨g1,g2⟩:=hr.write (w':=w) hl rfl (o':=.cells (qJ cl o []) g false) rfl hi hw0 ⟨c,e,fz,hb,hc,hf,hg,Ts⟩
    exact ⟨i,w,hi,rfl,g2,g1⟩
   ·obtain ⟨w',hrun,CV,hev⟩:=qU P (b:=i.b) (o:=i.d+o) ET 0 w c hb (by have:=hsz h0;omega) (hf rfl) LD
    have hb':=k_.lt (γ:=γ) (o:=.cells cl g false) ⟨c,e,fz,hb,hc,hf,hg,Ts⟩
    have hO':k_ γ w' i (.cells (qJ cl o vs) g false):=by
     refine ⟨N4 c (i.d+o+0) ET,e,fz,by rw [CV];simp [hb'],fun k v hk=>?_,fun _=>by rw [tP];exact hf rfl,fun g0=>?_,Ts⟩
     ·have hs:=hsz h0
      rw [jM _ _ _ _ hn] at hk
      rw [A7 _ _ _ _ (by omega)]
      by_cases hin:o≤k∧k<o+vs.length
      ·rw [if_pos hin] at hk
       rw [if_pos (by omega)]
       obtain ⟨c',rN,hr'⟩:=hv.get hk
       refine ⟨List.all_eq_true.1 hone _ (List.mem_of_getElem? hk),c',?_,hr'⟩
       rw [show i.d+k - (i.d+o+0)=k - o by omega];exact rN
      ·rw [if_neg hin] at hk
       rw [if_neg (by omega)]
       exact hc k v hk
     ·rw [tP,gS]
      refine ⟨(hg g0).1,fun k hk hk'=>?_⟩
      obtain ⟨v,cv,g1,g2,g3⟩:=(hg g0).2 k hk hk'
      refine ⟨v,cv,g1,?_,g3⟩
      have hs:=hsz h0
      rw [A7 _ _ _ _ (by omega),if_neg (by omega)]
      exact g2
    obtain ⟨g1,g2⟩:=hr.write (w':=w') hl rfl (o':=.cells (qJ cl o vs) g false) rfl hi CV hO' hev
    exact ⟨i,w',hi,hrun,g2,g1⟩
  ·simp at h
 ·simp at h
theorem Ut {t:TypeId} {p v:AV} {cp cv:Value} {s':AS} (hp:ah γ p cp) (hv:ah γ v cv) (h:ast T t s p v=some s'):acn P B γ s w (Instr.storeAt t cp cv) s':=by
 unfold ast at h
 split at h
 ·rename_i l o
  simp only [ah] at hp
  obtain ⟨i,hi,rfl⟩:=hp
  cases hc:bJ v with
  | none=>simp [hc] at h
  | some vs =>
   simp only [hc,Option.bind_some] at h
   split at h
   ·rename_i hs
    obtain ⟨rfl,hone⟩:=fq hc
    obtain ⟨j,w',hj,hrun,hd,hr'⟩:=Gz hT hr h (hv.cells hone) hone
    rw [hi] at hj;obtain rfl:=Option.some.inj hj
    refine ⟨γ,w',?_,hd,hr'⟩
    have hsz:cv.cells.size=v.cells.length:=by have:=(hv.cells hone).length;simp at this;omega
    simp [Instr.storeAt,Instr.sureAddr,storeVar,run_sizeOf hT hs,hsz,hrun]
   ·simp at h
 ·simp at h
end
end Go.Am
end

section
namespace Go.Am
section
variable {P:Program} {T:TT} (hT:TT.Ok P T)
include hT
theorem oL {γ:bM} {t:TypeId} {cs:List AV} {Uu:Array Value} {off:Nat} {v:AV} (hv:ak γ cs Uu.toList) (h:part T t cs off=some v) (w:World) :
  ∃ c,(Go.part t Uu off).run P w=.ok c w∧ah γ v c:=by
 unfold part at h
 split at h
 ·rename_i ha
  cases hs:T.eN t with
  | none=>simp [hs] at h
  | some n =>
   simp only [hs,Option.map_some] at h
   obtain rfl:=Option.some.inj h
   refine ⟨.agg (Uu.extract off (off+n)),by simp [Go.part,yz hT ha,run_sizeOf hT hs],?_⟩
   simp only [ah]
   refine ⟨_,rfl,?_⟩
   have:=(hv.drop off).take n
   simpa [Array.toList_extract,List.extract_eq_take_drop] using this
 ·rename_i ha
  obtain ⟨c,hc,hr⟩:=hv.get h
  refine ⟨c,?_,hr⟩
  simp only [Go.part,Sem.run_bind,yz hT ha,Result.andThen_ok]
  have:Uu[off]? = some c:=by simpa using hc
  simp [this]
 ·simp at h
theorem GA {γ:bM} (w:World):∀ (d:Nat) (t:TypeId) (x y:AV) (b:Bool),iK T d t x y=some b→∀ (cx cy:Value),ah γ x cx→ah γ y cy→∀ D,d≤D→(Op.equalIn D t cx cy).run P w=.ok b w:=by
 intro d
 induction d with
 | zero=>intro t x y b h;simp [iK] at h
 | succ d ih =>
  intro t x y b h cx cy hx hy D hD
  obtain ⟨D,rfl⟩:∃ D',D=D'+1:=⟨D - 1,by omega⟩
  have hD':d≤D:=by omega
  unfold iK at h
  cases hu:T.cM t with
  | none=>simp [hu] at h
  | some td =>
   simp only [hu] at h
   simp only [Op.equalIn,Sem.run_bind,run_underlying hT hu,Result.andThen_ok]
   split at h
   all_goals (try (rename some td=some _=>e;cases e))
   case h_1=>simp only [ah] at hx hy;subst hx hy;simp at h;simp [h]
   case h_2=>simp only [ah] at hx hy;subst hx hy;simp at h;simp [h]
   case h_3 =>
    simp only [ah] at hx hy;subst hx hy
    have:∀ (a b:List UInt8),((⟨a.toArray⟩:ByteArray)==⟨b.toArray⟩)=(a==b):=by
     intro a b;show (a.toArray==b.toArray)=(a==b);rw [Bool.eq_iff_iff];simp
    simp at h;simp [this,h]
   case h_4 q =>
    simp only [ah] at hx;subst hx
    cases q with
    | none=>simp only [ah] at hy;subst hy;simpa using h
    | some q=>obtain ⟨l,o⟩:=q;simp only [ah] at hy;obtain ⟨i,_,rfl⟩:=hy;simpa using h
   case h_5 q hq =>
    simp only [ah] at hy;subst hy
    cases q with
    | none=>exact absurd rfl hq
    | some q=>obtain ⟨l,o⟩:=q;simp only [ah] at hx;obtain ⟨i,_,rfl⟩:=hx;simpa using h
   case h_6 q _ _ _ =>
    simp only [ah] at hx;obtain ⟨rfl,_⟩:=hx
    cases q with
    | none=>simp only [ah] at hy;obtain ⟨rfl,_⟩:=hy;simpa using h
    | some q=>obtain ⟨l,o⟩:=q;simp only [ah] at hy;obtain ⟨i,_,rfl⟩:=hy;simpa using h
   case h_7 q _ _ _ _ _ _ hq =>
    simp only [ah] at hy;obtain ⟨rfl,_⟩:=hy
    cases q with
    | none=>exact absurd rfl hq
    | some q=>obtain ⟨l,o⟩:=q;simp only [ah] at hx;obtain ⟨i,_,rfl⟩:=hx;simpa using h
   case h_8=>simp only [ah] at hx hy;obtain ⟨rfl,_⟩:=hy;obtain ⟨_,_,rfl⟩:=hx;simpa using h
   case h_9=>simp only [ah] at hx hy;obtain ⟨rfl,_⟩:=hx;obtain ⟨_,_,rfl⟩:=hy;simpa using h
   case h_10 q =>
    simp only [ah] at hx;subst hx
    cases q with
    | none=>simp only [ah] at hy;subst hy;simpa using h
    | some q=>simp only [ah] at hy;obtain ⟨i,_,rfl⟩:=hy;simpa using h
   case h_11 q hq =>
    simp only [ah] at hy;subst hy
    cases q with
    | none=>exact absurd rfl hq
    | some q=>simp only [ah] at hx;obtain ⟨i,_,rfl⟩:=hx;simpa using h
   case h_12=>simp only [ah] at hx hy;subst hx hy;simpa using h
   case h_13=>simp only [ah] at hx hy;subst hx;obtain ⟨_,rfl,_⟩:=hy;simpa using h
   case h_14=>simp only [ah] at hx hy;subst hx;obtain ⟨_,_,rfl,_⟩:=hy;simpa using h
   case h_15=>simp only [ah] at hx hy;subst hy;obtain ⟨_,_,rfl,_⟩:=hx;simpa using h
   case h_16=>simp only [ah] at hx hy;subst hy;obtain ⟨_,rfl,_⟩:=hx;simpa using h
   case h_17=>simp only [ah] at hx hy;subst hx hy;simpa using h
   case h_18=>simp only [ah] at hx hy;subst hx;obtain ⟨_,rfl,_⟩:=hy;simpa using h
   case h_19=>simp only [ah] at hx hy;subst hy;obtain ⟨_,rfl,_⟩:=hx;simpa using h
   case h_20 fields xs ys =>
    simp only [ah] at hx hy
    obtain ⟨cxs,rfl,hxs⟩:=hx
    obtain ⟨cys,rfl,hys⟩:=hy
    split at h
    ·rename_i hq
     have hst:=hT.eqt t hq
     simp only [Sem.run_bind,run_program,Result.andThen_ok,hst,Bool.false_eq_true,if_false,← Array.forIn_toList]
     generalize fields.toList=fs at h ⊢
     induction fs with
     | nil=>simp [eqFields] at h;simp [h]
     | cons f fs ihf =>
      simp only [eqFields] at h
      by_cases hn : f.name ≠ "_"
      ·simp only [if_pos hn] at h
       cases ha:part T f.type xs f.offset with
       | none=>simp [ha] at h
       | some a =>
        cases hb:part T f.type ys f.offset with
        | none=>simp [ha,hb] at h
        | some b' =>
         simp only [ha,hb,Option.bind_some] at h
         obtain ⟨ca,hca,hra⟩:=oL hT hxs ha w
         obtain ⟨cb,hcb,hrb⟩:=oL hT hys hb w
         cases Eo:iK T d f.type a b' with
         | none=>simp [Eo] at h
         | some r =>
          have hrun:=ih _ _ _ _ Eo _ _ hra hrb D hD'
          cases r with
          | true =>
           simp only [Eo] at h
           have:=ihf h
           simp only [List.forIn_cons,Sem.run_bind,if_pos hn,hca,hcb,hrun,Result.andThen_ok] at this ⊢
           simpa using this
          | false =>
           simp only [Eo] at h
           obtain rfl:=Option.some.inj h
           simp only [List.forIn_cons,Sem.run_bind,if_pos hn,hca,hcb,hrun,Result.andThen_ok]
           simp
      ·simp only [if_neg hn] at h
       have:=ihf h
       simp only [List.forIn_cons,Sem.run_bind,if_neg hn] at this ⊢
       simpa using this
    ·simp at h
   case h_21 len elem xs ys =>
    simp only [ah] at hx hy
    obtain ⟨cxs,rfl,hxs⟩:=hx
    obtain ⟨cys,rfl,hys⟩:=hy
    cases hs:T.eN elem with
    | none=>simp [hs] at h
    | some n =>
     simp only [hs,Option.bind_some] at h
     simp only [Sem.run_bind,run_sizeOf hT hs,Result.andThen_ok,Std.Legacy.Range.forIn_eq_forIn_range',Std.Legacy.Range.size]
     simp only [Nat.sub_zero,Nat.add_one_sub_one,Nat.div_one]
     generalize 0=i0 at h ⊢
     clear hu
     induction len generalizing i0 with
     | zero=>simp [Gy] at h;simp [h]
     | succ len ihl =>
      simp only [Gy] at h
      cases ha:part T elem xs (i0*n) with
      | none=>simp [ha] at h
      | some a =>
       cases hb:part T elem ys (i0*n) with
       | none=>simp [ha,hb] at h
       | some b' =>
        simp only [ha,hb,Option.bind_some] at h
        obtain ⟨ca,hca,hra⟩:=oL hT hxs ha w
        obtain ⟨cb,hcb,hrb⟩:=oL hT hys hb w
        cases Eo:iK T d elem a b' with
        | none=>simp [Eo] at h
        | some r =>
         have hrun:=ih _ _ _ _ Eo _ _ hra hrb D hD'
         cases r with
         | true =>
          simp only [Eo] at h
          have:=ihl _ h
          simp only [List.range'_succ,List.forIn_cons,Sem.run_bind,hca,hcb,hrun,Result.andThen_ok] at this ⊢
          simpa using this
         | false =>
          simp only [Eo] at h
          obtain rfl:=Option.some.inj h
          simp only [List.range'_succ,List.forIn_cons,Sem.run_bind,hca,hcb,hrun,Result.andThen_ok]
          simp
   case h_22=>simp at h
theorem N5 {γ:bM} {op:BinOp} {t:TypeId} {x y:Operand} {a b:AV} {ca cb:Value} (ha:ah γ a ca) (hb:ah γ b cb) (h:Q5 T t x y a b=true) (w:World) :
  (eqGuard op t x y ca cb).run P w=.ok () w:=by
 have hop:op=.eql∨op=.neq∨(eqGuard op t x y ca cb)=pure ():=by cases op <;> first | exact .inl rfl | exact .inr (.inl rfl) | exact .inr (.inr rfl)
 rcases hop with rfl | rfl | hop
 rotate_left 2
 ·rw [hop];rfl
 all_goals
  simp only [eqGuard,Bool.not_true,Bool.false_eq_true,if_false]
  split
  ·have hxy:(Q4 x||Q4 y)=true:=by
    cases a with
    | nilIface =>
     cases b with
     | nilIface=>simpa only [Q5] using h
     | bad=>simp [Q5] at h
     | ptr q=>cases q <;> simp only [ah] at hb <;> (first | (cases hb;done) | (obtain ⟨_,_,hb⟩:=hb;cases hb))
     | slc q _ _ _=>cases q <;> simp only [ah] at hb <;> (first | (obtain ⟨hb,_⟩:=hb;cases hb;done) | (obtain ⟨_,_,hb⟩:=hb;cases hb))
     | map q=>cases q <;> simp only [ah] at hb <;> (first | (cases hb;done) | (obtain ⟨_,_,hb⟩:=hb;cases hb))
     | emp=>simp only [ah] at hb;obtain ⟨_,_,hb⟩:=hb;cases hb
     | func _ _=>simp only [ah] at hb;obtain ⟨_,hb,_⟩:=hb;cases hb
     | uE _ _ _=>simp only [ah] at hb;obtain ⟨_,_,hb,_⟩:=hb;cases hb
     | iface _ _=>simp only [ah] at hb;obtain ⟨_,hb,_⟩:=hb;cases hb
     | agg _=>simp only [ah] at hb;obtain ⟨_,hb,_⟩:=hb;cases hb
     | aQ _=>simp only [ah] at hb;obtain ⟨_,hb,_⟩:=hb;cases hb
     | _=>simp only [ah] at hb;cases hb
    | bad=>cases b <;> simp [Q5] at h
    | ptr q=>cases q <;> simp only [ah] at ha <;> (first | (cases ha;done) | (obtain ⟨_,_,ha⟩:=ha;cases ha))
    | slc q _ _ _=>cases q <;> simp only [ah] at ha <;> (first | (obtain ⟨ha,_⟩:=ha;cases ha;done) | (obtain ⟨_,_,ha⟩:=ha;cases ha))
    | map q=>cases q <;> simp only [ah] at ha <;> (first | (cases ha;done) | (obtain ⟨_,_,ha⟩:=ha;cases ha))
    | emp=>simp only [ah] at ha;obtain ⟨_,_,ha⟩:=ha;cases ha
    | func _ _=>simp only [ah] at ha;obtain ⟨_,ha,_⟩:=ha;cases ha
    | uE _ _ _=>simp only [ah] at ha;obtain ⟨_,_,ha,_⟩:=ha;cases ha
    | iface _ _=>simp only [ah] at ha;obtain ⟨_,ha,_⟩:=ha;cases ha
    | agg _=>simp only [ah] at ha;obtain ⟨_,ha,_⟩:=ha;cases ha
    | aQ _=>simp only [ah] at ha;obtain ⟨_,ha,_⟩:=ha;cases ha
    | _=>simp only [ah] at ha;cases ha
   cases x <;> cases y <;> first | rfl | (simp [Q4] at hxy;done)
  ·have hg:T.WA t=true:=by
    cases a with
    | agg _ =>
     cases b with
     | agg _=>simpa [Q5] using h
     | bad=>simp [Q5] at h
     | ptr q=>cases q <;> simp only [ah] at hb <;> (first | (cases hb;done) | (obtain ⟨_,_,hb⟩:=hb;cases hb))
     | slc q _ _ _=>cases q <;> simp only [ah] at hb <;> (first | (obtain ⟨hb,_⟩:=hb;cases hb;done) | (obtain ⟨_,_,hb⟩:=hb;cases hb))
     | map q=>cases q <;> simp only [ah] at hb <;> (first | (cases hb;done) | (obtain ⟨_,_,hb⟩:=hb;cases hb))
     | emp=>simp only [ah] at hb;obtain ⟨_,_,hb⟩:=hb;cases hb
     | func _ _=>simp only [ah] at hb;obtain ⟨_,hb,_⟩:=hb;cases hb
     | uE _ _ _=>simp only [ah] at hb;obtain ⟨_,_,hb,_⟩:=hb;cases hb
     | iface _ _=>simp only [ah] at hb;obtain ⟨_,hb,_⟩:=hb;cases hb
     | aQ _=>simp only [ah] at hb;obtain ⟨_,hb,_⟩:=hb;cases hb
     | _=>simp only [ah] at hb;cases hb
    | bad=>cases b <;> simp [Q5] at h
    | ptr q=>cases q <;> simp only [ah] at ha <;> (first | (cases ha;done) | (obtain ⟨_,_,ha⟩:=ha;cases ha))
    | slc q _ _ _=>cases q <;> simp only [ah] at ha <;> (first | (obtain ⟨ha,_⟩:=ha;cases ha;done) | (obtain ⟨_,_,ha⟩:=ha;cases ha))
    | map q=>cases q <;> simp only [ah] at ha <;> (first | (cases ha;done) | (obtain ⟨_,_,ha⟩:=ha;cases ha))
    | emp=>simp only [ah] at ha;obtain ⟨_,_,ha⟩:=ha;cases ha
    | func _ _=>simp only [ah] at ha;obtain ⟨_,ha,_⟩:=ha;cases ha
    | uE _ _ _=>simp only [ah] at ha;obtain ⟨_,_,ha,_⟩:=ha;cases ha
    | iface _ _=>simp only [ah] at ha;obtain ⟨_,ha,_⟩:=ha;cases ha
    | aQ _=>simp only [ah] at ha;obtain ⟨_,ha,_⟩:=ha;cases ha
    | _=>simp only [ah] at ha;cases ha
   simp [hT.WA t hg]
  ·rfl
theorem He:∀ (a b:List UInt8),iU a b=Op.bytesLess a b
 | [],[]=>by simp [iU,Op.bytesLess]
 | _::_,[]=>by simp [iU,Op.bytesLess]
 | [],_::_=>by simp [iU,Op.bytesLess]
 | a::x,b::y=>by simp [iU,Op.bytesLess,He x y]
theorem N6 {γ:bM} {op:BinOp} {k:IntKind} {a b:Int} {v:AV} (hop:op≠.shl∧op≠.shr) (h:bB op k a b=some v) (t:TypeId) (w:World) :
  ∃ c,(Go.binOp op t (.int k a) (.int k b)).run P w=.ok c w∧ah γ v c:=by
 cases op <;> simp only [bB] at h
 all_goals (first | (exact absurd rfl hop.1) | (exact absurd rfl hop.2) | (cases h;done) | skip)
 all_goals (try split at h)
 all_goals (first | (cases h;done) | skip)
 all_goals (obtain rfl:=Option.some.inj h;simp [Go.binOp,Op.intArith,Op.intDiv,Op.intBits,Op.intCmp,ah, *])
end
end Go.Am
end

section
namespace Go.Am
section
variable {P:Program} {T:TT} (hT:TT.Ok P T)
include hT
omit hT in
theorem wZ {γ:bM} {t:TypeId} {x:AV} {cx cy:Value} (hx:ah γ x cx) (hi:∀ k a,x≠.int k a) (hs:∀ a,x≠.str a) (hb:x≠.bad) :
  Go.binOp .eql t cx cy=(do pure (.bool (← Op.equal t cx cy)))∧Go.binOp .neq t cx cy=(do pure (.bool (!(← Op.equal t cx cy)))):=by
 cases x with
 | int k a=>exact absurd rfl (hi k a)
 | str a=>exact absurd rfl (hs a)
 | bad=>exact absurd rfl hb
 | bool b=>simp only [ah] at hx;subst hx;exact ⟨rfl,rfl⟩
 | nilFunc=>simp only [ah] at hx;subst hx;exact ⟨rfl,rfl⟩
 | Xj _=>simp only [ah] at hx;subst hx;exact ⟨rfl,rfl⟩
 | nilIface=>simp only [ah] at hx;subst hx;exact ⟨rfl,rfl⟩
 | ptr q=>cases q <;> simp only [ah] at hx <;> (first | (subst hx;exact ⟨rfl,rfl⟩) | (obtain ⟨_,_,rfl⟩:=hx;exact ⟨rfl,rfl⟩))
 | slc q _ _ _=>cases q <;> simp only [ah] at hx <;> (first | (obtain ⟨rfl,_⟩:=hx;exact ⟨rfl,rfl⟩) | (obtain ⟨_,_,rfl⟩:=hx;exact ⟨rfl,rfl⟩))
 | map q=>cases q <;> simp only [ah] at hx <;> (first | (subst hx;exact ⟨rfl,rfl⟩) | (obtain ⟨_,_,rfl⟩:=hx;exact ⟨rfl,rfl⟩))
 | emp=>simp only [ah] at hx;obtain ⟨_,_,rfl⟩:=hx;exact ⟨rfl,rfl⟩
 | func _ _=>simp only [ah] at hx;obtain ⟨_,rfl,_⟩:=hx;exact ⟨rfl,rfl⟩
 | uE _ _ _=>simp only [ah] at hx;obtain ⟨_,_,rfl,_⟩:=hx;exact ⟨rfl,rfl⟩
 | iface _ _=>simp only [ah] at hx;obtain ⟨_,rfl,_⟩:=hx;exact ⟨rfl,rfl⟩
 | agg _=>simp only [ah] at hx;obtain ⟨_,rfl,_⟩:=hx;exact ⟨rfl,rfl⟩
 | aQ _=>simp only [ah] at hx;obtain ⟨_,rfl,_⟩:=hx;exact ⟨rfl,rfl⟩
omit hT in
theorem Ep {d t:Nat} {y:AV} {b:Bool} (h:iK T d t .bad y=some b):False:=by
 cases d with
 | zero=>simp [iK] at h
 | succ d=>unfold iK at h;split at h <;> simp_all
omit hT in
theorem Tt {d t:Nat} {y:AV} {k:IntKind} {a:Int} {b:Bool} (h:iK T d t (.int k a) y=some b):∃ k' a',y=.int k' a':=by
 cases d with
 | zero=>simp [iK] at h
 | succ d=>unfold iK at h;split at h <;> simp_all
omit hT in
theorem Tu {d t:Nat} {y:AV} {a:List UInt8} {b:Bool} (h:iK T d t (.str a) y=some b):∃ a',y=.str a':=by
 cases d with
 | zero=>simp [iK] at h
 | succ d=>unfold iK at h;split at h <;> simp_all
theorem Xo {γ : bM} {op : BinOp} {t : TypeId} {x y v : AV} {cx cy : Value} (hx : ah γ x cx) (hy : ah γ y cy) (h : lf T op t x y = some v) (w : World) :
    ∃ c, (Go.binOp op t cx cy).run P w = .ok c w ∧ ah γ v c := by
  unfold lf at h
  split at h
  · simp only [ah] at hx hy; subst hx hy
    split at h
    · cases h
    · rename_i hb; obtain rfl := Option.some.inj h; simp [Go.binOp, Op.shift, hb, ah]
  · simp only [ah] at hx hy; subst hx hy
    split at h
    · cases h
    · rename_i hb; obtain rfl := Option.some.inj h; simp [Go.binOp, Op.shift, hb, ah]
  · rename_i h1 h2
    simp only [ah] at hx hy; subst hx hy
    split at h
    · rename_i hk; subst hk
      exact N6 hT (γ := γ) ⟨h1, h2⟩ h t w
    · cases h
  · rename_i a b
    simp only [ah] at hx hy; subst hx hy
    split at h
    · rename_i hl
      obtain rfl := Option.some.inj h
      refine ⟨.string ⟨(a ++ b).toArray⟩, ?_, by simp [ah]⟩
      have hm : ¬ (((ByteArray.mk a.toArray).size + (ByteArray.mk b.toArray).size : Nat) : Int) > IntKind.i64.max := by
        have : IntKind.i64.max = 9223372036854775807 := rfl
        rw [this]
        simp only [ByteArray.size, List.size_toArray]
        omega
      have Q7 : (ByteArray.mk a.toArray) ++ (ByteArray.mk b.toArray) = ⟨(a ++ b).toArray⟩ := by
        apply ByteArray.ext
        simp
      simp only [Go.binOp, Op.stringOp, if_neg hm, Q7]; rfl
    · cases h
  all_goals (first
    | (rename_i a b; simp only [ah] at hx hy; subst hx hy; obtain rfl := Option.some.inj h
       simp [Go.binOp, Op.stringOp, ah, He hT]; done)
    | skip)
  · rename_i h1 h2
    cases hq : iK T 100 t x y with
    | none => simp [hq] at h
    | some b =>
      simp only [hq, Option.map_some] at h
      obtain rfl := Option.some.inj h
      obtain ⟨he, _⟩ := wZ (t := t) (cy := cy) hx (fun k a e => by subst e; obtain ⟨k', a', rfl⟩ := Tt hq; exact h1 _ _ _ _ rfl rfl)
        (fun a e => by subst e; obtain ⟨a', rfl⟩ := Tu hq; exact h2 _ _ rfl rfl) (fun e => by subst e; exact Ep hq)
      exact ⟨.bool b, by simp [he, Op.equal, GA hT w _ _ _ _ _ hq _ _ hx hy Op.maxDepth (by decide)], by simp [ah]⟩
  · rename_i h1 h2
    cases hq : iK T 100 t x y with
    | none => simp [hq] at h
    | some b =>
      simp only [hq, Option.map_some] at h
      obtain rfl := Option.some.inj h
      obtain ⟨_, he⟩ := wZ (t := t) (cy := cy) hx (fun k a e => by subst e; obtain ⟨k', a', rfl⟩ := Tt hq; exact h1 _ _ _ _ rfl rfl)
        (fun a e => by subst e; obtain ⟨a', rfl⟩ := Tu hq; exact h2 _ _ rfl rfl) (fun e => by subst e; exact Ep hq)
      exact ⟨.bool (!b), by simp [he, Op.equal, GA hT w _ _ _ _ _ hq _ _ hx hy Op.maxDepth (by decide)], by simp [ah]⟩
  · cases h
theorem aav {γ:bM} {op:UnOp} {x v:AV} {cx:Value} (hx:ah γ x cx) (h:aun op x=some v) (w:World) :
  ∃ c,(Op.unary op cx).run P w=.ok c w∧ah γ v c:=by
 unfold aun at h
 split at h <;> try simp only [ah] at hx
 ·subst hx;obtain rfl:=Option.some.inj h;simp [Op.unary,Op.intArith,ah]
 ·subst hx
  simp only [bB] at h;obtain rfl:=Option.some.inj h
  exact ⟨_,by simp only [Op.unary,Op.intBits];rfl,by simp [ah]⟩
 ·subst hx;obtain rfl:=Option.some.inj h;simp [Op.unary,ah]
 ·cases h
theorem Hf {γ:bM} {t:TypeId} {x v:AV} {f:Nat} {cx:Value} (hx:ah γ x cx) (h:uH T t x f=some v) (w:World) :
  ∃ c,(Instr.fieldAt t cx f).run P w=.ok c w∧ah γ v c:=by
 unfold uH at h
 split at h
 ·rename_i fields l o hu
  simp only [ah] at hx;obtain ⟨i,hi,rfl⟩:=hx
  cases hf:fields[f]? with
  | none=>simp [hf] at h
  | some fd =>
   simp only [hf,Option.bind_some] at h
   split at h
   ·rename_i n hn
    obtain rfl:=Option.some.inj h
    refine ⟨.pointer (some ⟨i.b,i.d+o+fd.offset,none⟩),?_,by simp only [ah];exact ⟨i,hi,by rw [Nat.add_assoc]⟩⟩
    simp [Instr.fieldAt,run_underlying hT hu,hf,Instr.sureAddr,fieldPlace,run_sizeOf hT hn,iq]
   ·cases h
 ·cases h
theorem Hg {γ:bM} {t:TypeId} {x ix v:AV} {cx ci:Value} (hx:ah γ x cx) (Xp:ah γ ix ci) (h:ag T t x ix=some v) (w:World) :
  ∃ c,(Instr.indexAt t cx ci).run P w=.ok c w∧ah γ v c:=by
 unfold ag at h
 split at h
 ·rename_i len elem l o k j hu
  simp only [ah] at hx Xp;obtain ⟨i,hi,rfl⟩:=hx;subst Xp
  cases hs:T.eN elem with
  | none=>simp [hs] at h
  | some n =>
   simp only [hs,Option.bind_some] at h
   split at h
   ·rename_i hb
    obtain rfl:=Option.some.inj h
    refine ⟨.pointer (some ⟨i.b,i.d+o+j.toNat*n,none⟩),?_,by simp only [ah];exact ⟨i,hi,by rw [Nat.add_assoc]⟩⟩
    simp [Instr.indexAt,run_underlying hT hu,Instr.sureAddr,asIntOf,run_sizeOf hT hs,iq,hb]
   ·cases h
 ·rename_i elem l o len cap ex k j hu
  simp only [ah] at hx Xp;obtain ⟨i,hi,rfl⟩:=hx;subst Xp
  cases hs:T.eN elem with
  | none=>simp [hs] at h
  | some n =>
   simp only [hs,Option.bind_some] at h
   split at h
   ·rename_i hb
    obtain rfl:=Option.some.inj h
    refine ⟨.pointer (some ⟨i.b,i.d+o+j.toNat*n,none⟩),?_,by simp only [ah];exact ⟨i,hi,by rw [Nat.add_assoc]⟩⟩
    simp [Instr.indexAt,run_underlying hT hu,asIntOf,run_sizeOf hT hs,iq,hb]
   ·cases h
 ·cases h
theorem Q8 {γ:bM} {t:TypeId} {x ix v:AV} {cx ci:Value} (hx:ah γ x cx) (Xp:ah γ ix ci) (h:jd T t x ix=some v) (w:World) :
  ∃ c,(Instr.index t cx ci).run P w=.ok c w∧ah γ v c:=by
 unfold jd at h
 split at h
 ·rename_i len elem cs k j hu
  simp only [ah] at hx Xp;obtain ⟨Uu,rfl,hcs⟩:=hx;subst Xp
  cases hs:T.eN elem with
  | none=>simp [hs] at h
  | some n =>
   simp only [hs,Option.bind_some] at h
   split at h
   ·rename_i hb
    obtain ⟨c,hc,hr⟩:=oL hT hcs h w
    refine ⟨c,?_,hr⟩
    simp [Instr.index,run_underlying hT hu,asIntOf,run_sizeOf hT hs,hb,hc]
   ·cases h
 ·rename_i s k j hu
  simp only [ah] at hx Xp;subst hx Xp
  split at h
  ·rename_i hb
   cases hc:s[j.toNat]? with
   | none=>simp [hc] at h
   | some b =>
    simp only [hc,Option.map_some] at h
    obtain rfl:=Option.some.inj h
    refine ⟨.int .u8 b.toNat,?_,by simp [ah]⟩
    have:(ByteArray.mk s.toArray)[j.toNat]? = some b:=by
     have hlt:j.toNat<s.length:=by
      rcases Nat.lt_or_ge j.toNat s.length with h | h
      ·exact h
      ·simp [List.getElem?_eq_none h] at hc
     have Uv:j.toNat<(ByteArray.mk s.toArray).size:=by simpa [ByteArray.size] using hlt
     rw [getElem?_pos (ByteArray.mk s.toArray) j.toNat Uv]
     congr 1
     have:s[j.toNat]=b:=by simpa [List.getElem?_eq_getElem hlt] using hc
     rw [← this];rfl
    simp [Instr.index,run_underlying hT hu,asIntOf,hb,this]
  ·cases h
 ·cases h
theorem Q9 {γ:bM} {t:TypeId} {x v:AV} {f:Nat} {cx:Value} (hx:ah γ x cx) (h:G7 T t x f=some v) (w:World) :
  ∃ c,(Instr.field t cx f).run P w=.ok c w∧ah γ v c:=by
 unfold G7 at h
 split at h
 ·rename_i fields cs hu
  simp only [ah] at hx;obtain ⟨Uu,rfl,hcs⟩:=hx
  cases hf:fields[f]? with
  | none=>simp [hf] at h
  | some fd =>
   simp only [hf,Option.bind_some] at h
   obtain ⟨c,hc,hr⟩:=oL hT hcs h w
   exact ⟨c,by simp [Instr.field,run_underlying hT hu,hf,asAgg,hc],hr⟩
 ·cases h
end
end Go.Am
end

section
namespace Go.Am
def A8 (γ:bM):Option AV→Option Value→Prop
 | none,c=>c=none
 | some v,c=>∃ cv,c=some cv∧ah γ v cv
theorem uK {P:Program} {γ:bM} {y Y n:Nat} {v:AV} {c:Value} {code:BoundsCode} (hv:ah γ v c) (h:gy y v=some n) (hY:y≤Y) (w:World) :
  (Instr.sliceBound c Y code).run P w=.ok n w∧n≤y:=by
 unfold gy at h
 split at h
 ·rename_i k i
  simp only [ah] at hv;subst hv
  split at h
  ·rename_i hb
   obtain rfl:=Option.some.inj h
   have:0≤i∧i≤(Y:Int):=⟨hb.1,by omega⟩
   exact ⟨by simp [Instr.sliceBound,asIntOf,this],by omega⟩
  ·cases h
 ·cases h
theorem N7 {P:Program} {γ:bM} {y n:Nat} {v:Option AV} {c:Option Value} {code:BoundsCode} (hv:A8 γ v c) (h:tN y v 0=some n) (w:World) :
  (match c with | some v=>Instr.sliceBound v y code | none=>pure 0:Sem Nat).run P w=.ok n w∧n≤y:=by
 cases v with
 | none=>obtain rfl:=hv;simp only [tN] at h;obtain rfl:=Option.some.inj h;exact ⟨rfl,by omega⟩
 | some v=>obtain ⟨cv,rfl,hr⟩:=hv;exact uK hr h (Nat.le_refl _) w
theorem oM {P:Program} {γ:bM} {len cap cap':Nat} {low high max:Option AV} {lo hi mx:Option Value} {l h m:Nat} (isSlice:Bool) (hl:A8 γ low lo) (hh:A8 γ high hi) (hm:A8 γ max mx)
  (hc:cap≤cap') (hb:cO len cap low high max=some (l,h,m)) (w:World) :
  (Instr.sliceBounds isSlice len cap' lo hi mx).run P w=.ok (l,h,if max.isSome then m else cap') w∧l≤h∧h≤m∧(max.isSome=false→m=cap):=by
 unfold cO at hb
 split at hb
 ·cases hb
 ·rename_i hnm
  simp only [Option.bind_eq_some_iff,Option.map_eq_some_iff] at hb
  obtain ⟨m',hm',h',CM,l',hl',e⟩:=hb
  obtain ⟨rfl,rfl,rfl⟩:l'=l∧h'=h∧m'=m:=by simpa using e
  cases max with
  | some vm =>
   obtain ⟨cm,rfl,hrm⟩:=hm
   cases high with
   | none=>simp at hnm
   | some vh =>
    obtain ⟨ch,rfl,hrh⟩:=hh
    simp only [tN] at hm'
    simp only [qg] at CM
    obtain ⟨r1,b1⟩:=uK (P:=P) (code:=if isSlice then .slice3Acap else .slice3Alen) hrm hm' hc w
    obtain ⟨r2,b2⟩:=uK (P:=P) (code:=.slice3B) hrh CM (Nat.le_refl _) w
    obtain ⟨r3,b3⟩:=N7 (P:=P) (code:=.slice3C) hl hl' w
    refine ⟨?_,b3,b2,by simp⟩
    simp only [Instr.sliceBounds,Sem.run_bind,r1,r2,Result.andThen_ok,Option.isSome_some,if_true]
    cases lo <;> simp_all
  | none =>
   obtain rfl:=hm
   simp only [tN] at hm'
   obtain rfl:=Option.some.inj hm'
   obtain ⟨r3,b3⟩:=N7 (P:=P) (code:=.sliceB) hl hl' w
   cases high with
   | none =>
    obtain rfl:=hh
    simp only [qg] at CM
    split at CM
    ·rename_i hle
     obtain rfl:=Option.some.inj CM
     refine ⟨?_,b3,hle,by simp⟩
     simp only [Instr.sliceBounds,Sem.run_bind,Sem.run_pure,Result.andThen_ok,Option.isSome_none]
     cases lo <;> simp_all
    ·cases CM
   | some vh =>
    obtain ⟨ch,rfl,hrh⟩:=hh
    simp only [qg] at CM
    obtain ⟨r2,b2⟩:=uK (P:=P) (code:=if isSlice then .sliceAcap else .sliceAlen) hrh CM hc w
    refine ⟨?_,b3,b2,by simp⟩
    simp only [Instr.sliceBounds,Sem.run_bind,Sem.run_pure,r2,Result.andThen_ok,Option.isSome_none]
    cases lo <;> simp_all
theorem Q_ {len cap:Nat} {low high max:Option AV} {l h m:Nat} (hb:cO len cap low high max=some (l,h,m)):m≤cap:=by
 unfold cO at hb
 split at hb
 ·cases hb
 ·simp only [Option.bind_eq_some_iff,Option.map_eq_some_iff] at hb
  obtain ⟨m',hm',h',CM,l',hl',e⟩:=hb
  obtain ⟨rfl,rfl,rfl⟩:l'=l∧h'=h∧m'=m:=by simpa using e
  cases max with
  | none=>simp only [tN] at hm';obtain rfl:=Option.some.inj hm';omega
  | some v =>
   simp only [tN,gy] at hm'
   split at hm'
   ·split at hm'
    ·obtain rfl:=Option.some.inj hm';omega
    ·cases hm'
   ·cases hm'
section
variable {P:Program} {T:TT} (hT:TT.Ok P T)
include hT
theorem Ra {γ:bM} {t:TypeId} {x v:AV} {cx:Value} {low high max:Option AV} {lo hi mx:Option Value} (hl:A8 γ low lo) (hh:A8 γ high hi) (hm:A8 γ max mx)
  (hx:ah γ x cx) (h:aY T t x low high max=some v) (w:World):∃ c,(Instr.sliceAt t cx lo hi mx).run P w=.ok c w∧ah γ v c:=by
 unfold aY at h
 split at h
 ·rename_i s hu
  simp only [ah] at hx;subst hx
  split at h
  ·cases h
  ·rename_i hms
   have hm0:max=none:=by cases max <;> simp_all
   subst hm0
   obtain rfl:=hm
   cases hb:cO s.length s.length low high none with
   | none=>simp [hb] at h
   | some r =>
    obtain ⟨l,CM,m⟩:=r
    simp only [hb,Option.map_some] at h
    obtain rfl:=Option.some.inj h
    obtain ⟨hr,h1,h2,h3⟩:=oM (P:=P) false hl hh (show A8 γ none none from rfl) (Nat.le_refl s.length) hb w
    have hsz:(ByteArray.mk s.toArray).size=s.length:=by simp [ByteArray.size]
    refine ⟨.string ((ByteArray.mk s.toArray).extract l CM),?_,?_⟩
    ·simp [Instr.sliceAt,Instr.slice,run_underlying hT hu,hsz,hr]
    ·simp only [ah]
     congr 1
     apply ByteArray.ext
     simp [List.extract_eq_take_drop]
 ·rename_i elem a len cap ex hu
  cases hs:T.eN elem with
  | none=>simp [hs] at h
  | some n =>
   simp only [hs,Option.bind_some] at h
   cases hb:cO len cap low high max with
   | none=>simp [hb] at h
   | some r =>
    obtain ⟨l,CM,m⟩:=r
    simp only [hb,Option.bind_some] at h
    cases a with
    | none =>
     simp only [ah] at hx
     obtain ⟨rfl,rfl⟩:=hx
     obtain rfl:=Option.some.inj h
     obtain ⟨hr,h1,h2,h3⟩:=oM (P:=P) true hl hh hm (Nat.le_refl cap) hb w
     have vT:(if max.isSome then m else cap)=m:=by
      split
      ·rfl
      ·rename_i q;exact (h3 (by simpa using q)).symm
     rw [vT] at hr
     refine ⟨.slice none (CM - l) (m - l),?_,by simp [ah]⟩
     simp [Instr.sliceAt,Instr.slice,run_underlying hT hu,hr,run_sizeOf hT hs]
    | some bo =>
     obtain ⟨b,o⟩:=bo
     simp only [ah] at hx
     obtain ⟨i,hi,rfl⟩:=hx
     obtain ⟨hr,h1,h2,h3⟩:=oM (P:=P) (cap':=if ex then cap else cap+i.x) true hl hh hm (by split <;> omega) hb w
     simp only at h
     split at h
     ·rename_i hex
      obtain rfl:=Option.some.inj h
      have vT:(if max.isSome then m else if ex then cap else cap+i.x)=m:=by
       by_cases hms:max.isSome=true
       ·rw [if_pos hms]
       ·rw [if_neg hms,if_pos (by simpa [hms] using hex)];exact (h3 (by simpa using hms)).symm
      rw [vT] at hr
      refine ⟨.slice (some ⟨i.b,if m=l then i.d+o else i.d+o+l*n,none⟩) (CM - l) (m - l),?_,?_⟩
      ·simp only [Instr.sliceAt,Instr.slice,Sem.run_bind,run_underlying hT hu,hr,run_sizeOf hT hs,Result.andThen_ok]
       by_cases hml:m=l
       ·simp [hml]
       ·simp [hml,iq]
      ·simp only [ah]
       refine ⟨i,hi,?_⟩
       by_cases hml:m=l
       ·simp [hml]
       ·simp [hml,Nat.add_assoc]
     ·rename_i hex
      have agK:ex=false∧max.isSome=false:=by simpa using hex
      obtain ⟨rfl,hms⟩:=agK
      have hm3:=h3 hms
      subst hm3
      simp only [hms,Bool.false_eq_true,if_false] at hr
      split at h
      ·rename_i hml
       obtain rfl:=Option.some.inj h
       subst hml
       refine ⟨.slice (some (if m+i.x=m then ⟨i.b,i.d+o,none⟩ else ⟨i.b,i.d+o+m*n,none⟩)) (CM - m) (m+i.x - m),?_,?_⟩
       ·simp only [Instr.sliceAt,Instr.slice,Sem.run_bind,run_underlying hT hu,Bool.false_eq_true,if_false,hr,run_sizeOf hT hs,Result.andThen_ok]
        by_cases hml:m+i.x=m
        ·simp [hml]
        ·simp [iq];split <;> rfl
       ·simp only [ah]
        exact ⟨_,_,by rw [show CM - m=0 by omega]⟩
      ·rename_i hml
       obtain rfl:=Option.some.inj h
       refine ⟨.slice (some ⟨i.b,i.d+o+l*n,none⟩) (CM - l) (m+i.x - l),?_,?_⟩
       ·simp only [Instr.sliceAt,Instr.slice,Sem.run_bind,run_underlying hT hu,Bool.false_eq_true,if_false,hr,run_sizeOf hT hs,Result.andThen_ok]
        have:¬ (m+i.x=l):=by omega
        simp [this,iq]
       ·simp only [ah]
        exact ⟨i,hi,by simp [Nat.add_assoc];omega⟩
 ·rename_i elem hu
  simp only [ah] at hx
  obtain ⟨ad,cm,rfl⟩:=hx
  cases hs:T.eN elem with
  | none=>simp [hs] at h
  | some n =>
   simp only [hs,Option.bind_some] at h
   cases hb:cO 0 0 low high max with
   | none=>simp [hb] at h
   | some r =>
    obtain ⟨l,CM,m⟩:=r
    simp only [hb,Option.map_some] at h
    obtain rfl:=Option.some.inj h
    obtain ⟨hr,h1,h2,h3⟩:=oM (P:=P) (cap':=cm) true hl hh hm (Nat.zero_le cm) hb w
    have hm0:=Q_ hb
    obtain rfl:m=0:=by omega
    obtain rfl:CM=0:=by omega
    obtain rfl:l=0:=by omega
    refine ⟨.slice (some (if (if max.isSome then 0 else cm)=0 then ad else ad.add (0*n))) 0 ((if max.isSome then 0 else cm) - 0),?_,?_⟩
    ·simp only [Instr.sliceAt,Instr.slice,Sem.run_bind,run_underlying hT hu,hr,run_sizeOf hT hs,Result.andThen_ok]
     generalize (if max.isSome then 0 else cm)=q
     by_cases hq:q=0 <;> simp [hq]
    ·simp only [ah]
     exact ⟨_,_,rfl⟩
 ·rename_i k elem b o hu
  simp only [ah] at hx
  obtain ⟨i,hi,rfl⟩:=hx
  cases hs:T.eN elem with
  | none=>simp [hs] at h
  | some n =>
   simp only [hs,Option.bind_some] at h
   cases hb:cO k k low high max with
   | none=>simp [hb] at h
   | some r =>
    obtain ⟨l,CM,m⟩:=r
    simp only [hb,Option.map_some] at h
    obtain rfl:=Option.some.inj h
    obtain ⟨hr,h1,h2,h3⟩:=oM (P:=P) false hl hh hm (Nat.le_refl k) hb w
    have vT:(if max.isSome then m else k)=m:=by
     split
     ·rfl
     ·rename_i q;exact (h3 (by simpa using q)).symm
    rw [vT] at hr
    refine ⟨.slice (some ⟨i.b,if m=l then i.d+o else i.d+o+l*n,none⟩) (CM - l) (m - l),?_,?_⟩
    ·simp only [Instr.sliceAt,Sem.run_bind,run_underlying hT hu,Instr.sureAddr,Sem.run_pure,hr,run_sizeOf hT hs,Result.andThen_ok]
     by_cases hml:m=l
     ·simp [hml]
     ·simp [hml,iq]
    ·simp only [ah]
     refine ⟨i,hi,?_⟩
     by_cases hml:m=l
     ·simp [hml]
     ·simp [hml,Nat.add_assoc]
 ·cases h
end
end Go.Am
end

section
namespace Go.Am
def KG (γ:bM):List (Nat×AV)→List (Nat×Value)→Prop
 | [],c=>c=[]
 | (i,v)::ps,c=>∃ d ds,c=(i,d)::ds∧ah γ v d∧KG γ ps ds
theorem tQ (off:Nat):∀ (l:List Value) (i:Nat) (c:Array Value),(l.zipIdx i).foldl (fun cs p=>cs.setIfInBounds (off+p.2) p.1) c=N4 c (off+i) l
 | [],_,_=>rfl
 | v::vs,i,c=>by simp only [List.zipIdx_cons,List.foldl_cons,N4];rw [tQ off vs (i+1)];rfl
theorem Tv {γ:bM}:∀ {vs:List AV} {ET:List Value} {cs:List AV} {c:Array Value} {o:Nat},ak γ vs ET→ak γ cs c.toList→ak γ (qJ cs o vs) (N4 c o ET).toList
 | [],ET,cs,c,o,h,hc=>by obtain rfl:=ak.gQ.1 h;exact hc
 | v::vs,ET,cs,c,o,h,hc=>by
  obtain ⟨d,ds,rfl,hv,hs⟩:=ak.cE.1 h
  simp only [qJ,N4]
  refine Tv hs ?_
  have:=hc.set o hv
  simpa using this
theorem yA {γ:bM} {place place':Nat→Option (Nat×Nat)} (hp:∀ i q,place i=some q→place' i=some q):∀ {parts:List (Nat×AV)} {nJ:List (Nat×Value)} {cs:List AV} {c:Array Value} {r:List AV},
  KG γ parts nJ→ak γ cs c.toList→jc place cs parts=some r→∃ c',Instr.fill place' c nJ=some c'∧ak γ r c'.toList∧r.length=cs.length
 | [],nJ,cs,c,r,h,hc,hf=>by
  obtain rfl:nJ=[]:=h
  simp only [jc] at hf;obtain rfl:=Option.some.inj hf
  exact ⟨c,rfl,hc,rfl⟩
 | (i,v)::ps,nJ,cs,c,r,h,hc,hf=>by
  obtain ⟨d,ds,rfl,hv,hs⟩:=h
  simp only [jc] at hf
  split at hf
  ·rename_i off size vc CW hac
   split at hf
   ·rename_i mo
    obtain ⟨rfl,hone⟩:=fq hac
    have hvc:=hv.cells hone
    have hlen:=hvc.length
    have yB:=hc.length
    have Hh:¬ (d.cells.size≠size∨off+d.cells.size>c.size):=by
     simp only [Array.length_toList] at hlen yB
     omega
    have e:(d.cells.zipIdx.foldl (fun cs p=>cs.setIfInBounds (off+p.2) p.1) c)=N4 c off d.cells.toList:=by
     rw [← Array.foldl_toList]
     have:=tQ off d.cells.toList 0 c
     simpa using this
    obtain ⟨c',h1,h2,h3⟩:=yA hp (c:=N4 c off d.cells.toList) hs (Tv hvc hc) hf
    refine ⟨c',?_,h2,by rw [h3,gS]⟩
    simp only [Instr.fill,hp i _ CW]
    rw [if_neg (by simpa using Hh)]
    rw [← h1,← e]
   ·cases hf
  ·cases hf
theorem KH {place:Nat→Option (Nat×Nat)}:∀ {parts:List (Nat×AV)} {cs r:List AV},jc place cs parts=some r→cs.all AV.one=true→r.all AV.one=true
 | [],cs,r,hf,h=>by simp only [jc] at hf;obtain rfl:=Option.some.inj hf;exact h
 | (i,v)::ps,cs,r,hf,h=>by
  simp only [jc] at hf
  split at hf
  ·rename_i off size vc CW hac
   split at hf
   ·rename_i mo
    obtain ⟨rfl,hone⟩:=fq hac
    refine KH hf ?_
    rw [List.all_eq_true]
    intro x hx
    obtain ⟨k,hk⟩:=List.mem_iff_getElem?.1 hx
    rw [jM _ _ _ _ mo.2] at hk
    split at hk
    ·exact List.all_eq_true.1 hone x (List.mem_of_getElem? hk)
    ·exact List.all_eq_true.1 h x (List.mem_of_getElem? hk)
   ·cases hf
  ·cases hf
theorem N8 {P:Program} {α β:Type} {f:α→Sem β} {g:α→β} {w:World}:∀ (l:List α),(∀ x∈l,(f x).run P w=.ok (g x) w)→(l.mapM f).run P w=.ok (l.map g) w
 | [],_=>by simp
 | x::xs,h=>by
  have h1:=h x (by simp)
  have h2:=N8 xs (fun y hy=>h y (List.mem_cons_of_mem _ hy))
  simp [List.mapM_cons,h1,h2]
section
variable {P:Program} {T:TT} (hT:TT.Ok P T) {B:Nat} {γ:bM} {s:AS} {w:World} (hr:Rel B γ s w)
include hT
theorem Rb {t:TypeId} {parts:List (Nat×AV)} {nJ:Array (Nat×Value)} {v:AV} (hp:KG γ parts nJ.toList) (h:aU T t parts=some v) :
  ∃ c,(Instr.build t nJ).run P w=.ok c w∧ah γ v c:=by
 unfold aU at h
 simp only [Option.bind_eq_some_iff] at h
 obtain ⟨z,hz,zc,EU,h⟩:=h
 obtain ⟨cz,LF,NJ⟩:=iF hT hz w
 obtain ⟨rfl,hone⟩:=fq EU
 have zv:=(NJ γ).cells hone
 split at h
 ·rename_i fields hu
  split at h
  ·rename_i hall
   simp only [Option.map_eq_some_iff] at h
   obtain ⟨r,hr',rfl⟩:=h
   have CW:∀ (i:Nat) (q:Nat×Nat),(((fields[i]?).bind fun (f:Field)=>(T.eN f.type).map fun n=>(f.offset,n))=some q)→(fields.map fun f=>(f.offset,(T.eN f.type).getD 0))[i]? = some q:=by
    intro i q hq
    simp only [Option.bind_eq_some_iff,Option.map_eq_some_iff] at hq
    obtain ⟨f,hf,n,hn,rfl⟩:=hq
    simp [hf,hn]
   obtain ⟨c',h1,h2,_⟩:=yA CW hp zv hr'
   have hm:(fields.mapM fun (f:Field)=>do pure (f.offset,← sizeOf f.type):Sem (Array (Nat×Nat))).run P w=.ok (fields.map fun f=>(f.offset,(T.eN f.type).getD 0)) w:=by
    rw [Array.mapM_eq_mapM_toList]
    have:=N8 (P:=P) (w:=w) (f:=fun (f:Field)=>(do pure (f.offset,← sizeOf f.type):Sem (Nat×Nat))) (g:=fun f=>(f.offset,(T.eN f.type).getD 0)) fields.toList (by
     intro f hf
     have hh:=Array.all_eq_true'.1 hall f (by simpa using hf)
     obtain ⟨n,hn⟩:=Option.isSome_iff_exists.1 hh
     simp [run_sizeOf hT hn,hn])
    simp only [Sem.run_map,this,Result.andThen_ok]
    congr 1
    apply Array.ext'
    simp
   refine ⟨.agg c',?_,by simp only [ah];exact ⟨c',rfl,h2⟩⟩
   have Er:Instr.fill (fun x=>(fields.map fun f=>(f.offset,(T.eN f.type).getD 0))[x]?) cz.cells nJ.toList=some c':=h1
   simp only [Instr.build,Sem.run_bind,LF,run_underlying hT hu,hm,Result.andThen_ok,Sem.run_pure,Er]
  ·cases h
 ·rename_i k elem hu
  simp only [Option.bind_eq_some_iff,Option.map_eq_some_iff] at h
  obtain ⟨n,hn,r,hr',rfl⟩:=h
  obtain ⟨c',h1,h2,_⟩:=yA (place':=fun i=>some (i*n,n)) (fun _ _ h=>h) hp zv hr'
  refine ⟨.agg c',?_,by simp only [ah];exact ⟨c',rfl,h2⟩⟩
  simp only [Instr.build,Sem.run_bind,LF,run_underlying hT hu,run_sizeOf hT hn,Result.andThen_ok,Sem.run_pure]
  simp [h1]
 ·cases h
omit hT in
theorem aaw (z:List AV) (n k:Nat):(rep n z)[k]? = if k<n*z.length then z[k % z.length]? else none:=by
 induction n generalizing k with
 | zero=>simp [rep]
 | succ n ih =>
  have e:rep (n+1) z=z++rep n z:=by simp [rep,List.replicate_succ]
  rw [e,List.getElem?_append]
  split
  ·rename_i hk
   have:k<(n+1)*z.length:=by
    have:z.length≤(n+1)*z.length:=Nat.le_mul_of_pos_left _ (by omega)
    omega
   rw [if_pos this,Nat.mod_eq_of_lt hk]
  ·rename_i hk
   rw [ih]
   have hz:(n+1)*z.length=n*z.length+z.length:=by rw [Nat.add_mul,Nat.one_mul]
   by_cases h:k - z.length<n*z.length
   ·rw [if_pos h,if_pos (by omega)]
    congr 1
    exact (Nat.mod_eq_sub_mod (by omega)).symm
   ·rw [if_neg h,if_neg (by omega)]
omit hT in
theorem uL (z:List AV) (n:Nat):(rep n z).length=n*z.length:=by
 simp [rep]
omit hT in
theorem Hi {γ:bM} {z:List AV} {cz:Array Value} (hz:ak γ z cz.toList) (n:Nat) (hn:z.length≠0∨n=0∨True) :
  ak γ (rep n z) ((Array.range (n*cz.size)).map (cz[· % cz.size]!)).toList:=by
 have hl:=hz.length
 simp only [Array.length_toList] at hl
 refine ak.eS.2 ⟨by rw [uL];simp [hl],fun i v c hv hc=>?_⟩
 rw [aaw] at hv
 split at hv
 ·rename_i hi
  obtain ⟨cv,AY,hr⟩:=hz.get hv
  have hpos:0<cz.size:=by
   rcases Nat.eq_zero_or_pos cz.size with h | h
   ·rw [hl,h] at hi;simp at hi
   ·exact h
  have:c=cv:=by
   have hi2:i<n*cz.size:=by rw [← hl];exact hi
   simp [hi2] at hc
   rw [← hc]
   have hm:i % cz.size<cz.size:=Nat.mod_lt _ hpos
   rw [hl] at AY
   simp [hm] at AY
   rw [getElem!_pos cz _ hm];exact AY
  rw [this];exact hr
 ·cases hv
omit hT in
theorem uM {z:List AV} (h:z.all AV.one=true) (n:Nat):(rep n z).all AV.one=true:=by
 simp only [rep,List.all_eq_true,List.mem_flatten]
 rintro x ⟨l,hl,hx⟩
 obtain rfl:=(List.mem_replicate.1 hl).2
 exact List.all_eq_true.1 h x hx
include hr
theorem EV {t:TypeId} {len:Nat} {parts:List (Nat×AV)} {nJ:Array (Nat×Value)} {v:AV} {s':AS} (hp:KG γ parts nJ.toList) (h:lK T t len parts s=some (v,s')) :
  zI P B γ s w (Instr.buildSlice t len nJ) v s':=by
 unfold lK at h
 split at h
 ·rename_i elem hu
  simp only [Option.bind_eq_some_iff] at h
  obtain ⟨n,hn,z,hz,zc,EU,h⟩:=h
  split at h
  ·rename_i mo
   obtain ⟨rfl,hone⟩:=fq EU
   obtain ⟨hlen,hbound⟩:=mo
   simp only [Option.map_eq_some_iff] at h
   obtain ⟨cs,hcs,e⟩:=h
   obtain ⟨rfl,rfl⟩:_∧_:=by simpa using e
   obtain ⟨cz,LF,NJ⟩:=iF hT hz w
   have zv:=(NJ γ).cells hone
   have Xq:=zv.length
   simp only [Array.length_toList] at Xq
   let c0:Array Value:=(Array.range (len*n)).map ((if len*n=0 then #[] else cz.cells)[· % (if len*n=0 then #[] else cz.cells).size]!)
   have hc0:ak γ (rep len z.cells) c0.toList:=by
    by_cases h0:len*n=0
    ·have:rep len z.cells=[]:=by
      apply List.eq_nil_of_length_eq_zero;rw [uL,hlen,h0]
     rw [this];simp [c0,h0];exact ak.nil
    ·have:=Hi zv len (.inr (.inr trivial))
     simp only [c0,if_neg h0]
     rw [← hlen,Xq];exact this
   obtain ⟨c',h1,h2,h3⟩:=yA (place':=fun i=>some (i*n,n)) (fun _ _ h=>h) hp hc0 hcs
   have aer:=KH hcs (uM hone len)
   obtain ⟨g1,g2⟩:=hr.wY (w':={ w with heap:=w.heap.push (.cells c' elem) }) (g:=aat T t len) (x:=0) (e:=elem) (c:=c') (uJ h2 aer (by intro k v h;simpa using h)) (fun _=>⟨by have:=h2.length;simp at this ⊢;omega,fun k hk hk'=>by have:=h2.length;simp at this;omega⟩) (0,0) (by simp) (fun _=>rfl) (Nat.le_refl _) rfl
   refine ⟨_,_,.slice (some ⟨w.heap.size,0,none⟩) len len,?_,by simp only [ah];exact ⟨_,b_ _ _ _,by simp⟩,g2,g1⟩
   have hb:¬ (len*n>2 ^ 24):=by omega
   simp only [Instr.buildSlice,Sem.run_bind,run_underlying hT hu,run_sizeOf hT hn,Result.andThen_ok,if_neg hb]
   by_cases h0:len*n=0
   ·simp only [if_pos h0,Sem.run_pure,Result.andThen_ok]
    simp only [c0,if_pos h0] at h1
    simp [h0] at h1 ⊢
    simp [h1,je]
   ·simp only [if_neg h0,Sem.run_bind,LF,Sem.run_pure,Result.andThen_ok]
    simp only [c0,if_neg h0] at h1
    simp [h1,je]
  ·cases h
 ·cases h
end
end Go.Am
end

section
namespace Go.Am
def Rc:TypeDesc→Bool
 | .int _=>true
 | _=>false
theorem KI (need:Nat):∀ (r c:Nat),c≤need→Builtin.growBy need r c≤need+(need+768) / 4
 | 0,c,h=>by simp only [Builtin.growBy];omega
 | r+1,c,h=>by
  simp only [Builtin.growBy]
  split
  ·omega
  ·by_cases h2:c+(c+768) / 4≤need
   ·exact KI need r _ h2
   ·cases r with
    | zero=>simp only [Builtin.growBy];omega
    | succ r=>simp only [Builtin.growBy];rw [if_pos (by omega)];omega
theorem nextslicecap_le {need cap:Nat} (h:cap≤need):Builtin.nextslicecap need cap≤2*(need+256):=by
 unfold Builtin.nextslicecap
 split
 ·omega
 ·split
  ·omega
  ·have:=KI need 4 cap h;omega
theorem jf {γ:bM} {z:List AV} {cz:Array Value} (hz:ak γ z cz.toList) (n:Nat):ak γ (rep n z) (Builtin.zeroCells cz n).toList:=by
 have:=Hi hz n (.inr (.inr trivial))
 simpa [Builtin.zeroCells] using this
theorem mq (cz:Array Value) (n:Nat):(Builtin.zeroCells cz n).size=n*cz.size:=by simp [Builtin.zeroCells]
section
variable {P:Program} {T:TT} (hT:TT.Ok P T) {B:Nat} {γ:bM} {s:AS} {w:World} (hr:Rel B γ s w)
include hT hr
theorem Hj {t:TypeId} {l c v:AV} {cl cc:Value} {s':AS} (hl:ah γ l cl) (hc:ah γ c cc) (h:uI T t l c s=some (v,s')) :
  zI P B γ s w (Instr.makeSlice t cl cc) v s':=by
 unfold uI at h
 split at h
 ·rename_i elem k1 l k2 c hu
  simp only [ah] at hl hc;subst hl hc
  simp only [Option.bind_eq_some_iff] at h
  obtain ⟨n,hn,qK,hby,z,hz,zc,EU,h⟩:=h
  split at h
  ·rename_i mo
   obtain ⟨h0,h1,h2,h3,h4⟩:=mo
   obtain ⟨rfl,rfl⟩:_∧_:=by simpa using h
   obtain ⟨rfl,hone⟩:=fq EU
   obtain ⟨cz,LF,NJ⟩:=iF hT hz w
   have zv:=(NJ γ).cells hone
   have Xq:=zv.length
   simp only [Array.length_toList] at Xq
   obtain ⟨inf,zJ,hbytes⟩:=qL hT hby w
   have hwr:∀ x:Int,0≤x→x<2 ^ 63→IntKind.i64.wrap x=x:=fun x WC Wy=>IntWalk.i64_in x (by omega)
   have hwl:=hwr l h0 (by omega)
   have hwc:=hwr c (by omega) h3
   let c0:Array Value:=(Array.range (c.toNat*n)).map ((if c.toNat*n=0 then #[] else cz.cells)[· % (if c.toNat*n=0 then #[] else cz.cells).size]!)
   have hc0:ak γ (rep c.toNat z.cells) c0.toList:=by
    by_cases hz0:c.toNat*n=0
    ·have:rep c.toNat z.cells=[]:=by
      apply List.eq_nil_of_length_eq_zero;rw [uL,h4,hz0]
     rw [this];simp [c0,hz0];exact ak.nil
    ·have:=Hi zv c.toNat (.inr (.inr trivial))
     simp only [c0,if_neg hz0]
     rw [← h4,Xq];exact this
   obtain ⟨g1,g2⟩:=hr.wY (w':={ w with heap:=w.heap.push (.cells c0 elem) }) (g:=0) (x:=0) (e:=elem) (c:=c0) (uJ hc0 (uM hone _) (by intro k v h;simpa using h)) (by simp) (0,0) (by simp) (fun _=>rfl) (Nat.le_refl _) rfl
   refine ⟨_,_,.slice (some ⟨w.heap.size,0,none⟩) l.toNat c.toNat,?_,by simp only [ah];exact ⟨_,b_ _ _ _,by simp⟩,g2,g1⟩
   simp only [Instr.makeSlice,Sem.run_bind,run_underlying hT hu,asInt,asIntOf,Sem.run_pure,zJ,Result.andThen_ok,hbytes,hwl,hwc]
   have e1:(decide (c<0)||decide ((qK:Int)*c>2 ^ 48))=false:=by simp;omega
   rw [e1]
   have e2:((false||decide (l<0))||decide (l>c))=false:=by simp;omega
   simp only [e2,Bool.false_eq_true,if_false,Sem.run_bind,run_askRoom,run_sizeOf hT hn,Result.andThen_ok]
   by_cases hz0:c.toNat*n=0
   ·simp only [if_pos hz0,c0];simp [je]
   ·simp only [if_neg hz0,Sem.run_bind,LF,Sem.run_pure,Result.andThen_ok,je,c0]
  ·cases h
 ·cases h
theorem tU {size n:Nat} {x:AV} {cx:Value} {new:List AV} (hx:ah γ x cx) (h:nH size n s x=some new) :
  ∃ c,(Builtin.firstCells size n cx).run P w=.ok c w∧ak γ new c.toList∧new.all AV.one=true:=by
 unfold nH at h
 split at h
 ·rename_i l o _ _ _
  simp only [ah] at hx;obtain ⟨i,hi,rfl⟩:=hx
  split at h
  ·rename_i h0;subst h0
   obtain rfl:=Option.some.inj h
   exact ⟨#[],by simp [Builtin.firstCells,loadCells,loadCellsFrom],ak.nil,rfl⟩
  ·obtain ⟨j,c,hj,hrun,hvs,hone,_⟩:=mj hT hr h
   rw [hi] at hj;obtain rfl:=Option.some.inj hj
   exact ⟨c,hrun,hvs,hone⟩
 ·simp only [ah] at hx;obtain ⟨rfl,_⟩:=hx
  obtain rfl:=Option.some.inj h
  exact ⟨#[],rfl,ak.nil,rfl⟩
 ·simp only [ah] at hx;obtain ⟨a,m,rfl⟩:=hx
  split at h
  ·rename_i h0;subst h0
   obtain rfl:=Option.some.inj h
   exact ⟨#[],by simp [Builtin.firstCells,loadCells,loadCellsFrom],ak.nil,rfl⟩
  ·cases h
 ·rename_i b
  simp only [ah] at hx;subst hx
  obtain rfl:=Option.some.inj h
  refine ⟨_,rfl,?_,by rw [List.all_eq_true];intro x hx;obtain ⟨y,_,rfl⟩:=List.mem_map.1 hx;rfl⟩
  have:(ByteArray.extract ⟨b.toArray⟩ 0 n).data.toList=b.take n:=by simp [List.extract_eq_take_drop]
  refine ak.eS.2 ⟨by simp [this],fun i v c hv hc=>?_⟩
  rw [Array.toList_map,this] at hc
  simp only [List.getElem?_map] at hv hc
  cases hb:(b.take n)[i]? with
  | none=>simp [hb] at hv
  | some u =>
   simp only [hb,Option.map_some] at hv hc
   obtain rfl:=Option.some.inj hv
   obtain rfl:=Option.some.inj hc
   simp [ah]
 ·cases h
omit hT hr in
theorem Hl {x:AV} {cx:Value} {n:Nat} (hx:ah γ x cx) (h:ES x=some n):(Builtin.lenOf cx).run P w=.ok n w:=by
 unfold ES at h
 split at h
 ·rename_i a m c e
  cases a with
  | none=>simp only [ah] at hx;obtain ⟨rfl,_⟩:=hx;obtain rfl:=Option.some.inj h;rfl
  | some a=>obtain ⟨l,o⟩:=a;simp only [ah] at hx;obtain ⟨i,_,rfl⟩:=hx;obtain rfl:=Option.some.inj h;rfl
 ·simp only [ah] at hx;obtain ⟨a,m,rfl⟩:=hx;obtain rfl:=Option.some.inj h;rfl
 ·simp only [ah] at hx;subst hx;obtain rfl:=Option.some.inj h;simp [Builtin.lenOf,ByteArray.size]
 ·cases h
theorem Uw {t xt:TypeId} {dst x v:AV} {cd cx:Value} {s':AS} (hd:ah γ dst cd) (hx:ah γ x cx) (h:qT T t dst x s=some (v,s')) (ty:TypeId) :
  zI P B γ s w (Builtin.copy_ #[t,xt] ty #[cd,cx]) v s':=by
 unfold qT at h
 split at h
 ·rename_i elem hu
  simp only [Option.bind_eq_some_iff] at h
  obtain ⟨size,hs,m,hm,d,hd',new,hnew,h⟩:=h
  obtain ⟨c,hc,hvs,hone⟩:=tU hT hr hx hnew
  have Xr:=Hl (P:=P) (w:=w) hx hm
  have hld:=Hl (P:=P) (w:=w) hd hd'
  split at h
  ·rename_i l o len cap ex
   simp only [ah] at hd;obtain ⟨i,hi,rfl⟩:=hd
   obtain rfl:len=d:=by simpa [ES] using hd'
   have rN:(Builtin.firstCells size (Nat.min m len) cx).run P w=.ok c w:=hc
   have body:∀ w',(storeCells ⟨i.b,i.d+o,none⟩ c.toList).run P w=.ok () w'→(Builtin.copy_ #[t,xt] ty #[.slice (some ⟨i.b,i.d+o,none⟩) len (if ex then cap else cap+i.x),cx]).run P w=.ok (goInt ((min m len:Nat):Int)) w':=by
    intro w' CV
    simp only [Builtin.copy_,List.getElem?_toArray,List.getElem?_cons_zero,List.getElem?_cons_succ,Sem.run_bind,run_underlying hT hu,Result.andThen_ok,Xr,run_sizeOf hT hs,rN,CV,Sem.run_pure]
   split at h
   ·rename_i h0;subst h0
    obtain ⟨rfl,rfl⟩:_∧_:=by simpa using h
    have:c.toList=[]:=ak.gQ.1 hvs
    exact zI.val hr (body w (by rw [this];rfl)) (by simp [ah,goInt])
   ·simp only [Option.map_eq_some_iff] at h
    obtain ⟨s'',hw,e⟩:=h
    obtain ⟨rfl,rfl⟩:_∧_:=by simpa using e
    obtain ⟨j,w',hj,hrun,jh,hr'⟩:=Gz hT hr hw hvs hone
    rw [hi] at hj;obtain rfl:=Option.some.inj hj
    exact ⟨γ,w',_,body w' hrun,by simp [ah,goInt],jh,hr'⟩
  ·rename_i len cap ex
   simp only [ah] at hd;obtain ⟨rfl,_⟩:=hd
   obtain rfl:len=d:=by simpa [ES] using hd'
   obtain ⟨rfl,rfl⟩:_∧_:=by simpa using h
   have rN:(Builtin.firstCells size (Nat.min m len) cx).run P w=.ok c w:=hc
   refine zI.val hr (cv:=goInt ((min m len:Nat):Int)) ?_ (by simp [ah,goInt])
   simp only [Builtin.copy_,List.getElem?_toArray,List.getElem?_cons_zero,List.getElem?_cons_succ,Sem.run_bind,run_underlying hT hu,Result.andThen_ok,Xr,run_sizeOf hT hs,rN,Sem.run_pure]
  ·simp only [ah] at hd;obtain ⟨a,k,rfl⟩:=hd
   obtain rfl:0=d:=by simpa [ES] using hd'
   split at h
   ·rename_i h0;subst h0
    obtain ⟨rfl,rfl⟩:_∧_:=by simpa using h
    have sM:c.toList=[]:=ak.gQ.1 hvs
    have rN:(Builtin.firstCells size (Nat.min m 0) cx).run P w=.ok c w:=hc
    refine zI.val hr (cv:=goInt ((min m 0:Nat):Int)) ?_ (by simp [ah,goInt])
    simp only [Builtin.copy_,List.getElem?_toArray,List.getElem?_cons_zero,List.getElem?_cons_succ,Sem.run_bind,run_underlying hT hu,Result.andThen_ok,Xr,run_sizeOf hT hs,rN,sM,storeCells,Sem.run_pure]
   ·cases h
  ·cases h
 ·cases h
omit hr in
theorem r7 {t xt elem : TypeId} {xd : TypeDesc} {size len cap' n : Nat} {base : Option Addr} {cx : Value} {c : Array Value} {w' : World} (hu : T.cM t = some (.slice elem)) (LG : T.cM xt = some xd)
    (uN : Rc xd = false) (hs : T.eN elem = some size) (Xs : (Builtin.lenOf cx).run P w = .ok n w) (hc : (Builtin.firstCells size n cx).run P w = .ok c w) (hroom : len + n ≤ cap') (ty : TypeId)
    (hst : (match base with | some a => storeCells (a.add (len * size)) c.toList | none => pure () : Sem Unit).run P w = .ok () w') :
    (Builtin.append_ #[t, xt] ty #[.slice base len cap', cx]).run P w = .ok (.slice base (len + n) cap') w' := by
  cases xd <;> first
    | (cases uN; done)
    | (simp only [Builtin.append_, List.getElem?_toArray, List.getElem?_cons_zero, List.getElem?_cons_succ, Sem.run_bind, run_underlying hT hu, run_underlying hT LG, run_sizeOf hT hs, Result.andThen_ok, Sem.run_pure, Bool.false_eq_true, if_false, Xs, if_pos hroom, Bool.not_false, if_true, hc]
       cases base with
       | none => simp only at hst ⊢; cases hst; rfl
       | some a => simp only at hst ⊢; simp [hst])
omit hr in
theorem N9 {t xt elem : TypeId} {xd : TypeDesc} {size qK len cap' n : Nat} {base : Option Addr} {cx cz : Value} (hu : T.cM t = some (.slice elem)) (LG : T.cM xt = some xd)
    (uN : Rc xd = false) (hs : T.eN elem = some size) (hby : T.Jo elem = some qK) (Xs : (Builtin.lenOf cx).run P w = .ok n w) (hz : ∀ w, (zeroValue elem).run P w = .ok cz w)
    (hroom : ¬ len + n ≤ cap') (Xm : len + n ≤ 2 ^ 40) (Em : 2 * ((len + n + 256) * qK) ≤ 2 ^ 48) (ty : TypeId) :
    ∃ wd cU, (wd.heap = w.heap ∧ Env w wd) ∧ len + n ≤ cU ∧ ∀ old new, (Builtin.firstCells size len (.slice base len cap')).run P wd = .ok old wd → (Builtin.firstCells size n cx).run P wd = .ok new wd →
      (Builtin.append_ #[t, xt] ty #[.slice base len cap', cx]).run P w = .ok (.slice (some ⟨w.heap.size, 0, none⟩) (len + n) cU)
        { wd with heap := wd.heap.push (.cells (old ++ new ++ Builtin.zeroCells cz.cells (cU - (len + n))) elem) } := by
  have hq : (Question.appendCap (len + n) cap' elem).forced = false := rfl
  refine ⟨{ w with drawn := w.drawn + 1 }, (Question.appendCap (len + n) cap' elem).cut (w.tape w.drawn (Question.appendCap (len + n) cap' elem)), ⟨rfl, rfl, rfl, rfl⟩, Nat.le_add_right _ _, fun old new ho hn => ?_⟩
  obtain ⟨inf, zJ, hbytes⟩ := qL hT hby w
  have w_ : ∀ w, (typeInfo elem).run P w = .ok inf w := by
    intro w2
    obtain ⟨agL, w_, _⟩ := qL hT hby w2
    have e1 : (typeInfo elem).run P w = (match P.info? elem with | some i => .ok i w | none => .halt (.stuck "no such type") w) := by
      simp only [typeInfo, Sem.run_bind, run_program, Result.andThen_ok]; cases P.info? elem <;> rfl
    have e2 : (typeInfo elem).run P w2 = (match P.info? elem with | some i => .ok i w2 | none => .halt (.stuck "no such type") w2) := by
      simp only [typeInfo, Sem.run_bind, run_program, Result.andThen_ok]; cases P.info? elem <;> rfl
    rw [e1] at zJ; rw [e2]
    cases hi : P.info? elem with
    | none => rw [hi] at zJ; cases zJ
    | some i => rw [hi] at zJ; cases zJ; rfl
  have Rd : ¬ (((len + n : Nat) : Int) > IntKind.i64.max ∧ ((false = true) ∨ inf.bytes = 0)) := by
    have : IntKind.i64.max = 9223372036854775807 := rfl
    rw [this]; omega
  have Hh : ¬ (Builtin.nextslicecap (len + n) cap' * inf.bytes > 2 ^ 48) := by
    have h1 := nextslicecap_le (need := len + n) (cap := cap') (by omega)
    have h2 : Builtin.nextslicecap (len + n) cap' * inf.bytes ≤ 2 * (len + n + 256) * qK := by rw [hbytes]; exact Nat.mul_le_mul_right _ h1
    have h3 : 2 * (len + n + 256) * qK = 2 * ((len + n + 256) * qK) := by rw [Nat.mul_assoc]
    omega
  cases xd <;> first
    | (cases uN; done)
    | (simp only [Builtin.append_, List.getElem?_toArray, List.getElem?_cons_zero, List.getElem?_cons_succ, Sem.run_bind, run_underlying hT hu, run_underlying hT LG, run_sizeOf hT hs, Result.andThen_ok, Sem.run_pure, Bool.false_eq_true, if_false, Xs, if_neg hroom, Bool.not_false, if_true, w_]
       rw [if_neg (by simpa using Rd)]
       simp only [Sem.run_bind, w_, Result.andThen_ok]
       rw [if_neg Hh]
       simp only [Sem.run_bind, run_choose, hq, Bool.false_eq_true, if_false, Result.andThen_ok, w_, run_askRoom, ho, hn, hz, je, Sem.run_pure])
omit hT hr in
theorem Re {a b:List AV} (h1:a.all AV.one=true) (h2:b.all AV.one=true):(a++b).all AV.one=true:=by simp [h1,h2]
theorem Ho {elem:TypeId} {wd:World} {old new:List AV} {co cn cz:Array Value} {size need cU x:Nat} (hw:wd.heap=w.heap) (hew:Env w wd) (ho:ak γ old co.toList) (hn:ak γ new cn.toList)
  (ho1:old.all AV.one=true) (hn1:new.all AV.one=true) (hx:cU=need+x) (zv:cz.size=size) {zc:List AV} (WB:ak γ zc cz.toList) (hz1:zc.all AV.one=true) :
  Rel B (gR γ s.nl ⟨w.heap.size,0,x⟩) (s.new (.cells (old++new) size false)) { wd with heap:=wd.heap.push (.cells (co++cn++Builtin.zeroCells cz (cU - need)) elem) } ∧
   fJ B γ s w (gR γ s.nl ⟨w.heap.size,0,x⟩) (s.new (.cells (old++new) size false)) { wd with heap:=wd.heap.push (.cells (co++cn++Builtin.zeroCells cz (cU - need)) elem) }:=by
 have hlo:=ho.length
 have Rf:=hn.length
 simp only [Array.length_toList] at hlo Rf
 refine hr.wY (w':={ wd with heap:=wd.heap.push (.cells (co++cn++Builtin.zeroCells cz (cU - need)) elem) }) (g:=size) (x:=x) (e:=elem) (c:=co++cn++Builtin.zeroCells cz (cU - need))
  (uJ (ho.append hn) (Re ho1 hn1) ?_) ?_ (0,0) (by simp) (fun _=>rfl) (Nat.le_refl _) (by simp [hw]) hew
 ·intro k v hk
  have hlt:k<co.size+cn.size:=by
   rcases Nat.lt_or_ge k (co.size+cn.size) with h | h
   ·exact h
   ·rw [List.getElem?_eq_none (by simp;omega)] at hk;cases hk
  rw [← Array.getElem?_toList]
  simp only [Array.toList_append]
  rw [List.getElem?_append_left (by simpa using hlt)]
  exact hk
 ·intro _
  refine ⟨?_,fun k hk hk'=>?_⟩
  ·simp only [Array.size_append,mq,List.length_append,hlo,Rf,zv]
   rw [show cU - need=x by omega]
  ·rw [List.length_append,hlo,Rf] at hk
   rw [Array.getElem?_append_right (by simpa using hk)]
   have hlt:k - (co++cn).size<(Builtin.zeroCells cz (cU - need)).size:=by simp only [Array.size_append] at hk' ⊢;omega
   rw [Array.getElem?_eq_getElem hlt]
   have LF:=jf WB (cU - need)
   have hlz:=LF.length
   simp only [Array.length_toList] at hlz
   have aes:k - (co++cn).size<(rep (cU - need) zc).length:=by omega
   obtain ⟨c',rN,gw⟩:=LF.get (List.getElem?_eq_getElem aes)
   rw [Array.getElem?_toList,Array.getElem?_eq_getElem hlt] at rN
   obtain rfl:=Option.some.inj rN
   exact ⟨_,_,List.all_eq_true.1 (uM hz1 _) _ (List.getElem_mem aes),rfl,gw⟩
theorem xe {l o len cap n g:Nat} {cs new old:List AV} {c:Array Value} {i:CI} (hl:s.h l=some (.cells cs g false)) (hi:γ l=some i) (hg0:g≠0) (hgl:o+cap*g=cs.length) (zu:new.length=n*g) (hvs:ak γ new c.toList) (hone:new.all AV.one=true) (hold':aB s l o (len*g)=some old) (hroom:¬ len+n≤cap) (pI:len+n≤cap+i.x) :
  ∃ w',(storeCells ⟨i.b,i.d+o+len*g,none⟩ c.toList).run P w=.ok () w'∧Rel B (gR γ s.nl ⟨i.b,i.d+o,cap+i.x - (len+n)⟩) ((s.kill l).new (.cells (old++new) g false)) w'∧fJ B γ s w (gR γ s.nl ⟨i.b,i.d+o,cap+i.x - (len+n)⟩) ((s.kill l).new (.cells (old++new) g false)) w':=by
 obtain ⟨j,hj,hO,hB⟩:=hr.obj l _ hl
 rw [hi] at hj;obtain rfl:=Option.some.inj hj
 obtain ⟨ca,e,fz,hb,LH,hf,hgz,Ts⟩:=hO
 have hsz:=(hgz hg0).1
 have Rf:=hvs.length
 simp only [Array.length_toList] at Rf
 have abU:old.length=len*g:=by obtain ⟨_,_,_,_,_,_,_,_,_,hh⟩:=Tp hT hr hold';exact hh
 have hmul:(len+n)*g≤(cap+i.x)*g:=Nat.mul_le_mul_right _ pI
 have e1:(len+n)*g=len*g+n*g:=Nat.add_mul _ _ _
 have e2:(cap+i.x)*g=cap*g+i.x*g:=Nat.add_mul _ _ _
 have LD:∀ v∈c.toList,v.oneCell'=true:=by
  intro v hm
  obtain ⟨k,hk⟩:=List.mem_iff_getElem?.1 hm
  have En:k<new.length:=by
   rcases Nat.lt_or_ge k c.toList.length with h | h
   ·have:=hvs.length;omega
   ·simp [List.getElem?_eq_none h] at hk
  have hvk:=List.getElem?_eq_getElem En
  obtain ⟨c',rN,hr'⟩:=hvs.get hvk
  rw [hk] at rN;obtain rfl:=Option.some.inj rN
  exact hr'.one (List.all_eq_true.1 hone _ (List.mem_of_getElem? hvk))
 obtain ⟨w',hrun,CV,hev⟩:=qU P (b:=i.b) (o:=i.d+o+len*g) c.toList 0 w ca hb (by simp only [Array.length_toList];omega) (hf rfl) LD
 have NK:=k_.lt (γ:=γ) (o:=.cells cs g false) ⟨ca,e,fz,hb,LH,hf,hgz,Ts⟩
 have hle:bM.le γ (gR γ s.nl ⟨i.b,i.d+o,cap+i.x - (len+n)⟩):=bM.uG hr.N0
 have hO':k_ (gR γ s.nl ⟨i.b,i.d+o,cap+i.x - (len+n)⟩) w' ⟨i.b,i.d+o,cap+i.x - (len+n)⟩ (.cells (old++new) g false):=by
  refine ⟨N4 ca (i.d+o+len*g+0) c.toList,e,fz,by simp only;rw [CV];simp [NK],fun k v hk=>?_,fun _=>by rw [tP];exact hf rfl,fun _=>⟨?_,fun k hk hk'=>?_⟩,Ts⟩
  ·rw [A7 _ _ _ _ (by simp only [Array.length_toList];omega)]
   rw [List.getElem?_append] at hk
   split at hk
   ·rename_i En
    simp only
    rw [if_neg (by omega)]
    have hok:cs[o+k]? = some v:=by
     unfold aB at hold'
     rw [hl] at hold'
     simp only at hold'
     split at hold'
     ·obtain rfl:=Option.some.inj hold'
      rw [List.getElem?_take,List.getElem?_drop] at hk
      split at hk
      ·exact hk
      ·cases hk
     ·cases hold'
    obtain ⟨h1,cv,h2,h3⟩:=LH _ v hok
    exact ⟨h1,cv,by rw [← h2];congr 1;omega,h3.mono hle⟩
   ·rename_i En
    obtain ⟨c',rN,hr'⟩:=hvs.get hk
    have hkn:k - old.length<new.length:=by
     rcases Nat.lt_or_ge (k - old.length) new.length with h | h
     ·exact h
     ·simp [List.getElem?_eq_none h] at hk
    simp only
    rw [if_pos (by simp only [Array.length_toList];omega)]
    refine ⟨List.all_eq_true.1 hone _ (List.mem_of_getElem? hk),c',?_,hr'.mono hle⟩
    rw [← rN];congr 1;omega
  ·rw [tP,hsz,List.length_append,abU,zu]
   simp only
   rw [Nat.mul_sub_right_distrib]
   omega
  ·simp only at hk hk' ⊢
   rw [tP] at hk'
   rw [List.length_append,abU,zu] at hk
   rw [A7 _ _ _ _ (by simp only [Array.length_toList];omega),if_neg (by simp only [Array.length_toList];omega)]
   rcases Nat.lt_or_ge k (i.d+cs.length) with hkc | hkc
   ·obtain ⟨h1,cv,h2,h3⟩:=LH (k - i.d) _ (List.getElem?_eq_getElem (show k - i.d<cs.length by omega))
    exact ⟨_,cv,h1,by rw [← h2];congr 1;omega,h3.mono hle⟩
   ·obtain ⟨v,cv,h1,h2,h3⟩:=(hgz hg0).2 k hkc hk'
    exact ⟨v,cv,h1,h2,h3.mono hle⟩
 obtain ⟨g1,g2⟩:=hr.take hl rfl rfl hi (i':=⟨i.b,i.d+o,cap+i.x - (len+n)⟩) rfl CV hO' hev
 exact ⟨w',hrun,g1,g2⟩
omit hr in
theorem A9 {t xt elem:TypeId} {xk:IntKind} {size qK len cap':Nat} {base:Option Addr} {k:Int} {cz:Value} (hu:T.cM t=some (.slice elem)) (LG:T.cM xt=some (.int xk))
  (hs:T.eN elem=some size) (hby:T.Jo elem=some qK) (hz:∀ w,(zeroValue elem).run P w=.ok cz w) (zv:cz.cells.size=size) (hk:0≤k)
  (hroom:¬ len+k.toNat≤cap') (Xm:len+k.toNat≤2 ^ 40) (Em:2*((len+k.toNat+256)*qK)≤2 ^ 48) (ty:TypeId) :
  ∃ wd cU,(wd.heap=w.heap∧Env w wd)∧len+k.toNat≤cU∧∀ old,(Builtin.firstCells size len (.slice base len cap')).run P wd=.ok old wd →
   (Builtin.append_ #[t,xt] ty #[.slice base len cap',.int .i64 k]).run P w=.ok (.slice (some ⟨w.heap.size,0,none⟩) (len+k.toNat) cU)
    { wd with heap:=wd.heap.push (.cells (old++Builtin.zeroCells cz.cells k.toNat++Builtin.zeroCells cz.cells (cU - (len+k.toNat))) elem) }:=by
 have hq:(Question.appendCap (len+k.toNat) cap' elem).forced=false:=rfl
 refine ⟨{ w with drawn:=w.drawn+1 },(Question.appendCap (len+k.toNat) cap' elem).cut (w.tape w.drawn (Question.appendCap (len+k.toNat) cap' elem)),⟨rfl,rfl,rfl,rfl⟩,Nat.le_add_right _ _,fun old ho=>?_⟩
 obtain ⟨inf,zJ,hbytes⟩:=qL hT hby w
 have w_:∀ w,(typeInfo elem).run P w=.ok inf w:=by
  intro w2
  obtain ⟨agL,w_,_⟩:=qL hT hby w2
  have e1 : (typeInfo elem).run P w = (match P.info? elem with | some i => .ok i w | none => .halt (.stuck "no such type") w) := by
   simp only [typeInfo,Sem.run_bind,run_program,Result.andThen_ok];cases P.info? elem <;> rfl
  have e2 : (typeInfo elem).run P w2 = (match P.info? elem with | some i => .ok i w2 | none => .halt (.stuck "no such type") w2) := by
   simp only [typeInfo,Sem.run_bind,run_program,Result.andThen_ok];cases P.info? elem <;> rfl
  rw [e1] at zJ;rw [e2]
  cases hi:P.info? elem with
  | none=>rw [hi] at zJ;cases zJ
  | some i=>rw [hi] at zJ;cases zJ;rfl
 have Ux:IntKind.i64.max=9223372036854775807:=rfl
 have hwrap:IntKind.i64.wrap k=k:=IntWalk.i64_in k (by omega)
 have Rd:¬ (((len+k.toNat:Nat):Int)>IntKind.i64.max∧((true=true)∨inf.bytes=0)):=by
  rw [Ux];omega
 have Hh:¬ (Builtin.nextslicecap (len+k.toNat) cap'*inf.bytes>2 ^ 48):=by
  have h1:=nextslicecap_le (need:=len+k.toNat) (cap:=cap') (by omega)
  have h2:Builtin.nextslicecap (len+k.toNat) cap'*inf.bytes≤2*(len+k.toNat+256)*qK:=by rw [hbytes];exact Nat.mul_le_mul_right _ h1
  have h3:2*(len+k.toNat+256)*qK=2*((len+k.toNat+256)*qK):=by rw [Nat.mul_assoc]
  omega
 have Rg:¬ (k*(inf.bytes:Int)>2 ^ 48):=by
  rw [hbytes]
  have h1:k.toNat*qK≤(len+k.toNat+256)*qK:=Nat.mul_le_mul_right _ (by omega)
  have h2:k*(qK:Int)=((k.toNat*qK:Nat):Int):=by rw [Int.natCast_mul,Int.toNat_of_nonneg hk]
  rw [h2]
  omega
 have Q7:∀ w,((if k.toNat*size=0 then pure #[] else do pure (Builtin.zeroCells (← zeroValue elem).cells k.toNat)):Sem (Array Value)).run P w=.ok (Builtin.zeroCells cz.cells k.toNat) w:=by
  intro w
  split
  ·rename_i h0
   have:Builtin.zeroCells cz.cells k.toNat=#[]:=Array.eq_empty_of_size_eq_zero (by rw [mq,zv];exact h0)
   rw [this];rfl
  ·simp only [Sem.run_bind,hz,Result.andThen_ok,Sem.run_pure]
 simp only [Builtin.append_,List.getElem?_toArray,List.getElem?_cons_zero,List.getElem?_cons_succ,Sem.run_bind,run_underlying hT hu,run_underlying hT LG,run_sizeOf hT hs,Result.andThen_ok,Sem.run_pure,asInt,asIntOf,if_true,hwrap,w_]
 rw [if_neg (by omega)]
 simp only [Sem.run_bind,Sem.run_pure,Result.andThen_ok,w_]
 rw [if_neg Rg]
 simp only [Sem.run_bind,Sem.run_pure,Result.andThen_ok,w_,if_neg hroom,Bool.not_true,Bool.false_eq_true,if_false]
 rw [if_neg (by simpa using Rd)]
 simp only [Sem.run_bind,w_,Result.andThen_ok,Sem.run_pure]
 rw [if_neg Hh]
 simp only [Sem.run_bind,run_choose,hq,Bool.false_eq_true,if_false,Result.andThen_ok,w_,run_askRoom,ho,Q7,hz,je,Sem.run_pure]
omit hr in
theorem A_ {t xt elem:TypeId} {xk:IntKind} {size qK len cap':Nat} {base:Option Addr} {k:Int} {cz:Value} {w':World} (hu:T.cM t=some (.slice elem)) (LG:T.cM xt=some (.int xk))
  (hs:T.eN elem=some size) (hby:T.Jo elem=some qK) (hz:∀ w,(zeroValue elem).run P w=.ok cz w) (zv:cz.cells.size=size) (hk:0≤k)
  (hroom:len+k.toNat≤cap') (Xm:len+k.toNat≤2 ^ 40) (Em:2*((len+k.toNat+256)*qK)≤2 ^ 48) (ty:TypeId)
  (hst:(match base with | some a=>storeCells (a.add (len*size)) (Builtin.zeroCells cz.cells k.toNat).toList | none=>pure ():Sem Unit).run P w=.ok () w') :
  (Builtin.append_ #[t,xt] ty #[.slice base len cap',.int .i64 k]).run P w=.ok (.slice base (len+k.toNat) cap') w':=by
 obtain ⟨inf,zJ,hbytes⟩:=qL hT hby w
 have hwrap:IntKind.i64.wrap k=k:=IntWalk.i64_in k (by omega)
 have Rg:¬ (k*(inf.bytes:Int)>2 ^ 48):=by
  rw [hbytes]
  have h1:k.toNat*qK≤(len+k.toNat+256)*qK:=Nat.mul_le_mul_right _ (by omega)
  have h2:k*(qK:Int)=((k.toNat*qK:Nat):Int):=by rw [Int.natCast_mul,Int.toNat_of_nonneg hk]
  rw [h2]
  omega
 have Q7:∀ w,((if k.toNat*size=0 then pure #[] else do pure (Builtin.zeroCells (← zeroValue elem).cells k.toNat)):Sem (Array Value)).run P w=.ok (Builtin.zeroCells cz.cells k.toNat) w:=by
  intro w
  split
  ·rename_i h0
   have:Builtin.zeroCells cz.cells k.toNat=#[]:=Array.eq_empty_of_size_eq_zero (by rw [mq,zv];exact h0)
   rw [this];rfl
  ·simp only [Sem.run_bind,hz,Result.andThen_ok,Sem.run_pure]
 simp only [Builtin.append_,List.getElem?_toArray,List.getElem?_cons_zero,List.getElem?_cons_succ,Sem.run_bind,run_underlying hT hu,run_underlying hT LG,run_sizeOf hT hs,Result.andThen_ok,Sem.run_pure,asInt,asIntOf,if_true,hwrap]
 rw [if_neg (by omega)]
 simp only [Sem.run_bind,Sem.run_pure,Result.andThen_ok,zJ]
 rw [if_neg Rg]
 simp only [Sem.run_bind,Sem.run_pure,Result.andThen_ok,if_pos hroom,Bool.not_true,Bool.false_eq_true,if_false,Q7]
 cases base with
 | none=>simp only at hst ⊢;cases hst;rfl
 | some a=>simp only at hst ⊢;simp [hst]
theorem LI {t xt elem:TypeId} {xk:IntKind} {dst x v:AV} {cd cx:Value} {s':AS} (hu:T.cM t=some (.slice elem)) (LG:T.cM xt=some (.int xk)) (hd:ah γ dst cd) (hx:ah γ x cx) (h:tO T elem dst x s=some (v,s')) (ty:TypeId) :
  zI P B γ s w (Builtin.append_ #[t,xt] ty #[cd,cx]) v s':=by
 unfold tO at h
 simp only [Option.bind_eq_some_iff] at h
 obtain ⟨size,hs,qK,hby,z,hz,zc,EU,h⟩:=h
 obtain ⟨rfl,tV⟩:=fq EU
 split at h
 ·rename_i base len cap k
  split at h
  ·cases h
  ·rename_i mo
   simp only [not_or,Nat.not_lt,Int.not_lt,Decidable.not_not,gt_iff_lt,ne_eq] at mo
   obtain ⟨WD,zu,hc3,hc4,hc5⟩:=mo
   simp only [Option.map_eq_some_iff] at h
   obtain ⟨old,hold,h⟩:=h
   obtain ⟨rfl,rfl⟩:_∧_:=by simpa using h
   obtain ⟨cz,LF,zv,WB⟩:∃ cz:Value,(∀ w,(zeroValue elem).run P w=.ok cz w)∧cz.cells.size=size∧ak γ z.cells cz.cells.toList:=by
    obtain ⟨inf,cz,hi,zv,NJ⟩:=hT.sL elem z hz
    refine ⟨cz,fun w=>by simp [zeroValue,typeInfo,hi,zv],?_,(NJ γ).cells tV⟩
    have:=((NJ γ).cells tV).length
    simp only [Array.length_toList] at this
    omega
   simp only [ah] at hx
   subst hx
   obtain ⟨ca,hca⟩:∃ ca,cd=.slice ca len cap:=by
    cases base with
    | none=>simp only [ah] at hd;exact ⟨none,hd.1⟩
    | some a=>obtain ⟨l,o⟩:=a;simp only [ah] at hd;obtain ⟨i,_,e⟩:=hd;exact ⟨_,by simpa using e⟩
   subst hca
   obtain ⟨wd,cU,⟨hwd,hew⟩,hnc,hrun⟩:=A9 hT (w:=w) (base:=ca) (len:=len) (cap':=cap) (k:=k) hu LG hs hby LF zv zu hc5 hc3 (by omega) ty
   have hrd:Rel B γ s wd:=hr.of_heap hwd
   obtain ⟨co,hco,hvo,hoo⟩:=tU hT hrd hd hold
   obtain ⟨g1,g2⟩:=Ho (P:=P) hT hr (elem:=elem) (size:=size) (need:=len+k.toNat) (cU:=cU) (x:=cU - (len+k.toNat)) hwd hew hvo (jf WB k.toNat) hoo (uM tV _) (by omega) zv WB tV
   refine ⟨_,_,_,hrun co hco,?_,g2,g1⟩
   simp only [ah]
   refine ⟨_,b_ _ _ _,?_⟩
   simp only [Bool.false_eq_true,if_false]
   rw [show len+k.toNat+(cU - (len+k.toNat))=cU by omega]
 ·rename_i l o len cap k
  split at h
  ·cases h
  ·rename_i mo
   simp only [not_or,Nat.not_lt,Int.not_lt,Decidable.not_not,gt_iff_lt,ne_eq] at mo
   obtain ⟨WD,zu,hc3,hc4,rfl⟩:=mo
   obtain ⟨cz,LF,zv,WB⟩:∃ cz:Value,(∀ w,(zeroValue elem).run P w=.ok cz w)∧cz.cells.size=size∧ak γ z.cells cz.cells.toList:=by
    obtain ⟨inf,cz,hi,zv,NJ⟩:=hT.sL elem z hz
    refine ⟨cz,fun w=>by simp [zeroValue,typeInfo,hi,zv],?_,(NJ γ).cells tV⟩
    have:=((NJ γ).cells tV).length
    simp only [Array.length_toList] at this
    omega
   simp only [ah] at hx
   subst hx
   have hd0:=hd
   simp only [ah] at hd
   obtain ⟨i,hi,rfl⟩:=hd
   split at h
   ·rename_i h0
    obtain ⟨rfl,rfl⟩:_∧_:=by simpa using h
    have sM:(Builtin.zeroCells cz.cells k.toNat).toList=[]:=by
     rw [Array.toList_eq_nil_iff]
     exact Array.eq_empty_of_size_eq_zero (by rw [mq,h0,Nat.zero_mul])
    have:=A_ hT (w:=w) (w':=w) (base:=some ⟨i.b,i.d+o,none⟩) (len:=len) (cap':=len+i.x) (k:=k) hu LG hs hby LF zv zu (by omega) hc3 (by omega) ty (by simp only [sM];rfl)
    refine zI.val hr this ?_
    simp only [ah]
    exact ⟨i,hi,by rw [h0];rfl⟩
   ·rename_i h0
    simp only [Option.bind_eq_some_iff] at h
    obtain ⟨old,hold,h⟩:=h
    split at h
    ·rename_i cs g hl
     split at h
     ·rename_i hg
      obtain ⟨rfl,hg0,hgl⟩:=hg
      obtain ⟨rfl,rfl⟩:_∧_:=by simpa using h
      have hlz:(rep k.toNat z.cells).length=k.toNat*g:=by simp [rep,WD]
      by_cases pI:len+k.toNat≤len+i.x
      ·have hold':aB s l o (len*g)=some old:=by
        simp only [nH] at hold
        split at hold
        ·rename_i h0
         obtain rfl:=Option.some.inj hold
         simp only [aB,hl,h0,Nat.zero_mul,Nat.add_zero,List.take_zero]
         rw [if_pos (by omega)]
        ·exact hold
       obtain ⟨w',hrun,g1,g2⟩:=xe hT hr hl hi hg0 hgl hlz (jf WB k.toNat) (uM tV _) hold' (by omega) pI
       refine ⟨_,w',_,A_ hT (base:=some ⟨i.b,i.d+o,none⟩) hu LG hs hby LF zv zu pI hc3 (by omega) ty (by simp only [iq];exact hrun),?_,g2,g1⟩
       simp only [ah]
       refine ⟨_,b_ _ _ _,?_⟩
       simp only [Bool.false_eq_true,if_false,Nat.add_zero]
       rw [show len+k.toNat+(len+i.x - (len+k.toNat))=len+i.x by omega]
      ·obtain ⟨k1,k2⟩:=hr.kill l
       obtain ⟨wd,cU,⟨hwd,hew⟩,hnc,hrun⟩:=A9 hT (w:=w) (base:=some ⟨i.b,i.d+o,none⟩) (len:=len) (cap':=len+i.x) (k:=k) hu LG hs hby LF zv zu pI hc3 (by omega) ty
       have hrd:Rel B γ s wd:=hr.of_heap hwd
       obtain ⟨co,hco,hvo,hoo⟩:=tU hT hrd hd0 hold
       obtain ⟨g1,g2⟩:=Ho (P:=P) hT k1 (elem:=elem) (size:=g) (need:=len+k.toNat) (cU:=cU) (x:=cU - (len+k.toNat)) hwd hew hvo (jf WB k.toNat) hoo (uM tV _) (by omega) zv WB tV
       refine ⟨_,_,_,hrun co hco,?_,k2.trans g2,g1⟩
       simp only [ah]
       refine ⟨_,b_ _ _ _,?_⟩
       simp only [Bool.false_eq_true,if_false]
       rw [show len+k.toNat+(cU - (len+k.toNat))=cU by omega]
     ·cases h
    ·cases h
 ·cases h
theorem N_ {t xt:TypeId} {dst x v:AV} {cd cx:Value} {s':AS} (hd:ah γ dst cd) (hx:ah γ x cx) (h:aJ T t xt dst x s=some (v,s')) (ty:TypeId) :
  zI P B γ s w (Builtin.append_ #[t,xt] ty #[cd,cx]) v s':=by
 unfold aJ at h
 split at h
 ·rename_i elem xd hu LG
  split at h
  ·rename_i hint
   simp only [if_true] at h
   exact LI hT hr hu LG hd hx h ty
  ·rename_i hint
   simp only [Bool.false_eq_true,if_false,Option.bind_eq_some_iff] at h
   obtain ⟨size,hs,qK,hby,z,hz,zc,EU,n,hn,new,hnew,h⟩:=h
   obtain ⟨c,hc,hvs,hone⟩:=tU hT hr hx hnew
   have Xs:=Hl (P:=P) (w:=w) hx hn
   obtain ⟨rfl,tV⟩:=fq EU
   have uN:Rc xd=false:=by cases xd <;> first | rfl | exact (hint _ rfl).elim
   split at h
   ·rename_i base len cap ex
    split at h
    ·cases h
    ·rename_i mo
     simp only [not_or,Nat.not_lt,Decidable.not_not,gt_iff_lt,ne_eq] at mo
     obtain ⟨WD,zu,hc3,hc4⟩:=mo
     obtain ⟨cz,LF,zv,WB⟩:∃ cz:Value,(∀ w,(zeroValue elem).run P w=.ok cz w)∧cz.cells.size=size∧ak γ z.cells cz.cells.toList:=by
      obtain ⟨inf,cz,hi,zv,NJ⟩:=hT.sL elem z hz
      refine ⟨cz,fun w=>by simp [zeroValue,typeInfo,hi,zv],?_,(NJ γ).cells tV⟩
      have:=((NJ γ).cells tV).length
      simp only [Array.length_toList] at this
      omega
     have grow:∀ (cap':Nat) (ca:Option Addr) (old:List AV) (s1:AS),(∀ l o,s1.h l=some o→s.h l=some o)→s1.nl=s.nl→Rel B γ s1 w→fJ B γ s w γ s1 w→ah γ (.slc base len cap ex) (.slice ca len cap') →
       nH size len s (.slc base len cap ex)=some old→¬ len+n≤cap' →
       zI P B γ s w (Builtin.append_ #[t,xt] ty #[.slice ca len cap',cx]) (.slc (some (s.nl,0)) (len+n) (len+n) false) (s1.new (.cells (old++new) size false)):=by
      intro cap' ca old s1 hsub Uy Oa hd1 hv hold hroom
      obtain ⟨wd,cU,⟨hwd,hew⟩,hnc,hrun⟩:=N9 hT (w:=w) (base:=ca) hu LG uN hs hby Xs LF hroom (by omega) (by omega) ty
      have hrd:Rel B γ s wd:=hr.of_heap hwd
      obtain ⟨co,hco,hvo,hoo⟩:=tU hT hrd hv hold
      obtain ⟨cn,hcn,hvn,hon⟩:=tU hT hrd hx hnew
      obtain ⟨g1,g2⟩:=Ho (P:=P) hT Oa (elem:=elem) (size:=size) (need:=len+n) (cU:=cU) (x:=cU - (len+n)) hwd hew hvo hvn hoo hon (by omega) zv WB tV
      refine ⟨_,_,_,hrun co cn hco hcn,?_,hd1.trans g2,g1⟩
      simp only [ah]
      refine ⟨_,by rw [← Uy];exact b_ _ _ _,?_⟩
      simp only [Bool.false_eq_true,if_false]
      rw [show len+n+(cU - (len+n))=cU by omega]
     cases base with
     | none =>
      simp only [ah] at hd
      obtain ⟨rfl,rfl⟩:=hd
      split at h
      ·rename_i hroom
       obtain ⟨rfl,rfl⟩:_∧_:=by simpa using h
       exact zI.val hr (r7 hT hu LG uN hs Xs hc hroom ty rfl) (by simp [ah])
      ·rename_i hroom
       simp only [Option.bind_eq_some_iff,if_true] at h
       obtain ⟨old,hold,h⟩:=h
       obtain ⟨rfl,rfl⟩:_∧_:=by simpa using h
       exact grow cap none old s (fun _ _ h=>h) rfl hr fJ.refl (by simp [ah]) hold hroom
     | some bo =>
      obtain ⟨l,o⟩:=bo
      have hd0:=hd
      simp only [ah] at hd
      obtain ⟨i,hi,rfl⟩:=hd
      split at h
      ·rename_i hroom
       have pI:len+n≤(if ex then cap else cap+i.x):=by split <;> omega
       simp only at h
       split at h
       ·rename_i h0
        obtain ⟨rfl,rfl⟩:_∧_:=by simpa using h
        subst h0
        have sM:c.toList=[]:=ak.gQ.1 hvs
        exact zI.val hr (r7 hT hu LG uN hs Xs hc pI ty (w':=w) (by simp [sM,storeCells])) (by simp only [ah];exact ⟨i,hi,rfl⟩)
       ·simp only [Option.map_eq_some_iff] at h
        obtain ⟨s'',hw,e⟩:=h
        obtain ⟨rfl,rfl⟩:_∧_:=by simpa using e
        obtain ⟨j,w',hj,hrun,jh,hr'⟩:=Gz hT hr hw hvs hone
        rw [hi] at hj;obtain rfl:=Option.some.inj hj
        exact ⟨γ,w',_,r7 hT hu LG uN hs Xs hc pI ty (by simp only [iq];rw [Nat.add_assoc];exact hrun),by simp only [ah];exact ⟨i,hi,rfl⟩,jh,hr'⟩
      ·rename_i hroom
       simp only [Option.bind_eq_some_iff] at h
       obtain ⟨old,hold,h⟩:=h
       cases ex with
       | true =>
        simp only [if_true] at h hd0 ⊢
        obtain ⟨rfl,rfl⟩:_∧_:=by simpa using h
        exact grow cap _ old s (fun _ _ h=>h) rfl hr fJ.refl hd0 hold hroom
       | false =>
        simp only [Bool.false_eq_true,if_false] at h hd0 ⊢
        split at h
        ·rename_i cs g hl
         split at h
         ·rename_i hg
          obtain ⟨rfl,hg0,hgl⟩:=hg
          obtain ⟨rfl,rfl⟩:_∧_:=by simpa using h
          by_cases pI:len+n≤cap+i.x
          ·
           have hold':aB s l o (len*g)=some old:=by
            simp only [nH] at hold
            split at hold
            ·rename_i h0
             obtain rfl:=Option.some.inj hold
             simp only [aB,hl,h0,Nat.zero_mul,Nat.add_zero,List.take_zero]
             rw [if_pos (by omega)]
            ·exact hold
           obtain ⟨w',hrun,g1,g2⟩:=xe hT hr hl hi hg0 hgl zu hvs hone hold' hroom pI
           refine ⟨_,w',_,r7 hT hu LG uN hs Xs hc pI ty (by simp only [iq];exact hrun),?_,g2,g1⟩
           simp only [ah]
           refine ⟨_,b_ _ _ _,?_⟩
           simp only [Bool.false_eq_true,if_false,Nat.add_zero]
           rw [show len+n+(cap+i.x - (len+n))=cap+i.x by omega]
          ·obtain ⟨k1,k2⟩:=hr.kill l
           refine grow (cap+i.x) _ old (s.kill l) ?_ rfl k1 k2 hd0 hold pI
           intro l' o' hl'
           rw [AS.sJ] at hl'
           split at hl'
           ·cases hl'
           ·exact hl'
         ·cases h
        ·cases h
   ·cases h
 ·cases h
end
end Go.Am
end

section
namespace Go.Am
theorem bP.eS {γ:bM}:∀ {es:List (AV×AV×Nat)} {cs:List MapEntry},bP γ es cs↔es.length=cs.length∧∀ (i:Nat) k v n c,es[i]? = some (k,v,n)→cs[i]? = some c→ah γ k c.key∧ah γ v c.val∧c.born=n
 | [],cs=>by
  constructor
  ·intro h;obtain rfl:cs=[]:=h;simp
  ·intro ⟨h,_⟩;simp at h;exact List.length_eq_zero_iff.1 h.symm
 | (k,v,n)::es,cs=>by
  constructor
  ·intro h
   obtain ⟨d,ds,rfl,h1,h2,h3,hs⟩:=h
   obtain ⟨hl,hg⟩:=bP.eS.1 hs
   refine ⟨by simp [hl],fun i a b m c ha hb=>?_⟩
   cases i with
   | zero=>simp at ha hb;obtain ⟨rfl,rfl,rfl⟩:=ha;subst hb;exact ⟨h1,h2,h3⟩
   | succ i=>simp at ha hb;exact hg i a b m c ha hb
  ·intro ⟨hl,hg⟩
   cases cs with
   | nil=>simp at hl
   | cons d ds =>
    obtain ⟨h1,h2,h3⟩:=hg 0 k v n d rfl rfl
    exact ⟨d,ds,rfl,h1,h2,h3,bP.eS.2 ⟨by simpa using hl,fun i a b m c ha hb=>hg (i+1) a b m c (by simpa using ha) (by simpa using hb)⟩⟩
theorem bP.length {γ:bM} {es:List (AV×AV×Nat)} {cs:List MapEntry} (h:bP γ es cs):es.length=cs.length:=(bP.eS.1 h).1
theorem bP.append {γ:bM}:∀ {es fs:List (AV×AV×Nat)} {cs ds:List MapEntry},bP γ es cs→bP γ fs ds→bP γ (es++fs) (cs++ds)
 | [],fs,cs,ds,h,h'=>by obtain rfl:cs=[]:=h;exact h'
 | (k,v,n)::es,fs,cs,ds,h,h'=>by
  obtain ⟨d,es',rfl,h1,h2,h3,hs⟩:=h
  exact ⟨d,es'++ds,rfl,h1,h2,h3,bP.append hs h'⟩
theorem bP.set {γ:bM} {es:List (AV×AV×Nat)} {cs:List MapEntry} (h:bP γ es cs) (i:Nat) {k v:AV} {n:Nat} {e:MapEntry} (hk:ah γ k e.key) (hv:ah γ v e.val) (hn:e.born=n) :
  bP γ (es.set i (k,v,n)) (cs.set i e):=by
 obtain ⟨hl,hg⟩:=bP.eS.1 h
 refine bP.eS.2 ⟨by simp [hl],fun j a b m c ha hb=>?_⟩
 rw [List.getElem?_set] at ha hb
 by_cases hj:i=j
 ·subst hj;simp at ha hb;obtain ⟨_,rfl,rfl,rfl⟩:=ha;obtain ⟨_,rfl⟩:=hb;exact ⟨hk,hv,hn⟩
 ·simp [hj] at ha hb;exact hg j a b m c ha hb
theorem bP.erase {γ:bM}:∀ {es:List (AV×AV×Nat)} {cs:List MapEntry},bP γ es cs→∀ i,bP γ (es.eraseIdx i) (cs.eraseIdx i)
 | [],cs,h,i=>by obtain rfl:cs=[]:=h;simp [bP]
 | (k,v,n)::es,cs,h,i=>by
  obtain ⟨d,ds,rfl,h1,h2,h3,hs⟩:=h
  cases i with
  | zero=>simpa using hs
  | succ i=>simp only [List.eraseIdx_cons_succ];exact ⟨d,_,rfl,h1,h2,h3,bP.erase hs i⟩
theorem bP.get {γ:bM} {es:List (AV×AV×Nat)} {cs:List MapEntry} (h:bP γ es cs) {i:Nat} {k v:AV} {n:Nat} (he:es[i]? = some (k,v,n)):∃ c,cs[i]? = some c∧ah γ k c.key∧ah γ v c.val∧c.born=n:=by
 obtain ⟨hl,hg⟩:=bP.eS.1 h
 have hi:i<es.length:=by
  rcases Nat.lt_or_ge i es.length with h | h
  ·exact h
  ·simp [List.getElem?_eq_none h] at he
 have hc:=List.getElem?_eq_getElem (show i<cs.length by omega)
 exact ⟨_,hc,hg i k v n _ he hc⟩
theorem Xt (a b:List UInt8):((⟨a.toArray⟩:ByteArray)==⟨b.toArray⟩)=(a==b):=by show (a.toArray==b.toArray)=(a==b);rw [Bool.eq_iff_iff];simp
def aet (γ:bM) (r:Option (Nat×AV)) (cr:Option (Nat×Value)):Prop :=
 match r with
 | none=>cr=none
 | some (j,v)=>∃ cv,cr=some (j,cv)∧ah γ v cv
theorem Uz {γ:bM}:∀ (n:Nat) (x y:AV),zq n x y=true→∀ cx cy,ah γ x cx→ah γ y cy→∀ N,n≤N→Instr.sameBits N cx cy=true:=by
 intro n
 induction n with
 | zero =>
  intro x y h cx cy hx hy N _
  cases x <;> cases y <;> simp only [zq] at h <;> (first | (cases h;done) | (simp only [ah] at hx hy;subst hx hy))
  ·cases N <;> simpa [Instr.sameBits] using h
  ·cases N <;> simpa [Instr.sameBits] using h
  ·rename_i a b
   have:((ByteArray.mk a.toArray)==⟨b.toArray⟩)=true:=by rw [Xt];exact h
   cases N <;> simpa [Instr.sameBits] using this
 | succ n ih =>
  intro x y h cx cy hx hy N hN
  obtain ⟨N,rfl⟩:∃ N',N=N'+1:=⟨N - 1,by omega⟩
  cases x <;> cases y <;> simp only [zq] at h <;> (first | (cases h;done) | skip)
  ·simp only [ah] at hx hy;subst hx hy;simpa [Instr.sameBits] using h
  ·simp only [ah] at hx hy;subst hx hy;simpa [Instr.sameBits] using h
  ·rename_i a b
   simp only [ah] at hx hy;subst hx hy
   have:((ByteArray.mk a.toArray)==⟨b.toArray⟩)=true:=by rw [Xt];exact h
   simpa [Instr.sameBits] using this
  ·rename_i a b
   simp only [ah] at hx hy
   obtain ⟨ca,rfl,ha⟩:=hx
   obtain ⟨cb,rfl,hb⟩:=hy
   have key:∀ (a b:List AV) (ca cb:List Value),Ej (zq n) a b=true→ak γ a ca→ak γ b cb→ca.length=cb.length∧((ca.zip cb).all fun p=>Instr.sameBits N p.1 p.2)=true:=by
    intro a
    induction a with
    | nil =>
     intro b ca cb h1 h2 h3
     cases b with
     | nil=>obtain rfl:=ak.gQ.1 h2;obtain rfl:=ak.gQ.1 h3;simp
     | cons _ _=>simp [Ej] at h1
    | cons x xs ihx =>
     intro b ca cb h1 h2 h3
     cases b with
     | nil=>simp [Ej] at h1
     | cons y ys =>
      simp only [Ej,Bool.and_eq_true] at h1
      obtain ⟨d,ds,rfl,hd,hds⟩:=ak.cE.1 h2
      obtain ⟨f,fs,rfl,hf,hfs⟩:=ak.cE.1 h3
      obtain ⟨g1,g2⟩:=ihx ys ds fs h1.2 hds hfs
      have:=ih x y h1.1 d f hd hf N (by omega)
      exact ⟨by simp [g1],by simp only [List.zip_cons_cons,List.all_cons,this,g2,Bool.and_self]⟩
   obtain ⟨g1,g2⟩:=key a b _ _ h ha hb
   have g1':ca.size=cb.size:=by simpa using g1
   simp only [Instr.sameBits,Bool.and_eq_true,beq_iff_eq]
   exact ⟨g1',g2⟩
section
variable {P:Program} {T:TT} (hT:TT.Ok P T) {γ:bM} {w:World}
include hT
theorem uO (empty:Bool):∀ (d:Nat) (t:TypeId) (v:AV),nI T d t v=true→∀ cv,ah γ v cv→∀ D,d≤D→(Instr.checkKey empty D t cv).run P w=.ok () w:=by
 intro d
 induction d with
 | zero=>intro t v h;simp [nI] at h
 | succ d ih =>
  intro t v h cv hv D hD
  obtain ⟨D,rfl⟩:∃ D',D=D'+1:=⟨D - 1,by omega⟩
  unfold nI at h
  cases hu:T.cM t with
  | none=>simp [hu] at h
  | some td =>
   simp only [hu] at h
   simp only [Instr.checkKey,Sem.run_bind,run_underlying hT hu,Result.andThen_ok]
   cases td with
   | interface ms=>cases v <;> simp at h
   | array len elem =>
    cases v <;> simp only at h <;> first | (cases h;done) | skip
    rename_i cs
    simp only [ah] at hv;obtain ⟨Uu,rfl,hcs⟩:=hv
    cases hs:T.eN elem with
    | none=>simp [hs] at h
    | some n =>
     simp only [hs] at h
     simp only [Std.Legacy.Range.forIn_eq_forIn_range',Std.Legacy.Range.size,Nat.sub_zero,Nat.add_one_sub_one,Nat.div_one]
     generalize 0=i0 at h ⊢
     clear hu
     induction len generalizing i0 with
     | zero=>simp
     | succ len ihl =>
      simp only [G8,Bool.and_eq_true] at h
      obtain ⟨h1,h2⟩:=h
      cases ha:part T elem cs (i0*n) with
      | none=>simp [ha] at h1
      | some a =>
       simp only [ha] at h1
       obtain ⟨ca,hca,hra⟩:=oL hT hcs ha w
       have hrun:=ih _ _ h1 _ hra D (by omega)
       have:=ihl _ h2
       simp only [List.range'_succ,List.forIn_cons,Sem.run_bind,run_sizeOf hT hs,hca,hrun,Result.andThen_ok,Sem.run_pure] at this ⊢
       simpa using this
   | struct fields =>
    cases v <;> simp only at h <;> first | (cases h;done) | skip
    rename_i cs
    simp only [ah] at hv;obtain ⟨Uu,rfl,hcs⟩:=hv
    simp only [← Array.forIn_toList]
    clear hu
    generalize fields.toList=fs at h ⊢
    induction fs with
    | nil=>simp
    | cons f fs ihf =>
     simp only [CU,Bool.and_eq_true] at h
     obtain ⟨h1,h2⟩:=h
     have:=ihf h2
     by_cases hn : f.name ≠ "_"
     ·simp only [if_pos hn] at h1
      cases ha:part T f.type cs f.offset with
      | none=>simp [ha] at h1
      | some a =>
       simp only [ha] at h1
       obtain ⟨ca,hca,hra⟩:=oL hT hcs ha w
       have hrun:=ih _ _ h1 _ hra D (by omega)
       simp only [List.forIn_cons,Sem.run_bind,if_pos hn,hca,hrun,Result.andThen_ok,Sem.run_pure] at this ⊢
       simpa using this
     ·simp only [List.forIn_cons,Sem.run_bind,if_neg hn,Result.andThen_ok,Sem.run_pure] at this ⊢
      simpa using this
   | _=>rfl
theorem UA {kt:TypeId} {k:AV} {ck:Value} (hk:ah γ k ck):∀ (es:List (AV×AV×Nat)) (cs:List MapEntry) (i:Nat) (r:Option (Nat×AV)),bP γ es cs→wV T kt k es i=some r →
  ∃ cr,(Instr.findAsking kt ck cs i).run P w=.ok cr w∧aet γ r cr∧(∀ j v,r=some (j,v)→i≤j∧∃ k' n,es[j - i]? = some (k',v,n)):=by
 intro es
 induction es with
 | nil =>
  intro cs i r h hf
  obtain rfl:cs=[]:=h
  simp only [wV] at hf;obtain rfl:=Option.some.inj hf
  exact ⟨none,rfl,rfl,by simp⟩
 | cons e es ih =>
  obtain ⟨k',v,n⟩:=e
  intro cs i r h hf
  obtain ⟨c,cs',rfl,h1,h2,h3,hs⟩:=h
  simp only [wV] at hf
  split at hf
  ·rename_i hq
   obtain rfl:=Option.some.inj hf
   have:=GA hT w _ _ _ _ _ hq _ _ hk h1 Op.maxDepth (by decide)
   refine ⟨some (i,c.val),by simp [Instr.findAsking,Op.equal,this],⟨_,rfl,h2⟩,?_⟩
   intro j v' e
   obtain ⟨rfl,rfl⟩:_∧_:=by simpa using e
   exact ⟨Nat.le_refl _,k',n,by simp⟩
  ·rename_i hq
   have hrun:=GA hT w _ _ _ _ _ hq _ _ hk h1 Op.maxDepth (by decide)
   obtain ⟨cr,UB,gw,hidx⟩:=ih cs' (i+1) r hs hf
   refine ⟨cr,by simp [Instr.findAsking,Op.equal,hrun,UB],gw,?_⟩
   intro j v' e
   obtain ⟨hle,k2,n2,hg⟩:=hidx j v' e
   refine ⟨by omega,k2,n2,?_⟩
   rw [show j - i=(j - (i+1))+1 by omega];simpa using hg
  ·cases hf
theorem Es {kt:TypeId} {td:TypeDesc} (hu:T.cM kt=some td) (ck:Value):∀ (cs:List MapEntry) (i:Nat) (r:Option (Nat×Value)),Instr.findNow td ck cs i=some r→(Instr.findAsking kt ck cs i).run P w=.ok r w
 | [],i,r,h=>by simp only [Instr.findNow] at h;obtain rfl:=Option.some.inj h;rfl
 | c::cs,i,r,h=>by
  simp only [Instr.findNow] at h
  have hs:∀ b,Instr.sameNow td ck c.key=some b→(Op.equal kt ck c.key).run P w=.ok b w:=by
   intro b hb
   unfold Instr.sameNow at hb
   obtain ⟨D,hD⟩:∃ D,Op.maxDepth=D+1:=⟨9999,rfl⟩
   rw [Op.equal,hD]
   split at hb
   ·split at hb
    ·rename_i k a k' b' _ _ hk
     obtain rfl:=Option.some.inj hb
     simp only [Op.equalIn,Sem.run_bind,run_underlying hT hu,Result.andThen_ok, *]
     simp
    ·cases hb
   ·obtain rfl:=Option.some.inj hb
    simp only [Op.equalIn,Sem.run_bind,run_underlying hT hu,Result.andThen_ok, *]
    rfl
   ·obtain rfl:=Option.some.inj hb
    simp only [Op.equalIn,Sem.run_bind,run_underlying hT hu,Result.andThen_ok, *]
    rfl
   ·cases hb
  split at h
  ·rename_i hq
   obtain rfl:=Option.some.inj h
   simp [Instr.findAsking,hs true hq]
  ·rename_i hq
   simp [Instr.findAsking,hs false hq,Es hu ck cs (i+1) r h]
  ·cases h
theorem xg {kt:TypeId} {td:TypeDesc} (hu:T.cM kt=some td) {k:AV} {ck:Value} (hk:ah γ k ck) {es:List (AV×AV×Nat)} {cs:List MapEntry} {r:Option (Nat×AV)} (h:bP γ es cs) (hf:wV T kt k es 0=some r) :
  ∃ cr,(Instr.findKey kt ck cs).run P w=.ok cr w∧aet γ r cr∧(∀ j v,r=some (j,v)→∃ k' n,es[j]? = some (k',v,n)):=by
 obtain ⟨cr,h1,h2,h3⟩:=UA hT (w:=w) hk es cs 0 r h hf
 refine ⟨cr,?_,h2,fun j v e=>by obtain ⟨_,k',n,hg⟩:=h3 j v e;exact ⟨k',n,by simpa using hg⟩⟩
 simp only [Instr.findKey,Sem.run_bind,run_underlying hT hu,Result.andThen_ok]
 cases hq:Instr.findNow td ck cs 0 with
 | none=>exact h1
 | some r' =>
  have:=Es hT (w:=w) hu ck cs 0 r' hq
  rw [h1] at this
  cases this
  rfl
theorem Ob {B:Nat} {s:AS} (hr:Rel B γ s w) {t:TypeId} {m k v:AV} {cm ck:Value} {ok:Bool} (hm:ah γ m cm) (hk:ah γ k ck) (h:dI T t m k ok s=some v) :
  ∃ c,(Instr.lookup t cm ck ok).run P w=.ok c w∧ah γ v c:=by
 unfold dI at h
 split at h
 ·rename_i kt et r hu
  split at h
  ·rename_i hok
   simp only [Option.bind_eq_some_iff,Option.map_eq_some_iff] at h
   obtain ⟨es,CX,fr,hfr,⟨u,b⟩,hub,rfl⟩:=h
   obtain ⟨td,Xu⟩:∃ td,T.cM kt=some td:=by
    unfold nI at hok
    cases hq:T.cM kt with
    | none=>simp [hq] at hok
    | some td=>exact ⟨td,rfl⟩
   have main:∀ (mh:Array MapEntry),bP γ es mh.toList→((cm=.map none∧mh=#[])∨∃ b KJ,cm=.map (some b)∧w.heap[b]? = some (.map mh KJ)) →
     ∃ c,(Instr.lookup t cm ck ok).run P w=.ok c w∧ah γ (if ok then .aQ [u,.bool b] else u) c:=by
    intro mh hce hform
    obtain ⟨cr,UB,gw,_⟩:=xg hT (w:=w) Xu hk hce hfr
    have hkey:=uO hT (w:=w) mh.isEmpty 100 kt k hok ck hk 10000 (by decide)
    have hres:(∃ cu,cr=none∧b=false∧(zeroValue et).run P w=.ok cu w∧ah γ u cu)∨(∃ j cu,cr=some (j,cu)∧b=true∧ah γ u cu):=by
     cases fr with
     | none =>
      obtain rfl:cr=none:=gw
      simp only [Option.map_eq_some_iff] at hub
      obtain ⟨z,hz,e⟩:=hub
      obtain ⟨rfl,rfl⟩:_∧_:=by simpa using e
      obtain ⟨cz,zv,NJ⟩:=iF hT hz w
      exact .inl ⟨cz,rfl,rfl,zv,NJ γ⟩
     | some jv =>
      obtain ⟨j,v'⟩:=jv
      obtain ⟨cv,rfl,AY⟩:=gw
      obtain ⟨rfl,rfl⟩:_∧_:=by simpa using hub
      exact .inr ⟨j,cv,rfl,rfl,AY⟩
    have fin:∀ cu,ah γ u cu→ah γ (if ok then .aQ [u,.bool b] else u) (if ok then .tuple #[cu,.bool b] else cu):=by
     intro cu Tw
     cases ok
     ·exact Tw
     ·simp only [if_true,ah]
      exact ⟨_,rfl,ak.cons Tw (ak.cons (by simp [ah]) ak.nil)⟩
    rcases hform with ⟨rfl,rfl⟩ | ⟨bk,KJ,rfl,hb⟩
    ·have abV:(Instr.checkKey true 10000 kt ck).run P w=.ok () w:=hkey
     have aeu:(Instr.findKey kt ck []).run P w=.ok cr w:=UB
     rcases hres with ⟨cu,rfl,rfl,hz,Tw⟩ | ⟨j,cu,rfl,rfl,Tw⟩
     ·exact ⟨_,by simp [Instr.lookup,run_underlying hT hu,abV,aeu,hz],fin cu Tw⟩
     ·exact ⟨_,by simp [Instr.lookup,run_underlying hT hu,abV,aeu],fin cu Tw⟩
    ·have hg:(getObj bk).run P w=.ok (.map mh KJ) w:=by simp [getObj,Sem.run,hb]
     rcases hres with ⟨cu,rfl,rfl,hz,Tw⟩ | ⟨j,cu,rfl,rfl,Tw⟩
     ·exact ⟨_,by simp [Instr.lookup,run_underlying hT hu,hg,hkey,UB,hz],fin cu Tw⟩
     ·exact ⟨_,by simp [Instr.lookup,run_underlying hT hu,hg,hkey,UB],fin cu Tw⟩
   cases r with
   | none =>
    simp only [ah] at hm;subst hm
    obtain rfl:=Option.some.inj CX
    exact main #[] rfl (.inl ⟨rfl,rfl⟩)
   | some l =>
    simp only [ah] at hm
    obtain ⟨i,hi,rfl⟩:=hm
    simp only at CX
    split at CX
    ·rename_i es' KJ ro hl
     obtain rfl:=Option.some.inj CX
     obtain ⟨j,hj,⟨mh,hb,hce⟩,_⟩:=hr.obj l _ hl
     rw [hi] at hj;obtain rfl:=Option.some.inj hj
     exact main mh hce (.inr ⟨_,_,rfl,hb⟩)
    ·cases CX
  ·cases h
 ·cases h
theorem uP {b:Nat} {mh:Array MapEntry} {KJ:Nat} {o:Obj} (hb:w.heap[b]? = some (.map mh KJ)):(setObj b o).run P w=.ok () { w with heap:=w.heap.setIfInBounds b o }:=by
 simp [setObj,Sem.run,hb]
theorem yC {B:Nat} {s:AS} (hr:Rel B γ s w) {l:Nat} {es es':List (AV×AV×Nat)} {KJ Jq:Nat} {i:CI} {LJ:Array MapEntry} (hl:s.h l=some (.map es KJ false)) (hi:γ l=some i) (he:bP γ es' LJ.toList) :
  fJ B γ s w γ (s.put l (.map es' Jq false)) { w with heap:=w.heap.setIfInBounds i.b (.map LJ Jq) }∧Rel B γ (s.put l (.map es' Jq false)) { w with heap:=w.heap.setIfInBounds i.b (.map LJ Jq) }:=by
 obtain ⟨j,hj,hO,_⟩:=hr.obj l _ hl
 rw [hi] at hj;obtain rfl:=Option.some.inj hj
 have hlt:=hO.lt
 obtain ⟨h1,h2⟩:=hr.write (w':={ w with heap:=w.heap.setIfInBounds i.b (.map LJ Jq) }) hl rfl (o':=.map es' Jq false) rfl hi rfl ⟨LJ,by simp [hlt],he⟩
 exact ⟨h2,h1⟩
theorem xh {B:Nat} {s s':AS} (hr:Rel B γ s w) {t:TypeId} {m k v:AV} {cm ck cv:Value} (hm:ah γ m cm) (hk:ah γ k ck) (hv:ah γ v cv) (h:dN T t m k v s=some s') :
  acn P B γ s w (Instr.mapUpdate t cm ck cv) s':=by
 unfold dN at h
 split at h
 ·rename_i kt et l hu
  simp only [ah] at hm
  obtain ⟨i,hi,rfl⟩:=hm
  split at h
  ·rename_i es KJ hl
   obtain ⟨j,hj,⟨mh,hb,hce⟩,_⟩:=hr.obj l _ hl
   rw [hi] at hj;obtain rfl:=Option.some.inj hj
   split at h
   ·rename_i hok
    simp only [Option.bind_eq_some_iff] at h
    obtain ⟨fr,hfr,h⟩:=h
    obtain ⟨td,Xu⟩:∃ td,T.cM kt=some td:=by
     unfold nI at hok
     cases hq:T.cM kt with
     | none=>simp [hq] at hok
     | some td=>exact ⟨td,rfl⟩
    obtain ⟨cr,UB,gw,hidx⟩:=xg hT (w:=w) Xu hk hce hfr
    have hkey:=uO hT (w:=w) false 100 kt k hok ck hk 10000 (by decide)
    have hg:(getObj i.b).run P w=.ok (.map mh KJ) w:=by simp [getObj,Sem.run,hb]
    cases fr with
    | none =>
     obtain rfl:cr=none:=gw
     simp only at h
     obtain rfl:=Option.some.inj h
     obtain ⟨g1,g2⟩:=yC hT hr (Jq:=KJ+1) (es':=es++[(k,v,KJ)]) (LJ:=mh.push { key:=ck,val:=cv,born:=KJ }) hl hi (by rw [Array.toList_push];exact hce.append ⟨_,_,rfl,hk,hv,rfl,rfl⟩)
     exact ⟨γ,_,by simp [Instr.mapUpdate,run_underlying hT hu,hg,hkey,UB,uP hT hb],g1,g2⟩
    | some jv =>
     obtain ⟨j,v'⟩:=jv
     obtain ⟨cv',rfl,agM⟩:=gw
     obtain ⟨k',n,hgj⟩:=hidx j v' rfl
     simp only [hgj] at h
     split at h
     ·rename_i aew
      obtain rfl:=Option.some.inj h
      obtain ⟨c,hc,WD,zu,hc3⟩:=hce.get hgj
      have rN:mh[j]? = some c:=by simpa using hc
      have hsame:=Uz 100 k' k aew _ _ WD hk 10000 (by decide)
      have aex:(Instr.keyThatStays (((mh[j]?).map (·.key)).getD ck) ck).run P w=.ok ck w:=by
       rw [rN];simp only [Option.map_some,Option.getD_some,Instr.keyThatStays,hsame,if_true];rfl
      have hmod:(mh.modify j fun e=>{ e with key:=ck,val:=cv }).toList=mh.toList.set j { key:=ck,val:=cv,born:=c.born }:=by
       apply List.ext_getElem?
       intro q
       rw [Array.getElem?_toList,Array.getElem?_modify,List.getElem?_set]
       have hjl:j<mh.toList.length:=by
        rcases Nat.lt_or_ge j mh.toList.length with h | h
        ·exact h
        ·simp [List.getElem?_eq_none h] at hc
       by_cases hjq:j=q
       ·subst hjq;simp only [if_true,if_pos hjl,rN,Option.map_some]
       ·simp only [if_neg hjq];simp
      obtain ⟨g1,g2⟩:=yC hT hr (Jq:=KJ) (es':=es.set j (k,v,n)) (LJ:=mh.modify j fun e=>{ e with key:=ck,val:=cv }) hl hi (by rw [hmod];exact hce.set j hk hv hc3)
      exact ⟨γ,_,by simp [Instr.mapUpdate,run_underlying hT hu,hg,hkey,UB,aex,uP hT hb],g1,g2⟩
     ·cases h
   ·cases h
  ·cases h
 ·cases h
theorem Oc {B:Nat} {s s':AS} (hr:Rel B γ s w) {t xt:TypeId} {m k:AV} {cm ck:Value} (hm:ah γ m cm) (hk:ah γ k ck) (h:qp T t m k s=some s') (ty:TypeId) :
  ∃ γ' w',(Builtin.delete_ #[t,xt] ty #[cm,ck]).run P w=.ok undef w'∧fJ B γ s w γ' s' w'∧Rel B γ' s' w':=by
 unfold qp at h
 split at h
 ·rename_i kt et r hu
  split at h
  ·rename_i hok
   obtain ⟨td,Xu⟩:∃ td,T.cM kt=some td:=by
    unfold nI at hok
    cases hq:T.cM kt with
    | none=>simp [hq] at hok
    | some td=>exact ⟨td,rfl⟩
   cases r with
   | none =>
    simp only [ah] at hm;subst hm
    obtain rfl:=Option.some.inj h
    have hkey:=uO hT (w:=w) true 100 kt k hok ck hk 10000 (by decide)
    exact ⟨γ,w,by simp [Builtin.delete_,run_underlying hT hu,hkey];rfl,fJ.refl,hr⟩
   | some l =>
    simp only [ah] at hm
    obtain ⟨i,hi,rfl⟩:=hm
    simp only at h
    split at h
    ·rename_i es KJ hl
     obtain ⟨j,hj,⟨mh,hb,hce⟩,_⟩:=hr.obj l _ hl
     rw [hi] at hj;obtain rfl:=Option.some.inj hj
     simp only [Option.map_eq_some_iff] at h
     obtain ⟨fr,hfr,rfl⟩:=h
     obtain ⟨cr,UB,gw,hidx⟩:=xg hT (w:=w) Xu hk hce hfr
     have hkey:=uO hT (w:=w) mh.isEmpty 100 kt k hok ck hk 10000 (by decide)
     have hg:(getObj i.b).run P w=.ok (.map mh KJ) w:=by simp [getObj,Sem.run,hb]
     cases fr with
     | none =>
      obtain rfl:cr=none:=gw
      obtain ⟨g1,g2⟩:=yC hT hr (Jq:=KJ) (es':=es) (LJ:=mh) hl hi hce
      exact ⟨γ,_,by simp [Builtin.delete_,run_underlying hT hu,hg,hkey,UB,uP hT hb];rfl,g1,g2⟩
     | some jv =>
      obtain ⟨j,v'⟩:=jv
      obtain ⟨cv',rfl,agM⟩:=gw
      have he:(mh.eraseIdxIfInBounds j).toList=mh.toList.eraseIdx j:=by simp
      obtain ⟨g1,g2⟩:=yC hT hr (Jq:=KJ) (es':=es.eraseIdx j) (LJ:=mh.eraseIdxIfInBounds j) hl hi (by rw [he];exact hce.erase j)
      exact ⟨γ,_,by simp [Builtin.delete_,run_underlying hT hu,hg,hkey,UB,uP hT hb];rfl,g1,g2⟩
    ·cases h
  ·cases h
 ·cases h
end
end Go.Am
end

section
namespace Go.Am
theorem xj {P:Program} {γ:bM} {w:World} {f:Value→ByteArray→Sem (ForInStep ByteArray)} (hf:∀ n s,f (.int .u8 n) s=pure (ForInStep.yield (s.push (UInt8.ofNat n.toNat)))) :
  ∀ (cs:List AV) (Uu:List Value) (bs:List UInt8) (acc:ByteArray),ak γ cs Uu→zG cs=some bs→(forIn Uu acc f).run P w=.ok ⟨(acc.data.toList++bs).toArray⟩ w
 | [],Uu,bs,acc,h,hb=>by
  obtain rfl:=ak.gQ.1 h
  simp only [zG] at hb;obtain rfl:=Option.some.inj hb
  simp
 | c::cs,Uu,bs,acc,h,hb=>by
  obtain ⟨d,ds,rfl,hd,hs⟩:=ak.cE.1 h
  unfold zG at hb
  split at hb
  ·cases ‹_::_=[]›
  ·rename_i b cs' e
   obtain ⟨rfl,rfl⟩:_∧_:=by simpa using e
   simp only [Option.map_eq_some_iff] at hb
   obtain ⟨l,hl,rfl⟩:=hb
   simp only [ah] at hd;subst hd
   have:=xj (P:=P) (w:=w) hf cs ds l (acc.push (UInt8.ofNat b.toNat)) hs hl
   simp only [List.forIn_cons,hf,Sem.run_bind,Sem.run_pure,Result.andThen_ok]
   rw [this]
   simp [ByteArray.push]
  ·cases hb
theorem Bc {P:Program} {w w1:World} {c:Array Value} {e:TypeId} (h1:w1.heap=w.heap.push (.cells c e)) :
  (markStringish ⟨w.heap.size,0,none⟩).run P w1=.ok () { w1 with heap:=w.heap.push (.cells c e (c.size,c.size+1)) }:=by
 have hg:w1.heap[w.heap.size]? = some (.cells c e):=by rw [h1];simp
 simp only [markStringish,Sem.run_bind,run_shape,World.shape?,hg,Result.andThen_ok,run_freeze]
 congr 1
 simp only [World.freeze,Nat.one_ne_zero,if_false]
 congr 1
 apply Array.ext_getElem?
 intro i
 rw [Array.getElem?_modify,h1,Array.getElem?_push,Array.getElem?_push]
 by_cases hi:w.heap.size=i
 ·subst hi;simp
 ·rw [if_neg hi,if_neg (fun e=>hi e.symm),if_neg (fun e=>hi e.symm)]
section
variable {P:Program} {T:TT} (hT:TT.Ok P T) {B:Nat} {γ:bM} {s:AS} {w:World} (hr:Rel B γ s w)
include hT hr
theorem LL {src dst:TypeId} {x v:AV} {cx:Value} {s':AS} (hx:ah γ x cx) (h:cP T src dst x s=some (v,s')):zI P B γ s w (convert src dst cx) v s':=by
 unfold cP at h
 split at h
 ·rename_i sd k k' n LM Rh
  obtain ⟨rfl,rfl⟩:_∧_:=by simpa using h
  simp only [ah] at hx;subst hx
  refine zI.val hr (cv:=.int k (k.wrap n)) ?_ (by simp [ah])
  simp only [convert,Sem.run_bind,run_underlying hT LM,run_underlying hT Rh,Result.andThen_ok,Conv.intToInt]
  cases sd <;> rfl
 ·rename_i sd b LM Rh
  obtain ⟨rfl,rfl⟩:_∧_:=by simpa using h
  have WC:=hx
  simp only [ah] at hx;subst hx
  refine zI.val hr (cv:=.string ⟨b.toArray⟩) ?_ WC
  simp only [convert,Sem.run_bind,run_underlying hT LM,run_underlying hT Rh,Result.andThen_ok]
  cases sd <;> rfl
 ·rename_i sd e b LM Rh
  simp only [ah] at hx;subst hx
  split at h
  ·rename_i he
   obtain ⟨rfl,rfl⟩:_∧_:=by simpa using h
   let q:Question:=.appendCap (ByteArray.mk b.toArray).size 0 e
   let cap:=q.cut (w.tape w.drawn q)
   have hcap:b.length≤cap:=by
    have:(ByteArray.mk b.toArray).size=b.length:=by simp [ByteArray.size]
    show b.length≤(ByteArray.mk b.toArray).size+_
    omega
   let c0:Array Value:=(b.toArray.map fun x=>Value.int .u8 x.toNat)++Array.replicate (cap - b.length) (.int .u8 0)
   have hc0:∀ (k:Nat) (v:AV),(b.map fun c=>AV.int .u8 c.toNat)[k]? = some v→v.one=true∧∃ cv,c0[k]? = some cv∧ah γ v cv:=by
    intro k v hk
    simp only [List.getElem?_map] at hk
    cases hb:b[k]? with
    | none=>simp [hb] at hk
    | some u =>
     simp only [hb,Option.map_some] at hk
     obtain rfl:=Option.some.inj hk
     refine ⟨rfl,.int .u8 u.toNat,?_,by simp [ah]⟩
     have hlt:k<b.length:=by
      rcases Nat.lt_or_ge k b.length with h | h
      ·exact h
      ·simp [List.getElem?_eq_none h] at hb
     have hkb:b[k]=u:=by simpa [List.getElem?_eq_getElem hlt] using hb
     show ((b.toArray.map fun x=>Value.int .u8 x.toNat)++Array.replicate (cap - b.length) (.int .u8 0))[k]? = _
     rw [Array.getElem?_append_left (by simpa using hlt)]
     simp [hlt,hkb]
   have hsz:c0.size=b.length+(cap - b.length):=by simp [c0]
   have hct:∀ k,(b.map fun x=>AV.int .u8 x.toNat).length≤k→k<c0.size→∃ v cv,v.one=true∧c0[k]? = some cv∧ah γ v cv:=by
    intro k hk hk'
    simp only [List.length_map] at hk
    refine ⟨.int .u8 0,.int .u8 0,rfl,?_,by simp [ah]⟩
    show ((b.toArray.map fun x=>Value.int .u8 x.toNat)++Array.replicate (cap - b.length) (.int .u8 0))[k]? = _
    rw [Array.getElem?_append_right (by simpa using hk)]
    rw [Array.getElem?_replicate,if_pos (by simp at hk' ⊢;omega)]
   obtain ⟨g1,g2⟩:=hr.wY (w':={ w with heap:=w.heap.push (.cells c0 e (c0.size,c0.size+1)),drawn:=w.drawn+1 }) (g:=1) (x:=cap - b.length) (e:=e) (c:=c0) hc0 (fun _=>⟨by simp [hsz],hct⟩) (c0.size,c0.size+1) (by intro o ho h;simp at h;omega) (fun h=>absurd rfl h) (Nat.le_succ _) rfl
   refine ⟨_,_,.slice (some ⟨w.heap.size,0,none⟩) b.length cap,?_,?_,g2,g1⟩
   ·have aco:(ByteArray.mk b.toArray).size=b.length:=by simp [ByteArray.size]
    have AY:(convert src dst (.string ⟨b.toArray⟩)).run P w=(Conv.stringToBytes e ⟨b.toArray⟩).run P w:=by
     simp only [convert,Sem.run_bind,run_underlying hT LM,run_underlying hT Rh,Result.andThen_ok]
     cases sd <;> simp only [Sem.run_bind,run_underlying hT he,Result.andThen_ok]
    rw [AY]
    have hf:q.forced=false:=rfl
    simp only [Conv.stringToBytes,Sem.run_bind,run_choose]
    rw [show (Question.appendCap (ByteArray.mk b.toArray).size 0 e).forced=false from rfl]
    simp only [Bool.false_eq_true,if_false,Result.andThen_ok,je,Sem.run_bind]
    have WD:(Array.map (fun x=>Value.int IntKind.u8 ↑(UInt8.toNat x)) (ByteArray.mk b.toArray).data++Array.replicate (cap - (ByteArray.mk b.toArray).size) (Value.int IntKind.u8 0))=c0:=by
     rw [aco]
    change ((Sem.run P (markStringish ⟨w.heap.size,0,none⟩) { w with heap:=w.heap.push (.cells (Array.map (fun x=>Value.int IntKind.u8 ↑(UInt8.toNat x)) (ByteArray.mk b.toArray).data++Array.replicate (cap - (ByteArray.mk b.toArray).size) (Value.int IntKind.u8 0)) e),drawn:=w.drawn+1 }).andThen _)=_
    rw [WD,Bc (w:=w) (c:=c0) (e:=e) rfl]
    simp only [Result.andThen_ok,Sem.run_pure,aco]
    rfl
   ·simp only [ah]
    exact ⟨_,b_ _ _ _,by simp;omega⟩
  ·cases h
 ·rename_i e n m ex LM Rh
  simp only [ah] at hx;obtain ⟨rfl,_⟩:=hx
  split at h
  ·rename_i he
   split at h
   ·obtain ⟨rfl,rfl⟩:_∧_:=by simpa using h
    refine zI.val hr (cv:=.string .empty) ?_ (by simp [ah];rfl)
    simp [convert,run_underlying hT LM,run_underlying hT Rh,run_underlying hT he,Conv.bytesToString]
   ·cases h
  ·cases h
 ·rename_i e LM Rh
  simp only [ah] at hx;obtain ⟨a,m,rfl⟩:=hx
  split at h
  ·rename_i he
   obtain ⟨rfl,rfl⟩:_∧_:=by simpa using h
   refine zI.val hr (cv:=.string .empty) ?_ (by simp [ah];rfl)
   simp [convert,run_underlying hT LM,run_underlying hT Rh,run_underlying hT he,Conv.bytesToString,loadCells,loadCellsFrom]
  ·cases h
 ·rename_i e l o n m ex LM Rh
  simp only [ah] at hx;obtain ⟨i,hi,rfl⟩:=hx
  split at h
  ·rename_i he
   by_cases hn0:n=0
   ·rw [if_pos hn0] at h
    subst hn0
    obtain ⟨rfl,rfl⟩:_∧_:=by simpa using h
    refine zI.val hr (cv:=.string .empty) ?_ (by simp [ah];rfl)
    simp [convert,run_underlying hT LM,run_underlying hT Rh,run_underlying hT he,Conv.bytesToString,loadCells,loadCellsFrom]
   rw [if_neg hn0] at h
   simp only [Option.bind_eq_some_iff,Option.map_eq_some_iff] at h
   obtain ⟨cs,hcs,bs,hbs,e'⟩:=h
   obtain ⟨rfl,rfl⟩:_∧_:=by simpa using e'
   obtain ⟨j,c,hj,hrun,hvs,_⟩:=mj hT hr hcs
   rw [hi] at hj;obtain rfl:=Option.some.inj hj
   refine zI.val hr (cv:=.string ⟨bs.toArray⟩) ?_ (by simp [ah])
   simp only [convert,Sem.run_bind,run_underlying hT LM,run_underlying hT Rh,run_underlying hT he,Result.andThen_ok,Conv.bytesToString,hrun]
   rw [← Array.forIn_toList,xj (P:=P) (w:=w) (fun _ _=>rfl) cs c.toList bs .empty hvs hbs]
   simp
  ·cases h
 ·rename_i e0 e l o n m ex LM Rh
  split at h
  ·rename_i hsd
   split at h
   ·rename_i cs he hl
    obtain ⟨rfl,rfl⟩:_∧_:=by simpa using h
    have WC:=hx
    simp only [ah] at hx;obtain ⟨i,hi,rfl⟩:=hx
    obtain ⟨i',hi',hO,_⟩:=hr.obj l _ hl
    rw [hi] at hi';obtain rfl:=Option.some.inj hi'
    have hlt:=hO.lt
    obtain ⟨c,e2,fz,hb,hc,hf,hg,Ts⟩:=hO
    let fz':Nat×Nat:=if fz.1==fz.2 then (c.size,c.size+1) else (min fz.1 c.size,max fz.2 (c.size+1))
    have hfz:(∀ o,o<c.size→¬ (fz'.1≤o∧o<fz'.2))∧fz'.1≤fz'.2:=by
     have h1:=hf rfl
     have h2:=(Ts rfl).2
     by_cases hq:fz.1=fz.2
     ·simp only [fz',hq,beq_self_eq_true,if_true]
      exact ⟨fun o ho h=>by omega,by omega⟩
     ·have Xv:(fz.1==fz.2)=false:=by simpa using hq
      simp only [fz',Xv,Bool.false_eq_true,if_false]
      have:c.size≤fz.1:=by
       rcases Nat.lt_or_ge fz.1 c.size with h | h
       ·exact absurd ⟨Nat.le_refl _,by omega⟩ (h1 _ h)
       ·exact h
      exact ⟨fun o ho h=>by omega,by omega⟩
    let w':World:={ w with heap:=w.heap.setIfInBounds i.b (.cells c e2 fz') }
    have hO':k_ γ w' i (.cells cs 1 false):=⟨c,e2,fz',by simp [w',hlt],hc,fun _=>hfz.1,hg,fun _=>⟨fun h=>absurd rfl h,hfz.2⟩⟩
    obtain ⟨g1,g2⟩:=hr.same (w':=w') hl rfl hi rfl hO'
    refine ⟨_,_,_,?_,WC,g2,g1⟩
    subst hsd
    have hfr:w.freeze ⟨i.b,c.size,none⟩ 1=w':=by
     simp only [World.freeze,Nat.one_ne_zero,if_false,w']
     congr 1
     apply Array.ext_getElem?
     intro k
     rw [Array.getElem?_modify,Array.getElem?_setIfInBounds]
     by_cases hk:i.b=k
     ·subst hk;rw [if_pos rfl,if_pos rfl,if_pos hlt,hb];rfl
     ·rw [if_neg hk,if_neg hk]
    obtain rfl:e0=e:=by rw [LM] at Rh;simpa using Rh
    simp only [convert,Sem.run_bind,run_underlying hT LM,run_underlying hT he,Result.andThen_ok,beq_self_eq_true,markStringish,run_shape,World.shape?,hb,run_freeze,hfr]
    rfl
   ·cases h
  ·cases h
 ·cases h
theorem UC {t xt:TypeId} {x v:AV} {cx:Value} (hx:ah γ x cx) (h:aP T t x s=some v) (ts:List TypeId) (rest:List Value) (ty:TypeId) :
  ∃ c,(Builtin.len_ (t::ts).toArray ty (cx::rest).toArray).run P w=.ok c w∧ah γ v c:=by
 unfold aP at h
 simp only [Builtin.len_,List.getElem?_toArray,List.getElem?_cons_zero]
 split at h
 ·rename_i b hu
  obtain rfl:=Option.some.inj h
  simp only [ah] at hx;subst hx
  exact ⟨.int .i64 b.length,by simp only [Sem.run_bind,run_underlying hT hu,Result.andThen_ok,Sem.run_pure,goInt,ByteArray.size,List.size_toArray],by simp only [ah]⟩
 ·rename_i n e hu
  obtain rfl:=Option.some.inj h
  exact ⟨.int .i64 n,by simp [run_underlying hT hu,goInt],by simp [ah]⟩
 ·rename_i e a n c ex hu
  obtain rfl:=Option.some.inj h
  refine ⟨.int .i64 n,?_,by simp [ah]⟩
  cases a with
  | none=>simp only [ah] at hx;obtain ⟨rfl,_⟩:=hx;simp [run_underlying hT hu,goInt]
  | some a=>obtain ⟨l,o⟩:=a;simp only [ah] at hx;obtain ⟨i,_,rfl⟩:=hx;simp [run_underlying hT hu,goInt]
 ·rename_i e hu
  obtain rfl:=Option.some.inj h
  simp only [ah] at hx;obtain ⟨a,m,rfl⟩:=hx
  exact ⟨.int .i64 0,by simp [run_underlying hT hu,goInt],by simp [ah]⟩
 ·rename_i k e hu
  obtain rfl:=Option.some.inj h
  simp only [ah] at hx;subst hx
  exact ⟨.int .i64 0,by simp [run_underlying hT hu,goInt],by simp [ah]⟩
 ·rename_i k e l hu
  simp only [ah] at hx;obtain ⟨i,hi,rfl⟩:=hx
  split at h
  ·rename_i es KJ ro hl
   obtain rfl:=Option.some.inj h
   obtain ⟨j,hj,⟨mh,hb,hce⟩,_⟩:=hr.obj l _ hl
   rw [hi] at hj;obtain rfl:=Option.some.inj hj
   have hlen:=hce.length
   simp only [Array.length_toList] at hlen
   have hg:(getObj i.b).run P w=.ok (.map mh KJ) w:=by simp [getObj,Sem.run,hb]
   exact ⟨.int .i64 mh.size,by simp only [Sem.run_bind,run_underlying hT hu,hg,goInt,Result.andThen_ok,Sem.run_pure],by rw [hlen];simp only [ah]⟩
  ·cases h
 ·cases h
theorem UD {t:TypeId} {x v:AV} {cx:Value} (hx:ah γ x cx) (h:wW T t x=some v) (ts:List TypeId) (rest:List Value) (ty:TypeId) :
  ∃ c,(Builtin.cap_ (t::ts).toArray ty (cx::rest).toArray).run P w=.ok c w∧ah γ v c:=by
 unfold wW at h
 simp only [Builtin.cap_,List.getElem?_toArray,List.getElem?_cons_zero]
 split at h
 ·rename_i e a n c hu
  obtain rfl:=Option.some.inj h
  refine ⟨.int .i64 c,?_,by simp [ah]⟩
  cases a with
  | none=>simp only [ah] at hx;obtain ⟨rfl,_⟩:=hx;simp [run_underlying hT hu,goInt]
  | some a=>obtain ⟨l,o⟩:=a;simp only [ah] at hx;obtain ⟨i,_,rfl⟩:=hx;simp [run_underlying hT hu,goInt]
 ·cases h
theorem Ri {t:TypeId} {x:AV} {cx:Value} {s':AS} (hx:ah γ x cx) (h:LB T t x s=some s') (ts:List TypeId) (rest:List Value) (ty:TypeId) :
  zI P B γ s w (Builtin.clear_ (t::ts).toArray ty (cx::rest).toArray) .undef s':=by
 unfold LB at h
 simp only [Builtin.clear_,List.getElem?_toArray,List.getElem?_cons_zero]
 have LN:∀ γ,ah γ AV.undef (.tuple #[]):=by intro γ;simp only [ah];exact ⟨_,rfl,ak.nil⟩
 split at h
 ·rename_i e n m ex hu
  obtain rfl:=Option.some.inj h
  simp only [ah] at hx;obtain ⟨rfl,_⟩:=hx
  exact zI.val hr (by simp [run_underlying hT hu]) (LN _)
 ·rename_i e hu
  obtain rfl:=Option.some.inj h
  simp only [ah] at hx;obtain ⟨a,m,rfl⟩:=hx
  exact zI.val hr (by simp [run_underlying hT hu]) (LN _)
 ·rename_i e l o n m ex hu
  simp only [ah] at hx;obtain ⟨i,hi,rfl⟩:=hx
  split at h
  ·rename_i h0;subst h0
   obtain rfl:=Option.some.inj h
   exact zI.val hr (by simp [run_underlying hT hu]) (LN _)
  ·rename_i h0
   simp only [Option.bind_eq_some_iff] at h
   obtain ⟨z,hz,zc,EU,h⟩:=h
   obtain ⟨rfl,hone⟩:=fq EU
   obtain ⟨cz,LF,NJ⟩:=iF hT hz w
   obtain ⟨j,w',hj,hrun,hd,hr'⟩:=Gz hT hr h (jf ((NJ γ).cells hone) n) (uM hone n)
   rw [hi] at hj;obtain rfl:=Option.some.inj hj
   refine ⟨γ,w',.tuple #[],?_,LN _,hd,hr'⟩
   obtain ⟨k,rfl⟩:∃ k,n=k+1:=⟨n - 1,by omega⟩
   simp [run_underlying hT hu,LF,hrun]
 ·cases h
omit hT hr in
theorem Od (To:Bool) {l:List AV} {cl:List Value} {v:AV} (hl:ak γ l cl) (h:N3 To l=some v) (ts:Array TypeId) (ty:TypeId) :
  ∃ c,(if To then Builtin.max_ ts ty cl.toArray else Builtin.min_ ts ty cl.toArray).run P w=.ok c w∧ah γ v c:=by
 have key:∀ (rest:List AV) (Oe:List Value) (x:AV) (cx:Value),ah γ x cx→ak γ rest Oe→N2 To x rest=some v →
   ∃ c,(if To then Oe.foldlM Builtin.max2 cx else Oe.foldlM Builtin.min2 cx).run P w=.ok c w∧ah γ v c:=by
  intro rest
  induction rest with
  | nil =>
   intro Oe x cx hx hc h
   obtain rfl:=ak.gQ.1 hc
   simp only [N2] at h;obtain rfl:=Option.some.inj h
   exact ⟨cx,by cases To <;> rfl,hx⟩
  | cons y ys ih =>
   intro Oe x cx hx hc h
   obtain ⟨d,ds,rfl,hd,hds⟩:=ak.cE.1 hc
   simp only [N2,Option.bind_eq_some_iff] at h
   obtain ⟨z,hz,h⟩:=h
   unfold Tn at hz
   split at hz
   ·obtain rfl:=Option.some.inj hz
    simp only [ah] at hx hd;subst hx hd
    obtain ⟨c,hc,hv⟩:=ih ds _ _ (by simp only [ah];rfl) hds h
    refine ⟨c,?_,hv⟩
    cases To
    ·simp only [Bool.false_eq_true,if_false] at hc ⊢
     simpa [List.foldlM_cons,Builtin.min2] using hc
    ·simp only [if_true] at hc ⊢
     simpa [List.foldlM_cons,Builtin.max2] using hc
   ·cases hz
 cases l with
 | nil=>simp [N3] at h
 | cons x rest =>
  obtain ⟨d,ds,rfl,hd,hds⟩:=ak.cE.1 hl
  obtain ⟨c,hc,hv⟩:=key rest ds x d hd hds h
  exact ⟨c,by cases To <;> simpa [Builtin.max_,Builtin.min_] using hc,hv⟩
omit hT hr in
theorem pK (γ:bM):ah γ AV.undef undef:=by simp only [ah];exact ⟨_,rfl,ak.nil⟩
omit hT hr in
theorem bP.find (n:Nat):∀ {es:List (AV×AV×Nat)} {cs:List MapEntry} {e:AV×AV×Nat},bP γ es cs→es.find? (fun e=>e.2.2==n)=some e→∃ c,cs.find? (fun c=>c.born==n)=some c∧ah γ e.1 c.key∧ah γ e.2.1 c.val
 | [],cs,e,h,h'=>by cases h'
 | (k,v,m)::es,cs,e,h,h'=>by
  simp only [bP] at h
  obtain ⟨c,cs',rfl,h1,h2,h3,h4⟩:=h
  simp only [List.find?_cons] at h' ⊢
  rw [h3]
  cases hm:(m==n) with
  | true =>
   rw [hm] at h'
   obtain rfl:=Option.some.inj h'
   exact ⟨c,rfl,h1,h2⟩
  | false =>
   rw [hm] at h'
   exact bP.find n h4 h'
omit hT in
theorem Rj {x v:AV} {cx:Value} (hx:ah γ x cx) (h:wX x s=some v):∃ c,(Instr.entry cx).run P w=.ok c w∧ah γ v c:=by
 unfold wX at h
 split at h
 ·rename_i l
  simp only [ah] at hx
  obtain ⟨i,hi,rfl⟩:=hx
  split at h
  ·rename_i m since seen stepped ro hl
   obtain ⟨i',hi',hO,_⟩:=hr.obj l _ hl
   rw [hi] at hi';obtain rfl:=Option.some.inj hi'
   obtain ⟨h0,j,hj,hO⟩:=hO
   split at h
   ·rename_i es clock ro' hm
    obtain ⟨j',hj',hM,_⟩:=hr.obj m _ hm
    rw [hj] at hj';obtain rfl:=Option.some.inj hj'
    obtain ⟨mh,Xw,gw⟩:=hM
    split at h
    ·rename_i yB
     subst yB
     simp only [Option.bind_eq_some_iff,Option.map_eq_some_iff] at h
     obtain ⟨n,hn,e,he,rfl⟩:=h
     obtain ⟨c,hc,h1,h2⟩:=bP.find n gw he
     refine ⟨.tuple #[c.key,c.val],?_,?_⟩
     ·have hb:seen.toArray.back? = some n:=by simpa using hn
      have hf:mh.find? (fun c=>c.born==n)=some c:=by rw [← Array.find?_toList];exact hc
      have g1:(getObj i.b).run P w=.ok (.mapIter (some j.b) since seen.toArray clock) w:=by simp [getObj,Sem.run,hO]
      have g2:(getObj j.b).run P w=.ok (.map mh clock) w:=by simp [getObj,Sem.run,Xw]
      simp only [h0,Nat.add_zero,Instr.entry,Sem.run_bind,g1,Result.andThen_ok,hb,g2,bne_self_eq_false,Bool.false_eq_true,if_false,hf,Sem.run_pure]
     ·simp only [ah]
      exact ⟨_,rfl,ak.cons h1 (ak.cons h2 ak.nil)⟩
    ·cases h
   ·cases h
  ·cases h
 ·cases h
def ew (P:Program) (B:Nat) (γ:bM) (s:AS) (w:World) (m:Sem Next) (v:AV) (s':AS):Prop :=
 ∃ γ' w' n cv,m.run P w=.ok n w'∧(n=.value cv∨(n=.skip∧cv=undef))∧ah γ' v cv∧fJ B γ s w γ' s' w'∧Rel B γ' s' w'
omit hT hr in
theorem ew.qV {m:Sem Value} {v:AV} {s':AS} (h:zI P B γ s w m v s'):ew P B γ s w (do pure (.value (← m))) v s':=by
 obtain ⟨γ',w',cv,h1,h2,h3,h4⟩:=h
 exact ⟨γ',w',.value cv,cv,by simp [h1],.inl rfl,h2,h3,h4⟩
omit hT hr in
theorem ew.LO {m:Sem Unit} {s':AS} (h:acn P B γ s w m s'):ew P B γ s w (do m;pure .skip) .undef s':=by
 obtain ⟨γ',w',h1,h3,h4⟩:=h
 exact ⟨γ',w',.skip,undef,by simp [h1],.inr ⟨rfl,rfl⟩,pK _,h3,h4⟩
omit hT in
theorem ew.lq {m:Sem Value} {v:AV} (h:∃ c,m.run P w=.ok c w∧ah γ v c):ew P B γ s w (do pure (.value (← m))) v s:=by
 obtain ⟨c,h1,h2⟩:=h
 exact ew.qV (zI.val hr h1 h2)
omit hT hr in
theorem Hp {ρ:Operand→AV} {ρ':Operand→Value} (hρ:∀ x,ah γ (ρ x) (ρ' x)):∀ (l:List (Nat×Operand)),KG γ (l.map fun p=>(p.1,ρ p.2)) (l.map fun p=>(p.1,ρ' p.2))
 | []=>rfl
 | (i,x)::l=>⟨_,_,rfl,hρ x,Hp hρ l⟩
omit hT hr in
theorem oN {ρ:Operand→AV} {ρ':Operand→Value} (hρ:∀ x,ah γ (ρ x) (ρ' x)):∀ (l:List Operand),ak γ (l.map ρ) (l.map ρ')
 | []=>ak.nil
 | x::l=>ak.cons (hρ x) (oN hρ l)
omit hT hr in
theorem Hq {ρ:Operand→AV} {ρ':Operand→Value} (hρ:∀ x,ah γ (ρ x) (ρ' x)):∀ (o:Option Operand),A8 γ (o.map ρ) (o.map ρ')
 | none=>rfl
 | some x=>⟨_,rfl,hρ x⟩
theorem LP {b:Builtin} {ts:List TypeId} {args:List AV} {aZ:List Value} {v:AV} {s':AS} (ha:ak γ args aZ) (h:dO T b ts args s=some (v,s')) (ty:TypeId) (consts:Array Bool) :
  ew P B γ s w (builtin b ts.toArray ty consts aZ.toArray) v s':=by
 unfold dO at h
 split at h
 ·rename_i t ts' x rest
  obtain ⟨d,ds,rfl,hd,hds⟩:=ak.cE.1 ha
  simp only [Option.map_eq_some_iff] at h
  obtain ⟨u,hu,e⟩:=h
  obtain ⟨rfl,rfl⟩:_∧_:=by simpa using e
  exact ew.lq hr (UC hT hr (xt:=0) hd hu ts' ds ty)
 ·rename_i t ts' x rest
  obtain ⟨d,ds,rfl,hd,hds⟩:=ak.cE.1 ha
  simp only [Option.map_eq_some_iff] at h
  obtain ⟨u,hu,e⟩:=h
  obtain ⟨rfl,rfl⟩:_∧_:=by simpa using e
  exact ew.lq hr (UD hT hr hd hu ts' ds ty)
 ·rename_i t xt ts' dst x rest
  obtain ⟨d,ds,rfl,hd,hds⟩:=ak.cE.1 ha
  obtain ⟨f,fs,rfl,hf,hfs⟩:=ak.cE.1 hds
  have:=N_ hT hr hd hf h ty
  exact ew.qV (by simpa [Builtin.append_] using this)
 ·rename_i t xt ts' dst x rest
  obtain ⟨d,ds,rfl,hd,hds⟩:=ak.cE.1 ha
  obtain ⟨f,fs,rfl,hf,hfs⟩:=ak.cE.1 hds
  have:=Uw hT hr (xt:=xt) hd hf h ty
  exact ew.qV (by simpa [Builtin.copy_] using this)
 ·rename_i t ts' m k rest
  obtain ⟨d,ds,rfl,hd,hds⟩:=ak.cE.1 ha
  obtain ⟨f,fs,rfl,hf,hfs⟩:=ak.cE.1 hds
  simp only [Option.map_eq_some_iff] at h
  obtain ⟨u,hu,e⟩:=h
  obtain ⟨rfl,rfl⟩:_∧_:=by simpa using e
  obtain ⟨γ',w',h1,h2,h3⟩:=Oc hT hr (xt:=0) hd hf hu ty
  exact ew.qV ⟨γ',w',undef,by simpa [Builtin.delete_] using h1,pK _,h2,h3⟩
 ·rename_i t ts' x rest
  obtain ⟨d,ds,rfl,hd,hds⟩:=ak.cE.1 ha
  simp only [Option.map_eq_some_iff] at h
  obtain ⟨u,hu,e⟩:=h
  obtain ⟨rfl,rfl⟩:_∧_:=by simpa using e
  exact ew.qV (Ri hT hr hd hu ts' ds ty)
 ·simp only [Option.map_eq_some_iff] at h
  obtain ⟨u,hu,e⟩:=h
  obtain ⟨rfl,rfl⟩:_∧_:=by simpa using e
  exact ew.lq hr (by simpa using Od (P:=P) (w:=w) true ha hu ts.toArray ty)
 ·simp only [Option.map_eq_some_iff] at h
  obtain ⟨u,hu,e⟩:=h
  obtain ⟨rfl,rfl⟩:_∧_:=by simpa using e
  exact ew.lq hr (by simpa using Od (P:=P) (w:=w) false ha hu ts.toArray ty)
 ·cases h
set_option maxHeartbeats 2000000 in
theorem Tx {o : Oper} {ρ : Operand → AV} {ρ' : Operand → Value} {v : AV} {s' : AS} (hρ : ∀ x, ah γ (ρ x) (ρ' x)) (h : cH T o.op ρ s = some (v, s')) : ew P B γ s w (execOp ρ' o) v s' := by
  obtain ⟨dst, op, type, pos, after, guard⟩ := o
  simp only at h
  unfold cH at h
  split at h
  case h_1 x =>
    obtain ⟨rfl, rfl⟩ : _ ∧ _ := by simpa using h
    exact ⟨γ, w, .value (ρ' x), _, rfl, .inl rfl, hρ x, fJ.refl, hr⟩
  case h_2 x =>
    obtain ⟨rfl, rfl⟩ : _ ∧ _ := by simpa using h
    exact ⟨γ, w, .value (ρ' x), _, rfl, .inl rfl, hρ x, fJ.refl, hr⟩
  case h_3 c a b =>
    split at h
    · rename_i t ht
      obtain ⟨rfl, rfl⟩ : _ ∧ _ := by simpa using h
      have hc := hρ c
      rw [ht] at hc; simp only [ah] at hc
      refine ⟨γ, w, .value (if t then ρ' a else ρ' b), _, ?_, .inl rfl, ?_, fJ.refl, hr⟩
      · simp only [execOp, hc, asBool, Sem.run_bind, Sem.run_pure, Result.andThen_ok]
      · cases t
        · exact hρ b
        · exact hρ a
    · cases h
  case h_4 e =>
    simp only [Option.bind_eq_some_iff, Option.map_eq_some_iff] at h
    obtain ⟨z, hz, cs, hcs, e'⟩ := h
    obtain ⟨rfl, rfl⟩ : _ ∧ _ := by simpa using e'
    show ew P B γ s w (do pure (.value (← Instr.alloc e true (.tuple #[])))) _ _
    exact ew.qV (Us hT hr hz hcs)
  case h_5 t x =>
    simp only [Option.map_eq_some_iff] at h
    obtain ⟨cs, hcs, e'⟩ := h
    obtain ⟨rfl, rfl⟩ : _ ∧ _ := by simpa using e'
    show ew P B γ s w (do pure (.value (← Instr.box t (ρ' x)))) _ _
    have hb : Instr.box t (ρ' x) = (do pure (.pointer (some (← newVar t (ρ' x))))) := rfl
    rw [hb]
    exact ew.qV (G_ t hr (hρ x) hcs)
  case h_6 t parts =>
    simp only [Option.map_eq_some_iff] at h
    obtain ⟨u, hu, e'⟩ := h
    obtain ⟨rfl, rfl⟩ : _ ∧ _ := by simpa using e'
    show ew P B γ s w (do pure (.value (← Instr.build t (parts.map fun (i, x) => (i, ρ' x))))) _ _
    exact ew.lq hr (Rb hT (γ := γ) (w := w) (nJ := parts.map fun (i, x) => (i, ρ' x)) (by simpa using Hp hρ parts.toList) hu)
  case h_7 t len parts =>
    have hp : KG γ (parts.toList.map fun p => (p.1, ρ p.2)) (parts.map fun (p : Nat × Operand) => (p.1, ρ' p.2)).toList := by
      rw [Array.toList_map]; exact Hp hρ parts.toList
    have hs := ew.qV (EV hT hr hp h)
    exact hs
  case h_8 t a =>
    simp only [Option.map_eq_some_iff] at h
    obtain ⟨u, hu, e'⟩ := h
    obtain ⟨rfl, rfl⟩ : _ ∧ _ := by simpa using e'
    show ew P B γ s w (do pure (.value (← Instr.loadAt t (ρ' a)))) _ _
    exact ew.qV (Xn hT hr (hρ a) hu)
  case h_9 t a x =>
    simp only [Option.map_eq_some_iff] at h
    obtain ⟨u, hu, e'⟩ := h
    obtain ⟨rfl, rfl⟩ : _ ∧ _ := by simpa using e'
    show ew P B γ s w (do Instr.storeAt t (ρ' a) (ρ' x); pure .skip) _ _
    exact ew.LO (Ut hT hr (hρ a) (hρ x) hu)
  case h_10 x =>
    have hx := hρ x
    split at h
    · rename_i p hp
      obtain ⟨rfl, rfl⟩ : _ ∧ _ := by simpa using h
      rw [hp] at hx
      have WC := hx
      obtain ⟨l, o⟩ := p
      simp only [ah] at hx; obtain ⟨i, hi, hx⟩ := hx
      exact ⟨γ, w, .value (ρ' x), _, by simp only [execOp, hx]; rfl, .inl rfl, WC, fJ.refl, hr⟩
    · rename_i f c hp
      obtain ⟨rfl, rfl⟩ : _ ∧ _ := by simpa using h
      rw [hp] at hx
      have WC := hx
      simp only [ah] at hx; obtain ⟨cc, hx, _⟩ := hx
      exact ⟨γ, w, .value (ρ' x), _, by simp only [execOp, hx]; rfl, .inl rfl, WC, fJ.refl, hr⟩
    · rename_i f ft c hp
      obtain ⟨rfl, rfl⟩ : _ ∧ _ := by simpa using h
      rw [hp] at hx
      have WC := hx
      simp only [ah] at hx; obtain ⟨cf, cc, hx, _⟩ := hx
      exact ⟨γ, w, .value (ρ' x), _, by simp only [execOp, hx]; rfl, .inl rfl, WC, fJ.refl, hr⟩
    · rename_i t u hp
      obtain ⟨rfl, rfl⟩ : _ ∧ _ := by simpa using h
      rw [hp] at hx
      have WC := hx
      simp only [ah] at hx; obtain ⟨cc, hx, _⟩ := hx
      exact ⟨γ, w, .value (ρ' x), _, by simp only [execOp, hx]; rfl, .inl rfl, WC, fJ.refl, hr⟩
    · cases h
  case h_11 op t x y yt =>
    split at h
    · rename_i hg
      simp only [Option.map_eq_some_iff] at h
      obtain ⟨u, hu, e'⟩ := h
      obtain ⟨rfl, rfl⟩ : _ ∧ _ := by simpa using e'
      obtain ⟨c, hc, hv⟩ := Xo hT (hρ x) (hρ y) hu w
      have he := N5 hT (op := op) (hρ x) (hρ y) hg w
      exact ⟨γ, w, .value c, _, by simp only [execOp, Sem.run_bind, he, hc, Result.andThen_ok, Sem.run_pure], .inl rfl, hv, fJ.refl, hr⟩
    · cases h
  case h_12 op t x =>
    simp only [Option.map_eq_some_iff] at h
    obtain ⟨u, hu, e'⟩ := h
    obtain ⟨rfl, rfl⟩ : _ ∧ _ := by simpa using e'
    show ew P B γ s w (do pure (.value (← Op.unary op (ρ' x)))) _ _
    exact ew.lq hr (aav hT (hρ x) hu w)
  case h_13 src dst x =>
    show ew P B γ s w (do pure (.value (← convert src dst (ρ' x)))) _ _
    exact ew.qV (LL hT hr (hρ x) h)
  case h_14 t x =>
    cases hu : T.cM t with
    | none => simp [hu] at h
    | some td =>
      have hrun : (Instr.makeInterface t (ρ' x)).run P w = .ok (.iface t (ρ' x)) w ∧ v = .iface t (ρ x) ∧ s' = s := by
        cases td <;> simp only [hu] at h <;> first
          | (cases h; done)
          | (obtain ⟨rfl, rfl⟩ : _ ∧ _ := by simpa using h
             exact ⟨by simp only [Instr.makeInterface, Sem.run_bind, run_underlying hT hu, Result.andThen_ok, Sem.run_pure], rfl, rfl⟩)
      obtain ⟨hrun, rfl, rfl⟩ := hrun
      show ew P B γ s' w (do pure (.value (← Instr.makeInterface t (ρ' x)))) _ _
      exact ew.lq hr ⟨_, hrun, by simp only [ah]; exact ⟨_, rfl, hρ x⟩⟩
  case h_15 f first captured =>
    split at h
    · rename_i hf
      obtain ⟨rfl, rfl⟩ : _ ∧ _ := by simpa using h
      have : first = #[] := by simpa using hf
      subst this
      refine ⟨γ, w, .value (.func (.func f) #[] (captured.map ρ')), _, by simp [execOp, Instr.makeFunc], .inl rfl, ?_, fJ.refl, hr⟩
      simp only [ah]
      exact ⟨_, rfl, by simpa using oN hρ captured.toList⟩
    · obtain ⟨rfl, rfl⟩ : _ ∧ _ := by simpa using h
      refine ⟨γ, w, .value (.func (.func f) (first.map ρ') (captured.map ρ')), _, by simp [execOp, Instr.makeFunc], .inl rfl, ?_, fJ.refl, hr⟩
      simp only [ah]
      exact ⟨_, _, rfl, by simpa using oN hρ first.toList, by simpa using oN hρ captured.toList⟩
  case h_16 t =>
    split at h
    · obtain ⟨rfl, rfl⟩ : _ ∧ _ := by simpa using h
      obtain ⟨g1, g2⟩ := hr.alloc (w' := { w with heap := w.heap.push (.map #[] 0) }) (o := .map [] 0 false) (i := ⟨w.heap.size, 0, 0⟩) rfl rfl rfl ⟨#[], by simp, rfl⟩
      refine ⟨_, _, .value (.map (some w.heap.size)), _, by simp [execOp, Instr.makeMap], .inl rfl, ?_, g2, g1⟩
      simp only [ah]
      exact ⟨_, b_ _ _ _, rfl⟩
    · cases h
  case h_17 t l c =>
    show ew P B γ s w (do pure (.value (← Instr.makeSlice t (ρ' l) (ρ' c)))) _ _
    exact ew.qV (Hj hT hr (hρ l) (hρ c) h)
  case h_18 t x lo hi mx =>
    simp only [Option.map_eq_some_iff] at h
    obtain ⟨u, hu, e'⟩ := h
    obtain ⟨rfl, rfl⟩ : _ ∧ _ := by simpa using e'
    show ew P B γ s w (do pure (.value (← Instr.sliceAt t (ρ' x) (lo.map ρ') (hi.map ρ') (mx.map ρ')))) _ _
    exact ew.lq hr (Ra hT (Hq hρ lo) (Hq hρ hi) (Hq hρ mx) (hρ x) hu w)
  case h_19 t x f =>
    simp only [Option.map_eq_some_iff] at h
    obtain ⟨u, hu, e'⟩ := h
    obtain ⟨rfl, rfl⟩ : _ ∧ _ := by simpa using e'
    show ew P B γ s w (do pure (.value (← Instr.fieldAt t (ρ' x) f))) _ _
    exact ew.lq hr (Hf hT (hρ x) hu w)
  case h_20 t x f =>
    simp only [Option.map_eq_some_iff] at h
    obtain ⟨u, hu, e'⟩ := h
    obtain ⟨rfl, rfl⟩ : _ ∧ _ := by simpa using e'
    show ew P B γ s w (do pure (.value (← Instr.field t (ρ' x) f))) _ _
    exact ew.lq hr (Q9 hT (hρ x) hu w)
  case h_21 t x ix =>
    simp only [Option.map_eq_some_iff] at h
    obtain ⟨u, hu, e'⟩ := h
    obtain ⟨rfl, rfl⟩ : _ ∧ _ := by simpa using e'
    show ew P B γ s w (do pure (.value (← Instr.indexAt t (ρ' x) (ρ' ix)))) _ _
    exact ew.lq hr (Hg hT (hρ x) (hρ ix) hu w)
  case h_22 t x ix =>
    simp only [Option.map_eq_some_iff] at h
    obtain ⟨u, hu, e'⟩ := h
    obtain ⟨rfl, rfl⟩ : _ ∧ _ := by simpa using e'
    show ew P B γ s w (do pure (.value (← Instr.index t (ρ' x) (ρ' ix)))) _ _
    exact ew.lq hr (Q8 hT (hρ x) (hρ ix) hu w)
  case h_23 t x ix ok =>
    simp only [Option.map_eq_some_iff] at h
    obtain ⟨u, hu, e'⟩ := h
    obtain ⟨rfl, rfl⟩ : _ ∧ _ := by simpa using e'
    show ew P B γ s w (do pure (.value (← Instr.lookup t (ρ' x) (ρ' ix) ok))) _ _
    exact ew.lq hr (Ob hT hr (hρ x) (hρ ix) hu)
  case h_24 t m k u =>
    simp only [Option.map_eq_some_iff] at h
    obtain ⟨u', hu, e'⟩ := h
    obtain ⟨rfl, rfl⟩ : _ ∧ _ := by simpa using e'
    show ew P B γ s w (do Instr.mapUpdate t (ρ' m) (ρ' k) (ρ' u); pure .skip) _ _
    exact ew.LO (xh hT hr (hρ m) (hρ k) (hρ u) hu)
  case h_25 t m k u =>
    simp only [Option.map_eq_some_iff] at h
    obtain ⟨u', hu, e'⟩ := h
    obtain ⟨rfl, rfl⟩ : _ ∧ _ := by simpa using e'
    show ew P B γ s w (do Instr.mapUpdate t (ρ' m) (ρ' k) (ρ' u); pure .skip) _ _
    exact ew.LO (xh hT hr (hρ m) (hρ k) (hρ u) hu)
  case h_26 t i =>
    split at h
    · rename_i vs hvs
      simp only [Option.map_eq_some_iff] at h
      obtain ⟨u, hu, e'⟩ := h
      obtain ⟨rfl, rfl⟩ : _ ∧ _ := by simpa using e'
      have ht := hρ t
      rw [hvs] at ht
      simp only [ah] at ht
      obtain ⟨cs, hcs, gw⟩ := ht
      obtain ⟨c, hc, hv⟩ := gw.get hu
      have rN : cs[i]? = some c := by simpa using hc
      exact ew.lq hr (m := Instr.extract (ρ' t) i) ⟨c, by simp [Instr.extract, hcs, rN], hv⟩
    · cases h
  case h_27 c =>
    split at h
    · rename_i b hb
      have := LP hT hr (oN hρ c.args.toList) h type (c.args.map fun | .const _ => true | _ => false)
      obtain ⟨γ', w', n, cv, h1, h2⟩ := this
      refine ⟨γ', w', n, cv, ?_, h2⟩
      have ha : (List.map ρ' c.args.toList).toArray = c.args.map ρ' := by apply Array.ext'; rw [Array.toList_map]
      have ht : c.argTypes.toList.toArray = c.argTypes := Array.toArray_toList
      rw [ha, ht] at h1
      simp only [execOp, resolve, hb, Sem.run_bind, Sem.run_pure, Result.andThen_ok, invoke]
      exact h1
    · cases h
  case h_28 t x =>
    have hx := hρ x
    show ew P B γ s w (do pure (.value (← Instr.range t (ρ' x)))) _ _
    split at h
    · rename_i b hu hb
      obtain ⟨rfl, rfl⟩ : _ ∧ _ := by simpa using h
      rw [hb] at hx; simp only [ah] at hx
      obtain ⟨g1, g2⟩ := hr.alloc (w' := { w with heap := w.heap.push (.stringIter ⟨b.toArray⟩ 0) }) (o := .qf b 0 false) (i := ⟨w.heap.size, 0, 0⟩) rfl rfl rfl ⟨rfl, by simp⟩
      exact ⟨_, _, _, .pointer (some ⟨w.heap.size, 0, none⟩), by simp [Instr.range, run_underlying hT hu, hx], .inl rfl, by simp only [ah]; exact ⟨_, b_ _ _ _, rfl⟩, g2, g1⟩
    · rename_i k e hu hb
      obtain ⟨rfl, rfl⟩ : _ ∧ _ := by simpa using h
      rw [hb] at hx; simp only [ah] at hx
      obtain ⟨g1, g2⟩ := hr.alloc (w' := { w with heap := w.heap.push (.mapIter none 0 #[] 0) }) (o := .fC none 0 [] 0 false) (i := ⟨w.heap.size, 0, 0⟩) rfl rfl rfl ⟨rfl, by simp⟩
      exact ⟨_, _, _, .pointer (some ⟨w.heap.size, 0, none⟩), by simp [Instr.range, run_underlying hT hu, hx], .inl rfl, by simp only [ah]; exact ⟨_, b_ _ _ _, rfl⟩, g2, g1⟩
    · rename_i k e m hu hb
      split at h
      · rename_i es clock ro hm
        obtain ⟨rfl, rfl⟩ : _ ∧ _ := by simpa using h
        rw [hb] at hx; simp only [ah] at hx
        obtain ⟨j, hj, hx⟩ := hx
        obtain ⟨j', hj', hO, _⟩ := hr.obj m _ hm
        rw [hj] at hj'; obtain rfl := Option.some.inj hj'
        obtain ⟨mh, Xw, _⟩ := hO
        obtain ⟨g1, g2⟩ := hr.alloc (w' := { w with heap := w.heap.push (.mapIter (some j.b) clock #[] clock) }) (o := .fC (some m) clock [] clock false) (i := ⟨w.heap.size, 0, 0⟩) rfl rfl rfl ⟨rfl, j, bM.uG hr.N0 _ _ hj, by simp⟩
        have hg : ∀ w2 : World, w2.heap[j.b]? = w.heap[j.b]? → (getObj j.b).run P w2 = .ok (.map mh clock) w2 := by
          intro w2 h2
          simp [getObj, Sem.run, h2, Xw]
        exact ⟨_, _, _, .pointer (some ⟨w.heap.size, 0, none⟩), by simp [Instr.range, run_underlying hT hu, hx, hg w rfl], .inl rfl, by simp only [ah]; exact ⟨_, b_ _ _ _, rfl⟩, g2, g1⟩
      · cases h
    · cases h
  case h_29 it =>
    simp only [Option.map_eq_some_iff] at h
    obtain ⟨u, hu, e'⟩ := h
    obtain ⟨rfl, rfl⟩ : _ ∧ _ := by simpa using e'
    show ew P B γ s w (do pure (.value (← Instr.entry (ρ' it)))) _ _
    exact ew.lq hr (Rj hr (hρ it) hu)
  case h_30 t x =>
    have hx := hρ x
    simp only [Option.map_eq_some_iff] at h
    obtain ⟨u, hu, e'⟩ := h
    obtain ⟨rfl, rfl⟩ : _ ∧ _ := by simpa using e'
    unfold Ur at hu
    split at hu
    · rename_i p len c e hp
      split at hu
      · rename_i n el hty
        split at hu
        · cases hu
        · rename_i hn
          obtain rfl := Option.some.inj hu
          rw [hp] at hx
          obtain ⟨l, o⟩ := p
          simp only [ah] at hx; obtain ⟨i, hi, hx⟩ := hx
          exact ⟨γ, w, .value (.pointer (some ⟨i.b, i.d + o, none⟩)), _, by simp [execOp, Instr.arrayAt, run_underlying hT hty, hx, hn], .inl rfl, by simp only [ah]; exact ⟨i, hi, rfl⟩, fJ.refl, hr⟩
      · cases hu
    · cases hu
  case h_31 => cases h
end
end Go.Am
end

section
namespace Go.Am
theorem bP.filter {γ:bM} (p:Nat→Bool):∀ {es:List (AV×AV×Nat)} {cs:List MapEntry},bP γ es cs→bP γ (es.filter fun e=>p e.2.2) (cs.filter fun c=>p c.born)
 | [],cs,h=>by simp only [bP] at h;subst h;simp [bP]
 | (k,v,n)::es,cs,h=>by
  simp only [bP] at h
  obtain ⟨c,cs',rfl,h1,h2,h3,h4⟩:=h
  have ih:=bP.filter p h4
  simp only [List.filter_cons,h3]
  split
  ·simp only [bP];exact ⟨c,_,rfl,h1,h2,h3,ih⟩
  ·exact ih
theorem bP.all {γ:bM} (p:Nat→Bool):∀ {es:List (AV×AV×Nat)} {cs:List MapEntry},bP γ es cs→(es.all fun e=>p e.2.2)=(cs.all fun c=>p c.born)
 | [],cs,h=>by simp only [bP] at h;subst h;rfl
 | (k,v,n)::es,cs,h=>by
  simp only [bP] at h
  obtain ⟨c,cs',rfl,h1,h2,h3,h4⟩:=h
  simp only [List.all_cons,h3,bP.all p h4]
theorem bP.mem {γ:bM}:∀ {es:List (AV×AV×Nat)} {cs:List MapEntry} {i:Nat} {c:MapEntry},bP γ es cs→cs[i]? = some c→∃ e,es[i]? = some e∧ah γ e.1 c.key∧ah γ e.2.1 c.val∧c.born=e.2.2
 | [],cs,i,c,h,h'=>by simp only [bP] at h;subst h;simp at h'
 | (k,v,n)::es,cs,i,c,h,h'=>by
  simp only [bP] at h
  obtain ⟨d,cs',rfl,h1,h2,h3,h4⟩:=h
  cases i with
  | zero=>simp only [List.getElem?_cons_zero,Option.some.injEq] at h';subst h';exact ⟨_,rfl,h1,h2,h3⟩
  | succ i =>
   obtain ⟨e,h5⟩:=bP.mem (i:=i) h4 (by simpa using h')
   exact ⟨e,by simpa using h5⟩
theorem qW {P:Program} {w:World} {r:Nat} {o:Obj} (h:w.heap[r]? = some o) (hc:∀ c e f,o≠.cells c e f):(getObj r).run P w=.ok o w:=by
 cases o with
 | cells c e f=>exact absurd rfl (hc c e f)
 | _=>simp [getObj,Sem.run,h]
theorem xl {P:Program} {w:World} {b:Nat} {o o':Obj} (hb:w.heap[b]? = some o) (hc:∀ c e f,o≠.cells c e f):(setObj b o').run P w=.ok () { w with heap:=w.heap.setIfInBounds b o' }:=by
 cases o with
 | cells c e f=>exact absurd rfl (hc c e f)
 | _=>simp [setObj,Sem.run,hb]
theorem run_choose {P:Program} {n:Nat} (hn:0<n) (w:World):∃ (j:Nat) (w1:World),j<n∧w1.heap=w.heap∧Env w w1∧(choose (Question.mapNext n)).run P w=.ok j w1:=by
 by_cases hf:n≤1
 ·exact ⟨0,w,by omega,rfl,⟨rfl,rfl,rfl⟩,by simp [choose,Sem.run,Question.forced,hf]⟩
 ·exact ⟨_,{ w with drawn:=w.drawn+1 },Nat.mod_lt _ hn,rfl,⟨rfl,rfl,rfl⟩,by
   simp only [choose,Sem.run,Question.forced,decide_eq_true_eq,hf,if_false,Question.cut]
   rfl⟩
theorem KK {P:Program} {B:Nat} {γ:bM} {s:AS} {w:World} (hr:Rel B γ s w) {ρ:Operand→AV} {ρ':Operand→Value} (hρ:∀ x,ah γ (ρ x) (ρ' x)) {o:Oper} {l:List (AV×AS)} (h:Ek o.op ρ s=some l) :
  ∃ p∈l,∃ γ' w' cv,(execOp ρ' o).run P w=.ok (.value cv) w'∧ah γ' p.1 cv∧fJ B γ s w γ' p.2 w'∧Rel B γ' p.2 w':=by
 obtain ⟨dst,op,type,pos,after,guard⟩:=o
 simp only at h
 unfold Ek at h
 split at h
 ·rename_i it isStr
  have hit:=hρ it
  have hex:∀ v w',(Instr.next (ρ' it) isStr type).run P w=.ok v w'→(execOp ρ' { dst,op:=.next it isStr,type,pos,after,guard }).run P w=.ok (.value v) w':=by
   intro v w' hv
   show Sem.run P (do pure (Next.value (← Instr.next (ρ' it) isStr type))) w=_
   simp only [Sem.run_bind,hv,Result.andThen_ok,Sem.run_pure]
  split at h
  ·rename_i r hp
   rw [hp] at hit
   simp only [ah] at hit
   obtain ⟨i,hi,hit⟩:=hit
   split at h
   ·rename_i since seen last ro hl
    obtain ⟨j,hj,hO,_⟩:=hr.obj r _ hl
    rw [hi] at hj;obtain rfl:=Option.some.inj hj
    obtain ⟨h0,hO⟩:=hO
    split at h
    ·cases h
    ·rename_i hs
     obtain rfl:=Option.some.inj h
     have hs':isStr=false:=by simpa using hs
     refine ⟨_,List.mem_singleton.2 rfl,γ,w,.tuple #[.bool false],hex _ _ ?_,?_,fJ.refl,hr⟩
     ·simp [Instr.next,hit,h0,qW hO (by simp),hs']
     ·simp only [ah];exact ⟨_,rfl,ak.cons (by simp [ah]) ak.nil⟩
   ·rename_i m since seen last hl
    obtain ⟨j,hj,hO,hB⟩:=hr.obj r _ hl
    rw [hi] at hj;obtain rfl:=Option.some.inj hj
    obtain ⟨h0,j,hj,hO⟩:=hO
    split at h
    ·cases h
    ·rename_i hs
     have hs':isStr=false:=by simpa using hs
     split at h
     ·rename_i es clock ro' hm
      obtain ⟨j',hj',hM,_⟩:=hr.obj m _ hm
      rw [hj] at hj';obtain rfl:=Option.some.inj hj'
      obtain ⟨mh,Xw,gw⟩:=hM
      split at h
      ·cases h
      ·rename_i mo
       obtain rfl:=Option.some.inj h
       have hlen:=gw.length
       have hne:∀ {α:Type} (l:List α),l≠[]↔l.isEmpty=false:=by intro α l;cases l <;> simp
       have aey:(!seen.toArray.isEmpty&&!mh.isEmpty&&mh.all (fun e=>decide (e.born≥last)))=false:=by
        have e1:seen.toArray.isEmpty=seen.isEmpty:=by cases seen <;> rfl
        have e2:mh.isEmpty=es.isEmpty:=by
         obtain ⟨mh⟩:=mh
         cases mh with
         | nil=>cases es with
          | nil=>rfl
          | cons _ _=>simp at hlen
         | cons _ _=>cases es with
          | nil=>simp at hlen
          | cons _ _=>rfl
        have e3:mh.all (fun e=>decide (e.born≥last))=es.all fun e=>decide (last≤e.2.2):=by
         rw [← Array.all_toList]
         exact (bP.all (fun n=>decide (last≤n)) gw).symm
        rw [e1,e2,e3]
        cases hq:(!seen.isEmpty&&!es.isEmpty&&es.all fun e=>decide (last≤e.2.2)) with
        | false=>rfl
        | true =>
         exfalso
         simp only [Bool.and_eq_true,Bool.not_eq_true'] at hq
         exact mo ⟨(hne _).2 hq.1.1,(hne _).2 hq.1.2,hq.2⟩
       have rl:=gw.filter fun n=>!seen.contains n
       have ro:=bP.filter (fun n=>decide (n<since)) rl
       have rn:=bP.filter (fun n=>decide (since≤n)) rl
       have rap:=ro.append rn
       let L:=mh.filter fun e=>!seen.toArray.contains e.born
       let O:=L.filter fun e=>decide (e.born<since)
       let N:=L.filter fun e=>decide (e.born≥since)
       have hL:L.toList=mh.toList.filter fun c=>!seen.contains c.born:=by simp [L]
       have hOl:O.toList=(mh.toList.filter fun c=>!seen.contains c.born).filter fun c=>decide (c.born<since):=by simp only [O,Array.toList_filter,hL]
       have hNl:N.toList=(mh.toList.filter fun c=>!seen.contains c.born).filter fun c=>decide (since≤c.born):=by simp only [N,Array.toList_filter,hL,ge_iff_le]
       rw [← hOl,← hNl] at rap
       rw [← hOl] at ro
       have hoE:O.isEmpty=((es.filter fun e=>!seen.contains e.2.2).filter fun e=>decide (e.2.2<since)).isEmpty:=by
        have h1:=ro.length
        cases hq:O.isEmpty with
        | true =>
         have:O.toList=[]:=by simpa using hq
         rw [this] at h1
         have:((es.filter fun e=>!seen.contains e.2.2).filter fun e=>decide (e.2.2<since))=[]:=List.length_eq_zero_iff.1 (by simpa using h1)
         rw [this];rfl
        | false =>
         have:O.toList≠[]:=by intro e;rw [show O=#[] from by simpa using e] at hq;simp at hq
         cases Eo:((es.filter fun e=>!seen.contains e.2.2).filter fun e=>decide (e.2.2<since)) with
         | nil=>rw [Eo] at h1;simp only [List.length_nil] at h1;exact absurd (List.length_eq_zero_iff.1 h1.symm) this
         | cons _ _=>rfl
       let C:Array (Option MapEntry):=(if O.isEmpty then #[none] else #[])++(O++N).map some
       have aez:0<C.size:=by
        simp only [C,Array.size_append,Array.size_map]
        cases hq:O.isEmpty with
        | true=>simp only [if_true,List.size_toArray,List.length_cons];omega
        | false =>
         have:0<O.size:=by
          rcases Nat.eq_zero_or_pos O.size with h | h
          ·rw [Array.eq_empty_of_size_eq_zero h] at hq;simp at hq
          ·exact h
         simp;omega
       obtain ⟨k,w1,hk,Ty,agN,hch⟩:=run_choose (P:=P) aez w
       have hgo:∀ v w',(match C[k]? with
         | some (some e)=>(do setObj i.b (.mapIter (some j.b) since (seen.toArray.push e.born) clock);pure (.tuple #[.bool true,e.key,e.val]):Sem Value)
         | some none=>pure (.tuple #[.bool false])
         | none => stuck "Next: no such candidate").run P w1 = .ok v w' → (Instr.next (ρ' it) isStr type).run P w = .ok v w' := by
        intro v w' hv
        simp only [hit,h0,Nat.add_zero,hs',Instr.next,Sem.run_bind,qW hO (by simp),Result.andThen_ok,qW Xw (by simp),aey,Bool.false_eq_true,if_false]
        show Result.andThen ((choose (Question.mapNext C.size)).run P w) _=_
        rw [hch]
        exact hv
       have aeA:∃ x,C[k]? = some x:=⟨C[k],Array.getElem?_eq_getElem hk⟩
       obtain ⟨x,hx⟩:=aeA
       have Oa:Rel B γ s w1:=hr.of_heap Ty
       have hd1:fJ B γ s w γ s w1:=fJ.of_heap Ty agN
       cases x with
       | none =>
        have hOe:O.isEmpty=true:=by
         cases hq:O.isEmpty with
         | true=>rfl
         | false =>
          simp only [C,hq,Bool.false_eq_true,if_false,Array.empty_append,Array.getElem?_map,Option.map_eq_some_iff] at hx
          obtain ⟨_,_,h⟩:=hx
          cases h
        refine ⟨(.aQ [.bool false],s),?_,γ,w1,.tuple #[.bool false],hex _ _ (hgo _ _ (by rw [hx];rfl)),?_,hd1,Oa⟩
        ·rw [hoE] at hOe
         rw [if_pos hOe]
         simp
        ·simp only [ah];exact ⟨_,rfl,ak.cons (by simp [ah]) ak.nil⟩
       | some c =>
        have UE:∃ q:Nat,(O++N).toList[q]? = some c:=by
         simp only [C] at hx
         cases hq:O.isEmpty with
         | true =>
          rw [hq] at hx
          simp only [if_true] at hx
          rw [Array.getElem?_append] at hx
          split at hx
          ·rename_i hlt
           have:k=0:=by simpa using hlt
           subst this
           simp at hx
          ·simp only [Array.getElem?_map,Option.map_eq_some_iff,Option.some.injEq,exists_eq_right] at hx
           exact ⟨_,by rw [Array.getElem?_toList];exact hx⟩
         | false =>
          rw [hq] at hx
          simp only [Bool.false_eq_true,if_false,Array.empty_append,Array.getElem?_map,Option.map_eq_some_iff,Option.some.injEq,exists_eq_right] at hx
          exact ⟨k,by rw [Array.getElem?_toList];exact hx⟩
        obtain ⟨q,hq⟩:=UE
        rw [Array.toList_append] at hq
        obtain ⟨e,he,v1,v2,v3⟩:=bP.mem rap hq
        have hlt:i.b<w1.heap.size:=by
         have:=(hr.obj r _ hl)
         rw [Ty]
         rcases Nat.lt_or_ge i.b w.heap.size with h | h
         ·exact h
         ·rw [Array.getElem?_eq_none h] at hO;cases hO
        obtain ⟨g1,g2⟩:=Oa.write (w':={ w1 with heap:=w1.heap.setIfInBounds i.b (.mapIter (some j.b) since (seen.toArray.push c.born) clock) }) hl rfl (o':=.fC (some m) since (seen++[e.2.2]) clock false) rfl hi rfl ⟨h0,j,hj,by simp [hlt,v3]⟩
        refine ⟨(.aQ [.bool true,e.1,e.2.1],s.put r (.fC (some m) since (seen++[e.2.2]) clock false)),?_,γ,_,.tuple #[.bool true,c.key,c.val],hex _ _ (hgo _ _ (by rw [hx];simp only [Sem.run_bind,xl (show w1.heap[i.b]? = some (.mapIter (some j.b) since seen.toArray last) by rw [Ty];exact hO) (by simp),Result.andThen_ok,Sem.run_pure])),?_,hd1.trans g2,g1⟩
        ·refine List.mem_append_right _ (List.mem_map.2 ⟨e,List.mem_of_getElem? he,rfl⟩)
        ·simp only [ah];exact ⟨_,rfl,ak.cons (by simp [ah]) (ak.cons v1 (ak.cons v2 ak.nil))⟩
     ·cases h
   ·rename_i b pos hl
    obtain ⟨j,hj,hO,_⟩:=hr.obj r _ hl
    rw [hi] at hj;obtain rfl:=Option.some.inj hj
    obtain ⟨h0,hO⟩:=hO
    split at h
    ·rename_i hs
     split at h
     ·rename_i hlt
      obtain rfl:=Option.some.inj h
      have Uv:i.b<w.heap.size:=by
       rcases Nat.lt_or_ge i.b w.heap.size with h | h
       ·exact h
       ·rw [Array.getElem?_eq_none h] at hO;cases hO
      obtain ⟨g1,g2⟩:=hr.write (w':={ w with heap:=w.heap.setIfInBounds i.b (.stringIter ⟨b.toArray⟩ (pos+(Utf8.decode ⟨b.toArray⟩ pos).2)) }) hl rfl (o':=.qf b (pos+(Utf8.decode ⟨b.toArray⟩ pos).2) false) rfl hi rfl ⟨h0,by simp [Uv]⟩
      refine ⟨_,List.mem_singleton.2 rfl,γ,_,.tuple #[.bool true,goInt pos,.int .i32 (Utf8.decode ⟨b.toArray⟩ pos).1],hex _ _ ?_,?_,g2,g1⟩
      ·have hsz:pos<(ByteArray.mk b.toArray).size:=by simpa [ByteArray.size] using hlt
       simp only [hit,h0,Nat.add_zero,hs,Instr.next,Sem.run_bind,qW hO (by simp),Result.andThen_ok,if_pos hsz]
       simp only [xl hO (by simp),Result.andThen_ok,Sem.run_pure]
      ·simp only [ah];exact ⟨_,rfl,ak.cons (by simp [ah]) (ak.cons (by simp [ah,goInt]) (ak.cons (by simp [ah]) ak.nil))⟩
     ·rename_i hlt
      obtain rfl:=Option.some.inj h
      refine ⟨_,List.mem_singleton.2 rfl,γ,w,.tuple #[.bool false],hex _ _ ?_,?_,fJ.refl,hr⟩
      ·have hsz:¬ pos<(ByteArray.mk b.toArray).size:=by simpa [ByteArray.size] using hlt
       simp only [hit,h0,Nat.add_zero,hs,Instr.next,Sem.run_bind,qW hO (by simp),Result.andThen_ok,if_neg hsz,Sem.run_pure]
      ·simp only [ah];exact ⟨_,rfl,ak.cons (by simp [ah]) ak.nil⟩
    ·cases h
   ·cases h
  ·cases h
 ·cases h
end Go.Am
end

section
namespace Go.Am
abbrev Fr:=Nat→AV
def pL (f:Fr) (d:Nat) (v:AV):Fr:=fun t=>if t=d then v else f t
@[simp] theorem Xx (f:Fr) (d:Nat) (v:AV):pL f d v d=v:=by simp [pL]
theorem Xy (f:Fr) {d t:Nat} (v:AV) (h:t≠d):pL f d v t=f t:=by simp [pL,h]
def bN (f:Fr) (d:Option Nat) (v:AV):Fr:=match d with | some d=>pL f d v | none=>f
structure nK (γ:bM) (n:Nat) (f:Fr) (a:Act):Prop where
 size:a.tmps.size=n
 defers:a.defers=[]
 vals:∀ t,ah γ (f t) (a.tmps.getD t undef)
theorem nK.mono {γ γ':bM} {n:Nat} {f:Fr} {a:Act} (h:nK γ n f a) (hle:bM.le γ γ'):nK γ' n f a:=⟨h.size,h.defers,fun t=>(h.vals t).mono hle⟩
theorem nK.eval {γ:bM} {n:Nat} {f:Fr} {a:Act} (h:nK γ n f a):∀ x,ah γ (pH f x) (a.eval x)
 | .tmp t=>h.vals t
 | .const v=>Gx γ v
 | .func g=>by simp only [pH,Act.eval,ah];exact ⟨_,rfl,ak.nil⟩
 | .global _=>by simp [pH,ah]
def dQ (n:Nat):Option Nat→Bool
 | some d=>decide (d<n)
 | none=>true
theorem nK.put {γ:bM} {n:Nat} {f:Fr} {a:Act} (h:nK γ n f a) {d:Option Nat} {v:AV} {c:Value} (hd:dQ n d=true) (hv:ah γ v c):nK γ n (bN f d v) (a.put d c):=by
 cases d with
 | none=>exact h
 | some d =>
  have hdn:d<n:=by simpa [dQ] using hd
  refine ⟨by simp [Act.put,h.size],h.defers,fun t=>?_⟩
  simp only [bN,pL,Act.put]
  by_cases ht:t=d
  ·subst ht
   have:(a.tmps.setIfInBounds t c).getD t undef=c:=by simp [Array.getD,h.size,hdn]
   rw [if_pos rfl,this];exact hv
  ·rw [if_neg ht]
   have:=h.vals t
   have e:(a.tmps.setIfInBounds d c).getD t undef=a.tmps.getD t undef:=by
    simp only [Array.getD_eq_getD_getElem?]
    rw [Array.getElem?_setIfInBounds_ne (fun e=>ht e.symm)]
   rw [e];exact this
def vU (B:Nat) (γ:bM) (s:AS) (w:World) (n:Nat) (Q:Exit→Fr→AS→Prop):Exit→Act→World→Prop:=fun e a' w' =>
 ∃ γ' f' s',nK γ' n f' a'∧fJ B γ s w γ' s' w'∧Rel B γ' s' w'∧Q e f' s'
def kC (P:Program) (n:Nat) (c:Code) (f:Fr) (s:AS) (Q:Exit→Fr→AS→Prop):Prop :=
 ∀ (B:Nat) (γ:bM) (a:Act) (w:World),nK γ n f a→Rel B γ s w→c.wp P (vU B γ s w n Q) a w
def Et (K:Fr→AS→Prop) (Q:Exit→Fr→AS→Prop):Exit→Fr→AS→Prop
 | .normal,f,s=>K f s
 | e,f,s=>Q e f s
def zK (id:Nat) (Q:Exit→Fr→AS→Prop):Exit→Fr→AS→Prop
 | .exit id',f,s=>if id'=id then Q .normal f s else Q (.exit id') f s
 | e,f,s=>Q e f s
def Xz (Q:Exit→Fr→AS→Prop):Exit→Fr→AS→Prop
 | .goto _,_,_=>False
 | e,f,s=>Q e f s
theorem vU.trans {B:Nat} {γ γ':bM} {s s':AS} {w w':World} {n:Nat} {Q:Exit→Fr→AS→Prop} (hd:fJ B γ s w γ' s' w') {e:Exit} {a:Act} {w'':World} (h:vU B γ' s' w' n Q e a w''):vU B γ s w n Q e a w'':=by
 obtain ⟨γ2,f2,s2,h1,h2,h3,h4⟩:=h
 exact ⟨γ2,f2,s2,h1,hd.trans h2,h3,h4⟩
section
variable {P:Program} {n:Nat} {f:Fr} {s:AS} {Q:Exit→Fr→AS→Prop}
theorem kC.mono {c:Code} {Q':Exit→Fr→AS→Prop} (h:kC P n c f s Q) (hq:∀ e f s,Q e f s→Q' e f s):kC P n c f s Q' :=
 fun B γ a w hf hr=>wp_mono (h B γ a w hf hr) fun e a' w' ⟨γ',f',s',h1,h2,h3,h4⟩=>⟨γ',f',s',h1,h2,h3,hq _ _ _ h4⟩
theorem kC.skip (h:Q .normal f s):kC P n .skip f s Q:=fun B γ a w hf hr=>wp_skip ⟨γ,f,s,hf,fJ.refl,hr,h⟩
theorem kC.label {l:Nat} (h:Q .normal f s):kC P n (.label l) f s Q:=fun B γ a w hf hr=>wp_label ⟨γ,f,s,hf,fJ.refl,hr,h⟩
theorem kC.exit {id:Nat} (h:Q (.exit id) f s):kC P n (.exit id) f s Q:=fun B γ a w hf hr=>wp_exit ⟨γ,f,s,hf,fJ.refl,hr,h⟩
theorem kC.ret (h:Q .ret f s):kC P n .ret f s Q:=fun B γ a w hf hr=>wp_ret ⟨γ,f,s,hf,fJ.refl,hr,h⟩
theorem kC.seq {x y:Code} (h:kC P n x f s (Et (fun f s=>kC P n y f s Q) Q)):kC P n (.seq x y) f s Q:=by
 intro B γ a w hf hr
 refine wp_seq (wp_mono (h B γ a w hf hr) ?_)
 rintro e a' w' ⟨γ',f',s',h1,h2,h3,h4⟩
 cases e with
 | normal=>exact wp_mono (h4 B γ' a' w' h1 h3) fun e a w hh=>vU.trans h2 hh
 | _=>exact ⟨γ',f',s',h1,h2,h3,h4⟩
theorem kC.cond {c:Operand} {x y:Code} {t:Bool} (hc:pH f c=.bool t) (h:kC P n (if t then x else y) f s Q):kC P n (.cond c x y) f s Q:=by
 intro B γ a w hf hr
 have hv:=hf.eval c
 rw [hc] at hv
 simp only [ah] at hv
 exact wp_cond hv (h B γ a w hf hr)
theorem kC.block {id:Nat} {c:Code} (h:kC P n c f s (zK id Q)):kC P n (.block id c) f s Q:=by
 intro B γ a w hf hr
 refine wp_block (wp_mono (h B γ a w hf hr) ?_)
 rintro e a' w' ⟨γ',f',s',h1,h2,h3,h4⟩
 cases e with
 | exit id' =>
  simp only [zK] at h4
  simp only [Exit.inBlock]
  split
  ·rename_i hid;rw [if_pos hid] at h4;exact ⟨γ',f',s',h1,h2,h3,h4⟩
  ·rename_i hid;rw [if_neg hid] at h4;exact ⟨γ',f',s',h1,h2,h3,h4⟩
 | _=>exact ⟨γ',f',s',h1,h2,h3,h4⟩
theorem kC.scope {c:Code} (h:kC P n c f s (Xz Q)):kC P n (.scope c) f s Q:=by
 intro B γ a w hf hr
 refine wp_scope_straight (wp_mono (h B γ a w hf hr) ?_)
 rintro e a' w' ⟨γ',f',s',h1,h2,h3,h4⟩
 cases e with
 | goto l=>exact h4.elim
 | _=>exact ⟨γ',f',s',h1,h2,h3,h4⟩
theorem kC.loop {c:Code} (I:Nat→Fr→AS→Prop) (m:Nat) (h₀:I m f s)
  (round:∀ m f s,I m f s→kC P n c f s (Et (fun f' s'=>∃ m',m'<m∧I m' f' s') Q)):kC P n (.loop c) f s Q:=by
 intro B γ a w hf hr
 refine wp_loop_ghost (fun m a' w'=>∃ γ' f' s',nK γ' n f' a'∧fJ B γ s w γ' s' w'∧Rel B γ' s' w'∧I m f' s') m ⟨γ,f,s,hf,fJ.refl,hr,h₀⟩ ?_
 rintro m a' w' ⟨γ',f',s',h1,h2,h3,h4⟩
 refine wp_mono (round m f' s' h4 B γ' a' w' h1 h3) ?_
 rintro e a2 w2 ⟨γ2,f2,s2,g1,g2,g3,g4⟩
 cases e with
 | normal=>obtain ⟨m',hm,hI⟩:=g4;exact ⟨m',hm,γ2,f2,s2,g1,h2.trans g2,g3,hI⟩
 | _=>exact ⟨γ2,f2,s2,g1,h2.trans g2,g3,g4⟩
end
def fS (P:Program) (g:FuncId):Bool :=
 match P.funcs[g]? with
 | some fn => !(fn.name == "runtime.NumGoroutine") && !fn.body.isNone
 | none=>false
theorem mu {P:Program} {g:FuncId} (h:fS P g=true) (args:Array Value) (w:World):(callFunc g args).run P w=.ok (.enter g args) w:=by
 unfold fS at h
 cases hf:P.funcs[g]? with
 | none=>simp [hf] at h
 | some fn =>
  simp only [hf,Bool.and_eq_true,Bool.not_eq_true'] at h
  simp only [callFunc,Sem.run_bind,run_program,Result.andThen_ok,hf,h.1,h.2,Bool.false_eq_true,if_false,Sem.run_pure]
def Tz (P:Program) (g:FuncId) (aZ:Array Value) (w:World) (R:Ending→World→Prop):Prop :=
 ((callFunc g aZ).run P w=.ok (.enter g aZ) w∧Calls P g aZ w R)∨∃ cv w',(callFunc g aZ).run P w=.ok (.value cv) w'∧R (.returned cv) w'
theorem Tz.mono {P:Program} {g:FuncId} {aZ:Array Value} {w:World} {R R':Ending→World→Prop} (h:Tz P g aZ w R) (hr:∀ e w,R e w→R' e w):Tz P g aZ w R':=by
 rcases h with ⟨h1,h2⟩ | ⟨cv,w',h1,h2⟩
 ·exact .inl ⟨h1,h2.mono hr⟩
 ·exact .inr ⟨cv,w',h1,hr _ _ h2⟩
def aa (P:Program) (g:FuncId) (args:List AV) (s:AS) (R:AV→AS→Prop):Prop :=
 ∀ (B:Nat) (γ:bM) (aZ:Array Value) (w:World),ak γ args aZ.toList→Rel B γ s w →
  Tz P g aZ w fun e w'=>∃ γ' v cv s',e=.returned cv∧ah γ' v cv∧fJ B γ s w γ' s' w'∧Rel B γ' s' w'∧R v s'
theorem aa.mono {P:Program} {g:FuncId} {args:List AV} {s:AS} {R R':AV→AS→Prop} (h:aa P g args s R) (hr:∀ v s,R v s→R' v s):aa P g args s R' :=
 fun B γ ca w h1 h2=>(h B γ ca w h1 h2).mono fun e w' ⟨γ',v,cv,s',a,b,c,d,e⟩=>⟨γ',v,cv,s',a,b,c,d,hr _ _ e⟩
def cY (ops:Array Oper) (f:Fr) (o:Oper):Option Bool :=
 match o.guard with
 | none=>some true
 | some (j,want) =>
  match (ops[j]?).bind (·.dst) with
  | some d=>match f d with
   | .bool b=>some (b==want)
   | .aQ _=>some false
   | _=>none
  | none=>some false
theorem ek {γ:bM} {n:Nat} {f:Fr} {a:Act} (h:nK γ n f a) {ops:Array Oper} {o:Oper} {b:Bool} (hw:cY ops f o=some b):Region.wanted o (yielded ops a.tmps)=b:=by
 unfold cY at hw
 unfold Region.wanted
 cases hg:o.guard with
 | none=>simp only [hg] at hw ⊢;exact Option.some.inj hw
 | some p =>
  obtain ⟨j,want⟩:=p
  simp only [hg] at hw ⊢
  unfold yielded
  cases hd:(ops[j]?).bind (·.dst) with
  | none=>simp only [hd] at hw ⊢;simpa using hw
  | some d =>
   simp only [hd] at hw
   have hv:=h.vals d
   simp only [Option.bind_some]
   split at hw
   ·rename_i c hc
    rw [hc] at hv;simp only [ah] at hv
    obtain rfl:=Option.some.inj hw
    have:a.tmps[d]? = some (.bool c):=by
     rw [Array.getD_eq_getD_getElem?] at hv
     cases hq:a.tmps[d]? with
     | none=>rw [hq] at hv;simp [undef] at hv
     | some u=>rw [hq] at hv;simp at hv;rw [hv]
    rw [this];simp
   ·rename_i l hc
    rw [hc] at hv;simp only [ah] at hv
    obtain ⟨cs,hcs,_⟩:=hv
    obtain rfl:=Option.some.inj hw
    have:∀ c,a.tmps[d]? ≠ some (.bool c):=by
     intro c hq
     rw [Array.getD_eq_getD_getElem?,hq] at hcs
     simp at hcs
    cases hq:a.tmps[d]? with
    | none=>rfl
    | some u=>cases u <;> first | rfl | exact (this _ hq).elim
   ·cases hw
def eT (f:Fr):Op→Option (FuncId×List AV)
 | .call c=>match c.callee with
  | .value x=>match pH f x with
   | .func g cap=>some (g,c.args.toList.map (pH f)++cap)
   | .uE g ft cap=>some (g,ft++(c.args.toList.map (pH f)++cap))
   | _=>none
  | _=>none
 | _=>none
def Hr (P:Program) (T:TT) (n:Nat) (o:Oper) (f:Fr) (s:AS) (K:Fr→AS→Prop):Prop :=
 dQ n o.dst=true ∧
 ((match eT f o.op with
 | some (g,args)=>aa P g args s fun v s'=>K (bN f o.dst v) s'
 | none=>∃ v s',cH T o.op (pH f) s=some (v,s')∧K (bN f o.dst v) s') ∨
 ∃ l,Ek o.op (pH f) s=some l∧∀ p∈l,K (bN f o.dst p.1) p.2)
def zL:Op→Bool
 | .next ..=>true
 | _=>false
theorem zM {op:Op} (h:zL op=false) (ρ:Operand→AV) (s:AS):Ek op ρ s=none:=by
 cases op <;> first | rfl | cases h
def fh (P:Program) (T:TT) (n:Nat) (ops:Array Oper):List Oper→Fr→AS→(Fr→AS→Prop)→Prop
 | [],f,s,K=>K f s
 | o::rest,f,s,K=>match cY ops f o with
  | some true=>Hr P T n o f s fun f' s'=>fh P T n ops rest f' s' K
  | some false=>dQ n o.dst=true∧fh P T n ops rest (bN f o.dst .undef) s K
  | none=>False
theorem Eu {γ:bM} {n:Nat} {f:Fr} {a:Act} (h:nK γ n f a) {o:Oper} {g:FuncId} {args:List AV} (hc:eT f o.op=some (g,args)) {P:Program} (w:World) :
  ∃ aZ:Array Value,ak γ args aZ.toList∧(execOp a.eval o).run P w=(callFunc g aZ).run P w:=by
 obtain ⟨dst,op,type,pos,after,guard⟩:=o
 simp only at hc
 unfold eT at hc
 split at hc
 ·rename_i c
  split at hc
  ·rename_i x hx
   split at hc
   ·rename_i g' cap hv
    obtain ⟨rfl,rfl⟩:_∧_:=by simpa using hc
    have he:=h.eval x
    rw [hv] at he
    simp only [ah] at he
    obtain ⟨cc,LH,gw⟩:=he
    refine ⟨(c.args.map a.eval)++cc,?_,?_⟩
    ·rw [Array.toList_append,Array.toList_map]
     exact (oN h.eval c.args.toList).append gw
    ·simp only [execOp,resolve,hx,LH,Deferred.ofValue,Sem.run_bind,Sem.run_pure,Result.andThen_ok,invoke]
     have:(#[]:Array Value)++c.args.map a.eval=c.args.map a.eval:=by simp
     rw [this]
   ·rename_i g' ft cap hv
    obtain ⟨rfl,rfl⟩:_∧_:=by simpa using hc
    have he:=h.eval x
    rw [hv] at he
    simp only [ah] at he
    obtain ⟨cf,cc,LH,aeB,gw⟩:=he
    refine ⟨(cf++c.args.map a.eval)++cc,?_,?_⟩
    ·rw [Array.toList_append,Array.toList_append,Array.toList_map,List.append_assoc]
     exact aeB.append ((oN h.eval c.args.toList).append gw)
    ·simp only [execOp,resolve,hx,LH,Deferred.ofValue,Sem.run_bind,Sem.run_pure,Result.andThen_ok,invoke]
   ·cases hc
  ·cases hc
 ·cases hc
theorem ji {P:Program} {T:TT} (hT:TT.Ok P T) {n:Nat} {o:Oper} {f:Fr} {s:AS} {K:Fr→AS→Prop} (h:Hr P T n o f s K) {B:Nat} {γ:bM} {a:Act} {w:World} (hf:nK γ n f a) (hr:Rel B γ s w)
  {next:Act→World→Prop} {Q:Exit→Act→World→Prop} (hn:∀ γ' f' s' a' w',nK γ' n f' a'→fJ B γ s w γ' s' w'→Rel B γ' s' w'→K f' s'→next a' w'):o.wp P a w next Q:=by
 obtain ⟨hd,h⟩:=h
 unfold Oper.wp
 rcases h with h | ⟨l,hl,h⟩
 rotate_left
 ·obtain ⟨p,hp,γ',w',cv,hrun,hv,jh,hr'⟩:=KK (P:=P) hr hf.eval hl
  rw [hrun]
  exact hn γ' _ p.2 _ w' ((hf.mono jh.le).put hd hv) jh hr' (h p hp)
 split at h
 ·rename_i g args hc
  obtain ⟨aZ,hargs,hrun⟩:=Eu hf hc (P:=P) w
  rw [hrun]
  rcases h B γ aZ w hargs hr with ⟨h1,h2⟩ | ⟨cv,w',h1,γ',v,cv',s',e,hv,jh,hr',hk⟩
  ·rw [h1]
   simp only [Oper.upon]
   refine h2.mono ?_
   rintro e w' ⟨γ',v,cv,s',rfl,hv,jh,hr',hk⟩
   exact hn γ' _ s' _ w' ((hf.mono jh.le).put hd hv) jh hr' hk
  ·rw [h1]
   injection e with e
   subst e
   exact hn γ' _ s' _ w' ((hf.mono jh.le).put hd hv) jh hr' hk
 ·obtain ⟨v,s',hop,hk⟩:=h
  obtain ⟨γ',w',nx,cv,hrun,KL,hv,jh,hr'⟩:=Tx hT hr hf.eval hop
  rw [hrun]
  rcases KL with rfl | ⟨rfl,rfl⟩
  ·exact hn γ' _ s' _ w' ((hf.mono jh.le).put hd hv) jh hr' hk
  ·exact hn γ' _ s' _ w' ((hf.mono jh.le).put hd hv) jh hr' hk
theorem xo {P:Program} {T:TT} (hT:TT.Ok P T) {n:Nat} {ops:Array Oper} {Q:Exit→Fr→AS→Prop} {B:Nat} {Hs:bM} {s0:AS} {w0:World}:∀ (l:List Nat) (os:List Oper) (f:Fr) (s:AS) (γ:bM) (a:Act) (w:World),
  l.map (ops[·]?)=os.map some→fh P T n ops os f s (fun f s=>Q .normal f s)→nK γ n f a→Rel B γ s w→fJ B Hs s0 w0 γ s w→wpOps P ops (vU B Hs s0 w0 n Q) l a w
 | [],os,f,s,γ,a,w,hl,h,hf,hr,hd=>by
  cases os with
  | nil=>exact ⟨γ,f,s,hf,hd,hr,h⟩
  | cons _ _=>simp at hl
 | i::l,os,f,s,γ,a,w,hl,h,hf,hr,hd=>by
  cases os with
  | nil=>simp at hl
  | cons o os =>
   simp only [List.map_cons,List.cons.injEq] at hl
   simp only [wpOps,hl.1]
   simp only [fh] at h
   split at h
   ·rename_i hw
    rw [ek hf hw,if_pos rfl]
    exact .inl (ji hT h hf hr fun γ' f' s' a' w' h1 h2 h3 h4=>xo hT l os f' s' γ' a' w' hl.2 h4 h1 h3 (hd.trans h2))
   ·rename_i hw
    rw [ek hf hw,if_neg (by simp)]
    exact xo hT l os _ s γ _ w hl.2 h.2 (hf.put h.1 (pK γ)) hr hd
   ·exact h.elim
theorem kC.region {P:Program} {T:TT} (hT:TT.Ok P T) {n:Nat} {id:Nat} {ops:Array Oper} {f:Fr} {s:AS} {Q:Exit→Fr→AS→Prop} (h:fh P T n ops ops.toList f s fun f s=>Q .normal f s) :
  kC P n (.region id ops false) f s Q:=by
 intro B γ a w hf hr
 refine wp_region (xo hT (List.range ops.size) ops.toList f s γ a w ?_ h hf hr fJ.refl)
 apply List.ext_getElem?
 intro i
 simp only [List.getElem?_map]
 by_cases hi:i<ops.size
 ·simp [hi]
 ·have:ops.toList[i]? = none:=List.getElem?_eq_none (by simpa using hi)
  rw [this,List.getElem?_eq_none (by simpa using hi)];rfl
def yT (T:TT) (rs:List ResultVar) (f:Fr) (s:AS):Option AV :=
 (EW rs).map fun vs=>match vs with | [v]=>v | vs=>.aQ vs
where
 EW:List ResultVar→Option (List AV)
  | []=>some []
  | .tmp t::rs=>(EW rs).map fun vs=>f t::vs
  | .cell a t::rs=>(Jp T t s (f a)).bind fun v=>(EW rs).map fun vs=>v::vs
def aeC (tmps:Array Value):ResultVar→Sem Value
 | .tmp t=>pure (tmps.getD t undef)
 | .cell x t=>do loadVar t (← asAddr (tmps.getD x undef))
theorem xp {P:Program} {T:TT} (hT:TT.Ok P T) {B:Nat} {γ:bM} {n:Nat} {f:Fr} {s:AS} {a:Act} {w:World} (hf:nK γ n f a) (hr:Rel B γ s w) {fn:Func} {v:AV} (h:yT T fn.results.toList f s=some v) :
  ∃ cv,(results fn a.tmps).run P w=.ok cv w∧ah γ v cv:=by
 unfold yT at h
 simp only [Option.map_eq_some_iff] at h
 obtain ⟨vs,hvs,e⟩:=h
 have key:∀ (F:ResultVar→Sem Value),(∀ t,F (.tmp t)=pure (a.tmps.getD t undef))→(∀ x t,F (.cell x t)=do loadVar t (← asAddr (a.tmps.getD x undef))) →
   ∀ (rs:List ResultVar) (vs:List AV),yT.EW T f s rs=some vs→∃ ET:List Value,(rs.mapM F).run P w=.ok ET w∧ak γ vs ET:=by
  intro F hF1 hF2 rs
  induction rs with
  | nil=>intro vs h;simp only [yT.EW] at h;obtain rfl:=Option.some.inj h;exact ⟨[],rfl,ak.nil⟩
  | cons r rs ih =>
   intro vs h
   cases r with
   | tmp t =>
    simp only [yT.EW,Option.map_eq_some_iff] at h
    obtain ⟨us,LM,rfl⟩:=h
    obtain ⟨ET,h1,h2⟩:=ih us LM
    exact ⟨_,by simp only [List.mapM_cons,Sem.run_bind,hF1,Sem.run_pure,Result.andThen_ok,h1],ak.cons (hf.vals t) h2⟩
   | cell x t =>
    simp only [yT.EW,Option.bind_eq_some_iff,Option.map_eq_some_iff] at h
    obtain ⟨u,hu,us,LM,rfl⟩:=h
    obtain ⟨ET,h1,h2⟩:=ih us LM
    have hx:=hf.vals x
    have hp:∃ l o,f x=.ptr (some (l,o)):=by
     unfold Jp at hu
     split at hu
     ·rename_i l o e;exact ⟨l,o,e⟩
     ·cases hu
    obtain ⟨l,o,hp⟩:=hp
    rw [hp] at hx hu
    simp only [ah] at hx
    obtain ⟨i,hi,hxe⟩:=hx
    obtain ⟨cv,hrun,hv⟩:=Tq hT hr hi hu
    exact ⟨_,by simp only [List.mapM_cons,Sem.run_bind,hF2,hxe,asAddr,hrun,Sem.run_pure,Result.andThen_ok,h1],ak.cons hv h2⟩
 have hres:∃ ET:List Value,(results fn a.tmps).run P w=.ok (if h:ET.toArray.size=1 then ET.toArray[0] else .tuple ET.toArray) w∧ak γ vs ET:=by
  have hE:results fn a.tmps=(do let vs ← fn.results.mapM (aeC a.tmps);pure (if h:vs.size=1 then vs[0] else .tuple vs)):=rfl
  rw [hE]
  simp only [Sem.run_bind]
  rw [Array.mapM_eq_mapM_toList]
  obtain ⟨ET,h1,h2⟩:=key (aeC a.tmps) (fun _=>rfl) (fun _ _=>rfl) fn.results.toList vs hvs
  exact ⟨ET,by simp only [Sem.run_map,h1,Result.andThen_ok,Sem.run_pure],h2⟩
 obtain ⟨ET,hrun,gw⟩:=hres
 refine ⟨_,hrun,?_⟩
 subst e
 split
 ·obtain ⟨d,ds,rfl,hd,hds⟩:=ak.cE.1 gw
  obtain rfl:=ak.gQ.1 hds
  rw [dif_pos (by simp)]
  exact hd
 ·rename_i vs' hne
  have hlen:=gw.length
  have:¬ ET.toArray.size=1:=by
   intro h1
   simp only [List.size_toArray] at h1
   obtain ⟨v,rfl⟩:=List.length_eq_one_iff.1 (hlen.trans h1)
   exact hne v rfl
  rw [dif_neg this]
  simp only [ah]
  exact ⟨_,rfl,gw⟩
def r8 (args:List AV):Fr:=fun t=>args.getD t .undef
theorem aa.aax {P:Program} {T:TT} (hT:TT.Ok P T) {g:FuncId} {fn:Func} {c:Code} {args:List AV} {s:AS} {R:AV→AS→Prop} (hf:P.funcs[g]? = some fn) (hc:fS P g=true) (hb:fn.body=some c)
  (h:kC P (args.length+(fn.ntmps - args.length)) c (r8 args) s fun e f s'=>match e with
   | .normal | .ret=>∃ v,yT T fn.results.toList f s'=some v∧R v s'
   | _=>False):aa P g args s R:=by
 refine fun B γ aZ w hargs hr=>.inl ⟨mu hc _ w,calls_of_wp hf hb ?_⟩
 have hlen:=hargs.length
 simp only [Array.length_toList] at hlen
 have hfr:nK γ (args.length+(fn.ntmps - args.length)) (r8 args) { tmps:=aZ++Array.replicate (fn.ntmps - aZ.size) undef,defers:=[] }:=by
  refine ⟨by simp [hlen],rfl,fun t=>?_⟩
  simp only [r8,Array.getD_eq_getD_getElem?,List.getD_eq_getElem?_getD]
  by_cases ht:t<args.length
  ·obtain ⟨cv,AY,gw⟩:=hargs.get (List.getElem?_eq_getElem ht)
   rw [Array.getElem?_append_left (by omega)]
   rw [Array.getElem?_toList] at AY
   rw [AY,List.getElem?_eq_getElem ht]
   exact gw
  ·rw [List.getElem?_eq_none (by omega)]
   have:((aZ++Array.replicate (fn.ntmps - aZ.size) undef)[t]?).getD undef=undef:=by
    rw [Array.getElem?_append_right (by omega)]
    by_cases hq:t - aZ.size<fn.ntmps - aZ.size
    ·simp [hq]
    ·rw [Array.getElem?_eq_none (by simp;omega)];rfl
   rw [this]
   exact pK γ
 refine wp_mono (h B γ _ w hfr hr) ?_
 rintro e a' w' ⟨γ',f',s',h1,h2,h3,h4⟩
 cases e with
 | normal =>
  obtain ⟨v,hv,hR⟩:=h4
  obtain ⟨cv,hrun,gw⟩:=xp hT h1 h3 hv
  exact ⟨h1.defers,cv,hrun,γ',v,cv,s',rfl,gw,h2,h3,hR⟩
 | ret =>
  obtain ⟨v,hv,hR⟩:=h4
  obtain ⟨cv,hrun,gw⟩:=xp hT h1 h3 hv
  exact ⟨h1.defers,cv,hrun,γ',v,cv,s',rfl,gw,h2,h3,hR⟩
 | exit id=>exact h4.elim
 | goto l=>exact h4.elim
 | panic ch=>exact h4.elim
 | outgrown=>exact h4.elim
end Go.Am
end
