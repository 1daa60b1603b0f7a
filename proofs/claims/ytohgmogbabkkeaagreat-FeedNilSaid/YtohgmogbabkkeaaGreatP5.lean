/-
  A part of O4 proof: an abstract machine Bo O4 model, and qi of qj of this program Bo it.
-/
import Derived.Test.YtohgmogbabkkeaaGreatRows
import Derived.KernelRfl
import Derived.Test.YtohgmogbabkkeaaGreatP4
set_option linter.unusedVariables false
set_option linter.unusedSimpArgs false
set_option linter.unusedSectionVars false
section
namespace Go.Proofs.YtohgmogbabkkeaaGreat
open Go.Am Go.au
theorem Ty:triples (T.cR iH)=some [(false,tg,0),(false,jx,1)]:=by kernel_rfl
theorem U2:T.S8 iH=true:=by kernel_rfl
theorem IV (a b:aJ):iB T 100 iH (.agg (aN a)) (.agg (aN b))=some (decide (a=b)):=by
 rw [Ov Ty U2];simp only [EK,cond_false,By UU,By BG,aN,List.getElem?_cons_zero,List.getElem?_cons_succ,Option.bind_some,Rh OA,Rh Ru];cases a;cases b;simp only [aJ.mk.injEq];rename_i r c d c';by_cases e:r=d <;> by_cases h2:c=c' <;> simp [e,h2]
theorem Qw {l o:Nat} {i:Int} (h:0<=i/\i<16):ag T aY (.ptr (some (l,o))) (.int .i64 i)=some (.ptr (some (l,o+i.toNat*1))):=uw wJ jz h
theorem Nz {l o:Nat} {i:Int} (h:0<=i/\i<16):ag T c_ (.ptr (some (l,o))) (.int .i64 i)=some (.ptr (some (l,o+i.toNat*1))):=uw Iq jz h
theorem Lh {s:AS} {v:AV} {l:List aJ} (b:GI s v l) (i:l.length<=2 ^ 30):aa Tryz.prog aF [v] s fun r s'=>aU aN 2 [] s s' r l:=by
 refine aa.pre fun j=>rm _ _ _ ?_;have main:aR (cV T az 0 []) fun k=>aj (.cells k 0 false) s fun l3 s4=>iD (aI T az az (.slc (some (l3,0)) 0 0 true) v s4) fun m s6=>aU aN 2 [] s s6 m l:=by
  refine ⟨_,zW iK,aj.intro j rfl fun l3 s4 F=>?_⟩;refine aU.kK iK bn mE F.wf (aU.start (M:=[]) F.ext.mut) (by simp) (b.ext F.ext) (by simpa using i) bF fun v' s' g _ _=>?_;simpa using g
 rcases b with ⟨rfl,_,d⟩ | ⟨a,c,e,rfl,hlen,h3⟩
 ·refine ⟨_,rF bF _ _ _ _,af.no rfl main⟩
 ·refine ⟨_,rE bF _ _ _ _ _ _ _ _,af.mk (fun h=>?_) (fun _=>main)⟩;have:a=none:=by simpa using h
  subst this;have:l=[]:=by
   rcases h3 with h3 | ⟨la,o,C,h,_⟩
   ·exact List.length_eq_zero_iff.1 h3
   ·cases h
  subst this;exact aU.nil
def dD:List Int:=List.replicate 16 0
theorem AD {v:List Int} (h:v.length=16) (w:AV):(v.map (AV.int .u64)++[w,.bool true]).length=18:=by simp [h]
theorem NA {v:List Int} (h:v.length=16) (w:AV) {i:Nat} (hi:i<16):(v.map (AV.int .u64)++[w,.bool true])[i]? = some (.int .u64 (v.getD i 0)):=by
 rw [List.getElem?_append_left (by simp [h];omega),List.getElem?_map,List.getElem?_eq_getElem (by omega),List.getD_eq_getElem?_getD,List.getElem?_eq_getElem (by omega)];rfl
theorem BY {v:List Int} (h:v.length=16) (w:AV):(v.map (AV.int .u64)++[w,.bool true])[16]? = some w:=by
 rw [List.getElem?_append_right (by simp [h])];simp [h]
theorem RK {v:List Int} (h:v.length=16) (w:AV):((v.map (AV.int .u64)++[w,.bool true]).drop 0).take 16=v.map (AV.int .u64):=by
 rw [List.drop_zero,List.take_append_of_le_length (by simp [h]),List.take_of_length_le (by simp [h])]
theorem bT (k:IntKind) (v:List Int):(v.map (AV.int k)).all AV.one=true:=by simp [List.all_eq_true]
def fo (v:List Int) (ex:List aJ) (d:aJ):Bool:=d.may&&(decide (d∈ex)||decide (d.c<=v.getD (d.r - 1).toNat 0))
theorem y_ {s:AS} {p:Nat} {v:List Int} {ex:List aJ} (h:wR s p v ex) (hr:dZ ex) (y:ex.length<=2 ^ 30) (d:aJ):aa Tryz.prog kj [.ptr (some (p,0)),.agg (aN d)] s fun r s'=>r=.bool (fo v ex d)/\Ext s s':=by
 refine aa.pre fun k=>GD _ _ _ _ ⟨rfl,aj.intro k rfl fun l s1 F=>?_⟩;refine (uQ (h.ext F.ext)).mono ?_;rintro r s2 ⟨rfl,rfl⟩;refine ⟨_,rfl,af.no rfl ⟨_,F.own.at.aD (by simp [aN]),?_⟩⟩;refine (qR d _).mono ?_;rintro r s3 ⟨rfl,i⟩;have e:=F.ext.trans i;refine ⟨_,rfl,af.mk (fun hm=>?_) (fun hm=>?_)⟩
 ·simp only [Bool.not_eq_true'] at hm;exact ⟨by simp [fo,hm],e⟩
 ·simp only [Bool.not_eq_false'] at hm;obtain ⟨j,w,h2,h3,h4⟩:=h;refine ⟨fun _ _ _ _=>True,fun _ _ v=>v=.aP [.int .i64 (pos ex d:Nat),.bool (decide (d∈ex))],fun _ _ _ _ _ _ _=>trivial,w,?_,_,(F.own.ext i).at.aD (by simp [aN]),fun s4 m _ _=>?_,⟨_,rfl⟩,?_⟩
  ·rw [(h2.ext e).at.av];exact BY j w
  ·refine (Fl (h4.ext (e.trans m)) (by omega) hr d).mono ?_;rintro r z ⟨rfl,n⟩;exact ⟨_,_,rfl,n,trivial,rfl⟩
  ·rintro r rfl;refine ⟨_,_,rfl,fun fP b _ _=>af.mk (fun hd=>?_) (fun hd=>?_)⟩
   ·refine ⟨?_,e.trans b⟩;simp [fo,hm,hd]
   ·have o:=aJ.gD.1 hm;have c:=(F.own.ext (i.trans b)).at;have x:=(h2.ext (e.trans b)).at;refine ⟨_,by rw [c.av];rfl,_,by rw [c.av];rfl,?_⟩;dsimp only;rw [rS (by omega)];refine ⟨_,_,Qw (by omega),_,by rw [x.av,Nat.zero_add,Nat.mul_one];exact NA j w (by omega),?_,e.trans b⟩;simp [fo,hm,hd]
end Go.Proofs.YtohgmogbabkkeaaGreat
end

section
namespace Go.au
end Go.au
namespace Go.Proofs.YtohgmogbabkkeaaGreat
open Go.Am Go.au
end Go.Proofs.YtohgmogbabkkeaaGreat
end

section
namespace Go.Proofs.YtohgmogbabkkeaaGreat
open Go.Am Go.au
end Go.Proofs.YtohgmogbabkkeaaGreat
end

section
namespace Go.Proofs.YtohgmogbabkkeaaGreat
open Go.Am Go.au
theorem de {α:Type} {l:List α} {i:Nat} (h:i<l.length):∃ x,l[i]? = some x:=⟨_,List.getElem?_eq_getElem h⟩
theorem Od (a b:Int):JT true [.int .u64 a,.int .u64 b]=some (.int .u64 (if b>a then b else a)):=rfl
end Go.Proofs.YtohgmogbabkkeaaGreat
end

section
namespace Go.Proofs.YtohgmogbabkkeaaGreat
open Go.Am Go.au
theorem qe {s:AS} {w:AV} {l:List aJ} (h:GI s w l):∀ k n,w≠.int k n:=by
 rintro k n rfl;rcases h with ⟨h,_⟩ | ⟨_,_,_,h,_⟩ <;> cases h
theorem OF (v:List Int) (x:List AV) (i:Nat) (c:Int) (hi:i<v.length):(v.map (AV.int .u64)++x).set i (.int .u64 c)=(v.set i c).map (AV.int .u64)++x:=by
 rw [List.set_append_left _ _ (by simpa using hi),List.map_set]
theorem BZ {s s':AS} {p:Nat} {v:List Int} {x:List AV} {w:AV} {l:List aJ} (h:GI s w l) (j:At s p (v.map (AV.int .u64)++x)) (k:∀ y∈x,∀ n,y≠.int .i64 n) (e:bD [p] s s'):GI s' w l:=by
 refine Sl.mut h e bn (by decide) fun q m C o d hd i c b r=>?_;obtain rfl:q=p:=by simpa using m
 obtain rfl:=o.inj j;simp only [aN,List.getElem?_cons_zero,Option.some.injEq] at b;subst b;have:=List.mem_of_getElem? r;rcases List.mem_append.1 this with h | h
 ·obtain ⟨y,_,z⟩:=List.mem_map.1 h;cases z
 ·exact k _ h _ rfl
structure uR (s0 s:AS) (p:Nat) (v:List Int) (ex:List aJ):Prop where
 len:v.length=16
 mem:∃ w,Am.Own s p (v.map (.int .u64)++[w,.bool true])/\w.one=true/\br aN 2 s w ex/\∀ la∈ay w,s0.h la=none
theorem uR.mut {s0 s s':AS} {L:List Nat} {p:Nat} {v:List Int} {ex:List aJ} (h:uR s0 s p v ex) (m:bD L s s') (e:p ∉ L) (i:∀ x∈L,s0.h x≠none\/s.h x=none):uR s0 s' p v ex:=by
 obtain ⟨j,w,h2,h3,h4,c⟩:=h;refine ⟨j,w,h2.mut m e,h3,h4.mut m fun x b hm=>?_,c⟩;rcases i x hm with h | h
 ·exact h (c x b)
 ·rcases h4 with ⟨_,a,rfl⟩ | ⟨la,rfl,d⟩
  ·simp [ay] at b
  ·obtain rfl:x=la:=by simpa [ay] using b
   rw [h] at d;cases d
theorem uR.ext {s0 s s':AS} {p:Nat} {v:List Int} {ex:List aJ} (h:uR s0 s p v ex) (e:Ext s s'):uR s0 s' p v ex:=h.mut (L:=[]) e.mut (by simp) (by simp)
theorem uR.back {s0 s1 s:AS} {p:Nat} {v:List Int} {ex:List aJ} (h:uR s1 s p v ex) (e:Ext s0 s1):uR s0 s p v ex:=by
 obtain ⟨b,w,h2,h3,h4,c⟩:=h;exact ⟨b,w,h2,h3,h4,fun x d=>e.none (c x d)⟩
theorem Dn {s:AS} {p:Nat} {v:List Int} {ex:List aJ} (h:wR s p v ex) (hv:EH v) (hm:∀ d∈ex,d.may=true) (hn:ex.length<2 ^ 30) :
  aa Tryz.prog mj [.ptr (some (p,0))] s fun r s'=>r=.aP []/\uR s s' p (compact v ex).1 (compact v ex).2/\bD [p] s s':=by
 refine aa.pre fun hw=>AB _ _ _ ?_;obtain ⟨h1,w,h2,h3,h4⟩:=h;have B:∀ x∈[p],s.h x≠none:=by
  intro x J;obtain rfl:x=p:=by simpa using J
  rw [h2];simp
 have K:∀ {r:AV} {s':AS} {l:List aJ},aU aN 2 [p] s s' r l->p ∉ ay r:=fun g hm=>B p (by simp) (g.new p hm);have Q:∀ y∈[w,AV.bool true],∀ n,y≠.int .i64 n:=by
  intro y L n;rcases List.mem_cons.1 L with rfl | L
  ·exact qe h4 _ _
  ·obtain rfl:y=.bool true:=by simpa using L
   intro h;cases h
 let e:Nat->List Int×List aJ:=fun i=>(ex.take i).foldl fV (v,[])
 have D:∀ i,EH (e i).1:=fun i=>D1 _ _ hv fun d hd=>hm d (List.mem_of_mem_take hd);have H:∀ i,(e i).2.length<=i:=fun i=>by have:=zU (ex.take i) (v,[]);simp only [List.length_nil,Nat.zero_add] at this;have h2:=List.length_take_le i ex;exact Nat.le_trans this h2
 refine ⟨fun vs s'=>∃ left,vs=[left]/\aM s'/\aU aN 2 [p] s s' left (compact v ex).2/\Am.Own s' p ((compact v ex).1.map (.int .u64)++[w,.bool true]),?_,?_⟩
 ·rintro r s3 ⟨left,X,R,g,M⟩;simp only [List.cons.injEq,and_true] at X;subst X;have C:EH (compact v ex).1:=by have:=D ex.length;simp only [e,List.take_length] at this;exact this
  refine cM g.iX.2 z6 (bt.own R M (by rw [AD C.len];simp) fun s6 P=>⟨rfl,⟨C.len,r,?_,g.iX.2,(g.wr B P.mut).vq,(g.wr B P.mut).new⟩,g.eL.trans P.mut⟩)
  ·have:qk ((compact v ex).1.map (AV.int .u64)++[w,.bool true]) (0+16) [r]=(compact v ex).1.map (AV.int .u64)++[r,.bool true]:=by
    rw [fy,List.set_append_right _ _ (by simp [C.len])];simp [C.len]
   rw [this] at P;exact P.at
 ·have Y:=h2.at;refine ⟨w,by rw [Y.av];exact BY h1 w,_,h4.cI bF _,fun m vs s'=>∃ (i:Nat) (left:AV),vs=[left,.int .i64 (i:Nat)]/\i<=ex.length/\m=ex.length - i/\aM s'/\aU aN 2 [p] s s' left (e i).2/\Am.Own s' p ((e i).1.map (.int .u64)++[w,.bool true]),ex.length,⟨0,_,rfl,by omega,rfl,hw,aU.nil,h2⟩,?_⟩;rintro m left n ab ⟨i,S,hi,h6,rfl,G,g,M⟩;simp only [List.cons.injEq,AV.int.injEq,true_and,and_true] at hi;obtain ⟨rfl,rfl⟩:=hi;refine af.dec (fun ad=>?_) (fun ae=>?_)
  ·obtain ⟨x,J⟩:=de (l:=ex) (i:=i) (by omega);have hd:=BZ h4 Y Q g.eL;have z:=D i;obtain ⟨la,o,h8,h9⟩:=hd.ix (by decide) bn bF jR J;have bW:=aJ.gD.1 (hm x (List.mem_of_getElem? J));have ht:e (i+1)=fV (e i) x:=by simp only [e];rw [List.take_add_one,J,Option.toList_some,List.foldl_append];rfl
   refine ⟨la,o,h8 _,_,(h9 _ (Ext.refl _)).2,lq G rfl rfl rfl fun al fP F=>?_⟩;have k:=M.ext F.ext;have Z:=g.step F.ext;have A:(x.r - 1).toNat<16:=by omega
   have am:=z.get (x.r - 1).toNat;refine ⟨_,by rw [F.own.at.av];rfl,?_⟩;dsimp only;rw [rS (by omega)];refine ⟨_,_,Qw (by omega),_,by rw [F.own.at.av];rfl,_,by rw [k.at.av,Nat.zero_add,Nat.mul_one];exact NA z.len w A,?_⟩;have cont:∀ (r:AV) (s':AS),aM s'->aU aN 2 [p] s s' r (e (i+1)).2->Am.Own s' p ((e (i+1)).1.map (.int .u64)++[w,.bool true]) ->
     ∃ m',m'<ex.length - i/\∃ (j:Nat) (left:AV),[r,AV.int .i64 (IntKind.wrap .i64 ((i:Int)+1))]=[left,.int .i64 (j:Nat)]/\j<=ex.length/\m'=ex.length - j/\aM s'/\aU aN 2 [p] s s' left (e j).2/\Am.Own s' p ((e j).1.map (.int .u64)++[w,.bool true]) :=
    fun r s' a b c=>⟨ex.length - (i+1),by omega,i+1,r,by rw [aW (by omega)];rfl,by omega,rfl,a,b,c⟩
   refine af.dec (fun hle=>?_) (fun O=>?_)
   ·have hs:e (i+1)=e i:=by rw [ht];unfold fV;rw [if_pos hle]
    exact cont _ _ F.wf (by rw [hs];exact Z) (by rw [hs];exact k)
   ·refine ⟨_,by rw [F.own.at.av];rfl,_,by rw [k.at.av,Nat.zero_add,Nat.mul_one];exact NA z.len w A,?_⟩;dsimp only;rw [gw (by omega)];refine af.mk (fun U=>?_) (fun U=>?_)
    ·have I:x.c=(e i).1.getD (x.r - 1).toNat 0+1:=by simpa using U
     have hs:e (i+1)=((e i).1.set (x.r - 1).toNat x.c,(e i).2):=by rw [ht];unfold fV;rw [if_neg O,if_pos I]
     refine ⟨_,by rw [F.own.at.av];rfl,bt.own F.wf k (by rw [AD z.len];simp;omega) fun an P=>?_⟩;refine cont _ _ P.wf (by rw [hs];exact g.wr B (F.ext.mut.trans P.mut)) ?_;rw [hs];have:=P.at;rw [fy,Nat.zero_add,Nat.mul_one,OF _ _ _ _ (by rw [z.len];exact A)] at this;exact this
    ·have I:¬ x.c=(e i).1.getD (x.r - 1).toNat 0+1:=by simpa using U
     have hs:e (i+1)=((e i).1,(e i).2++[x]):=by rw [ht];unfold fV;rw [if_neg O,if_neg I]
     have hM:∀ y∈[p],fP.h y≠none:=by
      intro y L;obtain rfl:y=p:=by simpa using L
      rw [k];simp
     refine ⟨_,F.own.at.aD (by simp [aN]),aU.iY iK bn mE F.wf Z hM x (by have:=H i;omega) fun r s' g' W mm=>?_⟩;exact cont _ _ W (by rw [hs];exact g') (by rw [hs];exact k.mut mm (K g))
  ·obtain rfl:i=ex.length:=by omega
   have hs:e ex.length=compact v ex:=by simp only [e,List.take_length];rfl
   rw [hs] at g M;exact ⟨left,rfl,G,g,M⟩
end Go.Proofs.YtohgmogbabkkeaaGreat
end

section
namespace Go.Proofs.YtohgmogbabkkeaaGreat
open Go.Am Go.au
theorem wS {y i:Nat} {k:IntKind} (h:i<=y):gC y (.int k (i:Nat))=some i:=by
 unfold gC;simp [h]
theorem NB {a o n c i:Nat} (b:i<=n) (h2:n<=c) (h3:i<c):aZ T az (.slc (some (a,o)) n c true) (some (.int .i64 (i:Nat))) none none=some (.slc (some (a,o+i*2)) (n - i) (c - i) true):=by
 have e1:¬ ((i:Int)<0\/(n:Int)<i):=by omega
 have e2:¬ c=i:=by omega
 simp [aZ,bF,jR,cN,sM,pN,wS,e2,b,h2]
theorem OG {a o n c i:Nat} (b:i<=n) (h2:n<=c) (h3:i<c):aZ T az (.slc (some (a,o)) n c false) (some (.int .i64 (i:Nat))) none none=some (.slc (some (a,o+i*2)) (n - i) (c - i) false):=by
 have e2:¬ c=i:=by omega
 simp [aZ,bF,jR,cN,sM,pN,wS,e2,b,h2]
theorem RL {a o n c i:Nat} (b:i<=c):aZ T az (.slc (some (a,o)) n c true) none (some (.int .i64 (i:Nat))) none=some (.slc (some (a,o)) i c true):=by
 simp [aZ,bF,jR,cN,sM,pN,wS,b]
theorem AE {a b o o2 n n2 c c2 g:Nat} {e e2:Bool} {cs new:List AV} {s:AS} (hd:s.h a=some (.cells cs g false)) (hs:aD s b o2 (min n2 n*2)=some new) (d:new≠[]) (i:o+new.length<=cs.length) :
  qt T az (.slc (some (a,o)) n c e) (.slc (some (b,o2)) n2 c2 e2) s=some (.int .i64 ((min n2 n:Nat):Int),s.put a (.cells (qk cs o new) g false)):=by
 have j:mX 2 (min n2 n) s (.slc (some (b,o2)) n2 c2 e2)=some new:=by
  by_cases k:min n2 n=0
  ·exfalso;rw [k] at hs;unfold aD at hs;split at hs
   ·split at hs
    ·simp at hs;exact d (by first | exact hs | exact hs.symm)
    ·cases hs
   ·cases hs
  ·simp only [mX,if_neg k];exact hs
 simp only [qt,bF,jR,CT,Option.bind_some,j,if_neg d,cK,hd,if_pos i,Option.map_some]
theorem WE {a n c k g:Nat} {ro:Bool} {cs:List AV} {s:AS} (h:s.h a=some (.cells cs g ro)) (hle:n*2<=cs.length) (d:n+k<=2 ^ 30) (b:c<n+k) :
  aI T az tg (.slc (some (a,0)) n c true) (.int .i64 (k:Nat)) s=some (.slc (some (s.nl,0)) (n+k) (n+k) false,s.new (.cells (cs.take (n*2)++rep k [.int .i64 0,.int .u64 0]) 2 false)):=by
 have i:¬ ((2:Nat)≠2\/(k:Int)<0\/2 ^ 40<n+k\/2*((n+k+256)*16)>2 ^ 48\/n+k<=c):=by omega
 have h2:mX 2 n s (.slc (some (a,0)) n c true)=some (cs.take (n*2)):=by
  by_cases e:n=0
  ·subst e;simp [mX]
  ·simp only [mX,if_neg e];rw [um h (by omega),List.drop_zero]
 simp only [aI,bF,OA,if_true,sN,jR,Us,M4,bI,AV.cells,Option.bind_some,Int.toNat_natCast,h2,Option.map_some,List.length_cons,List.length_nil,List.all_cons,List.all_nil,Th,Bool.and_self,Nat.zero_add,Nat.reduceAdd];rw [if_neg i]
theorem U3:Extern.find Tryz.f300=some (Extern.SlicesOverlaps.overlaps #[az,az] #[vM]):=by kernel_rfl
theorem U4:Extern.findNext Tryz.f300=none:=by kernel_rfl
theorem U5 : (Tryz.f300.name == "runtime.NumGoroutine") = false := by kernel_rfl
theorem U6:Tryz.f300.body.isNone=true:=by kernel_rfl
theorem NC {a b:Nat} (h:a+b<=2 ^ 40):IntKind.i64.wrap ((a:Int)+(b:Int))=((a+b:Nat):Int):=by
 rw [IntWalk.i64_in _ (by omega)];rfl
theorem U7 {a b:Nat} (h:a<=2 ^ 40) (hb:b<=a):IntKind.i64.wrap ((a:Int) - (b:Int))=((a - b:Nat):Int):=by
 rw [IntWalk.i64_in _ (by omega)];omega
def PL (cs V:List AV) (i len:Nat):List AV:=cs.take (i*2)++V++(cs.drop (i*2)).take ((len - i)*2)
set_option maxRecDepth 20000 in
theorem ND {s:AS} {l lb cap len i m mc ob gb:Nat} {cs bs:List AV} {eb:Bool} (hl:s.h l=some (.cells cs 2 false)) (bl:cap*2=cs.length) (hlen:len<=cap) (hi:i<len) (hm:0<m) (a5:l≠lb)
  (hb:s.h lb=some (.cells bs gb false)) (a6:gb≠1) (W:ob+m*2<=bs.length) (bm:len+m<=2 ^ 30) (bo:1<=s.st) :
  aa Tryz.prog ek [.slc (some (l,0)) len cap false,.int .i64 (i:Nat),.slc (some (lb,ob)) m mc eb] s
   fun v s'=>v=.slc (some (s.nl+2*s.st,0)) (len+m) (len+m) false/\s'=s.CZ l 2 (.cells (PL cs ((bs.drop ob).take (m*2)) i len) 2 false):=by
 refine aa.UN (sz:=2) hl (by decide) (by omega) ?_;intro x js a7 bx D;have hN:s.h s.nl=none:=by have:=D 0;simpa using this
 have X:s.h (s.nl+s.st)=none:=by have:=D 1;simpa using this
 have F:lb≠s.nl:=fun e=>by rw [e,hN] at hb;cases hb
 have Y:lb≠s.nl+s.st:=fun e=>by rw [e,X] at hb;cases hb
 have b0:l≠s.nl:=fun e=>by rw [e,hN] at hl;cases hl
 generalize hS:(s.kill l).new (.cells (cs++js) 2 false)=S;have A:S.h s.nl=some (.cells (cs++js) 2 false):=by rw [<- hS,AS.ot _ rfl];simp [AS.nY]
 have L:S.h lb=some (.cells bs gb false):=by rw [<- hS,AS.ot _ rfl,AS.rX];simp [AS.nY,F,Ne.symm a5,hb]
 have ao:∀ k ob,k≠l->s.h k=some ob->S.h k=some ob:=by
  intro k p hk G;rw [<- hS,AS.ot _ rfl,AS.rX,AS.nY];rw [if_neg (fun e=>by rw [e,hN] at G;cases G),if_neg hk];exact G
 have d:S.nl=s.nl+s.st:=by rw [<- hS];rfl
 have ap:S.st=s.st:=by rw [<- hS];rfl
 have M:(cs++js).length=(cap+x)*2:=by rw [List.length_append,a7];omega
 generalize hC:cs++js=C at A M;generalize hV:(bs.drop ob).take (m*2)=V;have w:V.length=m*2:=by rw [<- hV,List.length_take,List.length_drop];omega
 have R:V≠[]:=by intro e;rw [e] at w;simp at w;omega
 have f1:=NB (a:=s.nl) (o:=0) (n:=len) (c:=cap+x) (i:=i) (by omega) (by omega) (by omega);simp only [Nat.zero_add] at f1;have f2:((m:Int)==0)=false:=by simp;omega
 have f3:((i:Int)==(len:Int))=false:=by simp;omega
 have f4:IntKind.i64.wrap ((len:Int)+(m:Int))=((len+m:Nat):Int):=NC (by omega);have lB:∀ (a:Option (Nat×Nat)) (n c:Nat) (e:Bool) (s':AS),aQ T az (.slc a n c e) s'=some (.int .i64 (n:Nat)):=by intros;simp [aQ,bF]
 have cB:vP T az (.slc (some (s.nl,0)) len (cap+x) true)=some (.int .i64 ((cap+x:Nat):Int)):=by simp [vP,bF]
 refine jF _ _ _ _ _ ⟨_,f1,_,lB _ _ _ _ _,af.no f2 ⟨_,lB _ _ _ _ _,af.no f3 ⟨_,cB,?_⟩⟩⟩;dsimp only;rw [f4];have ar:aD S s.nl (i*2) ((len - i)*2)=some ((C.drop (i*2)).take ((len - i)*2)):=um A (by omega);generalize H:(C.drop (i*2)).take ((len - i)*2)=Tl at ar;have r:Tl.length=(len - i)*2:=by rw [<- H,List.length_take,List.length_drop];omega
 have I:Tl≠[]:=by intro e;rw [e] at r;simp at r;omega
 have b1:aD S lb ob (m*2)=some V:=by rw [um L W,hV]
 have ab:∀ k,k<len*2->C[k]? = cs[k]? := by
  intro k hk;rw [<- hC,List.getElem?_append_left (by omega)]
 have J:Tl=(cs.drop (i*2)).take ((len - i)*2):=by
  rw [<- H];apply List.ext_getElem?;intro k;rw [List.getElem?_take,List.getElem?_take,List.getElem?_drop,List.getElem?_drop];split
  ·exact ab _ (by omega)
  ·rfl
 refine af.dec (fun O=>?_) (fun O=>?_)
 ·have ad:cap+x<len+m:=by omega
  have a8:=RL (a:=s.nl) (o:=0) (n:=len) (c:=cap+x) (i:=i) (by omega);have a9:IntKind.i64.wrap (((len+m:Nat):Int) - (i:Int))=((len+m - i:Nat):Int):=U7 (by omega) (by omega);have Q:=WE (k:=len+m - i) (n:=i) (c:=cap+x) A (by omega) (by omega) (by omega);rw [show i+(len+m - i)=len+m by omega] at Q;generalize hZ:C.take (i*2)++rep (len+m - i) [AV.int .i64 0,AV.int .u64 0]=Z at Q;have b2:Z.length=(len+m)*2:=by rw [<- hZ,List.length_append,List.length_take,uf];simp;omega
  generalize K:S.new (.cells Z 2 false)=S3 at Q;have a':S3.h S.nl=some (.cells Z 2 false):=by rw [<- K,AS.ot _ rfl,if_pos rfl]
  have U:s.nl≠S.nl:=by rw [d];omega
  have ba:S3.h s.nl=some (.cells C 2 false):=by rw [<- K,AS.ot _ rfl,if_neg U];exact A
  have bb:S3.h lb=some (.cells bs gb false):=by rw [<- K,AS.ot _ rfl,if_neg (by rw [d];exact Y)];exact L
  have aw:=OG (a:=S.nl) (o:=0) (n:=len+m) (c:=len+m) (i:=i) (by omega) (by omega) (by omega);have a0:=AE (a:=S.nl) (b:=lb) (o:=i*2) (o2:=ob) (n:=len+m - i) (n2:=m) (c:=len+m - i) (c2:=mc) (e:=false) (e2:=eb) (new:=V) a' (by rw [show min m (len+m - i)=m by omega,um bb W,hV]) R (by omega);generalize j:S3.put S.nl (.cells (qk Z (i*2) V) 2 false)=S4 at a0;have ae:S4.h S.nl=some (.cells (qk Z (i*2) V) 2 false):=by rw [<- j,AS.oq _ _ rfl,if_pos rfl]
  have bc:S4.h s.nl=some (.cells C 2 false):=by rw [<- j,AS.oq _ _ rfl,if_neg U];exact ba
  have bd:IntKind.i64.wrap ((i:Int)+(m:Int))=((i+m:Nat):Int):=NC (by omega);have a1:=OG (a:=S.nl) (o:=0) (n:=len+m) (c:=len+m) (i:=i+m) (by omega) (by omega) (by omega);have a2:=AE (a:=S.nl) (b:=s.nl) (o:=(i+m)*2) (o2:=i*2) (n:=len+m - (i+m)) (n2:=len - i) (c:=len+m - (i+m)) (c2:=cap+x - i) (e:=false) (e2:=true) (new:=Tl) ae (by rw [show min (len - i) (len+m - (i+m))=len - i by omega,um bc (by omega),H]) I (by rw [gY];omega);simp only [Nat.zero_add] at aw a1;generalize y:S4.put S.nl (.cells (qk (qk Z (i*2) V) ((i+m)*2) Tl) 2 false)=S5 at a2;refine ⟨_,a8,?_⟩;dsimp only;rw [a9];refine ⟨_,_,Q,_,aw,_,_,a0,?_⟩;dsimp only;rw [bd];refine ⟨_,a1,_,f1,_,_,a2,?_⟩;have al:S5.h S.nl=some (.cells (qk (qk Z (i*2) V) ((i+m)*2) Tl) 2 false):=by rw [<- y,AS.oq _ _ rfl,if_pos rfl]
  have z:∀ k ob,k≠l->s.h k=some ob->S5.h k=some ob:=by
   intro k p hk G;have B:k≠S.nl:=fun e=>by rw [e,d,X] at G;cases G
   rw [<- y,AS.oq _ _ rfl,if_neg B,<- j,AS.oq _ _ rfl,if_neg B,<- K,AS.ot _ rfl,if_neg B];exact ao k p hk G
  refine ⟨⟨2,Nat.le_refl 2,?_⟩,z,.inr ⟨S.nl,rfl,by rw [d];exact X,?_,?_⟩⟩
  ·rw [<- y,AS.Bp,<- j,AS.Bp,<- K,AS.tY,d,ap];omega
  ·rw [al];congr 2;unfold PL;rw [<- J];apply List.ext_getElem?;intro k;rw [jH _ _ _ _ (by rw [gY];omega),jH _ _ _ _ (by omega),r,w];rw [List.getElem?_append,List.getElem?_append,List.length_append,List.length_take,w];by_cases k1:k<i*2
   ·rw [if_neg (by omega),if_neg (by omega),if_pos (by omega),if_pos (by omega),<- hZ,List.getElem?_append_left (by rw [List.length_take];omega),List.getElem?_take,List.getElem?_take,if_pos k1,if_pos k1];exact ab k (by omega)
   ·by_cases k2:k<(i+m)*2
    ·rw [if_neg (by omega),if_pos (by omega),if_pos (by omega),if_neg (by omega)];congr 1;omega
    ·by_cases k3:k<(len+m)*2
     ·rw [if_pos (by omega),if_neg (by omega)];congr 1;omega
     ·rw [if_neg (by omega),if_neg (by omega),if_neg (by omega),List.getElem?_eq_none (by omega),List.getElem?_eq_none (by omega)]
  ·unfold PL;rw [<- J,List.length_append,List.length_append,List.length_take,w,r];omega
 ·have ad:¬ cap+x<len+m:=by omega
  have be:=RL (a:=s.nl) (o:=0) (n:=len) (c:=cap+x) (i:=len+m) (by omega);have bh:IntKind.i64.wrap ((i:Int)+(m:Int))=((i+m:Nat):Int):=NC (by omega);have am:=NB (a:=s.nl) (o:=0) (n:=len+m) (c:=cap+x) (i:=i+m) (by omega) (by omega) (by omega);have an:=NB (a:=s.nl) (o:=0) (n:=len+m) (c:=cap+x) (i:=i) (by omega) (by omega) (by omega);simp only [Nat.zero_add] at am an;have bi:aD S s.nl (i*2) (min (len+m - i) (len+m - (i+m))*2)=some Tl:=by rw [show min (len+m - i) (len+m - (i+m))=len - i by omega];exact ar
  have a3:=AE (a:=s.nl) (b:=s.nl) (o:=(i+m)*2) (o2:=i*2) (n:=len+m - (i+m)) (n2:=len+m - i) (c:=cap+x - (i+m)) (c2:=cap+x - i) (e:=true) (e2:=true) (new:=Tl) A bi I (by omega);generalize j:S.put s.nl (.cells (qk C ((i+m)*2) Tl) 2 false)=S4 at a3;have ae:S4.h s.nl=some (.cells (qk C ((i+m)*2) Tl) 2 false):=by rw [<- j,AS.oq _ _ rfl,if_pos rfl]
  have bj:S4.h lb=some (.cells bs gb false):=by rw [<- j,AS.oq _ _ rfl,if_neg F];exact L
  have a4:=AE (a:=s.nl) (b:=lb) (o:=i*2) (o2:=ob) (n:=len+m - i) (n2:=m) (c:=cap+x - i) (c2:=mc) (e:=true) (e2:=eb) (new:=V) ae (by rw [show min m (len+m - i)=m by omega,um bj W,hV]) R (by rw [gY];omega);generalize y:S4.put s.nl (.cells (qk (qk C ((i+m)*2) Tl) (i*2) V) 2 false)=S5 at a4;have bk:=CY (g:=mq) (tR:=vM) (na:=m) (ca:=mc) (ea:=eb) (oa:=ob) (ob:=(i+m)*2) (nb:=len+m - (i+m)) (cb:=cap+x - (i+m)) (eb:=true) hT Tryz.func300 U5 U6 U4 U3 bF jR L a6 A (by intro e;rw [e] at M;simp at M;omega) F;refine ⟨_,be,?_⟩;dsimp only;rw [bh];refine ⟨_,am,bk.mono ?_⟩;rintro v s' ⟨rfl,rfl⟩;refine ⟨_,rfl,af.yes rfl ⟨_,am,_,an,_,_,a3,_,an,_,_,a4,?_⟩⟩;have al:S5.h s.nl=some (.cells (qk (qk C ((i+m)*2) Tl) (i*2) V) 2 false):=by rw [<- y,AS.oq _ _ rfl,if_pos rfl]
  have z:∀ k ob,k≠l->s.h k=some ob->S5.h k=some ob:=by
   intro k p hk G;have B:k≠s.nl:=fun e=>by rw [e,hN] at G;cases G
   rw [<- y,AS.oq _ _ rfl,if_neg B,<- j,AS.oq _ _ rfl,if_neg B];exact ao k p hk G
  refine ⟨⟨1,by omega,?_⟩,z,.inl ⟨rfl,by omega,_,al,?_,?_⟩⟩
  ·rw [<- y,AS.Bp,<- j,AS.Bp,d];omega
  ·rw [gY,gY,M];omega
  ·unfold PL;rw [<- J];apply List.ext_getElem?;intro k;rw [List.getElem?_take,List.drop_zero,jH _ _ _ _ (by rw [gY];omega),jH _ _ _ _ (by omega),r,w];rw [List.getElem?_append,List.getElem?_append,List.length_append,List.length_take,w];by_cases k1:k<i*2
   ·rw [if_pos (by omega),if_neg (by omega),if_neg (by omega),if_pos (by omega),if_pos (by omega),List.getElem?_take,if_pos k1];exact ab k (by omega)
   ·by_cases k2:k<(i+m)*2
    ·rw [if_pos (by omega),if_pos (by omega),if_pos (by omega),if_neg (by omega)];congr 1;omega
    ·by_cases k3:k<(len+m)*2
     ·rw [if_pos (by omega),if_neg (by omega),if_pos (by omega),if_neg (by omega)];congr 1;omega
     ·rw [if_neg (by omega),if_neg (by omega),List.getElem?_eq_none (by omega)]
end Go.Proofs.YtohgmogbabkkeaaGreat
end

section
namespace Go.Proofs.YtohgmogbabkkeaaGreat
open Go.Am Go.au
theorem PM {s:AS} {v:AV} {l:List aJ} {d:aJ} {i lb:Nat} (g:br aN 2 s v l) (hb:s.h lb=some (.cells (aN d) 0 false)) (hi:i<=l.length) (A:l.length+1<=2 ^ 30) :
  aa Tryz.prog ek [v,.int .i64 (i:Nat),.slc (some (lb,0)) 1 1 true] s fun r s'=>br aN 2 s' r (l.take i++d::l.drop i)/\bD (ay v) s s'/\(∀ la∈ay r,la∈ay v\/s.h la=none):=by
 refine aa.pre fun n=>?_;have j:=g.sl bn;have k:GI s (.slc (some (lb,0)) 1 1 true) [d]:=cq.mk ⟨_,_,hb⟩ rfl rfl;by_cases B:i=l.length
 ·subst B;have b:v≠.emp:=by rcases g with ⟨_,a,rfl⟩ | ⟨la,rfl,_⟩ <;> (intro h;cases h)
  obtain ⟨w,D,_⟩:=j.from bn bF jR b (Nat.le_refl _) .i64
  obtain ⟨v',s',h2,h3,h4,H,F⟩:=br.append iK bn mE n g k (by simpa using A) bF;refine jF _ _ _ _ _ ⟨_,D,_,k.cI bF _,af.no rfl ⟨_,j.cI bF _,af.yes (by simp) ⟨_,_,h2,?_,h4,F⟩⟩⟩;rw [List.take_of_length_le (Nat.le_refl _),List.drop_of_length_le (Nat.le_refl _)];exact h3
 ·rcases g with ⟨rfl,_⟩ | ⟨la,rfl,c⟩
  ·simp at hi;subst hi;exact absurd rfl B
  ·have b:la≠lb:=by
    rintro rfl;rw [hb] at c;simp at c
   refine (ND (i:=i) c (by rw [d_ bn]) (Nat.le_refl _) (by omega) (by omega) b hb (by decide) (by simp [aN]) A n.1).mono ?_;rintro r s' ⟨rfl,rfl⟩;have m:s.h (s.nl+2*s.st)=none:=n.2 2;have p:PL (l.flatMap aN) (((aN d).drop 0).take (1*2)) i l.length=(l.take i++d::l.drop i).flatMap aN:=by
    unfold PL;rw [sY bn,qo bn,show ((l.drop i).flatMap aN).take ((l.length - i)*2)=(l.drop i).flatMap aN from List.take_of_length_le (by rw [d_ bn,List.length_drop];exact Nat.le_refl _)];simp [aN]
   refine ⟨.inr ⟨s.nl+2*s.st,?_,?_⟩,⟨fun x o G z=>?_,?_⟩,fun y C=>?_⟩
   ·have:(l.take i++d::l.drop i).length=l.length+1:=by simp;omega
    rw [this]
   ·rw [AS.Bz _ _ _ rfl,if_pos rfl,p]
   ·rw [AS.Bz _ _ _ rfl,if_neg (fun e=>by rw [e,m] at z;cases z),if_neg (by simpa [ay] using G)];exact z
   ·show s.nl<=s.nl+2*s.st+s.st;omega
   ·simp only [ay,List.mem_singleton] at C;subst C;exact .inr m
def kX (v:List Int) (ex:List aJ) (d:aJ):Bool×Int×List Int×List aJ :=
 if d.may=false then (false,2,v,ex)
 else if fo v ex d then (false,0,v,ex)
 else if 4096<(compact v (ins ex d)).2.length then (false,5,v,ex)
 else (true,0,compact v (ins ex d))
theorem Li {s:AS} {p:Nat} {v:List Int} {ex:List aJ} (h:wR s p v ex) (hv:EH v) (hr:dZ ex) (hm:∀ d∈ex,d.may=true) (hn:ex.length+1<2 ^ 30) (d:aJ) :
  aa Tryz.prog sk [.ptr (some (p,0)),.agg (aN d)] s fun r s'=>r=.aP [.bool (kX v ex d).1,.int .i64 (kX v ex d).2.1]/\wR s' p (kX v ex d).2.2.1 (kX v ex d).2.2.2/\bD [p] s s'/\((kX v ex d).1=false->Ext s s')/\((kX v ex d).1=true->uR s s' p (kX v ex d).2.2.1 (kX v ex d).2.2.2):=by
 refine aa.pre fun hw=>GA _ _ _ _ ⟨rfl,aj.intro hw rfl fun l1 s2 F1=>?_⟩;refine aa.use (uQ (h.ext F1.ext)) ?_;rintro r s4 ⟨rfl,rfl⟩ bi;refine ⟨_,rfl,af.no rfl ⟨_,F1.own.at.aD (by simp [aN]),?_⟩⟩;refine aa.use (qR d _) ?_;rintro r s8 ⟨rfl,e8⟩ bj;have E8:=F1.ext.trans e8;refine ⟨_,rfl,af.mk (fun hd=>?_) (fun hd=>?_)⟩
 ·simp only [Bool.not_eq_true'] at hd;have:kX v ex d=(false,2,v,ex):=by simp [kX,hd]
  rw [this];exact ⟨rfl,h.ext E8,E8.mut,(fun _=>E8),fun h=>absurd h (by simp)⟩
 simp only [Bool.not_eq_false'] at hd;refine ⟨_,(F1.own.ext e8).at.aD (by simp [aN]),?_⟩;refine aa.use (y_ (h.ext E8) hr (by omega) d) ?_;rintro r dI ⟨rfl,W⟩ an;have j:=E8.trans W;refine ⟨_,rfl,af.mk (fun hh=>?_) (fun hh=>?_)⟩
 ·have:kX v ex d=(false,0,v,ex):=by simp [kX,hd,hh]
  rw [this];exact ⟨rfl,h.ext j,j.mut,(fun _=>j),fun h=>absurd h (by simp)⟩
 have be:d ∉ ex:=by
  intro a3;simp [fo,hd,a3] at hh
 obtain ⟨O,w,h2,h3,h4⟩:=h;have hlen:=AD O w;refine ⟨_,(h2.ext j).at.aD (by rw [hlen];omega),?_⟩;have hg:((v.map (AV.int .u64)++[w,.bool true]).drop 0).take 18=v.map (AV.int .u64)++[w,.bool true]:=by
  rw [List.drop_zero,List.take_of_length_le (by rw [hlen];exact Nat.le_refl _)]
 rw [hg];refine lq an hlen rfl (by simp [h3]) fun G gz B=>?_;have X:=j.trans B.ext;refine ⟨fun _ _ _ _=>True,fun _ _ r=>r=.aP [.int .i64 (pos ex d:Nat),.bool (decide (d∈ex))],fun _ _ _ _ _ _ _=>trivial,w,by rw [(h2.ext X).at.av];exact BY O w,_,(F1.own.ext (e8.trans (W.trans B.ext))).at.aD (by simp [aN]),fun bk a4 _ _=>?_,⟨_,rfl⟩,?_⟩
 ·refine (Fl (h4.ext (X.trans a4)) (by omega) hr d).mono ?_;rintro r s' ⟨rfl,e⟩;exact ⟨_,_,rfl,e,trivial,rfl⟩
 rintro r rfl;refine ⟨_,_,rfl,fun Q Y _ _=>?_⟩;have H:=X.trans Y;have Z:=B.own.ext Y;refine ⟨fun i _ r s'=>(i=4->aU aN 2 [] Q s' r ex)/\(i=7->∃ lb,r=.slc (some (lb,0)) 1 1 true/\s'.h lb=some (.cells (aN d) 0 false)),fun i _ r=>i=7->∃ lb,r=.slc (some (lb,0)) 1 1 true,?_,w,by rw [(h2.ext H).at.av];exact BY O w,fun mK ab _ _=>?_,⟨.undef,(fun h=>by cases h)⟩,fun xN _=>⟨_,(F1.own.ext (e8.trans (W.trans (B.ext.trans Y)))).at.aD (by simp [aN]),?_⟩⟩
 ·rintro i k r s s' e ⟨ha,hb⟩;refine ⟨fun hi=>(ha hi).step e,fun hi=>?_⟩;obtain ⟨lb,O,h2⟩:=hb hi;exact ⟨lb,O,e.1 _ _ h2⟩
 ·refine (Lh (h4.ext (H.trans ab)) (by omega)).mono fun r s' g=>⟨g.eL.ext,⟨(fun _=>⟨g.vq,ab.mut.trans g.eL,fun la ad=>ab.none (g.new la ad)⟩),(fun h=>by cases h)⟩,(fun h=>by cases h)⟩
 refine ⟨fun bl bm a5 _=>⟨_,kh iK (c:=aN d) rfl rfl,?_⟩,⟨.slc (some (0,0)) 1 1 true,fun _=>⟨0,rfl⟩⟩,fun a6 bh ao I _ hS=>?_⟩
 ·exact aj.intro a5 rfl fun l bo F=>⟨F.ext,⟨(fun h=>by cases h),fun _=>⟨l,rfl,F.at⟩⟩,fun _=>⟨l,rfl⟩⟩
 obtain ⟨ap,lb,rfl,a7⟩:aU aN 2 [] Q ao xN ex/\∃ lb,a6=.slc (some (lb,0)) 1 1 true/\ao.h lb=some (.cells (aN d) 0 false):=⟨hS.1.1 rfl,hS.2.1.2 rfl⟩;refine aa.use (PM ap.vq a7 (Ib ex d) (by omega)) ?_;rintro r bs ⟨ae,K,a8⟩ ar;have m:∀ x,(∃ o,Q.h x=some o)->x ∉ ay xN:=by
  rintro x ⟨o,J⟩ A;rw [ap.new x A] at J;cases J
 have al:∀ x,(∃ o,Q.h x=some o)->x ∉ ay r:=by
  rintro x ⟨o,J⟩ A;rcases a8 x A with h | h
  ·exact m x ⟨o,J⟩ h
  ·rw [I.1 _ _ J] at h;cases h
 have aw:=(Z.ext I).mut K (m G ⟨_,Z⟩);have R:r.one=true:=by rcases ae with ⟨_,a,rfl⟩ | ⟨la,rfl,_⟩ <;> rfl
 refine cM R z6 (bt.own ar aw (by rw [hlen];simp) fun a9 P=>?_);have a0:(ex.take (pos ex d)++d::ex.drop (pos ex d))=ins ex d:=rfl;rw [a0] at ae;have hP:=P.at;rw [fy,List.set_append_right _ _ (by simp [O])] at hP;simp only [List.length_map,O,Nat.sub_self,List.set_cons_zero] at hP;have a':wR a9 G v (ins ex d):=⟨O,r,hP,R,(ae.mut (L:=[G]) P.mut (fun x A=>by simp only [List.mem_singleton];rintro rfl;exact al _ ⟨_,Z⟩ A)).sl bn⟩;have ba:∀ x∈ins ex d,x.may=true:=by
  intro x A;rcases uv.1 A with rfl | A
  ·exact hd
  ·exact hm x A
 refine aa.use (Dn a' hv ba (by rw [xF];omega)) ?_;rintro r2 Ht ⟨rfl,bb,am⟩ a1;have hp:Am.Own Ht p (v.map (.int .u64)++[w,.bool true]):=by
  have S:=h2.ext H;have D:p ∉ [G]:=by
   simp only [List.mem_singleton];rintro rfl;have:=B.no;rw [h2.ext j] at this;cases this
  exact ((((S.ext I).mut K (m p ⟨_,S⟩)).mut P.mut D).mut am D)
 have z:bD [p] s Ht:=by
  refine ⟨fun x o A J=>?_,?_⟩
  ·have M:=H.1 _ _ J;have D:x ∉ [G]:=by
    simp only [List.mem_singleton];rintro rfl;have:=B.no;rw [j.1 _ _ J] at this;cases this
   exact am.1 _ _ D (P.mut.1 _ _ D (K.1 _ _ (m x ⟨_,M⟩) (I.1 _ _ M)))
  ·exact Nat.le_trans H.2 (Nat.le_trans I.2 (Nat.le_trans K.2 (Nat.le_trans P.mut.2 am.2)))
 obtain ⟨k1,w',k2,k3,kg,kn⟩:=bb;have k4:=kg.sl bn;have a2:∀ la∈ay w',s.h la=none:=by
  intro la ad;cases hq:s.h la with
  | none=>rfl
  | some o =>
   exfalso;have M:=H.1 _ _ hq;have D:la ∉ [G]:=by
    simp only [List.mem_singleton];rintro rfl;have:=B.no;rw [j.1 _ _ hq] at this;cases this
   have:=P.mut.1 _ _ D (K.1 _ _ (m la ⟨_,M⟩) (I.1 _ _ M));rw [kn la ad] at this;cases this
 refine ⟨rfl,w',by rw [k2.at.av];exact BY k1 w',_,k4.cI bF _,af.dec (fun bx=>?_) (fun hle=>?_)⟩
 ·have:kX v ex d=(false,5,v,ex):=by
   simp only [kX,hd,hh,Bool.true_eq_false,Bool.false_eq_true,if_false];rw [if_pos (by omega)]
  rw [this];refine ⟨rfl,⟨O,w,hp,h3,?_⟩,z,(fun _=>⟨fun x o J=>?_,z.2⟩),fun h=>absurd h (by simp)⟩;rotate_left
  ·by_cases A:x=p
   ·subst A;rw [show s.h x=_ from h2] at J;rw [<- J];exact hp
   ·exact z.1 x o (by simpa using A) J
  refine Sl.mut h4 z bn (by decide) fun q hq C hC x A i c hc he=>?_;obtain rfl:q=p:=by simpa using hq
  obtain rfl:=hC.inj h2.at;simp only [aN,List.getElem?_cons_zero,Option.some.injEq] at hc;subst hc;rcases List.mem_append.1 (List.mem_of_getElem? he) with h | h
  ·obtain ⟨y,_,hy⟩:=List.mem_map.1 h;cases hy
  ·rcases List.mem_cons.1 h with rfl | h
   ·exact qe h4 _ _ rfl
   ·simp at h
 ·have:kX v ex d=(true,0,compact v (ins ex d)):=by
   simp only [kX,hd,hh,Bool.true_eq_false,Bool.false_eq_true,if_false];rw [if_neg (by omega)]
  rw [this];have b:=AD k1 w';have bc:(((compact v (ins ex d)).1.map (AV.int .u64)++[w',.bool true]).drop 0).take 18=(compact v (ins ex d)).1.map (AV.int .u64)++[w',.bool true]:=by
   rw [List.drop_zero,List.take_of_length_le (by rw [b];exact Nat.le_refl _)]
  refine ⟨_,k2.at.aD (by rw [b];omega),?_⟩;rw [bc];refine ⟨⟨by simp [k3],by rw [b]⟩,bt.own a1 hp (by rw [hlen,b];omega) fun bd P2=>?_⟩;have U:Am.Own bd p ((compact v (ins ex d)).1.map (AV.int .u64)++[w',.bool true]):=by
   have:=P2.at;rw [dz (by rw [hlen,b])] at this;exact this
  refine ⟨rfl,⟨k1,w',U,k3,?_⟩,z.trans P2.mut,(fun h=>absurd h (by simp)),fun _=>⟨k1,w',U,k3,kg.mut P2.mut fun x A hm=>?_,a2⟩⟩;rotate_left
  ·obtain rfl:=List.mem_singleton.1 hm;have:=a2 x A;rw [h2] at this;cases this
  ·refine BZ k4 hp.at (x:=[w,.bool true]) ?_ P2.mut;intro y hy n;rcases List.mem_cons.1 hy with rfl | hy
   ·exact qe h4 _ _
   ·obtain rfl:y=.bool true:=by simpa using hy
    intro h;cases h
end Go.Proofs.YtohgmogbabkkeaaGreat
end

section
namespace Go.Proofs.YtohgmogbabkkeaaGreat
open Go.Am Go.au
def za (v:List Int) (ex:List aJ) (d:aJ):List Int×List aJ:=if fo v ex d then (v,ex) else compact v (ins ex d)
end Go.Proofs.YtohgmogbabkkeaaGreat
end

section
namespace Go.Proofs.YtohgmogbabkkeaaGreat
open Go.Am Go.au
theorem own:ownKnob Tryz.prog.godebug=none:=by kernel_rfl
set_option maxRecDepth 100000
theorem laid:laidOutB Tryz.prog=true:=by kernel_rfl
end Go.Proofs.YtohgmogbabkkeaaGreat
end

section
namespace Go.Proofs.YtohgmogbabkkeaaGreat
open Go.Am Go.au Go.ChangeShapes Go.WideShapes Go.ChangeAt Go.RowKit
structure Lj (v:List Int) (ex:List aJ):Prop where
 v:EH v
 r:dZ ex
 m:∀ d∈ex,d.may=true
theorem Lj.add {v:List Int} {ex:List aJ} (h:Lj v ex) {d:aJ} (hd:d.may=true):Lj (za v ex d).1 (za v ex d).2:=by
 unfold za;split
 ·exact h
 ·rename_i j;have b:d ∉ ex:=fun i=>j (by simp [fo,hd,i]);have c:∀ x∈ins ex d,x.may=true:=by
   intro x e;rcases uv.1 e with rfl | e
   ·exact hd
   ·exact h.m x e
  have hs:=rD v (ins ex d);exact ⟨MO h.v c,(h.r.ins b).sub hs,fun x e=>c x (hs.subset e)⟩
theorem RM {v:List Int} {ex:List aJ} {d:aJ}:(za v ex d).2.length<=ex.length+1:=by
 unfold za;split
 ·simp
 ·have:=(rD v (ins ex d)).length_le;rw [xF] at this;exact this
theorem RN {v:List Int} {ex:List aJ} {d:aJ} (hd:d.may=true) (c:ex.length<4096):kX v ex d=(!fo v ex d,0,za v ex d):=by
 have b:=(rD v (ins ex d)).length_le;rw [xF] at b;unfold kX za;rw [hd];simp only [Bool.true_eq_false,if_false];cases fo v ex d with
 | true=>simp
 | false=>simp only [Bool.false_eq_true,if_false,Bool.not_false];rw [if_neg (by omega)]
theorem Lj.zero:Lj dD []:=⟨⟨rfl,by decide⟩,List.Pairwise.nil,by simp⟩
theorem Ext.wr {s s1 s2:AS} {p:Nat} (e:Ext s s1) (c:s.h p=none) (m:bD [p] s1 s2):Ext s s2 :=
 ⟨fun x o b=>m.1 x o (by simp only [List.mem_singleton];rintro rfl;rw [c] at b;cases b) (e.1 x o b),Nat.le_trans e.2 m.2⟩
end Go.Proofs.YtohgmogbabkkeaaGreat
end

section
namespace Go.Proofs.YtohgmogbabkkeaaGreat
open Go.Am Go.au Go.ChangeShapes Go.WideShapes Go.ChangeAt Go.RowKit
structure Wm (v:List Int):Prop where
 len:v.length=16
 Wk:∀ x∈v,0<=x/\x<=18446744073709551615
theorem U8:places T nK=some [(0,16),(16,1),(17,1)]:=by kernel_rfl
theorem NF {l:List AV} (h:l.all AV.one=true):bI (.agg l)=some l:=by rw [MF,if_pos h]
theorem Lk {v:AV} (h:v.one=true):bI v=some [v]:=by cases v <;> first | rfl | cases h
theorem PN {v:List Int} (h:v.length=16) {w:AV} (b:w.one=true):aS T nK [(0,.agg (v.map (.int .u64))),(1,w),(2,.bool true)]=some (.agg (v.map (.int .u64)++[w,.bool true])):=by
 rw [qp U8 M5 rfl];have d:=nj (pl:=fun i=>[(0,16),(16,1),(17,1)][i]?) (pre:=[]) (mid:=dD.map (.int .u64)) (post:=[.slc none 0 0 true,.bool false]) (c:=v.map (.int .u64)) (i:=0) (sz:=16) (v:=.agg (v.map (.int .u64))) (rest:=[(1,w),(2,.bool true)]) rfl (NF (bT _ _)) (by simp [h]) rfl;have e1:=nj (pl:=fun i=>[(0,16),(16,1),(17,1)][i]?) (pre:=v.map (.int .u64)) (mid:=[.slc none 0 0 true]) (post:=[.bool false]) (c:=[w]) (i:=1) (sz:=1) (v:=w) (rest:=[(2,.bool true)]) (by simp [h]) (Lk b) rfl rfl;have e2:=nj (pl:=fun i=>[(0,16),(16,1),(17,1)][i]?) (pre:=v.map (.int .u64)++[w]) (mid:=[.bool false]) (post:=[]) (c:=[.bool true]) (i:=2) (sz:=1) (v:=.bool true) (rest:=[]) (by simp [h]) rfl rfl rfl;refine (congrArg (Option.map AV.agg) d).trans ?_;simp only [List.nil_append];rw [show v.map (AV.int .u64)++[.slc none 0 0 true,.bool false]=v.map (AV.int .u64)++[.slc none 0 0 true]++[.bool false] by simp,e1];rw [show v.map (AV.int .u64)++[w]++[.bool false]=v.map (AV.int .u64)++[w]++[.bool false]++[] by simp,e2];simp [jc]
theorem Tz {v:List Int} (h:v.length=16) {i:Nat} (hi:i<16):jd T aY (.agg (v.map (.int .u64))) (.int .i64 (i:Nat))=some (.int .u64 (v.getD i 0)):=by
 have:(0:Int)<=(i:Int)/\(i:Int)<((16:Nat):Int):=by omega
 simp only [jd,wJ,jz,Option.bind_some,if_pos this,By BG,Int.toNat_natCast,Nat.mul_one,List.getElem?_map];rw [List.getElem?_eq_getElem (by omega),List.getD_eq_getElem?_getD,List.getElem?_eq_getElem (by omega)];rfl
end Go.Proofs.YtohgmogbabkkeaaGreat
end

section
namespace Go.Proofs.YtohgmogbabkkeaaGreat
open Go.Am Go.au Go.ChangeShapes Go.WideShapes Go.ChangeAt Go.RowKit
theorem TA {s b:AS} {v:AV} {l:List aJ} (e:Ext s b) (h:GI b v l) (d:l.length<=2 ^ 30):aa Tryz.prog aF [v] b fun r s'=>Ext b s'/\(br aN 2 s' r l/\(∀ la∈ay r,s.h la=none)/\r≠.emp/\r.one=true):=by
 refine (Lh h d).mono ?_;intro r s' g;exact ⟨g.eL.ext,g.vq,fun la c=>e.none (g.new la c),g.iX⟩
end Go.Proofs.YtohgmogbabkkeaaGreat
end

section
namespace Go.Proofs.YtohgmogbabkkeaaGreat
open Go.Am Go.au Go.ChangeShapes Go.WideShapes Go.ChangeAt Go.RowKit
theorem Ll:∀ (l:List aJ) (st:List Int×List aJ),EH st.1->dZ l->(∀ d∈l,d.may=true) ->
  (∀ y∈st.2,y.may=true/\st.1.getD (y.r - 1).toNat 0+1<y.c/\∀ d∈l,y.lt d=true) ->
  ∀ y∈(l.foldl fV st).2,(l.foldl fV st).1.getD (y.r - 1).toNat 0+1<y.c
 | [],st,hv,hr,hm,h=>fun y b=>(h y b).2.1
 | d::l,st,hv,hr,hm,h=>by
  have hd:=aJ.gD.1 (hm d (by simp));obtain ⟨k,m⟩:=List.pairwise_cons.1 hr;refine Ll l (fV st d) (EI hv (hm d (by simp))) m (fun x i=>hm x (by simp [i])) ?_;intro y b;unfold fV at b ⊢;split at b
  ·rename_i n;rw [if_pos n];exact ⟨(h y b).1,(h y b).2.1,fun x i=>(h y b).2.2 x (by simp [i])⟩
  ·rename_i n;rw [if_neg n];split at b
   ·rename_i j;rw [if_pos j];obtain ⟨p,h2,h3⟩:=h y b;refine ⟨p,?_,fun x i=>h3 x (by simp [i])⟩;have w:=aJ.gD.1 p;have z:=aJ.lt_iff.1 (h3 d (by simp));have o:(d.r - 1).toNat≠(y.r - 1).toNat:=by
     intro e;have:y.r=d.r:=by omega
     rw [this] at h2;omega
    simp only [List.getD_eq_getElem?_getD] at h2 ⊢;rw [List.getElem?_set_ne o];exact h2
   ·rename_i j;rw [if_neg j];simp only [List.mem_append,List.mem_singleton] at b;rcases b with b | rfl
    ·exact ⟨(h y b).1,(h y b).2.1,fun x i=>(h y b).2.2 x (by simp [i])⟩
    ·refine ⟨hm y (by simp),?_,k⟩;show st.1.getD (y.r - 1).toNat 0+1<y.c;omega
def RP (v:List Int) (ex:List aJ):Prop:=∀ y∈ex,v.getD (y.r - 1).toNat 0+1<y.c
theorem RP.add {v:List Int} {ex:List aJ} (h:Lj v ex) (g:RP v ex) {d:aJ} (hd:d.may=true):RP (za v ex d).1 (za v ex d).2:=by
 unfold za;split
 ·exact g
 ·rename_i j;have b:d ∉ ex:=fun c=>j (by simp [fo,hd,c]);have e:∀ x∈ins ex d,x.may=true:=by
   intro x i;rcases uv.1 i with rfl | i
   ·exact hd
   ·exact h.m x i
  exact Ll (ins ex d) (v,[]) h.v (h.r.ins b) e (by simp)
end Go.Proofs.YtohgmogbabkkeaaGreat
end

section
namespace Go.Proofs.YtohgmogbabkkeaaGreat
open Go.Am Go.au
theorem tJ {v:List Int} {ex:List aJ} {d:aJ}:fo v ex d=true↔d.may=true/\(d∈ex\/d.c<=v.getD (d.r - 1).toNat 0):=by
 simp [fo]
theorem Fm (x:aJ) (k:x.may=true):∀ (l:List aJ) (st:List Int×List aJ),EH st.1->(∀ d∈l,d.may=true) ->
  ((x∈(l.foldl fV st).2\/x.c<=(l.foldl fV st).1.getD (x.r - 1).toNat 0)↔(x∈l\/x∈st.2\/x.c<=st.1.getD (x.r - 1).toNat 0))
 | [],st,_,_=>by simp
 | d::l,st,hv,hm=>by
  have hd:=hm d (by simp);have n:=Fm x k l (fV st d) (EI hv hd) (fun y o=>hm y (by simp [o]));rw [List.foldl_cons,n];have p:=aJ.gD.1 hd;have w:=aJ.gD.1 k;have hlen:=hv.len;simp only [List.mem_cons];unfold fV;split
  ·rename_i m;constructor
   ·rintro (h | h | h)
    ·exact .inl (.inr h)
    ·exact .inr (.inl h)
    ·exact .inr (.inr h)
   ·rintro ((h | h) | h | h)
    ·subst h;exact .inr (.inr m)
    ·exact .inl h
    ·exact .inr (.inl h)
    ·exact .inr (.inr h)
  ·rename_i m;split
   ·rename_i b;have z:(st.1.set (d.r - 1).toNat d.c).getD (x.r - 1).toNat 0=if x.r=d.r then d.c else st.1.getD (x.r - 1).toNat 0:=by
     simp only [List.getD_eq_getElem?_getD,List.getElem?_set];by_cases e:x.r=d.r
     ·rw [if_pos (by rw [e]),if_pos e,if_pos (by omega)];rfl
     ·rw [if_neg (by omega),if_neg e]
    show (x∈l\/x∈st.2\/x.c<=(st.1.set (d.r - 1).toNat d.c).getD (x.r - 1).toNat 0)↔_;rw [z];by_cases e:x.r=d.r
    ·rw [if_pos e];have i:x=d↔x.c=d.c:=⟨fun h=>by rw [h],fun h=>by cases x;cases d;simp_all⟩;rw [i];rw [<- e] at b;constructor
     ·rintro (h | h | h)
      ·exact .inl (.inr h)
      ·exact .inr (.inl h)
      ·by_cases h2:x.c=d.c
       ·exact .inl (.inl h2)
       ·exact .inr (.inr (by omega))
     ·rintro ((h | h) | h | h)
      ·exact .inr (.inr (by omega))
      ·exact .inl h
      ·exact .inr (.inl h)
      ·exact .inr (.inr (by omega))
    ·rw [if_neg e];have j:x≠d:=fun h=>e (by rw [h]);simp [j]
   ·show (x∈l\/x∈st.2++[d]\/x.c<=st.1.getD (x.r - 1).toNat 0)↔_;simp only [List.mem_append,List.mem_singleton];constructor
    ·rintro (h | (h | h) | h)
     ·exact .inl (.inr h)
     ·exact .inr (.inl h)
     ·exact .inl (.inl h)
     ·exact .inr (.inr h)
    ·rintro ((h | h) | h | h)
     ·exact .inr (.inl (.inr h))
     ·exact .inl h
     ·exact .inr (.inl (.inl h))
     ·exact .inr (.inr h)
theorem Lm {v:List Int} {l:List aJ} (hv:EH v) (hm:∀ d∈l,d.may=true) (x:aJ):fo (compact v l).1 (compact v l).2 x=true↔x.may=true/\(x∈l\/x.c<=v.getD (x.r - 1).toNat 0):=by
 rw [tJ];constructor
 ·rintro ⟨b,h2⟩;have:=(Fm x b l (v,[]) hv hm).1 h2;exact ⟨b,by simpa using this⟩
 ·rintro ⟨b,h2⟩;exact ⟨b,(Fm x b l (v,[]) hv hm).2 (by simpa using h2)⟩
theorem Ln {v:List Int} {ex:List aJ} (h:Lj v ex) {d:aJ} (hd:d.may=true) (x:aJ):fo (za v ex d).1 (za v ex d).2 x=true↔fo v ex x=true\/x=d:=by
 unfold za;split
 ·rename_i i;constructor
  ·exact .inl
  ·rintro (h | rfl)
   ·exact h
   ·exact i
 ·have c:∀ x∈ins ex d,x.may=true:=by
   intro x e;rcases uv.1 e with rfl | e
   ·exact hd
   ·exact h.m x e
  rw [Lm h.v c,tJ,uv];constructor
  ·rintro ⟨b,(rfl | h2) | h2⟩
   ·exact .inr rfl
   ·exact .inl ⟨b,.inl h2⟩
   ·exact .inl ⟨b,.inr h2⟩
  ·rintro (⟨b,h2 | h2⟩ | rfl)
   ·exact ⟨b,.inl (.inr h2)⟩
   ·exact ⟨b,.inr h2⟩
   ·exact ⟨hd,.inl (.inl rfl)⟩
end Go.Proofs.YtohgmogbabkkeaaGreat
end

section
set_option maxRecDepth 100000
set_option maxHeartbeats 4000000
namespace Go.Proofs.YtohgmogbabkkeaaGreat
open Go.Am
end Go.Proofs.YtohgmogbabkkeaaGreat
end

section
namespace Go.Proofs.YtohgmogbabkkeaaGreat
open Go.Am Go.au
end Go.Proofs.YtohgmogbabkkeaaGreat
end

section
namespace Go.Proofs.YtohgmogbabkkeaaGreat
open Go.Am Go.au
/-! ### many at once -/
/-! ### contracts -/
theorem Fo {s:AS} {p:Nat} {v:List Int} {ex:List aJ} (h:wR s p v ex) (o:ex.length<=2 ^ 30):aa Tryz.prog dA [.ptr (some (p,0))] s fun r s'=>∃ q,r=.ptr (some (q,0))/\s.h q=none/\uR s s' q v ex/\Ext s s':=by
 refine Fk _ _ _ ?_;refine aa.use (uQ h) ?_;rintro r s2 ⟨rfl,rfl⟩ _;obtain ⟨c,w,h2,h3,h4⟩:=h;refine ⟨_,rfl,af.no rfl ⟨fun k _ r s'=>k=8->br aN 2 s' r ex/\(∀ la∈ay r,s2.h la=none)/\r≠.emp/\r.one=true,fun k _ r=>k=8->r.one=true,fun _ _ _ _ _ e h n=>⟨(h n).1.ext e,(h n).2⟩,_,h2.at.aD (by rw [AD c];omega),w,by rw [h2.at.av];exact BY c w,fun x d y _=>?_,⟨.bool true,fun _=>rfl⟩,?_⟩⟩
 ·refine (TA (s:=s2) d (h4.ext d) o).mono ?_;rintro r s' ⟨e,h⟩;exact ⟨e,fun _=>h,fun _=>h.2.2.2⟩
 rintro r hr z i l ⟨m,_⟩;obtain ⟨g,j,A,b⟩:=m rfl;rw [RK c];refine ⟨_,PN c b,by simp [cH,b],aj.intro l rfl fun q eE F=>⟨q,rfl,i.none F.no,⟨c,r,F.own,b,g.ext F.ext,j⟩,i.trans F.ext⟩⟩
/-! ### the reference -/
end Go.Proofs.YtohgmogbabkkeaaGreat
end

section
set_option maxRecDepth 100000
set_option maxHeartbeats 4000000
namespace Go.Proofs.YtohgmogbabkkeaaGreat
open Go.Am
def Dp (a0:Option (Nat×Nat)) (a1:List AV) (s:AS) (R:AV->AS->Prop):Prop :=
 cH a1 (aj (.cells a1 0 false) s fun l1 s2=>aR (aD s2 l1 0 2) fun J=>aa Tryz.prog wz [.agg J] s2 fun K G=>∃ H:Bool,K=.bool H/\(af (!H)
 (R (.bool false) G)
 (bz fun I =>
 (∀ s8:AS,I [] s8 ->
 aV .u64 (av s8 l1 1) fun L=>aV .i64 (av s8 l1 0) fun e=>ah a0 fun i j=>bG (ag T c_ (.ptr (some (i,j))) (.int .i64 (IntKind.wrap .i64 (e - 1)))) fun k l=>aV .u64 (av s8 k l) fun m=>R (.bool (decide ((L:Int)<=m))) s8) /\
 (bB fun c n=>c n [.int .i64 0] G /\
 ∀ d:Nat,∀ b:Int,∀ gi:AS,c d [.int .i64 b] gi ->
 ah a0 fun o p=>dS (av gi o (p+16)) fun r=>aV .i64 (aQ T az r gi) fun w=>af (decide ((b:Int)<w))
 (ah a0 fun x y=>dS (av gi x (y+16)) fun z=>bG (ag T az z (.int .i64 b)) fun A B=>aR (aD gi A B 2) fun C=>aR (aD gi l1 0 2) fun D=>sJ (iB T 100 iH (.agg C) (.agg D)) fun F=>af F
 (R (.bool true) gi)
 (∃ m',m'<d/\c m' [(.int .i64 (IntKind.wrap .i64 (b+1)))] gi))
 (I [] gi)))))
def Dq:QA:=(.seq .leaf (.seq (.seq .leaf (.cond (.seq .leaf .leaf) .leaf)) (.join [] [(4,5),(9,26)] (.seq .leaf (.wrap (.loop [(5,.int .i64)] [(4,5),(9,26)] (.seq (.seq .leaf (.cond .leaf .leaf)) (.seq (.wrap (.seq (.draw 8) (.cond (.seq .leaf .leaf) .leaf))) .leaf))))) (.seq (.draw 10) .leaf))))
theorem Dr (a0:Option (Nat×Nat)) (a1:List AV) (s:AS) (R:AV->AS->Prop) (h:Dp a0 a1 s R):aa Tryz.prog pe [.ptr a0,.agg a1] s R :=
 aa.q (n:=38) (rs:=[.tmp 4]) (A:=Dq) hT bW Tryz.func97 (by kernel_rfl) rfl rfl rfl (by kernel_rfl) (by kernel_rfl) h
def Ds (a0:Option (Nat×Nat)) (a1:List AV) (s:AS) (R:AV->AS->Prop):Prop :=
 cH a1 (aj (.cells a1 0 false) s fun l1 s2=>aR (aD s2 l1 0 2) fun g3=>aa Tryz.prog pe [.ptr a0,.agg g3] s2 fun v4 s5=>∃ b6:Bool,v4=.bool b6/\(af b6
 (R (.bool false) s5)
 (bz fun m =>
 (∀ v8:AV,∀ n9:Int,∀ e:AS,m [v8,.int .i64 n9] e ->
 aR (aD e l1 0 2) fun n=>aR (cV T az 1 [(0,.agg n)]) fun o=>aj (.cells o 0 false) e fun p r=>iD (aI T az az v8 (.slc (some (p,0)) 1 1 true) r) fun w j=>ah a0 fun x y=>dS (av j x (y+16)) fun z=>dS (aZ T az z (some (.int .i64 n9)) none none) fun v20=>iD (aI T az az w v20 j) fun A fP=>ah a0 fun B C=>fu T az fP B (C+16) A fun dW=>aa Tryz.prog jY [.ptr a0] dW fun D F=>D=.aP []/\(R (.bool true) F)) /\
 (bB fun i G=>i G [.slc none 0 0 true,.int .i64 0] s5 /\
 ∀ k:Nat,∀ d:AV,∀ c:Int,∀ b:AS,i k [d,.int .i64 c] b ->
 ah a0 fun H I=>dS (av b H (I+16)) fun J=>aV .i64 (aQ T az J b) fun K=>af (decide ((c:Int)<K)) (ah a0 fun L M=>dS (av b L (M+16)) fun xN=>bG (ag T az xN (.int .i64 c)) fun O Q=>aR (aD b O Q 2) fun S=>aR (aD b l1 0 2) fun U=>aa Tryz.prog pX [.agg S,.agg U] b fun W tw=>∃ l:Bool,W=.bool l/\(af l
 (ah a0 fun X Y=>dS (av tw X (Y+16)) fun Z=>bG (ag T az Z (.int .i64 c)) fun ab ad=>aR (aD tw ab ad 2) fun ae=>aR (cV T az 1 [(0,.agg ae)]) fun al=>aj (.cells al 0 false) tw fun am an=>iD (aI T az az d (.slc (some (am,0)) 1 1 true) an) fun ao ap=>∃ m',m'<k/\i m' [ao,(.int .i64 (IntKind.wrap .i64 (c+1)))] ap)
 (m [d,.int .i64 c] tw))) (m [d,.int .i64 c] b)))))
def Dt:QA:=(.seq .leaf (.seq (.seq .leaf (.cond (.seq .leaf .leaf) .leaf)) (.seq .leaf (.seq .leaf (.join [(5,.any),(6,.int .i64)] [(5,6),(10,39)] (.wrap (.loop [(5,.any),(6,.int .i64)] [(5,6),(10,39)] (.seq (.seq (.draw 16) (.cond .leaf .leaf)) (.seq (.wrap .leaf) .leaf)))) (.seq .leaf (.seq .leaf (.seq .leaf (.seq .leaf .leaf)))))))))
theorem Du (a0:Option (Nat×Nat)) (a1:List AV) (s:AS) (R:AV->AS->Prop) (h:Ds a0 a1 s R):aa Tryz.prog pq [.ptr a0,.agg a1] s R :=
 aa.q (n:=57) (rs:=[.tmp 4]) (A:=Dt) hT bW Tryz.func208 (by kernel_rfl) rfl rfl rfl (by kernel_rfl) (by kernel_rfl) h
def x6 (a0:Option (Nat×Nat)) (s:AS) (R:AV->AS->Prop):Prop :=
 bz fun J1 =>
 (∀ v2:AV,∀ s3:AS,J1 [v2] s3 ->
 ah a0 fun l4 o5=>fu T az s3 l4 (o5+16) v2 fun s6=>R (.aP []) s6) /\
 (bB fun d m8=>d m8 [.slc none 0 0 true,.int .i64 0] s /\
 ∀ i:Nat,∀ v10:AV,∀ c:Int,∀ dI:AS,d i [v10,.int .i64 c] dI ->
 ah a0 fun j k=>dS (av dI j (k+16)) fun l=>aV .i64 (aQ T az l dI) fun m=>af (decide ((c:Int)<m))
 (ah a0 fun n o=>dS (av dI n (o+16)) fun p=>bG (ag T az p (.int .i64 c)) fun r w=>aR (aD dI r w 2) fun e=>aj (.cells [.int .i64 0,.int .u64 0] 0 false) dI fun b x=>fh (some 2) e (bt (cK x b 0 e) fun dW=>aV .u64 (av dW b 1) fun y=>aV .i64 (av dW b 0) fun z=>ah a0 fun A B=>bG (ag T c_ (.ptr (some (A,B))) (.int .i64 (IntKind.wrap .i64 (z - 1)))) fun C D=>aV .u64 (av dW C D) fun F=>af ((y:Int)==(IntKind.wrap .u64 (F+1)))
 (aV .i64 (av dW b 0) fun G=>aV .u64 (av dW b 1) fun H=>ah a0 fun I J=>bG (ag T c_ (.ptr (some (I,J))) (.int .i64 (IntKind.wrap .i64 (G - 1)))) fun K L=>bt (cK dW K L [.int .u64 H]) fun M=>∃ m',m'<i/\d m' [v10,(.int .i64 (IntKind.wrap .i64 (c+1)))] M)
 (aV .u64 (av dW b 1) fun O=>aV .i64 (av dW b 0) fun Q=>ah a0 fun S U=>bG (ag T c_ (.ptr (some (S,U))) (.int .i64 (IntKind.wrap .i64 (Q - 1)))) fun W X=>aV .u64 (av dW W X) fun Y=>af (decide ((O:Int)>Y))
 (aR (aD dW b 0 2) fun Z=>aR (cV T az 1 [(0,.agg Z)]) fun ab=>aj (.cells ab 0 false) dW fun ad ae=>iD (aI T az az v10 (.slc (some (ad,0)) 1 1 true) ae) fun al am=>∃ m',m'<i/\d m' [al,(.int .i64 (IntKind.wrap .i64 (c+1)))] am)
 (∃ m',m'<i/\d m' [v10,(.int .i64 (IntKind.wrap .i64 (c+1)))] dW))))
 (J1 [v10] dI))
def x9:QA:=(.seq .leaf (.join [(2,.any)] [(2,56)] (.seq .leaf (.wrap (.loop [(2,.any),(3,.int .i64)] [(2,56)] (.seq (.seq .leaf (.cond .leaf .leaf)) (.seq (.wrap (.seq .leaf (.seq (.draw 11) (.cond (.draw 8) (.seq (.draw 10) (.cond .leaf .leaf)))))) .leaf))))) .leaf))
theorem x_ (a0:Option (Nat×Nat)) (s:AS) (R:AV->AS->Prop) (h:x6 a0 s R):aa Tryz.prog jY [.ptr a0] s R :=
 aa.q (n:=61) (rs:=[]) (A:=x9) hT bW Tryz.func255 (by kernel_rfl) rfl rfl rfl (by kernel_rfl) (by kernel_rfl) h
def IW (a0:List AV) (a1:List AV) (s:AS) (R:AV->AS->Prop):Prop :=
 cH a0 (aj (.cells a0 0 false) s fun l1 s2=>cH a1 (aj (.cells a1 0 false) s2 fun l3 s4=>aV .i64 (av s4 l1 0) fun c=>aV .i64 (av s4 l3 0) fun d=>af (decide ((c:Int)<d)) (R (.bool true) s4) (aV .i64 (av s4 l1 0) fun e=>aV .i64 (av s4 l3 0) fun i=>af ((e:Int)==i) (aV .u64 (av s4 l1 1) fun j=>aV .u64 (av s4 l3 1) fun b=>R (.bool (decide ((j:Int)<b))) s4) (R (.bool false) s4))))
def IX:QA:=(.seq .leaf (.seq .leaf .leaf))
theorem IY (a0:List AV) (a1:List AV) (s:AS) (R:AV->AS->Prop) (h:IW a0 a1 s R):aa Tryz.prog pX [.agg a0,.agg a1] s R :=
 aa.q (n:=24) (rs:=[.tmp 4]) (A:=IX) hT bW Tryz.func209 (by kernel_rfl) rfl rfl rfl (by kernel_rfl) (by kernel_rfl) h
end Go.Proofs.YtohgmogbabkkeaaGreat
end

section
namespace Go.Proofs.YtohgmogbabkkeaaGreat
open Go.Am Go.au
structure IZ (s:AS) (p:Nat) (t:List AV) (v:List Int) (ex:List aJ):Prop where
 len:v.length=16
 nt:∀ y∈t,∀ n,y≠.int .i64 n
 mem:∃ w,Am.Own s p (v.map (.int .u64)++w::t)/\w.one=true/\w≠.emp/\GI s w ex
structure RQ (s0 s:AS) (p:Nat) (t:List AV) (v:List Int) (ex:List aJ):Prop where
 len:v.length=16
 nt:∀ y∈t,∀ n,y≠.int .i64 n
 mem:∃ w,Am.Own s p (v.map (.int .u64)++w::t)/\w.one=true/\w≠.emp/\br aN 2 s w ex/\∀ la∈ay w,s0.h la=none
section
variable {s s':AS} {p:Nat} {t:List AV} {v:List Int} {ex:List aJ}
theorem IZ.ext (h:IZ s p t v ex) (e:Ext s s'):IZ s' p t v ex:=by
 obtain ⟨b,c,w,h2,h3,d,h4⟩:=h;exact ⟨b,c,w,h2.ext e,h3,d,h4.ext e⟩
theorem RQ.back {s0 s1:AS} (h:RQ s1 s p t v ex) (e:∀ x,s0.h x≠none->s1.h x≠none):RQ s0 s p t v ex:=by
 obtain ⟨c,d,w,h2,h3,i,h4,j⟩:=h;refine ⟨c,d,w,h2,h3,i,h4,fun la b=>?_⟩;cases k:s0.h la with
 | none=>rfl
 | some o=>exact absurd (j la b) (e la (by rw [k];simp))
end
theorem OH {v:List Int} (h:v.length=16) (w:AV) (t:List AV) {i:Nat} (hi:i<16):(v.map (AV.int .u64)++w::t)[i]? = some (.int .u64 (v.getD i 0)):=by
 rw [List.getElem?_append_left (by simp [h];omega),List.getElem?_map,List.getElem?_eq_getElem (by omega),List.getD_eq_getElem?_getD,List.getElem?_eq_getElem (by omega)];rfl
theorem I_ {v:List Int} (h:v.length=16) (w:AV) (t:List AV):(v.map (AV.int .u64)++w::t)[16]? = some w:=by
 rw [List.getElem?_append_right (by simp [h])];simp [h]
theorem uS {v:List Int} (h:v.length=16) (w:AV) (t:List AV):(v.map (AV.int .u64)++w::t).length=17+t.length:=by simp [h];omega
theorem yw (a b:aJ) (s:AS):aa Tryz.prog pX [.agg (aN a),.agg (aN b)] s fun v s'=>v=.bool (a.lt b)/\Ext s s':=by
 refine aa.pre fun d=>IY _ _ _ _ ⟨rfl,aj.intro d rfl fun l s1 F=>⟨rfl,aj.intro F.wf rfl fun i s2 c=>?_⟩⟩;have e:=F.ext.trans c.ext;simp only [(F.own.ext c.ext).at.av,c.own.at.av,aN,List.getElem?_cons_zero,List.getElem?_cons_succ,go_sem,gl,e,and_true,aJ.lt]
 grind
theorem PO {s:AS} {p:Nat} {t:List AV} {v:List Int} {ex:List aJ} (h:IZ s p t v ex) (W:ex.length<=2 ^ 30) (d:aJ):aa Tryz.prog pe [.ptr (some (p,0)),.agg (aN d)] s fun r s'=>r=.bool (fo v ex d)/\Ext s s':=by
 refine aa.pre fun L=>Dr _ _ _ _ ⟨rfl,aj.intro L rfl fun l s1 F=>?_⟩;refine ⟨_,F.own.at.aD (by simp [aN]),?_⟩;refine (IT d _).mono ?_;rintro r s3 ⟨rfl,A⟩;have e:=F.ext.trans A;refine ⟨_,rfl,af.mk (fun hm=>?_) (fun hm=>?_)⟩
 ·simp only [Bool.not_eq_true'] at hm;exact ⟨by simp [fo,hm],e⟩
 ·simp only [Bool.not_eq_false'] at hm;obtain ⟨J,M,w,h2,h3,X,h4⟩:=h;refine ⟨fun vs s'=>Ext s3 s'/\d ∉ ex,?_,fun m vs s'=>∃ i:Nat,vs=[.int .i64 (i:Nat)]/\i<=ex.length/\m=ex.length - i/\Ext s3 s'/\∀ (k:Nat),k<i->ex[k]? ≠ some d,ex.length,⟨0,rfl,by omega,rfl,Ext.refl _,by omega⟩,?_⟩
  ·rintro s8 ⟨B,hd⟩;have O:=aJ.gD.1 hm;have y:=(F.own.ext (A.trans B)).at;have C:=(h2.ext (e.trans B)).at;refine ⟨_,by rw [y.av];rfl,_,by rw [y.av];rfl,?_⟩;dsimp only;rw [rS (by omega)];refine ⟨_,_,Nz (by omega),_,by rw [C.av,Nat.zero_add,Nat.mul_one];exact OH J w t (by omega),?_,e.trans B⟩;simp [fo,hm,hd]
  ·rintro m n gi ⟨i,hi,Y,rfl,b,K⟩;simp only [List.cons.injEq,AV.int.injEq,true_and,and_true] at hi;subst hi;have C:=(h2.ext (e.trans b)).at;have c:av gi p (0+16)=some w:=by rw [C.av];exact I_ J w t
   refine ⟨w,c,_,h4.cI bF _,af.dec (fun Q=>?_) (fun R=>?_)⟩
   ·obtain ⟨x,D⟩:=de (l:=ex) (i:=i) (by omega);obtain ⟨G,o,S,U⟩:=(h4.ext (e.trans b)).ix (by decide) bn bF jR D;refine ⟨w,c,G,o,S _,_,(U _ (Ext.refl _)).2,_,(F.own.ext (A.trans b)).at.aD (by simp [aN]),_,IV x d,af.dec (fun H=>?_) (fun H=>?_)⟩
    ·refine ⟨?_,e.trans b⟩;subst H;simp [fo,hm,List.mem_of_getElem? D]
    ·refine ⟨ex.length - (i+1),by omega,i+1,by rw [aW (by omega)];rfl,by omega,rfl,b,fun k z j=>?_⟩;rcases Nat.lt_or_ge k i with h | h
     ·exact K k h j
     ·obtain rfl:k=i:=by omega
      rw [D] at j;exact H (Option.some.inj j)
   ·refine ⟨b,fun hd=>?_⟩;obtain ⟨k,z⟩:=List.mem_iff_getElem?.1 hd;have:k<ex.length:=by
     rcases Nat.lt_or_ge k ex.length with I | I
     ·exact I
     ·rw [List.getElem?_eq_none I] at z;cases z
    exact K k (by omega) z
theorem GJ {s:AS} {p:Nat} {t:List AV} {v:List Int} {ex:List aJ} (h:IZ s p t v ex) (hv:EH v) (hm:∀ d∈ex,d.may=true) (hn:ex.length<2 ^ 30) :
  aa Tryz.prog jY [.ptr (some (p,0))] s fun r s'=>r=.aP []/\RQ s s' p t (compact v ex).1 (compact v ex).2/\bD [p] s s':=by
 refine aa.pre fun hw=>x_ _ _ _ ?_;obtain ⟨h1,L,w,h2,h3,h5,h4⟩:=h;have H:∀ x∈[p],s.h x≠none:=by
  intro x M;obtain rfl:x=p:=by simpa using M
  rw [h2];simp
 have O:∀ {r:AV} {s':AS} {l:List aJ},aU aN 2 [p] s s' r l->p ∉ ay r:=fun g hm=>H p (by simp) (g.new p hm);have S:∀ y∈w::t,∀ n,y≠.int .i64 n:=by
  intro y Q n;rcases List.mem_cons.1 Q with rfl | Q
  ·exact qe h4 _ _
  ·exact L y Q n
 let e:Nat->List Int×List aJ:=fun i=>(ex.take i).foldl fV (v,[])
 have C:∀ i,EH (e i).1:=fun i=>D1 _ _ hv fun d hd=>hm d (List.mem_of_mem_take hd);have I:∀ i,(e i).2.length<=i:=fun i=>by have:=zU (ex.take i) (v,[]);simp only [List.length_nil,Nat.zero_add] at this;have h2:=List.length_take_le i ex;exact Nat.le_trans this h2
 refine ⟨fun vs s'=>∃ left,vs=[left]/\aM s'/\aU aN 2 [p] s s' left (compact v ex).2/\Am.Own s' p ((compact v ex).1.map (.int .u64)++w::t),?_,?_⟩
 ·rintro r s3 ⟨left,hl,U,g,K⟩;simp only [List.cons.injEq,and_true] at hl;subst hl;have B:EH (compact v ex).1:=by have:=C ex.length;simp only [e,List.take_length] at this;exact this
  refine cM g.iX.2 z6 (bt.own U K (by rw [uS B.len];simp) fun s6 P=>⟨rfl,⟨B.len,L,r,?_,g.iX.2,g.iX.1,(g.wr H P.mut).vq,g.new⟩,g.eL.trans P.mut⟩)
  ·have:qk ((compact v ex).1.map (AV.int .u64)++w::t) (0+16) [r]=(compact v ex).1.map (AV.int .u64)++r::t:=by
    rw [fy,List.set_append_right _ _ (by simp [B.len])];simp [B.len]
   rw [this] at P;exact P.at
 ·have hc:=h2.at;refine ⟨fun m vs s'=>∃ (i:Nat) (left:AV),vs=[left,.int .i64 (i:Nat)]/\i<=ex.length/\m=ex.length - i/\aM s'/\aU aN 2 [p] s s' left (e i).2/\Am.Own s' p ((e i).1.map (.int .u64)++w::t),ex.length,⟨0,_,rfl,by omega,rfl,hw,aU.nil,h2⟩,?_⟩;rintro m left n W ⟨i,X,hi,h6,rfl,D,g,K⟩;simp only [List.cons.injEq,AV.int.injEq,true_and,and_true] at hi;obtain ⟨rfl,rfl⟩:=hi;have z:=C i;have A:av W p (0+16)=some w:=by rw [K.at.av];exact I_ z.len w t
  refine ⟨w,A,_,h4.cI bF _,af.dec (fun ab=>?_) (fun ad=>?_)⟩
  ·obtain ⟨x,M⟩:=de (l:=ex) (i:=i) (by omega);have hd:=BZ h4 hc S g.eL;obtain ⟨la,o,h8,h9⟩:=hd.ix (by decide) bn bF jR M;have bW:=aJ.gD.1 (hm x (List.mem_of_getElem? M));have ht:e (i+1)=fV (e i) x:=by simp only [e];rw [List.take_add_one,M,Option.toList_some,List.foldl_append];rfl
   refine ⟨w,A,la,o,h8 _,_,(h9 _ (Ext.refl _)).2,lq D rfl rfl rfl fun R fP F=>?_⟩;have k:=K.ext F.ext;have gg:=g.step F.ext;have G:(x.r - 1).toNat<16:=by omega
   have ae:=z.get (x.r - 1).toNat;have f0:av fP R 0=some (.int .i64 x.r):=by rw [F.own.at.av];rfl
   have f1:av fP R 1=some (.int .u64 x.c):=by rw [F.own.at.av];rfl
   have fv:av fP p (0+(x.r - 1).toNat*1)=some (.int .u64 ((e i).1.getD (x.r - 1).toNat 0)):=by rw [k.at.av,Nat.zero_add,Nat.mul_one];exact OH z.len w t G
   refine ⟨_,f1,_,f0,?_⟩;dsimp only;rw [rS (by omega)];refine ⟨_,_,Nz (by omega),_,fv,?_⟩;dsimp only;rw [gw (by omega)];have cont:∀ (r:AV) (s':AS),aM s'->aU aN 2 [p] s s' r (e (i+1)).2->Am.Own s' p ((e (i+1)).1.map (.int .u64)++w::t) ->
     ∃ m',m'<ex.length - i/\∃ (j:Nat) (left:AV),[r,AV.int .i64 (IntKind.wrap .i64 ((i:Int)+1))]=[left,.int .i64 (j:Nat)]/\j<=ex.length/\m'=ex.length - j/\aM s'/\aU aN 2 [p] s s' left (e j).2/\Am.Own s' p ((e j).1.map (.int .u64)++w::t) :=
    fun r s' a b c=>⟨ex.length - (i+1),by omega,i+1,r,by rw [aW (by omega)];rfl,by omega,rfl,a,b,c⟩
   refine af.mk (fun Y=>?_) (fun Y=>?_)
   ·have J:x.c=(e i).1.getD (x.r - 1).toNat 0+1:=by simpa using Y
    have hs:e (i+1)=((e i).1.set (x.r - 1).toNat x.c,(e i).2):=by rw [ht];unfold fV;rw [if_neg (by omega),if_pos J]
    refine ⟨_,f0,_,f1,?_⟩;dsimp only;rw [rS (by omega)];refine ⟨_,_,Nz (by omega),bt.own F.wf k (by rw [uS z.len];simp;omega) fun al P=>?_⟩;refine cont _ _ P.wf (by rw [hs];exact g.wr H (F.ext.mut.trans P.mut)) ?_;rw [hs];have:=P.at;rw [fy,Nat.zero_add,Nat.mul_one,OF _ _ _ _ (by rw [z.len];exact G)] at this;exact this
   ·have J:¬ x.c=(e i).1.getD (x.r - 1).toNat 0+1:=by simpa using Y
    refine ⟨_,f1,_,f0,?_⟩;dsimp only;rw [rS (by omega)];refine ⟨_,_,Nz (by omega),_,fv,af.dec (fun am=>?_) (fun hle=>?_)⟩
    ·have hs:e (i+1)=((e i).1,(e i).2++[x]):=by rw [ht];unfold fV;rw [if_neg (by omega),if_neg J]
     have hM:∀ y∈[p],fP.h y≠none:=by
      intro y Q;obtain rfl:y=p:=by simpa using Q
      rw [k];simp
     refine ⟨_,F.own.at.aD (by simp [aN]),aU.iY iK bn mE F.wf gg hM x (by have:=I i;omega) fun r s' g' Z mm=>?_⟩;exact cont _ _ Z (by rw [hs];exact g') (by rw [hs];exact k.mut mm (O g))
    ·have hs:e (i+1)=e i:=by rw [ht];unfold fV;rw [if_pos (by omega)]
     exact cont _ _ F.wf (by rw [hs];exact gg) (by rw [hs];exact k)
  ·obtain rfl:i=ex.length:=by omega
   have hs:e ex.length=compact v ex:=by simp only [e,List.take_length];rfl
   rw [hs] at g K;exact ⟨left,rfl,D,g,K⟩
theorem PR {s:AS} {q:Nat} {t:List AV} {v:List Int} {ex:List aJ} (h:IZ s q t v ex) (hv:EH v) (hr:dZ ex) (hm:∀ d∈ex,d.may=true) (X:ex.length+1<2 ^ 30) {d:aJ} (hd:d.may=true) :
  aa Tryz.prog pq [.ptr (some (q,0)),.agg (aN d)] s fun r s'=>r=.bool (!fo v ex d)/\bD [q] s s'/\(fo v ex d=true->Ext s s')/\(fo v ex d=false->RQ s s' q t (compact v (ins ex d)).1 (compact v (ins ex d)).2):=by
 refine aa.pre fun hw=>Du _ _ _ _ ⟨rfl,aj.intro hw rfl fun l1 s2 H=>⟨_,H.own.at.aD (by simp [aN]),?_⟩⟩;refine aa.use (PO (h.ext H.ext) (by omega) d) ?_;rintro r Y ⟨rfl,Z⟩ ab;have F:=H.ext.trans Z;refine ⟨_,rfl,af.mk (fun G=>?_) (fun G=>?_)⟩
 ·exact ⟨by simp [G],F.mut,(fun _=>F),fun h=>absurd G (by simp [h])⟩
 have a2:d ∉ ex:=by
  intro ad;simp [fo,hd,ad] at G
 obtain ⟨I,ae,w,h2,h3,h5,h4⟩:=h;have c:∀ s',Ext s s'->av s' q (0+16)=some w:=fun s' e=>by rw [(h2.ext e).at.av];exact I_ I w t
 refine ⟨fun vs s'=>∃ left,vs=[left,.int .i64 (pos ex d:Nat)]/\aM s'/\aU aN 2 [] Y s' left (ex.take (pos ex d)),?_,fun m vs s'=>∃ (i:Nat) (left:AV),vs=[left,.int .i64 (i:Nat)]/\i<=ex.length/\m=ex.length - i/\aM s'/\aU aN 2 [] Y s' left (ex.take i)/\∀ (k:Nat) x,k<i->ex[k]? = some x->x.lt d=true,ex.length,⟨0,_,rfl,by omega,rfl,ab,by simpa using aU.nil,fun k x hk=>by omega⟩,?_⟩
 ·rintro v8 n9 a3 ⟨left,hl,J,g⟩;simp only [List.cons.injEq,AV.int.injEq,true_and,and_true] at hl;obtain ⟨rfl,rfl⟩:=hl;have al:=Ib ex d;refine ⟨_,(H.own.ext (Z.trans g.eL.ext)).at.aD (by simp [aN]),aU.iY iK bn mE J g (by simp) d (by rw [List.length_take];omega) fun a4 a5 K L _=>?_⟩;have M:=F.trans K.eL.ext;obtain ⟨v20,k1,k2⟩:=(h4.ext M).from bn bF jR h5 al .i64
  refine ⟨w,c _ M,v20,k1,aU.kK iK bn mE L K (by simp) k2 (by simp;omega) bF fun O fP b Q _=>?_⟩;have C:=F.trans b.eL.ext;have R:ex.take (pos ex d)++[d]++ex.drop (pos ex d)=ins ex d:=by simp [ins]
  rw [R] at b;refine cM b.iX.2 z6 (bt.own Q (h2.ext C) (by rw [uS I];simp) fun dW P=>?_);have hP:=P.at;rw [fy,List.set_append_right _ _ (by simp [I])] at hP;simp only [List.length_map,I,Nat.zero_add,Nat.sub_self,List.set_cons_zero] at hP;have am:∀ x∈[q],Y.h x≠none:=by
   intro x j;obtain rfl:x=q:=by simpa using j
   rw [h2.ext F];simp
  have an:∀ x∈ay O,x ∉ [q]:=fun x j hm=>am x hm (b.new x j);have ao:IZ dW q t v (ins ex d):=⟨I,ae,O,hP,b.iX.2,b.iX.1,(b.vq.mut P.mut an).sl bn⟩;have ap:∀ x∈ins ex d,x.may=true:=by
   intro x j;rcases uv.1 j with rfl | j
   ·exact hd
   ·exact hm x j
  refine (GJ ao hv ap (by rw [xF];omega)).mono ?_;rintro r a6 ⟨rfl,ar,aw⟩;refine ⟨rfl,by simp [G],C.mut.trans (P.mut.trans aw),(fun h=>absurd h (by simp [G])),fun _=>ar.back fun x j=>?_⟩;by_cases S:x=q
  ·subst S;rw [P.at];simp
  ·rw [P.eq x S];intro X;cases hq:s.h x with
   | none=>exact j hq
   | some o=>rw [C.1 _ _ hq] at X;cases X
 ·rintro m left n a7 ⟨i,a0,hi,h6,rfl,U,g,D⟩;simp only [List.cons.injEq,AV.int.injEq,true_and,and_true] at hi;obtain ⟨rfl,rfl⟩:=hi;have p:=F.trans g.eL.ext;refine ⟨w,c _ p,_,h4.cI bF _,af.dec (fun hl=>?_) (fun a8=>?_)⟩
  ·obtain ⟨x,j⟩:=de (l:=ex) (i:=i) (by omega);obtain ⟨la,o,h8,h9⟩:=(h4.ext p).ix (by decide) bn bF jR j;refine ⟨w,c _ p,la,o,h8 _,_,(h9 _ (Ext.refl _)).2,_,(H.own.ext (Z.trans g.eL.ext)).at.aD (by simp [aN]),?_⟩;refine aa.use (yw x d _) ?_;rintro r tw ⟨rfl,z⟩ B;refine ⟨_,rfl,af.mk (fun hb=>?_) (fun hb=>?_)⟩
   ·have ht:ex.take (i+1)=ex.take i++[x]:=by rw [List.take_add_one,j];rfl
    refine ⟨w,c _ (p.trans z),la,o,h8 _,_,(h9 _ z).2,aU.iY iK bn mE B (g.step z) (by simp) x (by rw [List.length_take];omega) fun v' s' g' a1 _=>?_⟩;refine ⟨ex.length - (i+1),by omega,i+1,v',by rw [aW (by omega)];rfl,by omega,rfl,a1,by rw [ht];exact g',fun k y hk A=>?_⟩;rcases Nat.lt_or_ge k i with h | h
    ·exact D k y h A
    ·obtain rfl:k=i:=by omega
     rw [j] at A;obtain rfl:=Option.some.inj A;exact hb
   ·have W:pos ex d=i:=pos_eq h6 D fun y A=>by rw [j] at A;obtain rfl:=Option.some.inj A;exact hb
    exact ⟨left,by rw [W],B,by rw [W];exact g.step z⟩
  ·have W:pos ex d=i:=pos_eq h6 D fun y A=>by rw [List.getElem?_eq_none (by omega)] at A;cases A
   exact ⟨left,by rw [W],U,by rw [W];exact g⟩
end Go.Proofs.YtohgmogbabkkeaaGreat
end

section
set_option maxRecDepth 100000
set_option maxHeartbeats 4000000
namespace Go.Proofs.YtohgmogbabkkeaaGreat
open Go.Am
def Lp  (s:AS) (R:AV->AS->Prop):Prop :=
 aa Tryz.prog BE [] s fun e s2=>∃ c:Option (Nat×Nat),e=.ptr c/\(aj (.map [] 0 false) s2 fun i j=>aj (.map [] 0 false) j fun k s7=>oS (aS T oI [(0,.ptr c),(1,(.map (some i))),(2,(.map (some k)))]) fun d=>cH d (aj (.cells d 0 false) s7 fun l b=>R (.ptr (some (l,0))) b))
def Lq:QA:=(.seq .leaf (.seq .leaf .leaf))
theorem Lr  (s:AS) (R:AV->AS->Prop) (h:Lp  s R):aa Tryz.prog wA [] s R :=
 aa.q (n:=6) (rs:=[.tmp 0]) (A:=Lq) hT bW Tryz.func61 (by kernel_rfl) rfl rfl rfl (by kernel_rfl) (by kernel_rfl) h
def Dw (a0:Option (Nat×Nat)) (a1:List AV) (a2:List AV) (s:AS) (R:AV->AS->Prop):Prop :=
 cH a1 (aj (.cells a1 0 false) s fun l1 s2=>cH a2 (aj (.cells a2 0 false) s2 fun l3 s4=>aa Tryz.prog bY [.ptr a0] s4 fun W s6=>∃ Q:Bool,W=.bool Q/\(af (!Q)
 (R (.aP [.slc none 0 0 true,.int .i64 1]) s6)
 (bz fun x =>
 (∀ U:Bool,∀ e:AS,x [.bool U] e ->
 af U
 (R (.aP [.slc none 0 0 true,.int .i64 2]) e)
 (aa Tryz.prog gL [.ptr a0,(.func lZ [(.ptr (some (l1,0)))])] e fun v11 dI=>gy fun S V=>aR (aD dI l3 0 2) fun y=>aR (aD dI l1 0 2) fun z=>oS (aS T qG [(0,.agg y),(1,.agg z)]) fun b=>(∀ c:AS,Ext dI c->aM c->(True)->aR (cV T aG 1 [(0,.agg b)]) fun A=>aj (.cells A 0 false) c fun l gz=>(Ext c gz/\S 3 [.agg b] (.slc (some (l,0)) 1 1 true) gz/\V 3 [.agg b] (.slc (some (l,0)) 1 1 true)))/\(∃ v,V 3 [.agg b] v)/\∀ v20:AV,V 3 [.agg b] v20->(∀ fL:AS,Ext dI fL->aM fL->(True)->aa Tryz.prog fW [v11] fL fun m tW=>(Ext fL tW/\S 5 [(.func fW []),v11] m tW/\V 5 [(.func fW []),v11] m))/\(∃ v,V 5 [(.func fW []),v11] v)/\∀ i:AV,V 5 [(.func fW []),v11] i->∀ dW:AS,Ext dI dW->aM dW->(S 3 [.agg b] v20 dW/\(S 5 [(.func fW []),v11] i dW/\True))->iD (aI T aG aG v20 i dW) fun n B=>aa Tryz.prog pg [.ptr a0,n] B fun C o=>∃ D:Bool,∃ j:Int,C=.aP [.bool D,.int .i64 j]/\(af ((j:Int) != 0)
 (R (.aP [.slc none 0 0 true,.int .i64 j]) o)
 (R (.aP [n,.int .i64 0]) o)))) /\
 (aR (aD s6 l1 0 2) fun F=>aa Tryz.prog lY [.agg F] s6 fun G k=>∃ p:Bool,G=.bool p/\(af (!p) (x [.bool true] k) (aR (aD k l3 0 2) fun H=>aa Tryz.prog nA [.agg H] k fun I d=>∃ r:Bool,I=.bool r/\(af (!r) (x [.bool true] d) (ah a0 fun J K=>ng (av d J K) fun L=>aR (aD d l3 0 2) fun M=>aa Tryz.prog kj [.ptr L,.agg M] d fun O tw=>∃ w:Bool,O=.bool w/\(x [.bool w] tw))))))))))
def Dx:QA:=(.seq .leaf (.seq (.wrap (.seq .leaf (.cond (.seq .leaf .leaf) (.join [(16,.bool)] [(16,32)] .calm (.cond (.seq .leaf .leaf) .leaf))))) (.seq .leaf (.seq (.gR 6 [[],[],[],[],[],[]] [3,5]) (.seq (.seq .leaf (.seq .leaf (.cond (.seq .leaf .leaf) .leaf))) (.seq .leaf .leaf))))))
theorem Dy (a0:Option (Nat×Nat)) (a1:List AV) (a2:List AV) (s:AS) (R:AV->AS->Prop) (h:Dw a0 a1 a2 s R):aa Tryz.prog cX [.ptr a0,.agg a1,.agg a2] s R :=
 aa.q (n:=53) (rs:=[.tmp 6,.tmp 7]) (A:=Dx) hT bW Tryz.func68 (by kernel_rfl) rfl rfl rfl (by kernel_rfl) (by kernel_rfl) h
def Dz (a0:Option (Nat×Nat)) (a1:AV) (s:AS) (R:AV->AS->Prop):Prop :=
 aa Tryz.prog bY [.ptr a0] s fun v1 s2=>∃ Z:Bool,v1=.bool Z/\(af (!Z)
 (R (.aP [.bool false,.int .i64 1]) s2)
 (aa Tryz.prog dM [a1,(.func l_ [])] s2 fun v4 s5=>∃ b6:Bool,v4=.bool b6/\(af b6
 (R (.aP [.bool false,.int .i64 2]) s5)
 (aa Tryz.prog nD [.ptr a0] s5 fun v7 s8=>∃ l:Option (Nat×Nat),v7=.ptr l/\(bz fun m =>
 (∀ n:Bool,∀ dI:AS,m [.bool n] dI ->
 bz fun e =>
 (∀ o:Bool,∀ gu:AS,e [.bool o] gu ->
 af o
 (R (.aP [.bool false,.int .i64 5]) gu)
 (ah l fun q_ y=>aR (aD gu q_ y 3) fun p=>ah a0 fun zF z=>fh (some 3) p (bt (cK gu zF z p) fun fL=>R (.aP [.bool n,.int .i64 0]) fL))) /\
 (ah l fun A B=>vL (av dI A (B+1)) fun C=>aV .i64 (aQ T b_ (.map C) dI) fun D=>af (decide ((D:Int)>1024)) (e [.bool true] dI) (ah l fun F G=>vL (av dI F (G+1)) fun H=>aV .i64 (aQ T b_ (.map H) dI) fun I=>ah l fun J K=>vL (av dI J (K+2)) fun L=>aV .i64 (aQ T bK (.map L) dI) fun M=>e [(.bool (decide ((IntKind.wrap .i64 (I+M):Int)>4096)))] dI))) /\
 (aV .i64 (aQ T aG a1 s8) fun O=>bB fun c Q=>c Q [.bool false,.int .i64 0] s8 /\
 ∀ i:Nat,∀ j:Bool,∀ b:Int,∀ d:AS,c i [.bool j,.int .i64 b] d ->
 af (decide ((b:Int)<O))
 (bG (ag T aG a1 (.int .i64 b)) fun S U=>aR (aD d S U 5) fun r=>aj (.cells [.int .i64 0,.int .u64 0,.str [],.str [],.bool false] 0 false) d fun w W=>fh (some 5) r (bt (cK W w 0 r) fun tw=>aR (aD tw w 0 5) fun X=>aa Tryz.prog pn [.ptr l,.agg X] tw fun Y yY=>∃ x:Bool,∃ k:Int,Y=.aP [.bool x,.int .i64 k]/\(af ((k:Int) != 0)
 (R (.aP [.bool false,.int .i64 k]) yY)
 (af j (∃ m',m'<i/\c m' [.bool true,(.int .i64 (IntKind.wrap .i64 (b+1)))] yY) (∃ m',m'<i/\c m' [.bool x,(.int .i64 (IntKind.wrap .i64 (b+1)))] yY)))))
 (m [.bool j] d)))))))
def DA:QA:=(.seq .leaf (.seq (.seq .leaf (.cond (.seq .leaf .leaf) .leaf)) (.seq (.seq .leaf (.cond (.seq .leaf .leaf) .leaf)) (.seq .leaf (.seq .leaf (.join [(7,.bool)] [(4,5),(7,7),(9,11),(19,38)] (.seq .leaf (.wrap (.loop [(7,.bool),(21,.int .i64)] [(4,5),(7,7),(9,11),(21,38)] (.seq .leaf (.seq (.cond .leaf .leaf) (.seq (.wrap (.seq .leaf (.seq .leaf (.seq (.seq .leaf (.cond (.seq .leaf .leaf) .leaf)) .leaf)))) .leaf)))))) (.seq (.join [(58,.bool)] [(39,58)] (.draw 16) (.cond (.seq .leaf .leaf) .leaf)) (.seq .leaf (.seq .leaf .leaf)))))))))
theorem DB (a0:Option (Nat×Nat)) (a1:AV) (s:AS) (R:AV->AS->Prop) (h:Dz a0 a1 s R):aa Tryz.prog pg [.ptr a0,a1] s R :=
 aa.q (n:=65) (rs:=[.tmp 4,.tmp 5]) (A:=DA) hT bW Tryz.func109 (by kernel_rfl) rfl rfl rfl (by kernel_rfl) (by kernel_rfl) h
def DC (a0:Option (Nat×Nat)) (a1:List AV) (s:AS) (R:AV->AS->Prop):Prop :=
 cH a1 (aj (.cells a1 0 false) s fun l1 s2=>aa Tryz.prog bY [.ptr a0] s2 fun c s4=>∃ b:Bool,c=.bool b/\(af b (aa Tryz.prog gL [.ptr a0,(.func lW [(.ptr (some (l1,0)))])] s4 fun d s7=>aV .i64 (aQ T az d s7) fun e=>R (.bool (decide ((e:Int)>0))) s7) (R (.bool false) s4)))
def DD:QA:=(.seq .leaf (.seq .leaf .leaf))
theorem DE (a0:Option (Nat×Nat)) (a1:List AV) (s:AS) (R:AV->AS->Prop) (h:DC a0 a1 s R):aa Tryz.prog oZ [.ptr a0,.agg a1] s R :=
 aa.q (n:=14) (rs:=[.tmp 4]) (A:=DD) hT bW Tryz.func25 (by kernel_rfl) rfl rfl rfl (by kernel_rfl) (by kernel_rfl) h
def DF (a0:Option (Nat×Nat)) (s:AS) (R:AV->AS->Prop):Prop :=
 aa Tryz.prog bY [.ptr a0] s fun d s2=>∃ b:Bool,d=.bool b/\(af (!b)
 (R (.ptr none) s2)
 (ah a0 fun e i=>ng (av s2 e i) fun j=>aa Tryz.prog dA [.ptr j] s2 fun k s8=>∃ c:Option (Nat×Nat),k=.ptr c/\(R (.ptr c) s8)))
def DG:QA:=(.seq .leaf (.seq (.seq .leaf (.cond (.seq .leaf .leaf) .leaf)) (.seq .leaf .leaf)))
theorem vo (a0:Option (Nat×Nat)) (s:AS) (R:AV->AS->Prop) (h:DF a0 s R):aa Tryz.prog fR [.ptr a0] s R :=
 aa.q (n:=11) (rs:=[.tmp 2]) (A:=DG) hT bW Tryz.func36 (by kernel_rfl) rfl rfl rfl (by kernel_rfl) (by kernel_rfl) h
def AF (a0:Option (Nat×Nat)) (s:AS) (R:AV->AS->Prop):Prop :=
 sJ (iB T 100 yp (.ptr a0) (.ptr none)) fun b=>af (!b) (ah a0 fun c d=>ng (av s c d) fun e=>sJ (iB T 100 lA (.ptr e) (.ptr none)) fun i=>R (.bool (!i)) s) (R (.bool false) s)
def AG:QA:=(.seq .leaf (.seq .leaf .leaf))
theorem rT (a0:Option (Nat×Nat)) (s:AS) (R:AV->AS->Prop) (h:AF a0 s R):aa Tryz.prog bY [.ptr a0] s R :=
 aa.q (n:=12) (rs:=[.tmp 2]) (A:=AG) hT bW Tryz.func93 (by kernel_rfl) rfl rfl rfl (by kernel_rfl) (by kernel_rfl) h
def sC (a0:AV) (a1:AV) (s:AS) (R:AV->AS->Prop):Prop :=
 aa Tryz.prog iP [a0] s fun b s2=>aa Tryz.prog fj [b,a1] s2 fun c s4=>c=.aP []/\(R b s4)
def sE:QA:=(.seq .leaf (.seq .leaf (.seq .leaf (.seq .leaf .leaf))))
theorem sF (a0:AV) (a1:AV) (s:AS) (R:AV->AS->Prop) (h:sC a0 a1 s R):aa Tryz.prog eP [a0,a1] s R :=
 aa.q (n:=12) (rs:=[.tmp 4]) (A:=sE) hT bW Tryz.func124 (by kernel_rfl) rfl rfl rfl (by kernel_rfl) (by kernel_rfl) h
def B0 (a0:Option (Nat×Nat)) (a1:List AV) (s:AS) (R:AV->AS->Prop):Prop :=
 cH a1 (aj (.cells a1 0 false) s fun l1 s2=>aj (.cells [.str [],.str []] 0 false) s2 fun l3 s4=>aa Tryz.prog bY [.ptr a0] s4 fun w s6=>∃ o:Bool,w=.bool o/\(af (!o)
 (oS (aS T oH []) fun p=>fh (some 2) p (bt (cK s6 l3 0 p) fun r=>aR (aD r l3 0 2) fun i=>R (.aP [.agg i,.bool false]) r))
 (ah a0 fun j k=>vL (av s6 j (k+1)) fun l=>aR (aD s6 l1 0 2) fun m=>∃ b:List AV,∃ c:Bool,dh T b_ (.map l) (.agg m) true s6=some (.aP [.agg b,.bool c])/\(aj (.cells [.str [],.str []] 0 false) s6 fun d eE=>fh (some 2) b (bt (cK eE d 0 b) fun gz=>aR (aD gz d 0 2) fun e=>fh (some 2) e (bt (cK gz l3 0 e) fun fL=>aR (aD fL l3 0 2) fun n=>R (.aP [.agg n,.bool c]) fL))))))
def B1:QA:=(.seq .leaf (.seq (.seq .leaf (.cond (.seq .leaf .leaf) .leaf)) (.seq .calm (.seq .leaf .leaf))))
theorem B2 (a0:Option (Nat×Nat)) (a1:List AV) (s:AS) (R:AV->AS->Prop) (h:B0 a0 a1 s R):aa Tryz.prog nH [.ptr a0,.agg a1] s R :=
 aa.q (n:=23) (rs:=[.cell 4 69,.tmp 5]) (A:=B1) hT bW Tryz.func257 (by kernel_rfl) rfl rfl rfl (by kernel_rfl) (by kernel_rfl) h
def B3 (a0:Option (Nat×Nat)) (a1:List AV) (s:AS) (R:AV->AS->Prop):Prop :=
 cH a1 (aj (.cells a1 0 false) s fun l1 s2=>aR (aD s2 l1 0 2) fun n=>aa Tryz.prog nH [.ptr a0,.agg n] s2 fun o p=>∃ d:List AV,∃ m:Bool,o=.aP [.agg d,.bool m]/\(aj (.cells [.str [],.str []] 0 false) p fun r w=>fh (some 2) d (bt (cK w r 0 d) fun e=>aa Tryz.prog bY [.ptr a0] e fun v11 dI=>∃ b:Bool,v11=.bool b/\(af b (af (!m) (ah a0 fun lC i=>ng (av dI lC i) fun j=>aR (aD dI l1 0 2) fun k=>aa Tryz.prog kj [.ptr j,.agg k] dI fun l gz=>∃ c:Bool,l=.bool c/\(R (.bool c) gz)) (R (.bool false) dI)) (R (.bool false) dI)))))
def B4:QA:=(.seq .leaf (.seq .leaf (.seq .calm .leaf)))
theorem B5 (a0:Option (Nat×Nat)) (a1:List AV) (s:AS) (R:AV->AS->Prop) (h:B3 a0 a1 s R):aa Tryz.prog nE [.ptr a0,.agg a1] s R :=
 aa.q (n:=27) (rs:=[.tmp 4]) (A:=B4) hT bW Tryz.func215 (by kernel_rfl) rfl rfl rfl (by kernel_rfl) (by kernel_rfl) h
def Fp (a0:List AV) (s:AS) (R:AV->AS->Prop):Prop :=
 cH a0 (aj (.cells a0 0 false) s fun l1 s2=>FY (av s2 l1 0) fun e=>aa Tryz.prog pW [.str e] s2 fun i c=>∃ d:Bool,i=.bool d/\(af d (FY (av c l1 1) fun j=>aa Tryz.prog pW [.str j] c fun k l=>∃ b:Bool,k=.bool b/\(R (.bool b) l)) (R (.bool false) c)))
def Fq:QA:=(.seq .leaf (.seq .leaf .leaf))
theorem Ft (a0:List AV) (s:AS) (R:AV->AS->Prop) (h:Fp a0 s R):aa Tryz.prog lY [.agg a0] s R :=
 aa.q (n:=11) (rs:=[.tmp 2]) (A:=Fq) hT bW Tryz.func150 (by kernel_rfl) rfl rfl rfl (by kernel_rfl) (by kernel_rfl) h
def B6 (a0:Option (Nat×Nat)) (a1:AV) (s:AS) (R:AV->AS->Prop):Prop :=
 ah a0 fun l1 o2=>vL (av s l1 (o2+1)) fun K=>aa Tryz.prog eH [.map K] s fun L M=>aa Tryz.prog eP [L,(.func iN [])] M fun J s7=>aV .i64 (aQ T az J s7) fun O=>bB fun m n=>m n [.slc none 0 0 true,.int .i64 0] s7 /\
 ∀ i:Nat,∀ c:AV,∀ b:Int,∀ d:AS,m i [c,.int .i64 b] d ->
 af (decide ((b:Int)<O))
 (bG (ag T az J (.int .i64 b)) fun o p=>aR (aD d o p 2) fun k=>aj (.cells [.int .i64 0,.int .u64 0] 0 false) d fun e gz=>fh (some 2) k (bt (cK gz e 0 k) fun gi=>aR (aD gi e 0 2) fun r=>ah a0 fun w x=>vL (av gi w (x+1)) fun y=>aR (aD gi e 0 2) fun z=>oS (dh T b_ (.map y) (.agg z) false gi) fun A=>er Tryz.prog a1 [.agg r,.agg A] gi fun B j=>∃ l:Bool,B=.bool l/\(af l
 (aR (aD j e 0 2) fun C=>aR (cV T az 1 [(0,.agg C)]) fun D=>aj (.cells D 0 false) j fun F G=>iD (aI T az az c (.slc (some (F,0)) 1 1 true) G) fun H I=>∃ m',m'<i/\m m' [H,(.int .i64 (IntKind.wrap .i64 (b+1)))] I)
 (∃ m',m'<i/\m m' [c,(.int .i64 (IntKind.wrap .i64 (b+1)))] j))))
 (R c d)
def B7:QA:=(.seq .leaf (.seq .leaf (.seq (.seq .leaf (.wrap (.loop [(5,.any),(15,.int .i64)] [(5,5),(7,7),(15,32)] (.seq .leaf (.seq (.cond .leaf .leaf) (.seq (.wrap (.seq .leaf (.seq (.draw 8) (.cond .leaf .leaf)))) .leaf)))))) (.seq .leaf .leaf))))
theorem B8 (a0:Option (Nat×Nat)) (a1:AV) (s:AS) (R:AV->AS->Prop) (h:B6 a0 a1 s R):aa Tryz.prog gL [.ptr a0,a1] s R :=
 aa.q (n:=34) (rs:=[.tmp 4]) (A:=B7) hT bW Tryz.func94 (by kernel_rfl) rfl rfl rfl (by kernel_rfl) (by kernel_rfl) h
def AH (a0:List AV) (a1:List AV) (c0:Option (Nat×Nat)) (s:AS) (R:AV->AS->Prop):Prop :=
 cH a0 (aj (.cells a0 0 false) s fun l1 s2=>cH a1 (aj (.cells a1 0 false) s2 fun l3 s4=>aR (aD s4 l3 0 2) fun b=>ah c0 fun c d=>aR (aD s4 c d 2) fun e=>sJ (iB T 100 oH (.agg b) (.agg e)) fun i=>R (.bool i) s4))
def AI:QA:=(.seq .leaf (.seq .leaf .leaf))
theorem AJ (a0:List AV) (a1:List AV) (c0:Option (Nat×Nat)) (s:AS) (R:AV->AS->Prop) (h:AH a0 a1 c0 s R):aa Tryz.prog lZ [.agg a0,.agg a1,.ptr c0] s R :=
 aa.q (n:=9) (rs:=[.tmp 5]) (A:=AI) hT bW Tryz.func151 (by kernel_rfl) rfl rfl rfl (by kernel_rfl) (by kernel_rfl) h
def Ja (a0:AV) (s:AS) (R:AV->AS->Prop):Prop :=
 aV .i64 (aQ T az a0 s) fun p=>bB fun e r=>e r [.slc none 0 0 true,.int .i64 0] s /\
 ∀ o:Nat,∀ i:AV,∀ d:Int,∀ s7:AS,e o [i,.int .i64 d] s7 ->
 af (decide ((d:Int)<p))
 (bG (ag T az a0 (.int .i64 d)) fun w x=>aR (aD s7 w x 2) fun b=>aj (.cells [.int .i64 0,.int .u64 0] 0 false) s7 fun c dI=>fh (some 2) b (bt (cK dI c 0 b) fun bP=>aR (aD bP c 0 2) fun j=>oS (aS T qG [(0,.agg j),(2,.bool true)]) fun k=>aR (cV T aG 1 [(0,.agg k)]) fun l=>aj (.cells l 0 false) bP fun m eE=>iD (aI T aG aG i (.slc (some (m,0)) 1 1 true) eE) fun n gi=>∃ m',m'<o/\e m' [n,(.int .i64 (IntKind.wrap .i64 (d+1)))] gi))
 (R i s7)
def Jf:QA:=(.seq .leaf (.seq .leaf (.seq (.seq .leaf (.wrap (.loop [(3,.any),(8,.int .i64)] [(3,3),(5,5),(8,17)] (.seq .leaf (.seq (.cond .leaf .leaf) (.seq (.wrap (.seq .leaf .leaf)) .leaf)))))) (.seq .leaf .leaf))))
theorem Jg (a0:AV) (s:AS) (R:AV->AS->Prop) (h:Ja a0 s R):aa Tryz.prog fW [a0] s R :=
 aa.q (n:=19) (rs:=[.tmp 2]) (A:=Jf) hT bW Tryz.func114 (by kernel_rfl) rfl rfl rfl (by kernel_rfl) (by kernel_rfl) h
def kY (a0:AV) (a1:AV) (s:AS) (R:AV->AS->Prop):Prop :=
 aa Tryz.prog eu [a0,a1] s fun c s2=>∃ b:Int,c=.int .i64 b/\(R (.bool (decide ((b:Int)>=0))) s2)
def kZ:QA:=(.seq .leaf (.seq .leaf .leaf))
theorem k5 (a0:AV) (a1:AV) (s:AS) (R:AV->AS->Prop) (h:kY a0 a1 s R):aa Tryz.prog dM [a0,a1] s R :=
 aa.q (n:=9) (rs:=[.tmp 4]) (A:=kZ) hT bW Tryz.func121 (by kernel_rfl) rfl rfl rfl (by kernel_rfl) (by kernel_rfl) h
def AK (a0:List AV) (s:AS) (R:AV->AS->Prop):Prop :=
 cH a0 (aj (.cells a0 0 false) s fun l1 s2=>aR (aD s2 l1 0 5) fun c=>aa Tryz.prog wF [.agg c] s2 fun d e=>∃ b:Bool,d=.bool b/\(R (.bool (!b)) e))
def AL:QA:=(.seq .leaf (.seq .leaf .leaf))
theorem AM (a0:List AV) (s:AS) (R:AV->AS->Prop) (h:AK a0 s R):aa Tryz.prog l_ [.agg a0] s R :=
 aa.q (n:=6) (rs:=[.tmp 2]) (A:=AL) hT bW Tryz.func172 (by kernel_rfl) rfl rfl rfl (by kernel_rfl) (by kernel_rfl) h
def Ls (a0:List AV) (s:AS) (R:AV->AS->Prop):Prop :=
 cH a0 (aj (.cells a0 0 false) s fun l1 s2=>On (av s2 l1 4) fun l=>af l
 (aR (aD s2 l1 0 2) fun m=>aa Tryz.prog nA [.agg m] s2 fun n s6=>∃ k:Bool,n=.bool k/\(af k (aR (aD s6 l1 2 2) fun o=>oS (aS T oH []) fun p=>sJ (iB T 100 oH (.agg o) (.agg p)) fun d=>R (.bool d) s6) (R (.bool false) s6)))
 (aR (aD s2 l1 0 2) fun e=>aa Tryz.prog nA [.agg e] s2 fun i bP=>∃ b:Bool,i=.bool b/\(af b (aR (aD bP l1 2 2) fun j=>aa Tryz.prog lY [.agg j] bP fun nM lK=>∃ c:Bool,nM=.bool c/\(R (.bool c) lK)) (R (.bool false) bP))))
def Lu:QA:=(.seq .leaf (.seq (.seq .leaf (.cond (.seq .leaf .leaf) .leaf)) (.seq .leaf .leaf)))
theorem Lv (a0:List AV) (s:AS) (R:AV->AS->Prop) (h:Ls a0 s R):aa Tryz.prog wF [.agg a0] s R :=
 aa.q (n:=22) (rs:=[.tmp 2]) (A:=Lu) hT bW Tryz.func173 (by kernel_rfl) rfl rfl rfl (by kernel_rfl) (by kernel_rfl) h
def B9 (a0:Option (Nat×Nat)) (s:AS) (R:AV->AS->Prop):Prop :=
 aa Tryz.prog bY [.ptr a0] s fun F s2=>∃ C:Bool,F=.bool C/\(af (!C)
 (R (.ptr none) s2)
 (gy fun S V=>ah a0 fun G H=>ng (av s2 G H) fun e=>(∀ s7:AS,Ext s2 s7->aM s7->(True)->aa Tryz.prog dA [.ptr e] s7 fun I D=>∃ i:Option (Nat×Nat),I=.ptr i/\((Ext s7 D/\S 4 [(.func dA []),.ptr e] (.ptr i) D/\V 4 [(.func dA []),.ptr e] (.ptr i))))/\(∃ v,V 4 [(.func dA []),.ptr e] v)/\∀ v11:AV,V 4 [(.func dA []),.ptr e] v11->∃ d:Option (Nat×Nat),v11=.ptr d/\(ah a0 fun n o=>vL (av s2 n (o+1)) fun b=>(∀ c:AS,Ext s2 c->aM c->(S 4 [(.func dA []),.ptr e] (.ptr d) c/\True)->aa Tryz.prog bw [.map b] c fun p eE=>∃ j:Option Nat,p=.map j/\((Ext c eE/\S 9 [(.func bw []),.map b] (.map j) eE/\V 9 [(.func bw []),.map b] (.map j))))/\(∃ v,V 9 [(.func bw []),.map b] v)/\∀ v20:AV,V 9 [(.func bw []),.map b] v20->∃ k:Option Nat,v20=.map k/\(ah a0 fun r w=>vL (av s2 r (w+2)) fun x=>∀ dW:AS,Ext s2 dW->aM dW->(S 4 [(.func dA []),.ptr e] (.ptr d) dW/\(S 9 [(.func bw []),.map b] (.map k) dW/\True))->aa Tryz.prog cJ [.map x] dW fun y z=>∃ l:Option Nat,y=.map l/\(oS (aS T oI [(0,.ptr d),(1,.map k),(2,.map l)]) fun m=>cH m (aj (.cells m 0 false) z fun A B=>R (.ptr (some (A,0))) B))))))
def B_:QA:=(.seq .leaf (.seq (.seq .leaf (.cond (.seq .leaf .leaf) .leaf)) (.seq (.gR 14 [[],[],[],[],[],[],[],[],[],[4],[],[],[],[]] [4,9]) .leaf)))
theorem Ca (a0:Option (Nat×Nat)) (s:AS) (R:AV->AS->Prop) (h:B9 a0 s R):aa Tryz.prog nD [.ptr a0] s R :=
 aa.q (n:=23) (rs:=[.tmp 2]) (A:=B_) hT bW Tryz.func174 (by kernel_rfl) rfl rfl rfl (by kernel_rfl) (by kernel_rfl) h
def DH (a0:Option (Nat×Nat)) (a1:List AV) (s:AS) (R:AV->AS->Prop):Prop :=
 cH a1 (aj (.cells a1 0 false) s fun l1 s2=>ah a0 fun l3 o4=>vL (av s2 l3 (o4+1)) fun r5=>aR (aD s2 l1 0 2) fun g6=>∃ m:List AV,∃ Z:Bool,dh T b_ (.map r5) (.agg g6) true s2=some (.aP [.agg m,.bool Z])/\(aj (.cells [.str [],.str []] 0 false) s2 fun l9 n=>fh (some 2) m (bt (cK n l9 0 m) fun c=>bz fun d =>
 (∀ j:Bool,∀ b:AS,d [.bool j] b ->
 af j
 (ah a0 fun o p=>vL (av b o (p+1)) fun r=>aR (aD b l1 0 2) fun w=>bt (pS T b_ (.map r) (.agg w) b) fun gz=>ah a0 fun x y=>vL (av gz x (y+2)) fun z=>aR (aD gz l1 0 2) fun A=>oS (aS T eo [(0,.bool true)]) fun B=>bt (dJ T bK (.map z) (.agg A) (.agg B) gz) fun dW=>R (.aP [.bool true,.int .i64 0]) dW)
 (ah a0 fun C D=>ng (av b C D) fun F=>aR (aD b l1 0 2) fun G=>aa Tryz.prog sk [.ptr F,.agg G] b fun v30 mu=>∃ k:Bool,∃ e:Int,v30=.aP [.bool k,.int .i64 e]/\(bz fun i =>
 (∀ l:Bool,∀ jZ:AS,i [.bool l] jZ ->
 af l
 (R (.aP [.bool false,.int .i64 e]) jZ)
 (On (av jZ l1 4) fun H=>af H
 (ah a0 fun I J=>vL (av jZ I (J+2)) fun K=>aR (aD jZ l1 0 2) fun L=>oS (aS T eo [(0,.bool true)]) fun M=>bt (dJ T bK (.map K) (.agg L) (.agg M) jZ) fun O=>R (.aP [.bool true,.int .i64 0]) O)
 (ah a0 fun Q S=>vL (av jZ Q (S+1)) fun U=>aR (aD jZ l1 0 2) fun W=>aR (aD jZ l1 2 2) fun X=>bt (dJ T b_ (.map U) (.agg W) (.agg X) jZ) fun yY=>R (.aP [.bool true,.int .i64 0]) yY))) /\
 (af ((e:Int) != 0) (i [.bool true] mu) (i [(.bool (!k))] mu))))) /\
 (af Z (On (av c l1 4) fun Y=>d [.bool Y] c) (d [.bool false] c)))))
def DI:QA:=(.seq .leaf (.seq .calm (.seq (.join [(24,.bool)] [(20,24)] .leaf (.cond (.seq (.draw 6) (.seq (.draw 7) (.seq .leaf .leaf))) .leaf)) (.seq .calm (.seq (.wrap (.join [(56,.bool)] [(56,62)] .leaf (.cond (.seq .leaf .leaf) (.seq .leaf (.cond (.draw 7) (.draw 8)))))) (.seq .leaf .leaf))))))
theorem DJ (a0:Option (Nat×Nat)) (a1:List AV) (s:AS) (R:AV->AS->Prop) (h:DH a0 a1 s R):aa Tryz.prog pn [.ptr a0,.agg a1] s R :=
 aa.q (n:=74) (rs:=[.tmp 4,.tmp 5]) (A:=DI) hT bW Tryz.func175 (by kernel_rfl) rfl rfl rfl (by kernel_rfl) (by kernel_rfl) h
def AN (a0:List AV) (a1:List AV) (c0:Option (Nat×Nat)) (s:AS) (R:AV->AS->Prop):Prop :=
 cH a0 (aj (.cells a0 0 false) s fun l1 s2=>cH a1 (aj (.cells a1 0 false) s2 fun l3 s4=>aR (aD s4 l3 0 2) fun b=>ah c0 fun c d=>aR (aD s4 c d 2) fun e=>sJ (iB T 100 oH (.agg b) (.agg e)) fun i=>R (.bool i) s4))
def AP:QA:=(.seq .leaf (.seq .leaf .leaf))
theorem AQ (a0:List AV) (a1:List AV) (c0:Option (Nat×Nat)) (s:AS) (R:AV->AS->Prop) (h:AN a0 a1 c0 s R):aa Tryz.prog lW [.agg a0,.agg a1,.ptr c0] s R :=
 aa.q (n:=9) (rs:=[.tmp 5]) (A:=AP) hT bW Tryz.func95 (by kernel_rfl) rfl rfl rfl (by kernel_rfl) (by kernel_rfl) h
def mM (a0:AV) (a1:AV) (s:AS) (R:AV->AS->Prop):Prop :=
 aV .i64 (aQ T aG a0 s) fun j=>bB fun e k=>e k [.int .i64 0] s /\
 ∀ i:Nat,∀ b:Int,∀ s6:AS,e i [.int .i64 b] s6 ->
 af (decide ((b:Int)<j))
 (bG (ag T aG a0 (.int .i64 b)) fun l m=>aR (aD s6 l m 5) fun n=>er Tryz.prog a1 [.agg n] s6 fun v10 c=>∃ d:Bool,v10=.bool d/\(af d
 (R (.int .i64 b) c)
 (∃ m',m'<i/\e m' [(.int .i64 (IntKind.wrap .i64 (b+1)))] c)))
 (R (.int .i64 (-1)) s6)
def mN:QA:=(.seq .leaf (.seq (.seq .leaf (.wrap (.loop [(8,.int .i64)] [(4,5),(8,18)] (.seq .leaf (.seq (.cond .leaf .leaf) (.seq (.wrap (.seq .leaf (.seq .leaf (.cond (.seq .leaf .leaf) .leaf)))) .leaf)))))) (.seq .leaf .leaf)))
theorem mO (a0:AV) (a1:AV) (s:AS) (R:AV->AS->Prop) (h:mM a0 a1 s R):aa Tryz.prog eu [a0,a1] s R :=
 aa.q (n:=19) (rs:=[.tmp 4]) (A:=mN) hT bW Tryz.func189 (by kernel_rfl) rfl rfl rfl (by kernel_rfl) (by kernel_rfl) h
def vH (a0:AV) (s:AS) (R:AV->AS->Prop):Prop :=
 aa Tryz.prog oD [.slc none 0 0 true,a0] s fun b s2=>R b s2
def vI:QA:=(.seq .leaf (.seq .leaf .leaf))
theorem vJ (a0:AV) (s:AS) (R:AV->AS->Prop) (h:vH a0 s R):aa Tryz.prog iP [a0] s R :=
 aa.q (n:=5) (rs:=[.tmp 2]) (A:=vI) hT bW Tryz.func191 (by kernel_rfl) rfl rfl rfl (by kernel_rfl) (by kernel_rfl) h
def Jh (a0:List UInt8) (s:AS) (R:AV->AS->Prop):Prop :=
 aV .i64 (aQ T cE (.str a0) s) fun b=>af (decide ((b:Int)>=1)) (aV .i64 (aQ T cE (.str a0) s) fun n2=>R (.bool (decide ((n2:Int)<=32))) s) (R (.bool false) s)
def Ji:QA:=(.seq .leaf (.seq .leaf .leaf))
theorem Jj (a0:List UInt8) (s:AS) (R:AV->AS->Prop) (h:Jh a0 s R):aa Tryz.prog pW [.str a0] s R :=
 aa.q (n:=11) (rs:=[.tmp 2]) (A:=Ji) hT bW Tryz.func207 (by kernel_rfl) rfl rfl rfl (by kernel_rfl) (by kernel_rfl) h
def nR (a0:Option Nat) (s:AS) (R:AV->AS->Prop):Prop :=
 aj (.cells [.map a0] 0 false) s fun l1 s2=>R (.func fX [(.ptr (some (l1,0)))]) s2
def nS:QA:=(.seq .leaf (.seq .leaf .leaf))
theorem nT (a0:Option Nat) (s:AS) (R:AV->AS->Prop) (h:nR a0 s R):aa Tryz.prog eH [.map a0] s R :=
 aa.q (n:=4) (rs:=[.tmp 2]) (A:=nS) hT bW Tryz.func168 (by kernel_rfl) rfl rfl rfl (by kernel_rfl) (by kernel_rfl) h
def GK (a0:List AV) (a1:List AV) (s:AS) (R:AV->AS->Prop):Prop :=
 cH a0 (aj (.cells a0 0 false) s fun l1 s2=>cH a1 (aj (.cells a1 0 false) s2 fun l3 s4=>gy fun S V=>aV .i64 (av s4 l1 0) fun d=>aV .i64 (av s4 l3 0) fun e=>(∀ s7:AS,Ext s4 s7->aM s7->(True)->aa Tryz.prog aO [.int .i64 d,.int .i64 e] s7 fun x w=>∃ b:Int,x=.int .i64 b/\((Ext s7 w/\S 4 [(.func aO []),.int .i64 d,.int .i64 e] (.int .i64 b) w/\V 4 [(.func aO []),.int .i64 d,.int .i64 e] (.int .i64 b))))/\(∃ v,V 4 [(.func aO []),.int .i64 d,.int .i64 e] v)/\∀ v11:AV,V 4 [(.func aO []),.int .i64 d,.int .i64 e] v11->∃ c:Int,v11=.int .i64 c/\(aV .u64 (av s4 l1 1) fun k=>aV .u64 (av s4 l3 1) fun l=>∀ gu:AS,Ext s4 gu->aM gu->(S 4 [(.func aO []),.int .i64 d,.int .i64 e] (.int .i64 c) gu/\True)->aa Tryz.prog eD [.int .u64 k,.int .u64 l] gu fun m eE=>∃ i:Int,m=.int .i64 i/\(aR (cV T gG 2 [(0,.int .i64 c),(1,.int .i64 i)]) fun n=>aj (.cells n 0 false) eE fun o fP=>aa Tryz.prog kk [(.slc (some (o,0)) 2 2 true)] fP fun p r=>∃ j:Int,p=.int .i64 j/\(R (.int .i64 j) r)))))
def GL:QA:=(.seq .leaf (.seq (.gR 9 [[],[],[],[],[],[],[],[],[]] [4]) .leaf))
theorem GM (a0:List AV) (a1:List AV) (s:AS) (R:AV->AS->Prop) (h:GK a0 a1 s R):aa Tryz.prog iN [.agg a0,.agg a1] s R :=
 aa.q (n:=17) (rs:=[.tmp 4]) (A:=GL) hT bW Tryz.func117 (by kernel_rfl) rfl rfl rfl (by kernel_rfl) (by kernel_rfl) h
def Jk (a0:List UInt8) (s:AS) (R:AV->AS->Prop):Prop :=
 aV .i64 (aQ T cE (.str a0) s) fun b=>af (decide ((b:Int)>=1)) (aV .i64 (aQ T cE (.str a0) s) fun n2=>R (.bool (decide ((n2:Int)<=32))) s) (R (.bool false) s)
def Jl:QA:=(.seq .leaf (.seq .leaf .leaf))
theorem Jm (a0:List UInt8) (s:AS) (R:AV->AS->Prop) (h:Jk a0 s R):aa Tryz.prog pU [.str a0] s R :=
 aa.q (n:=11) (rs:=[.tmp 2]) (A:=Jl) hT bW Tryz.func27 (by kernel_rfl) rfl rfl rfl (by kernel_rfl) (by kernel_rfl) h
end Go.Proofs.YtohgmogbabkkeaaGreat
end

section
namespace Go.Proofs.YtohgmogbabkkeaaGreat
open Go.Am Go.aC
def f_ (k:Key):List AV:=[.str k.t,.str k.d]
def bu (i:eC):List AV:=[.int .i64 i.dot.r,.int .u64 i.dot.c,.str i.key.t,.str i.key.d,.bool i.gone]
theorem bg (i:eC):(bu i).length=5:=rfl
theorem jM (i:eC):(bu i).all AV.one=true:=rfl
end Go.Proofs.YtohgmogbabkkeaaGreat
end

section
namespace Go.Proofs.YtohgmogbabkkeaaGreat.SI
end Go.Proofs.YtohgmogbabkkeaaGreat.SI
end

section
namespace Go.Proofs.YtohgmogbabkkeaaGreat
open Go.Am Go.au Go.aC
theorem Fu (a b:aJ) (s:AS):aa Tryz.prog iN [.agg (aN a),.agg (aN b)] s fun v s'=>v=.int .i64 (a.cmp b)/\Ext s s':=by
 refine aa.pre fun n=>GM _ _ _ _ ⟨rfl,aj.intro n rfl fun l s1 F=>⟨rfl,aj.intro F.wf rfl fun o s2 i=>?_⟩⟩;have e:=F.ext.trans i.ext;refine ⟨fun _ _ _ _=>True,fun _ _ v=>v=.int .i64 (sX a.r b.r),fun _ _ _ _ _ _ _=>trivial,?_⟩;simp only [(F.own.ext i.ext).at.av,i.own.at.av,aN,List.getElem?_cons_zero,List.getElem?_cons_succ,go_sem];refine ⟨fun s7 _ _ _=>?_,⟨_,rfl⟩,?_⟩
 ·refine (j8 _ _ _).mono ?_;rintro v s' ⟨rfl,rfl⟩;exact ⟨_,rfl,Ext.refl _,trivial,rfl⟩
 ·rintro v rfl;refine ⟨_,rfl,fun gu j _ _=>?_⟩;refine aa.use (iy _ _ _) ?_;rintro v s' ⟨rfl,rfl⟩ k;refine ⟨_,rfl,?_⟩;have d:cV T gG 2 [(0,.int .i64 (sX a.r b.r)),(1,.int .i64 (sX a.c b.c))]=some [.int .i64 (sX a.r b.r),.int .i64 (sX a.c b.c)]:=by
   simp only [cV,rM,Hs,Io,Option.bind_some,uk];rfl
  rw [d];simp only [go_sem];refine aj.intro k rfl fun l3 s3 m=>?_;refine (pI _ _ m.own.at).mono ?_;rintro v s' ⟨rfl,rfl⟩;refine ⟨_,rfl,?_,e.trans (j.trans m.ext)⟩;simp only [aJ.cmp]
instance:qS iN:=⟨Fu⟩
def aK (t:List UInt8):Bool:=decide (1<=t.length/\t.length<=32)
theorem kF (t:List UInt8) (s:AS):aQ T cE (.str t) s=some (.int .i64 (t.length:Nat)):=by simp [aQ,qI]
theorem OI (t:List UInt8) (s:AS):aa Tryz.prog pW [.str t] s fun v s'=>v=.bool (aK t)/\s'=s:=by
 refine Jj _ _ _ ⟨_,kF t s,af.dec (fun h=>⟨_,kF t s,?_,rfl⟩) (fun h=>⟨?_,rfl⟩)⟩
 ·congr 1;rw [aK,decide_eq_decide];omega
 ·congr 1;symm;rw [aK,decide_eq_false_iff_not];omega
def _root_.Go.aC.Key.may (k:Key):Bool:=aK k.t&&aK k.d
def _root_.Go.aC.eC.may (i:eC):Bool:=i.dot.may&&(if i.gone then decide (i.key=⟨[],[]⟩) else i.key.may)
theorem Hw (k:Key) (s:AS):aa Tryz.prog lY [.agg (f_ k)] s fun v s'=>v=.bool k.may/\Ext s s':=by
 refine aa.pre fun b=>Ft _ _ _ ⟨rfl,aj.intro b rfl fun l s1 F=>⟨k.t,by rw [F.own.at.av];rfl,?_⟩⟩;refine aa.use (OI _ _) ?_;rintro v s2 ⟨rfl,rfl⟩ _;refine ⟨_,rfl,af.mk (fun h=>⟨k.d,by rw [F.own.at.av];rfl,?_⟩) (fun h=>⟨by rw [Key.may,h];rfl,F.ext⟩)⟩;refine aa.use (OI _ _) ?_;rintro v s3 ⟨rfl,rfl⟩ _;exact ⟨_,rfl,by rw [Key.may,h];rfl,F.ext⟩
theorem TB:triples (T.cR oH)=some [(false,cE,0),(false,cE,1)]:=by kernel_rfl
theorem U9:T.S8 oH=true:=by kernel_rfl
theorem Jn (a b:Key):iB T 100 oH (.agg (f_ a)) (.agg (f_ b))=some (decide (a=b)):=by
 rw [Ov TB U9];simp only [EK,cond_false,By Pv,f_,List.getElem?_cons_zero,List.getElem?_cons_succ,Option.bind_some,Ri qI];cases a;cases b;simp only [Key.mk.injEq];rename_i r c d c';by_cases e:r=d <;> by_cases h2:c=c' <;> simp [e,h2]
theorem NG:aS T oH []=some (.agg (f_ ⟨[],[]⟩)):=by kernel_rfl
theorem U_ (i:eC) (s:AS):aa Tryz.prog wF [.agg (bu i)] s fun v s'=>v=.bool i.may/\Ext s s':=by
 refine aa.pre fun c=>Lv _ _ _ ⟨rfl,aj.intro c rfl fun l s1 F=>⟨i.gone,by rw [F.own.at.av];rfl,?_⟩⟩;have gd:∀ s',Ext s1 s'->aD s' l 0 2=some (aN i.dot):=fun s' e=>(F.own.ext e).at.aD (by simp [bu]);have b:∀ s',Ext s1 s'->aD s' l 2 2=some (f_ i.key):=fun s' e=>(F.own.ext e).at.aD (by simp [bu]);refine af.mk (fun h=>?_) (fun h=>?_)
 ·refine ⟨_,gd _ (Ext.refl _),?_⟩;refine aa.use (qR _ _) ?_;rintro v s2 ⟨rfl,e2⟩ _;refine ⟨_,rfl,af.mk (fun h2=>⟨_,b _ e2,_,NG,_,Jn _ _,?_,F.ext.trans e2⟩) (fun h2=>⟨by simp [eC.may,h2],F.ext.trans e2⟩)⟩;simp [eC.may,h,h2]
 ·refine ⟨_,gd _ (Ext.refl _),?_⟩;refine aa.use (qR _ _) ?_;rintro v s2 ⟨rfl,e2⟩ _;refine ⟨_,rfl,af.mk (fun h2=>⟨_,b _ e2,?_⟩) (fun h2=>⟨by simp [eC.may,h2],F.ext.trans e2⟩)⟩;refine aa.use (Hw _ _) ?_;rintro v s3 ⟨rfl,d⟩ _;exact ⟨_,rfl,by simp [eC.may,h,h2],F.ext.trans (e2.trans d)⟩
end Go.Proofs.YtohgmogbabkkeaaGreat
end

section
namespace Go.Proofs.YtohgmogbabkkeaaGreat
open Go.Am Go.au Go.ChangeShapes Go.WideShapes Go.ChangeAt Go.RowKit
theorem RR (x:aJ):fo dD [] x=false:=by
 cases b:fo dD [] x with
 | false=>rfl
 | true =>
  obtain ⟨hm,h⟩:=tJ.1 b;have:=aJ.gD.1 hm;rcases h with h | h
  ·cases h
  ·have e:dD.getD (x.r - 1).toNat 0=0:=by
    simp only [dD,List.getD_eq_getElem?_getD,List.getElem?_replicate];split <;> rfl
   omega
theorem RS {v:List Int} {ex:List aJ} (ok:Lj v ex) (Fx:RP v ex) (b:ex.length<4096) (d:aJ):Lj (kX v ex d).2.2.1 (kX v ex d).2.2.2/\RP (kX v ex d).2.2.1 (kX v ex d).2.2.2/\(kX v ex d).2.2.2.length<=ex.length+1/\∀ x,fo (kX v ex d).2.2.1 (kX v ex d).2.2.2 x=true↔fo v ex x=true\/(x=d/\d.may=true):=by
 cases hm:d.may with
 | false =>
  have:kX v ex d=(false,2,v,ex):=by simp [kX,hm]
  rw [this];exact ⟨ok,Fx,by simp,fun x=>by simp⟩
 | true =>
  rw [RN hm b];exact ⟨ok.add hm,RP.add ok Fx hm,RM,fun x=>by rw [Ln ok hm];simp⟩
theorem place {n:Int} {k:Nat} (c:0<k) (b:k<=80):∃ j:Nat,j<k/\Int.tmod (IntKind.wrap .i64 (Int.tmod n (k:Int)+(k:Int))) (k:Int)=(j:Int):=by
 have d:=Int.tmod_lt_of_pos n (show (0:Int)<k by omega);have h2 : -(k:Int)<Int.tmod n k:=by
  have:=Int.tmod_lt_of_pos (-n) (show (0:Int)<k by omega);rw [Int.neg_tmod] at this;omega
 rw [aW (by omega)];have h3:0<=Int.tmod (Int.tmod n k+k) k:=Int.tmod_nonneg _ (by omega);have h4:=Int.tmod_lt_of_pos (Int.tmod n k+k) (show (0:Int)<k by omega);exact ⟨(Int.tmod (Int.tmod n k+k) k).toNat,by omega,by omega⟩
end Go.Proofs.YtohgmogbabkkeaaGreat
end

section
namespace Go.Proofs.YtohgmogbabkkeaaGreat
open Go.Am Go.au
/-! ### maps of dots -/
abbrev dK (d:aJ):AV:=.agg (aN d)
abbrev bV (b:Bool):AV:=.agg [.bool b]
theorem Fy:∀ r c:Int,mY T 100 iH (.agg [.int .i64 r,.int .u64 c])=true:=by
 intro r c;kernel_rfl
theorem Lw:aS T eo [(0,.bool true)]=some (.agg [.bool true]):=by kernel_rfl
/-! ### views -/
structure Vw where
 v:List Int
 ex:List aJ
 live:aJ->Bool
structure DK (F:List Nat) (s:AS) (p:Nat) (v:List Int) (ex:List aJ):Prop where
 len:v.length=16
 Xh:p∈F
 mem:∃ w,Am.Own s p (v.map (.int .u64)++[w,.bool true])/\w.one=true/\br aN 2 s w ex/\∀ la∈ay w,la∈F
theorem DK.at {F:List Nat} {s:AS} {p:Nat} {v:List Int} {ex:List aJ} (h:DK F s p v ex):wR s p v ex:=by
 obtain ⟨b,_,w,h2,h3,h4,c⟩:=h;exact ⟨b,w,h2,h3,h4.sl bn⟩
theorem DK.mut {F:List Nat} {s s':AS} {L:List Nat} {p:Nat} {v:List Int} {ex:List aJ} (h:DK F s p v ex) (m:bD L s s') (c:∀ x∈L,x ∉ F):DK F s' p v ex:=by
 obtain ⟨i,d,w,h2,h3,h4,e⟩:=h;exact ⟨i,d,w,h2.mut m (fun b=>c p b d),h3,h4.mut m fun x b hm=>c x hm (e x b),e⟩
theorem DK.sub {F F':List Nat} {s:AS} {p:Nat} {v:List Int} {ex:List aJ} (h:DK F s p v ex) (b:∀ x∈F,x∈F'):DK F' s p v ex:=by
 obtain ⟨c,d,w,h2,h3,h4,e⟩:=h;exact ⟨c,b _ d,w,h2,h3,h4,fun x i=>b x (e x i)⟩
theorem uR.W_ {s0 s:AS} {p:Nat} {v:List Int} {ex:List aJ} (h:uR s0 s p v ex) (c:s0.h p=none):∃ F,DK F s p v ex/\(∀ x∈F,s0.h x=none)/\∀ x∈F,s.h x≠none:=by
 obtain ⟨d,w,h2,h3,h4,e⟩:=h;refine ⟨p::ay w,⟨d,by simp,w,h2,h3,h4,fun x b=>by simp [b]⟩,fun x b=>?_,fun x b=>?_⟩
 ·rcases List.mem_cons.1 b with rfl | b
  ·exact c
  ·exact e x b
 ·rcases List.mem_cons.1 b with rfl | b
  ·rw [h2];simp
  ·rcases h4 with ⟨_,a,rfl⟩ | ⟨la,rfl,i⟩
   ·simp [ay] at b
   ·obtain rfl:x=la:=by simpa [ay] using b
    rw [i];simp
theorem uR.WG {s0 s:AS} {p:Nat} {v:List Int} {ex:List aJ} (h:uR s0 s p v ex):∃ F,DK F s p v ex/\(∀ x∈F,x=p\/s0.h x=none)/\∀ x∈F,s.h x≠none:=by
 obtain ⟨c,w,h2,h3,h4,d⟩:=h;refine ⟨p::ay w,⟨c,by simp,w,h2,h3,h4,fun x b=>by simp [b]⟩,fun x b=>?_,fun x b=>?_⟩
 ·rcases List.mem_cons.1 b with rfl | b
  ·exact .inl rfl
  ·exact .inr (d x b)
 ·rcases List.mem_cons.1 b with rfl | b
  ·rw [h2];simp
  ·rcases h4 with ⟨_,a,rfl⟩ | ⟨la,rfl,e⟩
   ·simp [ay] at b
   ·obtain rfl:x=la:=by simpa [ay] using b
    rw [e];simp
/-! ### matrices -/
section
variable {F:List Nat} {s s':AS} {p m:Nat} {n o:Int} {told:Int->Option Vw} {has:List Int}
def VJ (x:Option Vw):Nat:=match x with | some x=>x.ex.length | none=>0
end
end Go.Proofs.YtohgmogbabkkeaaGreat
end

section
namespace Go.Proofs.YtohgmogbabkkeaaGreat
open Go.Am Go.au Go.aC
/-! ### maps of dots -/
abbrev kV (k:Key):AV:=.agg (f_ k)
theorem Lx:Rk (K:=aJ) T bK iH eo dK (bV false) :=
 ⟨jS,fun a b=>IV a b,fun a=>Fy a.r a.c,fun a=>by simp [yj,CA,aN],wL⟩
theorem uT:Rk (K:=aJ) T b_ iH oH dK (kV ⟨[],[]⟩) :=
 ⟨wK,fun a b=>IV a b,fun a=>Fy a.r a.c,fun a=>by simp [yj,CA,aN],UX⟩
theorem RT:Pq T iH 2:=⟨UW,jR,_,_,M4,rfl,rfl⟩
theorem PS:WZ T az:=⟨Ry,z6⟩
theorem _root_.Go.Am.aU.map {α b:Type} {f:α->List AV} {g:b->List AV} {h:α->b} (c:∀ x,g (h x)=f x) {sz:Nat} {M:List Nat} {s0 s:AS} {v:AV} {l:List α} (G:aU f sz M s0 s v l):aU g sz M s0 s v (l.map h):=by
 refine ⟨?_,G.eL,G.new⟩;have e:(l.map h).flatMap g=l.flatMap f:=by
  rw [List.flatMap_map];congr 1;funext x;exact c x
 rcases G.vq with ⟨rfl,a,rfl⟩ | ⟨la,rfl,d⟩
 ·exact .inl ⟨rfl,a,rfl⟩
 ·exact .inr ⟨la,by rw [List.length_map],by rw [e];exact d⟩
section
variable {V:Type} {vf:V->AV} {m:Nat} {es:List (aJ×V×Nat)} {c:Nat} {ro:Bool} {s:AS}
theorem Jo {d:FuncId} {lb:Nat} (i:fU Tryz.prog d=true) (j:es.length<=2 ^ 30) (hm:eM dK vf s m es c ro)
  (b:∀ s1,Ext s s1->aM s1->KE Tryz.prog dK vf m es c ro (fun e=>aN e.1) d [.ptr (some (lb,0))] s1) :
  aa Tryz.prog iP [.func d [.ptr (some (lb,0))]] s fun v s'=>∃ done:List (aJ×V×Nat),(∀ e∈es,e∈done)/\(∀ e∈done,e∈es)/\done.Nodup/\aU aN 2 [] s s' v (done.map fun e=>e.1):=by
 refine vJ _ _ _ ?_;refine (C1 hT Tryz.func246 (by kernel_rfl) (ts:=az) (te:=iH) (tq:=C4) (by kernel_rfl) (by kernel_rfl) (by kernel_rfl) PS iK RT (el:=fun e=>aN e.1) (fun e=>rfl) (fun e=>rfl) i j hm b).mono ?_;rintro v s' ⟨done,k,h2,h3,g⟩;exact ⟨done,k,h2,h3,aU.map (h:=fun e:aJ×V×Nat=>e.1) (fun x=>rfl) g⟩
theorem Ly {A:FuncId} {lb:Nat} (B:fU Tryz.prog A=true) (O:es.length<65536) (hm:eM dK vf s m es c ro)
  (p:∀ s1,Ext s s1->aM s1->KE Tryz.prog dK vf m es c ro (fun e=>aN e.1) A [.ptr (some (lb,0))] s1) :
  aa Tryz.prog eP [.func A [.ptr (some (lb,0))],.func iN []] s fun v s'=>∃ l:List aJ,dZ l/\(∀ d,d∈l↔∃ e∈es,e.1=d)/\l.length=es.length/\Ny s s' v l:=by
 refine sF _ _ _ _ ?_;refine aa.use (Jo B (by omega) hm p) ?_;rintro v s2 ⟨done,J,h2,h3,g⟩ w2;have C:(done.map fun e=>e.1).Nodup:=by
  refine List.pairwise_map.2 (List.Pairwise.imp_of_mem ?_ h3);intro a b D hb F o;have G:=h2 a D;have H:=h2 b hb;refine F ?_;have n:=hm.nd;have key:∀ (l:List (aJ×V×Nat)),l.Pairwise (fun a b=>a.1≠b.1)->a∈l->b∈l->a=b:=by
   intro l
   induction l with
   | nil=>intro _ h;cases h
   | cons x l Q =>
    intro n h4 k;obtain ⟨p1,R⟩:=List.pairwise_cons.1 n;rcases List.mem_cons.1 h4 with K | h4 <;> rcases List.mem_cons.1 k with L | k
    ·rw [K,L]
    ·exact absurd (by rw [<- K];exact o) (p1 b k)
    ·exact absurd (by rw [<- L];exact o.symm) (p1 a h4)
    ·exact Q R h4 k
  exact key es n G H
 have hlen:(done.map fun e=>e.1).length=es.length:=by
  rw [List.length_map];have w:es.Nodup:=hm.nd.imp fun {a b} h e=>h (by rw [e]);exact ((List.perm_ext_iff_of_nodup h3 w).2 fun a=>⟨h2 a,J a⟩).length_eq
 refine aa.use (y9 g (by omega)) ?_;rintro r s4 ⟨rfl,l,n,hs,D⟩ Z;refine ⟨rfl,l,?_,fun d=>?_,by rw [n.length_eq,hlen],D⟩
 ·have S:l.Nodup:=n.nodup_iff.2 C;refine List.pairwise_iff_getElem.2 fun i j hi hj y=>?_;have hle:(el l i).le (el l j):=hs i j (by omega) y hj;have U:el l i=l[i]:=by have:=yJ hi;rw [List.getElem?_eq_getElem hi] at this;exact (Option.some.inj this).symm
  have W:el l j=l[j]:=by have:=yJ hj;rw [List.getElem?_eq_getElem hj] at this;exact (Option.some.inj this).symm
  rw [U,W] at hle;cases z:l[i].lt l[j] with
  | true=>rfl
  | false =>
   exfalso;rcases aJ.le_iff.1 hle with h | ⟨k,I⟩
   ·have:=(aJ.lt_iff (a:=l[i]) (b:=l[j])).2 (.inl h);rw [z] at this;cases this
   ·have M:¬ l[i].c<l[j].c:=fun h=>by
     have:=(aJ.lt_iff (a:=l[i]) (b:=l[j])).2 (.inr ⟨k,h⟩);rw [z] at this;cases this
    have:l[i]=l[j]:=by
     cases X:l[i];cases Y:l[j];rw [X,Y] at k I M;simp only at k I M;rw [k,show _=_ from Int.le_antisymm I (by omega)]
    exact absurd this ((List.pairwise_iff_getElem.1 S) i j hi hj y)
 ·rw [n.mem_iff,List.mem_map];constructor
  ·rintro ⟨e,o,rfl⟩;exact ⟨e,h2 e o,rfl⟩
  ·rintro ⟨e,o,rfl⟩;exact ⟨e,J e o,rfl⟩
end
end Go.Proofs.YtohgmogbabkkeaaGreat
end

section
namespace Go.Proofs.YtohgmogbabkkeaaGreat
open Go.Am Go.au Go.aC
section
variable {m:Nat} {c:Nat} {ro:Bool} {s:AS}
theorem RU {es:List (aJ×Key×Nat)} {lb:Nat} (hb:At s lb [.map (some m)]) (hm:eM dK kV s m es c ro):∀ s1,Ext s s1->aM s1->KE Tryz.prog dK kV m es c ro (fun e=>aN e.1) fX [.ptr (some (lb,0))] s1 :=
 fun s1 e _=>Rn hT Tryz.func221 (tm:=b_) (tk:=iH) (tf:=BF) (tb:=vM) (by kernel_rfl) (by kernel_rfl) (by kernel_rfl) It wK RT (kc:=aN) (fun k=>⟨rfl,rfl⟩) (hb.ext e) (hm.ext e)
theorem Lz {es:List (aJ×Key×Nat)} (j:es.length<65536) (hm:eM dK kV s m es c ro) {R:AV->AS->Prop} (k:∀ v s' (l:List aJ),dZ l->(∀ d,d∈l↔∃ e∈es,e.1=d)->l.length=es.length->Ny s s' v l->aM s'->R v s') :
  aa Tryz.prog eH [.map (some m)] s fun n o=>aa Tryz.prog eP [n,.func iN []] o R:=by
 refine aa.pre fun p=>nT _ _ _ (aj.intro p rfl fun lb s1 F=>?_);have i:=hm.ext F.ext;refine aa.use (Ly (by kernel_rfl) j i (RU F.own.at i)) ?_;rintro v s2 ⟨l,a,b,d,e⟩ w2;refine k v s2 l a b d ⟨F.ext.trans e.1,e.2.imp id fun ⟨la,i,h2,h3⟩=>⟨la,i,h2,F.ext.none h3⟩⟩ w2
/-! ### maps.Clone -/
theorem Jp:Extern.find Tryz.f210=some Extern.MapsClone.clone:=by kernel_rfl
theorem Jq:Extern.findNext Tryz.f210=none:=by kernel_rfl
theorem Jr : (Tryz.f210.name == "runtime.NumGoroutine") = false := by kernel_rfl
theorem Jt:Tryz.f210.body.isNone=true:=by kernel_rfl
theorem eM.copy {K V:Type} [DecidableEq K] {kf:K->AV} {vf:V->AV} {es:List (K×V×Nat)} {s s':AS} {m':Nat} (h:eM kf vf s m es c ro) (F:qy s s' m' (.map (lI kf vf es) c false)):eM kf vf s' m' es c false:=⟨F.at,h.st,h.lt,h.nd⟩
theorem NH {es:List (aJ×Key×Nat)} (hm:eM dK kV s m es c ro):aa Tryz.prog bw [.map (some m)] s fun v s'=>∃ m',v=.map (some m')/\Ext s s'/\s.h m'=none/\eM dK kV s' m' es c false:=by
 refine (wk hT Tryz.func225 (tm:=b_) (ti:=sq) (tb:=vM) (cl:=uA) (by kernel_rfl) (by kernel_rfl) (by kernel_rfl) (by kernel_rfl) wK Tryz.func210 Jr Jt Jq Jp hm.obj).mono ?_;rintro v s' ⟨m',rfl,F⟩;exact ⟨m',rfl,F.ext,F.no,eM.copy hm F⟩
theorem LA {es:List (aJ×Bool×Nat)} (hm:eM dK bV s m es c ro):aa Tryz.prog cJ [.map (some m)] s fun v s'=>∃ m',v=.map (some m')/\Ext s s'/\s.h m'=none/\eM dK bV s' m' es c false:=by
 refine (wk hT Tryz.func226 (tm:=bK) (ti:=sq) (tb:=vM) (cl:=uA) (by kernel_rfl) (by kernel_rfl) (by kernel_rfl) (by kernel_rfl) jS Tryz.func210 Jr Jt Jq Jp hm.obj).mono ?_;rintro v s' ⟨m',rfl,F⟩;exact ⟨m',rfl,F.ext,F.no,eM.copy hm F⟩
end
end Go.Proofs.YtohgmogbabkkeaaGreat
end

section
namespace Go.Proofs.YtohgmogbabkkeaaGreat
open Go.Am Go.au Go.aC
def iU (s:AS) (l:Nat) (f:aJ->Option Key) (n:Nat):Prop:=∃ es c,eM dK kV s l es c false/\(∀ d,ec es d=f d)/\es.length=n
theorem iU.mut {s s':AS} {l n:Nat} {f:aJ->Option Key} {L:List Nat} (h:iU s l f n) (e:bD L s s') (b:l ∉ L):iU s' l f n:=by
 obtain ⟨es,c,d,h2,h3⟩:=h;exact ⟨es,c,d.mut e b,h2,h3⟩
theorem iU.ext {s s':AS} {l n:Nat} {f:aJ->Option Key} (h:iU s l f n) (e:Ext s s'):iU s' l f n:=h.mut (L:=[]) e.mut (by simp)
def mF (s:AS) (l:Nat) (f:aJ->Bool) (n:Nat):Prop:=∃ es c,eM dK bV s l es c false/\(∀ d,ec es d=if f d then some true else none)/\es.length=n
theorem mF.mut {s s':AS} {l n:Nat} {f:aJ->Bool} {L:List Nat} (h:mF s l f n) (e:bD L s s') (b:l ∉ L):mF s' l f n:=by
 obtain ⟨es,c,d,h2,h3⟩:=h;exact ⟨es,c,d.mut e b,h2,h3⟩
theorem mF.ext {s s':AS} {l n:Nat} {f:aJ->Bool} (h:mF s l f n) (e:Ext s s'):mF s' l f n:=h.mut (L:=[]) e.mut (by simp)
structure aH where
 v:List Int
 ex:List aJ
 live:aJ->Option Key
 qU:aJ->Bool
 nl:Nat
 nt:Nat
structure gP (F:List Nat) (s:AS) (p:Nat) (x:aH):Prop where
 ok:Lj x.v x.ex
 Fx:RP x.v x.ex
 len:x.ex.length<=4096
 mem:∃ pc lm tm,Am.Own s p [.ptr (some (pc,0)),.map (some lm),.map (some tm)]/\p∈F/\DK F s pc x.v x.ex/\lm∈F/\tm∈F/\lm≠tm/\iU s lm x.live x.nl/\mF s tm x.qU x.nt
theorem gP.mut {F:List Nat} {s s':AS} {L:List Nat} {p:Nat} {x:aH} (h:gP F s p x) (m:bD L s s') (k:∀ y∈L,y ∉ F):gP F s' p x:=by
 obtain ⟨l,h2,h3,pc,lm,tm,a,b,c,d,e,f,g,i⟩:=h;exact ⟨l,h2,h3,pc,lm,tm,a.mut m (fun j=>k p j b),b,c.mut m k,d,e,f,g.mut m (fun j=>k lm j d),i.mut m (fun j=>k tm j e)⟩
theorem gP.ext {F:List Nat} {s s':AS} {p:Nat} {x:aH} (h:gP F s p x) (e:Ext s s'):gP F s' p x:=h.mut (L:=[]) e.mut (by simp)
section
variable {F:List Nat} {s:AS} {p:Nat} {x:aH}
theorem oQ (h:gP F s p x):aa Tryz.prog bY [.ptr (some (p,0))] s fun r s'=>r=.bool true/\s'=s:=by
 obtain ⟨_,_,_,pc,lm,tm,a,_⟩:=h;exact rT _ _ _ ⟨_,dn yq _,af.yes rfl ⟨_,by rw [a.at.av];rfl,_,dn rN _,rfl,rfl⟩⟩
theorem TC (h:gP F s p x) (d:aJ):aa Tryz.prog nH [.ptr (some (p,0)),.agg (aN d)] s fun r s'=>r=.aP [.agg (f_ ((x.live d).getD ⟨[],[]⟩)),.bool (x.live d).isSome]/\Ext s s':=by
 refine aa.pre fun w=>B2 _ _ _ _ ⟨rfl,aj.intro w rfl fun l1 s2 i=>aj.intro i.wf rfl fun l3 s4 j=>?_⟩;have k:=i.ext.trans j.ext;have y:=i.own.ext j.ext;refine aa.use (oQ (h.ext k)) ?_;rintro v s6 ⟨rfl,rfl⟩ z;obtain ⟨_,_,_,pc,lm,tm,a,_,_,_,_,_,⟨es,c,hm,A,B⟩,_⟩:=h.ext k;have o:=hm.find uT d true;rw [A] at o;refine ⟨_,rfl,af.no rfl ⟨_,by rw [a.at.av];rfl,_,y.at.aD (by simp [aN]),f_ ((x.live d).getD ⟨[],[]⟩),(x.live d).isSome,?_,?_⟩⟩
 ·refine Eq.trans (show _=_ from o) ?_;cases x.live d <;> rfl
 ·refine lq z rfl rfl rfl fun l gz b=>?_;refine ⟨f_ ((x.live d).getD ⟨[],[]⟩),?_,⟨rfl,rfl⟩,bt.own b.wf (j.own.ext b.ext) (by simp [f_]) fun fL e=>?_⟩
  ·have m:At gz l (f_ ((x.live d).getD ⟨[],[]⟩)):=⟨_,_,b.at⟩;exact m.aD (by simp [f_])
  ·have n:At fL l3 (f_ ((x.live d).getD ⟨[],[]⟩)):=⟨_,_,by rw [e.at,dz (by simp [f_])]⟩;exact ⟨_,n.aD (by simp [f_]),rfl,Ext.wr (k.trans b.ext) (i.ext.none j.no) e.mut⟩
theorem TD (h:gP F s p x) (d:aJ):aa Tryz.prog nE [.ptr (some (p,0)),.agg (aN d)] s fun r s'=>r=.bool (!(x.live d).isSome&&fo x.v x.ex d)/\Ext s s':=by
 refine aa.pre fun l=>B5 _ _ _ _ ⟨rfl,aj.intro l rfl fun l1 s2 e=>⟨_,e.own.at.aD (by simp [aN]),?_⟩⟩;refine aa.use (TC (h.ext e.ext) d) ?_;rintro v y ⟨rfl,k⟩ m;refine ⟨_,_,rfl,lq m rfl rfl rfl fun z n c=>?_⟩;have b:=e.ext.trans (k.trans c.ext);refine aa.use (oQ (h.ext b)) ?_;rintro v dI ⟨rfl,rfl⟩ o;refine ⟨_,rfl,af.yes rfl (af.mk (fun i=>?_) (fun i=>⟨?_,b⟩))⟩
 ·obtain ⟨ok,_,hlen,pc,lm,tm,a,_,w,_⟩:=h.ext b;refine ⟨_,by rw [a.at.av];rfl,_,(e.own.ext (k.trans c.ext)).at.aD (by simp [aN]),?_⟩;refine aa.use (y_ w.at ok.r (by omega) d) ?_;rintro v gz ⟨rfl,j⟩ _;exact ⟨_,rfl,by rw [i];simp,b.trans j⟩
 ·rw [i];simp
theorem Hx (pc:Nat) (lm tm:Nat):aS T oI [(0,.ptr (some (pc,0))),(1,.map (some lm)),(2,.map (some tm))]=some (.agg [.ptr (some (pc,0)),.map (some lm),.map (some tm)]):=by
 rw [qp (pl:=[(0,1),(1,1),(2,1)]) (by kernel_rfl) Iu rfl];rfl
theorem TE (h:gP F s p x):aa Tryz.prog nD [.ptr (some (p,0))] s fun r s'=>∃ p' F',r=.ptr (some (p',0))/\gP F' s' p' x/\(∀ y∈F',s.h y=none)/\(∀ y∈F',s'.h y≠none)/\Ext s s':=by
 refine Ca _ _ _ ?_;refine aa.use (oQ h) ?_;rintro v s2 ⟨rfl,rfl⟩ w2;have ad:=h.len;obtain ⟨ok,Fx,len,pc,lm,tm,a,ae,hc,al,am,an,hl,ht⟩:=id h;have g:∀ (i:Nat) s',Ext s2 s'->av s' p i=[AV.ptr (some (pc,0)),.map (some lm),.map (some tm)][i]? := fun i s' e=>(a.ext e).at.av i;refine ⟨_,rfl,af.no rfl ⟨fun q _ v s'=>(q=4->∃ pc,v=.ptr (some (pc,0))/\s2.h pc=none/\uR s2 s' pc x.v x.ex)/\(q=9->∃ lm,v=.map (some lm)/\s2.h lm=none/\iU s' lm x.live x.nl),fun q _ v=>(q=4->∃ pc,v=.ptr (some (pc,0)))/\(q=9->∃ lm,v=.map (some lm)),?_,_,g 0 _ (Ext.refl _),fun s7 O w7 _=>?_,⟨.ptr (some (0,0)),(fun _=>⟨0,rfl⟩),(fun h=>by cases h)⟩,fun v11 z=>?_⟩⟩
 ·rintro q ks v s' s'' e ⟨A,h2⟩;refine ⟨fun n=>?_,fun n=>?_⟩
  ·obtain ⟨a,b,c,d⟩:=A n;exact ⟨a,b,c,d.ext e⟩
  ·obtain ⟨a,b,c,d⟩:=h2 n;exact ⟨a,b,c,d.ext e⟩
 ·refine (Fo (hc.at.ext O) (by omega)).mono ?_;rintro v s9 ⟨q,rfl,n,g9,e9⟩;exact ⟨_,rfl,e9,⟨(fun _=>⟨q,rfl,O.none n,g9.back O⟩),(fun h=>by cases h)⟩,(fun _=>⟨q,rfl⟩),(fun h=>by cases h)⟩
 obtain ⟨Q,rfl⟩:=z.1 rfl;refine ⟨_,rfl,_,g 1 _ (Ext.refl _),fun ao B ap _=>?_,⟨.map (some 0),(fun h=>by cases h),(fun _=>⟨0,rfl⟩)⟩,fun v20 C=>?_⟩
 ·obtain ⟨es,c,A,h2,h3⟩:=hl.ext B;refine (NH A).mono ?_;rintro v eE ⟨m',rfl,R,S,M⟩;exact ⟨_,rfl,R,⟨(fun h=>by cases h),(fun _=>⟨m',rfl,B.none S,es,c,M,h2,h3⟩)⟩,(fun h=>by cases h),(fun _=>⟨m',rfl⟩)⟩
 obtain ⟨o,rfl⟩:=C.2 rfl;refine ⟨_,rfl,_,g 2 _ (Ext.refl _),fun dW m ar hS=>?_⟩;obtain ⟨aw,D,G,hG⟩:=hS.1.1 rfl;obtain ⟨a0,H,I,U⟩:=hS.2.1.2 rfl;simp only [AV.ptr.injEq,AV.map.injEq,Option.some.injEq,Prod.mk.injEq,and_true] at D H;subst D;subst H;obtain ⟨es,c,A,h2,h3⟩:=ht.ext m;refine aa.use (LA A) ?_;rintro v a1 ⟨WH,rfl,J,w,M⟩ W;refine ⟨_,rfl,_,Hx _ _ _,rfl,aj.intro W rfl fun p' a2 j=>?_⟩;obtain ⟨Fc,X,Y,Z⟩:=hG.W_ G;have k:=J.trans j.ext;have ab:=m.trans k;have K:o≠WH:=by
  rintro rfl;obtain ⟨es',c',h4,_⟩:=U;rw [h4.obj] at w;cases w
 refine ⟨p',p'::o::WH::Fc,rfl,⟨ok,Fx,len,Q,o,WH,j.own,by simp,(X.mut (L:=[]) k.mut (by simp)).sub (fun y l=>by simp [l]),by simp,by simp,K,U.ext k,es,c,M.ext j.ext,h2,h3⟩,?_,?_,ab⟩
 ·intro y l;simp only [List.mem_cons] at l;rcases l with rfl | rfl | rfl | l
  ·exact (m.trans J).none j.no
  ·exact I
  ·exact m.none w
  ·exact Y y l
 ·intro y l;simp only [List.mem_cons] at l;rcases l with rfl | rfl | rfl | l
  ·rw [j.at];simp
  ·obtain ⟨es',c',h4,_⟩:=U.ext k;rw [h4.obj];simp
  ·rw [(M.ext j.ext).obj];simp
  ·cases n:dW.h y with
   | none=>exact absurd n (Z y l)
   | some ob=>rw [k.1 y ob n];simp
end
end Go.Proofs.YtohgmogbabkkeaaGreat
end

section
namespace Go.Proofs.YtohgmogbabkkeaaGreat
open Go.Am Go.au Go.aC
theorem Ext.Wn {s s1 s2:AS} {L:List Nat} (e:Ext s s1) (c:∀ x∈L,s.h x=none) (m:bD L s1 s2):Ext s s2 :=
 ⟨fun x o b=>m.1 x o (fun hm=>by rw [c x hm] at b;cases b) (e.1 x o b),Nat.le_trans e.2 m.2⟩
section
variable {s:AS} {l n:Nat}
theorem iU.obj {f:aJ->Option Key} (h:iU s l f n):∃ es c,s.h l=some (.map es c false):=by
 obtain ⟨es,c,b,_⟩:=h;exact ⟨_,_,b.obj⟩
theorem mF.obj {f:aJ->Bool} (h:mF s l f n):∃ es c,s.h l=some (.map es c false):=by
 obtain ⟨es,c,b,_⟩:=h;exact ⟨_,_,b.obj⟩
theorem iU.del (i:aM s) {f:aJ->Option Key} (h:iU s l f n) {d:aJ} {k:Key} (hd:f d=some k) {Q:AS->Prop}
  (j:∀ s',iU s' l (fun x=>if x=d then none else f x) (n - 1)->aM s'->bD [l] s s'->Q s'):bt (pS T b_ (.map (some l)) (.agg (aN d)) s) Q:=by
 obtain ⟨es,c,o,h2,h3⟩:=h;refine eM.del uT i o d (by rw [h2];exact hd) fun s' es' b e p w m=>j s' ⟨es',c,b,fun x=>?_,by omega⟩ w m;rw [e,h2]
theorem iU.oW (j:aM s) {f:aJ->Option Key} (h:iU s l f n) (d:aJ) (k:Key) {Q:AS->Prop}
  (o:∀ s',iU s' l (fun x=>if x=d then some k else f x) (if (f d).isSome then n else n+1)->aM s'->bD [l] s s'->Q s'):bt (dJ T b_ (.map (some l)) (.agg (aN d)) (.agg (f_ k)) s) Q:=by
 obtain ⟨es,c,i,h2,h3⟩:=h;refine eM.oW uT j i d k fun s' es' c' b e w m=>o s' ⟨es',c',b,fun x=>?_,?_⟩ w m
 ·rw [e,h2]
 ·rw [Ij i.nd b.nd e,h2,h3]
theorem mF.oW (k:aM s) {f:aJ->Bool} (h:mF s l f n) (d:aJ) {Q:AS->Prop}
  (o:∀ s',mF s' l (fun x=>f x||decide (x=d)) (if f d then n else n+1)->aM s'->bD [l] s s'->Q s'):bt (dJ T bK (.map (some l)) (.agg (aN d)) (.agg [.bool true]) s) Q:=by
 obtain ⟨es,c,j,h2,h3⟩:=h;refine eM.oW Lx k j d true fun s' es' c' b i w m=>o s' ⟨es',c',b,fun x=>?_,?_⟩ w m
 ·rw [i,h2];by_cases e:x=d
  ·simp [e]
  ·simp [e]
 ·rw [Ij j.nd b.nd i,h2,h3];cases f d <;> simp
end
theorem CQ (v:List Int) (ex:List aJ):(compact v ex).2.length<=ex.length:=by
 have:=zU ex (v,[]);simpa [compact] using this
def aH.lM (x:aH) (i:eC):Bool×aH :=
 if (x.live i.dot).isSome&&i.gone then (true,{ x with live:=fun d=>if d=i.dot then none else x.live d,qU:=fun d=>x.qU d||decide (d=i.dot),nl:=x.nl - 1,nt:=if x.qU i.dot then x.nt else x.nt+1 })
 else if fo x.v x.ex i.dot then (false,x)
 else if i.gone then (true,{ x with v:=(compact x.v (ins x.ex i.dot)).1,ex:=(compact x.v (ins x.ex i.dot)).2,qU:=fun d=>x.qU d||decide (d=i.dot),nt:=if x.qU i.dot then x.nt else x.nt+1 })
 else (true,{ x with v:=(compact x.v (ins x.ex i.dot)).1,ex:=(compact x.v (ins x.ex i.dot)).2,live:=fun d=>if d=i.dot then some i.key else x.live d,nl:=if (x.live i.dot).isSome then x.nl else x.nl+1 })
theorem TF (x:aH) (i:eC) (ok:Lj x.v x.ex) (hi:i.dot.may=true) (b:x.ex.length<4096):(x.lM i).2.ex.length<=x.ex.length+1/\(x.lM i).2.nl<=x.nl+1/\(x.lM i).2.nl+(x.lM i).2.nt<=x.nl+x.nt+1:=by
 have c:(compact x.v (ins x.ex i.dot)).2.length<=x.ex.length+1:=by
  have:=CQ x.v (ins x.ex i.dot);rw [xF] at this;exact this
 unfold aH.lM;split
 ·refine ⟨by simp,by simp;omega,?_⟩;simp only;split <;> omega
 ·split
  ·refine ⟨by simp,by simp,by simp⟩
  ·split
   ·refine ⟨c,by simp,?_⟩;simp only;split <;> omega
   ·refine ⟨c,?_,?_⟩ <;> simp only <;> split <;> omega
section
variable {F:List Nat} {s:AS} {p:Nat} {x:aH}
theorem TG {v:List Int} {ex:List aJ} {d:aJ} (b:fo v ex d=true) (hd:d.may=true):kX v ex d=(false,0,v,ex):=by simp [kX,hd,b]
theorem RV {v:List Int} {ex:List aJ} {d:aJ} (b:fo v ex d=false) (hd:d.may=true) (e:ex.length<4096):kX v ex d=(true,0,compact v (ins ex d)):=by
 have c:=CQ v (ins ex d);rw [xF] at c;simp only [kX,hd,b,Bool.true_eq_false,Bool.false_eq_true,if_false];rw [if_neg (by omega)]
theorem Va (h:gP F s p x) (a7:∀ y∈F,s.h y≠none) (i:eC) (hi:i.dot.may=true) (K:x.ex.length<4096) :
  aa Tryz.prog pn [.ptr (some (p,0)),.agg (bu i)] s fun r s'=>r=.aP [.bool (x.lM i).1,.int .i64 0]/\∃ F',gP F' s' p (x.lM i).2/\(∀ y∈F',y∈F\/s.h y=none)/\(∀ y∈F',s'.h y≠none)/\bD F s s':=by
 refine aa.pre fun hw=>DJ _ _ _ _ ⟨rfl,aj.intro hw rfl fun l1 s2 F2=>?_⟩;have h2:=h.ext F2.ext;obtain ⟨ok,Fx,hlen,pc,lm,tm,a,a1,Y,A,G,B,Z,ht⟩:=id h2;have hf:dh T b_ (.map (some lm)) (.agg (aN i.dot)) true s2=some (.aP [.agg (f_ ((x.live i.dot).getD ⟨[],[]⟩)),.bool (x.live i.dot).isSome]):=by
  obtain ⟨es,c,hm,hg,_⟩:=Z;have hf:=hm.find uT i.dot true;rw [hg] at hf;refine Eq.trans (show _=_ from hf) ?_;cases x.live i.dot <;> rfl
 refine ⟨_,by rw [a.at.av];rfl,_,F2.own.at.aD (by simp [bu]),f_ ((x.live i.dot).getD ⟨[],[]⟩),(x.live i.dot).isSome,hf,?_⟩;refine lq F2.wf rfl rfl rfl fun l9 a8 z=>?_;have H:=F2.ext.trans z.ext;have o1:Am.Own a8 l1 (bu i):=F2.own.ext z.ext;have a9:p≠lm:=by rintro rfl;obtain ⟨es,c,h⟩:=Z.obj;rw [a] at h;cases h
 have a':p≠tm:=by rintro rfl;obtain ⟨es,c,h⟩:=ht.obj;rw [a] at h;cases h
 have ba:l1 ∉ F:=fun hm=>a7 l1 hm F2.no;refine ⟨fun vs s'=>vs=[.bool ((x.live i.dot).isSome&&i.gone)]/\s'=a8,?_,af.mk (fun hs=>⟨i.gone,by rw [o1.at.av];rfl,by rw [hs];rfl,rfl⟩) (fun hs=>⟨by rw [hs];rfl,rfl⟩)⟩;rintro b O ⟨hb,rfl⟩;simp only [List.cons.injEq,AV.bool.injEq,and_true] at hb;subst hb;have b2:=h2.ext z.ext
 replace a:=a.ext z.ext
 replace Y:=Y.mut (L:=[]) z.ext.mut (by simp)
 replace Z:=Z.ext z.ext
 replace ht:=ht.ext z.ext
 have C:∀ y∈F,O.h y≠none:=fun y j hn=>a7 y j (H.none hn);refine af.mk (fun hb=>?_) (fun hb=>?_)
 ·simp only [Bool.and_eq_true] at hb;obtain ⟨k,hk⟩:=Option.isSome_iff_exists.1 hb.1;have l:x.lM i=(true,{ x with live:=fun d=>if d=i.dot then none else x.live d,qU:=fun d=>x.qU d||decide (d=i.dot),nl:=x.nl - 1,nt:=if x.qU i.dot then x.nt else x.nt+1 }):=by
   unfold aH.lM;rw [if_pos (by simp [hb])]
  refine ⟨_,by rw [a.at.av];rfl,_,o1.at.aD (by simp [bu]),Z.del z.wf hk fun gz ae b3 D=>?_⟩;have bb:=ht.mut D (by simpa using B.symm);have bc:=a.mut D (by simpa using a9);have b4:=o1.mut D (by simp only [List.mem_singleton];rintro rfl;exact ba A);refine ⟨_,by rw [bc.at.av];rfl,_,b4.at.aD (by simp [bu]),_,Lw,bb.oW b3 i.dot fun dW al ci I=>?_⟩;have b5:∀ y∈[lm],y∈F:=by simpa using A
  have b6:∀ y∈[tm],y∈F:=by simpa using G
  have M:bD F s dW:=H.mut.trans ((D.mono b5).trans (I.mono b6));have b7:pc ∉ [lm]:=by
   simp only [List.mem_singleton];rintro rfl;obtain ⟨_,_,w,n,_⟩:=Y;obtain ⟨es,c,h⟩:=Z.obj;rw [n] at h;cases h
  have b8:pc ∉ [tm]:=by
   simp only [List.mem_singleton];rintro rfl;obtain ⟨_,_,w,n,_⟩:=Y;obtain ⟨es,c,h⟩:=ht.obj;rw [n] at h;cases h
  have bd:DK F dW pc x.v x.ex:=by
   obtain ⟨q1,q2,w,q3,q4,q5,q6⟩:=Y;have am:∀ (m:Nat) (es:List (AV×AV×Nat)) (c:Nat),O.h m=some (.map es c false)->∀ y∈ay w,y≠m:=by
    rintro m es c hm y j rfl;rcases q5 with ⟨_,b,rfl⟩ | ⟨la,rfl,ho⟩
    ·simp [ay] at j
    ·obtain rfl:y=la:=by simpa [ay] using j
     rw [ho] at hm;cases hm
   obtain ⟨ck,c1,e1⟩:=Z.obj;obtain ⟨cl,c2,e2⟩:=ht.obj;have b9:=q5.mut D fun y j hm=>am _ _ _ e1 y j (by simpa using hm);exact ⟨q1,q2,w,(q3.mut D b7).mut I b8,q4,b9.mut I fun y j hm=>am _ _ _ e2 y j (by simpa using hm),q6⟩
  rw [l];refine ⟨rfl,F,⟨ok,Fx,hlen,pc,lm,tm,bc.mut I (by simpa using a'),a1,bd,A,G,B,ae.mut I (by simpa using B),al⟩,fun y j=>.inl j,fun y j=>?_,M⟩;have Q:∀ {m:Nat} {u u':AS},bD [m] u u'->u'.h m≠none->u.h y≠none->u'.h y≠none:=by
   intro m u u' mm hm hn;by_cases e:y=m
   ·rw [e];exact hm
   ·cases hq:u.h y with
    | none=>exact absurd hq hn
    | some o=>rw [mm.1 y o (by simpa using e) hq];simp
  refine Q I ?_ (Q D ?_ (C y j))
  ·obtain ⟨es,c,h⟩:=al.obj;rw [h];simp
  ·obtain ⟨es,c,h⟩:=ae.obj;rw [h];simp
 refine ⟨_,by rw [a.at.av];rfl,_,o1.at.aD (by simp [bu]),?_⟩;refine aa.use (Li Y.at ok.v ok.r ok.m (by omega) i.dot) ?_;rintro r mu ⟨rfl,a2,J,a3,R⟩ be;have a4:¬ ((x.live i.dot).isSome&&i.gone)=true:=by rw [hb];simp
 cases hh:fo x.v x.ex i.dot with
 | true =>
  rw [TG hh hi] at a2 a3 R ⊢;have a5:=a3 rfl;have l:x.lM i=(false,x):=by
   unfold aH.lM;rw [if_neg a4,if_pos hh]
  rw [l];refine ⟨_,_,rfl,fun vs s'=>vs=[.bool true]/\s'=mu,?_,af.no rfl ⟨rfl,rfl⟩⟩;rintro b jZ ⟨hb,rfl⟩;simp only [List.cons.injEq,AV.bool.injEq,and_true] at hb;subst hb;exact af.yes rfl ⟨rfl,F,b2.ext a5,fun y j=>.inl j,fun y j hn=>C y j (a5.none hn),(H.trans a5).mut⟩
 | false =>
  have bh:=RV hh hi K;have bi:=RS ok Fx K i.dot;rw [bh] at a2 a3 R bi ⊢;obtain ⟨bj,an,a6,_⟩:=bi;have b':(compact x.v (ins x.ex i.dot)).2.length<=x.ex.length+1:=a6;have hG:=R rfl;obtain ⟨Fc,bk,bl,ca⟩:=hG.WG;have S:pc∈F:=Y.Xh;have ao:bD F O mu:=J.mono (by simpa using S);have cb:p≠pc:=by
   rintro rfl;have cc:=ok.v.len;obtain ⟨_,_,w,n,_⟩:=Y;have h1:=congrArg List.length (a.at.inj n.at);simp [cc] at h1
  have bm:lm≠pc:=by
   rintro rfl;obtain ⟨_,_,w,n,_⟩:=Y;obtain ⟨es,c,h⟩:=Z.obj;rw [n] at h;cases h
  have bo:tm≠pc:=by
   rintro rfl;obtain ⟨_,_,w,n,_⟩:=Y;obtain ⟨es,c,h⟩:=ht.obj;rw [n] at h;cases h
  have ab:=a.mut J (by simpa using cb);have ap:=Z.mut J (by simpa using bm);have ar:=ht.mut J (by simpa using bo);have ad:=o1.mut J (by simp only [List.mem_singleton];rintro rfl;exact ba S);have cd:∀ y∈Fc,y∈F\/s.h y=none:=by
   intro y j;rcases bl y j with rfl | h
   ·exact .inl S
   ·exact .inr (H.none h)
  have bs:∀ {m:Nat},m≠pc->O.h m≠none->∀ y∈[m],y ∉ Fc:=by
   intro m hm hn y j hf;obtain rfl:=List.mem_singleton.1 j;rcases bl y hf with h | h
   ·exact hm h
   ·exact hn h
  have fin:∀ {m:Nat} {s':AS},m∈F->bD [m] mu s'->s'.h m≠none->∀ y∈Fc++F,s'.h y≠none:=by
   intro m s' hm mm hn y j;by_cases e:y=m
   ·rw [e];exact hn
   ·have ce:mu.h y≠none:=by
     rcases List.mem_append.1 j with j | j
     ·exact ca y j
     ·by_cases e2:y=pc
      ·rw [e2];obtain ⟨_,w,h,_⟩:=a2;rw [h];simp
      ·cases hq:O.h y with
       | none=>exact absurd hq (C y j)
       | some o=>rw [J.1 y o (by simpa using e2) hq];simp
    cases hq:mu.h y with
    | none=>exact absurd hq ce
    | some o=>rw [mm.1 y o (by simpa using e) hq];simp
  have U:∀ y∈Fc++F,y∈F\/s.h y=none:=by
   intro y j;rcases List.mem_append.1 j with j | j
   ·exact cd y j
   ·exact .inl j
  refine ⟨_,_,rfl,fun vs s'=>vs=[.bool false]/\s'=mu,?_,af.no rfl ⟨rfl,rfl⟩⟩;rintro b jZ ⟨bx,rfl⟩;simp only [List.cons.injEq,AV.bool.injEq,and_true] at bx;subst bx;refine af.no rfl ⟨i.gone,by rw [ad.at.av];rfl,af.mk (fun hg=>?_) (fun hg=>?_)⟩
  ·have l:x.lM i=(true,{ x with v:=(compact x.v (ins x.ex i.dot)).1,ex:=(compact x.v (ins x.ex i.dot)).2,qU:=fun d=>x.qU d||decide (d=i.dot),nt:=if x.qU i.dot then x.nt else x.nt+1 }):=by
    unfold aH.lM;rw [if_neg a4,if_neg (by rw [hh];simp),if_pos hg]
   rw [l];refine ⟨_,by rw [ab.at.av];rfl,_,ad.at.aD (by simp [bu]),_,Lw,ar.oW be i.dot fun cm aw cn W=>?_⟩;obtain ⟨es,c,cf⟩:=ht.obj;have b0:=bk.mut W (bs bo (by rw [cf];simp));refine ⟨rfl,Fc++F,⟨bj,an,by simp only;omega,pc,lm,tm,ab.mut W (by simpa using a'),by simp [a1],b0.sub (fun y j=>by simp [j]),by simp [A],by simp [G],B,ap.mut W (by simpa using B),aw⟩,U,fin G W ?_,H.mut.trans (ao.trans (W.mono (by simpa using G)))⟩;obtain ⟨es,c,h⟩:=aw.obj;rw [h];simp
  ·have l:x.lM i=(true,{ x with v:=(compact x.v (ins x.ex i.dot)).1,ex:=(compact x.v (ins x.ex i.dot)).2,live:=fun d=>if d=i.dot then some i.key else x.live d,nl:=if (x.live i.dot).isSome then x.nl else x.nl+1 }):=by
    unfold aH.lM;rw [if_neg a4,if_neg (by rw [hh];simp),if_neg (by rw [hg];simp)]
   rw [l];refine ⟨_,by rw [ab.at.av];rfl,_,ad.at.aD (by simp [bu]),_,ad.at.aD (by simp [bu]),ap.oW be i.dot i.key fun yY a0 cp X=>?_⟩;obtain ⟨es,c,ch⟩:=Z.obj;have b1:=bk.mut X (bs bm (by rw [ch];simp));refine ⟨rfl,Fc++F,⟨bj,an,by simp only;omega,pc,lm,tm,ab.mut X (by simpa using a9),by simp [a1],b1.sub (fun y j=>by simp [j]),by simp [A],by simp [G],B,a0,ar.mut X (by simpa using B.symm)⟩,U,fin A X ?_,H.mut.trans (ao.trans (X.mono (by simpa using A)))⟩;obtain ⟨es,c,h⟩:=a0.obj;rw [h];simp
end
end Go.Proofs.YtohgmogbabkkeaaGreat
end

section
namespace Go.Proofs.YtohgmogbabkkeaaGreat
open Go.Am Go.au Go.aC
theorem fT:Bx T aG qG 5 56:=⟨cW,pA,UZ,⟨_,_,Tv,rfl,rfl⟩,by decide,by decide⟩
section
variable {s:AS} {a:AV} {l:List eC} {g:FuncId} {cap:List AV} {P:eC->Bool}
theorem Ju (w:Sl bu 5 s a l) (I:l.length<=2 ^ 40) (z:∀ i s',Ext s s'->aM s'->aa Tryz.prog g ([.agg (bu i)]++cap) s' fun v s''=>v=.bool (P i)/\Ext s' s'') :
  aa Tryz.prog eu [a,.func g cap] s fun v s'=>Ext s s'/\∃ n:Int,v=.int .i64 n/\((n = -1/\l.any P=false)\/∃ k:Nat,n=k/\k<l.length/\(∃ x,l[k]? = some x/\P x=true)/\∀ j x,j<k->l[j]? = some x->P x=false):=by
 refine aa.pre fun A=>mO _ _ _ _ ⟨_,w.cI cW _,fun m vs s'=>∃ i:Nat,vs=[.int .i64 (i:Nat)]/\i<=l.length/\m=l.length - i/\Ext s s'/\aM s'/\(∀ j x,j<i->l[j]? = some x->P x=false),l.length,⟨0,rfl,by omega,rfl,Ext.refl _,A,by omega⟩,?_⟩;rintro m n s6 ⟨i,hi,J,rfl,c,B,b⟩;simp only [List.cons.injEq,AV.int.injEq,true_and,and_true] at hi;subst hi;refine af.dec (fun C=>?_) (fun D=>⟨c,-1,rfl,.inl ⟨rfl,?_⟩⟩)
 ·obtain ⟨x,d⟩:=de (l:=l) (i:=i) (by omega);obtain ⟨la,o,F,G⟩:=w.ix (by decide) bg cW pA d;refine ⟨la,o,F _,_,(G _ c).2,?_⟩;refine aa.use (z x s6 c B) ?_;rintro v H ⟨rfl,e⟩ p;refine ⟨_,rfl,af.mk (fun hb=>⟨c.trans e,_,rfl,.inr ⟨i,rfl,by omega,⟨x,d,hb⟩,b⟩⟩) (fun hb=>⟨l.length - (i+1),by omega,i+1,by rw [aW (by omega)];rfl,by omega,rfl,c.trans e,p,fun j y hj r=>?_⟩)⟩;rcases Nat.lt_or_ge j i with h | h
  ·exact b j y h r
  ·obtain rfl:j=i:=by omega
   rw [d] at r;obtain rfl:=Option.some.inj r;exact hb
 ·rw [List.any_eq_false];intro x d;obtain ⟨j,hj⟩:=List.mem_iff_getElem?.1 d;have:j<l.length:=by
   rcases Nat.lt_or_ge j l.length with h | h
   ·exact h
   ·rw [List.getElem?_eq_none h] at hj;cases hj
  rw [b j x (by omega) hj];simp
theorem DL (b:Sl bu 5 s a l) (c:l.length<=2 ^ 40) (d:∀ i s',Ext s s'->aM s'->aa Tryz.prog g ([.agg (bu i)]++cap) s' fun v s''=>v=.bool (P i)/\Ext s' s'') :
  aa Tryz.prog dM [a,.func g cap] s fun v s'=>v=.bool (l.any P)/\Ext s s':=by
 refine k5 _ _ _ _ ?_;refine aa.use (Ju b c d) ?_;rintro v s2 ⟨e,n,rfl,h⟩ _;refine ⟨_,rfl,?_,e⟩;congr 1;rcases h with ⟨rfl,h⟩ | ⟨k,rfl,o,⟨x,j,m⟩,_⟩
 ·rw [h];decide
 ·rw [List.any_eq_true.2 ⟨x,List.mem_of_getElem? j,m⟩,decide_eq_true_eq];omega
theorem TH (i:eC) (s:AS):aa Tryz.prog l_ [.agg (bu i)] s fun v s'=>v=.bool (!i.may)/\Ext s s':=by
 refine aa.pre fun b=>AM _ _ _ ⟨rfl,aj.intro b rfl fun l s1 F=>⟨_,F.own.at.aD (by simp [bu]),?_⟩⟩;refine aa.use (U_ i _) ?_;rintro v s2 ⟨rfl,e⟩ _;exact ⟨_,rfl,rfl,F.ext.trans e⟩
end
def aH.ew (x:aH) (l:List eC):Bool×aH:=l.foldl (fun a i=>(a.1||(a.2.lM i).1,(a.2.lM i).2)) (false,x)
section
variable {F:List Nat} {s:AS} {p:Nat} {x:aH}
theorem iU.cI {l n:Nat} {f:aJ->Option Key} (h:iU s l f n):aQ T b_ (.map (some l)) s=some (.int .i64 (n:Nat)):=by
 obtain ⟨es,c,b,_,h3⟩:=h;rw [b.cI uT,h3]
theorem mF.cI {l n:Nat} {f:aJ->Bool} (h:mF s l f n):aQ T bK (.map (some l)) s=some (.int .i64 (n:Nat)):=by
 obtain ⟨es,c,b,_,h3⟩:=h;rw [b.cI Lx,h3]
theorem Vb (h:gP F s p x) {a:AV} {l:List eC} (hl:Sl bu 5 s a l) (B:∀ i∈l,i.may=true) (an:x.ex.length+l.length<=4096) (ao:x.nl+l.length<=1024) (ap:x.nl+x.nt+l.length<=4096) :
  aa Tryz.prog pg [.ptr (some (p,0)),a] s fun r s'=>r=.aP [.bool (x.ew l).1,.int .i64 0]/\∃ F',gP F' s' p (x.ew l).2/\(∀ y∈F',y=p\/s.h y=none)/\(∀ y∈F',s'.h y≠none)/\bD [p] s s':=by
 refine DB _ _ _ _ ?_;refine aa.use (oQ h) ?_;rintro v s2 ⟨rfl,rfl⟩ w2;refine ⟨_,rfl,af.no rfl ?_⟩;refine aa.use (DL (P:=fun i=>!i.may) hl (by omega) fun i s' _ _=>TH i s') ?_;rintro v s5 ⟨rfl,e5⟩ w5;have:l.any (fun i=>!i.may)=false:=by
  rw [List.any_eq_false];intro i hi;simp [B i hi]
 rw [this];refine ⟨_,rfl,af.no rfl ?_⟩;refine aa.use (TE (h.ext e5)) ?_;rintro v s8 ⟨po,F0,rfl,hS,ab,ad,e8⟩ w8;have E8:=e5.trans e8;have J:∃ cs,Am.Own s2 p cs/\cs.length=3:=by
  obtain ⟨_,_,_,pc,lm,tm,a,_⟩:=h;exact ⟨_,a,rfl⟩
 obtain ⟨cs,J,K⟩:=J;have G:∀ (i:Nat) y,l[i]? = some y->x.ew (l.take (i+1))=((x.ew (l.take i)).1||((x.ew (l.take i)).2.lM y).1,((x.ew (l.take i)).2.lM y).2):=by
  intro i y c;unfold aH.ew;rw [List.take_add_one,c,Option.toList_some,List.foldl_append];rfl
 refine ⟨_,rfl,fun vs s'=>vs=[.bool (x.ew l).1]/\aM s'/\Ext s2 s'/\∃ F',gP F' s' po (x.ew l).2/\(∀ y∈F',s2.h y=none)/\(∀ y∈F',s'.h y≠none)/\(x.ew l).2.nl<=1024/\(x.ew l).2.nl+(x.ew l).2.nt<=4096,?_,?_⟩
 ·rintro b dI ⟨hb,ae,L,F',j,d,w,ar,aw⟩;simp only [List.cons.injEq,AV.bool.injEq,and_true] at hb;subst hb;obtain ⟨ok,Fx,hlen,pc,lm,tm,a',a0,hc,M,O,Q,H,R⟩:=j;refine ⟨fun vs s'=>vs=[.bool false]/\s'=dI,?_,_,by rw [a'.at.av];rfl,_,H.cI,af.no (by rw [decide_eq_false_iff_not];omega) ⟨_,by rw [a'.at.av];rfl,_,H.cI,_,by rw [a'.at.av];rfl,_,R.cI,?_,rfl⟩⟩
  ·rintro b gu ⟨hb,rfl⟩;simp only [List.cons.injEq,AV.bool.injEq,and_true] at hb;subst hb;have ho:=J.ext L;refine af.no rfl ⟨_,a'.at.aD (by simp),⟨by simp,rfl⟩,bt.own ae ho (by simp [K]) fun fL P=>⟨rfl,p::F',⟨ok,Fx,hlen,pc,lm,tm,?_,by simp,?_,by simp [M],by simp [O],Q,H.mut P.mut ?_,R.mut P.mut ?_⟩,fun y c=>?_,fun y c=>?_,L.mut.trans P.mut⟩⟩
   ·have:=P.at;rw [dz (by simp [K])] at this;exact this
   ·refine (hc.mut P.mut fun y c hm=>?_).sub fun y c=>by simp [c]
    obtain rfl:=List.mem_singleton.1 c;have:=d _ hm;rw [J] at this;cases this
   ·intro hm;obtain rfl:=List.mem_singleton.1 hm;have:=d _ M;rw [J] at this;cases this
   ·intro hm;obtain rfl:=List.mem_singleton.1 hm;have:=d _ O;rw [J] at this;cases this
   ·rcases List.mem_cons.1 c with rfl | c
    ·exact .inl rfl
    ·exact .inr (d y c)
   ·by_cases e:y=p
    ·rw [e,P.at];simp
    ·rw [P.eq y e];rcases List.mem_cons.1 c with rfl | c
     ·exact absurd rfl e
     ·exact w y c
  ·rw [aW (by omega),show decide (((x.ew l).2.nl:Int)+((x.ew l).2.nt:Int)>4096)=false from by rw [decide_eq_false_iff_not];omega]
 ·refine ⟨_,hl.cI cW _,fun m vs s'=>∃ i:Nat,vs=[.bool (x.ew (l.take i)).1,.int .i64 (i:Nat)]/\i<=l.length/\m=l.length - i/\aM s'/\Ext s2 s'/\(∃ F',gP F' s' po (x.ew (l.take i)).2/\(∀ y∈F',s2.h y=none)/\(∀ y∈F',s'.h y≠none))/\(x.ew (l.take i)).2.ex.length<=x.ex.length+i/\(x.ew (l.take i)).2.nl<=x.nl+i/\(x.ew (l.take i)).2.nl+(x.ew (l.take i)).2.nt<=x.nl+x.nt+i,l.length,⟨0,rfl,by omega,rfl,w8,E8,⟨F0,hS,fun y c=>e5.none (ab y c),ad⟩,by simp [aH.ew],by simp [aH.ew],by simp [aH.ew]⟩,?_⟩;rintro m b n a1 ⟨i,hi,h6,rfl,S,A,⟨F',j,d,w⟩,r1,r2,r3⟩;simp only [List.cons.injEq,AV.int.injEq,AV.bool.injEq,true_and,and_true] at hi;obtain ⟨rfl,rfl⟩:=hi;refine af.dec (fun Q=>?_) (fun a2=>?_)
  ·obtain ⟨y,c⟩:=de (l:=l) (i:=i) (by omega);obtain ⟨la,o,h8,h9⟩:=hl.ix (by decide) bg cW pA c;have C:y.dot.may=true:=by
    have:=B y (List.mem_of_getElem? c);simp only [eC.may,Bool.and_eq_true] at this;exact this.1
   refine ⟨la,o,h8 _,_,(h9 _ A).2,lq S rfl rfl rfl fun a3 tw k=>?_⟩;refine ⟨_,k.own.at.aD (by simp [bu]),?_⟩;have U:∀ z∈F',tw.h z≠none:=fun z hz hq=>w z hz (k.ext.none hq);have a4:=TF (x.ew (l.take i)).2 y j.ok C (by omega);refine aa.use (Va (j.ext k.ext) U y C (by omega)) ?_;rintro v yY ⟨rfl,Z,al,am,W,m2⟩ X;have I:=G i y c;have Y:Ext s2 yY:=Ext.Wn (A.trans k.ext) d m2;refine ⟨_,_,rfl,af.no (by decide) ?_⟩;have D:∀ z∈Z,s2.h z=none:=fun z hz=>by
    rcases am z hz with h | h
    ·exact d z h
    ·exact (A.trans k.ext).none h
   have rest:gP Z yY po (x.ew (l.take (i+1))).2/\(x.ew (l.take (i+1))).2.ex.length<=x.ex.length+(i+1)/\(x.ew (l.take (i+1))).2.nl<=x.nl+(i+1)/\(x.ew (l.take (i+1))).2.nl+(x.ew (l.take (i+1))).2.nt<=x.nl+x.nt+(i+1):=by
    rw [I];exact ⟨al,by simp only;omega,by simp only;omega,by simp only;omega⟩
   refine af.mk (fun hb=>?_) (fun hb=>?_)
   ·exact ⟨l.length - (i+1),by omega,i+1,by rw [aW (by omega),I,hb];rfl,by omega,rfl,X,Y,⟨Z,rest.1,D,W⟩,rest.2⟩
   ·exact ⟨l.length - (i+1),by omega,i+1,by rw [aW (by omega),I,hb];rfl,by omega,rfl,X,Y,⟨Z,rest.1,D,W⟩,rest.2⟩
  ·obtain rfl:i=l.length:=by omega
   rw [List.take_length] at *;exact ⟨rfl,S,A,F',j,d,w,by omega,by omega⟩
end
/-! ### the live dots that something holds of -/
def aH.held (x:aH) (P:aJ->Key->Bool) (d:aJ):Bool:=match x.live d with
 | some k=>P d k
 | none=>false
section
variable {F:List Nat} {s:AS} {p:Nat} {x:aH} {g:FuncId} {cap:List AV} {P:aJ->Key->Bool}
theorem Jv (h:gP F s p x) (hn:x.nl<65536) (S:∀ d k s',Ext s s'->aM s'->aa Tryz.prog g ([.agg (aN d),.agg (f_ k)]++cap) s' fun v s''=>v=.bool (P d k)/\Ext s' s'') :
  aa Tryz.prog gL [.ptr (some (p,0)),.func g cap] s fun v s'=>∃ l,aU aN 2 [] s s' v l/\dZ l/\(∀ d,d∈l↔x.held P d=true)/\l.length<=x.nl:=by
 refine aa.pre fun hw=>B8 _ _ _ _ ?_;obtain ⟨_,_,_,pc,lm,tm,a,_,_,_,_,_,H,_⟩:=id h;obtain ⟨es,c,hm,I,hl⟩:=id H;refine ⟨_,by rw [a.at.av];rfl,Lz (by omega) hm fun v6 s7 l U h2 h3 h4 W=>?_⟩;have J:Ext s s7:=h4.1;have hd:=h4.WD;refine ⟨_,hd.cI bF _,fun m vs s'=>∃ (i:Nat) (v:AV),vs=[v,.int .i64 (i:Nat)]/\i<=l.length/\m=l.length - i/\aM s'/\aU aN 2 [] s7 s' v ((l.take i).filter (x.held P)),l.length,⟨0,_,rfl,by omega,rfl,W,by simpa using aU.nil⟩,?_⟩;rintro m K n X ⟨i,v',hi,h6,rfl,L,b⟩;simp only [List.cons.injEq,AV.int.injEq,true_and,and_true] at hi;obtain ⟨rfl,rfl⟩:=hi;refine af.dec (fun Y=>?_) (fun Z=>?_)
 ·obtain ⟨d,M⟩:=de (l:=l) (i:=i) (by omega);obtain ⟨la,o,h8,h9⟩:=hd.ix (by decide) bn bF jR M;have ht:(l.take (i+1)).filter (x.held P)=(l.take i).filter (x.held P)++if x.held P d=true then [d] else []:=by
   rw [List.take_add_one,M,List.filter_append,Option.toList_some];congr 1;cases A:x.held P d <;> simp [List.filter_cons,A]
  refine ⟨la,o,h8 _,_,(h9 _ b.eL.ext).2,lq L rfl rfl rfl fun ab gi r=>?_⟩;have y:=J.trans (b.eL.ext.trans r.ext);have O:=a.ext y;obtain ⟨e,he,Q⟩:=(h2 d).1 (List.mem_of_getElem? M);have B:x.live d=some e.2.1:=by rw [<- I,<- Q];exact EN hm.nd he
  have z:dh T b_ (.map (some lm)) (.agg (aN d)) false gi=some (.agg (f_ e.2.1)):=by
   have:=(hm.ext y).find uT d false;rw [I,B] at this;exact this
  refine ⟨_,r.own.at.aD (by simp [aN]),_,by rw [O.at.av];rfl,_,r.own.at.aD (by simp [aN]),_,z,?_⟩;refine aa.use (S d e.2.1 gi y r.wf) ?_;rintro v ad ⟨rfl,C⟩ D;have w:x.held P d=P d e.2.1:=by simp [aH.held,B]
  have G:=b.step (r.ext.trans C);have ae:=List.length_filter_le (x.held P) (l.take i);have al:=List.length_take_le i l;refine ⟨_,rfl,af.mk (fun hb=>?_) (fun hb=>?_)⟩
  ·refine ⟨_,(r.own.ext C).at.aD (by simp [aN]),aU.iY iK bn mE D G (by simp) d (by omega) fun v' s' g' w' _=>?_⟩;exact ⟨l.length - (i+1),by omega,i+1,v',by rw [aW (by omega)];rfl,by omega,rfl,w',by rw [ht,w,if_pos hb];exact g'⟩
  ·exact ⟨l.length - (i+1),by omega,i+1,K,by rw [aW (by omega)];rfl,by omega,rfl,D,by rw [ht,w,if_neg (by rw [hb];simp),List.append_nil];exact G⟩
 ·rw [List.take_of_length_le (by omega)] at b;refine ⟨l.filter (x.held P),⟨b.vq,J.mut.trans b.eL,fun la R=>J.none (b.new la R)⟩,U.filter _,fun d=>?_,?_⟩
  ·rw [List.mem_filter,h2];constructor
   ·exact fun h=>h.2
   ·intro hd;refine ⟨?_,hd⟩;unfold aH.held at hd;cases A:x.live d with
    | none=>rw [A] at hd;cases hd
    | some k =>
     rw [<- I] at A;obtain ⟨j,n,hj⟩:=BB A;exact ⟨_,List.mem_of_getElem? hj,rfl⟩
  ·have:=List.length_filter_le (x.held P) l;omega
end
/-! ### items that are gone -/
def eZ (d:aJ):eC:=⟨d,⟨[],[]⟩,true⟩
theorem FA (d:aJ):aS T qG [(0,.agg (aN d)),(2,.bool true)]=some (.agg (bu (eZ d))):=by kernel_rfl
theorem TI {s:AS} {a:AV} {l:List aJ} (e:GI s a l) (B:l.length<=2 ^ 29) :
  aa Tryz.prog fW [a] s fun v s'=>aU bu 5 [] s s' v (l.map eZ):=by
 refine aa.pre fun k=>Jg _ _ _ ⟨_,e.cI bF _,fun m vs s'=>∃ (i:Nat) (v:AV),vs=[v,.int .i64 (i:Nat)]/\i<=l.length/\m=l.length - i/\aM s'/\aU bu 5 [] s s' v ((l.take i).map eZ),l.length,⟨0,_,rfl,by omega,rfl,k,by simpa using aU.nil⟩,?_⟩;rintro m C n s7 ⟨i,v',hi,D,rfl,p,c⟩;simp only [List.cons.injEq,AV.int.injEq,true_and,and_true] at hi;obtain ⟨rfl,rfl⟩:=hi;refine af.dec (fun r=>?_) (fun w=>?_)
 ·obtain ⟨d,j⟩:=de (l:=l) (i:=i) (by omega);obtain ⟨la,o,x,y⟩:=e.ix (by decide) bn bF jR j;have ht:(l.take (i+1)).map eZ=(l.take i).map eZ++[eZ d]:=by
   rw [List.take_add_one,j,List.map_append];rfl
  refine ⟨la,o,x _,_,(y _ c.eL.ext).2,lq p rfl rfl rfl fun z bP b=>?_⟩;refine ⟨_,b.own.at.aD (by simp [aN]),_,FA d,aU.iY fT bg jM b.wf (c.step b.ext) (by simp) (eZ d) (by simp;omega) fun v' s' A w' _=>?_⟩;exact ⟨l.length - (i+1),by omega,i+1,v',by rw [aW (by omega)];rfl,by omega,rfl,w',by rw [ht];exact A⟩
 ·rw [List.take_of_length_le (by omega)] at c;exact c
end Go.Proofs.YtohgmogbabkkeaaGreat
end

section
namespace Go.Proofs.YtohgmogbabkkeaaGreat
open Go.Am Go.au Go.aC
def aH.zero:aH:=⟨dD,[],fun _=>none,fun _=>false,0,0⟩
theorem PT (s:AS):aa Tryz.prog BE [] s fun r s'=>∃ p,r=.ptr (some (p,0))/\s.h p=none/\uR s s' p dD []/\Ext s s':=by
 refine aa.pre fun b=>PC _ _ ?_;have hb:aS T nK [(2,.bool true)]=some (.agg (dD.map (.int .u64)++[.slc none 0 0 true,.bool true])):=by kernel_rfl
 exact ⟨_,hb,rfl,aj.intro b rfl fun p s1 F=>⟨p,rfl,F.no,⟨rfl,_,F.own,rfl,br.nil,by simp [ay]⟩,F.ext⟩⟩
theorem Vc (s:AS):aa Tryz.prog wA [] s fun r s'=>∃ p F,r=.ptr (some (p,0))/\gP F s' p aH.zero/\(∀ y∈F,s.h y=none)/\(∀ y∈F,s'.h y≠none)/\Ext s s':=by
 refine aa.pre fun D=>Lr _ _ ?_;refine aa.use (PT s) ?_;rintro v s2 ⟨pc,rfl,n,C,e2⟩ w2;refine ⟨_,rfl,aj.intro w2 rfl fun lm G e=>aj.intro e.wf rfl fun tm s7 i=>⟨_,Hx _ _ _,rfl,aj.intro i.wf rfl fun p k b=>?_⟩⟩;obtain ⟨Fc,o,w,x⟩:=C.W_ n;have j:=e.ext.trans (i.ext.trans b.ext);have z:=i.ext.trans b.ext;have l:k.h lm=some (.map [] 0 false):=z.1 _ _ e.at;have m:k.h tm=some (.map [] 0 false):=b.ext.1 _ _ i.at;have A:lm≠tm:=by
  rintro rfl;have:=i.no;rw [e.at] at this;cases this
 refine ⟨p,p::lm::tm::Fc,rfl,⟨Lj.zero,(fun y c=>by cases c),by simp [aH.zero],pc,lm,tm,b.own,by simp,(o.mut (L:=[]) j.mut (by simp)).sub (fun y c=>by simp [c]),by simp,by simp,A,⟨[],0,eM.new l,fun d=>rfl,rfl⟩,⟨[],0,eM.new m,fun d=>rfl,rfl⟩⟩,?_,?_,e2.trans j⟩
 ·intro y c;simp only [List.mem_cons] at c;rcases c with rfl | rfl | rfl | c
  ·exact e2.none (e.ext.none (i.ext.none b.no))
  ·exact e2.none e.no
  ·exact e2.none (e.ext.none i.no)
  ·exact w y c
 ·intro y c;simp only [List.mem_cons] at c;rcases c with rfl | rfl | rfl | c
  ·rw [b.at];simp
  ·rw [l];simp
  ·rw [m];simp
  ·cases B:s2.h y with
   | none=>exact absurd B (x y c)
   | some ob=>rw [j.1 y ob B];simp
theorem FB {s s':AS} {p:Nat} {cs:List AV} {v:AV} {l:List eC} (j:s.h p=some (.cells cs 0 false)) (d:∀ c∈cs,∀ n,c≠.int .i64 n) (hs:Sl bu 5 s v l) (m:bD [p] s s'):Sl bu 5 s' v l:=by
 refine Sl.mut hs m bg (by decide) fun q k C b x r i c e o=>?_;obtain rfl:=List.mem_singleton.1 k;obtain ⟨g,ro,b⟩:=b;rw [j] at b;simp only [Option.some.injEq,AO.cells.injEq] at b;obtain ⟨rfl,_⟩:=b;simp only [bu,List.getElem?_cons_zero,Option.some.injEq] at e;exact d c (List.mem_of_getElem? o) _ e.symm
section
variable {F:List Nat} {s s':AS} {p:Nat} {x:aH} {k:Key}
theorem gP.RW {v:AV} {l:List eC} (h:gP F s p x) (hs:Sl bu 5 s v l) (m:bD [p] s s'):Sl bu 5 s' v l:=by
 obtain ⟨_,_,_,pc,lm,tm,a,_⟩:=h;refine FB a (fun c b n=>?_) hs m;simp only [List.mem_cons,List.not_mem_nil,or_false] at b;rcases b with rfl | rfl | rfl <;> simp
theorem FC (d:aJ):x.held (fun _ y=>decide (y=k)) d=true↔x.live d=some k:=by
 unfold aH.held;cases x.live d with
 | none=>simp
 | some y=>simp
theorem TJ {b:Nat} (d:aJ) (y:Key) (j:At s b (f_ k)):aa Tryz.prog lZ ([.agg (aN d),.agg (f_ y)]++[.ptr (some (b,0))]) s fun v s'=>v=.bool (decide (y=k))/\Ext s s':=by
 refine aa.pre fun l=>AJ _ _ _ _ _ ⟨rfl,aj.intro l rfl fun l1 s2 c=>⟨rfl,aj.intro c.wf rfl fun l3 s4 e=>?_⟩⟩;have i:=c.ext.trans e.ext;exact ⟨_,e.own.at.aD (by simp [f_]),_,(j.ext i).aD (by simp [f_]),_,Jn _ _,rfl,i⟩
theorem TL {b:Nat} (d:aJ) (y:Key) (j:At s b (f_ k)):aa Tryz.prog lW ([.agg (aN d),.agg (f_ y)]++[.ptr (some (b,0))]) s fun v s'=>v=.bool (decide (y=k))/\Ext s s':=by
 refine aa.pre fun l=>AQ _ _ _ _ _ ⟨rfl,aj.intro l rfl fun l1 s2 c=>⟨rfl,aj.intro c.wf rfl fun l3 s4 e=>?_⟩⟩;have i:=c.ext.trans e.ext;exact ⟨_,e.own.at.aD (by simp [f_]),_,(j.ext i).aD (by simp [f_]),_,Jn _ _,rfl,i⟩
theorem Vd (h:gP F s p x) (i:x.nl<65536) (k:Key):aa Tryz.prog oZ [.ptr (some (p,0)),.agg (f_ k)] s fun r s'=>(∃ b,r=.bool b/\(b=true↔∃ d,x.live d=some k))/\Ext s s':=by
 refine aa.pre fun j=>DE _ _ _ _ ⟨rfl,aj.intro j rfl fun l1 s2 c=>?_⟩;refine aa.use (oQ (h.ext c.ext)) ?_;rintro v s4 ⟨rfl,rfl⟩ m;refine ⟨_,rfl,af.yes rfl ?_⟩;refine aa.use (Jv (P:=fun _ y=>decide (y=k)) (h.ext c.ext) i fun d y s' e _=>TL d y (c.own.at.ext e)) ?_;rintro v s7 ⟨l,g,_,hm,_⟩ n;refine ⟨_,(g.sl bn).cI bF _,⟨_,rfl,?_⟩,c.ext.trans g.eL.ext⟩;rw [decide_eq_true_eq];constructor
 ·intro o;obtain ⟨d,hd⟩:=List.exists_mem_of_length_pos (l:=l) (by omega);exact ⟨d,(FC d).1 ((hm d).1 hd)⟩
 ·rintro ⟨d,hd⟩;have:=List.length_pos_of_mem ((hm d).2 ((FC d).2 hd));omega
theorem Ve (h:gP F s p x):aa Tryz.prog fR [.ptr (some (p,0))] s fun r s'=>∃ q,r=.ptr (some (q,0))/\s.h q=none/\uR s s' q x.v x.ex/\Ext s s':=by
 refine vo _ _ _ ?_;refine aa.use (oQ h) ?_;rintro v s2 ⟨rfl,rfl⟩ w2;have b:=h.len;obtain ⟨ok,Fx,hlen,pc,lm,tm,a,c,d,_⟩:=h;refine ⟨_,rfl,af.no rfl ⟨_,by rw [a.at.av];rfl,?_⟩⟩;refine aa.use (Fo d.at (by omega)) ?_;rintro v s8 ⟨q,rfl,i,g,e⟩ _;exact ⟨_,rfl,q,rfl,i,g,e⟩
structure qf (x:aH) (k:Key) (l:List aJ):Prop where
 Qx:dZ l
 mem:∀ d,d∈l↔x.live d=some k
 len:l.length<=x.nl
theorem xI {d:aJ} (h:d.may=true):(eZ d).may=true:=by simp [eC.may,eZ,h]
theorem FD {s:AS} (d:aM s) {l0:Nat} {i:eC} (p:At s l0 (bu i)) {v:AV} {l:List eC} (r:Sl bu 5 s v l) (hb:l.length<=2 ^ 29) {K:AV->AS->Prop} (j:∀ v' s',Sl bu 5 s' v' (i::l)->aM s'->Ext s s'->K v' s'):iD (aI T aG aG (.slc (some (l0,0)) 1 1 true) v s) K:=by
 obtain ⟨b,hlen⟩:=cq.src fT r;have e:=jJ fT (base:=some (l0,0)) (len:=1) (cap:=1) (ex:=true) cW hlen b (by rw [d_ bg]) (by omega);have k:Sl bu 5 s (.slc (some (l0,0)) 1 1 true) [i]:=cq.mk p (by simp [bu]) (by simp [bu]);by_cases m:l=[]
 ·subst m;rw [if_pos (by simp)] at e;simp only [List.flatMap_nil,if_true,List.length_nil,Nat.add_zero] at e;exact ⟨_,_,e,j _ _ k d (Ext.refl _)⟩
 ·have n:0<l.length:=List.length_pos_iff.2 m;rw [if_neg (by omega)] at e;have c:=(cq.src fT k).1;simp only [List.length_cons,List.length_nil,Nat.zero_add] at c;rw [c] at e;simp only [Option.bind_some,if_true] at e;rw [show 1+l.length=(i::l).length by simp;omega] at e;have Fr:=d.new (o:=.cells ([i].flatMap bu++l.flatMap bu) 5 false) rfl;refine ⟨_,_,e,j _ _ ?_ Fr.wf Fr.ext⟩;refine cq.mk ⟨_,_,Fr.at⟩ ?_ ?_ ?_
  ·exact d_ bg _
  ·rw [List.drop_zero,List.take_of_length_le]
   ·simp
   ·simp [d_ bg,bu];omega
  ·exact Nat.le_refl _
theorem FE (d:aJ) (k:Key):aS T qG [(0,.agg (aN d)),(1,.agg (f_ k))]=some (.agg (bu ⟨d,k,false⟩)):=by kernel_rfl
theorem Vf (h:gP F s p x) (k:Key) (d:aJ) (C:∀ d,(x.live d).isSome=true->d.may=true) (a1:x.ex.length+x.nl<4096) (a2:x.nl+x.nl<1024) (a3:x.nl+x.nt+x.nl<4096) :
  aa Tryz.prog cX [.ptr (some (p,0)),.agg (f_ k),.agg (aN d)] s fun r s'=>(¬ (k.may=true/\d.may=true/\fo x.v x.ex d=false)/\r=.aP [.slc none 0 0 true,.int .i64 2]/\Ext s s') \/
   ((k.may=true/\d.may=true/\fo x.v x.ex d=false)/\∃ v l,qf x k l/\r=.aP [v,.int .i64 0]/\Sl bu 5 s' v (⟨d,k,false⟩::l.map eZ)/\∃ F',gP F' s' p (x.ew (⟨d,k,false⟩::l.map eZ)).2/\(∀ y∈F',y=p\/s.h y=none)/\(∀ y∈F',s'.h y≠none)/\bD [p] s s'):=by
 refine aa.pre fun hw=>Dy _ _ _ _ _ ⟨rfl,aj.intro hw rfl fun l1 s2 O=>⟨rfl,aj.intro O.wf rfl fun l3 s4 Q=>?_⟩⟩;have E4:=O.ext.trans Q.ext;have h4:=h.ext E4;have R:At s4 l1 (f_ k):=(O.own.ext Q.ext).at;have d4:At s4 l3 (aN d):=Q.own.at;refine aa.use (oQ h4) ?_;rintro v s6 ⟨rfl,rfl⟩ w6;refine ⟨_,rfl,af.no rfl ⟨fun vs s'=>vs=[.bool !(k.may&&d.may&&!fo x.v x.ex d)]/\Ext s6 s'/\aM s',?_,?_⟩⟩
 ·rintro b a4 ⟨hb,o,a5⟩;simp only [List.cons.injEq,AV.bool.injEq,and_true] at hb;subst hb;have w:=E4.trans o;refine af.mk (fun hb=>.inl ⟨?_,rfl,w⟩) (fun hb=>?_)
  ·rintro ⟨a,b,c⟩;rw [a,b,c] at hb;cases hb
  have D:k.may=true/\d.may=true/\fo x.v x.ex d=false:=by
   simpa [Bool.and_eq_true,and_assoc] using hb
  have S:=h.ext w;refine aa.use (Jv (P:=fun _ y=>decide (y=k)) S (by omega) fun d y s' e _=>TJ d y ((R.ext o).ext e)) ?_;rintro v11 dI ⟨l,g,G,hm,U⟩ a6;have kd:qf x k l:=⟨G,fun d=>by rw [hm,FC],U⟩;have H:=o.trans g.eL.ext;have I:=g.sl bn;refine ⟨fun q _ v s'=>(q=3->∃ l,v=.slc (some (l,0)) 1 1 true/\At s' l (bu ⟨d,k,false⟩))/\(q=5->Sl bu 5 s' v (l.map eZ)),fun q _ v=>q=3->∃ l,v=.slc (some (l,0)) 1 1 true,?_,_,(d4.ext H).aD (by simp [aN]),_,(R.ext H).aD (by simp [f_]),_,FE d k,fun a7 a8 W _=>?_,⟨.slc (some (0,0)) 1 1 true,fun _=>⟨0,rfl⟩⟩,fun v20 a0=>⟨fun fL X a9 _=>?_,⟨.undef,(fun h=>by cases h)⟩,fun a' _ dW Y Z hS=>?_⟩⟩
  ·rintro q ks v s s' e ⟨h1,h2⟩;refine ⟨fun hq=>?_,fun hq=>(h2 hq).ext e⟩;obtain ⟨l,a,b⟩:=h1 hq;exact ⟨l,a,b.ext e⟩
  ·exact ⟨_,kh fT (bg _) (jM _),aj.intro W rfl fun z gz J=>⟨J.ext,⟨(fun _=>⟨z,rfl,J.own.at⟩),(fun h=>by cases h)⟩,fun _=>⟨z,rfl⟩⟩⟩
  ·refine (TI (I.ext X) (by omega)).mono ?_;rintro ba tW K;exact ⟨K.eL.ext,⟨(fun h=>by cases h),fun _=>K.sl bg⟩,(fun h=>by cases h)⟩
  ·obtain ⟨z,rfl,hi⟩:=hS.1.1 rfl;have hg:=hS.2.1.2 rfl;refine FD Z hi hg (by simp;omega) fun ab bb n bc ad=>?_;have A:=w.trans (g.eL.ext.trans (Y.trans ad));have L:=h.ext A;refine aa.use (Vb L n (fun i hi=>?_) (by simp;omega) (by simp;omega) (by simp;omega)) ?_
   ·rcases List.mem_cons.1 hi with rfl | hi
    ·simp [eC.may,D]
    ·obtain ⟨d,hd,rfl⟩:=List.mem_map.1 hi;exact xI (C d (by rw [(kd.mem d).1 hd];rfl))
   rintro v bd ⟨rfl,F',ae,al,am,M⟩ be;refine ⟨_,_,rfl,af.no (by decide) (.inr ⟨D,ab,l,kd,rfl,L.RW n M,F',ae,fun y hy=>?_,am,A.mut.trans M⟩)⟩;rcases al y hy with h | h
   ·exact .inl h
   ·exact .inr (A.none h)
 ·refine ⟨_,R.aD (by simp [f_]),?_⟩;refine aa.use (Hw k _) ?_;rintro v bh ⟨rfl,B⟩ an;refine ⟨_,rfl,af.mk (fun hb=>⟨by simp only [Bool.not_eq_true'] at hb;rw [hb];rfl,B,an⟩) (fun hb=>⟨_,(d4.ext B).aD (by simp [aN]),?_⟩)⟩;simp only [Bool.not_eq_false'] at hb;refine aa.use (qR d _) ?_;rintro v bi ⟨rfl,ao⟩ ap;have j:=B.trans ao;refine ⟨_,rfl,af.mk (fun m=>⟨by simp only [Bool.not_eq_true'] at m;rw [hb,m];rfl,j,ap⟩) (fun m=>?_)⟩;simp only [Bool.not_eq_false'] at m;obtain ⟨ok,Fx,hlen,pc,lm,tm,a,_,hc,_⟩:=h4.ext j;refine ⟨_,by rw [a.at.av];rfl,_,(d4.ext j).aD (by simp [aN]),?_⟩;refine aa.use (y_ hc.at ok.r (by omega) d) ?_;rintro v tw ⟨rfl,ar⟩ aw;exact ⟨_,rfl,by rw [hb,m];simp,j.trans ar,aw⟩
end
end Go.Proofs.YtohgmogbabkkeaaGreat
end

section
namespace Go.Proofs.YtohgmogbabkkeaaGreat
open Go.Am Go.au Go.aC
section
variable {m:Nat} {es:List (aJ×Key×Nat)} {c:Nat} {ro:Bool} {s:AS}
end
section
variable {F:List Nat} {s s':AS} {p:Nat} {x:aH}
end
end Go.Proofs.YtohgmogbabkkeaaGreat
end

section
namespace Go.Proofs.YtohgmogbabkkeaaGreat
open Go.Am Go.au Go.aC
def aH.has (x:aH) (d:aJ):Bool:=fo x.v x.ex d
theorem aH.uU {x:aH} {d:aJ} (h:x.has d=true):d.may=true:=by
 simp only [aH.has,fo,Bool.and_eq_true] at h;exact h.1
def aH.keeps (x:aH) (d:aJ):Prop:=d∈x.ex\/(x.live d).isSome=true\/x.qU d=true
structure mV (x:aH) (B:Nat):Prop where
 ok:Lj x.v x.ex
 Fx:RP x.v x.ex
 lv:∀ d k,x.live d=some k->x.has d=true/\k.may=true
 tb:∀ d,x.qU d=true->x.has d=true/\x.live d=none
 sz:∃ U:List aJ,U.length<=B/\∀ d,x.keeps d->d∈U
theorem mV.zero:mV aH.zero 0:=⟨Lj.zero,(fun y b=>by cases b),(fun d k h=>by cases h),(fun d h=>by cases h),[],by simp,fun d h=>by
  rcases h with h | h | h
  ·cases h
  ·cases h
  ·cases h⟩
theorem mV.mono {x:aH} {B B':Nat} (h:mV x B) (hb:B<=B'):mV x B':=by
 obtain ⟨a,b,c,d,U,e,f⟩:=h;exact ⟨a,b,c,d,U,by omega,f⟩
section
variable {x:aH} {B:Nat} {i:eC}
theorem OJ {v:List Int} {ex:List aJ} {d:aJ} (h:fo v ex d=false):za v ex d=compact v (ins ex d):=by simp [za,h]
theorem AR (h:mV x B) (hi:i.dot.may=true) (d:aJ):(x.lM i).2.has d=(x.has d||decide (d=i.dot)):=by
 unfold aH.lM;split
 ·rename_i m;simp only [Bool.and_eq_true] at m;obtain ⟨k,n⟩:=Option.isSome_iff_exists.1 m.1;have:=(h.lv _ _ n).1;by_cases e:d=i.dot
  ·subst e;simp only [aH.has] at this ⊢;simp [this]
  ·simp [aH.has,e]
 ·split
  ·rename_i c;by_cases e:d=i.dot
   ·subst e;simp [aH.has,c]
   ·simp [aH.has,e]
  ·rename_i c;have j:fo x.v x.ex i.dot=false:=by simpa using c
   have key:fo (compact x.v (ins x.ex i.dot)).1 (compact x.v (ins x.ex i.dot)).2 d=(fo x.v x.ex d||decide (d=i.dot)):=by
    have:=Ln h.ok hi d;rw [OJ j] at this;cases l:fo (compact x.v (ins x.ex i.dot)).1 (compact x.v (ins x.ex i.dot)).2 d with
    | true=>rcases this.1 l with h | h <;> simp [h]
    | false =>
     cases b:(fo x.v x.ex d||decide (d=i.dot)) with
     | false=>rfl
     | true =>
      simp only [Bool.or_eq_true,decide_eq_true_eq] at b;rw [this.2 b] at l;cases l
   split
   ·exact key
   ·exact key
theorem qV (h:mV x B) (d:aJ):(x.lM i).2.live d=if d=i.dot then (if i.gone then none else if x.has d then x.live d else some i.key) else x.live d:=by
 unfold aH.lM;split
 ·rename_i c;simp only [Bool.and_eq_true] at c;simp [c.2]
 ·rename_i c;split
  ·rename_i l;by_cases e:d=i.dot
   ·subst e;cases j:i.gone with
    | true =>
     rw [j,Bool.and_true] at c;simp only [if_true];simpa using c
    | false=>simp [aH.has,l]
   ·simp [e]
  ·rename_i l;have b:x.live i.dot=none:=by
    cases m:x.live i.dot with
    | none=>rfl
    | some k=>exact absurd (h.lv _ _ m).1 l
   split
   ·rename_i j;by_cases e:d=i.dot
    ·subst e;simp [j,b]
    ·simp [e]
   ·rename_i j;by_cases e:d=i.dot
    ·subst e;simp [j,aH.has,l]
    ·simp [e]
theorem AT (h:mV x B) (d:aJ):(x.lM i).2.qU d=(x.qU d||(decide (d=i.dot)&&i.gone&&((x.live d).isSome||!x.has d))):=by
 unfold aH.lM;split
 ·rename_i b;simp only [Bool.and_eq_true] at b;by_cases e:d=i.dot
  ·subst e;simp [b.1,b.2]
  ·simp [e]
 ·rename_i b;split
  ·rename_i j;by_cases e:d=i.dot
   ·subst e;have:((x.live i.dot).isSome||!x.has i.dot)=(x.live i.dot).isSome:=by simp [aH.has,j]
    rw [this];cases c:i.gone with
    | true=>rw [c,Bool.and_true] at b;simp [b]
    | false=>simp
   ·simp [e]
  ·rename_i j;have k:x.has i.dot=false:=by simpa [aH.has] using j
   split
   ·rename_i c;by_cases e:d=i.dot
    ·subst e;simp [c,k]
    ·simp [e]
   ·rename_i c;simp [c]
theorem TM (h:mV x B):(x.lM i).1=(((x.live i.dot).isSome&&i.gone)||!x.has i.dot):=by
 unfold aH.lM;split
 ·rename_i b;simp [b]
 ·rename_i b;have c:((x.live i.dot).isSome&&i.gone)=false:=by simpa using b
  rw [c];split
  ·rename_i d;simp [aH.has,d]
  ·rename_i d;split <;> simp [aH.has,d]
theorem uV (h:mV x B) (hi:i.may=true):mV (x.lM i).2 (if x.has i.dot then B else B+1):=by
 have b:i.dot.may=true:=by simp only [eC.may,Bool.and_eq_true] at hi;exact hi.1
 have j:Lj (x.lM i).2.v (x.lM i).2.ex/\RP (x.lM i).2.v (x.lM i).2.ex:=by
  unfold aH.lM;split
  ·exact ⟨h.ok,h.Fx⟩
  ·split
   ·exact ⟨h.ok,h.Fx⟩
   ·rename_i c;have m:fo x.v x.ex i.dot=false:=by simpa using c
    have n:=h.ok.add b;have h2:=RP.add h.ok h.Fx b;rw [OJ m] at n h2;split <;> exact ⟨n,h2⟩
 refine ⟨j.1,j.2,fun d k hd=>?_,fun d hd=>?_,?_⟩
 ·rw [qV h] at hd;rw [AR h b];by_cases e:d=i.dot
  ·subst e;rw [if_pos rfl] at hd;refine ⟨by simp,?_⟩;split at hd
   ·cases hd
   ·split at hd
    ·exact (h.lv _ _ hd).2
    ·rename_i l _;simp only [Option.some.injEq] at hd;subst hd;simp only [eC.may,Bool.and_eq_true] at hi;have:=hi.2;rw [if_neg l] at this;exact this
  ·rw [if_neg e] at hd;have:=h.lv _ _ hd;exact ⟨by simp [this.1],this.2⟩
 ·rw [AT h] at hd;rw [AR h b,qV h];simp only [Bool.or_eq_true,Bool.and_eq_true,decide_eq_true_eq] at hd;rcases hd with hd | ⟨⟨rfl,l⟩,_⟩
  ·have:=h.tb _ hd;refine ⟨by simp [this.1],?_⟩;by_cases e:d=i.dot
   ·subst e;simp [this.1,this.2]
   ·rw [if_neg e];exact this.2
  ·refine ⟨by simp,by simp [l]⟩
 ·obtain ⟨U,p,hm⟩:=h.sz;have o:∀ d,((x.lM i).2.live d).isSome=true->(x.live d).isSome=true\/(d=i.dot/\x.has i.dot=false):=by
   intro d hd;rw [qV h] at hd;by_cases e:d=i.dot
   ·subst e;rw [if_pos rfl] at hd;split at hd
    ·cases hd
    ·split at hd
     ·exact .inl hd
     ·rename_i r;exact .inr ⟨rfl,by simpa using r⟩
   ·rw [if_neg e] at hd;exact .inl hd
  have ht:∀ d,(x.lM i).2.qU d=true->x.keeps d\/(d=i.dot/\x.has i.dot=false):=by
   intro d hd;rw [AT h] at hd;simp only [Bool.or_eq_true,Bool.and_eq_true,decide_eq_true_eq] at hd;rcases hd with hd | ⟨⟨rfl,l⟩,hd | hd⟩
   ·exact .inl (.inr (.inr hd))
   ·exact .inl (.inr (.inl hd))
   ·exact .inr ⟨rfl,by simpa using hd⟩
  by_cases c:x.has i.dot=true
  ·rw [if_pos c];have hex:(x.lM i).2.ex=x.ex:=by
    unfold aH.lM;split
    ·rfl
    ·rw [if_pos (show fo x.v x.ex i.dot=true from c)]
   refine ⟨U,p,fun d hd=>?_⟩;rcases hd with hd | hd | hd
   ·rw [hex] at hd;exact hm _ (.inl hd)
   ·rcases o d hd with hd | ⟨_,hd⟩
    ·exact hm _ (.inr (.inl hd))
    ·rw [c] at hd;cases hd
   ·rcases ht d hd with hd | ⟨_,hd⟩
    ·exact hm _ hd
    ·rw [c] at hd;cases hd
  ·rw [if_neg c];have hex:∀ d∈(x.lM i).2.ex,d=i.dot\/d∈x.ex:=by
    intro d hd;unfold aH.lM at hd;split at hd
    ·exact .inr hd
    ·split at hd
     ·exact .inr hd
     ·have:d∈(compact x.v (ins x.ex i.dot)).2:=by split at hd <;> exact hd
      exact uv.1 ((rD _ _).subset this)
   refine ⟨i.dot::U,by simp;omega,fun d hd=>?_⟩;rcases hd with hd | hd | hd
   ·rcases hex d hd with rfl | hd
    ·simp
    ·simp [hm _ (.inl hd)]
   ·rcases o d hd with hd | ⟨rfl,_⟩
    ·simp [hm _ (.inr (.inl hd))]
    ·simp
   ·rcases ht d hd with hd | ⟨rfl,_⟩
    ·simp [hm _ hd]
    ·simp
end
theorem LB (x:aH):x.ew []=(false,x):=rfl
theorem FF:∀ (l:List eC) (b:Bool) (x:aH),l.foldl (fun a i=>(a.1||(a.2.lM i).1,(a.2.lM i).2)) (b,x)=(b||(x.ew l).1,(x.ew l).2)
 | [],b,x=>by simp [aH.ew]
 | i::l,b,x=>by
  unfold aH.ew;simp only [List.foldl_cons];rw [FF l,FF l (false||_)];simp [Bool.or_assoc]
theorem qs (x:aH) (i:eC) (l:List eC):x.ew (i::l)=((x.lM i).1||((x.lM i).2.ew l).1,((x.lM i).2.ew l).2):=by
 conv=>lhs;unfold aH.ew
 rw [List.foldl_cons,FF];simp
theorem mV.ew:∀ (l:List eC) {x:aH} {B:Nat},mV x B->(∀ i∈l,i.may=true)->mV (x.ew l).2 (B+l.length)
 | [],x,B,h,_=>h
 | i::l,x,B,h,b=>by
  rw [qs];have c:=(uV h (b i (by simp))).mono (B':=B+1) (by split <;> omega);have:=mV.ew l c fun j hj=>b j (by simp [hj]);exact this.mono (by simp;omega)
theorem mV.LC:∀ (l:List eC) {x:aH} {B:Nat},mV x B->(∀ i∈l,i.may=true)->(∀ i∈l,x.has i.dot=true)->mV (x.ew l).2 B
 | [],x,B,h,_,_=>h
 | i::l,x,B,h,d,b=>by
  rw [qs];have e:=uV h (d i (by simp));rw [if_pos (b i (by simp))] at e;have c:i.dot.may=true:=aH.uU (b i (by simp));exact mV.LC l e (fun j hj=>d j (by simp [hj])) fun j hj=>by rw [AR h c,b j (by simp [hj])];rfl
/-! ### how great -/
theorem jN {l:List aJ} (h:dZ l):l.Nodup:=h.imp fun {a b} c e=>by subst e;exact aJ.lt_irrefl _ c
theorem gP.WJ {F:List Nat} {s:AS} {p:Nat} {x:aH} {B:Nat} (h:gP F s p x) (o:mV x B):x.nl+x.nt<=B/\x.ex.length<=B:=by
 obtain ⟨ok,Fx,hlen,pc,lm,tm,a,n,G,w,y,z,⟨es,c,A,h2,h3⟩,⟨es',c',k,i,C⟩⟩:=h;obtain ⟨U,H,hm⟩:=o.sz;have D:(es.map fun e=>e.1).Nodup:=List.pairwise_map.2 A.nd;have n2:(es'.map fun e=>e.1).Nodup:=List.pairwise_map.2 k.nd;constructor
 ·have l:((es.map fun e=>e.1)++(es'.map fun e=>e.1)).Nodup:=by
   refine List.nodup_append.2 ⟨D,n2,fun a m b hb=>?_⟩;rintro rfl;rw [oA,h2] at m;rw [oA,i] at hb;cases j:x.qU a with
   | false=>rw [j] at hb;cases hb
   | true=>rw [(o.tb _ j).2] at m;cases m
  have:=lz l fun d hd=>hm d ?_
  ·simp only [List.length_append,List.length_map] at this;omega
  ·rcases List.mem_append.1 hd with hd | hd
   ·rw [oA,h2] at hd;exact .inr (.inl hd)
   ·rw [oA,i] at hd;cases j:x.qU d with
    | false=>rw [j] at hd;cases hd
    | true=>exact .inr (.inr j)
 ·have:=lz (jN ok.r) fun d hd=>hm d ?_
  ·omega
  ·exact .inl hd
/-! ### rows in order -/
theorem OK {α:Type} {r:α->α->Prop} (c:∀ a,¬ r a a) (i:∀ a b,r a b->¬ r b a):∀ {l l':List α},l.Pairwise r->l'.Pairwise r->(∀ x,x∈l↔x∈l')->l=l'
 | [],[],_,_,_=>rfl
 | [],b::l',_,_,h=>by have:=(h b).2 (by simp);cases this
 | a::l,[],_,_,h=>by have:=(h a).1 (by simp);cases this
 | a::l,b::l',n,h2,h=>by
  obtain ⟨p1,o⟩:=List.pairwise_cons.1 n;obtain ⟨m,p⟩:=List.pairwise_cons.1 h2;have k:a=b:=by
   rcases List.mem_cons.1 ((h a).1 (by simp)) with e | w
   ·exact e
   ·rcases List.mem_cons.1 ((h b).2 (by simp)) with e | hb
    ·exact e.symm
    ·exact absurd (p1 b hb) (i _ _ (m a w))
  subst k;have:=OK c i o p fun x=>by
   constructor
   ·intro j;rcases List.mem_cons.1 ((h x).1 (by simp [j])) with e | d
    ·subst e;exact absurd (p1 x j) (c x)
    ·exact d
   ·intro j;rcases List.mem_cons.1 ((h x).2 (by simp [j])) with e | d
    ·subst e;exact absurd (m x j) (c x)
    ·exact d
  rw [this]
theorem aJ.TN {a b:aJ} (h:a.lt b=true):¬ b.lt a=true:=by
 rw [aJ.lt_iff] at *;omega
theorem LD {l l':List aJ} (h:dZ l) (c:dZ l') (hm:∀ d,d∈l↔d∈l'):l=l' :=
 OK (fun a h=>aJ.lt_irrefl _ h) (fun a b=>aJ.TN) h c hm
theorem qf.has {x:aH} {B:Nat} (o:mV x B) {k:Key} {l:List aJ} (h:qf x k l) {d:aJ} (hd:d∈l):x.has d=true:=(o.lv d k ((h.mem d).1 hd)).1
/-! ### a law's own sets -/
def Dj (F G:List Nat):Prop:=∀ y∈F,y ∉ G
theorem Dj.symm {F G:List Nat} (h:Dj F G):Dj G F:=fun y b c=>h y c b
section
variable {s0 s s':AS} {F F' G:List Nat} {p q:Nat} {x y:aH} {B C:Nat}
theorem gP.pF (h:gP F s p x):p∈F:=by obtain ⟨_,_,_,pc,lm,tm,_,h,_⟩:=h;exact h
theorem Hy {L:List Nat} (h:∀ y∈F,s.h y≠none) (m:bD L s s') (d:Dj L F):∀ y∈F,s'.h y≠none:=by
 intro y b;cases c:s.h y with
 | none=>exact absurd c (h y b)
 | some o=>rw [m.1 y o (fun e=>d y e b) c];simp
theorem Dj.step (d:Dj F G) (ht:∀ y∈G,s.h y≠none) (c:∀ y∈F',y∈F\/s.h y=none):Dj F' G:=by
 intro y e b;rcases c y e with h | h
 ·exact d y h b
 ·exact ht y b h
end
end Go.Proofs.YtohgmogbabkkeaaGreat
end

section
namespace Go.Proofs.YtohgmogbabkkeaaGreat
open Go.Am Go.au Go.aC
section
variable {s0 s:AS} {F:List Nat} {p:Nat} {x:aH} {B:Nat}
theorem mV.WK (h:mV x B):∀ d,(x.live d).isSome=true->d.may=true:=fun d hd=>by
 obtain ⟨k,b⟩:=Option.isSome_iff_exists.1 hd;exact aH.uU (h.lv _ _ b).1
theorem Hz {l:List aJ} (h:∀ d∈l,d.may=true):∀ i∈l.map eZ,i.may=true:=fun i hi=>by
 obtain ⟨d,hd,rfl⟩:=List.mem_map.1 hi;exact xI (h d hd)
theorem mV.PU (o:mV x B) {l:List aJ} (h:∀ d∈l,x.has d=true):mV (x.ew (l.map eZ)).2 B :=
 o.LC _ (Hz fun d hd=>aH.uU (h d hd)) fun i hi=>by
  obtain ⟨d,hd,rfl⟩:=List.mem_map.1 hi;exact h d hd
theorem mV.add (o:mV x B) {k:Key} {d:aJ} {l:List aJ} (b:k.may=true) (hd:d.may=true) (c:qf x k l):mV (x.ew (⟨d,k,false⟩::l.map eZ)).2 (B+1):=by
 rw [qs];have hi:(⟨d,k,false⟩:eC).may=true:=by simp [eC.may,b,hd]
 have e:=(uV o hi).mono (B':=B+1) (by split <;> omega);exact e.PU fun y i=>by rw [AR o hd,c.has o i];rfl
end
/-! ### what is seen and live,by cases -/
end Go.Proofs.YtohgmogbabkkeaaGreat
end

section
set_option maxRecDepth 100000
set_option maxHeartbeats 4000000
namespace Go.Proofs.YtohgmogbabkkeaaGreat
open Go.Am
end Go.Proofs.YtohgmogbabkkeaaGreat
end

section
namespace Go.Proofs.YtohgmogbabkkeaaGreat
open Go.Am Go.au Go.aC
theorem Cb (a b:List UInt8):aS T oH [(0,.str a),(1,.str b)]=some (.agg (f_ ⟨a,b⟩)):=by kernel_rfl
theorem zb (r c:Int):aS T iH [(0,.int .i64 r),(1,.int .u64 c)]=some (.agg (aN ⟨r,c⟩)):=by kernel_rfl
theorem rU {s:AS} {l o n m:Nat} {cs:List AV} (h:aD s l o n=some cs) (hm:m<=n):aD s l o m=some (cs.take m):=by
 unfold Am.aD at *;split at h
 ·rename_i C g ro b;split at h
  ·rename_i c;rw [if_pos (by omega)];simp only [Option.some.injEq] at h;rw [<- h,List.take_take];congr 2;omega
  ·cases h
 ·cases h
end Go.Proofs.YtohgmogbabkkeaaGreat
end

section
namespace Go.Proofs.YtohgmogbabkkeaaGreat
open Go.Am Go.au Go.aC Go.ChangeShapes Go.WideShapes Go.ChangeAt Go.RowKit
theorem FG (t:List UInt8) (s:AS):aa Tryz.prog pU [.str t] s fun v s'=>v=.bool (aK t)/\s'=s:=by
 refine Jm _ _ _ ⟨_,kF t s,af.dec (fun h=>⟨_,kF t s,?_,rfl⟩) (fun h=>⟨?_,rfl⟩)⟩
 ·congr 1;rw [aK,decide_eq_decide];omega
 ·congr 1;symm;rw [aK,decide_eq_false_iff_not];omega
section
variable {s0 s s':AS} {pa pb:Nat} {xa xb:aH} {Ba Bb:Nat} {sl:List (AV×List eC)}
end
end Go.Proofs.YtohgmogbabkkeaaGreat
end

section
set_option maxRecDepth 100000
set_option maxHeartbeats 4000000
namespace Go.Proofs.YtohgmogbabkkeaaGreat
open Go.Am
def AU (a0:Option (Nat×Nat)) (a1:List UInt8) (s:AS) (R:AV->AS->Prop):Prop :=
 aj (.cells [.str a1] 0 false) s fun l1 s2=>aa Tryz.prog bY [.ptr a0] s2 fun I s4=>∃ G:Bool,I=.bool G/\(af (!G)
 (R (.slc none 0 0 true) s4)
 (aa Tryz.prog gL [.ptr a0,(.func jX [(.ptr (some (l1,0)))])] s4 fun H s7=>aV .i64 (aQ T az H s7) fun J=>bB fun k l=>k l [.slc none 0 0 true,.int .i64 0] s7 /\
 ∀ i:Nat,∀ d:AV,∀ b:Int,∀ c:AS,k i [d,.int .i64 b] c ->
 af (decide ((b:Int)<J))
 (bG (ag T az H (.int .i64 b)) fun m n=>aR (aD c m n 2) fun j=>aj (.cells [.int .i64 0,.int .u64 0] 0 false) c fun e gz=>fh (some 2) j (bt (cK gz e 0 j) fun gi=>aR (aD gi e 0 2) fun o=>ah a0 fun p r=>vL (av gi p (r+1)) fun w=>aR (aD gi e 0 2) fun x=>oS (dh T b_ (.map w) (.agg x) false gi) fun y=>FY (y[1]?) fun z=>oS (aS T wI [(0,.agg o),(1,.str z)]) fun A=>aR (cV T bR 1 [(0,.agg A)]) fun B=>aj (.cells B 0 false) gi fun C mu=>iD (aI T bR bR d (.slc (some (C,0)) 1 1 true) mu) fun D F=>∃ m',m'<i/\k m' [D,(.int .i64 (IntKind.wrap .i64 (b+1)))] F))
 (R d c)))
def AW:QA:=(.seq .leaf (.seq (.seq .leaf (.cond (.seq .leaf .leaf) .leaf)) (.seq .leaf (.seq (.seq .leaf (.wrap (.loop [(5,.any),(15,.int .i64)] [(5,5),(7,7),(15,31)] (.seq .leaf (.seq (.cond .leaf .leaf) (.seq (.wrap (.seq .leaf .calm)) .leaf)))))) (.seq .leaf .leaf)))))
theorem AX (a0:Option (Nat×Nat)) (a1:List UInt8) (s:AS) (R:AV->AS->Prop) (h:AU a0 a1 s R):aa Tryz.prog cP [.ptr a0,.str a1] s R :=
 aa.q (n:=33) (rs:=[.tmp 4]) (A:=AW) hT bW Tryz.func72 (by kernel_rfl) rfl rfl rfl (by kernel_rfl) (by kernel_rfl) h
def ya (a0:List AV) (a1:List AV) (c0:Option (Nat×Nat)) (s:AS) (R:AV->AS->Prop):Prop :=
 cH a0 (aj (.cells a0 0 false) s fun l1 s2=>cH a1 (aj (.cells a1 0 false) s2 fun l3 s4=>FY (av s4 l3 0) fun b=>ah c0 fun c d=>FY (av s4 c d) fun e=>R (.bool ((b:List UInt8)==e)) s4))
def yb:QA:=(.seq .leaf (.seq .leaf .leaf))
theorem yc (a0:List AV) (a1:List AV) (c0:Option (Nat×Nat)) (s:AS) (R:AV->AS->Prop) (h:ya a0 a1 c0 s R):aa Tryz.prog jX [.agg a0,.agg a1,.ptr c0] s R :=
 aa.q (n:=10) (rs:=[.tmp 5]) (A:=yb) hT bW Tryz.func154 (by kernel_rfl) rfl rfl rfl (by kernel_rfl) (by kernel_rfl) h
def Cc (a0:Option (Nat×Nat)) (s:AS) (R:AV->AS->Prop):Prop :=
 bB fun c m2=>c m2 [.slc none 0 0 true,.int .i64 0] s /\
 ∀ e:Nat,∀ d:AV,∀ b:Int,∀ s6:AS,c e [d,.int .i64 b] s6 ->
 ah a0 fun D F=>dS (av s6 D (F+17)) fun G=>aV .i64 (aQ T aG G s6) fun i=>af (decide ((b:Int)<i))
 (ah a0 fun j k=>dS (av s6 j (k+17)) fun l=>bG (ag T aG l (.int .i64 b)) fun lC m=>On (av s6 lC (m+4)) fun n=>af (!n)
 (ah a0 fun o p=>dS (av s6 o (p+17)) fun r=>bG (ag T aG r (.int .i64 b)) fun w x=>aR (aD s6 w x 5) fun y=>aR (cV T aG 1 [(0,.agg y)]) fun z=>aj (.cells z 0 false) s6 fun A dW=>iD (aI T aG aG d (.slc (some (A,0)) 1 1 true) dW) fun B C=>∃ m',m'<e/\c m' [B,(.int .i64 (IntKind.wrap .i64 (b+1)))] C)
 (∃ m',m'<e/\c m' [d,(.int .i64 (IntKind.wrap .i64 (b+1)))] s6))
 (R d s6)
def Cd:QA:=(.seq .leaf (.seq .leaf (.seq (.seq .leaf (.wrap (.loop [(3,.any),(4,.int .i64)] [(3,32)] (.seq (.seq .leaf (.cond .leaf .leaf)) (.seq (.wrap (.seq .leaf (.cond .leaf .leaf))) .leaf))))) (.seq .leaf .leaf))))
theorem Ce (a0:Option (Nat×Nat)) (s:AS) (R:AV->AS->Prop) (h:Cc a0 s R):aa Tryz.prog nB [.ptr a0] s R :=
 aa.q (n:=34) (rs:=[.tmp 2]) (A:=Cd) hT bW Tryz.func155 (by kernel_rfl) rfl rfl rfl (by kernel_rfl) (by kernel_rfl) h
def AY (a0:Option (Nat×Nat)) (a1:List UInt8) (s:AS) (R:AV->AS->Prop):Prop :=
 aa Tryz.prog nB [.ptr a0] s fun c s2=>bB fun d A=>d A [.slc none 0 0 true,.int .i64 0] s2 /\
 ∀ i:Nat,∀ e:AV,∀ b:Int,∀ s8:AS,d i [e,.int .i64 b] s8 ->
 aV .i64 (aQ T aG c s8) fun B=>af (decide ((b:Int)<B))
 (bG (ag T aG c (.int .i64 b)) fun mL j=>FY (av s8 mL (j+2)) fun k=>af ((k:List UInt8)==a1)
 (bG (ag T aG c (.int .i64 b)) fun l m=>aR (aD s8 l m 2) fun n=>bG (ag T aG c (.int .i64 b)) fun q_ o=>FY (av s8 q_ (o+3)) fun p=>oS (aS T wI [(0,.agg n),(1,.str p)]) fun r=>aR (cV T bR 1 [(0,.agg r)]) fun w=>aj (.cells w 0 false) s8 fun x fP=>iD (aI T bR bR e (.slc (some (x,0)) 1 1 true) fP) fun y z=>∃ m',m'<i/\d m' [y,(.int .i64 (IntKind.wrap .i64 (b+1)))] z)
 (∃ m',m'<i/\d m' [e,(.int .i64 (IntKind.wrap .i64 (b+1)))] s8))
 (R e s8)
def AZ:QA:=(.seq .leaf (.seq .leaf (.seq .leaf (.seq (.seq .leaf (.wrap (.loop [(5,.any),(7,.int .i64)] [(5,5),(7,7),(10,38)] (.seq (.seq .leaf (.cond .leaf .leaf)) (.seq (.wrap (.seq .leaf (.cond .calm .leaf))) .leaf))))) (.seq .leaf .leaf)))))
theorem A0 (a0:Option (Nat×Nat)) (a1:List UInt8) (s:AS) (R:AV->AS->Prop) (h:AY a0 a1 s R):aa Tryz.prog cQ [.ptr a0,.str a1] s R :=
 aa.q (n:=40) (rs:=[.tmp 4]) (A:=AZ) hT bW Tryz.func74 (by kernel_rfl) rfl rfl rfl (by kernel_rfl) (by kernel_rfl) h
def DM (a0:Option (Nat×Nat)) (a1:List AV) (s:AS) (R:AV->AS->Prop):Prop :=
 cH a1 (aj (.cells a1 0 false) s fun l1 s2=>aR (aD s2 l1 0 2) fun g3=>aa Tryz.prog qC [.ptr a0,.agg g3] s2 fun v4 k=>∃ A:Int,v4=.int .i64 A/\(bz fun B =>
 (∀ b8:Bool,∀ l:AS,B [.bool b8] l ->
 af b8
 (ah a0 fun mL C=>dS (av l mL (C+17)) fun D=>iD (aI T aG aG (.slc none 0 0 true) D l) fun m n=>aR (aD n l1 0 5) fun o=>bG (ag T aG m (.int .i64 A)) fun q_ F=>fh (some 5) o (bt (cK n q_ F o) fun eE=>ah a0 fun zF G=>fu T aG eE zF (G+17) m fun fL=>R (.bool true) fL))
 (ah a0 fun H I=>aR (aD l l1 0 2) fun J=>aa Tryz.prog pq [(.ptr (some (H,I))),.agg J] l fun K p=>∃ r:Bool,K=.bool r/\(af (!r)
 (R (.bool false) p)
 (bz fun i =>
 (∀ w:AV,∀ x:Int,∀ mu:AS,i [w,.int .i64 x] mu ->
 aR (aD mu l1 0 5) fun L=>aR (cV T aG 1 [(0,.agg L)]) fun M=>aj (.cells M 0 false) mu fun O Q=>iD (aI T aG aG w (.slc (some (O,0)) 1 1 true) Q) fun S mK=>ah a0 fun U W=>dS (av mK U (W+17)) fun xN=>dS (aZ T aG xN (some (.int .i64 x)) none none) fun X=>iD (aI T aG aG S X mK) fun Y Z=>ah a0 fun ab ad=>fu T aG Z ab (ad+17) Y fun tw=>R (.bool true) tw) /\
 (bB fun j ae=>j ae [.slc none 0 0 true,.int .i64 0] p /\
 ∀ y:Nat,∀ d:AV,∀ c:Int,∀ b:AS,j y [d,.int .i64 c] b ->
 ah a0 fun al am=>dS (av b al (am+17)) fun an=>aV .i64 (aQ T aG an b) fun ao=>af (decide ((c:Int)<ao)) (ah a0 fun ap ar=>dS (av b ap (ar+17)) fun aw=>bG (ag T aG aw (.int .i64 c)) fun a2 a3=>aR (aD b a2 a3 2) fun a4=>aR (aD b l1 0 2) fun a5=>aa Tryz.prog pX [.agg a4,.agg a5] b fun a6 e=>∃ z:Bool,a6=.bool z/\(af z
 (ah a0 fun a7 a8=>dS (av e a7 (a8+17)) fun a9=>bG (ag T aG a9 (.int .i64 c)) fun a' ba=>aR (aD e a' ba 5) fun bb=>aR (cV T aG 1 [(0,.agg bb)]) fun bc=>aj (.cells bc 0 false) e fun bd Ut=>iD (aI T aG aG d (.slc (some (bd,0)) 1 1 true) Ut) fun be bh=>∃ m',m'<y/\j m' [be,(.int .i64 (IntKind.wrap .i64 (c+1)))] bh)
 (i [d,.int .i64 c] e))) (i [d,.int .i64 c] b)))))) /\
 (af (decide ((A:Int)>=0)) (ah a0 fun bi bj=>dS (av k bi (bj+17)) fun bk=>bG (ag T aG bk (.int .i64 A)) fun bl bm=>On (av k bl (bm+4)) fun bo=>af (!bo) (On (av k l1 4) fun bs=>B [.bool bs] k) (B [.bool false] k)) (B [.bool false] k))))
def DN:QA:=(.seq .leaf (.seq .leaf (.seq (.join [(29,.bool)] [(13,29)] .leaf (.cond (.seq .leaf (.seq .leaf (.seq .leaf (.seq .leaf .leaf)))) .leaf)) (.seq (.seq (.draw 5) (.cond (.seq .leaf .leaf) .leaf)) (.seq .leaf (.seq .leaf (.join [(7,.any),(8,.int .i64)] [(7,8),(50,81)] (.wrap (.loop [(7,.any),(8,.int .i64)] [(7,8),(50,81)] (.seq (.seq (.draw 18) (.cond .leaf .leaf)) (.seq (.wrap .leaf) .leaf)))) (.seq .leaf (.seq .leaf (.seq .leaf .leaf))))))))))
theorem DO (a0:Option (Nat×Nat)) (a1:List AV) (s:AS) (R:AV->AS->Prop) (h:DM a0 a1 s R):aa Tryz.prog kL [.ptr a0,.agg a1] s R :=
 aa.q (n:=97) (rs:=[.tmp 4]) (A:=DN) hT bW Tryz.func153 (by kernel_rfl) rfl rfl rfl (by kernel_rfl) (by kernel_rfl) h
def DP (a0:Option (Nat×Nat)) (a1:List AV) (a2:List AV) (s:AS) (R:AV->AS->Prop):Prop :=
 cH a1 (aj (.cells a1 0 false) s fun l1 s2=>cH a2 (aj (.cells a2 0 false) s2 fun l3 s4=>gy fun S V=>aR (aD s4 l3 0 2) fun D=>aR (aD s4 l1 0 2) fun F=>oS (aS T qG [(0,.agg D),(1,.agg F)]) fun l=>(∀ s8:AS,Ext s4 s8->aM s8->(True)->aR (cV T aG 1 [(0,.agg l)]) fun G=>aj (.cells G 0 false) s8 fun mL m=>(Ext s8 m/\S 3 [.agg l] (.slc (some (mL,0)) 1 1 true) m/\V 3 [.agg l] (.slc (some (mL,0)) 1 1 true)))/\(∃ v,V 3 [.agg l] v)/\∀ i:AV,V 3 [.agg l] i->aR (aD s4 l1 0 2) fun b=>(∀ d:AS,Ext s4 d->aM d->(True)->aa Tryz.prog dQ [.ptr a0,.agg b] d fun n o=>(Ext d o/\S 6 [(.func dQ []),.ptr a0,.agg b] n o/\V 6 [(.func dQ []),.ptr a0,.agg b] n))/\(∃ v,V 6 [(.func dQ []),.ptr a0,.agg b] v)/\∀ j:AV,V 6 [(.func dQ []),.ptr a0,.agg b] j->∀ eE:AS,Ext s4 eE->aM eE->(S 3 [.agg l] i eE/\(S 6 [(.func dQ []),.ptr a0,.agg b] j eE/\True))->iD (aI T aG aG i j eE) fun v20 fL=>bB fun k r=>k r [.int .i64 0] fL /\
 ∀ p:Nat,∀ e:Int,∀ c:AS,k p [.int .i64 e] c ->
 aV .i64 (aQ T aG v20 c) fun w=>af (decide ((e:Int)<w))
 (bG (ag T aG v20 (.int .i64 e)) fun x y=>aR (aD c x y 5) fun z=>aa Tryz.prog kL [.ptr a0,.agg z] c fun A B=>∃ C:Bool,A=.bool C/\(∃ m',m'<p/\k m' [(.int .i64 (IntKind.wrap .i64 (e+1)))] B))
 (R v20 c)))
def DQ:QA:=(.seq .leaf (.seq (.gR 7 [[],[],[],[],[],[],[]] [3,6]) (.seq (.seq .leaf (.wrap (.loop [(8,.int .i64)] [(8,8),(17,28)] (.seq (.seq .leaf (.cond .leaf .leaf)) (.seq (.wrap .leaf) .leaf))))) (.seq .leaf .leaf))))
theorem DR (a0:Option (Nat×Nat)) (a1:List AV) (a2:List AV) (s:AS) (R:AV->AS->Prop) (h:DP a0 a1 a2 s R):aa Tryz.prog o_ [.ptr a0,.agg a1,.agg a2] s R :=
 aa.q (n:=30) (rs:=[.tmp 6]) (A:=DQ) hT bW Tryz.func69 (by kernel_rfl) rfl rfl rfl (by kernel_rfl) (by kernel_rfl) h
def FH (a0:Option (Nat×Nat)) (a1:List AV) (s:AS) (R:AV->AS->Prop):Prop :=
 cH a1 (aj (.cells a1 0 false) s fun l1 s2=>bB fun c p=>c p [.int .i64 0] s2 /\
 ∀ o:Nat,∀ b:Int,∀ s7:AS,c o [.int .i64 b] s7 ->
 ah a0 fun r w=>dS (av s7 r (w+17)) fun v10=>aV .i64 (aQ T aG v10 s7) fun d=>af (decide ((b:Int)<d))
 (ah a0 fun qZ e=>dS (av s7 qZ (e+17)) fun i=>bG (ag T aG i (.int .i64 b)) fun j k=>aR (aD s7 j k 2) fun l=>aR (aD s7 l1 0 2) fun m=>sJ (iB T 100 iH (.agg l) (.agg m)) fun n=>af n
 (R (.int .i64 b) s7)
 (∃ m',m'<o/\c m' [(.int .i64 (IntKind.wrap .i64 (b+1)))] s7))
 (R (.int .i64 (-1)) s7))
def FJ:QA:=(.seq .leaf (.seq (.seq .leaf (.wrap (.loop [(5,.int .i64)] [(4,25)] (.seq (.seq .leaf (.cond .leaf .leaf)) (.seq (.wrap (.seq (.draw 9) (.cond (.seq .leaf .leaf) .leaf))) .leaf))))) (.seq .leaf .leaf)))
theorem FK (a0:Option (Nat×Nat)) (a1:List AV) (s:AS) (R:AV->AS->Prop) (h:FH a0 a1 s R):aa Tryz.prog qC [.ptr a0,.agg a1] s R :=
 aa.q (n:=26) (rs:=[.tmp 4]) (A:=FJ) hT bW Tryz.func96 (by kernel_rfl) rfl rfl rfl (by kernel_rfl) (by kernel_rfl) h
def Cf (a0:Option (Nat×Nat)) (a1:List AV) (s:AS) (R:AV->AS->Prop):Prop :=
 cH a1 (aj (.cells a1 0 false) s fun l1 s2=>bB fun e Q=>e Q [.slc none 0 0 true,.int .i64 0] s2 /\
 ∀ j:Nat,∀ i:AV,∀ b:Int,∀ s8:AS,e j [i,.int .i64 b] s8 ->
 ah a0 fun S k=>dS (av s8 S (k+17)) fun v11=>aV .i64 (aQ T aG v11 s8) fun l=>af (decide ((b:Int)<l))
 (bz fun c =>
 (∀ d:Bool,∀ gu:AS,c [.bool d] gu ->
 af d
 (ah a0 fun q_ m=>dS (av gu q_ (m+17)) fun n=>bG (ag T aG n (.int .i64 b)) fun zF o=>aR (aD gu zF o 2) fun p=>oS (aS T qG [(0,.agg p),(2,.bool true)]) fun r=>aR (cV T aG 1 [(0,.agg r)]) fun w=>aj (.cells w 0 false) gu fun x dW=>iD (aI T aG aG i (.slc (some (x,0)) 1 1 true) dW) fun y z=>∃ m',m'<j/\e m' [y,(.int .i64 (IntKind.wrap .i64 (b+1)))] z)
 (∃ m',m'<j/\e m' [i,(.int .i64 (IntKind.wrap .i64 (b+1)))] gu)) /\
 (ah a0 fun A B=>dS (av s8 A (B+17)) fun v30=>bG (ag T aG v30 (.int .i64 b)) fun C D=>On (av s8 C (D+4)) fun F=>af (!F) (ah a0 fun G H=>dS (av s8 G (H+17)) fun I=>bG (ag T aG I (.int .i64 b)) fun J K=>aR (aD s8 J (K+2) 2) fun L=>aR (aD s8 l1 0 2) fun M=>sJ (iB T 100 oH (.agg L) (.agg M)) fun O=>c [.bool O] s8) (c [.bool false] s8)))
 (R i s8))
def Cg:QA:=(.seq .leaf (.seq .leaf (.seq (.seq .leaf (.wrap (.loop [(5,.any),(6,.int .i64)] [(5,48)] (.seq (.seq .leaf (.cond .leaf .leaf)) (.seq (.wrap (.join [(36,.bool)] [(16,36)] (.draw 19) (.cond .leaf .leaf))) .leaf))))) (.seq .leaf .leaf))))
theorem Ch (a0:Option (Nat×Nat)) (a1:List AV) (s:AS) (R:AV->AS->Prop) (h:Cf a0 a1 s R):aa Tryz.prog dQ [.ptr a0,.agg a1] s R :=
 aa.q (n:=50) (rs:=[.tmp 4]) (A:=Cg) hT bW Tryz.func152 (by kernel_rfl) rfl rfl rfl (by kernel_rfl) (by kernel_rfl) h
end Go.Proofs.YtohgmogbabkkeaaGreat
end

section
namespace Go.Proofs.YtohgmogbabkkeaaGreat
open Go.Am Go.au Go.aC
theorem TO {s:AS} {l o n:Nat} {cs:List AV} (h:aD s l o n=some cs) (k m:Nat) (hm:k+m<=n):aD s l (o+k) m=some ((cs.drop k).take m):=by
 unfold Am.aD at *;split at h
 ·rename_i C g ro b;split at h
  ·rename_i c;rw [if_pos (by omega)];simp only [Option.some.injEq] at h;rw [<- h,List.drop_take,List.take_take,List.drop_drop];congr 2;omega
  ·cases h
 ·cases h
section
variable {F:List Nat} {s:AS} {p:Nat} {x:aH}
end
section
variable {s0 s s':AS} {pa pb:Nat} {xa xb:aH} {Ba Bb:Nat} {sl:List (AV×List eC)}
end
end Go.Proofs.YtohgmogbabkkeaaGreat
end

section
namespace Go.Proofs.YtohgmogbabkkeaaGreat
open Go.Am Go.au Go.aC
def aH.item (x:aH) (i:eC):Prop:=match i.gone with
 | true=>x.qU i.dot=true/\i.key=⟨[],[]⟩
 | false=>x.live i.dot=some i.key
structure Items (x:aH) (I:List eC):Prop where
 Qx:dZ (I.map eC.dot)
 mem:∀ i,i∈I↔x.item i
theorem WL.pw {I:List eC} (h:dZ (I.map eC.dot)):I.Pairwise fun a b=>a.dot.lt b.dot=true:=List.pairwise_map.1 h
theorem Items.one {x:aH} {I:List eC} (h:Items x I) {i j:eC} (hi:i∈I) (hj:j∈I) (e:i.dot=j.dot):i=j:=by
 have key:∀ (l:List eC),l.Pairwise (fun a b=>a.dot.lt b.dot=true)->i∈l->j∈l->i=j:=by
  intro l
  induction l with
  | nil=>intro _ h;cases h
  | cons a l k =>
   intro m n h2;obtain ⟨p1,o⟩:=List.pairwise_cons.1 m;rcases List.mem_cons.1 n with e1 | c <;> rcases List.mem_cons.1 h2 with e2 | d
   ·rw [e1,e2]
   ·have:=p1 j d;rw [<- e1,e] at this;exact absurd this (fun h=>aJ.lt_irrefl _ h)
   ·have:=p1 i c;rw [<- e2,e] at this;exact absurd this (fun h=>aJ.lt_irrefl _ h)
   ·exact k o c d
 exact key I (WL.pw h.Qx) hi hj
theorem Items.zero:Items aH.zero []:=⟨List.Pairwise.nil,fun i=>by unfold aH.item;cases i.gone <;> simp [aH.zero]⟩
theorem RX {x:aH} {B:Nat} (o:mV x B) {i:eC} (h:x.item i):x.has i.dot=true:=by
 unfold aH.item at h;cases b:i.gone with
 | true=>rw [b] at h;exact (o.tb _ h.1).1
 | false=>rw [b] at h;exact (o.lv _ _ h).1
theorem NI {x:aH} {i:eC} (h:x.item i):x.keeps i.dot:=by
 unfold aH.item at h;cases b:i.gone with
 | true=>rw [b] at h;exact .inr (.inr h.1)
 | false=>rw [b] at h;exact .inr (.inl (by rw [h];rfl))
theorem Items.len {x:aH} {B:Nat} (o:mV x B) {I:List eC} (h:Items x I):I.length<=B:=by
 obtain ⟨U,b,hm⟩:=o.sz;have:=lz (jN h.Qx) fun d hd=>hm d ?_
 ·simp only [List.length_map] at this;omega
 ·obtain ⟨i,hi,rfl⟩:=List.mem_map.1 hd;exact NI ((h.mem i).1 hi)
structure pK (F:List Nat) (s:AS) (q:Nat) (x:aH):Prop where
 ok:Lj x.v x.ex
 Fx:RP x.v x.ex
 mem:∃ w iw I,Am.Own s q (x.v.map (.int .u64)++[w,iw])/\(w.one=true/\w≠.emp/\br aN 2 s w x.ex)/\(iw.one=true/\iw≠.emp/\br bu 5 s iw I)/\Items x I/\q∈F/\(∀ y∈ay w,y∈F)/\∀ y∈ay iw,y∈F
section
variable {F F':List Nat} {s s':AS} {q:Nat} {x:aH}
theorem pK.mut {L:List Nat} (h:pK F s q x) (m:bD L s s') (b:Dj L F):pK F s' q x:=by
 obtain ⟨i,h2,w,iw,I,a,⟨j,k,l⟩,⟨n,c2,o⟩,d,e,f,g⟩:=h;exact ⟨i,h2,w,iw,I,a.mut m (fun p=>b q p e),⟨j,k,l.mut m fun y c hm=>b y hm (f y c)⟩,⟨n,c2,o.mut m fun y c hm=>b y hm (g y c)⟩,d,e,f,g⟩
theorem pK.ext (h:pK F s q x) (e:Ext s s'):pK F s' q x:=h.mut (L:=[]) e.mut (fun y b=>by cases b)
theorem pK.qF (h:pK F s q x):q∈F:=by obtain ⟨_,_,w,iw,I,_,_,_,_,e,_⟩:=h;exact e
theorem rV {α:Type} {f:α->List AV} {sz:Nat} {v:AV} {l:List α} (h:br f sz s v l):∀ n,v≠.int .i64 n:=by
 rcases h with ⟨_,a,rfl⟩ | ⟨la,rfl,_⟩ <;> simp
theorem D9 {v:List Int} (h:v.length=16) (w iw:AV):(v.map (AV.int .u64)++[w,iw])[17]? = some iw:=by
 rw [List.getElem?_append_right (by simp [h])];simp [h]
theorem V6 {v:List Int} {w iw:AV} {I:List eC} (B:At s q (v.map (.int .u64)++[w,iw])) (hv:v.length=16) (A:Sl bu 5 s iw I) (L:I.length<=2 ^ 30) (d:aJ) :
  aa Tryz.prog qC [.ptr (some (q,0)),.agg (aN d)] s fun r s'=>Ext s s'/\∃ n:Int,r=.int .i64 n/\((n = -1/\∀ i∈I,i.dot≠d)\/∃ k:Nat,n=k/\∃ i,I[k]? = some i/\i.dot=d):=by
 refine aa.pre fun C=>FK _ _ _ _ ⟨rfl,aj.intro C rfl fun l1 s2 c=>⟨fun m vs s'=>∃ i:Nat,vs=[.int .i64 (i:Nat)]/\i<=I.length/\m=I.length - i/\s'=s2/\∀ j y,j<i->I[j]? = some y->y.dot≠d,I.length,⟨0,rfl,by omega,rfl,rfl,by omega⟩,?_⟩⟩;rintro m n s7 ⟨i,hi,M,rfl,rfl,b⟩;simp only [List.cons.injEq,AV.int.injEq,true_and,and_true] at hi;subst hi;have o:av s7 q (0+17)=some iw:=by rw [(B.ext c.ext).av];exact D9 hv w iw
 refine ⟨iw,o,_,A.cI cW _,af.dec (fun D=>?_) (fun F=>⟨c.ext,-1,rfl,.inl ⟨rfl,fun y p=>?_⟩⟩)⟩
 ·obtain ⟨y,p⟩:=de (l:=I) (i:=i) (by omega);obtain ⟨G,H,J,K⟩:=A.ix (by decide) bg cW pA p;refine ⟨iw,o,G,H,J _,_,rU ((K _ c.ext).2) (by decide),_,c.own.at.aD (by simp [aN]),_,IV y.dot d,af.dec (fun e=>⟨c.ext,_,rfl,.inr ⟨i,rfl,y,p,e⟩⟩) (fun e=>⟨I.length - (i+1),by omega,i+1,by rw [aW (by omega)];rfl,by omega,rfl,rfl,fun j z hj x=>?_⟩)⟩;rcases Nat.lt_or_ge j i with h | h
  ·exact b j z h x
  ·obtain rfl:j=i:=by omega
   rw [p] at x;obtain rfl:=Option.some.inj x;exact e
 ·obtain ⟨j,hj⟩:=List.mem_iff_getElem?.1 p;have:j<I.length:=by
   rcases Nat.lt_or_ge j I.length with h | h
   ·exact h
   ·rw [List.getElem?_eq_none h] at hj;cases hj
  exact b j y (by omega) hj
/-! ### the plain side of seeing -/
theorem Items.set {x:aH} {B:Nat} (o:mV x B) {I:List eC} (h:Items x I) {k:Nat} {j i:eC} (w:I[k]? = some j) (hj:j.gone=false) (hd:j.dot=i.dot) (A:i.gone=true) (c:i.key=⟨[],[]⟩):Items (x.lM i).2 (I.set k i)/\(x.lM i).1=true/\(x.lM i).2.v=x.v/\(x.lM i).2.ex=x.ex:=by
 have C:j∈I:=List.mem_of_getElem? w;have d:x.live i.dot=some j.key:=by
  have:=(h.mem j).1 C;unfold aH.item at this;rw [hj,hd] at this;exact this
 have F:((x.live i.dot).isSome&&i.gone)=true:=by rw [d,A];rfl
 have m:k<I.length:=by
  rcases Nat.lt_or_ge k I.length with h | h
  ·exact h
  ·rw [List.getElem?_eq_none h] at w;cases w
 have z:(I.set k i).map eC.dot=I.map eC.dot:=by
  apply List.ext_getElem?;intro n;simp only [List.getElem?_map,List.getElem?_set];split
  ·rename_i e;subst e
   first | (rw [if_pos m,w];simp [hd]) | (rw [w];simp [hd])
  ·rfl
 refine ⟨⟨by rw [z];exact h.Qx,fun y=>?_⟩,?_,?_,?_⟩
 ·have D:y∈I.set k i↔y=i\/(y∈I/\y.dot≠i.dot):=by
   rw [List.mem_iff_getElem?];constructor
   ·rintro ⟨n,b⟩;rw [List.getElem?_set] at b;split at b
    ·rename_i e
     first | (rw [if_pos m] at b;exact .inl (Option.some.inj b).symm) | exact .inl (Option.some.inj b).symm
    ·rename_i e;have p:=List.mem_of_getElem? b;refine .inr ⟨p,fun G=>?_⟩;have:=h.one p C (G.trans hd.symm);subst this;have H:=jN h.Qx;have K:n<I.length:=by
      rcases Nat.lt_or_ge n I.length with h | h
      ·exact h
      ·rw [List.getElem?_eq_none h] at b;cases b
     have e1:(I.map eC.dot)[k]? = (I.map eC.dot)[n]? := by rw [List.getElem?_map,List.getElem?_map,w,b]
     exact e ((List.getElem?_inj (by simpa using m) H).1 e1)
   ·rintro (rfl | ⟨p,J⟩)
    ·exact ⟨k,by rw [List.getElem?_set,if_pos rfl,if_pos m]⟩
    ·obtain ⟨n,b⟩:=List.mem_iff_getElem?.1 p;refine ⟨n,?_⟩;rw [List.getElem?_set,if_neg,b];rintro rfl;rw [w] at b;obtain rfl:=Option.some.inj b;exact J hd
  rw [D,h.mem];unfold aH.item;rw [qV o,AT o];cases r:y.gone with
  | true =>
   simp only;constructor
   ·rintro (rfl | ⟨l,h2⟩)
    ·exact ⟨by simp [A,d],c⟩
    ·exact ⟨by simp [l.1],l.2⟩
   ·rintro ⟨l,h2⟩;by_cases e:y.dot=i.dot
    ·left;cases y;cases i;simp only at e r h2 c A;rw [e,r,h2,c,A]
    ·refine .inr ⟨⟨?_,h2⟩,e⟩;simpa [e] using l
  | false =>
   simp only;constructor
   ·rintro (rfl | ⟨l,h2⟩)
    ·rw [A] at r;cases r
    ·rw [if_neg h2];exact l
   ·intro l;by_cases e:y.dot=i.dot
    ·rw [if_pos e,if_pos A] at l;cases l
    ·rw [if_neg e] at l;exact .inr ⟨l,e⟩
 ·rw [TM o,F];rfl
 ·unfold aH.lM;rw [if_pos F]
 ·unfold aH.lM;rw [if_pos F]
theorem RY {I:List eC} {k:Nat} {i y:eC}:y∈I.take k++i::I.drop k↔y=i\/y∈I:=by
 rw [List.mem_append,List.mem_cons]
 conv=>rhs;rhs;rw [<- List.take_append_drop k I]
 rw [List.mem_append];constructor
 ·rintro (h | rfl | h)
  ·exact .inr (.inl h)
  ·exact .inl rfl
  ·exact .inr (.inr h)
 ·rintro (rfl | h | h)
  ·exact .inr (.inl rfl)
  ·exact .inl h
  ·exact .inr (.inr h)
theorem Items.ins {x:aH} {B:Nat} (o:mV x B) {I:List eC} (h:Items x I) {i:eC} (hi:i.may=true) (j:x.has i.dot=false):Items (x.lM i).2 (I.take (pos (I.map eC.dot) i.dot)++i::I.drop (pos (I.map eC.dot) i.dot)):=by
 have p:∀ y∈I,y.dot≠i.dot:=fun y r e=>by
  have:=RX o ((h.mem y).1 r);rw [e,j] at this;cases this
 have m:x.live i.dot=none:=by
  cases w:x.live i.dot with
  | none=>rfl
  | some k=>rw [(o.lv _ _ w).1] at j;cases j
 have z:x.qU i.dot=false:=by
  cases w:x.qU i.dot with
  | false=>rfl
  | true=>rw [(o.tb _ w).1] at j;cases j
 refine ⟨?_,fun y=>?_⟩
 ·have:=h.Qx.ins (d:=i.dot) (by simpa using fun y r=>p y r);rw [show (I.take (pos (I.map eC.dot) i.dot)++i::I.drop (pos (I.map eC.dot) i.dot)).map eC.dot=Go.au.ins (I.map eC.dot) i.dot by simp [Go.au.ins,List.map_take,List.map_drop]];exact this
 ·rw [RY,h.mem];unfold aH.item;rw [qV o,AT o];cases c:y.gone with
  | true =>
   simp only;constructor
   ·rintro (rfl | b)
    ·refine ⟨by simp [c,j],?_⟩;simp only [eC.may,Bool.and_eq_true,c,if_true,decide_eq_true_eq] at hi;exact hi.2
    ·exact ⟨by simp [b.1],b.2⟩
   ·rintro ⟨b,h2⟩;by_cases e:y.dot=i.dot
    ·left;rw [e,z] at b;simp [m,j] at b;have n:i.key=⟨[],[]⟩:=by
      simp only [eC.may,Bool.and_eq_true,b,if_true,decide_eq_true_eq] at hi;exact hi.2
     cases y;cases i;simp only at e c h2 n b;rw [e,c,h2,n,b]
    ·refine .inr ⟨?_,h2⟩;simpa [e] using b
  | false =>
   simp only;constructor
   ·rintro (rfl | b)
    ·rw [if_pos rfl,c,j];simp
    ·by_cases e:y.dot=i.dot
     ·rw [e,m] at b;cases b
     ·rw [if_neg e];exact b
   ·intro b;by_cases e:y.dot=i.dot
    ·rw [if_pos e] at b;left;cases l:i.gone with
     | true=>rw [l] at b;simp at b
     | false =>
      rw [l,e,j] at b;simp at b;cases y;cases i;simp only at e c b l;rw [e,c,l,b]
    ·rw [if_neg e] at b;exact .inr b
end
end Go.Proofs.YtohgmogbabkkeaaGreat
end

section
namespace Go.Proofs.YtohgmogbabkkeaaGreat
open Go.Am Go.au Go.aC
theorem mV.V7 {x:aH} {B:Nat} (o:mV x B):x.ex.length<=B:=by
 obtain ⟨U,b,hm⟩:=o.sz;have:=lz (jN o.ok.r) fun d hd=>hm d ?_
 ·omega
 ·exact .inl hd
theorem PV {α:Type} {f:α->List AV} {sz:Nat} (b:∀ x,(f x).length=sz):∀ (l:List α) (k:Nat) (x:α),k<l.length->qk (l.flatMap f) (k*sz) (f x)=(l.set k x).flatMap f:=by
 intro l k x d;have c:l.flatMap f=(l.take k).flatMap f++(f (l[k])++(l.drop (k+1)).flatMap f):=by
  conv=>lhs;rw [<- List.take_append_drop k l,List.flatMap_append,List.drop_eq_getElem_cons d,List.flatMap_cons]
 have e:((l.take k).flatMap f).length=k*sz:=by rw [d_ b,List.length_take,Nat.min_eq_left (by omega)]
 have:=Ih ((l.take k).flatMap f) (f l[k]) (f x) ((l.drop (k+1)).flatMap f) (by rw [b,b]);rw [e] at this;rw [c,<- List.append_assoc,this,List.set_eq_take_append_cons_drop,if_pos d,List.flatMap_append,List.flatMap_cons,List.append_assoc]
theorem TP {x:aH} {i:eC} (b:¬ ((x.live i.dot).isSome=true/\i.gone=true)) (h2:x.has i.dot=true):x.lM i=(false,x):=by
 unfold aH.lM;rw [if_neg (by simpa using b),if_pos (show fo x.v x.ex i.dot=true from h2)]
theorem PW {x:aH} {i:eC} (c:¬ ((x.live i.dot).isSome=true/\i.gone=true)) (h2:x.has i.dot=false):(x.lM i).1=true/\(x.lM i).2.v=(compact x.v (ins x.ex i.dot)).1/\(x.lM i).2.ex=(compact x.v (ins x.ex i.dot)).2:=by
 have b:¬ fo x.v x.ex i.dot=true:=by rw [show fo x.v x.ex i.dot=x.has i.dot from rfl,h2];simp
 unfold aH.lM;rw [if_neg (by simpa using c),if_neg b];split <;> exact ⟨rfl,rfl,rfl⟩
section
variable {F:List Nat} {s:AS} {q:Nat} {x:aH} {B:Nat}
theorem _root_.Go.Am.br.there {α:Type} {f:α->List AV} {sz:Nat} {v:AV} {l:List α} (h:br f sz s v l):∀ y∈ay v,s.h y≠none:=by
 intro y c;rcases h with ⟨_,b,rfl⟩ | ⟨la,rfl,d⟩
 ·simp [ay] at c
 ·obtain rfl:y=la:=by simpa [ay] using c
  rw [d];simp
theorem _root_.Go.Am.br.ne {α:Type} {f:α->List AV} {sz:Nat} (e:sz≠0) {v:AV} {l:List α} {cs:List AV} (h:br f sz s v l) (i:Am.Own s q cs):∀ y∈ay v,y ∉ [q]:=by
 intro y d hm;obtain rfl:=List.mem_singleton.1 hm;rcases h with ⟨_,b,rfl⟩ | ⟨la,rfl,c⟩
 ·simp [ay] at d
 ·obtain rfl:y=la:=by simpa [ay] using d
  rw [i] at c;simp only [Option.some.injEq,AO.cells.injEq] at c;exact e c.2.1.symm
theorem NJ (h:pK F s q x) (o:mV x B) (hB:B<=1000) (b4:∀ y∈F,s.h y≠none) (i:eC) (hi:i.may=true) :
  aa Tryz.prog kL [.ptr (some (q,0)),.agg (bu i)] s fun r s'=>r=.bool (x.lM i).1/\bD [q] s s'/\∃ F',pK F' s' q (x.lM i).2/\(∀ y∈F',y∈F\/s.h y=none)/\∀ y∈F',s'.h y≠none:=by
 have b6:i.dot.may=true:=by simp only [eC.may,Bool.and_eq_true] at hi;exact hi.1
 refine aa.pre fun hw=>DO _ _ _ _ ⟨rfl,aj.intro hw rfl fun l1 s2 F2=>?_⟩;obtain ⟨ok,Fx,w,iw,I,a,⟨b1,b2,b3⟩,⟨c1,c2,c3⟩,hI,a6,f,g⟩:=h.ext F2.ext;have hlen:=hI.len o;have cu:=o.V7;have C:=ok.v.len;refine ⟨_,F2.own.at.aD (by simp [bu]),?_⟩;refine aa.use (V6 a.at C (c3.sl bg) (by omega) i.dot) ?_;rintro r s5 ⟨e5,n,rfl,O⟩ w5;have a5:=a.ext e5;have c5:=c3.ext e5;have b5:=b3.ext e5;have o5:Am.Own s5 l1 (bu i):=F2.own.ext e5;have Y:=F2.ext.trans e5;have a7:av s5 q (0+17)=some iw:=by rw [a5.at.av];exact D9 C w iw
 have p:∀ y∈F,s5.h y≠none:=fun y b Z=>b4 y b (Y.none Z);refine ⟨_,rfl,fun vs s'=>s'=s5/\∃ t,vs=[.bool t]/\(t=true->∃ (k:Nat) (j:eC),n=k/\I[k]? = some j/\j.dot=i.dot/\j.gone=false/\i.gone=true)/\(t=false->¬ ((x.live i.dot).isSome=true/\i.gone=true)),?_,?_⟩;rotate_left
 ·refine af.dec (fun Z=>?_) (fun Z=>⟨rfl,_,rfl,(fun h=>by cases h),fun _=>?_⟩)
  ·rcases O with ⟨rfl,_⟩ | ⟨k,rfl,j,hj,ab⟩
   ·omega
   ·obtain ⟨lj,oj,g8,g9⟩:=c5.sl bg |>.ix (by decide) bg cW pA hj;refine ⟨iw,a7,lj,oj,g8 _,j.gone,(g9 _ (Ext.refl _)).1 4 (by decide),af.mk (fun hg=>⟨i.gone,by rw [o5.at.av];rfl,rfl,_,rfl,fun ht=>⟨k,j,rfl,hj,ab,by simpa using hg,ht⟩,fun ht h=>by rw [ht] at h;cases h.2⟩) (fun hg=>⟨rfl,_,rfl,(fun h=>by cases h),fun _ h=>?_⟩)⟩;have:=(hI.mem j).1 (List.mem_of_getElem? hj);unfold aH.item at this;have b7:j.gone=true:=by simpa using hg
    rw [b7,ab] at this;rw [(o.tb _ this.1).2] at h;cases h.1
  ·rcases O with ⟨rfl,ar⟩ | ⟨k,rfl,_⟩
   ·rintro ⟨h1,h2⟩;obtain ⟨k,hk⟩:=Option.isSome_iff_exists.1 h1;exact ar ⟨i.dot,k,false⟩ ((hI.mem _).2 hk) rfl
   ·omega
 rintro t s9 ⟨rfl,t',ht,a8,ar⟩;simp only [List.cons.injEq,AV.bool.injEq,and_true] at ht;subst ht;refine af.mk (fun ht=>?_) (fun ht=>?_)
 ·
  obtain ⟨k,j,rfl,hj,ab,b8,a9⟩:=a8 ht;have a':i.key=⟨[],[]⟩:=by
   simp only [eC.may,Bool.and_eq_true,a9,if_true,decide_eq_true_eq] at hi;exact hi.2
  obtain ⟨b9,aw,Q,R⟩:=hI.set o hj b8 ab a9 a';have a0:k<I.length:=by
   rcases Nat.lt_or_ge k I.length with h | h
   ·exact h
   ·rw [List.getElem?_eq_none h] at hj;cases hj
  refine ⟨iw,a7,aU.kK fT bg jM w5 (aU.nil (M:=[])) (by simp) (c5.sl bg) (by simp;omega) cW fun ad cv D b' _=>?_⟩;rw [List.nil_append] at D;have K:=D.eL.ext;rcases D.vq with ⟨h0,_⟩ | ⟨la,S,ho⟩
  ·rw [h0] at a0;simp at a0
  have U:ay ad=[la]:=by rw [S];rfl
  have L:s9.h la=none:=D.new la (by simp [U]);have ae:la≠q:=by rintro rfl;rw [a5] at L;cases L
  have ca:ag T aG ad (.int .i64 (k:Nat))=some (.ptr (some (la,0+k*5))):=by
   rw [S];have:(0:Int)<=(k:Int)/\(k:Int)<(I.length:Int):=by omega
   simp only [ag,cW,pA,Option.bind_some];rw [if_pos this];simp
  refine ⟨bu i,(o5.ext K).at.aD (by simp [bu]),_,_,ca,⟨rfl,rfl⟩,?_⟩;rw [Nat.zero_add];have cb:=d_ bg I;have cw:k*5+5<=I.length*5:=by omega
  refine bt.cK b' ho (by rw [cb];simp [bu];omega) fun eE G=>?_;have ao:eE.h la=some (.cells ((I.set k i).flatMap bu) 5 false):=by
   have e3:qk (I.flatMap bu) (k*5) (bu i)=(I.set k i).flatMap bu:=PV bg I k i a0;exact G.at.trans (by rw [<- e3])
  have ba:Am.Own eE q (x.v.map (.int .u64)++[w,iw]):=(a5.ext K).mut G.mut (by simpa using ae.symm);have gI:br bu 5 eE ad (I.set k i):=.inr ⟨la,by rw [List.length_set];exact S,ao⟩;refine cM D.iX.2 KK (bt.own G.wf ba (by simp [C]) fun fL W=>?_);have M:bD [q] s fL:=by
   have cc:Ext s eE:=Ext.wr (Y.trans K) (Y.none L) G.mut;exact cc.mut.trans W.mut
  have bb:Am.Own fL q (x.v.map (.int .u64)++[w,ad]):=by
   have:=W.at;rw [fy,List.set_append_right _ _ (by simp [C])] at this;simp only [List.length_map,C,Nat.zero_add,Nat.reduceSub,List.set_cons_succ,List.set_cons_zero] at this;exact this
  have cd:br aN 2 fL w x.ex:=(((b5.ext K).mut G.mut fun y b hm=>by
   obtain rfl:=List.mem_singleton.1 hm;exact p _ (f _ b) L)).mut W.mut ((b5.ext K).mut G.mut (fun y b hm=>by
   obtain rfl:=List.mem_singleton.1 hm;exact p _ (f _ b) L) |>.ne (by decide) ba)
  have ce:=gI.mut W.mut (by simpa [U] using ae);rw [aw];refine ⟨rfl,M,la::F,⟨by rw [Q,R];exact ok,by rw [Q,R];exact Fx,w,_,I.set k i,by rw [Q];exact bb,⟨b1,b2,by rw [R];exact cd⟩,⟨D.iX.2,D.iX.1,ce⟩,b9,by simp [a6],fun y b=>by simp [f y b],fun y b=>by rw [U] at b;simp at b;simp [b]⟩,fun y b=>?_,fun y b=>?_⟩
  ·rcases List.mem_cons.1 b with rfl | b
   ·exact .inr (Y.none L)
   ·exact .inl b
  ·by_cases e1:y=q
   ·rw [e1,bb];simp
   ·rw [W.eq y e1];by_cases e2:y=la
    ·rw [e2,ao];simp
    ·rw [G.eq y e2];rcases List.mem_cons.1 b with rfl | b
     ·exact absurd rfl e2
     ·exact fun Z=>p y b (K.none Z)
 ·have bc:=ar ht;have hT:IZ s9 q [iw] x.v x.ex:=⟨C,fun y b n=>by obtain rfl:=List.mem_singleton.1 b;exact rV c5 n,w,a5,b1,b2,b5.sl bn⟩;refine ⟨_,o5.at.aD (by simp [bu]),?_⟩;refine aa.use (PR hT ok.v ok.r ok.m (by omega) b6) ?_;rintro r H ⟨rfl,al,hold,bd⟩ cf;cases hh:fo x.v x.ex i.dot with
  | true =>
   have a1:=hold hh;rw [TP bc hh];exact ⟨_,rfl,af.yes (by simp) ⟨rfl,(Y.trans a1).mut,F,h.ext (Y.trans a1),fun y b=>.inl b,fun y b Z=>p y b (a1.none Z)⟩⟩
  | false =>
   obtain ⟨aw,Q,R⟩:=PW bc hh;obtain ⟨J,cx,w',a2,d1,d2,d3,d4⟩:=bd hh;have be:br bu 5 H iw I:=c5.mut al (c5.ne (by decide) a5);have ae:l1 ∉ [q]:=by
    simp only [List.mem_singleton];rintro rfl;have:=a5.at.inj o5.at;have:=congrArg List.length this;simp [C,bu] at this
   have bh:Am.Own H l1 (bu i):=o5.mut al ae;have am:∀ s',Ext H s'->av s' q (0+17)=some iw:=fun s' e=>by rw [(a2.ext e).at.av];exact D9 J w' iw
   refine ⟨_,rfl,af.no (by simp) ⟨fun vs s'=>∃ left,vs=[left,.int .i64 (pos (I.map eC.dot) i.dot:Nat)]/\aM s'/\aU bu 5 [] H s' left (I.take (pos (I.map eC.dot) i.dot)),?_,fun m vs s'=>∃ (k:Nat) (left:AV),vs=[left,.int .i64 (k:Nat)]/\k<=I.length/\m=I.length - k/\aM s'/\aU bu 5 [] H s' left (I.take k)/\∀ (j:Nat) y,j<k->I[j]? = some y->y.dot.lt i.dot=true,I.length,⟨0,_,rfl,by omega,rfl,cf,by simpa using aU.nil,fun j y hj=>by omega⟩,?_⟩⟩
   ·rintro cy cz mu ⟨left,hl,ch,bi⟩;simp only [List.cons.injEq,AV.int.injEq,true_and,and_true] at hl;obtain ⟨rfl,rfl⟩:=hl;have ci:pos (I.map eC.dot) i.dot<=I.length:=by have:=Ib (I.map eC.dot) i.dot;simpa using this
    have ck:(I.take (pos (I.map eC.dot) i.dot)).length<=I.length:=by rw [List.length_take];omega
    refine ⟨_,(bh.ext bi.eL.ext).at.aD (by simp [bu]),aU.iY fT bg jM ch bi (by simp) i (by omega) fun cA mK a3 cl _=>?_⟩;obtain ⟨cm,k1,k2⟩:=((be.ext a3.eL.ext).sl bg).from bg cW pA c2 ci .i64
    refine ⟨iw,am _ a3.eL.ext,cm,k1,aU.kK fT bg jM cl a3 (by simp) k2 (by simp;omega) cW fun a4 cB c cn _=>?_⟩;have bj:I.take (pos (I.map eC.dot) i.dot)++[i]++I.drop (pos (I.map eC.dot) i.dot)=I.take (pos (I.map eC.dot) i.dot)++i::I.drop (pos (I.map eC.dot) i.dot):=by simp
    rw [bj] at c;have bk:=a2.ext c.eL.ext;refine cM c.iX.2 KK (bt.own cn bk (by simp [J]) fun tw P=>?_);have bl:Am.Own tw q ((compact x.v (ins x.ex i.dot)).1.map (.int .u64)++[w',a4]):=by
     have:=P.at;rw [fy,List.set_append_right _ _ (by simp [J])] at this;simp only [List.length_map,J,Nat.zero_add,Nat.reduceSub,List.set_cons_succ,List.set_cons_zero] at this;exact this
    have ap:H.h q≠none:=by rw [a2];simp
    have bm:=c.vq.mut P.mut fun y b hm=>by
     obtain rfl:=List.mem_singleton.1 hm;exact ap (c.new _ b)
    have d46:=(d3.ext c.eL.ext).mut P.mut ((d3.ext c.eL.ext).ne (by decide) bk);have M:bD [q] s tw:=Y.mut.trans (al.trans (c.eL.ext.mut.trans P.mut));have bo:=uV o hi;have X:∀ y,H.h y=none->s9.h y=none:=fun y b=>by
     cases hq:s9.h y with
     | none=>rfl
     | some ob =>
      by_cases e:y=q
      ·subst e;exact absurd b ap
      ·rw [al.1 y ob (by simpa using e) hq] at b;cases b
    rw [aw];refine ⟨rfl,M,ay w'++(ay a4++F),⟨bo.ok,bo.Fx,w',a4,_,by rw [Q];exact bl,⟨d1,d2,by rw [R];exact d46⟩,⟨c.iX.2,c.iX.1,bm⟩,hI.ins o hi hh,by simp [a6],fun y b=>by simp [b],fun y b=>by simp [b]⟩,fun y b=>?_,fun y b=>?_⟩
    ·rcases List.mem_append.1 b with b | b
     ·exact .inr (Y.none (d4 y b))
     ·rcases List.mem_append.1 b with b | b
      ·exact .inr (Y.none (X y (c.new y b)))
      ·exact .inl b
    ·rcases List.mem_append.1 b with b | b
     ·exact d46.there y b
     ·rcases List.mem_append.1 b with b | b
      ·exact bm.there y b
      ·by_cases e:y=q
       ·rw [e,bl];simp
       ·rw [P.eq y e];intro Z;exact p y b (X y (c.eL.ext.none Z))
   ·rintro m left n cC ⟨k,cp,hk,h6,rfl,cr,A,bs⟩;simp only [List.cons.injEq,AV.int.injEq,true_and,and_true] at hk;obtain ⟨rfl,rfl⟩:=hk;have bx:=be.ext A.eL.ext;have ck:(I.take k).length<=I.length:=by rw [List.length_take];omega
    have fin:(∀ y,I[k]? = some y->y.dot.lt i.dot=false)->pos (I.map eC.dot) i.dot=k:=fun hq=>by
     refine pos_eq (by simpa using h6) (fun j d hj hd=>?_) fun d hd=>?_
     ·rw [List.getElem?_map,Option.map_eq_some_iff] at hd;obtain ⟨y,b,rfl⟩:=hd;exact bs j y hj b
     ·rw [List.getElem?_map,Option.map_eq_some_iff] at hd;obtain ⟨y,b,rfl⟩:=hd;exact hq y b
    refine ⟨iw,am _ A.eL.ext,_,(bx.sl bg).cI cW _,af.dec (fun hl=>?_) (fun c0=>?_)⟩
    ·obtain ⟨y,b⟩:=de (l:=I) (i:=k) (by omega);obtain ⟨ly,oy,g8,g9⟩:=(bx.sl bg).ix (by decide) bg cW pA b;refine ⟨iw,am _ A.eL.ext,ly,oy,g8 _,_,rU ((g9 _ (Ext.refl _)).2) (by decide),_,(bh.ext A.eL.ext).at.aD (by simp [bu]),?_⟩;refine aa.use (yw y.dot i.dot _) ?_;rintro r c4 ⟨rfl,an⟩ b0;refine ⟨_,rfl,af.mk (fun hb=>?_) (fun hb=>?_)⟩
     ·have ht:I.take (k+1)=I.take k++[y]:=by rw [List.take_add_one,b];rfl
      refine ⟨iw,am _ (A.eL.ext.trans an),ly,oy,g8 _,_,(g9 _ an).2,aU.iY fT bg jM b0 (A.step an) (by simp) y (by omega) fun v' s' g' cs _=>?_⟩;refine ⟨I.length - (k+1),by omega,k+1,v',by rw [aW (by omega)];rfl,by omega,rfl,cs,by rw [ht];exact g',fun j z hj hz=>?_⟩;rcases Nat.lt_or_ge j k with h | h
      ·exact bs j z h hz
      ·obtain rfl:j=k:=by omega
       rw [b] at hz;obtain rfl:=Option.some.inj hz;exact hb
     ·have hp:=fin fun z hz=>by rw [b] at hz;obtain rfl:=Option.some.inj hz;exact hb
      exact ⟨left,by rw [hp],b0,by rw [hp];exact A.step an⟩
    ·have hp:=fin fun z hz=>by rw [List.getElem?_eq_none (by omega)] at hz;cases hz
     exact ⟨left,by rw [hp],cr,by rw [hp];exact A⟩
end
end Go.Proofs.YtohgmogbabkkeaaGreat
end

section
set_option maxRecDepth 100000
set_option maxHeartbeats 4000000
namespace Go.Proofs.YtohgmogbabkkeaaGreat
open Go.Am
end Go.Proofs.YtohgmogbabkkeaaGreat
end

section
namespace Go.Proofs.YtohgmogbabkkeaaGreat
open Go.Am Go.au Go.aC
def KD (x:aH) (k:Key) (l:List aJ):Prop:=dZ l/\∀ d,d∈l↔x.live d=some k
theorem KD.uniq {x:aH} {k:Key} {l l':List aJ} (h:KD x k l) (b:KD x k l'):l=l':=LD h.1 b.1 fun d=>by rw [h.2,b.2]
theorem qf.kd {x:aH} {k:Key} {l:List aJ} (h:qf x k l):KD x k l:=⟨h.Qx,h.mem⟩
theorem KD.has {x:aH} {B:Nat} (o:mV x B) {k:Key} {l:List aJ} (h:KD x k l) {d:aJ} (hd:d∈l):x.has d=true:=(o.lv d k ((h.2 d).1 hd)).1
theorem KD.len {x:aH} {B:Nat} (o:mV x B) {k:Key} {l:List aJ} (h:KD x k l):l.length<=B:=by
 obtain ⟨U,b,hm⟩:=o.sz;have:=lz (jN h.1) fun d hd=>hm d (.inr (.inl (by rw [(h.2 d).1 hd];rfl)));omega
def pL (k:Key) (i:eC):Bool:=!i.gone&&decide (i.key=k)
theorem HA {x:aH} {I:List eC} (h:Items x I) (k:Key):KD x k ((I.filter (pL k)).map eC.dot):=by
 refine ⟨h.Qx.sub (List.Sublist.map _ List.filter_sublist),fun d=>?_⟩;simp only [List.mem_map,List.mem_filter,pL,Bool.and_eq_true,Bool.not_eq_true',decide_eq_true_eq];constructor
 ·rintro ⟨i,⟨hi,b,c⟩,rfl⟩;have:=(h.mem i).1 hi;unfold aH.item at this;rw [b] at this;rw [this,c]
 ·intro hd;exact ⟨⟨d,k,false⟩,⟨(h.mem _).2 hd,rfl,rfl⟩,rfl⟩
section
variable {F:List Nat} {s:AS} {q:Nat} {x:aH} {B:Nat}
theorem pK.open (h:pK F s q x):∃ w iw I,At s q (x.v.map (.int .u64)++[w,iw])/\iw≠.emp/\br bu 5 s iw I/\Items x I/\(∀ s',Ext s s'->av s' q (0+17)=some iw)/\IZ s q [iw] x.v x.ex:=by
 obtain ⟨ok,Fx,w,iw,I,a,⟨c,d,i⟩,⟨m,c2,b⟩,j,k,f,g⟩:=h;exact ⟨w,iw,I,a.at,c2,b,j,fun s' e=>by rw [(a.ext e).at.av];exact D9 ok.v.len w iw,ok.v.len,fun y l n=>by obtain rfl:=List.mem_singleton.1 l;exact rV b n,w,a,c,d,i.sl bn⟩
theorem LF (h:pK F s q x) (o:mV x B) (X:B<=1000) (k:Key):aa Tryz.prog dQ [.ptr (some (q,0)),.agg (f_ k)] s fun v s'=>∃ l,KD x k l/\aU bu 5 [] s s' v (l.map eZ):=by
 obtain ⟨w,iw,I,a,c2,K,D,hr,_⟩:=h.open;have hlen:=D.len o;refine aa.pre fun L=>Ch _ _ _ _ ⟨rfl,aj.intro L rfl fun l1 s2 d=>⟨fun m vs s'=>∃ (i:Nat) (v:AV),vs=[v,.int .i64 (i:Nat)]/\i<=I.length/\m=I.length - i/\aM s'/\aU bu 5 [] s2 s' v ((((I.take i).filter (pL k)).map eC.dot).map eZ),I.length,⟨0,_,rfl,by omega,rfl,d.wf,by simpa using aU.nil⟩,?_⟩⟩;rintro m M n s8 ⟨i,v',hi,Y,rfl,G,c⟩;simp only [List.cons.injEq,AV.int.injEq,true_and,and_true] at hi;obtain ⟨rfl,rfl⟩:=hi;have e:=d.ext.trans c.eL.ext;have H:=(K.ext e).sl bg;refine ⟨iw,hr _ e,_,H.cI cW _,af.dec (fun O=>?_) (fun Q=>?_)⟩
 ·obtain ⟨y,J⟩:=de (l:=I) (i:=i) (by omega);obtain ⟨p,r,z,A⟩:=H.ix (by decide) bg cW pA J;have R:=List.length_filter_le (pL k) (I.take i);have S:=List.length_take_le i I;have ht:((((I.take (i+1)).filter (pL k)).map eC.dot).map eZ)=((((I.take i).filter (pL k)).map eC.dot).map eZ)++if pL k y=true then [eZ y.dot] else []:=by
   rw [List.take_add_one,J,List.filter_append,Option.toList_some,List.map_append,List.map_append];congr 1;cases U:pL k y <;> simp [List.filter_cons,U]
  refine ⟨fun vs s'=>s'=s8/\vs=[.bool (pL k y)],?_,iw,hr _ e,p,r,z _,y.gone,(A _ (Ext.refl _)).1 4 (by decide),af.mk (fun j=>⟨iw,hr _ e,p,r,z _,f_ y.key,TO ((A _ (Ext.refl _)).2) 2 2 (by decide),_,(d.own.ext c.eL.ext).at.aD (by simp [f_]),_,Jn y.key k,rfl,by simp only [Bool.not_eq_true'] at j;simp [pL,j]⟩) (fun j=>⟨rfl,by simp only [Bool.not_eq_false'] at j;simp [pL,j]⟩)⟩;rintro b gu ⟨rfl,hb⟩;simp only [List.cons.injEq,AV.bool.injEq,and_true] at hb;subst hb;refine af.mk (fun hb=>?_) (fun hb=>?_)
  ·refine ⟨iw,hr _ e,p,r,z _,_,rU ((A _ (Ext.refl _)).2) (by decide),_,FA y.dot,aU.iY fT bg jM G c (by simp) (eZ y.dot) (by simp;omega) fun v' s' W w' _=>?_⟩;exact ⟨I.length - (i+1),by omega,i+1,v',by rw [aW (by omega)];rfl,by omega,rfl,w',by rw [ht,if_pos hb];exact W⟩
  ·exact ⟨I.length - (i+1),by omega,i+1,M,by rw [aW (by omega)];rfl,by omega,rfl,G,by rw [ht,if_neg (by rw [hb];simp),List.append_nil];exact c⟩
 ·rw [List.take_of_length_le (by omega)] at c;exact ⟨_,HA D k,c.vq,d.ext.mut.trans c.eL,fun la C=>d.ext.none (c.new la C)⟩
theorem pK.RW {s':AS} {v:AV} {l:List eC} (h:pK F s q x) (hs:Sl bu 5 s v l) (m:bD [q] s s'):Sl bu 5 s' v l:=by
 obtain ⟨ok,Fx,w,iw,I,a,⟨i,j,d⟩,⟨k,c2,e⟩,_⟩:=h;refine FB a (fun c b n=>?_) hs m;rcases List.mem_append.1 b with b | b
 ·obtain ⟨y,_,rfl⟩:=List.mem_map.1 b;simp
 ·simp only [List.mem_cons,List.not_mem_nil,or_false] at b;rcases b with rfl | rfl
  ·exact rV d n
  ·exact rV e n
theorem TQ (hw : aM s) (h : pK F s q x) (o : mV x B) (C : ∀ y ∈ F, s.h y ≠ none) {v : AV} {L : List eC} (hv : Sl bu 5 s v L) (hB : B + L.length <= 1000) (hL : ∀ i ∈ L, i.may = true) {K : AS -> Prop}
    (hK : ∀ s' F', pK F' s' q (x.ew L).2 -> (∀ y ∈ F', y ∈ F \/ s.h y = none) -> (∀ y ∈ F', s'.h y ≠ none) -> bD [q] s s' -> Sl bu 5 s' v L -> aM s' -> K s') :
    bB fun k J => k J [.int .i64 0] s /\
     ∀ D : Nat, ∀ d : Int, ∀ b : AS, k D [.int .i64 d] b ->
     aV .i64 (aQ T aG v b) fun M => af (decide ((d : Int) < M))
     (bG (ag T aG v (.int .i64 d)) fun O Q => aR (aD b O Q 5) fun R => aa Tryz.prog kL [(.ptr (some (q, 0))), (.agg R)] b fun S G => ∃ U : Bool, S = .bool U /\ (∃ m', m' < D /\ k m' [(.int .i64 (IntKind.wrap .i64 (d + 1)))] G))
     (K b) := by
  have p : ∀ (i : Nat) y, L[i]? = some y -> (x.ew (L.take (i + 1))).2 = ((x.ew (L.take i)).2.lM y).2 := by
    intro i y w;unfold aH.ew;rw [List.take_add_one, w, Option.toList_some, List.foldl_append];rfl
  refine ⟨fun m vs s' => ∃ i : Nat, vs = [.int .i64 (i : Nat)] /\ i <= L.length /\ m = L.length - i /\ aM s' /\ bD [q] s s' /\ Sl bu 5 s' v L /\ ∃ F', pK F' s' q (x.ew (L.take i)).2 /\ (∀ y ∈ F', y ∈ F \/ s.h y = none) /\ ∀ y ∈ F', s'.h y ≠ none, L.length, ⟨0, rfl, by omega, rfl, hw, bD.refl _ _, hv, F, h, fun y w => .inl w, C⟩, ?_⟩;rintro m n b ⟨i, hi, h6, rfl, W, A, c, F', H, hn, ht⟩;simp only [List.cons.injEq, AV.int.injEq, true_and, and_true] at hi;subst hi;refine ⟨_, c.cI cW _, af.dec (fun ad => ?_) (fun ae => ?_)⟩
  · obtain ⟨y, w⟩ := de (l := L) (i := i) (by omega);obtain ⟨ly, oy, k8, k9⟩ := c.ix (by decide) bg cW pA w;have ok : mV (x.ew (L.take i)).2 (B + (L.take i).length) := o.ew _ fun j hj => hL j (List.mem_of_mem_take hj);have al := List.length_take_le i L;have am : (L.take i).length <= L.length := by rw [List.length_take]; omega
    refine ⟨ly, oy, k8 _, _, (k9 _ (Ext.refl _)).2, ?_⟩;refine aa.use (NJ H ok (by omega) ht y (hL y (List.mem_of_getElem? w))) ?_;rintro r G ⟨rfl, m32, F2, X, Y, Z⟩ ab;refine ⟨_, rfl, L.length - (i + 1), by omega, i + 1, by rw [aW (by omega)]; rfl, by omega, rfl, ab, A.trans m32, H.RW c m32, F2, by rw [p i y w]; exact X, fun z hz => ?_, Z⟩;have an : s.h q ≠ none := C q h.qF;rcases Y z hz with I | I
    · exact hn z I
    · right;cases hq : s.h z with
      | none => rfl
      | some ob =>
        by_cases e : z = q
        · subst e;exact absurd I (ht _ H.qF)
        · rw [A.1 z ob (by simpa using e) hq] at I; cases I
  · rw [List.take_of_length_le (by omega)] at H;exact hK b F' H hn ht A c W
theorem NK (h:pK F s q x) (o:mV x B) (G:∀ y∈F,s.h y≠none) (hB:B<=450) (k:Key) (d:aJ) (X:k.may=true) (hd:d.may=true) :
  aa Tryz.prog o_ [.ptr (some (q,0)),.agg (f_ k),.agg (aN d)] s fun v s'=>∃ l,KD x k l/\Sl bu 5 s' v (⟨d,k,false⟩::l.map eZ)/\bD [q] s s'/\∃ F',pK F' s' q (x.ew (⟨d,k,false⟩::l.map eZ)).2/\(∀ y∈F',y∈F\/s.h y=none)/\∀ y∈F',s'.h y≠none:=by
 refine aa.pre fun Y=>DR _ _ _ _ _ ⟨rfl,aj.intro Y rfl fun l1 s2 C=>⟨rfl,aj.intro C.wf rfl fun l3 s4 D=>?_⟩⟩;have S:=C.ext.trans D.ext;have h4:=h.ext S;obtain ⟨w0,Z,I0,_,_,_,H,_⟩:=h.open;have c:=HA H k;generalize ab:(I0.filter (pL k)).map eC.dot=l at c;refine ⟨fun z _ v s'=>(z=3->∃ l,v=.slc (some (l,0)) 1 1 true/\At s' l (bu ⟨d,k,false⟩))/\(z=6->Sl bu 5 s' v (l.map eZ)),fun z _ v=>z=3->∃ l,v=.slc (some (l,0)) 1 1 true,?_,_,D.own.at.aD (by simp [aN]),_,(C.own.ext D.ext).at.aD (by simp [f_]),_,FE d k,fun s8 e8 w8 _=>?_,⟨.slc (some (0,0)) 1 1 true,fun _=>⟨0,rfl⟩⟩,fun ad U=>⟨_,(C.own.ext D.ext).at.aD (by simp [f_]),fun ae I al _=>?_,⟨.undef,(fun h=>by cases h)⟩,fun am _ eE J K W=>?_⟩⟩
 ·rintro z ks v s s' e ⟨h1,h2⟩;refine ⟨fun L=>?_,fun L=>(h2 L).ext e⟩;obtain ⟨l,a,b⟩:=h1 L;exact ⟨l,a,b.ext e⟩
 ·exact ⟨_,kh fT (bg _) (jM _),aj.intro w8 rfl fun mL an n=>⟨n.ext,⟨(fun _=>⟨mL,rfl,n.own.at⟩),(fun h=>by cases h)⟩,fun _=>⟨mL,rfl⟩⟩⟩
 ·refine (LF (h4.ext I) o (by omega) k).mono ?_;rintro ao ap ⟨l',M,g⟩;obtain rfl:=M.uniq c;exact ⟨g.eL.ext,⟨(fun h=>by cases h),fun _=>g.sl bg⟩,(fun h=>by cases h)⟩
 obtain ⟨ar,rfl,hi⟩:=W.1.1 rfl;have hg:=W.2.1.2 rfl;have aw:=c.len o;refine FD K hi hg (by simp;omega) fun v20 fL p O Q=>?_;have j:=S.trans (J.trans Q);have r:∀ i∈(⟨d,k,false⟩:eC)::l.map eZ,i.may=true:=by
  intro i hi;rcases List.mem_cons.1 hi with rfl | hi
  ·simp [eC.may,X,hd]
  ·obtain ⟨y,A,rfl⟩:=List.mem_map.1 hi;exact xI (aH.uU (c.has o A))
 refine TQ O (h.ext j) o (fun y A R=>G y A (j.none R)) p (by simp;omega) r fun s' F' hR R ht m hs w=>?_;exact ⟨l,c,hs,j.mut.trans m,F',hR,fun y A=>(R y A).imp id fun h=>j.none h,ht⟩
end
end Go.Proofs.YtohgmogbabkkeaaGreat
end

section
namespace Go.Proofs.YtohgmogbabkkeaaGreat
open Go.Am Go.au Go.aC
section
variable {F:List Nat} {s:AS} {p:Nat} {x:aH} {B:Nat}
end
/-! ### the reference's live items and keys -/
section
variable {F:List Nat} {s:AS} {q:Nat} {x:aH} {B:Nat}
def jU (I:List eC):List eC:=I.filter fun i=>!i.gone
theorem LG (h:pK F s q x) (o:mV x B) (R:B<=1000):aa Tryz.prog nB [.ptr (some (q,0))] s fun v s'=>∃ I,Items x I/\aU bu 5 [] s s' v (jU I):=by
 obtain ⟨w,iw,I,a,c2,D,e,hr,_⟩:=h.open;have hlen:=e.len o;refine aa.pre fun G=>Ce _ _ _ ⟨fun m vs s'=>∃ (i:Nat) (v:AV),vs=[v,.int .i64 (i:Nat)]/\i<=I.length/\m=I.length - i/\aM s'/\aU bu 5 [] s s' v (jU (I.take i)),I.length,⟨0,_,rfl,by omega,rfl,G,by simpa [jU] using aU.nil⟩,?_⟩;rintro m H n s6 ⟨i,v',hi,S,rfl,j,b⟩;simp only [List.cons.injEq,AV.int.injEq,true_and,and_true] at hi;obtain ⟨rfl,rfl⟩:=hi;have c:=b.eL.ext;have k:=(D.ext c).sl bg;refine ⟨iw,hr _ c,_,k.cI cW _,af.dec (fun J=>?_) (fun K=>?_)⟩
 ·obtain ⟨y,p⟩:=de (l:=I) (i:=i) (by omega);obtain ⟨r,z,A,C⟩:=k.ix (by decide) bg cW pA p;have L:=List.length_filter_le (fun i:eC=>!i.gone) (I.take i);have M:=List.length_take_le i I;have ht:jU (I.take (i+1))=jU (I.take i)++if y.gone=false then [y] else []:=by
   unfold jU;rw [List.take_add_one,p,List.filter_append,Option.toList_some];congr 1;cases O:y.gone <;> simp [List.filter_cons,O]
  refine ⟨iw,hr _ c,r,z,A _,y.gone,(C _ (Ext.refl _)).1 4 (by decide),af.mk (fun d=>?_) (fun d=>?_)⟩
  ·refine ⟨iw,hr _ c,r,z,A _,_,(C _ (Ext.refl _)).2,aU.iY fT bg jM j b (by simp) y (by unfold jU;omega) fun v' s' Q w' _=>?_⟩;exact ⟨I.length - (i+1),by omega,i+1,v',by rw [aW (by omega)];rfl,by omega,rfl,w',by rw [ht,if_pos (by simpa using d)];exact Q⟩
  ·exact ⟨I.length - (i+1),by omega,i+1,H,by rw [aW (by omega)];rfl,by omega,rfl,j,by rw [ht,if_neg (by simpa using d),List.append_nil];exact b⟩
 ·rw [List.take_of_length_le (by omega)] at b;exact ⟨I,e,b⟩
theorem HB {I:List eC} (h:Items x I) (i:eC):i∈jU I↔i.gone=false/\x.live i.dot=some i.key:=by
 unfold jU;rw [List.mem_filter,h.mem];unfold aH.item;cases i.gone <;> simp
end
end Go.Proofs.YtohgmogbabkkeaaGreat
end

section
set_option maxRecDepth 100000
set_option maxHeartbeats 4000000
namespace Go.Proofs.YtohgmogbabkkeaaGreat
open Go.Am
end Go.Proofs.YtohgmogbabkkeaaGreat
end

section
namespace Go.Proofs.YtohgmogbabkkeaaGreat
open Go.Am Go.au Go.aC
section
variable {s0 s s':AS} {p q:Nat} {x y:aH} {B:Nat}
end
end Go.Proofs.YtohgmogbabkkeaaGreat
end

section
namespace Go.Proofs.YtohgmogbabkkeaaGreat
open Go.Am Go.au Go.aC Go.ChangeShapes Go.WideShapes Go.ChangeAt Go.RowKit
end Go.Proofs.YtohgmogbabkkeaaGreat
end

section
namespace Go.Proofs.YtohgmogbabkkeaaGreat
open Go.Am Go.au Go.aC Go.ChangeShapes Go.WideShapes Go.ChangeAt Go.RowKit
end Go.Proofs.YtohgmogbabkkeaaGreat
end

section
namespace Go.Proofs.YtohgmogbabkkeaaGreat
open Go.Am Go.au Go.aC
section
variable {s0 s:AS} {p q:Nat} {x:aH} {B:Nat} {F G:List Nat}
end
end Go.Proofs.YtohgmogbabkkeaaGreat
end

section
namespace Go.Am
end Go.Am
namespace Go.Proofs.YtohgmogbabkkeaaGreat
open Go.Am Go.au Go.aC
section
variable {s0 s s':AS} {p q:Nat} {x y:aH} {B:Nat}
end
end Go.Proofs.YtohgmogbabkkeaaGreat
end

section
namespace Go.Proofs.YtohgmogbabkkeaaGreat
open Go.Am Go.au Go.aC
end Go.Proofs.YtohgmogbabkkeaaGreat
end

section
set_option maxRecDepth 100000
set_option maxHeartbeats 4000000
namespace Go.Proofs.YtohgmogbabkkeaaGreat
open Go.Am
end Go.Proofs.YtohgmogbabkkeaaGreat
end

section
namespace Go.Proofs.YtohgmogbabkkeaaGreat
open Go.Am Go.au Go.aC
/-! ### plainly -/
/-! ### at a set -/
section
variable {s0 s:AS} {F:List Nat} {p:Nat} {x:aH} {B:Nat}
end
end Go.Proofs.YtohgmogbabkkeaaGreat
end

section
namespace Go.Proofs.YtohgmogbabkkeaaGreat
open Go.Am Go.au Go.aC
/-! ### plainly -/
section
variable {v:List Int} {ex:List aJ} {L:List eC} {x:aH}
end
/-! ### in memory -/
end Go.Proofs.YtohgmogbabkkeaaGreat
end

section
namespace Go.Proofs.YtohgmogbabkkeaaGreat
open Go.Am Go.au Go.aC
end Go.Proofs.YtohgmogbabkkeaaGreat
end

section
namespace Go.Proofs.YtohgmogbabkkeaaGreat.SI
open Go.Am Go.au Go.aC Go.au.SI
section
variable {s0 s:AS} {a:AV} {l:List eC} {g:FuncId} {cap:List AV} {P:eC->Bool}
end
end Go.Proofs.YtohgmogbabkkeaaGreat.SI
end

section
namespace Go.Proofs.YtohgmogbabkkeaaGreat
open Go.Am Go.au Go.aC
/-! ### buckets -/
section
variable {F G:List Nat} {s:AS} {p q:Nat} {x:aH} {B:Nat}
end
/-! ### dests -/
structure Ci where
 dot:aJ
 dev:List UInt8
 deriving DecidableEq
def ru (e:Ci):List AV:=[.int .i64 e.dot.r,.int .u64 e.dot.c,.str e.dev]
theorem en (e:Ci):(ru e).length=3:=rfl
theorem tK (e:Ci):(ru e).all AV.one=true:=rfl
theorem tM:Bx T bR wI 3 32:=⟨fK,BH,UY,⟨_,_,Tu,rfl,rfl⟩,by decide,by decide⟩
theorem HC (d:aJ) (t:List UInt8):aS T wI [(0,.agg (aN d)),(1,.str t)]=some (.agg (ru ⟨d,t⟩)):=by kernel_rfl
structure pR (x:aH) (t:List UInt8) (L:List Ci):Prop where
 Qx:dZ (L.map Ci.dot)
 mem:∀ e,e∈L↔x.live e.dot=some ⟨t,e.dev⟩
theorem PX (d:aJ) (k:Key) {c:Nat} {t:List UInt8} {s:AS} (j:At s c [.str t]):aa Tryz.prog jX [.agg (aN d),.agg (f_ k),.ptr (some (c,0))] s fun v s'=>v=.bool (k.t==t)/\Ext s s':=by
 refine aa.pre fun l=>yc _ _ _ _ _ ⟨rfl,aj.intro l rfl fun l1 s2 b=>⟨rfl,aj.intro b.wf rfl fun l3 s4 e=>?_⟩⟩;have i:=b.ext.trans e.ext;exact ⟨k.t,by rw [e.own.at.av];rfl,t,by rw [(j.ext i).av];rfl,rfl,i⟩
section
variable {F G:List Nat} {s:AS} {p q:Nat} {x:aH} {B:Nat}
theorem aU.back {α:Type} {f:α->List AV} {sz:Nat} {s0 s1 s:AS} {v:AV} {l:List α} (h:aU f sz [] s1 s v l) (e:Ext s0 s1):aU f sz [] s0 s v l:=⟨h.vq,e.mut.trans h.eL,fun la b=>e.none (h.new la b)⟩
theorem RZ (h:gP F s p x) (o:mV x B) (hB:B<=1000) (t:List UInt8) :
  aa Tryz.prog cP [.ptr (some (p,0)),.str t] s fun v s'=>∃ L,pR x t L/\aU ru 3 [] s s' v L/\L.length<=x.nl:=by
 obtain ⟨S,U⟩:=h.WJ o;refine aa.pre fun W=>AX _ _ _ _ (aj.intro W rfl fun l1 s2 C=>?_);refine aa.use (oQ (h.ext C.ext)) ?_;rintro v s4 ⟨rfl,rfl⟩ w4;have X:=C.own.at;refine ⟨_,rfl,af.no rfl ?_⟩;refine aa.use (Jv (P:=fun _ k=>k.t==t) (h.ext C.ext) (by omega) fun d k s' e w=>PX d k (X.ext e)) ?_;rintro v6 s7 ⟨D,J,G,Q,Y⟩ Z;have h7:=h.ext (C.ext.trans J.eL.ext);have H:=J.sl bn;have key:∀ d∈D,∃ k,x.live d=some k/\k.t=t:=by
  intro d hd;have:=(Q d).1 hd;unfold aH.held at this;cases A:x.live d with
  | none=>rw [A] at this;cases this
  | some k=>rw [A] at this;exact ⟨k,rfl,by simpa using this⟩
 let f:aJ->Ci:=fun d=>⟨d,((x.live d).getD ⟨[],[]⟩).d⟩
 refine ⟨_,H.cI bF _,fun m vs s'=>∃ (i:Nat) (v:AV),vs=[v,.int .i64 (i:Nat)]/\i<=D.length/\m=D.length - i/\aM s'/\aU ru 3 [] s7 s' v ((D.take i).map f),D.length,⟨0,_,rfl,by omega,rfl,Z,by simpa using aU.nil⟩,?_⟩;rintro m ab n ad ⟨i,v',hi,h6,rfl,K,b⟩;simp only [List.cons.injEq,AV.int.injEq,true_and,and_true] at hi;obtain ⟨rfl,rfl⟩:=hi;refine af.dec (fun ae=>?_) (fun al=>?_)
 ·obtain ⟨d,A⟩:=de (l:=D) (i:=i) (by omega);obtain ⟨la,oa,k8,k9⟩:=H.ix (by decide) bn bF jR A;refine ⟨la,oa,k8 _,_,(k9 _ b.eL.ext).2,lq K rfl rfl rfl fun am gi j=>?_⟩;have M:=b.eL.ext.trans j.ext;obtain ⟨_,_,_,pc,lm,tm,a,_,_,_,_,_,⟨es,c,hm,hg,_⟩,_⟩:=h7.ext M;obtain ⟨k,I,y⟩:=key d (List.mem_of_getElem? A);have z:dh T b_ (.map (some lm)) (.agg (aN d)) false gi=some (.agg (f_ k)):=by
   have:=hm.find uT d false;rw [hg,I] at this;exact this
  have O:f d=⟨d,k.d⟩:=by simp [f,I]
  have ht:(D.take (i+1)).map f=(D.take i).map f++[⟨d,k.d⟩]:=by rw [List.take_add_one,A,Option.toList_some,List.map_append,<- O];rfl
  have r:=j.own.at;refine ⟨_,r.aD (by simp [aN]),some lm,by rw [a.at.av];rfl,_,r.aD (by simp [aN]),_,z,k.d,rfl,_,HC d k.d,?_⟩;refine aU.iY tM en tK j.wf (b.step j.ext) (by simp) ⟨d,k.d⟩ (by simp;omega) fun v' s' g' w' _=>?_;exact ⟨D.length - (i+1),by omega,i+1,v',by rw [aW (by omega)];rfl,by omega,rfl,w',by rw [ht];exact g'⟩
 ·rw [List.take_of_length_le (by omega)] at b;refine ⟨D.map f,⟨?_,fun e=>?_⟩,aU.back b (C.ext.trans J.eL.ext),by rw [List.length_map];omega⟩
  ·rw [List.map_map];have:D.map (Ci.dot∘f)=D:=by
    conv=>rhs;rw [<- List.map_id D]
    rfl
   rw [this];exact G
  ·rw [List.mem_map];constructor
   ·rintro ⟨d,hd,rfl⟩;obtain ⟨k,I,y⟩:=key d hd;simp only [f,I];cases k;simp only at y;subst y;rfl
   ·intro R;refine ⟨e.dot,(Q _).2 (by simp [aH.held,R]),?_⟩;simp only [f,R];rfl
theorem Jx (h:pK G s q x) (o:mV x B) (O:B<=1000) (t:List UInt8) :
  aa Tryz.prog cQ [.ptr (some (q,0)),.str t] s fun v s'=>∃ L,pR x t L/\aU ru 3 [] s s' v L/\L.length<=B:=by
 refine A0 _ _ _ _ ?_;refine aa.use (LG h o O) ?_;rintro Z s2 ⟨I,A,K⟩ w2;have D:=A.len o;have F:(jU I).length<=I.length:=List.length_filter_le _ _;have r:=K.sl bg
 let f:eC->List Ci:=fun i=>if i.key.t=t then [⟨i.dot,i.key.d⟩] else []
 have b:∀ l:List eC,(l.flatMap f).length<=l.length:=by
  intro l
  induction l with
  | nil=>simp
  | cons a l C =>
   have h1:(f a).length<=1:=by simp only [f];split <;> simp
   rw [List.flatMap_cons,List.length_append,List.length_cons];omega
 refine ⟨fun m vs s'=>∃ (i:Nat) (v:AV),vs=[v,.int .i64 (i:Nat)]/\i<=(jU I).length/\m=(jU I).length - i/\aM s'/\aU ru 3 [] s2 s' v (((jU I).take i).flatMap f),(jU I).length,⟨0,_,rfl,by omega,rfl,w2,by simpa using aU.nil⟩,?_⟩;rintro m H n Q ⟨i,v',hi,h6,rfl,w,c⟩;simp only [List.cons.injEq,AV.int.injEq,true_and,and_true] at hi;obtain ⟨rfl,rfl⟩:=hi;refine ⟨_,r.cI cW _,af.dec (fun R=>?_) (fun S=>?_)⟩
 ·obtain ⟨j,M⟩:=de (l:=jU I) (i:=i) (by omega);obtain ⟨la,oa,J,U⟩:=r.ix (by decide) bg cW pA M;have step:=List.take_add_one (l:=jU I) (i:=i);rw [M,Option.toList_some] at step;have y:=U _ c.eL.ext;refine ⟨la,oa,J _,j.key.t,y.1 2 (by decide),?_⟩;have W:=b ((jU I).take i);have X:=List.length_take_le i (jU I);refine af.mk (fun hb=>?_) (fun hb=>?_)
  ·have k:j.key.t=t:=by simpa using hb
   refine ⟨la,oa,J _,_,rU y.2 (by decide),la,oa,J _,j.key.d,y.1 3 (by decide),_,HC j.dot j.key.d,?_⟩;refine aU.iY tM en tK w c (by simp) ⟨j.dot,j.key.d⟩ (by omega) fun v' s' Y w' _=>?_;refine ⟨(jU I).length - (i+1),by omega,i+1,v',by rw [aW (by omega)];rfl,by omega,rfl,w',?_⟩;rw [step,List.flatMap_append];simpa [f,k] using Y
  ·have k:¬ j.key.t=t:=by simpa using hb
   refine ⟨(jU I).length - (i+1),by omega,i+1,H,by rw [aW (by omega)];rfl,by omega,rfl,w,?_⟩;rw [step,List.flatMap_append];simpa [f,k] using c
 ·rw [List.take_of_length_le (by omega)] at c;have z:dZ ((jU I).map eC.dot):=A.Qx.sublist (List.Sublist.map _ List.filter_sublist);refine ⟨(jU I).flatMap f,⟨?_,fun e=>?_⟩,aU.back c K.eL.ext,Nat.le_trans (b _) (Nat.le_trans F D)⟩
  ·have:∀ l:List eC,(((l.flatMap f)).map Ci.dot).Sublist (l.map eC.dot):=by
    intro l
    induction l with
    | nil=>simp
    | cons a l C =>
     simp only [List.flatMap_cons,List.map_append,List.map_cons,f] at C ⊢;split
     ·simpa using C
     ·simpa using C.trans (List.sublist_cons_self _ _)
   exact z.sublist (this _)
  ·rw [List.mem_flatMap];constructor
   ·rintro ⟨j,hj,p⟩;simp only [f] at p;split at p
    ·rename_i y;obtain rfl:=List.mem_singleton.1 p;rw [((HB A j).1 hj).2,<- y]
    ·cases p
   ·intro p;exact ⟨⟨e.dot,⟨t,e.dev⟩,false⟩,(HB A _).2 ⟨rfl,p⟩,by simp [f]⟩
end
end Go.Proofs.YtohgmogbabkkeaaGreat
end

section
namespace Go.Proofs.YtohgmogbabkkeaaGreat
open Go.Am Go.au Go.aC
end Go.Proofs.YtohgmogbabkkeaaGreat
end

section
namespace Go.Am
section
variable {T:TT} {t el:TypeId} {sz ql:Nat} (ht:Bx T t el sz ql)
include ht
end
end Go.Am
namespace Go.Proofs.YtohgmogbabkkeaaGreat
open Go.Am Go.au Go.aC
def qg (n:Int):List AV:=[.int .u8 n]
theorem bU (n:Int):(qg n).length=1:=rfl
theorem Jy (n:Int):(qg n).all AV.one=true:=rfl
theorem gx:Bx T aq rK 1 1:=⟨aL,ey,Ip,⟨_,_,EU,rfl,rfl⟩,by decide,by decide⟩
theorem sG (l:List Int):(l.flatMap qg).length=l.length*1:=d_ bU l
abbrev gA (s:AS) (v:AV) (l:List Int):Prop:=Sl qg 1 s v l
abbrev ze (s0 s:AS) (v:AV) (l:List Int):Prop:=aU qg 1 [] s0 s v l
def yx (s:AS) (v:AV) (n:Nat) (l:List Int) (lo:Option Nat):Prop :=
 match lo with
 | none=>v=.slc none 0 0 true/\n=0/\l=[]
 | some lo=>v=.slc (some (lo,0)) l.length n false/\l.length<=n/\∃ rest,s.h lo=some (.cells (l.flatMap qg++rest) 1 false)/\rest.length=(n - l.length)*1
theorem yx.app {s:AS} {v x:AV} {n:Nat} {l xs:List Int} {lo:Nat} (h:yx s v n l (some lo)) (j:aM s) (r:Sl qg 1 s x xs) (k:l.length+xs.length<=n) (hb:n<=2 ^ 30)
  {K:AV->AS->Prop} (m:∀ v' s',yx s' v' n (l++xs) (some lo)->aM s'->bD [lo] s s'->K v' s'):iD (aI T aq aq v x s) K:=by
 obtain ⟨rfl,hle,rest,b,hr⟩:=h;obtain ⟨c,hlen⟩:=cq.src gx r;have e:=jJ gx (base:=some (lo,0)) (len:=l.length) (cap:=n) (ex:=false) aL hlen c (by rw [sG]) (by omega);rw [if_pos k] at e;by_cases p:xs.flatMap qg=[]
 ·have d:xs=[]:=by
   have:=congrArg List.length p;rw [sG] at this;exact List.length_eq_zero_iff.1 (by simp only [List.length_nil] at this;omega)
  subst d;simp only [List.flatMap_nil,if_true] at e;exact ⟨_,_,e,m _ _ ⟨by simp,by simpa using hle,rest,by simpa using b,by simpa using hr⟩ j (bD.refl _ _)⟩
 ·simp only [if_neg p] at e;have i:=j.put b (o:=.cells (qk (l.flatMap qg++rest) (0+l.length*1) (xs.flatMap qg)) 1 false) rfl;have ea:cK s lo (0+l.length*1) (xs.flatMap qg)=some (s.put lo (.cells (qk (l.flatMap qg++rest) (0+l.length*1) (xs.flatMap qg)) 1 false)):=by
   simp only [cK,b];rw [if_pos (by rw [List.length_append,sG,sG,hr];omega)]
  rw [ea] at e;refine ⟨_,_,e,m _ _ ⟨by simp,by simpa using k,rest.drop (xs.flatMap qg).length,?_,?_⟩ i.wf i.mut⟩
  ·rw [i.at,Nat.zero_add,<- sG l,OD _ _ _ (by rw [sG,hr];omega),List.flatMap_append]
  ·rw [List.length_drop,sG,hr,List.length_append];omega
theorem yx.app' {s:AS} {v x:AV} {n:Nat} {l xs:List Int} {lo:Option Nat} (h:yx s v n l lo) (c:aM s) (d:Sl qg 1 s x xs) (i:l.length+xs.length<=n) (hb:n<=2 ^ 30)
  {K:AV->AS->Prop} (j:∀ v' s',yx s' v' n (l++xs) lo->aM s'->bD lo.toList s s'->K v' s'):iD (aI T aq aq v x s) K:=by
 cases lo with
 | some lo=>exact yx.app h c d i hb j
 | none =>
  obtain ⟨rfl,rfl,rfl⟩:=h;obtain rfl:xs=[]:=by simpa using i
  obtain ⟨b,hlen⟩:=cq.src gx d;have e:=jJ gx (base:=none) (len:=0) (cap:=0) (ex:=true) aL hlen b (by simp) (by simp);simp only [List.length_nil,Nat.le_refl,if_true] at e;exact ⟨_,_,e,j _ _ ⟨rfl,rfl,rfl⟩ c (bD.refl _ _)⟩
def LH (t:List UInt8):List Int:=t.map fun c=>(c.toNat:Int)
theorem wT (t:List UInt8):(LH t).length=t.length:=by simp [LH]
theorem PY (t:List UInt8):(LH t).flatMap qg=t.map fun c=>AV.int .u8 c.toNat:=by
 induction t with
 | nil=>rfl
 | cons a t b=>simp only [LH,List.map_cons,List.flatMap_cons,qg] at b ⊢;rw [b];rfl
def VK (l:List Int):List UInt8:=l.map fun n=>UInt8.ofNat n.toNat
theorem LI (l:List Int):yz (l.flatMap qg)=some (VK l):=by
 induction l with
 | nil=>rfl
 | cons a l b =>
  simp only [List.flatMap_cons,qg,List.cons_append,List.nil_append,yz,b,VK,List.map_cons,Option.map_some]
theorem R1 {s:AS} {v:AV} {l:List Int} (h:gA s v l) (b:l≠[]):(cO T aq cE v s).map (·.1)=some (.str (VK l)):=by
 have m:0<l.length:=List.length_pos_iff.2 b;rcases h with ⟨rfl,h2,h3⟩ | ⟨a,c,e,rfl,⟨d,h2⟩,h3⟩
 ·omega
 ·rcases h3 with h3 | ⟨la,o,C,rfl,i,h3⟩
  ·omega
  ·have j:o+l.length<=C.length:=by
    have:=congrArg List.length h3;rw [List.length_take,List.length_drop,d] at this;omega
   have hr:aD s la o l.length=some (l.flatMap qg):=by
    rw [i.aD j,<- h3,Nat.mul_one]
   have k:¬ l.length=0:=by omega
   simp [cO,aL,qI,z4,hr,LI,b]
/-! ### numbers -/
def uW (n:Int) (b:Nat):Int:=IntKind.wrap .u8 (Int.fdiv n (2 ^ min b (IntKind.bits .u64)))
def xJ (n:Int) (k:Nat):List Int:=(List.range k).map fun i=>uW n (8*(k - 1 - i))
theorem jO (n:Int) (k:Nat):(xJ n k).length=k:=by simp [xJ]
theorem wU {M:List Nat} {s0 s:AS} (b:aM s) {v:AV} {l:List Int} (h:aU qg 1 M s0 s v l) (c:∀ x∈M,s.h x≠none) (n:Int) (hb:l.length+1<=2 ^ 30) {K:AV->AS->Prop} (d:∀ v' s',aU qg 1 M s0 s' v' (l++[n])->aM s'->bD (ay v) s s'->K v' s'):aR (cV T aq 1 [(0,.int .u8 n)]) fun g=>aj (.cells g 0 false) s fun la s1=>iD (aI T aq aq v (.slc (some (la,0)) 1 1 true) s1) K :=
 aU.Kv (f:=fun n:Int=>AV.int .u8 n) gx rfl (fun _=>rfl) b h c n hb d
theorem wV {M:List Nat} {s0 s:AS} (b:aM s) {v x:AV} {l xs:List Int} (h:aU qg 1 M s0 s v l) (c:∀ x∈M,s.h x≠none) (d:gA s x xs) (hb:l.length+xs.length<=2 ^ 30) {K:AV->AS->Prop} (e:∀ v' s',aU qg 1 M s0 s' v' (l++xs)->aM s'->bD (ay v) s s'->K v' s'):iD (aI T aq aq v x s) K :=
 aU.kK gx bU Jy b h c d hb aL e
theorem R2 (n:Int) (k:Nat) (A:1<=k/\k<=8) (l:k<8->Int.fdiv n (2 ^ min (8*k) (IntKind.bits .u64))=0) (s:AS) :
  aa Tryz.prog uB [.int .u64 n,.int .i64 (k:Nat)] s fun r s'=>∃ v,r=.aP [v,.int .i64 0]/\ze s s' v (xJ n k):=by
 refine aa.pre fun o=>No _ _ _ _ ⟨fun vs s'=>vs=[.bool false]/\s'=s,?_,af.dec (fun h=>absurd h (by omega)) (fun _=>af.dec (fun h=>absurd h (by omega)) (fun _=>af.dec (fun h=>⟨?_,?_,rfl⟩) (fun _=>⟨rfl,rfl⟩)))⟩
 ·rintro b s3 ⟨hb,rfl⟩;obtain rfl:b=false:=by simpa using hb
  refine af.no rfl ⟨fun vs s'=>∃ v,vs=[v]/\ze s3 s' v (xJ n k),?_,fun m vs s'=>∃ (i:Nat) (v:AV),vs=[v,.int .i64 (i:Nat)]/\i<=k/\m=k - i/\aM s'/\ze s3 s' v ((List.range i).map fun j=>uW n (8*(k - 1 - j))),k,⟨0,_,rfl,by omega,rfl,o,by simpa using aU.nil⟩,?_⟩
  ·rintro p s6 ⟨v,hv,g⟩;obtain rfl:p=v:=by simpa using hv
   exact ⟨_,rfl,g⟩
  ·rintro m v10 w dI ⟨i,v',c,hi,rfl,e,d⟩;simp only [List.cons.injEq,AV.int.injEq,true_and,and_true] at c;obtain ⟨rfl,rfl⟩:=c;refine af.dec (fun x=>?_) (fun y=>?_)
   ·have e1:IntKind.wrap .i64 (8*(IntKind.wrap .i64 ((IntKind.wrap .i64 ((k:Int) - 1)) - (i:Int))))=((8*(k - 1 - i):Nat):Int):=by
     rw [aW (n:=(k:Int) - 1) (by omega),aW (n:=(k:Int) - 1 - i) (by omega),aW (by omega)];omega
    rw [e1];refine ⟨by omega,?_⟩;rw [Int.toNat_natCast];refine wU e d (by simp) (uW n (8*(k - 1 - i))) (by simp;omega) fun v' s' z w' _=>?_;refine ⟨k - (i+1),by omega,i+1,v',by rw [aW (by omega)];rfl,by omega,rfl,w',?_⟩;rw [List.range_succ,List.map_append];exact z
   ·obtain rfl:i=k:=by omega
    exact ⟨v10,rfl,d⟩
 ·rw [aW (by omega)];omega
 ·rw [show IntKind.wrap .i64 (8*(k:Int))=((8*k:Nat):Int) by rw [aW (by omega)];omega,Int.toNat_natCast,l (by omega)];rfl
/-! ### dots,texts -/
def tN (t:List UInt8):List Int:=xJ (t.length:Nat) 2++LH t
theorem PZ (t:List UInt8):(tN t).length=2+t.length:=by simp [tN,jO,wT]
theorem LJ {n:Nat} (h:n<2 ^ 16):Int.fdiv (n:Int) (2 ^ min (8*2) (IntKind.bits .u64))=0:=by
 rw [show min (8*2) (IntKind.bits .u64)=16 from rfl];rw [Int.fdiv_eq_ediv_of_nonneg _ (by decide)];omega
theorem TR {s:AS} {v:AV} {l:List Int} (h:gA s v l) (i:l.length<=65535):aa Tryz.prog wD [v] s fun r s'=>∃ v,r=.aP [v,.int .i64 0]/\ze s s' v (xJ (l.length:Nat) 2++l):=by
 refine aa.pre fun j=>K9 _ _ _ ⟨_,h.cI aL _,af.dec (fun c=>absurd c (by omega)) (fun _=>⟨_,h.cI aL _,?_⟩)⟩;dsimp only;rw [gw (by omega)];refine aa.use (R2 _ 2 (by omega) (fun _=>LJ (by omega)) s) ?_;rintro r s4 ⟨k,rfl,b⟩ d;refine ⟨_,_,rfl,?_⟩;exact wV d b (by simp) (h.ext b.eL.ext) (by rw [jO];omega) fun v' s' e w' _=>⟨v',rfl,e⟩
end Go.Proofs.YtohgmogbabkkeaaGreat
end

section
namespace Go.Proofs.YtohgmogbabkkeaaGreat
open Go.Am Go.au Go.aC
theorem TS (N:Nat) (i:N<=2 ^ 28) (s:AS):aa Tryz.prog fJ [.slc none 0 0 true,.int .i64 (N:Nat)] s fun v s'=>∃ lo,yx s' v N [] lo/\Ext s s'/\∀ l∈lo.toList,s.h l=none:=by
 refine aa.pre fun b=>qN _ _ _ _ (af.dec (fun h=>absurd h (by omega)) (fun _=>?_));refine ⟨0,by simp [vP,aL],0,by simp [aQ,aL],?_⟩;have e1:IntKind.wrap .i64 ((N:Int) - (IntKind.wrap .i64 (0 - 0)))=(N:Nat):=by rw [show IntKind.wrap .i64 (0 - 0)=0 from rfl,aW (by omega)];omega
 dsimp only;rw [e1];refine af.dec (fun j=>?_) (fun k=>?_)
 ·have c:0<N:=by omega
  have d:aI T aq tg (.slc none 0 0 true) (.int .i64 (N:Nat)) s=some (.slc (some (s.nl,0)) N N false,s.new (.cells (rep N [.int .u8 0]) 1 false)):=by
   simp only [aI,aL,OA,if_true,sN,ey,Ip,EU,Option.bind_some,bI,List.length_cons,List.length_nil,Int.toNat_natCast,Nat.zero_add];rw [show (if (AV.int IntKind.u8 0).cells.all AV.one=true then some (AV.int IntKind.u8 0).cells else none)=some [AV.int .u8 0] from rfl,Option.bind_some,if_neg (by simp only [List.length_cons,List.length_nil];omega)];simp [mX]
  have Fr:=b.new (o:=.cells (rep N [.int .u8 0]) 1 false) rfl;refine ⟨0,by simp [vP,aL],.slc none 0 0 true,by simp [aZ,aL,ey,cN,sM,pN,gC],_,_,d,0,by simp [aQ,aL],.slc (some (s.nl,0)) 0 N false,?_,some s.nl,⟨rfl,by simp,rep N [.int .u8 0],by simpa using Fr.at,by simp [rep]⟩,Fr.ext,?_⟩
  ·have:¬ N=0:=by omega
   simp [aZ,aL,ey,cN,sM,pN,gC,this]
  ·intro l e;obtain rfl:l=s.nl:=by simpa using e
   exact b.none
 ·obtain rfl:N=0:=by omega
  exact ⟨none,⟨rfl,rfl,rfl⟩,Ext.refl _,by simp⟩
abbrev VL:AV×List Int->List AV:=fun p=>[p.1]
theorem Jz (p:AV×List Int):(VL p).length=1:=rfl
def qh (L:List (AV×List Int)):Nat:=(L.map fun p=>p.2.length).sum
theorem HD {L:List (AV×List Int)} {i:Nat} {p:AV×List Int} (h:L[i]? = some p):qh (L.take (i+1))=qh (L.take i)+p.2.length:=by
 unfold qh;rw [List.take_add_one,h,Option.toList_some,List.map_append,List.sum_append];simp
theorem OL (L:List (AV×List Int)) (i:Nat):qh (L.take i)<=qh L:=by
 have:qh L=qh (L.take i)+qh (L.drop i):=by
  unfold qh;rw [<- List.sum_append,<- List.map_append,List.take_append_drop]
 omega
theorem xK (L:List (AV×List Int)):(L.flatMap Prod.snd).length=qh L:=by simp [qh,List.length_flatMap]
theorem P0 {s:AS} {a:AV} {L:List (AV×List Int)} (r:Sl VL 1 s a L) (G:∀ p∈L,gA s p.1 p.2) (S:L.length<=2 ^ 20) (hb:qh L<=2 ^ 28):aa Tryz.prog fk [a] s fun v s'=>ze s s' v (L.flatMap Prod.snd):=by
 refine aa.pre fun U=>pH _ _ _ ⟨fun vs s'=>s'=s/\vs=[.int .i64 (qh L:Nat)],?_,_,r.cI nL _,fun m vs s'=>∃ i:Nat,vs=[.int .i64 (qh (L.take i):Nat),.int .i64 (i:Nat)]/\i<=L.length/\m=L.length - i/\s'=s,L.length,⟨0,by simp [qh],by omega,rfl,rfl⟩,?_⟩;rotate_left
 ·rintro m H I J ⟨i,c,hi,rfl,rfl⟩;simp only [List.cons.injEq,AV.int.injEq,true_and,and_true] at c;obtain ⟨rfl,rfl⟩:=c;refine af.dec (fun w=>?_) (fun x=>?_)
  ·obtain ⟨p,e⟩:=de (l:=L) (i:=i) (by omega);obtain ⟨la,o,y,z⟩:=r.ix (by decide) Jz nL qq e;have hs:=HD e;have hle:=OL L (i+1);refine ⟨la,o,y _,p.1,(z _ (Ext.refl _)).1 0 (by decide),_,(G p (List.mem_of_getElem? e)).cI aL _,?_⟩;dsimp only;rw [aW (n:=(qh (L.take i):Int)+p.2.length) (by omega)];refine af.dec (fun h=>absurd h (by omega)) (fun _=>⟨L.length - (i+1),by omega,i+1,?_,by omega,rfl,rfl⟩);rw [aW (by omega),hs];rfl
  ·rw [List.take_of_length_le (by omega)];exact ⟨rfl,rfl⟩
 rintro n2 s3 ⟨rfl,A⟩;obtain rfl:n2=(qh L:Nat):=by simpa using A
 refine aa.use (TS (qh L) hb s3) ?_;rintro K W ⟨lo,M,O,k⟩ Q;refine ⟨_,r.cI nL _,fun m vs s'=>∃ (i:Nat) (v:AV),vs=[v,.int .i64 (i:Nat)]/\i<=L.length/\m=L.length - i/\aM s'/\Ext s3 s'/\yx s' v (qh L) ((L.take i).flatMap Prod.snd) lo,L.length,⟨0,K,rfl,by omega,rfl,Q,O,by simpa using M⟩,?_⟩;rintro m v10 R dI ⟨i,v',c,hi,rfl,B,d,b⟩;simp only [List.cons.injEq,AV.int.injEq,true_and,and_true] at c;obtain ⟨rfl,rfl⟩:=c;refine af.dec (fun w=>?_) (fun x=>?_)
 ·obtain ⟨p,e⟩:=de (l:=L) (i:=i) (by omega);obtain ⟨la,o,y,z⟩:=r.ix (by decide) Jz nL qq e;have hs:=HD e;have hle:=OL L (i+1);have step:=List.take_add_one (l:=L) (i:=i);rw [e,Option.toList_some] at step;refine ⟨la,o,y _,p.1,(z _ d).1 0 (by decide),?_⟩;refine yx.app' b B ((G p (List.mem_of_getElem? e)).ext d) (by rw [xK];omega) (by omega) fun v' s' C w' m'=>?_;refine ⟨L.length - (i+1),by omega,i+1,v',by rw [aW (by omega)];rfl,by omega,rfl,w',Ext.Wn d k m',?_⟩;rw [step,List.flatMap_append];simpa using C
 ·rw [List.take_of_length_le (by omega)] at b;cases lo with
  | none =>
   obtain ⟨rfl,X,D⟩:=b;rw [D];exact ⟨br.nil,d.mut,by simp [ay]⟩
  | some lo =>
   obtain ⟨rfl,_,rest,j,hr⟩:=b;rw [xK,Nat.sub_self,Nat.zero_mul] at hr;obtain rfl:=List.length_eq_zero_iff.1 hr;rw [List.append_nil] at j;refine ⟨.inr ⟨lo,by rw [xK],j⟩,d.mut,fun la F=>?_⟩;obtain rfl:la=lo:=by simpa [ay] using F
   exact k la (by simp)
/-! ### a variable that holds a row of bytes of one's own -/
section
variable {s0 s s':AS} {c:Nat} {l:List Int}
end
theorem P1 (v:List Int) (hv:v.length=16) (s:AS):aa Tryz.prog sg [.agg (v.map (.int .u64))] s fun r s'=>ze s s' r (v.flatMap fun n=>xJ n 8):=by
 refine aa.pre fun p=>Gx _ _ _ ⟨?_,aj.intro p rfl fun l1 s2 e=>⟨v.map (.int .u64),?_,fun m vs s'=>∃ (i:Nat) (r:AV),vs=[r,.int .i64 (i:Nat)]/\i<=16/\m=16 - i/\aM s'/\ze s2 s' r ((v.take i).flatMap fun n=>xJ n 8),16,⟨0,_,rfl,by omega,rfl,e.wf,by simpa using aU.nil⟩,?_⟩⟩
 ·simp [List.all_eq_true,AV.one]
 ·rw [e.own.at.aD (by simp [hv])];simp [hv,List.take_of_length_le]
 ·rintro m B C w ⟨i,r,b,hi,rfl,D,c⟩;simp only [List.cons.injEq,AV.int.injEq,true_and,and_true] at b;obtain ⟨rfl,rfl⟩:=b;refine af.dec (fun x=>?_) (fun y=>?_)
  ·obtain ⟨n,o⟩:=de (l:=v) (i:=i) (by omega);have step:=List.take_add_one (l:=v) (i:=i);rw [o,Option.toList_some] at step;refine ⟨n,?_,?_⟩
   ·rw [Tz hv (by omega),List.getD_eq_getElem?_getD,o];rfl
   refine aa.use (R2 n 8 (by omega) (by omega) w) ?_;rintro q dI ⟨z,rfl,d⟩ j;have hlen:((v.take i).flatMap fun n=>xJ n 8).length<=16*8:=by
    rw [List.length_flatMap];have:(List.map (fun a=>(xJ a 8).length) (v.take i))=List.map (fun _=>8) (v.take i):=by simp [jO]
    rw [this,List.map_const',List.sum_replicate_nat,List.length_take];have:min i v.length<=16:=by omega
    omega
   refine ⟨_,_,rfl,wV j (c.step d.eL.ext) (by simp) (d.sl bU) (by rw [jO];omega) fun v' s' A w' _=>?_⟩;refine ⟨16 - (i+1),by omega,i+1,v',by rw [aW (by omega)];rfl,by omega,rfl,w',?_⟩;rw [step,List.flatMap_append];simpa using A
  ·rw [List.take_of_length_le (by omega)] at c;exact ⟨c.vq,e.ext.mut.trans c.eL,fun la k=>e.ext.none (c.new la k)⟩
end Go.Proofs.YtohgmogbabkkeaaGreat
end

section
namespace Go.Proofs.YtohgmogbabkkeaaGreat
open Go.Am Go.au Go.aC Go.bL
theorem OM (n:Int):0<=IntKind.wrap .u64 n:=by
 simp only [IntKind.wrap,IntKind.signed,Bool.false_and,Bool.false_eq_true,if_false,IntKind.bits];exact Int.emod_nonneg _ (by decide)
theorem Cj {i:Nat} (h:i<=2 ^ 61):IntKind.wrap .i64 ((i:Int)+1)=((i+1:Nat):Int):=by rw [aW (by omega)];omega
theorem P4 (x y:Int) (l:List Int):C3 x (l++[y])=wm .u32 (C3 x l) (UR x (IntKind.wrap .i64 (0 - y))):=by simp [C3]
theorem Vg (x k:Int) (s:AS):aa Tryz.prog gn [.int .u32 x,.int .i64 k] s fun r s'=>r=.int .u32 (UR x k)/\s'=s :=
 sB _ _ _ _ ⟨_,rfl,OM _,OM _,_,rfl,rfl,rfl⟩
def LK (n:Int):List AV:=[.int .i64 n]
theorem R3 (n:Int):(LK n).length=1:=rfl
theorem JA {s:AS} {v:AV} {l:List Int} (h:Sl LK 1 s v l) (n:l.length<=2 ^ 40) (x:Int):aa Tryz.prog aE [.int .u32 x,v] s fun r s'=>r=.int .u32 (C3 x l)/\s'=s:=by
 refine xV _ _ _ _ ⟨_,h.cI rM _,fun m vs s'=>∃ i:Nat,vs=[.int .u32 (C3 x (l.take i)),.int .i64 (i:Nat)]/\i<=l.length/\m=l.length - i/\s'=s,l.length,⟨0,rfl,by omega,rfl,rfl⟩,?_⟩;rintro m p w s7 ⟨i,hi,z,rfl,rfl⟩;simp only [List.cons.injEq,AV.int.injEq,true_and,and_true] at hi;obtain ⟨rfl,rfl⟩:=hi;refine af.dec (fun c=>?_) (fun d=>⟨?_,rfl⟩)
 ·obtain ⟨y,b⟩:=de (l:=l) (i:=i) (by omega);obtain ⟨la,o,e,j⟩:=h.ix (by decide) R3 rM Hs b;have k:=(j _ (Ext.refl _)).1 0 (by decide);refine ⟨la,o,e _,y,by simpa [LK] using k,?_⟩;refine aa.use (Vg _ _ _) ?_;rintro v s' ⟨rfl,rfl⟩ _;refine ⟨_,rfl,_,rfl,l.length - (i+1),by omega,i+1,?_,by omega,rfl,rfl⟩;rw [Cj (by omega),List.take_add_one,b,Option.toList_some,P4];rfl
 ·rw [List.take_of_length_le (by omega)]
theorem NL (a b:Int) (s:AS):aa Tryz.prog fY [.int .u64 a,.int .u64 b] s fun r s'=>r=.aP [.int .u64 (oB a b).1,.int .u64 (oB a b).2]/\s'=s :=
 Ai _ _ _ _ ⟨_,rfl,by decide,_,rfl,by decide,by decide,_,rfl,by decide,by decide,rfl,rfl⟩
theorem ON (a b:Int):0<=(oB a b).1/\0<=(oB a b).2:=⟨OM _,OM _⟩
theorem Vh {x y:Int} (b:0<=x) (c:0<=y) (s:AS):aa Tryz.prog rJ [.int .u64 x,.int .u64 y,.int .u64 0] s fun v s'=>v=.aP [.int .u64 ((x+y+0) % 18446744073709551616),.int .u64 ((x+y+0) / 18446744073709551616)]/\s'=s :=
 Ik Tryz.func307 (by kernel_rfl) (by kernel_rfl) (by kernel_rfl) (by kernel_rfl) b c (by decide) (by decide)
theorem HE (a b:Int):aS T fF [(0,.int .u64 a),(1,.int .u64 b)]=some (.agg [.int .u64 a,.int .u64 b]):=by kernel_rfl
theorem V8 {l:Nat} {i:Int} (h:0<=i/\i<2):ag T fF (.ptr (some (l,0))) (.int .i64 i)=some (.ptr (some (l,0+i.toNat*1))):=uw KL jz h
theorem HF (a:Int) (s:AS):aa Tryz.prog fA [.int .u64 a] s fun r s'=>r=.agg [.int .u64 (oB a a).1,.int .u64 (oB a a).2]/\Ext s s':=by
 refine aa.pre fun c=>IN _ _ _ (aj.intro c rfl fun l1 s2 b=>?_);refine aa.use (NL _ _ _) ?_;rintro v s' ⟨rfl,rfl⟩ d;refine ⟨_,_,rfl,_,HE _ _,⟨rfl,rfl⟩,bt.own d b.own (by simp) fun s8 P=>⟨_,At.aD (cs:=[.int .u64 (oB a a).1,.int .u64 (oB a a).2]) ⟨_,_,P.at⟩ (by simp),rfl,Ext.wr b.ext b.no P.mut⟩⟩
theorem TU (a:Int) (s:AS):aa Tryz.prog yS [.int .u64 a] s fun r s'=>r=.aP [.agg ((yo a).map (.int .u64)),.bool (Oz a)]/\Ext s s':=by
 refine aa.pre fun j=>Nb _ _ _ (aj.intro j rfl fun l1 s2 c=>?_);refine aa.use (HF _ _) ?_;rintro v s4 ⟨rfl,e⟩ k;refine ⟨_,rfl,lq k rfl rfl rfl fun w s8 b=>⟨_,_,V8 (i:=1) (by omega),_,by rw [b.own.at.av];rfl,?_⟩⟩;refine aa.use (NL _ _ _) ?_;rintro v bP ⟨rfl,rfl⟩ l;refine ⟨_,_,rfl,_,_,V8 (i:=0) (by omega),_,by rw [b.own.at.av];rfl,?_⟩;refine aa.use (NL _ _ _) ?_;rintro v gi ⟨rfl,rfl⟩ m;refine ⟨_,_,rfl,?_⟩;refine aa.use (Vh (ON _ _).2 (ON _ _).1 _) ?_;rintro v n ⟨rfl,rfl⟩ d;have o:=(c.own.ext e).ext b.ext;refine ⟨_,_,rfl,by decide,by decide,_,rfl,by decide,by decide,_,rfl,_,HE _ _,by decide,⟨rfl,rfl⟩,bt.own d o (by simp) fun p P=>⟨_,At.aD (cs:=(yo a).map (.int .u64)) ⟨_,_,P.at⟩ (by simp [yo]),rfl,Ext.wr ((c.ext.trans e).trans b.ext) c.no P.mut⟩⟩
theorem LL (x y:Int) (lost:Bool) (p:Int) (s:AS):aa Tryz.prog rI [.agg [.int .u64 x,.int .u64 y],.bool lost,.int .u64 p] s fun r s'=>r=.bool (qA x y lost p)/\Ext s s':=by
 refine aa.pre fun e=>KR _ _ _ _ _ ⟨rfl,aj.intro e rfl fun l1 s2 b=>?_⟩;have d:av s2 l1 (0+(0:Int).toNat*1)=some (.int .u64 x):=by rw [b.own.at.av];rfl
 have j:av s2 l1 (0+(1:Int).toNat*1)=some (.int .u64 y):=by rw [b.own.at.av];rfl
 refine ⟨_,_,V8 (i:=0) (by omega),_,d,af.dec (fun c=>⟨?_,b.ext⟩) (fun c=>⟨_,_,V8 (i:=0) (by omega),_,d,af.mk (fun h2=>⟨_,_,V8 (i:=1) (by omega),_,j,af.dec (fun h3=>⟨?_,b.ext⟩) (fun h3=>⟨?_,b.ext⟩)⟩) (fun h2=>⟨?_,b.ext⟩)⟩)⟩
 ·simp [qA,c]
 ·simp [qA,c,h2,h3]
 ·simp [qA,c,h2,h3]
 ·simp [qA,c,h2]
theorem OO {g:AV} {P:Int->Bool} {s:AS} (d:aM s) (j:∀ x s1,Ext s s1->aM s1->er Tryz.prog g [.int .u64 x] s1 fun v s'=>v=.bool (P x)/\Ext s1 s'/\aM s'):aa Tryz.prog uE [g] s fun r s'=>r=.int .u32 (Rp P)/\Ext s s':=by
 refine Nf _ _ _ ⟨fun vs s'=>vs=[.int .u64 (z0 P 38)]/\Ext s s',?_,fun m vs s'=>∃ i:Nat,vs=[.int .u64 (z0 P i),.int .i64 (i:Nat)]/\i<=38/\m=38 - i/\Ext s s'/\aM s',38,⟨0,rfl,by omega,rfl,Ext.refl _,d⟩,?_⟩
 ·rintro n2 s3 ⟨h,e⟩;simp only [List.cons.injEq,AV.int.injEq,true_and,and_true] at h;subst h;exact ⟨rfl,e⟩
 ·rintro m o p c ⟨i,hi,y,rfl,b,k⟩;simp only [List.cons.injEq,AV.int.injEq,true_and,and_true] at hi;obtain ⟨rfl,rfl⟩:=hi;refine af.dec (fun l=>?_) (fun n=>?_)
  ·refine ⟨by rw [aW (by omega)];omega,_,rfl,?_⟩;have:=j (Tp .u64 (z0 P i) (shl .u64 1 (IntKind.wrap .i64 (37 - (i:Int))))) c b k;have key:∀ (g:AV) {R R':AV->AS->Prop},er Tryz.prog g [.int .u64 (Tp .u64 (z0 P i) (shl .u64 1 (IntKind.wrap .i64 (37 - (i:Int)))))] c R->(∀ v s',R v s'->R' v s')->er Tryz.prog g [.int .u64 (Tp .u64 (z0 P i) (shl .u64 1 (IntKind.wrap .i64 (37 - (i:Int)))))] c R':=by
    intro g R R' h hr;cases g <;> first | exact h.elim | exact aa.mono h hr
   refine key _ this ?_;rintro v s' ⟨rfl,e,w⟩;refine ⟨_,rfl,af.mk (fun hb=>⟨38 - (i+1),by omega,i+1,?_,by omega,rfl,b.trans e,w⟩) (fun hb=>⟨38 - (i+1),by omega,i+1,?_,by omega,rfl,b.trans e,w⟩)⟩
   ·rw [Cj (by omega),z0,ET,if_neg (by simpa using hb)];rfl
   ·rw [Cj (by omega),z0,ET,if_pos (by simpa using hb)]
  ·obtain rfl:i=38:=by omega
   exact ⟨rfl,b⟩
theorem P6 {s:AS} {l:Nat} {p:Int} (h:At s l [.int .u64 p]) (x:Int):aa Tryz.prog nJ [.int .u64 x,.ptr (some (l,0))] s fun r s'=>r=.bool (qA ((yo x).getD 0 0) ((yo x).getD 1 0) (Oz x) p)/\Ext s s':=by
 refine BR _ _ _ _ ?_;refine aa.use (TU _ _) ?_;rintro v s2 ⟨rfl,e2⟩ w2;refine ⟨_,_,rfl,lq w2 rfl rfl rfl fun c s7 F=>?_⟩;refine ⟨_,F.own.at.aD (by simp [yo]),_,by rw [((h.ext e2).ext F.ext).av];rfl,?_⟩;refine aa.use (LL _ _ _ _ _) ?_;rintro v s3 ⟨rfl,b⟩ d;exact ⟨_,rfl,rfl,(e2.trans F.ext).trans b⟩
theorem LM (p:Int) (s:AS):aa Tryz.prog qD [.int .u64 p] s fun r s'=>r=.int .u32 (MT p)/\Ext s s':=by
 refine aa.pre fun b=>Fe _ _ _ (aj.intro b rfl fun l1 s2 F=>?_);refine aa.use (OO (P:=fun x=>qA ((yo x).getD 0 0) ((yo x).getD 1 0) (Oz x) p) F.wf fun x s1 e w=>?_) ?_
 ·show aa _ _ _ _ _;refine aa.use (P6 (F.own.at.ext e) x) ?_;rintro v s' ⟨rfl,c⟩ w';exact ⟨rfl,c,w'⟩
 ·rintro v s4 ⟨rfl,d⟩ i;exact ⟨_,rfl,rfl,F.ext.trans d⟩
theorem P7 {s:AS} {l:Nat} {p:Int} (h:At s l [.int .u64 p]) (x:Int):aa Tryz.prog sn [.int .u64 x,.ptr (some (l,0))] s fun r s'=>r=.bool (qA (oB x x).1 (oB x x).2 false p)/\Ext s s':=by
 refine Gq _ _ _ _ ⟨fun _ _ _ _=>True,fun _ _ v=>v=.agg [.int .u64 (oB x x).1,.int .u64 (oB x x).2],fun _ _ _ _ _ _ _=>trivial,?_⟩;refine ⟨fun s1 e1 w1 _=>?_,⟨_,rfl⟩,?_⟩
 ·refine (HF _ _).mono ?_;rintro v s3 ⟨rfl,b⟩;exact ⟨_,rfl,b,trivial,rfl⟩
 ·rintro v rfl;refine ⟨_,rfl,_,by rw [h.av];rfl,fun d c e _=>?_⟩;refine aa.use (LL _ _ _ _ _) ?_;rintro v s3 ⟨rfl,b⟩ i;exact ⟨_,rfl,rfl,c.trans b⟩
theorem R4 (p:Int) (s:AS):aa Tryz.prog wH [.int .u64 p] s fun r s'=>r=.int .u32 (Rq p)/\Ext s s':=by
 refine aa.pre fun b=>KV _ _ _ (aj.intro b rfl fun l1 s2 F=>?_);refine aa.use (OO (P:=fun x=>qA (oB x x).1 (oB x x).2 false p) F.wf fun x s1 e w=>?_) ?_
 ·show aa _ _ _ _ _;refine aa.use (P7 (F.own.at.ext e) x) ?_;rintro v s' ⟨rfl,c⟩ w';exact ⟨rfl,c,w'⟩
 ·rintro v s4 ⟨rfl,d⟩ i;exact ⟨_,rfl,rfl,F.ext.trans d⟩
end Go.Proofs.YtohgmogbabkkeaaGreat
end

section
namespace Go.Proofs.YtohgmogbabkkeaaGreat
open Go.Am Go.au
def wW (n:Int):List AV:=[.int .u64 n]
theorem tO (n:Int):(wW n).length=1:=rfl
theorem LN:Bx T fm jx 1 8:=⟨jA,jz,Rv,⟨_,_,Px,rfl,rfl⟩,by decide,by decide⟩
section
variable {s:AS} {a:AV} {l:List Int} {g:FuncId} {cap:List AV} {P:Int->Bool}
theorem GN (w:Sl wW 1 s a l) (I:l.length<=2 ^ 40) (z:∀ i∈l,∀ s',Ext s s'->aM s'->aa Tryz.prog g ([.int .u64 i]++cap) s' fun v s''=>v=.bool (P i)/\Ext s' s'') :
  aa Tryz.prog dB [a,.func g cap] s fun v s'=>Ext s s'/\∃ n:Int,v=.int .i64 n/\((n = -1/\l.any P=false)\/∃ k:Nat,n=k/\k<l.length/\(∃ x,l[k]? = some x/\P x=true)/\∀ j x,j<k->l[j]? = some x->P x=false):=by
 refine aa.pre fun A=>kC _ _ _ _ ⟨_,w.cI jA _,fun m vs s'=>∃ i:Nat,vs=[.int .i64 (i:Nat)]/\i<=l.length/\m=l.length - i/\Ext s s'/\aM s'/\(∀ j x,j<i->l[j]? = some x->P x=false),l.length,⟨0,rfl,by omega,rfl,Ext.refl _,A,by omega⟩,?_⟩;rintro m n s6 ⟨i,hi,J,rfl,d,B,b⟩;simp only [List.cons.injEq,AV.int.injEq,true_and,and_true] at hi;subst hi;refine af.dec (fun C=>?_) (fun D=>⟨d,-1,rfl,.inl ⟨rfl,?_⟩⟩)
 ·obtain ⟨x,c⟩:=de (l:=l) (i:=i) (by omega);obtain ⟨la,o,F,G⟩:=w.ix (by decide) tO jA jz c;refine ⟨la,o,F _,x,by simpa [wW] using (G _ d).1 0 (by decide),?_⟩;refine aa.use (z x (List.mem_of_getElem? c) s6 d B) ?_;rintro v H ⟨rfl,e⟩ p;refine ⟨_,rfl,af.mk (fun hb=>⟨d.trans e,_,rfl,.inr ⟨i,rfl,by omega,⟨x,c,hb⟩,b⟩⟩) (fun hb=>⟨l.length - (i+1),by omega,i+1,by rw [aW (by omega)];rfl,by omega,rfl,d.trans e,p,fun j y hj r=>?_⟩)⟩;rcases Nat.lt_or_ge j i with h | h
  ·exact b j y h r
  ·obtain rfl:j=i:=by omega
   rw [c] at r;obtain rfl:=Option.some.inj r;exact hb
 ·rw [List.any_eq_false];intro x c;obtain ⟨j,hj⟩:=List.mem_iff_getElem?.1 c;have:j<l.length:=by
   rcases Nat.lt_or_ge j l.length with h | h
   ·exact h
   ·rw [List.getElem?_eq_none h] at hj;cases hj
  rw [b j x (by omega) hj];simp
theorem tP (b:Sl wW 1 s a l) (c:l.length<=2 ^ 40) (d:∀ i∈l,∀ s',Ext s s'->aM s'->aa Tryz.prog g ([.int .u64 i]++cap) s' fun v s''=>v=.bool (P i)/\Ext s' s'') :
  aa Tryz.prog bZ [a,.func g cap] s fun v s'=>v=.bool (l.any P)/\Ext s s':=by
 refine jD _ _ _ _ ?_;refine aa.use (GN b c d) ?_;rintro v s2 ⟨e,n,rfl,h⟩ _;refine ⟨_,rfl,?_,e⟩;congr 1;rcases h with ⟨rfl,h⟩ | ⟨k,rfl,o,⟨x,j,m⟩,_⟩
 ·rw [h];decide
 ·rw [List.any_eq_true.2 ⟨x,List.mem_of_getElem? j,m⟩,decide_eq_true_eq];omega
end
section
variable {s:AS} {a:AV} {l:List aJ} {g:FuncId} {cap:List AV} {P:aJ->Bool}
theorem GO (w:Sl aN 2 s a l) (I:l.length<=2 ^ 40) (z:∀ i∈l,∀ s',Ext s s'->aM s'->aa Tryz.prog g ([.agg (aN i)]++cap) s' fun v s''=>v=.bool (P i)/\Ext s' s'') :
  aa Tryz.prog eS [a,.func g cap] s fun v s'=>Ext s s'/\∃ n:Int,v=.int .i64 n/\((n = -1/\l.any P=false)\/∃ k:Nat,n=k/\k<l.length/\(∃ x,l[k]? = some x/\P x=true)/\∀ j x,j<k->l[j]? = some x->P x=false):=by
 refine aa.pre fun A=>oL _ _ _ _ ⟨_,w.cI bF _,fun m vs s'=>∃ i:Nat,vs=[.int .i64 (i:Nat)]/\i<=l.length/\m=l.length - i/\Ext s s'/\aM s'/\(∀ j x,j<i->l[j]? = some x->P x=false),l.length,⟨0,rfl,by omega,rfl,Ext.refl _,A,by omega⟩,?_⟩;rintro m n s6 ⟨i,hi,J,rfl,d,B,b⟩;simp only [List.cons.injEq,AV.int.injEq,true_and,and_true] at hi;subst hi;refine af.dec (fun C=>?_) (fun D=>⟨d,-1,rfl,.inl ⟨rfl,?_⟩⟩)
 ·obtain ⟨x,c⟩:=de (l:=l) (i:=i) (by omega);obtain ⟨la,o,F,G⟩:=w.ix (by decide) bn bF jR c;refine ⟨la,o,F _,_,(G _ d).2,?_⟩;refine aa.use (z x (List.mem_of_getElem? c) s6 d B) ?_;rintro v H ⟨rfl,e⟩ p;refine ⟨_,rfl,af.mk (fun hb=>⟨d.trans e,_,rfl,.inr ⟨i,rfl,by omega,⟨x,c,hb⟩,b⟩⟩) (fun hb=>⟨l.length - (i+1),by omega,i+1,by rw [aW (by omega)];rfl,by omega,rfl,d.trans e,p,fun j y hj r=>?_⟩)⟩;rcases Nat.lt_or_ge j i with h | h
  ·exact b j y h r
  ·obtain rfl:j=i:=by omega
   rw [c] at r;obtain rfl:=Option.some.inj r;exact hb
 ·rw [List.any_eq_false];intro x c;obtain ⟨j,hj⟩:=List.mem_iff_getElem?.1 c;have:j<l.length:=by
   rcases Nat.lt_or_ge j l.length with h | h
   ·exact h
   ·rw [List.getElem?_eq_none h] at hj;cases hj
  rw [b j x (by omega) hj];simp
theorem Ck (b:Sl aN 2 s a l) (c:l.length<=2 ^ 40) (d:∀ i∈l,∀ s',Ext s s'->aM s'->aa Tryz.prog g ([.agg (aN i)]++cap) s' fun v s''=>v=.bool (P i)/\Ext s' s'') :
  aa Tryz.prog ef [a,.func g cap] s fun v s'=>v=.bool (l.any P)/\Ext s s':=by
 refine mA _ _ _ _ ?_;refine aa.use (GO b c d) ?_;rintro v s2 ⟨e,n,rfl,h⟩ _;refine ⟨_,rfl,?_,e⟩;congr 1;rcases h with ⟨rfl,h⟩ | ⟨k,rfl,o,⟨x,j,m⟩,_⟩
 ·rw [h];decide
 ·rw [List.any_eq_true.2 ⟨x,List.mem_of_getElem? j,m⟩,decide_eq_true_eq];omega
end
end Go.Proofs.YtohgmogbabkkeaaGreat
end
