/-
  A part of the proof: an abstract machine over the model, and contracts of functions of this program over it.
-/
import Derived.Test.YtohgmogbabkkeaaGreatP6
set_option linter.unusedVariables false
set_option linter.unusedSimpArgs false
set_option linter.unusedSectionVars false
section
namespace Go.Proofs.YtohgmogbabkkeaaGreat
open Go.Am Go.au Go.aC Go.bW
def aah (F:List Nat) (s s':AS):Prop:=∃ L,bD L s s'∧∀ y∈L,y∈F∧∀ g,Tag s y g→g=0∨g=16
theorem aah.mut {F:List Nat} {s s':AS} (h:aah F s s'):bD F s s':=by
 obtain ⟨L,m,hL⟩:=h
 exact m.mono fun y hy=>(hL y hy).1
structure abL (F Fc Fs:List Nat) (s:AS) (p pc ps:Nat) (sec:List Int) (f:List UInt8→Option Dv) (n:Nat) (c:iH) (x:aI):Prop where
 fe:l_ F s p sec f n
 th:∀ y∈F,s.h y≠none
 ca:jK Fc s pc c
 se:gJ Fs s ps x
 tc:∀ y∈Fc,s.h y≠none
 ts:∀ y∈Fs,s.h y≠none
 dc:Dj F Fc
 ds:Dj F Fs
 bl:c.NW.length=c.log.length
 ln:c.log.length≤2 ^ 27
 sz:∀ e∈c.log,e.vM.length≤2 ^ 29∧e.to.length≤2 ^ 29
 nl:x.nl<65536
 pl:∀ a d,f a=some d→d.place≤c.log.length∧d.hand.length≤d.place
noncomputable def yy (name:List UInt8) (d:Dv) (c:iH) (x:aI) (most:Int):List (Ev×List Int)×Nat:=scan (kS name d.cur x) (fun k=>!decide ((k:Int)<most)) ((vS c).drop d.place) 0
noncomputable def ER (name:List UInt8) (d:Dv) (c:iH) (x:aI) (most:Int):Dv:=⟨d.cur,d.place+(yy name d c x most).2,d.hand++(yy name d c x most).1.map Prod.snd⟩
section
variable {F Fc Fs:List Nat} {s:AS} {p pc ps n:Nat} {sec:List Int} {f:List UInt8→Option Dv} {c:iH} {x:aI}
theorem Ja (h:abL F Fc Fs s p pc ps sec f n c x) {s2:AS} (e2:Ext s s2) :
  aa Tryz.prog dV [.ptr (some (p,0))] s2 fun yW Fj=>∃ b42:Bool,yW=.bool b42∧(af b42 (aa Tryz.prog fE [(.ptr (some (pc,0)))] Fj fun So FC=>∃ p45:Option (Nat×Nat),So=.ptr p45∧(uD (iK T 100 iA (.ptr p45) (.ptr none)) fun b46=>af b46 ((fun vs s'=>vs=[AV.bool false]∧Ext s2 s'∧aM s') [(.bool true)] FC) (aa Tryz.prog iu [(.ptr (some (ps,0)))] FC fun Yz U8=>∃ p49:Option (Nat×Nat),Yz=.ptr p49∧(uD (iK T 100 lP (.ptr p49) (.ptr none)) fun b50=>(fun vs s'=>vs=[AV.bool false]∧Ext s2 s'∧aM s') [(.bool b50)] U8)))) ((fun vs s'=>vs=[AV.bool false]∧Ext s2 s'∧aM s') [(.bool false)] Fj)):=by
 refine aa.use (Ei (h.fe.ext e2)) ?_
 rintro v Fj ⟨rfl,rfl⟩ w41
 refine ⟨_,rfl,af.yes rfl ?_⟩
 refine aa.use (Z8 (h.ca.ext e2)) ?_
 rintro v FC ⟨⟨q,rfl⟩,Z4⟩ w44
 refine ⟨_,rfl,_,iI vZ _,af.no rfl ?_⟩
 refine aa.use (adT (h.se.ext (e2.trans Z4))) ?_
 rintro v U8 ⟨q2,rfl,_,_,e48⟩ w48
 exact ⟨_,rfl,_,iI xQ _,rfl,Z4.trans e48,w48⟩
set_option maxRecDepth 20000 in
theorem abM (h:abL F Fc Fs s p pc ps sec f n c x) (name:List UInt8) (most:Int) :
  aa Tryz.prog fA [.ptr (some (p,0)),.str name,.int .i64 most,.ptr (some (pc,0)),.ptr (some (ps,0))] s fun r s' =>
   ((¬ (aD name=true∧1≤most∧most≤16)∨f name=none)∧(∃ e:Int,e≠0∧r=.aQ [.slc none 0 0 true,.int .i64 e])∧Ext s s') ∨
   ((aD name=true∧1≤most∧most≤16)∧∃ (d:Dv) (out:AV) (Lo:List nE) (F':List Nat),f name=some d∧r=.aQ [out,.int .i64 0]∧bt ig 21 s' out Lo∧(∀ m∈Lo,kq (NX m) s' m)∧Lo.map nE.ev=(yy name d c x most).1.map Prod.fst ∧
    l_ F' s' p sec (kT f name (some (ER name d c x most))) n∧aah F s s'∧(∀ y∈F',y∈F∨s.h y=none)∧∀ y∈F',s'.h y≠none):=by
 refine aa.pre fun hw=>Ee _ _ _ _ _ _ _ (aj.intro hw rfl fun l1 s2 F2=>?_)
 refine ⟨fun vs s'=>vs=[.bool false]∧Ext s2 s'∧aM s',?_,Ja h F2.ext⟩
 rintro b s5 ⟨hb,e5,w5⟩
 obtain rfl:b=false:=by simpa using hb
 have E5:=F2.ext.trans e5
 have o5:=F2.own.ext e5
 refine af.no rfl ⟨fun vs s'=>vs=[.int .i64 (if ¬ (aD name=true∧1≤most∧most≤16) then 2 else if (f name).isNone=true then 7 else 0)]∧s'=s5,?_,most,by rw [o5.at.av];rfl,af.dec (fun h1=>⟨most,by rw [o5.at.av];rfl,?_⟩) (fun h1=>?_)⟩
 ·rintro n7 s8 ⟨hn,rfl⟩
  simp only [List.cons.injEq,AV.int.injEq,true_and,and_true] at hn
  subst hn
  by_cases hg:aD name=true∧1≤most∧most≤16
  ·rw [if_neg (fun h=>h hg)]
   cases hf:f name with
   | none =>
    rw [if_pos (show (none:Option Dv).isNone=true from rfl)]
    exact af.yes (by decide) (.inl ⟨.inr rfl,⟨7,by decide,rfl⟩,E5⟩)
   | some d =>
    rw [if_neg (by simp)]
    refine af.no (by decide) ?_
    have hF8:=h.fe.ext E5
    have agl:∀ y∈F,s8.h y≠none:=fun y hy=>by
     cases hq:s.h y with
     | none=>exact absurd hq (h.th y hy)
     | some o=>rw [E5.1 _ _ hq];simp
    obtain ⟨m,sv,hm,rfl,hD,op,⟨gsv,_⟩,mA,hpd,hsd,aeh⟩:=hF8.dev agl hf
    obtain ⟨ajq,agm⟩:=h.pl _ _ hf
    refine ⟨_,by rw [op.at.av];rfl,_,mA _ (Ext.refl _),aj.intro w5 rfl fun tJ jT F14=>bu.own F14.wf F14.own (by simp) fun f_ P15=>aj.intro P15.wf rfl fun rU lZ T0=>?_⟩
    have we:Am.Own f_ tJ [.ptr (some (m.l,0))]:=P15.at
    have E15:Ext s8 f_:=Ext.wr F14.ext F14.no P15.mut
    have E17:=E15.trans T0.ext
    have EI:=we.ext T0.ext
    have ajr:Am.Own lZ l1 [.int .i64 most]:=o5.ext E17
    have q17:Am.Own lZ rU [.slc none 0 0 true]:=T0.own
    have agn:=hD.mut (L:=[]) E17.mut (by simp)
    have wu:s8.h tJ=none:=F14.no
    have vg:s8.h rU=none:=E15.none T0.no
    have ht8:∀ y∈fo m,s8.h y≠none:=fun y hy=>agl y (hD.2.2.2 y hy)
    have k13:tJ ∉ rU::fo m:=fun hy=>by
     rcases List.mem_cons.1 hy with e | hy
     ·have:=T0.no
      rw [← e,we] at this;cases this
     ·exact ht8 _ hy wu
    have k16:rU ∉ fo m:=fun hy=>ht8 _ hy vg
    have k1:l1 ∉ rU::fo m:=fun hy=>by
     rcases List.mem_cons.1 hy with e | hy
     ·have:=T0.no
      rw [← e,o5.ext E15] at this;cases this
     ·exact h.th _ (hD.2.2.2 _ hy) F2.no
    have kl:m.l∈fo m:=by simp [fo]
    have oO:∀ y∈rU::fo m,y ∉ Fc∧y ∉ Fs:=fun y hy=>by
     rcases List.mem_cons.1 hy with rfl | hy
     ·exact ⟨fun hc=>h.tc _ hc (E5.none vg),fun hc=>h.ts _ hc (E5.none vg)⟩
     ·exact ⟨h.dc y (hD.2.2.2 y hy),h.ds y (hD.2.2.2 y hy)⟩
    have hHn:m.H.length≤m.d.place:=by rw [← List.length_map (f:=IV.v),hD.2.2.1];exact agm
    have Rf:=h.ln
    let Jb:AS→List (nE×IV)→AS→Prop:=fun sb d s'=>∃ out pM,Am.Own s' rU [out]∧Am.Own s' m.l (mZ m.d.cur m.d.place pM)∧bt ig 21 s' out (d.map Prod.fst)∧bt rR 16 s' pM (m.H++d.map Prod.snd)∧bD (rU::fo m) sb s'∧(∀ y∈ay out++ay pM,y∈fo m∨sb.h y=none)∧∀ z∈d,kq (NX z.1) s' z.1
    have ago:∀ sb d a b,Jb sb d a→Ext a b→Jb sb d b:=fun sb d a b ⟨out,pM,j1,j2,j3,j4,j5,j6,j7⟩ e=>⟨out,pM,j1.ext e,j2.ext e,j3.ext e,j4.ext e,j5.trans e.mut,j6,fun z hz=>(j7 z hz).ext e⟩
    have J0:∀ sb,Ext lZ sb→Jb sb [] sb:=fun sb e=>⟨_,m.hv,q17.ext e,agn.1.ext e,bt.nil,by simpa using agn.2.1.ext e,bD.refl _ _,fun y hy=>.inl (by simpa [ay,fo] using Or.inr (by simpa [ay] using hy)),by simp⟩
    have Lb:∀ s',bD (rU::fo m) lZ s'→av s' tJ 0=some (.ptr (some (m.l,0))):=fun s' mm=>by rw [(EI.mut mm k13).at.av];rfl
    have M0:bD (rU::fo m) lZ lZ:=bD.refl _ _
    refine ⟨fun a b=>bD (rU::fo m) a b,fun q _ v s'=>q=6→∃ d,v=.int .i64 ((m.d.place+(yy name m.d c x most).2:Nat):Int)∧d.map (fun z=>(z.1.ev,z.2.v))=(yy name m.d c x most).1∧Jb lZ d s',fun s'=>Ext lZ s',fun _ _ _ _=>True,fun q _ v=>q=6→∃ k,v=.int .i64 k,fun a b e=>e.mut,fun a b c x y=>x.trans y,fun q _ v a b e g hq=>by obtain ⟨d,x,y,z⟩:=g hq;exact ⟨d,x,y,ago _ _ _ _ z e⟩,fun _ _ _ _ _ _ _=>trivial,fun a b e g=>g.trans e,Ext.refl _,?_⟩
    refine ⟨_,Lb _ M0,fun s' x _=>⟨_,Lb _ x,rfl⟩,_,Lb _ M0,fun s' x _=>⟨_,Lb _ x,rfl⟩,fun s' _ _=>rfl,fun dM x25 H8 _ hc=>?_,⟨.int .i64 0,fun _=>⟨_,rfl⟩⟩,fun mb ajs=>?_⟩
    ·refine aa.use (Un (s0:=dM) (l:=m.l) (pl:=m.d.place) (cur:=m.d.cur) (stop:=fun k=>!decide ((k:Int)<most)) (J:=fun d s'=>Jb dM d s'∧aM s') m.len h.bl (by omega) h.sz h.nl (by omega) (fun d s' j=>j.2) (fun d a b j e w=>⟨ago _ _ _ _ j.1 e,w⟩) (fun d s' j=>by obtain ⟨⟨out,pM,j1,j2,_⟩,_⟩:=j;exact ⟨pM,j2⟩) (fun d s' j=>by obtain ⟨⟨out,pM,j1,j2,j3,j4,j5,_⟩,_⟩:=j;exact (h.ca.ext ((E5.trans E17).trans hc)).mut j5 fun y hy=>(oO y hy).1) (fun d s' j=>by obtain ⟨⟨out,pM,j1,j2,j3,j4,j5,_⟩,_⟩:=j;exact (h.se.ext ((E5.trans E17).trans hc)).mut j5 fun y hy=>(oO y hy).2) ?_ ⟨J0 _ hc,H8⟩) ?_
     ·rintro d s' m' v ⟨⟨out,pM,j1,j2,j3,j4,j5,j6,j7⟩,w'⟩ gE hdl
      have t1:=bt.tag j3
      have t2:=bt.tag j4
      refine (aag (pl:=m.d.place) m.len j1 ((EI.ext hc).mut j5 k13) ((ajr.ext hc).mut j5 k1) j2 j3 j4 (fun e=>k13 (by simp [← e])) (fun e=>k1 (by simp [← e])) (fun e=>k16 (by rw [e];exact kl)) (fun e=>k13 (by rw [e];simp [kl])) (fun e=>k1 (by rw [e];simp [kl])) (by simp;omega) (by simp;omega) m' v).mono ?_
      rintro r s2' ⟨rfl,out',hv2,g1,g2,g3,g4,g5,g6⟩
      refine ⟨by simp,fun w=>⟨⟨out',hv2,g1,g2,by simpa using g3,by rw [List.map_append,← List.append_assoc];exact g4,j5.new g5 fun y hy=>?_,fun y hy=>?_,fun z hz=>?_⟩,w⟩⟩
      ·rcases List.mem_cons.1 hy with rfl | hy
       ·exact .inl (by simp)
       ·rcases List.mem_cons.1 hy with rfl | hy
        ·exact .inl (by simp [kl])
        ·rcases j6 y hy with h | h
         ·exact .inl (by simp [h])
         ·exact .inr h
      ·rcases g6 y hy with h | h
       ·exact j6 y h
       ·by_cases hyd:y∈fo m
        ·exact .inl hyd
        ·right
         cases hq:dM.h y with
         | none=>rfl
         | some o =>
          have hne:y≠rU:=fun e=>by
           subst e
           rw [j1] at h;cases h
          rw [j5.1 y o (by simp only [List.mem_cons,not_or];exact ⟨hne,hyd⟩) hq] at h;cases h
      ·have hT:∀ y∈rU::m.l::(ay out++ay pM),∀ g,Tag s' y g→g≠1∧g≠3:=fun y hy g t=>by
        rcases List.mem_cons.1 hy with rfl | hy
        ·have:=t.uniq (Own.tag j1);omega
        ·rcases List.mem_cons.1 hy with rfl | hy
         ·have:=t.uniq (Own.tag j2);omega
         ·rcases List.mem_append.1 hy with hy | hy
          ·have:=t.uniq (t1 y hy);omega
          ·have:=t.uniq (t2 y hy);omega
       rcases List.mem_append.1 hz with hz | hz
       ·exact (j7 z hz).eW g5 hT
       ·obtain rfl:=List.mem_singleton.1 hz
        exact gE.eW g5 hT
     ·rintro K_ mQ ⟨d,rfl,hd,⟨jj,_⟩⟩ w27
      obtain ⟨out,pM,j1,j2,j3,j4,j5,j6,j7⟩:=jj
      exact ⟨_,rfl,⟨j5,(fun _=>⟨d,rfl,hd,out,pM,j1,j2,j3,j4,hc.mut.trans j5,fun y hy=>(j6 y hy).imp id hc.none,j7⟩)⟩,trivial,(fun _=>⟨_,rfl⟩)⟩
    ·obtain ⟨k,rfl⟩:=ajs rfl
     refine ⟨_,rfl,fun nA x31 NS _ hC=>?_⟩
     obtain ⟨d,hk,hd,out,pM,j1,j2,j3,j4,j5,j6,j7⟩:=hC rfl
     simp only [AV.int.injEq,true_and] at hk
     subst hk
     refine bu.own NS j2 (by rw [m_ m.len];simp) fun ku P=>?_
     have oP:Am.Own ku m.l (mZ m.d.cur ((m.d.place+(yy name m.d c x most).2:Nat):Int) pM):=by
      have:=P.at
      rw [fk,Nat.zero_add,(I_ m.len _ _ _ pM).1] at this;exact this
     have tl:∀ y∈[m.l],∀ g,Tag nA y g→g=0:=fun y hy g t=>by
      obtain rfl:=List.mem_singleton.1 hy
      exact t.uniq (Own.tag j2)
     have g3:=bt.eW j3 P.mut fun y hy g t=>by rw [tl y hy g t];decide
     have g4:=bt.eW j4 P.mut fun y hy g t=>by rw [tl y hy g t];decide
     have g7:∀ z∈d,kq (NX z.1) ku z.1:=fun z hz=>(j7 z hz).eW P.mut fun y hy g t=>by rw [tl y hy g t];decide
     have hlo:rU≠m.l:=fun e=>k16 (e ▸ kl)
     have MA:bD (fo m) s8 ku:=by
      have m1:bD (rU::fo m) s8 ku:=(E17.mut.trans j5).trans (P.mut.mono (by simp [kl]))
      refine ⟨fun y o hy ho=>m1.1 y o (fun hm=>?_) ho,m1.2⟩
      rcases List.mem_cons.1 hm with rfl | hm
      ·rw [vg] at ho;cases ho
      ·exact hy hm
     refine ⟨out,by rw [(j1.mut P.mut (by simpa using hlo)).at.av];rfl,.inr ⟨hg,m.d,out,d.map Prod.fst,?_⟩⟩
     obtain ⟨F',Ul,hs',ht'⟩:=aeh ku ⟨m.l,pM,ER name m.d c x most,m.H++d.map Prod.snd,m.len⟩ rfl MA oP g4 (by
      show _=m.d.hand++(yy name m.d c x most).1.map Prod.snd
      rw [List.map_append,hD.2.2.1,← hd];simp) (fun y hy=>(j6 y (List.mem_append_right _ hy)).imp id E17.none)
     refine ⟨F',rfl,rfl,g3,fun z hz=>?_,?_,Ul,⟨fo m,E5.mut.trans MA,fun y hy=>⟨hD.2.2.2 y hy,fun g t=>?_⟩⟩,fun y hy=>(hs' y hy).imp id E5.none,ht'⟩
     ·obtain ⟨w,CV,rfl⟩:=List.mem_map.1 hz
      exact g7 w CV
     ·rw [← hd];simp
     ·obtain ⟨cs,hcs⟩:=t
      have t8:Tag s8 y g:=⟨cs,E5.1 _ _ hcs⟩
      rcases List.mem_cons.1 hy with rfl | hy
      ·exact .inl (t8.uniq (Own.tag hD.1))
      ·exact .inr (t8.uniq (bt.tag hD.2.1 y hy))
  ·rw [if_pos hg]
   exact af.yes (by decide) (.inl ⟨.inl hg,⟨2,by decide,rfl⟩,E5⟩)
 ·refine aa.use (yx (h.fe.ext E5) name _) ?_
  rintro VE VN ⟨rfl,rfl⟩ w35
  refine ⟨_,rfl,?_,rfl⟩
  congr 3
  by_cases h2:aD name=true <;> by_cases h3:most≤16 <;> simp [h2,h3,show 1≤most from h1]
 ·refine aa.use (yx (h.fe.ext E5) name _) ?_
  rintro VE VN ⟨rfl,rfl⟩ w35
  refine ⟨_,rfl,?_,rfl⟩
  congr 3
  exact propext ⟨fun _ h=>h1 h.2.1,fun _=>by simp⟩
end
end Go.Proofs.YtohgmogbabkkeaaGreat
end

section
namespace Go.Proofs.YtohgmogbabkkeaaGreat
open Go.Am Go.au Go.aC Go.bW
section
variable {F Fc Fs:List Nat} {s:AS} {p pc ps n:Nat} {sec:List Int} {f:List UInt8→Option Dv} {c:iH} {x:aI}
theorem aai {s:AS} {l:Nat} {k:Int} (h:Am.Own s l [.int .i64 k]) (m:nE) (v:IV):aa Tryz.prog lA [.agg (ig m),.agg (rR v),.ptr (some (l,0))] s fun r s'=>r=.bool true∧Am.Own s' l [.int .i64 (IntKind.wrap .i64 (k+1))]∧bD [l] s s':=by
 refine aa.pre fun hw=>AX _ _ _ _ _ ⟨dz m,aj.intro hw rfl fun l1 s2 F2=>⟨mY v,aj.intro F2.wf rfl fun l3 s4 F4=>?_⟩⟩
 have e4:=F2.ext.trans F4.ext
 have o4:=h.ext e4
 exact ⟨k,by rw [o4.at.av];rfl,bu.own F4.wf o4 (by simp) fun s' P=>⟨rfl,P.at,e4.mut.trans P.mut⟩⟩
noncomputable def Lw (name:List UInt8) (d:Dv) (c:iH) (x:aI):Nat:=(scan (kS name d.cur x) (fun _=>false) ((vS c).drop d.place) 0).1.length
theorem abN (h:abL F Fc Fs s p pc ps sec f n c x) {name:List UInt8} (hn:aD name=true) {d:Dv} (hf:f name=some d) :
  aa Tryz.prog jR [.ptr (some (p,0)),.str name,.ptr (some (pc,0)),.ptr (some (ps,0))] s fun r s'=>r=.aQ [.int .i64 (Lw name d c x:Nat),.int .i64 0]∧Ext s s':=by
 refine aa.pre fun hw=>Eh _ _ _ _ _ _ ⟨fun vs s'=>vs=[.bool false]∧Ext s s'∧aM s',?_,Ja h (Ext.refl _)⟩
 rintro b s3 ⟨hb,e3,w3⟩
 obtain rfl:b=false:=by simpa using hb
 refine af.no rfl ?_
 refine aa.use (yx (h.fe.ext e3) name true) ?_
 rintro v4 s5 ⟨rfl,rfl⟩ w5
 rw [hn,hf]
 refine ⟨_,rfl,af.no rfl ?_⟩
 have SV:∀ y∈F,s5.h y≠none:=fun y hy=>by
  cases hq:s.h y with
  | none=>exact absurd hq (h.th y hy)
  | some o=>rw [e3.1 _ _ hq];simp
 obtain ⟨m,sv,hm,rfl,hD,op,_,mA,_⟩:=(h.fe.ext e3).dev SV hf
 obtain ⟨ajq,agm⟩:=h.pl _ _ hf
 refine aj.intro w5 rfl fun l7 s8 F8=>bu.own F8.wf F8.own (by simp) fun s9 P9=>?_
 have o9:Am.Own s9 l7 [.int .i64 0]:=P9.at
 have E9:Ext s5 s9:=Ext.wr F8.ext F8.no P9.mut
 have k7:∀ y∈[l7],y ∉ Fc∧y ∉ Fs∧y≠m.l:=fun y hy=>by
  obtain rfl:=List.mem_singleton.1 hy
  have hn:s.h y=none:=e3.none F8.no
  refine ⟨fun hc=>h.tc _ hc hn,fun hc=>h.ts _ hc hn,fun e=>?_⟩
  have:=F8.no
  rw [e,hD.1] at this;cases this
 have Rf:=h.ln
 refine ⟨_,by rw [(op.ext E9).at.av];rfl,_,mA _ E9,?_⟩
 refine aa.use (Un (s0:=s9) (l:=m.l) (pl:=m.d.place) (cur:=m.d.cur) (stop:=fun _=>false) (J:=fun d s'=>(Am.Own s' l7 [.int .i64 (d.length:Nat)]∧bD [l7] s9 s')∧aM s') m.len h.bl (by omega) h.sz h.nl (by omega) (fun d s' j=>j.2) (fun d a b j e w=>⟨⟨j.1.1.ext e,j.1.2.trans e.mut⟩,w⟩) (fun d s' j=>⟨m.hv,(hD.1.ext E9).mut j.1.2 fun hm=>(k7 _ hm).2.2 rfl⟩) (fun d s' j=>(h.ca.ext (e3.trans E9)).mut j.1.2 fun y hy=>(k7 y hy).1) (fun d s' j=>(h.se.ext (e3.trans E9)).mut j.1.2 fun y hy=>(k7 y hy).2.1) ?_ ⟨⟨o9,bD.refl _ _⟩,P9.wf⟩) ?_
 ·rintro d s' m' v ⟨⟨j1,j2⟩,w'⟩ gE hdl
  refine (aai j1 m' v).mono ?_
  rintro r s2 ⟨rfl,o2,m2⟩
  refine ⟨rfl,fun w=>⟨⟨?_,j2.trans m2⟩,w⟩⟩
  rw [Cp (by omega)] at o2
  simpa using o2
 ·rintro tK f_ ⟨d,rfl,hd,⟨j1,j2⟩,_⟩ w15
  refine ⟨_,rfl,(d.length:Nat),by rw [j1.at.av];rfl,?_,Ext.wrL (e3.trans E9) (fun y hy=>by obtain rfl:=List.mem_singleton.1 hy;exact e3.none F8.no) j2⟩
  rw [Lw,← hd,List.length_map]
def Qv (sec:List Int) (dev:List UInt8) (b:List Int) (v:List Int):Prop:=(b=[]∧v=eR)∨(VIn v∧uC v=true∧b=Cw sec dev v)
theorem Qv.len {sec:List Int} {dev:List UInt8} {b v:List Int} (h:Qv sec dev b v):v.length=16:=by
 rcases h with ⟨_,rfl⟩ | ⟨h,_⟩
 ·rfl
 ·exact h.len
theorem aei {s:AS} {sv bv:AV} {sec b v:List Int} (hs:gx s sv sec) (hl:sec.length≤64) {dev:List UInt8} (hn:aD dev=true) (hb:gx s bv b) (hc:Qv sec dev b v) :
  aa Tryz.prog oS [sv,.str dev,bv] s fun r s'=>r=.aQ [.agg (v.map (.int .u64)),.int .i64 0]∧Ext s s':=by
 rcases hc with ⟨rfl,rfl⟩ | ⟨h1,h2,rfl⟩
 ·refine (ad6 (sv:=sv) hb dev (.inr rfl)).mono ?_
  rintro r s' ⟨rfl,e⟩
  exact ⟨by rw [if_pos hn],e⟩
 ·exact ad7 hs hl dev hn h1 h2 hb
theorem Wm {v:List Int} (hv:v.length=16):aU T oH [(0,.agg (v.map (.int .u64)))]=some (.agg (mZ v 0 (.slc none 0 0 true))):=by
 obtain ⟨a,b,c,d,e,f,g,i,j,k,l,m,n,o,p,q,rfl⟩:=Z3 hv
 rw [qO (pl:=[(0,16),(16,1),(17,1)]) (by kernel_rfl) HT rfl]
 have q3:bJ (.agg ([a,b,c,d,e,f,g,i,j,k,l,m,n,o,p,q].map (AV.int .u64)))=some ([a,b,c,d,e,f,g,i,j,k,l,m,n,o,p,q].map (AV.int .u64)):=rfl
 simp only [List.map_cons,List.map_nil] at q3 ⊢
 simp only [jc,AV.cells,q3,List.getElem?_cons_zero,List.length_cons,List.length_nil,Nat.zero_add,Nat.reduceAdd,Nat.reduceLeDiff,and_self,if_true,Option.map_some]
 rfl
set_option maxRecDepth 20000 in
theorem Wn (h:l_ F s p sec f n) (As:∀ y∈F,s.h y≠none) (hl:sec.length≤64) (name:List UInt8) {bv:AV} {b v:List Int} (hb:gx s bv b) (hc:aD name=true→f name=none→Qv sec name b v) :
  aa Tryz.prog eD [.ptr (some (p,0)),.str name,bv] s fun r s' =>
   (¬ (aD name=true∧f name=none∧n<64)∧(∃ e:Int,e≠0∧r=.int .i64 e)∧Ext s s') ∨
   ((aD name=true∧f name=none∧n<64)∧r=.int .i64 0∧∃ F',l_ F' s' p sec (kT f name (some ⟨v,0,[]⟩)) (n+1)∧bD F s s'∧(∀ y∈F',y∈F∨s.h y=none)∧∀ y∈F',s'.h y≠none):=by
 refine aa.pre fun hw=>AI _ _ _ _ _ ?_
 refine aa.use (Ei h) ?_
 rintro v1 s2 ⟨rfl,rfl⟩ w2
 refine ⟨_,rfl,af.no rfl ?_⟩
 refine aa.use (vO name _) ?_
 rintro v4 s5 ⟨rfl,rfl⟩ w5
 refine ⟨_,rfl,af.mk (fun hn=>?_) (fun hn=>?_)⟩
 ·have hn':aD name=false:=by simpa using hn
  exact .inl ⟨(fun h=>by rw [hn'] at h;cases h.1),⟨2,by decide,rfl⟩,Ext.refl _⟩
 have hn':aD name=true:=by simpa using hn
 obtain ⟨sv,hm,es,k,h1,h2,h3,⟨a1,a2⟩,c1,c2,c3,c4,c5⟩:=id h
 have mA:∀ s',Ext s5 s'→dI T aF (.map (some hm)) (.str name) false s'=some (.ptr ((dU es name).map fun m=>(m.l,0))):=fun s' e=>by
  refine ((c1.ext e).find vR name false).trans ?_
  cases dU es name <;> rfl
 refine ⟨_,by rw [h1.at.av];rfl,_,mA _ (Ext.refl _),_,iI v_ _,?_⟩
 cases hq:dU es name with
 | some m=>exact af.yes rfl (.inl ⟨(fun hh=>by rw [(c3 _ _ hq).2] at hh;cases hh.2.1),⟨7,by decide,rfl⟩,Ext.refl _⟩)
 | none =>
  have hfn:=c4 _ hq
  refine af.no rfl ⟨sv,by rw [h1.at.av];rfl,?_⟩
  have rN:=hc hn' hfn
  have hvl:=rN.len
  refine aa.use (aei (a1.sl bT) hl hn' hb rN) ?_
  rintro yV kr ⟨rfl,e16⟩ w16
  refine ⟨_,_,rfl,lN w16 (by simp [hvl]) rfl (cg _ _) fun A1 gn F21=>af.no (by decide) ⟨_,by rw [((h1.ext e16).ext F21.ext).at.av];rfl,?_⟩⟩
  have E21:=e16.trans F21.ext
  refine ⟨_,(c1.ext E21).cG vR,af.dec (fun hge=>.inl ⟨fun hh=>by omega,⟨5,by decide,rfl⟩,E21⟩) (fun hlt=>?_)⟩
  refine ⟨fun q _ w s'=>q=7→∃ l,w=.ptr (some (l,0))∧Am.Own s' l (mZ v 0 (.slc none 0 0 true))∧gn.h l=none,fun q _ w=>q=7→∃ l,w=.ptr (some (l,0)),fun q _ w a b e g hq=>by obtain ⟨l,x,y,z⟩:=g hq;exact ⟨l,x,y.ext e,z⟩,_,by rw [((h1.ext e16).ext F21.ext).at.av];rfl,_,vrd hvl F21.own.at,_,Wm hvl,fun nA e31 NS _=>⟨?_,aj.intro NS rfl fun Ms qR F33=>⟨F33.ext,(fun _=>⟨Ms,rfl,F33.own,e31.none F33.no⟩),(fun _=>⟨Ms,rfl⟩)⟩⟩,⟨.ptr (some (0,0)),fun _=>⟨0,rfl⟩⟩,fun VE ajt=>?_⟩
  ·rw [mZ,List.all_append,cg];rfl
  obtain ⟨l,rfl⟩:=ajt rfl
  refine ⟨_,rfl,fun oI e36 w36 hS=>?_⟩
  obtain ⟨l',hl',MC,Zi⟩:=hS.1 rfl
  simp only [AV.ptr.injEq,Option.some.injEq,Prod.mk.injEq,and_true] at hl'
  subst hl'
  have Wk:=E21.trans e36
  let md:Wl:=⟨l,.slc none 0 0 true,⟨v,0,[]⟩,[],hvl⟩
  refine eJ.pL vR w36 (c1.ext Wk) name md fun xT es' k' hM Qw w38 m38=>.inr ⟨⟨hn',hfn,by omega⟩,rfl,?_⟩
  have KE:∀ {y g:Nat},Tag oI y g→y≠hm:=fun t e=>Tag.Uo (c1.ext Wk).obj (e ▸ t)
  have Rf:s5.h l=none:=E21.none Zi
  have hC:l_ (l::F) xT p sec (kT f name (some ⟨v,0,[]⟩)) (n+1):=by
   refine ⟨sv,hm,es',k',(h1.ext Wk).mut m38 (by simpa using KE (Own.tag (h1.ext Wk))),by simp [h2],by simp [h3],⟨(a1.ext Wk).mut m38 fun y hy hx=>KE (bt.tag (a1.ext Wk) y hy) (by simpa using hx),fun y hy=>by simp [a2 y hy]⟩,hM,?_,fun a y hy=>?_,fun a ha=>?_,fun a b y z hy hz hab=>?_⟩
   ·rw [Mb c1.nd hM.nd Qw,hq,← c2];rfl
   ·rw [Qw] at hy
    by_cases ha:a=name
    ·rw [if_pos ha] at hy
     obtain rfl:=Option.some.inj hy
     exact ⟨⟨MC.mut m38 (by simpa using KE (Own.tag MC)),bt.nil,rfl,fun y hy=>by simp [fo,ay,md] at hy;simp [hy]⟩,by rw [kT,if_pos ha]⟩
    ·rw [if_neg ha] at hy
     obtain ⟨hE,hfy⟩:=c3 a y hy
     have hE':=(hE.mut (L:=[]) Wk.mut (by simp)).mut m38 fun z hz hzd=>by
      obtain rfl:=List.mem_singleton.1 hz
      rcases List.mem_cons.1 hzd with e | hzd
      ·exact KE (Own.tag (hE.1.ext Wk)) e.symm
      ·exact KE (bt.tag (hE.2.1.ext Wk) _ hzd) rfl
     exact ⟨⟨hE'.1,hE'.2.1,hE'.2.2.1,fun z hz=>List.mem_cons_of_mem _ (hE'.2.2.2 z hz)⟩,by rw [kT,if_neg ha];exact hfy⟩
   ·rw [Qw] at ha
    by_cases hn2:a=name
    ·rw [if_pos hn2] at ha;cases ha
    ·rw [if_neg hn2] at ha
     rw [kT,if_neg hn2];exact c4 a ha
   ·have old:∀ (b:List UInt8) (y:Wl),dU es b=some y→∀ z,z∈fo md→z ∉ fo y:=fun b y hy z hz hzy=>by
     simp only [fo,ay,md,List.mem_cons,List.not_mem_nil,or_false] at hz
     subst hz
     exact As z ((c3 b y hy).1.2.2.2 z hzy) Rf
    rw [Qw] at hy hz
    by_cases ha:a=name
    ·rw [if_pos ha] at hy
     obtain rfl:=Option.some.inj hy
     rw [if_neg (by rw [← ha];exact Ne.symm hab)] at hz
     exact old b z hz
    ·rw [if_neg ha] at hy
     by_cases Em:b=name
     ·rw [if_pos Em] at hz
      obtain rfl:=Option.some.inj hz
      exact fun w hw CV=>old a y hy w CV hw
     ·rw [if_neg Em] at hz
      exact c5 a b y z hy hz hab
  obtain ⟨F0,hF0,hs0,ht0⟩:=hC.tight
  refine ⟨F0,hF0,Wk.mut.trans (m38.mono fun y hy=>by obtain rfl:=List.mem_singleton.1 hy;exact h3),fun y hy=>?_,ht0⟩
  rcases List.mem_cons.1 (hs0 y hy) with rfl | h
  ·exact .inr Rf
  ·exact .inl h
end
end Go.Proofs.YtohgmogbabkkeaaGreat
end

section
namespace Go.Proofs.YtohgmogbabkkeaaGreat
open Go.Am Go.au Go.aC Go.bW
theorem Wr {s:AS} {v:AV} {l:List IV} (hl:Sl rR 16 s v l) (hn:l.length≤2 ^ 30):aa Tryz.prog eo [v] s fun r s'=>aT rR 16 [] s s' r l:=by
 refine aa.pre fun hw=>nu _ _ _ ?_
 have main:aR (cZ T bp 0 []) fun g2=>aj (.cells g2 0 false) s fun l3 s4=>iG (aJ T bp bp (.slc (some (l3,0)) 0 0 true) v s4) fun v5 s6=>aT rR 16 [] s s6 v5 l:=by
  refine ⟨_,Bo gP,aj.intro hw rfl fun l3 s4 F=>?_⟩
  refine aT.kU gP cI mY F.wf (aT.start (M:=[]) F.ext.mut) (by simp) (hl.ext F.ext) (by simpa using hn) dB fun v' s' g _ _=>?_
  simpa using g
 rcases hl with ⟨rfl,_,sM⟩ | ⟨a,c,e,rfl,hlen,h3⟩
 ·refine ⟨_,si dB _ _ _ _,af.no rfl main⟩
 ·refine ⟨_,sg dB _ _ _ _ _ _ _ _,af.mk (fun h=>?_) (fun _=>main)⟩
  have:a=none:=by simpa using h
  subst this
  have:l=[]:=by
   rcases h3 with h3 | ⟨la,o,C,h,_⟩
   ·exact List.length_eq_zero_iff.1 h3
   ·cases h
  subst this
  exact aT.nil
theorem aaj {cur cur':List Int} (h:cur.length=16) (h':cur'.length=16) (pl:Int) (hv:AV):qJ (mZ cur pl hv) 0 (cur'.map (.int .u64))=mZ cur' pl hv:=by
 apply List.ext_getElem?
 intro k
 rw [jM _ _ _ _ (by rw [m_ h];simp [h'])]
 simp only [List.length_map,h',Nat.zero_add,Nat.zero_le,true_and,Nat.sub_zero,mZ]
 by_cases hk:k<16
 ·rw [if_pos hk,List.getElem?_append_left (by simp [h'];omega)]
 ·rw [if_neg hk,List.getElem?_append_right (by simp [h];omega),List.getElem?_append_right (by simp [h'];omega)]
  simp [h,h']
section
variable {F:List Nat} {s:AS} {p n:Nat} {sec:List Int} {f:List UInt8→Option Dv}
theorem Ws (h:l_ F s p sec f n) (As:∀ y∈F,s.h y≠none) (hl:sec.length≤64) (name:List UInt8) (hm:∀ d,f name=some d→uC d.cur=true) :
  aa Tryz.prog gU [.ptr (some (p,0)),.str name] s fun r s' =>
   ((aD name=false∨f name=none)∧(∃ e:Int,e≠0∧r=.aQ [.slc none 0 0 true,.int .i64 e])∧s'=s) ∨
   (aD name=true∧∃ d w s1,f name=some d∧r=.aQ [w,.int .i64 0]∧aT qH 1 [] s1 s' w (Cw sec name d.cur)∧l_ F s1 p sec (kT f name none) (n - 1)∧bD F s s1∧∀ y∈F,s1.h y≠none):=by
 refine aa.pre fun hw=>AT _ _ _ _ ?_
 refine aa.use (yx h name true) ?_
 rintro v1 s2 ⟨rfl,rfl⟩ w2
 refine ⟨_,rfl,?_⟩
 cases hn:aD name with
 | false=>exact af.yes rfl (.inl ⟨.inl rfl,⟨2,by decide,rfl⟩,rfl⟩)
 | true =>
  cases hf:f name with
  | none=>exact af.yes rfl (.inl ⟨.inr rfl,⟨7,by decide,rfl⟩,rfl⟩)
  | some d =>
   refine af.no rfl ?_
   obtain ⟨sv,vT,es,k,h1,h2,h3,⟨a1,a2⟩,c1,c2,c3,c4,c5⟩:=id h
   cases hq:dU es name with
   | none=>rw [c4 _ hq] at hf;cases hf
   | some m =>
    obtain ⟨hD,hfm⟩:=c3 _ _ hq
    rw [hf] at hfm
    obtain rfl:=Option.some.inj hfm
    have mA:dI T aF (.map (some vT)) (.str name) false s2=some (.ptr (some (m.l,0))):=by
     have:=c1.find vR name false
     rw [hq] at this;exact this
    refine ⟨_,by rw [h1.at.av];rfl,_,mA,_,by rw [h1.at.av];rfl,?_⟩
    refine eJ.del vR w2 c1 name hq fun fI es' hM Qw hlen YZ QV=>?_
    have KE:∀ {y g:Nat},Tag s2 y g→y≠vT:=fun t e=>Tag.Uo c1.obj (e ▸ t)
    have A0:=h1.mut QV (by simpa using KE (Own.tag h1))
    have agp:=a1.mut QV fun y hy hx=>KE (bt.tag a1 y hy) (by simpa using hx)
    have agq:∀ a y,dU es a=some y→IZ F fI y:=fun a y hy=>by
     obtain ⟨hE,_⟩:=c3 a y hy
     exact hE.mut QV fun z hz hzd=>by
      obtain rfl:=List.mem_singleton.1 hz
      rcases List.mem_cons.1 hzd with e | hzd
      ·exact KE (Own.tag hE.1) e.symm
      ·exact KE (bt.tag hE.2.1 _ hzd) rfl
    have dm:=agq _ _ hq
    refine ⟨sv,by rw [A0.at.av];rfl,_,dm.1.at.aB (by rw [m_ m.len];omega),?_⟩
    rw [CH m.len]
    refine aa.use (Qn (agp.sl bT) hl name m.len hn (hm _ hf)) ?_
    rintro tI iD ⟨w,rfl,g⟩ w19
    have e19:Ext fI iD:=g.eG.ext
    refine ⟨_,_,rfl,.inr ⟨rfl,m.d,w,fI,rfl,rfl,g,?_,?_,?_⟩⟩
    ·refine (l_.mk ⟨sv,vT,es',k,A0,h2,h3,⟨agp,a2⟩,hM,by omega,fun a y hy=>?_,fun a ha=>?_,fun a b y z hy hz hab=>?_⟩:l_ F fI p sec (kT f name none) (n - 1))
     ·rw [Qw] at hy
      by_cases ha:a=name
      ·rw [if_pos ha] at hy;cases hy
      ·rw [if_neg ha] at hy
       exact ⟨agq a y hy,by rw [kT,if_neg ha];exact (c3 a y hy).2⟩
     ·rw [Qw] at ha
      by_cases hn2:a=name
      ·rw [kT,if_pos hn2]
      ·rw [if_neg hn2] at ha
       rw [kT,if_neg hn2];exact c4 a ha
     ·rw [Qw] at hy hz
      by_cases ha:a=name
      ·rw [if_pos ha] at hy;cases hy
      ·by_cases hb:b=name
       ·rw [if_pos hb] at hz;cases hz
       ·rw [if_neg ha] at hy
        rw [if_neg hb] at hz
        exact c5 a b y z hy hz hab
    ·exact QV.mono fun y hy=>by obtain rfl:=List.mem_singleton.1 hy;exact h3
    ·intro y hy
     by_cases hy2:y=vT
     ·subst hy2;rw [hM.obj];simp
     ·cases Eo:s2.h y with
      | none=>exact absurd Eo (As y hy)
      | some o=>rw [QV.1 y o (by simpa using hy2) Eo];simp
def rZ (d:Dv) (k:Nat):Dv:=if k=0 then d else ⟨nD d.cur (d.hand.getD (k - 1) []),d.place,d.hand.drop k⟩
def aju (F : List Nat) (s : AS) (p n : Nat) (sec : List Int) (f : List UInt8 → Option Dv) (name : List UInt8) (k : Int) (r : AV) (s' : AS) : Prop :=
      ((aD name = false ∨ k < 0 ∨ (∀ d, f name = some d → k > d.hand.length)) ∧ (∃ e : Int, e ≠ 0 ∧ r = .aQ [.slc none 0 0 true, .int .i64 e]) ∧ s' = s) ∨
      (aD name = true ∧ ∃ (d : Dv) (j : Nat) (w : AV) (F' : List Nat) (s1 : AS), k = j ∧ f name = some d ∧ j ≤ d.hand.length ∧ r = .aQ [w, .int .i64 0] ∧ aT qH 1 [] s1 s' w (Cw sec name (rZ d j).cur) ∧ l_ F' s1 p sec (kT f name (some (rZ d j))) n ∧ aah F s s1 ∧ (∀ y ∈ F', y ∈ F ∨ s.h y = none) ∧ ∀ y ∈ F', s1.h y ≠ none)
set_option maxRecDepth 20000 in
theorem aej (h:l_ F s p sec f n) (As:∀ y∈F,s.h y≠none) (hl:sec.length≤64) (name:List UInt8) (k:Int) (hm:∀ d,f name=some d→∀ j,j≤d.hand.length→uC (rZ d j).cur=true) (hh:∀ d,f name=some d→d.hand.length≤2 ^ 28) :
  aa Tryz.prog kW [.ptr (some (p,0)),.str name,.int .i64 k] s (aju F s p n sec f name k):=by
 refine aa.pre fun hw=>Gt _ _ _ _ _ ?_
 refine aa.use (yx h name _) ?_
 rintro v1 s2 ⟨rfl,rfl⟩ w2
 refine ⟨_,rfl,?_⟩
 by_cases hk0:k<0
 ·have hkd:decide (k≥0)=false:=by rw [decide_eq_false_iff_not];omega
  rw [hkd,show (!aD name||!false)=true by simp]
  exact af.yes rfl (.inl ⟨.inr (.inl hk0),⟨2,by decide,rfl⟩,rfl⟩)
 have hk:k≥0:=by omega
 obtain ⟨j,rfl⟩:=Int.eq_ofNat_of_zero_le hk
 have hkd:decide ((j:Int)≥0)=true:=decide_eq_true hk
 rw [hkd]
 cases hn:aD name with
 | false=>exact af.yes rfl (.inl ⟨.inl hn,⟨2,by decide,rfl⟩,rfl⟩)
 | true =>
  cases hf:f name with
  | none=>exact af.yes rfl (.inl ⟨.inr (.inr fun d hd=>by rw [hf] at hd;cases hd),⟨7,by decide,rfl⟩,rfl⟩)
  | some d =>
   refine af.no rfl ?_
   obtain ⟨m,sv,vT,rfl,hD,op,⟨gsv,hsF⟩,mA,hpd,hsd,aeh⟩:=h.dev As hf
   have hHl:m.H.length=m.d.hand.length:=by rw [← hD.2.2.1,List.length_map]
   have CM:=hh _ hf
   have hdl:=m_ m.len m.d.place m.hv
   have hdp:=GZ m.len m.d.place m.hv
   have sl:=hD.2.1.sl cI
   refine ⟨_,by rw [op.at.av];rfl,_,mA _ (Ext.refl _),m.hv,by rw [hD.1.at.av];exact hdp.2,_,sl.cG dB _,af.dec (fun hgt=>.inl ⟨.inr (.inr fun d' hd'=>by rw [hf] at hd';obtain rfl:=Option.some.inj hd';omega),⟨6,by decide,rfl⟩,rfl⟩) (fun hle=>?_)⟩
   have hj:j≤m.d.hand.length:=by omega
   have kl:m.l∈fo m:=by simp [fo]
   refine ⟨fun vs s'=>Ext s2 s'∧aM s'∧j=0∨aM s'∧j≠0∧bD [m.l] s2 s'∧∃ pM ,Am.Own s' m.l (mZ (rZ m.d j).cur m.d.place pM)∧bt rR 16 s' pM (m.H.drop j)∧∀ y∈ay pM,s2.h y=none,?_,af.dec (fun hpos=>?_) (fun hz=>.inl ⟨Ext.refl _,w2,by omega⟩)⟩
   ·let PP:AV→AS→Prop:=fun v gn=>∃ (w:AV) (F':List Nat) (s1:AS),v=.aQ [w,.int .i64 0]∧aT qH 1 [] s1 gn w (Cw sec name (rZ m.d j).cur)∧l_ F' s1 p sec (kT f name (some (rZ m.d j))) n∧aah F s2 s1∧(∀ y∈F',y∈F∨s2.h y=none)∧∀ y∈F',s1.h y≠none
    have fin:∀ (bS:AS) (pM:AV) (H':List IV),aM bS→bD (fo m) s2 bS→Am.Own bS m.l (mZ (rZ m.d j).cur m.d.place pM)→bt rR 16 bS pM H'→H'.map IV.v=(rZ m.d j).hand→(rZ m.d j).cur.length=16→(rZ m.d j).place=m.d.place→(∀ y∈ay pM,y∈fo m∨s2.h y=none) →
      ai (some (p,0)) fun lR we=>dJ (av bS lR we) fun oh=>ai (some (m.l,0)) fun j_ wz=>aR (aB bS j_ wz 16) fun GU=>aa Tryz.prog fF [oh,(.str name),(.agg GU)] bS fun v20 gn=>∃ qm:AV,∃ uj:Int,v20=.aQ [qm,(.int .i64 uj)] ∧
       PP (.aQ [qm,(.int .i64 uj)]) gn:=by
     intro bS pM H' QZ mm ho hg hH yB CW L_
     have ajv:=op.mut mm hpd
     have wg:=gsv.mut mm hsd
     refine ⟨sv,by rw [ajv.at.av];rfl,_,ho.at.aB (by rw [m_ yB];omega),?_⟩
     rw [CH yB]
     refine aa.use (Qn (wg.sl bT) hl name yB hn (hm _ hf j hj)) ?_
     rintro v20 gn ⟨w,rfl,g⟩ w21
     obtain ⟨F',Ul,hs',ht'⟩:=aeh bS ⟨m.l,pM,rZ m.d j,H',yB⟩ rfl mm (by rw [CW];exact ho) hg hH L_
     refine ⟨_,_,rfl,w,F',bS,rfl,g,Ul,⟨fo m,mm,fun y hy=>⟨hD.2.2.2 y hy,fun g t=>?_⟩⟩,hs',ht'⟩
     rcases List.mem_cons.1 hy with rfl | hy
     ·exact .inl (t.uniq (Own.tag hD.1))
     ·exact .inr (t.uniq (bt.tag hD.2.1 y hy))
    have conv:∀ {P:AV→AS→Prop} (bS:AS),(ai (some (p,0)) fun lR we=>dJ (av bS lR we) fun oh=>ai (some (m.l,0)) fun j_ wz=>aR (aB bS j_ wz 16) fun GU=>aa Tryz.prog fF [oh,(.str name),(.agg GU)] bS fun v20 gn=>∃ qm:AV,∃ uj:Int,v20=.aQ [qm,(.int .i64 uj)]∧P (.aQ [qm,(.int .i64 uj)]) gn)→∀ {P':AV→AS→Prop},(∀ v s,P v s→P' v s)→ai (some (p,0)) fun lR we=>dJ (av bS lR we) fun oh=>ai (some (m.l,0)) fun j_ wz=>aR (aB bS j_ wz 16) fun GU=>aa Tryz.prog fF [oh,(.str name),(.agg GU)] bS fun v20 gn=>∃ qm:AV,∃ uj:Int,v20=.aQ [qm,(.int .i64 uj)]∧P' (.aQ [qm,(.int .i64 uj)]) gn:=by
     intro P bS hq P' hP
     obtain ⟨oh,Z9,GU,ajw,hc⟩:=hq
     refine ⟨oh,Z9,GU,ajw,hc.mono ?_⟩
     rintro v20 gn ⟨qm,uj,e,hp⟩
     exact ⟨qm,uj,e,hP _ _ hp⟩
    rintro bS (⟨Q1,QZ,rfl⟩ | ⟨QZ,hj0,m13,pM,wj,wg,wu⟩)
    ·have ha:rZ m.d 0=m.d:=rfl
     refine conv (P:=PP) bS (fin bS m.hv m.H QZ Q1.mut (by rw [ha];exact hD.1.ext Q1) (hD.2.1.ext Q1) (by rw [ha];exact hD.2.2.1) (by rw [ha];exact m.len) (by rw [ha]) fun y hy=>.inl (by simp [fo,hy])) ?_
     rintro v s ⟨w,F',s1,h1,h2⟩
     exact .inr ⟨hn,m.d,0,w,F',s1,rfl,hf,hj,h1,h2⟩
    ·have ha:rZ m.d j=⟨nD m.d.cur (m.d.hand.getD (j - 1) []),m.d.place,m.d.hand.drop j⟩:=by rw [rZ,if_neg hj0]
     refine conv (P:=PP) bS (fin bS pM (m.H.drop j) QZ (m13.mono (by simp [kl])) wj wg (by rw [ha,List.map_drop,hD.2.2.1]) (by rw [ha];exact dh _ _) (by rw [ha]) fun y hy=>.inr (wu y hy)) ?_
     rintro v s ⟨w,F',s1,h1,h2⟩
     exact .inr ⟨hn,m.d,j,w,F',s1,rfl,hf,hj,h1,h2⟩
   ·have hj0:j≠0:=by omega
    obtain ⟨y,hy⟩:=cW (l:=m.H) (i:=j - 1) (by omega)
    have hyv:m.d.hand.getD (j - 1) []=y.v:=by rw [List.getD_eq_getElem?_getD,← hD.2.2.1,List.getElem?_map,hy];rfl
    obtain ⟨la,o,k8,k9⟩:=sl.ix (by decide) cI dB uf hy
    have hw1:IntKind.wrap .i64 ((j:Int) - 1)=((j - 1:Nat):Int):=by rw [aV (by omega)];omega
    rw [hw1]
    refine ⟨_,hD.1.at.aB (by omega),m.hv,by rw [hD.1.at.av];exact hdp.2,la,o,k8 _,_,(k9 _ (Ext.refl _)).2,?_⟩
    rw [CH m.len]
    refine aa.use (ZV m.len y.len _) ?_
    rintro qk ku ⟨rfl,e34⟩ w34
    refine ⟨_,rfl,⟨cg _ _,by simp [dh]⟩,bu.own w34 (hD.1.ext e34) (by simp [dh,hdl]) fun xT P38=>?_⟩
    have JD:Am.Own xT m.l (mZ (nD m.d.cur y.v) m.d.place m.hv):=by
     have:=P38.at
     rw [aaj m.len (dh _ _)] at this;exact this
    have ajx:=GZ (dh m.d.cur y.v) m.d.place m.hv
    have tl:∀ z∈[m.l],∀ g,Tag ku z g→g=0:=fun z hz g t=>by
     obtain rfl:=List.mem_singleton.1 hz
     exact t.uniq (Own.tag (hD.1.ext e34))
    have g38:=bt.eW (hD.2.1.ext e34) P38.mut fun z hz g t=>by rw [tl z hz g t];decide
    obtain ⟨y4,h42,K7⟩:=(g38.sl cI).rest cI dB uf (i:=j) (by omega) .i64
    refine ⟨m.hv,by rw [JD.at.av];exact ajx.2,y4,h42,?_⟩
    refine aa.use (Wr K7 (by simp;omega)) ?_
    rintro So FC RQ w44
    have Zh:=JD.ext RQ.eG.ext
    refine cL RQ.iW.2 rz (bu.own w44 Zh (by rw [m_ (dh _ _)];simp) fun wD P47=>.inr ⟨P47.wf,hj0,?_,So,?_,?_,?_⟩)
    ·exact ((e34.mut.trans P38.mut).trans RQ.eG.ext.mut).trans P47.mut
    ·have:=P47.at
     rw [fk,Nat.zero_add,(I_ (dh _ _) _ 0 _ So).2] at this
     rw [rZ,if_neg hj0,hyv];exact this
    ·have t44:∀ z∈[m.l],∀ g,Tag FC z g→g=0:=fun z hz g t=>by
      obtain rfl:=List.mem_singleton.1 hz
      exact t.uniq (Own.tag Zh)
     exact bt.eW RQ.wq P47.mut fun z hz g t=>by rw [t44 z hz g t];decide
    ·intro z hz
     have:=RQ.new z hz
     cases hq:s2.h z with
     | none=>rfl
     | some ob =>
      have hne:z≠m.l:=fun e=>by subst e;rw [JD] at this;cases this
      rw [P38.eq z hne,e34.1 z ob hq] at this;cases this
end
end Go.Proofs.YtohgmogbabkkeaaGreat
end

section
namespace Go.Proofs.YtohgmogbabkkeaaGreat
open Go.Am Go.au Go.aC Go.bW
def Ap (s0 s:AS) (Rs:List (List Nat)):Prop:=Ext s0 s∧Rs.Pairwise Dj∧∀ R∈Rs,∀ y∈R,s0.h y=none∧s.h y≠none
section
variable {s0 s s':AS} {Rs A B:List (List Nat)} {R R':List Nat}
theorem Ext.there {y:Nat} (e:Ext s s') (h:s.h y≠none):s'.h y≠none:=by
 cases hq:s.h y with
 | none=>exact absurd hq h
 | some o=>rw [e.1 y o hq];simp
theorem Ap.ext (h:Ap s0 s Rs) (e:Ext s s'):Ap s0 s' Rs:=⟨h.1.trans e,h.2.1,fun R hR y hy=>⟨(h.2.2 R hR y hy).1,Ext.there e (h.2.2 R hR y hy).2⟩⟩
theorem Ap.pL (h:Ap s0 s (A++R::B)) (m:bD R s s') (hn:∀ y∈R',y∈R∨s.h y=none) (ht:∀ y∈R',s'.h y≠none):Ap s0 s' (A++R'::B):=by
 obtain ⟨e,hp,hA⟩:=h
 obtain ⟨p1,p2,p3⟩:=List.pairwise_append.1 hp
 obtain ⟨p4,p5⟩:=List.pairwise_cons.1 p2
 have hR:∀ y∈R,s0.h y=none∧s.h y≠none:=hA R (by simp)
 have e':Ext s0 s':=Ext.wrL e (fun y hy=>(hR y hy).1) m
 have oth:∀ Q,Q∈A∨Q∈B→Dj Q R∧∀ y∈Q,s0.h y=none∧s.h y≠none:=fun Q hQ=>by
  rcases hQ with hQ | hQ
  ·exact ⟨p3 Q hQ R (by simp),hA Q (by simp [hQ])⟩
  ·exact ⟨(p4 Q hQ).symm,hA Q (by simp [hQ])⟩
 have dj':∀ Q,Q∈A∨Q∈B→Dj R' Q:=fun Q hQ=>Dj.step (oth Q hQ).1.symm (fun y hy=>((oth Q hQ).2 y hy).2) hn
 refine ⟨e',List.pairwise_append.2 ⟨p1,List.pairwise_cons.2 ⟨fun Q hQ=>dj' Q (.inr hQ),p5⟩,fun a ha b hb=>?_⟩,fun Q hQ y hy=>?_⟩
 ·rcases List.mem_cons.1 hb with rfl | hb
  ·exact (dj' a (.inl ha)).symm
  ·exact p3 a ha b (by simp [hb])
 ·have hQ':Q=R'∨(Q∈A∨Q∈B):=by
   simp only [List.mem_append,List.mem_cons] at hQ
   rcases hQ with h | h | h
   ·exact .inr (.inl h)
   ·exact .inl h
   ·exact .inr (.inr h)
  rcases hQ' with rfl | hQ'
  ·refine ⟨?_,ht y hy⟩
   rcases hn y hy with h | h
   ·exact (hR y h).1
   ·exact e.none h
  ·obtain ⟨d,t⟩:=oth Q hQ'
   refine ⟨(t y hy).1,?_⟩
   cases hq:s.h y with
   | none=>exact absurd hq (t y hy).2
   | some o=>rw [m.1 y o (fun hm=>d y hy hm) hq];simp
theorem Ap.new (h:Ap s0 s Rs) (e:Ext s s') (hn:∀ y∈R,s.h y=none) (ht:∀ y∈R,s'.h y≠none):Ap s0 s' (R::Rs):=by
 have h':=h.ext e
 refine ⟨h'.1,List.pairwise_cons.2 ⟨fun Q hQ y hy hq=>(h.2.2 Q hQ y hq).2 (hn y hy),h.2.1⟩,fun Q hQ y hy=>?_⟩
 rcases List.mem_cons.1 hQ with rfl | hQ
 ·exact ⟨h.1.none (hn y hy),ht y hy⟩
 ·exact h'.2.2 Q hQ y hy
theorem Ap.obj (h:Ap s0 s Rs) {l:Nat} {cs:List AV} (F:qY s s' l (.cells cs 0 false)):Ap s0 s' ([l]::Rs) :=
 h.new F.ext (fun y hy=>by obtain rfl:=List.mem_singleton.1 hy;exact F.no) fun y hy=>by
  obtain rfl:=List.mem_singleton.1 hy
  rw [F.own];simp
theorem Ap.perm {Rs':List (List Nat)} (h:Ap s0 s Rs) (p:Rs.Perm Rs'):Ap s0 s Rs' :=
 ⟨h.1,(p.pairwise_iff fun {a b} d=>Dj.symm d).1 h.2.1,fun R hR=>h.2.2 R (p.mem_iff.2 hR)⟩
theorem Ap.ij (h:Ap s0 s Rs) (i j:Nat) {P Q:List Nat} (hi:Rs[i]? = some P) (hj:Rs[j]? = some Q) (hne:i≠j):Dj P Q:=by
 have hp:=h.2.1
 obtain ⟨hi',rfl⟩:=List.getElem?_eq_some_iff.1 hi
 obtain ⟨hj',rfl⟩:=List.getElem?_eq_some_iff.1 hj
 rcases Nat.lt_or_gt_of_ne hne with hl | hl
 ·exact List.pairwise_iff_getElem.1 hp i j hi' hj' hl
 ·exact (List.pairwise_iff_getElem.1 hp j i hj' hi' hl).symm
theorem Ap.th (h:Ap s0 s Rs) (i:Nat) {P:List Nat} (hi:Rs[i]? = some P):∀ y∈P,s.h y≠none:=fun y hy=>(h.2.2 P (List.mem_of_getElem? hi) y hy).2
theorem Ap.tail (h:Ap s0 s (R::Rs)):Ap s0 s Rs:=⟨h.1,(List.pairwise_cons.1 h.2.1).2,fun Q hQ=>h.2.2 Q (by simp [hQ])⟩
end
structure Wq (s:AS) (l pc ps pv pw:Nat) (Fc Fs Fv Fw:List Nat) (c:iH) (x:aI) (v:List Int) (n:Nat) (y:aI):Prop where
 own:Am.Own s l [.ptr (some (pc,0)),.ptr (some (ps,0)),.ptr (some (pv,0)),.ptr (some (pw,0))]
 ca:jK Fc s pc c
 se:gJ Fs s ps x
 rc:IY Fv s pv v n
 re:qd Fw s pw y
section
variable {s0 s s':AS} {l pc ps pv pw n n':Nat} {Fc Fs Fv Fw F':List Nat} {c c':iH} {x x' y y':aI} {v v':List Int} {Gs:List (List Nat)}
theorem Wq.mut {L:List Nat} (h:Wq s l pc ps pv pw Fc Fs Fv Fw c x v n y) (m:bD L s s') (d0:Dj L [l]) (d1:Dj L Fc) (d2:Dj L Fs) (d3:Dj L Fv) (d4:Dj L Fw):Wq s' l pc ps pv pw Fc Fs Fv Fw c x v n y :=
 ⟨h.own.mut m fun hm=>d0 l hm (by simp),h.ca.mut m d1,h.se.mut m d2,h.rc.mut m d3,h.re.mut m d4⟩
theorem Wq.ext (h:Wq s l pc ps pv pw Fc Fs Fv Fw c x v n y) (e:Ext s s'):Wq s' l pc ps pv pw Fc Fs Fv Fw c x v n y :=
 h.mut (L:=[]) e.mut (fun _ h=>by cases h) (fun _ h=>by cases h) (fun _ h=>by cases h) (fun _ h=>by cases h) (fun _ h=>by cases h)
theorem Wq.ajy (h:Wq s l pc ps pv pw Fc Fs Fv Fw c x v n y) (A:Ap s0 s ([l]::Fc::Fs::Fv::Fw::Gs)) (m:bD Fc s s') (h':jK F' s' pc c') (hn:∀ y∈F',y∈Fc∨s.h y=none) (ht:∀ y∈F',s'.h y≠none) :
  Wq s' l pc ps pv pw F' Fs Fv Fw c' x v n y∧Ap s0 s' ([l]::F'::Fs::Fv::Fw::Gs) :=
 ⟨⟨h.own.mut m fun hm=>A.ij 1 0 rfl rfl (by decide) l hm (by simp),h',h.se.mut m (A.ij 1 2 rfl rfl (by decide)),h.rc.mut m (A.ij 1 3 rfl rfl (by decide)),h.re.mut m (A.ij 1 4 rfl rfl (by decide))⟩,Ap.pL (A:=[[l]]) A m hn ht⟩
theorem Wq.agr (h:Wq s l pc ps pv pw Fc Fs Fv Fw c x v n y) (A:Ap s0 s ([l]::Fc::Fs::Fv::Fw::Gs)) (m:bD Fs s s') (h':gJ F' s' ps x') (hn:∀ y∈F',y∈Fs∨s.h y=none) (ht:∀ y∈F',s'.h y≠none) :
  Wq s' l pc ps pv pw Fc F' Fv Fw c x' v n y∧Ap s0 s' ([l]::Fc::F'::Fv::Fw::Gs) :=
 ⟨⟨h.own.mut m fun hm=>A.ij 2 0 rfl rfl (by decide) l hm (by simp),h.ca.mut m (A.ij 2 1 rfl rfl (by decide)),h',h.rc.mut m (A.ij 2 3 rfl rfl (by decide)),h.re.mut m (A.ij 2 4 rfl rfl (by decide))⟩,Ap.pL (A:=[[l],Fc]) A m hn ht⟩
theorem Wq.ags (h:Wq s l pc ps pv pw Fc Fs Fv Fw c x v n y) (A:Ap s0 s ([l]::Fc::Fs::Fv::Fw::Gs)) (m:bD Fv s s') (h':IY F' s' pv v' n') (hn:∀ y∈F',y∈Fv∨s.h y=none) (ht:∀ y∈F',s'.h y≠none) :
  Wq s' l pc ps pv pw Fc Fs F' Fw c x v' n' y∧Ap s0 s' ([l]::Fc::Fs::F'::Fw::Gs) :=
 ⟨⟨h.own.mut m fun hm=>A.ij 3 0 rfl rfl (by decide) l hm (by simp),h.ca.mut m (A.ij 3 1 rfl rfl (by decide)),h.se.mut m (A.ij 3 2 rfl rfl (by decide)),h',h.re.mut m (A.ij 3 4 rfl rfl (by decide))⟩,Ap.pL (A:=[[l],Fc,Fs]) A m hn ht⟩
theorem Wq.ajz (h:Wq s l pc ps pv pw Fc Fs Fv Fw c x v n y) (A:Ap s0 s ([l]::Fc::Fs::Fv::Fw::Gs)) (m:bD Fw s s') (h':qd F' s' pw y') (hn:∀ y∈F',y∈Fw∨s.h y=none) (ht:∀ y∈F',s'.h y≠none) :
  Wq s' l pc ps pv pw Fc Fs Fv F' c x v n y'∧Ap s0 s' ([l]::Fc::Fs::Fv::F'::Gs) :=
 ⟨⟨h.own.mut m fun hm=>A.ij 4 0 rfl rfl (by decide) l hm (by simp),h.ca.mut m (A.ij 4 1 rfl rfl (by decide)),h.se.mut m (A.ij 4 2 rfl rfl (by decide)),h.rc.mut m (A.ij 4 3 rfl rfl (by decide)),h'⟩,Ap.pL (A:=[[l],Fc,Fs,Fv]) A m hn ht⟩
theorem aak:aU T ny [(0,.int .i64 3),(1,.int .i64 1)]=some (.agg (fZ eR (.slc none 0 0 true) (.slc none 0 0 true) (.slc none 0 0 true))):=by kernel_rfl
theorem aal:aU T ry []=some (.agg (eR.map (.int .u64)++[.slc none 0 0 true,.slc none 0 0 true])):=by kernel_rfl
theorem aam (a b c d:Nat):aU T oW [(0,.ptr (some (a,0))),(1,.ptr (some (b,0))),(2,.ptr (some (c,0))),(3,.ptr (some (d,0)))]=some (.agg [.ptr (some (a,0)),.ptr (some (b,0)),.ptr (some (c,0)),.ptr (some (d,0))]):=by kernel_rfl
theorem aan (A:Ap s0 s Gs):aa Tryz.prog kF [] s fun r s'=>∃ l pc ps pv pw Fc Fs Fv Fw,r=.aQ [.ptr (some (l,0)),.bool true]∧Wq s' l pc ps pv pw Fc Fs Fv Fw iH.zero aI.zero eR 0 aI.zero∧Ap s0 s' ([l]::Fc::Fs::Fv::Fw::Gs)∧Ext s s':=by
 refine JX _ _ ?_
 refine aa.use (abF s) ?_
 rintro v1 s2 ⟨pc,Fc,rfl,hc,nc,tc,e2⟩ w2
 refine ⟨_,_,rfl,?_⟩
 refine aa.use (adR s2) ?_
 rintro v5 s6 ⟨ps,Fs,rfl,hs,ns,ts,e6⟩ w6
 refine ⟨_,rfl,_,aak,rfl,aj.intro w6 rfl fun pv jD SP=>⟨_,aal,rfl,aj.intro SP.wf rfl fun pw bS Ko=>⟨_,aam _ _ _ _,rfl,aj.intro Ko.wf rfl fun l kr ZZ=>?_⟩⟩⟩
 have A2:=A.new e2 nc tc
 have A6:=A2.new e6 ns ts
 have A16:=((A6.obj SP).obj Ko).obj ZZ
 have E16:=Ko.ext.trans ZZ.ext
 have E10:=SP.ext.trans E16
 refine ⟨l,pc,ps,pv,pw,Fc,Fs,[pv],[pw],rfl,⟨ZZ.own,hc.ext (e6.trans E10),hs.ext E10,⟨rfl,_,_,_,[],[],SP.own.ext E16,by simp,⟨bt.nil,by simp [ay],rfl⟩,⟨bt.nil,by simp [ay],rfl⟩⟩,⟨O9.zero,(fun y hy=>by cases hy),_,_,[],Ko.own.ext ZZ.ext,⟨rfl,(by simp),bt.nil⟩,⟨rfl,(by simp),bt.nil⟩,?_,by simp,by simp [ay],by simp [ay]⟩⟩,A16.perm ?_,e2.trans (e6.trans E10)⟩
 ·exact Items.zero
 ·refine List.Perm.cons _ ?_
  refine (List.Perm.swap _ _ _).trans ?_
  have p1:([pv]::[pw]::Fs::Fc::Gs).Perm ([pv]::[pw]::Fc::Fs::Gs):=.cons _ (.cons _ (.swap _ _ _))
  refine p1.trans ?_
  exact (List.perm_append_comm_assoc [[pv],[pw]] [Fc,Fs] Gs)
end
end Go.Proofs.YtohgmogbabkkeaaGreat
end

section
namespace Go.Proofs.YtohgmogbabkkeaaGreat
open Go.Am Go.au Go.aC Go.bW
section
variable {s0 s s':AS} {l pc ps pv pw n B:Nat} {Fc Fs Fv Fw F':List Nat} {c:iH} {x:aI} {v:List Int} {Gs:List (List Nat)}
def Wt (x x':aI) (t d:List UInt8):Prop:=((aD t&&aD d)=false∧x'=x)∨((aD t&&aD d)=true∧∃ (m:Int) (l:List aK),0≤m∧x.has ⟨1,m+1⟩=false∧(m=0∨x.has ⟨1,m⟩=true)∧qG x ⟨t,d⟩ l∧x'=(x.er (⟨⟨1,m+1⟩,⟨t,d⟩,false⟩::l.map eV)).2)
set_option maxRecDepth 20000 in
theorem NF (h:Wq s l pc ps pv pw Fc Fs Fv Fw c x v n x) (A:Ap s0 s ([l]::Fc::Fs::Fv::Fw::Gs)) (o:oB x B) (hB:B≤450) (hN:∀ d,x.has d=true→d.c≤1073741824) (t dv:List UInt8) :
  aa Tryz.prog cS [.ptr (some (l,0)),.str t,.str dv] s fun r s'=>r=.bool true∧∃ Fs' Fw' x',Wq s' l pc ps pv pw Fc Fs' Fv Fw' c x' v n x'∧Ap s0 s' ([l]::Fc::Fs'::Fv::Fw'::Gs)∧Wt x x' t dv∧bD (Fs++Fw) s s':=by
 obtain ⟨b1,b2⟩:=h.se.bnd o
 refine aa.pre fun hw=>uw _ _ _ _ _ ⟨some (pw,0),by rw [h.own.at.av];rfl,?_⟩
 refine aa.use (abH h.re (by omega)) ?_
 rintro v6 s7 ⟨rfl,m,rfl,hm0,hmn,hmh⟩ w7
 have hm:m≤1073741824:=by
  rcases hmh with rfl | hmh
  ·omega
  ·exact hN _ hmh
 have hwr:IntKind.wrap .u64 (m+1)=m+1:=gq (by omega)
 refine ⟨_,rfl,?_⟩
 rw [hwr]
 refine ⟨_,Au _ _,aj.intro w7 rfl fun nB fI yO=>⟨⟨rfl,rfl⟩,bu.own yO.wf yO.own (by simp [aN]) fun dg P12=>?_⟩⟩
 let d:aK:=⟨1,m+1⟩
 have hd:d.may=true:=aK.gz.2 (by simp only [d];omega)
 have yU:Am.Own dg nB (aN d):=P12.at
 have Dy:Ext s7 dg:=Ext.wr yO.ext yO.no P12.mut
 have h12:=h.ext Dy
 have A12:=A.ext Dy
 have agt:nB ∉ Fs:=fun hy=>A.th 2 rfl _ hy yO.no
 have nl:l ∉ Fs:=fun hy=>A.ij 2 0 rfl rfl (by decide) l hy (by simp)
 let k:Key:=⟨t,dv⟩
 have hk:k.may=(aD t&&aD dv):=rfl
 refine ⟨fun a b=>bD Fs a b,fun _ _ _ s'=>((aD t&&aD dv)=false∧gJ Fs s' ps x∧∀ y∈Fs,s'.h y≠none)∨((aD t&&aD dv)=true∧∃ F' L,qG x k L∧gJ F' s' ps (x.er (⟨d,k,false⟩::L.map eV)).2∧(∀ y∈F',y∈Fs∨dg.h y=none)∧∀ y∈F',s'.h y≠none),fun s'=>gJ Fs s' ps x∧∀ y∈Fs,s'.h y≠none,fun _ _ _ _=>True,fun _ _ v=>∃ w,v=.aQ [w,.int .i64 (if (aD t&&aD dv)=true then 0 else 2)],
  fun a b e=>e.mut,fun a b c x y=>x.trans y,?_,fun _ _ _ _ _ _ _=>trivial,fun a b e g=>⟨g.1.ext e,fun y hy=>Ext.there e (g.2 y hy)⟩,⟨h12.se,A12.th 2 rfl⟩,fun s' _ _=>rfl,some (ps,0),by rw [h12.own.at.av];rfl,fun s' x _=>⟨some (ps,0),by rw [(h12.own.mut x nl).at.av];rfl,rfl⟩,_,DZ _ _,_,yU.at.aB (by simp [aN]),fun s' x _=>⟨_,(yU.mut x agt).at.aB (by simp [aN]),rfl⟩,fun dM x25 H8 _ hc=>?_,⟨_,.slc none 0 0 true,rfl⟩,?_⟩
 ·rintro q ks v a b e (⟨g1,g2,g3⟩ | ⟨g1,F',L,g2,g3,g4,g5⟩)
  ·exact .inl ⟨g1,g2.ext e,fun y hy=>Ext.there e (g3 y hy)⟩
  ·exact .inr ⟨g1,F',L,g2,g3.ext e,g4,fun y hy=>Ext.there e (g5 y hy)⟩
 ·refine (adU hc.1 k d o.aiJ (by omega) (by omega) (by omega)).mono ?_
  rintro r s' (⟨hno,rfl,e⟩ | ⟨⟨y1,y2,y3⟩,v,L,kd,rfl,hs,F',hS,hn',ht',m⟩)
  ·have hnm:(aD t&&aD dv)=false:=by
    cases hq:(aD t&&aD dv) with
    | false=>rfl
    | true=>exact absurd ⟨by rw [hk,hq],hd,hmn⟩ hno
   exact ⟨_,_,rfl,⟨e.mut,.inl ⟨hnm,hc.1.ext e,fun y hy=>Ext.there e (hc.2 y hy)⟩⟩,trivial,_,by rw [hnm];rfl⟩
  ·have hnm:(aD t&&aD dv)=true:=y1
   have hps:=hc.1.pF
   refine ⟨_,_,rfl,⟨m.mono fun y hy=>?_,.inr ⟨hnm,F',L,kd,hS,fun y hy=>?_,ht'⟩⟩,trivial,_,by rw [hnm];rfl⟩
   ·obtain rfl:=List.mem_singleton.1 hy;exact hps
   ·rcases hn' y hy with rfl | h
    ·exact .inl hps
    ·exact vQ x25 h
 rintro v30 ⟨NT,rfl⟩
 refine ⟨_,_,rfl,fun qR x33 w33 _ hC=>?_⟩
 refine ⟨fun vs s'=>vs=[.bool (!(aD t&&aD dv))]∧s'=qR,?_,?_⟩
 ·rintro b oI ⟨hb,rfl⟩
  simp only [List.cons.injEq,AV.bool.injEq,and_true] at hb
  subst hb
  rcases hC with ⟨hnm,hS,As⟩ | ⟨hnm,F',L,kd,hS,Ul,ht'⟩
  ·rw [hnm]
   refine af.yes rfl ⟨rfl,?_⟩
   obtain ⟨W,A'⟩:=h12.agr A12 x33 hS (fun y hy=>.inl hy) As
   exact ⟨Fs,Fw,x,W,A',.inl ⟨hnm,rfl⟩,(Dy.mut.trans x33).mono fun y hy=>by simp [hy]⟩
  ·rw [hnm]
   obtain ⟨W,A'⟩:=h12.agr A12 x33 hS Ul ht'
   have MC:Am.Own oI nB (aN d):=yU.mut x33 agt
   refine af.no rfl ⟨some (pw,0),by rw [W.own.at.av];rfl,_,DZ _ _,_,MC.at.aB (by simp [aN]),?_⟩
   refine aa.use (SW W.re o (A'.th 4 rfl) hB k d hnm hd) ?_
   rintro y4 CR ⟨L',kd',_,Sj,F2,hR,hF2,ht2⟩ w43
   obtain rfl:=kd'.uniq kd.kd
   obtain ⟨W',A''⟩:=W.ajz A' (Sj.mono fun y hy=>by obtain rfl:=List.mem_singleton.1 hy;exact W.re.qF) hR hF2 ht2
   exact ⟨rfl,F',F2,_,W',A'',.inr ⟨hnm,m,_,hm0,hmn,hmh,kd,rfl⟩,((Dy.mut.trans x33).mono fun y hy=>by simp [hy]).trans (Sj.mono fun y hy=>by obtain rfl:=List.mem_singleton.1 hy;simp [W.re.qF])⟩
 ·refine aa.use (vG _ _) ?_
  rintro v s' ⟨rfl,rfl⟩ w
  refine ⟨_,rfl,af.mk (fun h=>?_) (fun h=>?_)⟩
  ·simp only [Bool.not_eq_true'] at h
   simp [h]
  ·have h1:aD t=true:=by simpa using h
   refine aa.use (vG _ _) ?_
   rintro v s' ⟨rfl,rfl⟩ w
   exact ⟨_,rfl,by simp [h1],rfl⟩
end
end Go.Proofs.YtohgmogbabkkeaaGreat
end

section
namespace Go.Proofs.YtohgmogbabkkeaaGreat
open Go.Am Go.au Go.aC Go.bW
def Qx:List Int:=[98,101,116,119,101,101,110,32,117,115]
theorem abO:cZ T aq 10 [(0,.int .u8 98),(1,.int .u8 101),(2,.int .u8 116),(3,.int .u8 119),(4,.int .u8 101),(5,.int .u8 101),(6,.int .u8 110),(7,.int .u8 32),(8,.int .u8 117),(9,.int .u8 115)]=some (Qx.map (.int .u8)):=by kernel_rfl
set_option maxRecDepth 20000 in
theorem Wu (s:AS):aa Tryz.prog jq [] s fun r s'=>gx s' r Qx∧Ext s s':=by
 refine aa.pre fun hw=>Ii _ _ ⟨_,abO,aj.intro hw rfl fun l s3 F3=>⟨.slc (some (l,0)) 10 10 true,s3,?_,?_,F3.ext⟩⟩
 ·have hl:s3.h l=some (.cells (Qx.map (.int .u8)) 1 false):=F3.at
  simp only [cP,aL,if_true,Bw,hl]
 ·exact bZ.mk (n:=10) (c:=10) ⟨_,_,F3.at⟩ (by decide) (by rfl)
section
variable {s0 s s':AS} {l pc ps pv pw n B:Nat} {Fc Fs Fv Fw F':List Nat} {c:iH} {x:aI} {v:List Int} {Gs:List (List Nat)}
theorem IY.NC {F:List Nat} {s:AS} {p n:Nat} {v:List Int} (h:IY F s p v n):∃ F0,IY F0 s p v n∧(∀ y∈F0,y∈F)∧(∀ y∈F0,s.h y≠none)∧∀ y∈F0,y≠p→¬ Tag s y 0:=by
 obtain ⟨hl,lg,bh,hd,L,B,h1,h2,⟨a1,a2,a3⟩,⟨b1,b2,b3⟩⟩:=h
 refine ⟨p::(ay lg++ay bh),⟨hl,lg,bh,hd,L,B,h1,by simp,⟨a1,fun y hy=>by simp [hy],a3⟩,⟨b1,fun y hy=>by simp [hy],b3⟩⟩,?_,?_,?_⟩
 ·intro y hy
  simp only [List.mem_cons,List.mem_append] at hy
  rcases hy with rfl | hy | hy
  ·exact h2
  ·exact a2 y hy
  ·exact b2 y hy
 ·intro y hy
  simp only [List.mem_cons,List.mem_append] at hy
  rcases hy with rfl | hy | hy
  ·rw [h1];simp
  ·exact bt.lJ a1 y hy
  ·exact bt.lJ b1 y hy
 ·intro y hy hne ht
  simp only [List.mem_cons,List.mem_append] at hy
  rcases hy with rfl | hy | hy
  ·exact hne rfl
  ·have:=ht.uniq (bt.tag a1 y hy);omega
  ·have:=ht.uniq (bt.tag b1 y hy);omega
theorem jK.aao {F:List Nat} {s:AS} {p:Nat} {c:iH} (h:jK F s p c):∃ cs,Am.Own s p cs:=by
 obtain ⟨_,_,_,_,_,_,_,_,h,_⟩:=h;exact ⟨_,h⟩
theorem IY.aao {F:List Nat} {s:AS} {p n:Nat} {v:List Int} (h:IY F s p v n):∃ cs,Am.Own s p cs:=by
 obtain ⟨_,_,_,_,_,_,h,_⟩:=h;exact ⟨_,h⟩
def XK (F:List Nat) (p:Nat) (a b:AS):Prop:=bD F a b∧yw p a b∧((∃ cs,Am.Own a p cs)→∃ cs,Am.Own b p cs)
theorem XK.ext {F:List Nat} {p:Nat} {a b:AS} (e:Ext a b):XK F p a b:=⟨e.mut,Ext.eW e,fun ⟨cs,h⟩=>⟨cs,h.ext e⟩⟩
theorem XK.trans {F:List Nat} {p:Nat} {a b c:AS} (h:XK F p a b) (h':XK F p b c):XK F p a c:=⟨h.1.trans h'.1,h.2.1.trans h'.2.1,fun x=>h'.2.2 (h.2.2 x)⟩
set_option maxRecDepth 20000 in
theorem Ti (h:Wq s l pc ps pv pw Fc Fs Fv Fw c x c.v c.log.length x) (A:Ap s0 s ([l]::Fc::Fs::Fv::Fw::Gs)) (o:oB x B) (hB:B≤450) (t:List UInt8) (hok:∀ L,sH x t L→oD (oE c.v t [] L)=aD t) (acg:0≤c.v.getD 0 0∧c.v.getD 0 0<4611686018427387904) (hn:c.log.length+1≤2 ^ 29) (hn2:c.NW.length+1≤2 ^ 29) :
  aa Tryz.prog de [.ptr (some (l,0)),.str t] s fun r s'=>r=.bool true∧∃ Xi Fv' c',Wq s' l pc ps pv pw Xi Fs Fv' Fw c' x c'.v c'.log.length x∧Ap s0 s' ([l]::Xi::Fs::Fv'::Fw::Gs)∧bD (Fc++Fv) s s' ∧
   ((aD t=false∧c'=c)∨(aD t=true∧∃ L,sH x t L∧c'=c.apply (oE c.v t [] L))):=by
 have nl:l ∉ Fc:=fun hy=>A.ij 1 0 rfl rfl (by decide) l hy (by simp)
 have tFc:=A.th 1 rfl
 have tFv:=A.th 3 rfl
 refine wK _ _ _ _ ⟨fun a b=>XK Fc pc a b,fun _ _ _ s'=>(aD t=false∧jK Fc s' pc c∧∀ y∈Fc,s'.h y≠none)∨(aD t=true∧∃ F' L,sH x t L∧jK F' s' pc (c.apply (oE c.v t [] L))∧(∀ y∈F',y∈Fc∨s.h y=none)∧∀ y∈F',s'.h y≠none),fun s'=>jK Fc s' pc c∧∀ y∈Fc,s'.h y≠none,
  fun q _ v s'=>(q=10→∃ L,sH x t L∧bt rY 3 s' v L)∧(q=15→∃ l,v=.ptr (some (l,0))∧Am.Own s' l NY∧l≠pc∧(l∈Fc∨s.h l=none)),
  fun q _ v=>(q=11→∃ g,v=.aQ [.agg g,.int .i64 (if aD t=true then 0 else 2)]∧g.all AV.one=true∧g.length=21)∧(q=15→∃ l,v=.ptr (some (l,0))),
  fun a b e=>XK.ext e,fun a b c x y=>x.trans y,?_,?_,fun a b e g=>⟨g.1.ext e,fun y hy=>Ext.there e (g.2 y hy)⟩,⟨h.ca,tFc⟩,fun s' _ _=>rfl,some (pc,0),by rw [h.own.at.av];rfl,fun s' x _=>⟨some (pc,0),by rw [(h.own.mut x.1 nl).at.av];rfl,rfl⟩,fun s' _ _=>rfl,some (ps,0),by rw [h.own.at.av];rfl,fun s' x _=>⟨some (ps,0),by rw [(h.own.mut x.1 nl).at.av];rfl,rfl⟩,fun lZ x17 w17 _=>?_,⟨.bad,(fun h=>by cases h),(fun h=>by cases h)⟩,fun v20 _=>⟨fun gn x21 w21 hS hc=>?_,⟨_,(fun _=>⟨NY,rfl,rfl,rfl⟩),(fun h=>by cases h)⟩,fun K_ IL=>?_⟩⟩
 ·rintro q ks v a b e (⟨g1,g2,g3⟩ | ⟨g1,F',L,g2,g3,g4,g5⟩)
  ·exact .inl ⟨g1,g2.ext e,fun y hy=>Ext.there e (g3 y hy)⟩
  ·exact .inr ⟨g1,F',L,g2,g3.ext e,g4,fun y hy=>Ext.there e (g5 y hy)⟩
 ·rintro q ks v a b x1 ⟨g1,g2⟩
  refine ⟨fun hq=>?_,fun hq=>?_⟩
  ·obtain ⟨L,d,g⟩:=g1 hq
   exact ⟨L,d,bt.Uk g x1.2.1 (by decide) (by decide) (by decide)⟩
  ·obtain ⟨l',rfl,g,hne,nw⟩:=g2 hq
   exact ⟨l',rfl,x1.2.1 _ _ _ g (by decide) (by decide) (fun _=>hne),hne,nw⟩
 ·refine (ZC (h.se.mut x17.1 (A.ij 1 2 rfl rfl (by decide))) o (by omega) t).mono ?_
  rintro v s' ⟨L,d,g,_⟩
  exact ⟨g.eG.ext,⟨(fun _=>⟨L,d,g.wq⟩),(fun h=>by cases h)⟩,(fun h=>by cases h),(fun h=>by cases h)⟩
 ·obtain ⟨L,d,g⟩:=hS.1.1 rfl
  have hm:=hok L d
  refine (Tc (dL:=t) (vM:=[]) hc.1 hc.2 bt.nil g acg hn hn2).mono ?_
  have Yk:Tb c t [] L=oE c.v t [] L:=rfl
  rw [Yk,hm]
  rintro r s' (⟨hno,⟨gg,rfl,g1,g2⟩,e⟩ | ⟨hyes,⟨gg,rfl,g1,g2⟩,F',hC,m,hF,ht,hK⟩)
  ·exact ⟨_,_,rfl,⟨XK.ext e,.inl ⟨hno,hc.1.ext e,fun y hy=>Ext.there e (hc.2 y hy)⟩⟩,⟨(fun h=>by cases h),(fun h=>by cases h)⟩,(fun _=>⟨gg,by rw [hno];rfl,g1,g2⟩),(fun h=>by cases h)⟩
  ·exact ⟨_,_,rfl,⟨⟨m,hK,fun _=>hC.aao⟩,.inr ⟨hyes,F',L,d,hC,fun y hy=>(hF y hy).elim .inl fun h=>vQ x21.1 h,ht⟩⟩,⟨(fun h=>by cases h),(fun h=>by cases h)⟩,(fun _=>⟨gg,by rw [hyes];rfl,g1,g2⟩),(fun h=>by cases h)⟩
 obtain ⟨g27,rfl,hg1,hg2⟩:=IL.1 rfl
 refine ⟨_,_,rfl,fun z4 x29 w29 _=>aj.intro w29 rfl fun Si nA F31=>⟨F31.ext,⟨(fun h=>by cases h),(fun _=>⟨Si,rfl,F31.own,?_,vQ x29.1 F31.no⟩)⟩,(fun h=>by cases h),(fun _=>⟨Si,rfl⟩)⟩,⟨.ptr (some (0,0)),(fun h=>by cases h),(fun _=>⟨0,rfl⟩)⟩,fun Vn ajA=>?_⟩
 ·rintro rfl
  obtain ⟨cs,hcs⟩:=x29.2.2 h.ca.aao
  have:=F31.no
  rw [hcs] at this;cases this
 obtain ⟨Ms,rfl⟩:=ajA.2 rfl
 refine ⟨_,rfl,fun ku x34 w34 hS hC=>?_⟩
 obtain ⟨l',hl',Vg,agu,agv⟩:=hS.2.2.1.2 rfl
 simp only [AV.ptr.injEq,Option.some.injEq,Prod.mk.injEq,and_true] at hl'
 subst hl'
 refine ⟨⟨hg1,congrArg some hg2.symm⟩,bu.own w34 Vg (vs:=g27) (by rw [hg2];exact Nat.le_refl _) fun k5 P37=>?_⟩
 have M37:bD Fc s k5:=x34.1.new P37.mut fun y hy=>by obtain rfl:=List.mem_singleton.1 hy;exact agv
 have first:∃ Xi c',jK Xi k5 pc c'∧(∀ y∈Xi,y∈Fc∨s.h y=none)∧(∀ y∈Xi,k5.h y≠none)∧((aD t=false∧c'=c)∨(aD t=true∧∃ L,sH x t L∧c'=c.apply (oE c.v t [] L))):=by
  have put:∀ {F':List Nat} {c':iH},jK F' ku pc c'→∃ F0,jK F0 k5 pc c'∧(∀ y∈F0,y∈F')∧∀ y∈F0,k5.h y≠none:=fun hC=>by
   obtain ⟨F0,k1,k2,k3,k4⟩:=hC.NC
   have hn0:Ms ∉ F0:=fun hy=>k4 _ hy agu (Own.tag Vg)
   exact ⟨F0,k1.mut P37.mut (fun y hy=>by obtain rfl:=List.mem_singleton.1 hy;exact hn0),k2,Lg k3 P37.mut fun y hy=>by obtain rfl:=List.mem_singleton.1 hy;exact hn0⟩
  rcases hC with ⟨hno,hCc,_⟩ | ⟨hyes,F',L,d,hCc,Ul,_⟩
  ·obtain ⟨F0,k1,k2,k3⟩:=put hCc
   exact ⟨F0,c,k1,fun y hy=>.inl (k2 y hy),k3,.inl ⟨hno,rfl⟩⟩
  ·obtain ⟨F0,k1,k2,k3⟩:=put hCc
   exact ⟨F0,_,k1,fun y hy=>Ul y (k2 y hy),k3,.inr ⟨hyes,L,d,rfl⟩⟩
 obtain ⟨Xi,c',ajB,ajC,ajD,EN⟩:=first
 obtain ⟨W,A'⟩:=h.ajy A M37 ajB ajC ajD
 have hb':c'.v=c.v.set 0 (IntKind.wrap .u64 (c.v.getD 0 0+1))∧c'.log.length=c.log.length+1∨aD t=false∧c'=c:=by
  rcases EN with h | ⟨_,L,_,rfl⟩
  ·exact .inr h
  ·exact .inl ⟨rfl,by simp [iH.apply]⟩
 have nl':l ∉ Fv:=fun hy=>A'.ij 3 0 rfl rfl (by decide) l hy (by simp)
 have ajE:=A'.th 3 rfl
 let R2:AV→AS→Prop:=fun _ s'=>(aD t=false∧IY Fv s' pv c.v c.log.length∧∀ y∈Fv,s'.h y≠none)∨(aD t=true∧∃ F',IY F' s' pv (c.v.set 0 (IntKind.wrap .u64 (c.v.getD 0 0+1))) (c.log.length+1)∧(∀ y∈F',y∈Fv∨k5.h y=none)∧∀ y∈F',s'.h y≠none)
 refine ⟨fun a b=>XK Fv pv a b,fun _ _ v s'=>R2 v s',fun s'=>IY Fv s' pv c.v c.log.length∧∀ y∈Fv,s'.h y≠none,
  fun q _ v s'=>(q=10→∃ L,sH x t L∧bt rY 3 s' v L∧L.length≤B)∧(q=15→∃ l,v=.ptr (some (l,0))∧Am.Own s' l NY∧l≠pv∧(l∈Fv∨k5.h l=none)),
  fun q _ v=>(q=11→∃ g,v=.aQ [.agg g,.bool (aD t)]∧g.all AV.one=true∧g.length=21)∧(q=15→∃ l,v=.ptr (some (l,0))),
  fun a b e=>XK.ext e,fun a b c x y=>x.trans y,?_,?_,fun a b e g=>⟨g.1.ext e,fun y hy=>Ext.there e (g.2 y hy)⟩,⟨W.rc,ajE⟩,fun s' _ _=>rfl,some (pv,0),by rw [W.own.at.av];rfl,fun s' x _=>⟨some (pv,0),by rw [(W.own.mut x.1 nl').at.av];rfl,rfl⟩,fun s' _ _=>rfl,some (pw,0),by rw [W.own.at.av];rfl,fun s' x _=>⟨some (pw,0),by rw [(W.own.mut x.1 nl').at.av];rfl,rfl⟩,fun tH x54 w54 _=>?_,⟨.bad,(fun h=>by cases h),(fun h=>by cases h)⟩,fun MD _=>⟨fun QW x58 w58 hS hc=>?_,⟨_,(fun _=>⟨NY,rfl,rfl,rfl⟩),(fun h=>by cases h)⟩,fun v63 ajF=>?_⟩⟩
 ·rintro q ks v a b e (⟨g1,g2,g3⟩ | ⟨g1,F',g3,g4,g5⟩)
  ·exact .inl ⟨g1,g2.ext e,fun y hy=>Ext.there e (g3 y hy)⟩
  ·exact .inr ⟨g1,F',g3.ext e,g4,fun y hy=>Ext.there e (g5 y hy)⟩
 ·rintro q ks v a b x1 ⟨g1,g2⟩
  refine ⟨fun hq=>?_,fun hq=>?_⟩
  ·obtain ⟨L,d,g,hLl⟩:=g1 hq
   exact ⟨L,d,bt.Uk g x1.2.1 (by decide) (by decide) (by decide),hLl⟩
  ·obtain ⟨l',rfl,g,hne,nw⟩:=g2 hq
   exact ⟨l',rfl,x1.2.1 _ _ _ g (by decide) (by decide) (fun _=>hne),hne,nw⟩
 ·refine (Nt (W.re.mut x54.1 (A'.ij 3 4 rfl rfl (by decide))) o (by omega) t).mono ?_
  rintro v s' ⟨L,d,g,hLl⟩
  exact ⟨g.eG.ext,⟨(fun _=>⟨L,d,g.wq,hLl⟩),(fun h=>by cases h)⟩,(fun h=>by cases h),(fun h=>by cases h)⟩
 ·obtain ⟨L,d,g,hLl⟩:=hS.1.1 rfl
  have hm:=hok L d
  refine (Qq (dL:=t) (vM:=[]) hc.1 hc.2 (bt.nil.sl bT) (g.sl d_) (by simp) (by omega) hn).mono ?_
  rw [hm]
  rintro r s' (⟨hno,⟨gg,rfl,g1,g2⟩,e⟩ | ⟨hyes,⟨gg,rfl,g1,g2⟩,F',hC,m,hF,ht,hK⟩)
  ·exact ⟨_,_,rfl,⟨XK.ext e,.inl ⟨hno,hc.1.ext e,fun y hy=>Ext.there e (hc.2 y hy)⟩⟩,⟨(fun h=>by cases h),(fun h=>by cases h)⟩,(fun _=>⟨gg,by rw [hno],g1,g2⟩),(fun h=>by cases h)⟩
  ·exact ⟨_,_,rfl,⟨⟨m,hK,fun _=>hC.aao⟩,.inr ⟨hyes,F',hC,fun y hy=>(hF y hy).elim .inl fun h=>vQ x58.1 h,ht⟩⟩,⟨(fun h=>by cases h),(fun h=>by cases h)⟩,(fun _=>⟨gg,by rw [hyes],g1,g2⟩),(fun h=>by cases h)⟩
 obtain ⟨g64,rfl,ajG,agw⟩:=ajF.1 rfl
 refine ⟨_,_,rfl,fun Mt x66 w66 _=>aj.intro w66 rfl fun l67 QX F68=>⟨F68.ext,⟨(fun h=>by cases h),(fun _=>⟨l67,rfl,F68.own,?_,vQ x66.1 F68.no⟩)⟩,(fun h=>by cases h),(fun _=>⟨l67,rfl⟩)⟩,⟨.ptr (some (0,0)),(fun h=>by cases h),(fun _=>⟨0,rfl⟩)⟩,fun v69 ajH=>?_⟩
 ·rintro rfl
  obtain ⟨cs,hcs⟩:=x66.2.2 W.rc.aao
  have:=F68.no
  rw [hcs] at this;cases this
 obtain ⟨l69,rfl⟩:=ajH.2 rfl
 refine ⟨_,rfl,fun s71 x71 w71 hS hC=>?_⟩
 obtain ⟨l',hl',o71,agx,agy⟩:=hS.2.2.1.2 rfl
 simp only [AV.ptr.injEq,Option.some.injEq,Prod.mk.injEq,and_true] at hl'
 subst hl'
 refine ⟨⟨ajG,congrArg some agw.symm⟩,bu.own w71 o71 (vs:=g64) (by rw [agw];exact Nat.le_refl _) fun s74 P74=>?_⟩
 have M74:bD Fv k5 s74:=x71.1.new P74.mut fun y hy=>by obtain rfl:=List.mem_singleton.1 hy;exact agy
 have put:∀ {F':List Nat} {v':List Int} {n':Nat},IY F' s71 pv v' n'→∃ F0,IY F0 s74 pv v' n'∧(∀ y∈F0,y∈F')∧∀ y∈F0,s74.h y≠none:=fun hC=>by
  obtain ⟨F0,k1,k2,k3,k4⟩:=hC.NC
  have hn0:l69 ∉ F0:=fun hy=>k4 _ hy agx (Own.tag o71)
  exact ⟨F0,k1.mut P74.mut (fun y hy=>by obtain rfl:=List.mem_singleton.1 hy;exact hn0),k2,Lg k3 P74.mut fun y hy=>by obtain rfl:=List.mem_singleton.1 hy;exact hn0⟩
 have MM:bD (Fc++Fv) s s74:=(M37.mono fun y hy=>by simp [hy]).trans (M74.mono fun y hy=>by simp [hy])
 refine ⟨by cases aD t <;> rfl,?_⟩
 rcases hC with ⟨hno,hCc,_⟩ | ⟨hyes,F',hCc,Ul,_⟩
 ·obtain ⟨F0,k1,k2,k3⟩:=put hCc
  obtain ⟨W',A''⟩:=W.ags A' M74 k1 (fun y hy=>.inl (k2 y hy)) k3
  rcases EN with ⟨_,rfl⟩ | ⟨hy,_⟩
  ·exact ⟨Xi,F0,_,W',A'',MM,.inl ⟨hno,rfl⟩⟩
  ·rw [hno] at hy;cases hy
 ·obtain ⟨F0,k1,k2,k3⟩:=put hCc
  obtain ⟨W',A''⟩:=W.ags A' M74 k1 (fun y hy=>Ul y (k2 y hy)) k3
  rcases hb' with ⟨e1,e2⟩ | ⟨hno,_⟩
  ·rw [← e1,← e2] at W'
   exact ⟨Xi,F0,_,W',A'',MM,EN⟩
  ·rw [hyes] at hno;cases hno
end
end Go.Proofs.YtohgmogbabkkeaaGreat
end

section
namespace Go.Proofs.YtohgmogbabkkeaaGreat
open Go.Am Go.au Go.aC Go.bW
def vN (n:Nat):List Int:=(n:Int)::List.replicate 15 0
theorem aek (n:Nat):(vN n).length=16:=by simp [vN]
theorem ael (n:Nat):(vN n).getD 0 0=n:=rfl
theorem aap (n i:Nat) (hi:i<1000000):under (vN n) ⟨1,(i:Int)+1⟩=decide (i<n):=by
 have hm:(⟨1,(i:Int)+1⟩:aK).may=true:=aK.gz.2 (by simp only;omega)
 rw [under,hm,Bool.true_and,show (vN n).getD ((⟨1,(i:Int)+1⟩:aK).r.toNat - 1) 0=(n:Int) from rfl,decide_eq_decide]
 simp only;omega
theorem abP (a b:Nat):nD (vN a) (vN b)=vN (max a b):=by
 have h:nD (vN a) (vN b)=(if (b:Int)>a then (b:Int) else a)::List.replicate 15 0:=rfl
 rw [h,vN]
 congr 1
 split <;> omega
theorem aaq {n:Nat}:∀ x∈vN n,x=(n:Int)∨x=0:=by
 intro x hx
 rcases List.mem_cons.1 hx with h | h
 ·exact .inl h
 ·exact .inr (List.eq_of_mem_replicate h)
theorem abQ {n:Nat} (h:n<1000000):uC (vN n)=true:=by
 rw [uC,List.all_eq_true]
 intro x hx
 rcases aaq x hx with rfl | rfl <;> simp <;> omega
theorem aem {n:Nat} (h:n<1000000):VIn (vN n):=⟨aek n,fun x hx=>by rcases aaq x hx with rfl | rfl <;> omega⟩
theorem Qy:∀ (l:List ey) {x:aI} {B:Nat},oB x B→(∀ i∈l,i.may=true)→∀ d,(x.er l).2.has d=true↔x.has d=true∨∃ i∈l,i.dot=d
 | [],x,B,_,_,d=>by simp [PW]
 | i::l,x,B,h,hm,d=>by
  have hi:=hm i (by simp)
  have hid:i.dot.may=true:=by simp only [ey.may,Bool.and_eq_true] at hi;exact hi.1
  rw [qS,Qy l (vF h hi) (fun j hj=>hm j (by simp [hj])),Ch h hid]
  simp only [Bool.or_eq_true,decide_eq_true_eq,List.mem_cons,exists_eq_or_imp]
  constructor
  ·rintro ((h | rfl) | h)
   ·exact .inl h
   ·exact .inr (.inl rfl)
   ·exact .inr (.inr h)
  ·rintro (h | rfl | h)
   ·exact .inl (.inl h)
   ·exact .inl (.inr rfl)
   ·exact .inr h
theorem Lx:∀ (l:List aK) {x:aI} {B:Nat},oB x B→(∀ d∈l,d.may=true)→∀ d,(x.er (l.map eV)).2.live d=if d∈l then none else x.live d
 | [],x,B,_,_,d=>by simp [PW]
 | a::l,x,B,h,hm,d=>by
  have hi:(eV a).may=true:=yP (hm a (by simp))
  rw [List.map_cons,qS,Lx l (vF h hi) (fun j hj=>hm j (by simp [hj])),rL h]
  by_cases h1:d=a
  ·subst h1;simp [eV]
  ·by_cases h2:d∈l <;> simp [h1,h2,eV]
theorem Wt.ok {x x':aI} {t d:List UInt8} {N:Nat} (h:Wt x x' t d) (o:oB x N) (hN:∀ e,x.has e=true→e.c≤N) (hN2:N≤1000):oB x' (N+1)∧(∀ e,x'.has e=true→e.c≤(N+1:Nat))∧(aD t=true→aD d=true→∃ d0,x'.live d0=some ⟨t,d⟩)∧∀ e,x.has e=true→x'.has e=true:=by
 rcases h with ⟨hn,rfl⟩ | ⟨hn,m,l,hm0,hmn,hmh,kd,rfl⟩
 ·exact ⟨o.mono (by omega),fun e he=>by have:=hN e he;omega,(fun h1 h2=>by rw [h1,h2] at hn;cases hn),fun e he=>he⟩
 ·have hmN:m≤N:=by
   rcases hmh with rfl | h
   ·omega
   ·exact hN _ h
  have hd:(⟨1,m+1⟩:aK).may=true:=aK.gz.2 (by simp only;omega)
  have hi:(⟨⟨1,m+1⟩,⟨t,d⟩,false⟩:ey).may=true:=by simp [ey.may,hd,Key.may,hn]
  have hl:∀ e∈l,x.has e=true:=fun e he=>kd.has o he
  have hgl:∀ i∈l.map eV,i.may=true:=Lh fun e he=>aI.vE (hl e he)
  have hall:∀ i∈(⟨⟨1,m+1⟩,⟨t,d⟩,false⟩:ey)::l.map eV,i.may=true:=fun i h=>by
   rcases List.mem_cons.1 h with rfl | h
   ·exact hi
   ·exact hgl i h
  have agz:=Qy _ o hall
  refine ⟨o.add hn hd kd,fun e he=>?_,fun _ _=>⟨⟨1,m+1⟩,?_⟩,fun e he=>(agz e).2 (.inl he)⟩
  ·rcases (agz e).1 he with h | ⟨i,h,rfl⟩
   ·have:=hN e h;omega
   ·rcases List.mem_cons.1 h with rfl | h
    ·simp only;omega
    ·obtain ⟨b,hb,rfl⟩:=List.mem_map.1 h
     have:=hN b (hl b hb);simp only [eV];omega
  ·rw [qS]
   simp only
   rw [Lx l (vF o hi) (fun e he=>aI.vE (hl e he)),if_neg (fun hin=>by have:=hl _ hin;rw [hmn] at this;cases this),rL o]
   simp [hmn]
theorem sH.cG {x:aI} {t:List UInt8} {L:List GY} {B:Nat} (h:sH x t L) (o:oB x B):L.length≤B:=by
 obtain ⟨U,hU,hm⟩:=o.sz
 have:=lO (jV h.Xf) fun d hd=>hm d ?_
 ·simp only [List.length_map] at this;omega
 ·obtain ⟨e,he,rfl⟩:=List.mem_map.1 hd
  exact .inr (.inl (by rw [(h.mem e).1 he];rfl))
theorem aar {x:aI} {t:List UInt8} {L:List GY} {B n:Nat} (o:oB x B) (hB:B≤1000) (hn:n<1000000) (h:sH x t L):oD (oE (vN n) t [] L)=aD t:=by
 have hid:(⟨1,IntKind.wrap .u64 ((n:Int)+1)⟩:aK)=⟨1,(n:Int)+1⟩:=by rw [gq (by omega)]
 have hm:(⟨1,(n:Int)+1⟩:aK).may=true:=aK.gz.2 (by simp only;omega)
 have hlen:=h.cG o
 have hp:yu (oE (vN n) t [] L)=true:=by
  rw [yu,decide_eq_true_eq]
  show (n:Int)=IntKind.wrap .u64 (IntKind.wrap .u64 ((n:Int)+1) - 1)
  rw [gq (n:=(n:Int)+1) (by omega),gq (by omega)];omega
 have hto:yq L=true:=by
  rw [yq,List.all_eq_true]
  intro j hj
  have hj':j<L.length:=by simpa using hj
  rw [vP,List.getElem?_eq_getElem hj']
  have hl:=(h.mem L[j]).1 (List.getElem_mem hj')
  obtain ⟨h1,h2⟩:=o.lv _ _ hl
  simp only [Key.may,Bool.and_eq_true] at h2
  simp only [aI.vE h1,h2.2,Bool.true_and,Bool.or_eq_true,decide_eq_true_eq]
  by_cases hz:j=0
  ·exact .inl hz
  ·right
   rw [List.getElem?_eq_getElem (show j - 1<L.length by omega)]
   have:=List.pairwise_iff_getElem.1 h.Xf (j - 1) j (by simp;omega) (by simpa using hj') (by omega)
   simpa using this
 have hd:((vN n).drop 3).all (fun z=>decide (z=0))=true:=by simp [vN]
 simp only [oD,tE,hp,show (oE (vN n) t [] L).to=L from rfl,hto,show (oE (vN n) t [] L).jX=vN n from rfl,abQ hn,hd,show (oE (vN n) t [] L).id=(⟨1,(n:Int)+1⟩:aK) from hid,hm,show (oE (vN n) t [] L).dL=t from rfl,show (oE (vN n) t [] L).vM=[] from rfl]
 simp [show L.length≤1024 by omega]
structure WI (c:iH) (x:aI) (n N:Nat):Prop where
 ok:oB x N
 cnt:∀ d,x.has d=true→d.c≤N
 v:c.v=vN n
 ln:c.log.length=n
 bl:c.NW=(List.range n).map fun i=>vN (i+1)
 ev:∀ (i:Nat) (e:Ev),c.log[i]? = some e→e.id=⟨1,(i:Int)+1⟩∧e.vM=[]∧e.to.length≤1000
theorem WI.zero:WI iH.zero aI.zero 0 0:=⟨oB.zero,(fun d h=>by rw [aI.has,show aI.zero.v=eR from rfl,show aI.zero.ex=[] from rfl,Zf] at h;cases h),rfl,rfl,rfl,fun i e h=>by simp [iH.zero] at h⟩
section
variable {c:iH} {x x':aI} {n N:Nat} {t d:List UInt8}
theorem WI.sub (h:WI c x n N) (s:Wt x x' t d) (hN:N≤1000):WI c x' n (N+1) :=
 let k:=s.ok h.ok h.cnt hN
 ⟨k.1,k.2.1,h.v,h.ln,h.bl,h.ev⟩
theorem WI.pub (h:WI c x n N) (hn:n<1000000) (hN:N≤1000) {L:List GY} (hL:sH x t L):WI (c.apply (oE c.v t [] L)) x (n+1) N:=by
 have hid:(oE c.v t [] L).id=(⟨1,(n:Int)+1⟩:aK):=by
  rw [h.v]
  show (⟨1,IntKind.wrap .u64 ((n:Int)+1)⟩:aK)=_
  rw [gq (by omega)]
 have hv:c.v.set ((oE c.v t [] L).id.r.toNat - 1) (IntKind.wrap .u64 (c.v.getD ((oE c.v t [] L).id.r.toNat - 1) 0+1))=vN (n+1):=by
  rw [hid,h.v]
  show IntKind.wrap .u64 ((n:Int)+1)::List.replicate 15 0=_
  rw [gq (by omega)];rfl
 refine ⟨h.ok,h.cnt,hv,by simp [iH.apply,h.ln],?_,fun i e he=>?_⟩
 ·simp only [iH.apply,hv,h.bl,List.range_succ,List.map_append,List.map_cons,List.map_nil]
 ·simp only [iH.apply] at he
  by_cases hi:i<c.log.length
  ·rw [List.getElem?_append_left hi] at he;exact h.ev i e he
  ·rw [List.getElem?_append_right (by omega)] at he
   obtain ⟨h1,h2⟩:i=c.log.length∧oE c.v t [] L=e:=by
    rcases Nat.eq_or_lt_of_le (show c.log.length≤i by omega) with h | h
    ·subst h;simp at he;exact ⟨rfl,he⟩
    ·rw [List.getElem?_eq_none (by simp;omega)] at he;cases he
   subst h1 h2
   refine ⟨by rw [hid,h.ln],rfl,?_⟩
   have:=hL.cG h.ok
   show L.length≤1000
   omega
end
end Go.Proofs.YtohgmogbabkkeaaGreat
end

section
namespace Go.Proofs.YtohgmogbabkkeaaGreat
open Go.Am Go.au Go.aC Go.bW
structure Wp where
 l:Nat
 pc:Nat
 ps:Nat
 pv:Nat
 pw:Nat
def Wo (s0 s:AS) (w:Wp) (c:iH) (x:aI) (n N:Nat) (Gs:List (List Nat)):Prop :=
 WI c x n N∧∃ Fc Fs Fv Fw,Wq s w.l w.pc w.ps w.pv w.pw Fc Fs Fv Fw c x c.v c.log.length x∧Ap s0 s ([w.l]::Fc::Fs::Fv::Fw::Gs)
def Kp (Gs:List (List Nat)) (s s':AS):Prop:=∃ M,bD M s s'∧∀ G∈Gs,Dj M G
section
variable {s0 s s':AS} {w:Wp} {n N:Nat} {c:iH} {x:aI} {Gs:List (List Nat)} {G G':List Nat}
theorem Ap.gs {a b c d e:List Nat} (A:Ap s0 s (a::b::c::d::e::Gs)) (hG:G∈Gs):Dj a G∧Dj b G∧Dj c G∧Dj d G∧Dj e G:=by
 obtain ⟨j,hj⟩:=List.mem_iff_getElem?.1 hG
 exact ⟨A.ij 0 (j+5) rfl (by simpa using hj) (by omega),A.ij 1 (j+5) rfl (by simpa using hj) (by omega),A.ij 2 (j+5) rfl (by simpa using hj) (by omega),A.ij 3 (j+5) rfl (by simpa using hj) (by omega),A.ij 4 (j+5) rfl (by simpa using hj) (by omega)⟩
theorem Dj.app {a b g:List Nat} (h:Dj a g) (h':Dj b g):Dj (a++b) g:=fun y hy=>by
 rcases List.mem_append.1 hy with hy | hy
 ·exact h y hy
 ·exact h' y hy
theorem Wo.ap (h:Wo s0 s w c x n N Gs):Ext s0 s:=by obtain ⟨_,_,_,_,_,_,A⟩:=h;exact A.1
theorem Wo.ext (h:Wo s0 s w c x n N Gs) (e:Ext s s'):Wo s0 s' w c x n N Gs:=by
 obtain ⟨hi,Fc,Fs,Fv,Fw,W,A⟩:=h
 exact ⟨hi,Fc,Fs,Fv,Fw,W.ext e,A.ext e⟩
theorem Wo.begin (A:Ap s0 s Gs):aa Tryz.prog kF [] s fun r s'=>∃ w:Wp,r=.aQ [.ptr (some (w.l,0)),.bool true]∧Wo s0 s' w iH.zero aI.zero 0 0 Gs∧Ext s s':=by
 refine (aan A).mono ?_
 rintro r s' ⟨l,pc,ps,pv,pw,Fc,Fs,Fv,Fw,rfl,W,A',e⟩
 exact ⟨⟨l,pc,ps,pv,pw⟩,rfl,⟨WI.zero,Fc,Fs,Fv,Fw,W,A'⟩,e⟩
theorem Wo.sub (h:Wo s0 s w c x n N Gs) (hN:N≤200) (t d:List UInt8):aa Tryz.prog cS [.ptr (some (w.l,0)),.str t,.str d] s fun r s'=>r=.bool true∧∃ x',Wt x x' t d∧Wo s0 s' w c x' n (N+1) Gs∧Kp Gs s s':=by
 obtain ⟨hi,Fc,Fs,Fv,Fw,W,A⟩:=h
 refine (NF W A hi.ok (by omega) (fun d hd=>by have:=hi.cnt d hd;omega) t d).mono ?_
 rintro r s' ⟨rfl,Fs',Fw',x',W',A',hs,m⟩
 exact ⟨rfl,x',hs,⟨hi.sub hs (by omega),Fc,Fs',Fv,Fw',W',A'⟩,_,m,fun G hG=>Dj.app (A.gs hG).2.2.1 (A.gs hG).2.2.2.2⟩
theorem Wo.pub (h:Wo s0 s w c x n N Gs) (hN:N≤200) (hn:n≤1000) (t:List UInt8):aa Tryz.prog de [.ptr (some (w.l,0)),.str t] s fun r s'=>r=.bool true∧Kp Gs s s'∧((aD t=false∧Wo s0 s' w c x n N Gs)∨(aD t=true∧∃ L,sH x t L∧Wo s0 s' w (c.apply (oE c.v t [] L)) x (n+1) N Gs)):=by
 obtain ⟨hi,Fc,Fs,Fv,Fw,W,A⟩:=h
 refine (Ti W A hi.ok (by omega) t (fun L d=>by rw [hi.v];exact aar hi.ok (by omega) (by omega) d) (by rw [hi.v,ael];omega) (by rw [hi.ln];omega) (by rw [hi.bl];simp;omega)).mono ?_
 rintro r s' ⟨rfl,Xi,Fv',c',W',A',m,EN⟩
 refine ⟨rfl,⟨_,m,fun G hG=>Dj.app (A.gs hG).2.1 (A.gs hG).2.2.2.1⟩,?_⟩
 rcases EN with ⟨hno,rfl⟩ | ⟨hyes,L,hL,rfl⟩
 ·exact .inl ⟨hno,hi,Xi,Fs,Fv',Fw,W',A'⟩
 ·exact .inr ⟨hyes,L,hL,hi.pub (by omega) (by omega) hL,Xi,Fs,Fv',Fw,W',A'⟩
theorem Wo.reg (h:Wo s0 s w c x n N (G::Gs)) (m:bD G s s') (hn:∀ y∈G',y∈G∨s.h y=none) (ht:∀ y∈G',s'.h y≠none):Wo s0 s' w c x n N (G'::Gs):=by
 obtain ⟨hi,Fc,Fs,Fv,Fw,W,A⟩:=h
 exact ⟨hi,Fc,Fs,Fv,Fw,W.mut m (A.ij 5 0 rfl rfl (by decide)) (A.ij 5 1 rfl rfl (by decide)) (A.ij 5 2 rfl rfl (by decide)) (A.ij 5 3 rfl rfl (by decide)) (A.ij 5 4 rfl rfl (by decide)),Ap.pL (A:=[[w.l],Fc,Fs,Fv,Fw]) A m hn ht⟩
theorem Wo.add (h:Wo s0 s w c x n N Gs) (e:Ext s s') (hn:∀ y∈G,s.h y=none) (ht:∀ y∈G,s'.h y≠none):Wo s0 s' w c x n N (G::Gs):=by
 obtain ⟨hi,Fc,Fs,Fv,Fw,W,A⟩:=h
 refine ⟨hi,Fc,Fs,Fv,Fw,W.ext e,(A.new e hn ht).perm ?_⟩
 exact (List.perm_middle (l₁:=[[w.l],Fc,Fs,Fv,Fw]) (l₂:=Gs) (a:=G)).symm
theorem Wo.perm {Gs':List (List Nat)} (h:Wo s0 s w c x n N Gs) (p:Gs.Perm Gs'):Wo s0 s w c x n N Gs':=by
 obtain ⟨hi,Fc,Fs,Fv,Fw,W,A⟩:=h
 exact ⟨hi,Fc,Fs,Fv,Fw,W,A.perm (.cons _ (.cons _ (.cons _ (.cons _ (.cons _ p)))))⟩
theorem Wo.aB (h:Wo s0 s w c x n N Gs):av s w.l 0=some (.ptr (some (w.pc,0)))∧av s w.l (0+1)=some (.ptr (some (w.ps,0))):=by
 obtain ⟨hi,Fc,Fs,Fv,Fw,W,A⟩:=h
 exact ⟨by rw [W.own.at.av];rfl,by rw [W.own.at.av];rfl⟩
/-! ### feeds -/
structure FI (G:List Nat) (s:AS) (p:Nat) (f:List UInt8→Option Dv) (k n:Nat):Prop where
 fe:l_ G s p Qx f k
 pl:∀ a d,f a=some d→d.place≤n∧d.hand.length≤d.place
variable {p k:Nat} {f:List UInt8→Option Dv}
theorem FI.ext (h:FI G s p f k n) (e:Ext s s'):FI G s' p f k n:=⟨h.fe.ext e,h.pl⟩
theorem Wo.agA (h:Wo s0 s w c x n N (G::Gs)) (F:FI G s p f k n) (hN:N≤1000) (hn:n≤1000):∃ Fc Fs,abL G Fc Fs s p w.pc w.ps Qx f k c x:=by
 obtain ⟨hi,Fc,Fs,Fv,Fw,W,A⟩:=h
 have hb:=W.se.bnd hi.ok
 refine ⟨Fc,Fs,F.fe,A.th 5 rfl,W.ca,W.se,A.th 1 rfl,A.th 2 rfl,A.ij 5 1 rfl rfl (by decide),A.ij 5 2 rfl rfl (by decide),by rw [hi.bl,hi.ln];simp,by rw [hi.ln];omega,fun e he=>?_,by omega,fun a d ha=>by rw [hi.ln];exact F.pl a d ha⟩
 obtain ⟨i,hi'⟩:=List.mem_iff_getElem?.1 he
 obtain ⟨_,h1,h2⟩:=hi.ev i e hi'
 rw [h1]
 exact ⟨by simp,by omega⟩
theorem Wo.feed (h:Wo s0 s w c x n N Gs):aa Tryz.prog jq [] s fun v s1=>aM s1∧aa Tryz.prog q9 [v] s1 fun r s'=>∃ p G,r=.ptr (some (p,0))∧Wo s0 s' w c x n N (G::Gs)∧FI G s' p (fun _=>none) 0 n∧Ext s s':=by
 refine aa.use (Wu s) ?_
 rintro v s1 ⟨hv,e1⟩ w1
 refine ⟨w1,(abI hv (by decide)).mono ?_⟩
 rintro r s' ⟨p,G,rfl,hF,hn,ht,e⟩
 exact ⟨p,G,rfl,(h.ext e1).add e hn ht,⟨hF,fun a d ha=>by cases ha⟩,e1.trans e⟩
theorem Wo.attach (h:Wo s0 s w c x n N (G::Gs)) (F:FI G s p f k n) (name:List UInt8) {bv:AV} {b v:List Int} (hb:gx s bv b) (hn:aD name=true) (hf:f name=none) (hk:k<64) (hc:Qv Qx name b v) :
  aa Tryz.prog eD [.ptr (some (p,0)),.str name,bv] s fun r s'=>r=.int .i64 0∧∃ G',Wo s0 s' w c x n N (G'::Gs)∧FI G' s' p (kT f name (some ⟨v,0,[]⟩)) (k+1) n∧bD G s s':=by
 have As:∀ y∈G,s.h y≠none:=by
  obtain ⟨_,Fc,Fs,Fv,Fw,W,A⟩:=h
  exact A.th 5 rfl
 refine (Wn F.fe As (by decide) name hb fun _ _=>hc).mono ?_
 rintro r s' (⟨hno,_⟩ | ⟨_,rfl,G',hF,m,hn',ht'⟩)
 ·exact absurd ⟨hn,hf,hk⟩ hno
 ·refine ⟨rfl,G',h.reg m hn' ht',⟨hF,fun a d ha=>?_⟩,m⟩
  by_cases e:a=name
  ·rw [kT,if_pos e] at ha
   obtain rfl:=Option.some.inj ha
   simp
  ·rw [kT,if_neg e] at ha
   exact F.pl a d ha
theorem NG (P:Ev→Bool) (stop:Nat→Bool):∀ (l:List (Ev×List Int)) (k:Nat),(scan P stop l k).2≤l.length∧(scan P stop l k).1.length≤(scan P stop l k).2
 | [],k=>by simp [scan]
 | a::l,k=>by
  have h1:=NG P stop l (k+1)
  have h2:=NG P stop l k
  simp only [scan]
  split
  ·split
   ·simp
   ·simp;omega
  ·simp;omega
theorem Wo.aen (h:Wo s0 s w c x n N (G::Gs)) (F:FI G s p f k n) (hN:N≤1000) (hn:n≤1000) (name:List UInt8) {d:Dv} (hname:aD name=true) (hf:f name=some d) {most:Int} (hm:1≤most∧most≤16) :
  aa Tryz.prog fA [.ptr (some (p,0)),.str name,.int .i64 most,.ptr (some (w.pc,0)),.ptr (some (w.ps,0))] s fun r s'=>∃ (out:AV) (Lo:List nE) (G':List Nat),r=.aQ [out,.int .i64 0]∧bt ig 21 s' out Lo∧(∀ m∈Lo,kq (NX m) s' m)∧Lo.map nE.ev=(yy name d c x most).1.map Prod.fst∧Wo s0 s' w c x n N (G'::Gs)∧FI G' s' p (kT f name (some (ER name d c x most))) k n∧bD G s s':=by
 obtain ⟨Fc,Fs,T⟩:=h.agA F hN hn
 have hi:=h.1
 refine (abM T name most).mono ?_
 rintro r s' (⟨hno,_⟩ | ⟨_,d',out,Lo,G',hd,rfl,h1,h2,h3,hF,pm,hn',ht'⟩)
 ·rcases hno with hno | hno
  ·exact absurd ⟨hname,hm⟩ hno
  ·rw [hf] at hno;cases hno
 ·rw [hf] at hd
  obtain rfl:=Option.some.inj hd
  refine ⟨out,Lo,G',rfl,h1,h2,h3,h.reg pm.mut hn' ht',⟨hF,fun a e ha=>?_⟩,pm.mut⟩
  by_cases he:a=name
  ·rw [kT,if_pos he] at ha
   obtain rfl:=Option.some.inj ha
   have CW:=F.pl name d hf
   have:=NG (kS name d.cur x) (fun k=>!decide ((k:Int)<most)) ((vS c).drop d.place) 0
   have hlen:(vS c).length=n:=by rw [ND (by rw [hi.bl,hi.ln];simp),hi.ln]
   simp only [List.length_drop,hlen] at this
   simp only [ER,yy,List.length_append,List.length_map]
   omega
  ·rw [kT,if_neg he] at ha
   exact F.pl a e ha
theorem Wo.ack (h:Wo s0 s w c x n N (G::Gs)) (F:FI G s p f k n) (hn:n≤1000) (name:List UInt8) {d:Dv} (hname:aD name=true) (hf:f name=some d) (hmay:∀ j,j≤d.hand.length→uC (rZ d j).cur=true) {j:Nat} (hj:j≤d.hand.length) :
  aa Tryz.prog kW [.ptr (some (p,0)),.str name,.int .i64 j] s fun r s'=>∃ (bv:AV) (G':List Nat),r=.aQ [bv,.int .i64 0]∧bt qH 1 s' bv (Cw Qx name (rZ d j).cur)∧Wo s0 s' w c x n N (ay bv::G'::Gs)∧FI G' s' p (kT f name (some (rZ d j))) k n:=by
 have As:∀ y∈G,s.h y≠none:=by
  obtain ⟨_,Fc,Fs,Fv,Fw,W,A⟩:=h
  exact A.th 5 rfl
 refine (aej F.fe As (by decide) name j (fun e he i hi=>?_) (fun e he=>?_)).mono ?_
 ·rw [hf] at he;obtain rfl:=Option.some.inj he;exact hmay i hi
 ·have:=F.pl name e he;omega
 ·rintro r s' (⟨hno,_⟩ | ⟨_,d',j',bv,G',s1,hj',hd,hle,rfl,g,hF,pm,hn',ht'⟩)
  ·rcases hno with hno | hno | hno
   ·rw [hname] at hno;cases hno
   ·omega
   ·have:=hno d hf;omega
  ·obtain rfl:j=j':=by omega
   rw [hf] at hd
   obtain rfl:=Option.some.inj hd
   refine ⟨bv,G',rfl,g.wq,(h.reg pm.mut hn' ht').add g.eG.ext g.new (bt.lJ g.wq),⟨hF.ext g.eG.ext,fun a e ha=>?_⟩⟩
   by_cases he:a=name
   ·rw [kT,if_pos he] at ha
    obtain rfl:=Option.some.inj ha
    have CW:=F.pl name d hf
    rw [rZ]
    split
    ·exact CW
    ·simp only [List.length_drop];omega
   ·rw [kT,if_neg he] at ha
    exact F.pl a e ha
theorem Wo.aeo (h:Wo s0 s w c x n N (G::Gs)) (F:FI G s p f k n) (name:List UInt8) {d:Dv} (hname:aD name=true) (hf:f name=some d) (hmay:uC d.cur=true) :
  aa Tryz.prog gU [.ptr (some (p,0)),.str name] s fun r s'=>∃ (bv:AV),r=.aQ [bv,.int .i64 0]∧bt qH 1 s' bv (Cw Qx name d.cur)∧Wo s0 s' w c x n N (ay bv::G::Gs)∧FI G s' p (kT f name none) (k - 1) n∧∃ s1,bD G s s1∧Ext s1 s':=by
 have As:∀ y∈G,s.h y≠none:=by
  obtain ⟨_,Fc,Fs,Fv,Fw,W,A⟩:=h
  exact A.th 5 rfl
 refine (Ws F.fe As (by decide) name (fun e he=>?_)).mono ?_
 ·rw [hf] at he;obtain rfl:=Option.some.inj he;exact hmay
 ·rintro r s' (⟨hno,_⟩ | ⟨_,d',bv,s1,hd,rfl,g,hF,m,ht'⟩)
  ·rcases hno with hno | hno
   ·rw [hname] at hno;cases hno
   ·rw [hf] at hno;cases hno
  ·rw [hf] at hd
   obtain rfl:=Option.some.inj hd
   refine ⟨bv,rfl,g.wq,(h.reg m (fun y hy=>.inl hy) ht').add g.eG.ext g.new (bt.lJ g.wq),⟨hF.ext g.eG.ext,fun a e ha=>?_⟩,s1,m,g.eG.ext⟩
   by_cases he:a=name
   ·rw [kT,if_pos he] at ha;cases ha
   ·rw [kT,if_neg he] at ha
    exact F.pl a e ha
end
end Go.Proofs.YtohgmogbabkkeaaGreat
end

section
namespace Go.Proofs.YtohgmogbabkkeaaGreat
open Go.Am Go.au Go.aC Go.bW
def OW (c:iH) (x:aI) (t d:List UInt8):Prop:=(∃ d0,x.live d0=some ⟨t,d⟩)∧∀ e∈c.log,e.dL=t∧iT e.to d≠[]
section
variable {c:iH} {x x':aI} {n N:Nat} {t d:List UInt8}
theorem OW.sub (h:OW c x t d) (hi:WI c x n N) (s:Wt x x' t d) (hN:N≤1000) (h1:aD t=true) (h2:aD d=true):OW c x' t d:=⟨(s.ok hi.ok hi.cnt hN).2.2.1 h1 h2,h.2⟩
theorem OW.pub (h:OW c x t d) {L:List GY} (hL:sH x t L) {v:List Int}:OW (c.apply (oE v t [] L)) x t d:=by
 refine ⟨h.1,fun e he=>?_⟩
 rcases List.mem_append.1 (show e∈c.log++[oE v t [] L] from he) with he | he
 ·exact h.2 e he
 ·obtain rfl:=List.mem_singleton.1 he
  refine ⟨rfl,fun hz=>?_⟩
  obtain ⟨d0,h0⟩:=h.1
  have:(⟨d0,d⟩:GY)∈L:=(hL.mem _).2 h0
  have:d0∈iT L d:=List.mem_map.2 ⟨⟨d0,d⟩,List.mem_filter.2 ⟨this,by simp⟩,rfl⟩
  have hz':iT L d=[]:=hz
  rw [hz'] at this;cases this
theorem OW.abR (h:OW c x t d) (hi:WI c x n N) (hn:n≤1000) {i m:Nat} {e:Ev} (he:c.log[i]? = some e):kS d (vN m) x e=!decide (i<m):=by
 obtain ⟨h1,h2⟩:=h.2 e (List.mem_of_getElem? he)
 have hin:i<c.log.length:=by
  rcases Nat.lt_or_ge i c.log.length with h | h
  ·exact h
  ·rw [List.getElem?_eq_none h] at he;cases he
 have hk:aad x ⟨e.dL,d⟩=true:=Qu.2 (by rw [h1];exact h.1)
 have ht:(iT e.to d).isEmpty=false:=by simpa using h2
 rw [kS,(hi.ev i e he).1,aap m i (by have:=hi.ln;omega),hk,ht]
 simp
theorem Tj (hi:WI c x n N) {i:Nat} {z:Ev×List Int} (h:(vS c)[i]? = some z):c.log[i]? = some z.1∧z.2=vN (i+1):=by
 rw [vS,List.getElem?_zip_eq_some] at h
 refine ⟨h.1,?_⟩
 have:=h.2
 rw [hi.bl,List.getElem?_map] at this
 cases hq:(List.range n)[i]? with
 | none=>rw [hq] at this;cases this
 | some j =>
  rw [hq] at this
  obtain rfl:i=j:=by
   have:=List.getElem?_eq_some_iff.1 hq
   obtain ⟨h1,h2⟩:=this
   simpa using h2
  exact (Option.some.inj this).symm
theorem Up (hi:WI c x n N):(vS c).length=n:=by rw [ND (by rw [hi.bl,hi.ln];simp),hi.ln]
theorem Qz {P:Ev→Bool} {most:Nat}:∀ (l:List (Ev×List Int)) (k:Nat),(∀ z∈l,P z.1=true)→k<most→scan P (fun k=>!decide ((k:Int)<(most:Int))) l k=(l.take (most - k),min (most - k) l.length)
 | [],k,_,_=>by simp [scan]
 | a::l,k,h,hk=>by
  rw [scan,if_pos (h a (by simp))]
  by_cases hs:k+1<most
  ·have:(!decide (((k+1:Nat):Int)<(most:Int)))=false:=by simp;omega
   rw [if_neg (by rw [this];simp),Qz l (k+1) (fun z hz=>h z (by simp [hz])) hs]
   obtain ⟨j,hj⟩:∃ j,most - k=j+1:=⟨most - k - 1,by omega⟩
   rw [hj,show most - (k+1)=j by omega]
   simp
  ·have:(!decide (((k+1:Nat):Int)<(most:Int)))=true:=by simp;omega
   rw [if_pos this,show most - k=1 by omega]
   simp
theorem Ly {P:Ev→Bool} {stop:Nat→Bool}:∀ (l m:List (Ev×List Int)) (k:Nat),(∀ z∈l,P z.1=false)→scan P stop (l++m) k=((scan P stop m k).1,(scan P stop m k).2+l.length)
 | [],m,k,_=>by simp
 | a::l,m,k,h=>by
  rw [List.cons_append,scan,if_neg (by simp [h a]),Ly l m k fun z hz=>h z (by simp [hz])]
  simp;omega
theorem Jf {P:Ev→Bool}:∀ (l:List (Ev×List Int)) (k:Nat),(∀ z∈l,P z.1=true)→(scan P (fun _=>false) l k).1=l
 | [],k,_=>by simp [scan]
 | a::l,k,h=>by
  rw [scan,if_pos (h a (by simp)),if_neg (by simp),Jf l (k+1) fun z hz=>h z (by simp [hz])]
theorem NH (hi:WI c x n N) (hn:n≤1000) (ow:OW c x t d) {m pl most:Nat} {hand:List (List Int)} (hm:m≤n) (CW:pl≤n) (h1:1≤most):yy d ⟨vN m,pl,hand⟩ c x most=(((vS c).drop (max m pl)).take most,(max m pl - pl)+min most (n - max m pl)):=by
 have hsp:(vS c).drop pl=((vS c).drop pl).take (max m pl - pl)++(vS c).drop (max m pl):=by
  conv=>lhs;rw [← List.take_append_drop (max m pl - pl) ((vS c).drop pl)]
  rw [List.drop_drop,show pl+(max m pl - pl)=max m pl by omega]
 have hpn:=Up hi
 have hO:∀ i z,(vS c)[i]? = some z→kS d (vN m) x z.1=!decide (i<m):=fun i z hz=>ow.abR hi hn (Tj hi hz).1
 rw [yy]
 simp only
 rw [hsp,Ly _ _ 0 ?_,Qz _ 0 ?_ (by omega)]
 ·simp only [Nat.sub_zero,List.length_take,List.length_drop,hpn,Prod.mk.injEq,true_and]
  omega
 ·intro z hz
  obtain ⟨j,hj⟩:=List.mem_iff_getElem?.1 hz
  rw [List.getElem?_drop] at hj
  rw [hO _ z hj];simp;omega
 ·intro z hz
  obtain ⟨j,hj⟩:=List.mem_iff_getElem?.1 hz
  rw [List.getElem?_take] at hj
  split at hj
  ·rw [List.getElem?_drop] at hj
   rw [hO _ z hj];simp;omega
  ·cases hj
theorem abS (hi:WI c x n N) (hn:n≤1000) (ow:OW c x t d) {hand:List (List Int)}:Lw d ⟨vN 0,0,hand⟩ c x=n:=by
 rw [Lw]
 simp only [List.drop_zero]
 rw [Jf _ 0,Up hi]
 intro z hz
 obtain ⟨j,hj⟩:=List.mem_iff_getElem?.1 hz
 rw [ow.abR hi hn (Tj hi hj).1];simp
end
section
variable {s0 s s':AS} {w:Wp} {n N:Nat} {c:iH} {x:aI} {Gs:List (List Nat)} {G R:List Nat}
theorem Wo.dj (h:Wo s0 s w c x n N (G::Gs)) (hR:R∈Gs):Dj G R:=by
 obtain ⟨_,Fc,Fs,Fv,Fw,W,A⟩:=h
 obtain ⟨j,hj⟩:=List.mem_iff_getElem?.1 hR
 exact A.ij 5 (j+6) rfl (by simpa using hj) (by omega)
theorem CK {α:Type} {f:α→List AV} {sz:Nat} {v:AV} {l:List α} (g:bt f sz s v l) (m:bD G s s') (d:Dj G (ay v)):bt f sz s' v l:=g.mut m fun y hy hm=>d y hm hy
theorem pD {f:List UInt8→Option Dv} (a:List UInt8) (d:Option Dv):kT f a d a=d:=by simp [kT]
def tT:List UInt8:=[116]
def aA:List UInt8:=[97]
set_option maxRecDepth 20000 in
set_option maxHeartbeats 2000000 in
theorem QB (A:Ap s0 s Gs):aa Tryz.prog oG [] s fun r s'=>r=.bool true∧Ap s0 s' Gs:=by
 refine JU _ _ ?_
 refine aa.use (Wo.begin A) ?_
 rintro v1 s2 ⟨w,rfl,W0,e2⟩ w2
 refine ⟨_,_,rfl,af.no rfl ?_⟩
 refine aa.use (W0.sub (by omega) tT aA) ?_
 rintro v5 s6 ⟨rfl,x1,hs,W1,k6⟩ w6
 have Wy:∃ d0,x1.live d0=some ⟨tT,aA⟩:=(hs.ok W0.1.ok W0.1.cnt (by omega)).2.2.1 (by decide) (by decide)
 have ow0:OW iH.zero x1 tT aA:=⟨Wy,fun e he=>by simp [iH.zero] at he⟩
 refine ⟨_,rfl,af.no rfl ?_⟩
 refine aa.use (W1.pub (by omega) (by omega) tT) ?_
 rintro v8 s9 ⟨rfl,k9,(⟨hno,_⟩ | ⟨_,L1,hL1,W2⟩)⟩ w9
 ·exact absurd hno (by decide)
 have ow1:=ow0.pub hL1 (v:=iH.zero.v)
 generalize WD:iH.zero.apply (oE iH.zero.v tT [] L1)=c1 at W2 ow1
 refine ⟨_,rfl,af.no rfl ?_⟩
 refine aa.use (W2.pub (by omega) (by omega) tT) ?_
 rintro v11 dg ⟨rfl,k12,(⟨hno,_⟩ | ⟨_,L2,hL2,W3⟩)⟩ GV
 ·exact absurd hno (by decide)
 have ow2:=ow1.pub hL2 (v:=c1.v)
 generalize zu:c1.apply (oE c1.v tT [] L2)=c2 at W3 ow2
 have hi:=W3.1
 refine ⟨_,rfl,af.no rfl ?_⟩
 refine aa.use W3.feed ?_
 rintro tK f_ ⟨w15,hN⟩ _
 refine aa.use hN ?_
 rintro oh lZ ⟨p,G1,rfl,W4,F4,e17⟩ w17
 refine ⟨_,rfl,?_⟩
 refine aa.use (W4.attach F4 aA (bt.nil.sl bT) (by decide) rfl (by omega) (.inl ⟨rfl,rfl⟩)) ?_
 rintro wT fN ⟨rfl,G2,W5,F5,_⟩ Vt
 refine ⟨_,rfl,_,W5.aB.1,_,W5.aB.2,?_⟩
 refine aa.use (W5.aen F5 (by omega) (by omega) aA (by decide) (pD _ _) (by omega)) ?_
 rintro Ai z4 ⟨out,Lo,G3,rfl,gO,gE,hLo,W6,F6,_⟩ w29
 have hz:(eR:List Int)=vN 0:=rfl
 have hp1:=NH (hand:=[]) hi (by omega) ow2 (m:=0) (pl:=0) (most:=5) (by omega) (by omega) (by omega)
 have hpn:=Up hi
 have hd:ER aA ⟨eR,0,[]⟩ c2 x1 5=⟨vN 0,2,[vN 1,vN 2]⟩:=by
  rw [ER,hz,show (5:Int)=((5:Nat):Int) from rfl,hp1]
  have:((vS c2).drop 0).take 5=vS c2:=by rw [List.drop_zero,List.take_of_length_le (by omega)]
  simp only [show max 0 0=0 from rfl,this]
  have h2:(vS c2).map Prod.snd=c2.NW:=by
   rw [vS,List.map_snd_zip]
   rw [hi.bl,hi.ln];simp
  rw [h2,hi.bl];rfl
 have hLl:Lo.length=2:=by
  have:=congrArg List.length hLo
  rw [hz,show (5:Int)=((5:Nat):Int) from rfl,hp1] at this
  simp [hpn] at this
  exact this
 rw [hd] at F6
 refine ⟨_,_,rfl,?_⟩
 have ajI:∀ j,j≤2→uC (rZ ⟨vN 0,2,[vN 1,vN 2]⟩ j).cur=true:=by
  intro j hj
  match j,hj with
  | 0,_=>rfl
  | 1,_=>rfl
  | 2,_=>rfl
 refine aa.use (W6.ack F6 (by omega) aA (by decide) (pD _ _) ajI (j:=1) (by decide)) ?_
 rintro Vn qR ⟨kv,G4,rfl,gk,W7,F7⟩ w33
 have EX:rZ ⟨vN 0,2,[vN 1,vN 2]⟩ 1=⟨vN 1,2,[vN 2]⟩:=by
  rw [rZ,if_neg (by decide)]
  show (⟨nD (vN 0) (vN 1),2,[vN 2]⟩:Dv)=_
  rw [abP];rfl
 rw [EX] at gk F7
 have W7':=W7.perm (.swap _ _ _)
 refine ⟨_,_,rfl,?_⟩
 refine aa.use (W7'.aeo F7 aA (by decide) (pD _ _) rfl) ?_
 rintro QS k5 ⟨mv,rfl,gm,W8,F8,s1,m1,e1⟩ w37
 have gk8:=(CK gk m1 (W7'.dj (by simp))).ext e1
 have W8':=W8.perm (Gs':=G4::ay mv::ay kv::Gs) (.swap _ _ _)
 refine ⟨_,_,rfl,?_⟩
 refine aa.use (W8'.attach F8 aA (gk8.sl bT) (by decide) (pD _ _) (by omega) (.inr ⟨aem (n:=1) (by omega),rfl,rfl⟩)) ?_
 rintro yW Fj ⟨rfl,G5,W9,F9,m9⟩ w41
 have gk9:=CK gk8 m9 (W8'.dj (by simp))
 have gm9:=CK gm m9 (W8'.dj (by simp))
 refine ⟨_,rfl,_,W9.aB.1,_,W9.aB.2,?_⟩
 refine aa.use (W9.aen F9 (by omega) (by omega) aA (by decide) (pD _ _) (by omega)) ?_
 rintro v49 pG ⟨aj4,Lo2,G6,rfl,gO2,gE2,ajJ,W10,SP,Ft⟩ w50
 have ajK:=CK gk9 Ft (W9.dj (by simp))
 have ajL:=CK gm9 Ft (W9.dj (by simp))
 have hp2:=NH (hand:=[]) hi (by omega) ow2 (m:=1) (pl:=0) (most:=5) (by omega) (by omega) (by omega)
 obtain ⟨z,hz2⟩:∃ z,(vS c2)[1]? = some z:=⟨_,List.getElem?_eq_getElem (by omega)⟩
 have agB:Lo2.map nE.ev=[z.1]:=by
  rw [ajJ,show (5:Int)=((5:Nat):Int) from rfl,hp2]
  have:((vS c2).drop 1)=[z]:=by
   apply List.ext_getElem?
   intro k
   rw [List.getElem?_drop]
   match k with
   | 0=>simpa using hz2
   | k+1=>rw [List.getElem?_eq_none (by omega)];simp
  show (((vS c2).drop 1).take 5).map Prod.fst=_
  rw [this];rfl
 obtain ⟨me,rfl⟩:=List.length_eq_one_iff.1 (show Lo2.length=1 by have:=congrArg List.length agB;simpa using this)
 have hme:me.ev=z.1:=by simpa using agB
 have hid:me.ev.id=⟨1,((1:Nat):Int)+1⟩:=by rw [hme];exact (hi.ev 1 _ (Tj hi hz2).1).1
 obtain ⟨la,o,k8,k9'⟩:=(gO2.sl bq).ix (i:=0) (by decide) bq ef Bx rfl
 have hc:av pG la (o+1)=some (.int .u64 2):=by
  rw [(k9' _ (Ext.refl _)).1 1 (by omega)]
  show some (AV.int .u64 me.ev.id.c)=_
  rw [hid];rfl
 refine ⟨_,_,rfl,af.yes rfl (af.yes rfl (af.yes rfl (af.yes rfl (af.yes rfl (af.yes rfl ⟨_,(gO.sl bq).cG ef _,?_⟩)))))⟩
 rw [hLl]
 refine af.yes rfl ⟨_,Lr (ajK.sl bT),_,Lr (ajL.sl bT),af.yes (by simp) ⟨_,(gO2.sl bq).cG ef _,af.yes rfl ⟨_,_,k8 .i64,_,hc,rfl,?_⟩⟩⟩
 obtain ⟨_,Fc,Fs,Fv,Fw,Wf,Af⟩:=W10
 exact Af.tail.tail.tail.tail.tail.tail.tail.tail
end
end Go.Proofs.YtohgmogbabkkeaaGreat
end

section
namespace Go.Proofs.YtohgmogbabkkeaaGreat
open Go.Am Go.au Go.aC Go.bW
def boC (b:Bool):List AV:=[.bool b]
theorem abT (b:Bool):(boC b).length=1:=rfl
section
variable {s0 s s':AS} {w:Wp} {n N:Nat} {c:iH} {x:aI} {Gs:List (List Nat)} {G R:List Nat}
theorem Ap.start (s:AS):Ap s s []:=⟨Ext.refl s,List.Pairwise.nil,fun R h=>by cases h⟩
theorem Wo.abR {p k:Nat} {f:List UInt8→Option Dv} (h:Wo s0 s w c x n N (G::Gs)) (F:FI G s p f k n) (hN:N≤1000) (hn:n≤1000) (name:List UInt8) {d:Dv} (hname:aD name=true) (hf:f name=some d) :
  aa Tryz.prog jR [.ptr (some (p,0)),.str name,.ptr (some (w.pc,0)),.ptr (some (w.ps,0))] s fun r s'=>r=.aQ [.int .i64 (Lw name d c x:Nat),.int .i64 0]∧Ext s s':=by
 obtain ⟨Fc,Fs,T⟩:=h.agA F hN hn
 exact abN T hname hf
def AnS (s0 s:AS) (w:Wp) (t d:List UInt8) (i n:Nat):Prop:=aM s∧n≤i∧∃ (c:iH) (x:aI) (N:Nat),N≤i+1∧Wo s0 s w c x n N []∧OW c x t d
set_option maxRecDepth 20000 in
set_option maxHeartbeats 2000000 in
theorem NI {a:AV} {l:List Bool} (hl:Sl boC 1 s a l) (t d:List UInt8):aa Tryz.prog jP [a,.str t,.str d] s fun r s'=>r=.bool true:=by
 refine aa.pre fun hw=>DC _ _ _ _ _ ?_
 refine ⟨fun vs s'=>s'=s∧∃ b,vs=[.bool b]∧(b=false→l.length≤40∧aD t=true∧aD d=true),?_,?_⟩
 rotate_left
 ·refine ⟨_,hl.cG By _,af.dec (fun h=>⟨rfl,true,rfl,fun h=>by cases h⟩) (fun h=>?_)⟩
  refine aa.use (vG _ _) ?_
  rintro v s' ⟨rfl,rfl⟩ _
  refine ⟨_,rfl,af.mk (fun h2=>⟨rfl,true,rfl,fun h=>by cases h⟩) (fun h2=>?_)⟩
  refine aa.use (vG _ _) ?_
  rintro v s' ⟨rfl,rfl⟩ _
  exact ⟨_,rfl,rfl,_,rfl,fun h3=>⟨by omega,by simpa using h2,by simpa using h3⟩⟩
 rintro b2 s3 ⟨rfl,b,hb,hc⟩
 simp only [List.cons.injEq,AV.bool.injEq,and_true] at hb
 subst hb
 refine af.mk (fun hb=>?_) (fun hb=>?_)
 ·refine aa.use (QB (Ap.start s3)) ?_
  rintro v s5 ⟨rfl,_⟩ _
  exact ⟨_,rfl,rfl⟩
 obtain ⟨h40,hnt,Bj⟩:=hc hb
 refine aa.use (Wo.begin (Ap.start s3)) ?_
 rintro v7 s8 ⟨w,rfl,W0,e8⟩ w8
 refine ⟨_,_,rfl,af.no rfl ?_⟩
 refine aa.use (W0.sub (by omega) t d) ?_
 rintro v11 dg ⟨rfl,x1,hs,W1,k12⟩ GV
 have ow0:OW iH.zero x1 t d:=⟨(hs.ok W0.1.ok W0.1.cnt (by omega)).2.2.1 hnt Bj,fun e he=>by simp [iH.zero] at he⟩
 refine ⟨_,rfl,af.no rfl ⟨fun vs s'=>∃ n:Nat,vs=[.int .i64 n]∧AnS s3 s' w t d 40 n,?_,?_⟩⟩
 ·rintro wR kr ⟨n,hn,w16,aj5,c,x,N,hN,W,ow⟩
  simp only [List.cons.injEq,AV.int.injEq,true_and,and_true] at hn
  subst hn
  have hi:=W.1
  refine aa.use W.feed ?_
  rintro o_ eC ⟨RX,ajM⟩ _
  refine aa.use ajM ?_
  rintro wT fN ⟨p,G1,rfl,W4,F4,Na⟩ Vt
  refine ⟨_,rfl,?_⟩
  refine aa.use (W4.attach F4 d (bt.nil.sl bT) Bj rfl (by omega) (.inl ⟨rfl,rfl⟩)) ?_
  rintro qm rO ⟨rfl,G2,W5,F5,_⟩ YN
  refine ⟨_,rfl,af.no rfl ⟨_,W5.aB.1,_,W5.aB.2,?_⟩⟩
  refine aa.use (W5.abR F5 (by omega) (by omega) d Bj (pD _ _)) ?_
  rintro wE lS ⟨rfl,Y_⟩ YM
  have hon:Lw d ⟨eR,0,[]⟩ c x=n:=abS hi (by omega) ow
  rw [hon]
  refine ⟨_,_,rfl,⟨fun vs s'=>vs=[.int .i64 n]∧∃ (G:List Nat),Wo s3 s' w c x n N (G::[]),?_,?_⟩⟩
  ·rintro Zi k5 ⟨hv,G,Wx⟩
   simp only [List.cons.injEq,AV.int.injEq,true_and,and_true] at hv
   subst hv
   refine af.yes rfl (af.yes (by simp) (af.yes (by simp) ?_))
   obtain ⟨_,Fc,Fs,Fv,Fw,Wf,Af⟩:=Wx
   refine aa.use (QB Af) ?_
   rintro v s5 ⟨rfl,_⟩ _
   exact ⟨_,rfl,rfl⟩
  ·refine ⟨fun m' vs s'=>∃ (i:Nat) (G:List Nat) (pl:Nat) (hand:List (List Int)) (f:List UInt8→Option Dv) (k:Nat),vs=[.int .i64 pl,.int .i64 (i:Nat)]∧i≤6∧m'=6 - i∧aM s'∧Wo s3 s' w c x n N (G::[])∧FI G s' p f k n∧f d=some ⟨vN 0,pl,hand⟩∧pl≤n∧(n≤pl+(96 - 16*i)),6,⟨0,G2,0,[],_,_,rfl,by omega,rfl,YM,W5.ext Y_,F5.ext Y_,pD _ _,by omega,by omega⟩,?_⟩
   rintro m' n44 n45 qQ ⟨i,G,pl,hand,f,k,hv,h6,rfl,w46,W6,F6,hf,CW,aj6⟩
   simp only [List.cons.injEq,AV.int.injEq,true_and,and_true] at hv
   obtain ⟨rfl,rfl⟩:=hv
   refine af.dec (fun hlt=>⟨_,W6.aB.1,_,W6.aB.2,?_⟩) (fun hge=>?_)
   ·refine aa.use (W6.aen F6 (by omega) (by omega) d Bj hf (by omega)) ?_
    rintro v53 tH ⟨out,Lo,G',rfl,gO,gE,hLo,W7,F7,_⟩ w54
    have hp:=NH (hand:=hand) hi (by omega) ow (m:=0) (pl:=pl) (most:=16) (by omega) (by omega) (by omega)
    have hpn:=Up hi
    rw [show max 0 pl=pl by omega] at hp
    have hLl:Lo.length=min 16 (n - pl):=by
     have:=congrArg List.length hLo
     rw [show (16:Int)=((16:Nat):Int) from rfl,hp] at this
     simpa [hpn] using this
    have hd:∃ hand',ER d ⟨vN 0,pl,hand⟩ c x 16=⟨vN 0,pl+min 16 (n - pl),hand'⟩:=by
     refine ⟨hand++(((vS c).drop pl).take 16).map Prod.snd,?_⟩
     rw [ER,show (16:Int)=((16:Nat):Int) from rfl,hp]
     simp only [Nat.sub_self,Nat.zero_add]
    obtain ⟨hand',hd⟩:=hd
    rw [hd] at F7
    refine ⟨_,_,rfl,af.no rfl ⟨_,(gO.sl bq).cG ef _,6 - (i+1),by omega,i+1,G',pl+min 16 (n - pl),hand',_,_,?_,by omega,rfl,w54,W7,F7,pD _ _,by omega,by omega⟩⟩
    rw [hLl,Cp (by omega),aV (by omega)]
    rfl
   ·obtain rfl:i=6:=by omega
    obtain rfl:pl=n:=by omega
    exact ⟨rfl,G,W6⟩
 ·refine ⟨fun m' vs s'=>∃ (i n:Nat),vs=[.int .i64 n,.int .i64 (i:Nat)]∧i≤l.length∧m'=l.length - i∧AnS s3 s' w t d i n,l.length,⟨0,0,rfl,by omega,rfl,GV,by omega,_,_,1,by omega,W1,ow0⟩,?_⟩
  rintro m' EJ WS A3 ⟨i,n,hv,h6,rfl,w63,hni,c,x,N,hN,W,ow⟩
  simp only [List.cons.injEq,AV.int.injEq,true_and,and_true] at hv
  obtain ⟨rfl,rfl⟩:=hv
  have agC:=hl.ext W.ap
  refine ⟨_,agC.cG By _,af.dec (fun hlt=>?_) (fun hge=>⟨n,rfl,w63,by omega,c,x,N,by omega,W,ow⟩)⟩
  obtain ⟨y,hy⟩:=cW (l:=l) (i:=i) (by omega)
  obtain ⟨la,o,k8,k9⟩:=agC.ix (by decide) abT By ac0 hy
  refine ⟨fun vs s'=>∃ n':Nat,vs=[.bool true,.int .i64 n']∧AnS s3 s' w t d (i+1) n',?_,la,o,k8 _,y,by have:=(k9 _ (Ext.refl _)).1 0 (by omega);simpa [boC] using this,af.mk (fun hb=>?_) (fun hb=>?_)⟩
  ·rintro b66 n67 QX ⟨n',hv,hA⟩
   simp only [List.cons.injEq,AV.int.injEq,AV.bool.injEq,true_and,and_true] at hv
   obtain ⟨rfl,rfl⟩:=hv
   exact af.no rfl ⟨l.length - (i+1),by omega,i+1,n',by rw [Cp (by omega)],by omega,rfl,hA⟩
  ·refine aa.use (W.sub (by omega) t d) ?_
   rintro v s' ⟨rfl,x',hs,W',_⟩ w'
   exact ⟨_,rfl,n,rfl,w',by omega,c,x',N+1,by omega,W',ow.sub W.1 hs (by omega) hnt Bj⟩
  ·refine aa.use (W.pub (by omega) (by omega) t) ?_
   rintro v s' ⟨rfl,_,(⟨hno,_⟩ | ⟨_,L,hL,W'⟩)⟩ w'
   ·rw [hnt] at hno;cases hno
   ·exact ⟨_,rfl,n+1,by rw [aV (by omega)];rfl,w',by omega,_,x,N,by omega,W',ow.pub hL⟩
end
end Go.Proofs.YtohgmogbabkkeaaGreat
end

section
namespace Go.Proofs.YtohgmogbabkkeaaGreat
open Go.Am Go.au Go.aC Go.ChangeShapes Go.WideShapes Go.ChangeAt Go.RowKit
set_option maxRecDepth 100000 in
theorem Wv:EC Tryz.prog 5 rm=some [.bool]:=by kernel_rfl
set_option maxRecDepth 100000 in
theorem Ww {H:Type} {enc:TypeId×Value→H} {W:World} {base:Nat} {v:Value} (hv:Value.okWide Tryz.prog W .any base ue v) (h:∃ (d:DataW H) (p:List MemPlace),DataW.Trod enc Tryz.prog W 0 (fun _=>true) true ue v d p) :
  ∃ l:List Bool,Sl boC 1 (sW W) (fM W.heap.size (MW W) v) l:=by
 obtain ⟨d,p,h⟩:=h
 obtain ⟨C,h1,h2,_⟩:=UT (d:=5) (ks:=[.bool]) (hT.cM _ _ By) Wv (by kernel_rfl) (by decide) hv h
 obtain ⟨l,e1,e2,e3⟩:=KW (f:=boC) (Q:=fun i=>True) C fun c hc=>by
  obtain ⟨a,c1,rfl,⟨r,rfl⟩,g1⟩:=(h2 c hc).cons
  obtain rfl:=g1.nil
  exact ⟨r,rfl,trivial⟩
 rw [e1,e2] at h1
 exact ⟨l,h1⟩
set_option maxRecDepth 100000 in
theorem Uq {W:World} {base:Nat} {v:Value} (hv:Value.okWide Tryz.prog W .any base cq v):∃ b:List UInt8,fM W.heap.size (MW W) v=.str b:=by
 obtain ⟨n,rfl⟩:=okWide_string (hT.cM _ _ oZ) hv
 exact ⟨n.data.toList,by simp only [fM]⟩
end Go.Proofs.YtohgmogbabkkeaaGreat
end
