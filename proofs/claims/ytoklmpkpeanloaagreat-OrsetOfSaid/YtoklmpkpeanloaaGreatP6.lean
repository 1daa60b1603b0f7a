/-
  A part of the proof: an abstract machine over the model, and contracts of functions of this program over it.
-/
import Derived.KernelRfl
import Derived.Test.YtoklmpkpeanloaaGreatP5
set_option linter.unusedVariables false
set_option linter.unusedSimpArgs false
set_option linter.unusedSectionVars false
section
namespace Go.Proofs.YtoklmpkpeanloaaGreat
open Go.Am Go.Minster Go.Minster2
section
variable {F : List Nat} {s : AS} {p : Nat} {x : OSet} {B : Nat}
def liveE (e : Dot × Key × Nat) : Itm := ⟨e.1, e.2.1, false⟩
theorem srt_rising {l : List Itm} (hs : Go.Minster.SI.Srt l 0 l.length) (hn : (l.map Itm.dot).Nodup) : Rising (l.map Itm.dot) := by
 refine List.pairwise_iff_getElem.2 fun i j hi hj hij => ?_
 simp only [List.length_map] at hi hj
 have hle : (Go.Minster.SI.el l i).le (Go.Minster.SI.el l j) := hs i j (by omega) hij hj
 have ei : Go.Minster.SI.el l i = l[i] := by have := Go.Minster.SI.el_get hi; rw [List.getElem?_eq_getElem hi] at this; exact (Option.some.inj this).symm
 have ej : Go.Minster.SI.el l j = l[j] := by have := Go.Minster.SI.el_get hj; rw [List.getElem?_eq_getElem hj] at this; exact (Option.some.inj this).symm
 rw [ei, ej] at hle
 simp only [List.getElem_map]
 rcases Dot.lt_tri l[i].dot l[j].dot with h | h | h
 ·exact h
 ·exfalso
  have := (List.pairwise_iff_getElem.1 hn) i j (by simpa using hi) (by simpa using hj) hij
  simp only [List.getElem_map] at this
  exact this h
 ·exfalso
  have h2 : l[j].dot.lt l[i].dot = false := hle
  rw [h2] at h; cases h
theorem Items_okN (h : SetF F s p x) (o : OOk x B) (hB : B ≤ 1000) : ACalls Tryz.prog F_orset_Set_Items [.ptr (some (p, 0))] s fun v s' => ∃ I, Items x I ∧ SI.ArrN s s' v I := by
 obtain ⟨hb1, hb2⟩ := h.bnd o
 refine q_orset_Set_Items _ _ _ ?_
 refine ACalls.use (there_ok h) ?_
 rintro v s2 ⟨rfl, rfl⟩ w2
 obtain ⟨_, _, _, pc, lm, tm, a, _, _, _, _, _, ⟨es, c, hm, hg, hl⟩, _⟩ := id h
 refine ⟨_, rfl, bsplit.no rfl ⟨fun vs s' => ∃ (v : AV) (done : List (Dot × Key × Nat)), vs = [v] ∧ WFs s' ∧ GroN itemC 5 [] s2 s' v (done.map liveE) ∧ (∀ e ∈ es, e ∈ done) ∧ (∀ e ∈ done, e ∈ es) ∧ done.Nodup, ?_, _, by rw [a.at.rd1]; rfl, MpAt.range u_m_Dot_Key w2 hm fun it s19 hit F19 => ⟨fun m vs s' => ∃ (v : AV) (done : List (Dot × Key × Nat)), vs = [v] ∧ m = es.length - done.length ∧ WFs s' ∧ MpAt dK kV s' lm es c false ∧ Iter s' it lm es c done ∧ GroN itemC 5 [it] s19 s' v (done.map liveE), es.length, ⟨_, [], rfl, by simp, F19.wf, hm.ext F19.ext, hit, GroN.nil⟩, ?_⟩⟩⟩
 ·rintro v5 s6 ⟨v', done, hv, w6, g6, d1, d2, d3⟩
  obtain rfl : v5 = v' := by simpa using hv
  have e6 := g6.chg.ext
  refine ACalls.use (Tombs_ok (h.ext e6) (by omega)) ?_
  rintro v7 s8 ⟨t, hA, tris, tmem, tlen⟩ w8
  refine ACalls.use (gone_ok hA.dots (by omega)) ?_
  rintro v9 s10 g10 w10
  have e10 := hA.1.trans g10.chg.ext
  have hdl : done.length = es.length := by
   have hes2 : es.Nodup := hm.nd.imp fun {a b} h e => h (by rw [e])
   exact ((List.perm_ext_iff_of_nodup d3 hes2).2 fun a => ⟨d2 a, d1 a⟩).length_eq
  refine GroN.appendS sl_s_Item itemC_len itemC_one w10 (g6.step e10) (by simp) (g10.sl itemC_len) (by simp; omega) u_s_Item fun v11 s12 g12 w12 _ => ?_
  refine ACalls.use (SI.sortGro_ok g12 (by simp; omega)) ?_
  rintro r s14 ⟨rfl, l', hp, hs, hA2⟩ w14
  refine ⟨rfl, l', ?_, hA2⟩
  have hlive : ∀ i : Itm, i ∈ done.map liveE ↔ i.gone = false ∧ x.live i.dot = some i.key := by
   intro i
   rw [List.mem_map]
   constructor
   ·rintro ⟨e, he, rfl⟩
    exact ⟨rfl, by rw [← hg]; exact mget_mem hm.nd (d2 e he)⟩
   ·rintro ⟨h1, h2⟩
    rw [← hg] at h2
    obtain ⟨j, n, hj⟩ := mget_some h2
    refine ⟨_, d1 _ (List.mem_of_getElem? hj), ?_⟩
    cases i
    simp only at h1
    simp [liveE, h1]
  have hgone : ∀ i : Itm, i ∈ t.map goneI ↔ i.gone = true ∧ x.tomb i.dot = true ∧ i.key = ⟨[], []⟩ := by
   intro i
   rw [List.mem_map]
   constructor
   ·rintro ⟨d, hd, rfl⟩
    exact ⟨rfl, (tmem d).1 hd, rfl⟩
   ·rintro ⟨h1, h2, h3⟩
    refine ⟨i.dot, (tmem _).2 h2, ?_⟩
    cases i
    simp only at h1 h3
    simp [goneI, h1, h3]
  have hnd : ((done.map liveE ++ t.map goneI).map Itm.dot).Nodup := by
   rw [List.map_append, List.map_map, List.map_map]
   refine List.nodup_append.2 ⟨?_, ?_, ?_⟩
   ·refine List.pairwise_map.2 (List.Pairwise.imp_of_mem ?_ d3)
    intro u w hu hw huw he
    have h1 := mget_mem hm.nd (d2 u hu)
    have h2 := mget_mem hm.nd (d2 w hw)
    have key : ∀ (l : List (Dot × Key × Nat)), l.Pairwise (fun a b => a.1 ≠ b.1) → u ∈ l → w ∈ l → u = w := by
     intro l
     induction l with
     | nil => intro _ h; cases h
     | cons z l ih =>
      intro hp h4 h5
      obtain ⟨p1, p2⟩ := List.pairwise_cons.1 hp
      rcases List.mem_cons.1 h4 with r4 | h4 <;> rcases List.mem_cons.1 h5 with r5 | h5
      ·rw [r4, r5]
      ·exact absurd (by rw [← r4]; exact he) (p1 w h5)
      ·exact absurd (by rw [← r5]; exact he.symm) (p1 u h4)
      ·exact ih p2 h4 h5
    exact huw (key es hm.nd (d2 u hu) (d2 w hw))
   ·have : t.map (Itm.dot ∘ goneI) = t := by
     conv => rhs; rw [← List.map_id t]
     rfl
    rw [this]; exact rising_nodup tris
   ·intro u hu w hw
    rw [List.mem_map] at hu hw
    obtain ⟨e, he, rfl⟩ := hu
    obtain ⟨d, hd, rfl⟩ := hw
    intro heq
    have h1 : x.live e.1 = some e.2.1 := by rw [← hg]; exact mget_mem hm.nd (d2 e he)
    have h2 := (o.tb d ((tmem d).1 hd)).2
    have : e.1 = d := heq
    rw [this, h2] at h1; cases h1
  refine ⟨srt_rising hs ((hp.map Itm.dot).nodup_iff.2 hnd), fun i => ?_⟩
  rw [hp.mem_iff, List.mem_append, hlive, hgone]
  unfold OSet.item
  cases i.gone <;> simp
 ·rintro m v s24 ⟨v', done, hv, rfl, w24, hm24, hit24, g24⟩
  obtain rfl : v = v' := by simpa using hv
  have hitx : s24.h it ≠ none := by rw [hit24.at]; simp
  refine ⟨fun vs s' => (vs = [.bool false] ∧ s' = s24 ∧ ∀ e ∈ es, e ∈ done) ∨ (vs = [.bool true] ∧ ∃ e, e ∈ es ∧ e ∉ done ∧ WFs s' ∧ MpAt dK kV s' lm es c false ∧ Iter s' it lm es c (done ++ [e]) ∧ GroN itemC 5 [it] s19 s' v (done.map liveE)), ?_, ?_⟩
  rotate_left
  ·refine Iter.next w24 hm24 hit24 (fun hall => .inl ⟨rfl, rfl, hall⟩) fun e s' he hne hit' w' m' => .inr ⟨rfl, e, he, hne, w', hm24.mut m' ?_, hit', g24.wr ?_ m'⟩
   ·simp only [List.mem_singleton]
    rintro rfl
    have := hm24.obj
    rw [hit24.at] at this; cases this
   ·intro y hy
    obtain rfl := List.mem_singleton.1 hy
    rw [hit.at]; simp
  rintro b s27 (⟨hb, rfl, hall⟩ | ⟨hb, e, he, hne, w27, hm27, hit27, g27⟩)
  ·obtain rfl : b = false := by simpa using hb
   refine bsplit.no rfl ⟨v, done, rfl, w24, ⟨g24.gro, ?_, fun la hla => F19.ext.none (g24.new la hla)⟩, hall, hit24.sub, hit24.nd⟩
   exact (Ext.wr F19.ext F19.no g24.chg).mut
  ·obtain rfl : b = true := by simpa using hb
   have hlt := hit24.lt he hne
   refine bsplit.yes rfl (Iter.entry hm27 hit27 ⟨dotC e.1, rfl, keyC e.2.1, rfl, NewQ.intro w27 rfl fun l32 s33 F33 => NewQ.intro F33.wf rfl fun l34 s35 F35 => ⟨⟨by simp [dotC], rfl⟩, ?_⟩⟩)
   have hne34 : l32 ≠ l34 := by
    rintro rfl
    have := F35.no
    rw [F33.at] at this; cases this
   refine StQ.own F35.wf (F33.own.ext F35.ext) (by simp [dotC]) fun s36 P36 => ⟨⟨by simp [keyC], rfl⟩, StQ.own P36.wf (F35.own.mut P36.mut (by simpa using hne34.symm)) (by simp [keyC]) fun s37 P37 => ?_⟩
   have e35 : Ext s27 s35 := F33.ext.trans F35.ext
   have e37 : Ext s27 s37 := Ext.wr (Ext.wr e35 F33.no P36.mut) (F33.ext.none F35.no) P37.mut
   have o32 : Am.Own s37 l32 (dotC e.1) := by
    have := P36.at
    rw [wrs_all0 (by simp [dotC])] at this
    exact Am.Own.mut this P37.mut (by simpa using hne34)
   have o34 : Am.Own s37 l34 (keyC e.2.1) := by
    have := P37.at
    rw [wrs_all0 (by simp [keyC])] at this
    exact this
   have hit37 := hit27.ext e37
   refine ⟨_, o32.at.rdc (by simp [dotC]), _, o34.at.rdc (by simp [keyC]), _, build_item e.1 e.2.1, GroN.append1 sl_s_Item itemC_len itemC_one P37.wf (g27.step e37) (fun y hy => ?_) (liveE e) (by simp; omega) fun v44 s45 g45 w45 m45 => ?_⟩
   ·obtain rfl := List.mem_singleton.1 hy
    rw [hit37.at]; simp
   ·have hnit : it ∉ labOf v := fun hx => by
     have := g24.new it hx
     rw [hit.at] at this; cases this
    have hnlm : lm ∉ labOf v := fun hx => by
     have := g24.new lm hx
     rw [(hm.ext F19.ext).obj] at this; cases this
    refine ⟨es.length - (done ++ [e]).length, by simp; omega, v44, done ++ [e], rfl, rfl, w45, (hm27.ext e37).mut m45 hnlm, hit37.mut m45 hnit, ?_⟩
    rw [List.map_append]
    exact g45
theorem Items_ok (h : SetF F s p x) (o : OOk x B) (hB : B ≤ 1000) : ACalls Tryz.prog F_orset_Set_Items [.ptr (some (p, 0))] s fun v s' => ∃ I, Items x I ∧ Sl itemC 5 s' v I ∧ Ext s s' := by
 refine (Items_okN h o hB).mono ?_
 rintro v s' ⟨I, h1, h2⟩
 exact ⟨I, h1, h2.dots, h2.1⟩
end
/-! ### the reference's live items and keys -/
section
variable {F : List Nat} {s : AS} {q : Nat} {x : OSet} {B : Nat}
def liveI (I : List Itm) : List Itm := I.filter fun i => !i.gone
theorem ref_Live_ok (h : RefO F s q x) (o : OOk x B) (hB : B ≤ 1000) : ACalls Tryz.prog F_ref07iSet_Live [.ptr (some (q, 0))] s fun v s' => ∃ I, Items x I ∧ GroN itemC 5 [] s s' v (liveI I) := by
 obtain ⟨w, iw, I, a, c2, c3, hI, hr, _⟩ := h.open
 have hlen := hI.len o
 refine ACalls.pre fun hw => q_ref07iSet_Live _ _ _ ⟨fun m vs s' => ∃ (i : Nat) (v : AV), vs = [v, .int .i64 (i : Nat)] ∧ i ≤ I.length ∧ m = I.length - i ∧ WFs s' ∧ GroN itemC 5 [] s s' v (liveI (I.take i)), I.length, ⟨0, _, rfl, by omega, rfl, hw, by simpa [liveI] using GroN.nil⟩, ?_⟩
 rintro m v4 n s6 ⟨i, v', hi, h6, rfl, w6, g6⟩
 simp only [List.cons.injEq, AV.int.injEq, true_and, and_true] at hi
 obtain ⟨rfl, rfl⟩ := hi
 have E6 := g6.chg.ext
 have c6 := (c3.ext E6).sl itemC_len
 refine ⟨iw, hr _ E6, _, c6.lenB u_s_Item _, bsplit.dec (fun hlt => ?_) (fun hge => ?_)⟩
 ·obtain ⟨y, hy⟩ := get_lt (l := I) (i := i) (by omega)
  obtain ⟨ly, oy, k8, k9⟩ := c6.ix (by decide) itemC_len u_s_Item z_Item hy
  have hfl := List.length_filter_le (fun i : Itm => !i.gone) (I.take i)
  have htl := List.length_take_le i I
  have ht : liveI (I.take (i + 1)) = liveI (I.take i) ++ if y.gone = false then [y] else [] := by
   unfold liveI
   rw [List.take_add_one, hy, List.filter_append, Option.toList_some]
   congr 1
   cases hq : y.gone <;> simp [List.filter_cons, hq]
  refine ⟨iw, hr _ E6, ly, oy, k8 _, y.gone, (k9 _ (Ext.refl _)).1 4 (by decide), bsplit.mk (fun hg => ?_) (fun hg => ?_)⟩
  ·refine ⟨iw, hr _ E6, ly, oy, k8 _, _, (k9 _ (Ext.refl _)).2, GroN.append1 sl_s_Item itemC_len itemC_one w6 g6 (by simp) y (by unfold liveI; omega) fun v' s' g' w' _ => ?_⟩
   exact ⟨I.length - (i + 1), by omega, i + 1, v', by rw [wrap_i (by omega)]; rfl, by omega, rfl, w', by rw [ht, if_pos (by simpa using hg)]; exact g'⟩
  ·exact ⟨I.length - (i + 1), by omega, i + 1, v4, by rw [wrap_i (by omega)]; rfl, by omega, rfl, w6, by rw [ht, if_neg (by simpa using hg), List.append_nil]; exact g6⟩
 ·rw [List.take_of_length_le (by omega)] at g6
  exact ⟨I, hI, g6⟩
theorem liveI_mem {I : List Itm} (h : Items x I) (i : Itm) : i ∈ liveI I ↔ i.gone = false ∧ x.live i.dot = some i.key := by
 unfold liveI
 rw [List.mem_filter, h.mem]
 unfold OSet.item
 cases i.gone <;> simp
theorem kris_ins {l : List Key} (h : Go.Minster.SK.KRis l) {k : Key} {j : Nat} (hj : j ≤ l.length) (h1 : ∀ (i : Nat) y, i < j → l[i]? = some y → y.lt k = true) (h2 : ∀ y, l[j]? = some y → k.lt y = true) : Go.Minster.SK.KRis (l.take j ++ [k] ++ l.drop j) := by
 have hsp : l = l.take j ++ l.drop j := (List.take_append_drop j l).symm
 have hp := h
 unfold Go.Minster.SK.KRis at hp ⊢
 rw [hsp] at hp
 obtain ⟨p1, p2, p3⟩ := List.pairwise_append.1 hp
 have ha : ∀ y ∈ l.take j, y.lt k = true := fun y hy => by
  obtain ⟨i, hi⟩ := List.mem_iff_getElem?.1 hy
  rw [List.getElem?_take] at hi
  split at hi
  ·rename_i hij; exact h1 i y hij hi
  ·cases hi
 have hb : ∀ y ∈ l.drop j, k.lt y = true := fun y hy => by
  cases hd : l.drop j with
  | nil => rw [hd] at hy; cases hy
  | cons z r =>
   have hz : l[j]? = some z := by
    have := congrArg (fun l : List Key => l[0]?) hd
    simpa [List.getElem?_drop] using this
   have hkz := h2 z hz
   rw [hd] at hy p2
   rcases List.mem_cons.1 hy with rfl | hy
   ·exact hkz
   ·exact Key.lt_trans hkz ((List.pairwise_cons.1 p2).1 y hy)
 rw [List.append_assoc]
 refine List.pairwise_append.2 ⟨p1, ?_, ?_⟩
 ·exact List.pairwise_cons.2 ⟨hb, p2⟩
 ·intro u hu w hw
  rcases List.mem_cons.1 hw with rfl | hw
  ·exact ha u hu
  ·exact p3 u hu w hw
theorem ref_Keys_ok (h : RefO F s q x) (o : OOk x B) (hB : B ≤ 1000) : ACalls Tryz.prog F_ref07iSet_Keys [.ptr (some (q, 0))] s fun v s' => ∃ l, Go.Minster.SK.KRis l ∧ (∀ k, k ∈ l ↔ ∃ d, x.live d = some k) ∧ KeysS s' v l ∧ Ext s s' := by
 refine q_ref07iSet_Keys _ _ _ ?_
 refine ACalls.use (ref_Live_ok h o hB) ?_
 rintro v1 s2 ⟨I, hI, g1⟩ w2
 have hlen := hI.len o
 have hJl : (liveI I).length ≤ I.length := List.length_filter_le _ _
 obtain ⟨J, hJ⟩ : ∃ J, J = liveI I := ⟨_, rfl⟩
 rw [← hJ] at g1 hJl
 have hj1 := g1.sl itemC_len
 refine ⟨fun m vs s' => ∃ (i : Nat) (v : AV) (l : List Key), vs = [v, .int .i64 (i : Nat)] ∧ i ≤ J.length ∧ m = J.length - i ∧ WFs s' ∧ GroN keyC 2 [] s2 s' v l ∧ l.length ≤ i ∧ Go.Minster.SK.KRis l ∧ ∀ k, k ∈ l ↔ ∃ y ∈ J.take i, y.key = k, J.length, ⟨0, _, [], rfl, by omega, rfl, w2, GroN.nil, by simp, List.Pairwise.nil, by simp⟩, ?_⟩
 rintro m v6 n s8 ⟨i, v', l, hi, h6, rfl, w8, g8, hll, hris, hmem⟩
 simp only [List.cons.injEq, AV.int.injEq, true_and, and_true] at hi
 obtain ⟨rfl, rfl⟩ := hi
 have E8 := g8.chg.ext
 refine ⟨_, (hj1.ext E8).lenB u_s_Item _, bsplit.dec (fun hlt => ?_) (fun hge => ?_)⟩
 rotate_left
 ·rw [List.take_of_length_le (by omega)] at hmem
  refine ⟨l, hris, fun k => ?_, g8.sl keyC_len, g1.chg.ext.trans E8⟩
  rw [hmem]
  constructor
  ·rintro ⟨y, hy, rfl⟩
   rw [hJ] at hy
   exact ⟨y.dot, ((liveI_mem hI y).1 hy).2⟩
  ·rintro ⟨d, hd⟩
   exact ⟨⟨d, k, false⟩, by rw [hJ]; exact (liveI_mem hI _).2 ⟨rfl, hd⟩, rfl⟩
 obtain ⟨y, hy⟩ := get_lt (l := J) (i := i) (by omega)
 obtain ⟨ly, oy, k8, k9⟩ := hj1.ix (by decide) itemC_len u_s_Item z_Item hy
 have hti : ∀ k, (∃ z ∈ J.take (i + 1), z.key = k) ↔ (∃ z ∈ J.take i, z.key = k) ∨ k = y.key := fun k => by
  rw [List.take_add_one, hy, Option.toList_some]
  constructor
  ·rintro ⟨z, hz, rfl⟩
   rcases List.mem_append.1 hz with hz | hz
   ·exact .inl ⟨z, hz, rfl⟩
   ·obtain rfl := List.mem_singleton.1 hz; exact .inr rfl
  ·rintro (⟨z, hz, rfl⟩ | rfl)
   ·exact ⟨z, List.mem_append_left _ hz, rfl⟩
   ·exact ⟨y, by simp, rfl⟩
 refine ⟨ly, oy, k8 _, keyC y.key, rdc_mid ((k9 _ E8).2) 2 2 (by decide), NewSt w8 rfl rfl rfl fun l13 s15 F15 => ?_⟩
 have g15 := g8.step F15.ext
 have hks := g15.sl keyC_len
 have a13 : At s15 l13 (keyC y.key) := F15.own.at
 refine ⟨fun vs s' => s' = s15 ∧ ∃ j : Nat, vs = [.int .i64 (j : Nat)] ∧ j ≤ l.length ∧ (∀ (u : Nat) z, u < j → l[u]? = some z → z.lt y.key = true) ∧ ∀ z, l[j]? = some z → z.lt y.key = false, ?_, fun m vs s' => ∃ j : Nat, vs = [.int .i64 (j : Nat)] ∧ j ≤ l.length ∧ m = l.length - j ∧ s' = s15 ∧ ∀ (u : Nat) z, u < j → l[u]? = some z → z.lt y.key = true, l.length, ⟨0, rfl, by omega, rfl, rfl, fun u z hu => by omega⟩, ?_⟩
 ·rintro n17 s18 ⟨rfl, j, hj, hjl, hlow, hhigh⟩
  simp only [List.cons.injEq, AV.int.injEq, true_and, and_true] at hj
  subst hj
  have done : y.key ∈ l → ∃ m', m' < J.length - i ∧ ∃ (i' : Nat) (v : AV) (l' : List Key), [v6, AV.int .i64 (IntKind.wrap .i64 ((i : Int) + 1))] = [v, .int .i64 (i' : Nat)] ∧ i' ≤ J.length ∧ m' = J.length - i' ∧ WFs s18 ∧ GroN keyC 2 [] s2 s18 v l' ∧ l'.length ≤ i' ∧ Go.Minster.SK.KRis l' ∧ ∀ k, k ∈ l' ↔ ∃ y ∈ J.take i', y.key = k := fun hin =>
   ⟨J.length - (i + 1), by omega, i + 1, v6, l, by rw [wrap_i (by omega)]; rfl, by omega, rfl, F15.wf, g15, by omega, hris, fun k => by
    rw [hti, ← hmem]
    constructor
    ·exact .inl
    ·rintro (h | rfl)
     ·exact h
     ·exact hin⟩
  refine ⟨fun vs s' => vs = [] ∧ s' = s18 ∧ ∀ z, l[j]? = some z → z ≠ y.key, ?_, _, hks.lenB u_s_Key _, bsplit.dec (fun hl => ?_) (fun hg => ⟨rfl, rfl, fun z hz => by rw [List.getElem?_eq_none (by omega)] at hz; cases hz⟩)⟩
  rotate_left
  ·obtain ⟨z, hz⟩ := get_lt (l := l) (i := j) (by omega)
   obtain ⟨lz, oz, z8, z9⟩ := hks.ix (by decide) keyC_len u_s_Key z_Key hz
   refine ⟨lz, oz, z8 _, _, (z9 _ (Ext.refl _)).2, _, a13.rdc (by simp [keyC]), _, key_eq z y.key, bsplit.dec (fun e => done (e ▸ List.mem_of_getElem? hz)) (fun e => ⟨rfl, rfl, fun z' hz' => by rw [hz] at hz'; obtain rfl := Option.some.inj hz'; exact e⟩)⟩
  rintro s20 ⟨_, rfl, hne⟩
  obtain ⟨v21, u1, u2⟩ := hks.upto keyC_len u_s_Key z_Key g15.isSlc.1 hjl .i64
  obtain ⟨v32, u3, u4⟩ := hks.from keyC_len u_s_Key z_Key g15.isSlc.1 hjl .i64
  have htk : (l.take j).length = j := by rw [List.length_take]; omega
  refine ⟨fun z _ v s' => (z = 3 → GroN keyC 2 [] s20 s' v (l.take j)) ∧ (z = 5 → ∃ lb, v = .slc (some (lb, 0)) 1 1 true ∧ At s' lb (keyC y.key)), fun z _ v => z = 5 → ∃ lb, v = .slc (some (lb, 0)) 1 1 true, ?_, v21, u1, fun s22 e22 w22 _ => ?_, ⟨.undef, (fun h => by cases h)⟩, fun v25 _ => ⟨_, a13.rdc (by simp [keyC]), fun s27 e27 w27 _ => ?_, ⟨.slc (some (0, 0)) 1 1 true, fun _ => ⟨0, rfl⟩⟩, fun v31 hv31 => ⟨v32, u3, fun s33 e33 w33 hS => ?_⟩⟩⟩
  ·rintro z ks v s s' e ⟨h1, h2⟩
   refine ⟨fun hq => (h1 hq).step e, fun hq => ?_⟩
   obtain ⟨l, a, b⟩ := h2 hq
   exact ⟨l, a, b.ext e⟩
  ·refine GroN.appendS sl_s_Key keyC_len keyC_one w22 (GroN.start (M := []) e22.mut) (by simp) (u2.ext e22) (by simp [htk]; omega) u_s_Key fun v' s' g' w' m' => ?_
   rw [List.nil_append] at g'
   exact ⟨Mut.ext (by simpa [labOf] using m'), ⟨(fun _ => g'), (fun h => by cases h)⟩, (fun h => by cases h)⟩
  ·exact ⟨_, absl_agg sl_s_Key (keyC_len _) (keyC_one _), NewQ.intro w27 rfl fun lb s30 F30 => ⟨F30.ext, ⟨(fun h => by cases h), fun _ => ⟨lb, rfl, F30.own.at⟩⟩, fun _ => ⟨lb, rfl⟩⟩⟩
  have g33 := hS.1.1 rfl
  obtain ⟨lb, rfl, hlb⟩ := hS.2.1.2 rfl
  have hone : Sl keyC 2 s33 (.slc (some (lb, 0)) 1 1 true) [y.key] := SlAt.mk hlb (by simp [keyC]) (by simp [keyC])
  refine GroN.appendS sl_s_Key keyC_len keyC_one w33 g33 (by simp) hone (by simp [htk]; omega) u_s_Key fun v35 s36 g36 w36 _ => ?_
  refine GroN.appendS sl_s_Key keyC_len keyC_one w36 g36 (by simp) (u4.ext g36.chg.ext) (by simp [htk]; omega) u_s_Key fun v37 s38 g38 w38 _ => ?_
  have E20 : Ext s2 s20 := E8.trans F15.ext
  have hmem2 : ∀ k, k ∈ l.take j ++ [y.key] ++ l.drop j ↔ k ∈ l ∨ k = y.key := fun k => by
   conv => rhs; rw [← List.take_append_drop j l]
   simp only [List.mem_append, List.mem_singleton]
   constructor
   ·rintro ((h | h) | h)
    ·exact .inl (.inl h)
    ·exact .inr h
    ·exact .inl (.inr h)
   ·rintro ((h | h) | h)
    ·exact .inl (.inl h)
    ·exact .inr h
    ·exact .inl (.inr h)
  refine ⟨J.length - (i + 1), by omega, i + 1, v37, l.take j ++ [y.key] ++ l.drop j, by rw [wrap_i (by omega)]; rfl, by omega, rfl, w38, ⟨g38.gro, E20.mut.trans g38.chg, fun la hla => E20.none (g38.new la hla)⟩, by simp [htk]; omega, kris_ins hris hjl hlow fun z hz => ?_, fun k => by rw [hmem2, hti, ← hmem]⟩
  have h1 := hhigh z hz
  rcases Key.lt_total z y.key with h | h | h
  ·rw [h1] at h; cases h
  ·exact absurd h (hne z hz)
  ·exact h
 ·rintro m n48 s49 ⟨j, hj, hjl, rfl, rfl, hlow⟩
  simp only [List.cons.injEq, AV.int.injEq, true_and, and_true] at hj
  subst hj
  have stop : (∀ z, l[j]? = some z → z.lt y.key = false) → s49 = s49 ∧ ∃ j' : Nat, [AV.int .i64 (j : Nat)] = [.int .i64 (j' : Nat)] ∧ j' ≤ l.length ∧ (∀ (u : Nat) z, u < j' → l[u]? = some z → z.lt y.key = true) ∧ ∀ z, l[j']? = some z → z.lt y.key = false := fun hh => ⟨rfl, j, rfl, hjl, hlow, hh⟩
  refine ⟨fun vs s' => vs = [] ∧ s' = s49 ∧ j < l.length ∧ ∀ z, l[j]? = some z → z.lt y.key = true, ?_, _, hks.lenB u_s_Key _, bsplit.dec (fun hl => ?_) (fun hg => stop fun z hz => by rw [List.getElem?_eq_none (by omega)] at hz; cases hz)⟩
  ·rintro s51 ⟨_, rfl, hjl2, hz⟩
   refine ⟨l.length - (j + 1), by omega, j + 1, by rw [wrap_i (by omega)]; rfl, by omega, rfl, rfl, fun u z hu hzu => ?_⟩
   rcases Nat.lt_or_ge u j with h | h
   ·exact hlow u z h hzu
   ·obtain rfl : u = j := by omega
    exact hz z hzu
  ·obtain ⟨z, hz⟩ := get_lt (l := l) (i := j) (by omega)
   obtain ⟨lz, oz, z8, z9⟩ := hks.ix (by decide) keyC_len u_s_Key z_Key hz
   have rt : rd1 s49 lz oz = some (.str z.t) := (z9 _ (Ext.refl _)).1 0 (by decide)
   have rdv : rd1 s49 lz (oz + 1) = some (.str z.d) := (z9 _ (Ext.refl _)).1 1 (by decide)
   have kt : rd1 s49 l13 0 = some (.str y.key.t) := by rw [a13.rd1]; rfl
   have kd : rd1 s49 l13 1 = some (.str y.key.d) := by rw [a13.rd1]; rfl
   have hz' : ∀ b : Bool, z.lt y.key = b → ∀ z', l[j]? = some z' → z'.lt y.key = b := fun b hb z' hz' => by rw [hz] at hz'; obtain rfl := Option.some.inj hz'; exact hb
   refine ⟨lz, oz, z8 _, _, rt, _, kt, bsplit.mk (fun h1 => ⟨rfl, rfl, by omega, hz' true (by simp [Key.lt, h1])⟩) (fun h1 => ⟨lz, oz, z8 _, _, rt, _, kt, bsplit.mk (fun h2 => ⟨lz, oz, z8 _, _, rdv, _, kd, bsplit.mk (fun h3 => ⟨rfl, rfl, by omega, hz' true ?_⟩) (fun h3 => stop (hz' false ?_))⟩) (fun h2 => stop (hz' false ?_))⟩)⟩
   ·have : z.t = y.key.t := by simpa using h2
    simp [Key.lt, this, h3]
   ·have : z.t = y.key.t := by simpa using h2
    simp only [Key.lt, h1, h3, Bool.and_false, Bool.or_false]
   ·have : ¬ z.t = y.key.t := by simpa using h2
    simp [Key.lt, h1, this]
end
end Go.Proofs.YtoklmpkpeanloaaGreat
end

section
set_option maxRecDepth 100000
set_option maxHeartbeats 4000000
namespace Go.Proofs.YtoklmpkpeanloaaGreat
open Go.Am
def Q_law07iOrsetOf (a0 : AV) (a1 : AV) (a2 : AV) (s : AS) (R : AV → AS → Prop) : Prop :=
 JoinQ fun J1 =>
 (∀ b2 : Bool, ∀ s3 : AS, J1 [(.bool b2)] s3 →
 bsplit b2
 (ACalls Tryz.prog F_law07iknown [] s3 fun v4 s5 => ∃ b6 : Bool, v4 = .bool b6 ∧ (R (.bool b6) s5))
 (ACalls Tryz.prog F_ctx_New [] s3 fun v7 s8 => ∃ p9 : Option (Nat × Nat), v7 = .ptr p9 ∧ (JoinQ fun J10 =>
 (∀ s11 : AS, J10 [] s11 →
 JoinQ fun J12 =>
 (∀ b13 : Bool, ∀ s14 : AS, J12 [(.bool b13)] s14 →
 ACalls Tryz.prog F_orset_Of [(.ptr p9), a1] s14 fun v15 s16 => ∃ p17 : Option (Nat × Nat), ∃ n18 : Int, v15 = .tup [(.ptr p17), (.int .i64 n18)] ∧ (JoinQ fun J19 =>
 (∀ s20 : AS, J19 [] s20 →
 JoinQ fun J21 =>
 (∀ s22 : AS, J21 [] s22 →
 ACalls Tryz.prog F_orset_New [] s22 fun v23 s24 => ∃ p25 : Option (Nat × Nat), v23 = .ptr p25 ∧ (RdG (abuild T Y_minsterref07iSet []) fun g26 => One1 g26 (NewQ (.cells g26 0 false) s24 fun l27 s28 => JoinQ fun J29 =>
 (∀ s30 : AS, J29 [] s30 →
 ACalls Tryz.prog F_orset_Set_Ctx [(.ptr p25)] s30 fun v31 s32 => ∃ p33 : Option (Nat × Nat), v31 = .ptr p33 ∧ (ACalls Tryz.prog F_orset_Set_Items [(.ptr p25)] s32 fun v34 s35 => ACalls Tryz.prog F_orset_Of [(.ptr p33), v34] s35 fun v36 s37 => ∃ p38 : Option (Nat × Nat), ∃ n39 : Int, v36 = .tup [(.ptr p38), (.int .i64 n39)] ∧ (bsplit ((n39 : Int) == 0) (ACalls Tryz.prog F_law07isame [(.ptr p38), (.ptr (some (l27, 0)))] s37 fun v40 s41 => ∃ b42 : Bool, v40 = .bool b42 ∧ (bsplit b42 (ACalls Tryz.prog F_law07iknown [] s41 fun v43 s44 => ∃ b45 : Bool, v43 = .bool b45 ∧ (R (.bool b45) s44)) (R (.bool false) s41))) (R (.bool false) s37)))) ∧
 (LoopQ fun I46 m47 => I46 m47 [(.int .i64 0)] s28 ∧
 ∀ m48 : Nat, ∀ n49 : Int, ∀ s50 : AS, I46 m48 [(.int .i64 n49)] s50 →
 RdI .i64 (alenB T Y_s_minsterlaw07iAct a2 s50) fun n51 => bsplit (decide ((n49 : Int) < n51))
 (IxQ (aindexAddr T Y_s_minsterlaw07iAct a2 (.int .i64 n49)) fun l52 o53 => RdL (rdc s50 l52 o53 6) fun g54 => ACalls Tryz.prog F_law07ido [(.ptr p25), (.ptr (some (l27, 0))), (.agg g54)] s50 fun v55 s56 => ∃ b57 : Bool, v55 = .bool b57 ∧ (∃ m', m' < m48 ∧ I46 m' [(.int .i64 (IntKind.wrap .i64 (n49 + 1)))] s56))
 (J29 [] s50))))) ∧
 (bsplit b13
 (ACalls Tryz.prog F_orset_Set_Items [(.ptr p17)] s20 fun v58 s59 => RdI .i64 (alenB T Y_s_Item v58 s59) fun n60 => RdI .i64 (alenB T Y_s_Item a1 s59) fun n61 => bsplit ((n60 : Int) != n61) (R (.bool false) s59) (ACalls Tryz.prog F_orset_Set_Ctx [(.ptr p17)] s59 fun v62 s63 => ∃ p64 : Option (Nat × Nat), v62 = .ptr p64 ∧ (ACalls Tryz.prog F_ctx_Ctx_Same [(.ptr p64), (.ptr p9)] s63 fun v65 s66 => ∃ b67 : Bool, v65 = .bool b67 ∧ (bsplit (!b67)
 (R (.bool false) s66)
 (LoopQ fun I68 m69 => I68 m69 [(.int .i64 0)] s66 ∧
 ∀ m70 : Nat, ∀ n71 : Int, ∀ s72 : AS, I68 m70 [(.int .i64 n71)] s72 →
 RdI .i64 (alenB T Y_s_Item v58 s72) fun n73 => bsplit (decide ((n71 : Int) < n73))
 (JoinQ fun J74 =>
 (∀ b75 : Bool, ∀ s76 : AS, J74 [(.bool b75)] s76 →
 JoinQ fun J77 =>
 (∀ b78 : Bool, ∀ s79 : AS, J77 [(.bool b78)] s79 →
 bsplit (!b75) (R (.bool false) s79) (bsplit (!b78)
 (R (.bool false) s79)
 (∃ m', m' < m70 ∧ I68 m' [(.int .i64 (IntKind.wrap .i64 (n71 + 1)))] s79))) ∧
 (LoopQ fun I80 m81 => I80 m81 [(.bool false), (.int .i64 0)] s76 ∧
 ∀ m82 : Nat, ∀ b83 : Bool, ∀ n84 : Int, ∀ s85 : AS, I80 m82 [(.bool b83), (.int .i64 n84)] s85 →
 RdI .i64 (alenB T Y_s_Item a1 s85) fun n86 => bsplit (decide ((n84 : Int) < n86))
 (bsplit b83 (∃ m', m' < m82 ∧ I80 m' [(.bool true), (.int .i64 (IntKind.wrap .i64 (n84 + 1)))] s85) (IxQ (aindexAddr T Y_s_Item a1 (.int .i64 n84)) fun l87 o88 => RdL (rdc s85 l87 o88 5) fun g89 => IxQ (aindexAddr T Y_s_Item v58 (.int .i64 n71)) fun l90 o91 => RdL (rdc s85 l90 o91 5) fun g92 => RdO (aeq T 100 Y_Item (.agg g89) (.agg g92)) fun b93 => ∃ m', m' < m82 ∧ I80 m' [(.bool b93), (.int .i64 (IntKind.wrap .i64 (n84 + 1)))] s85))
 (J77 [(.bool b83)] s85))) ∧
 (bsplit ((n71 : Int) == 0) (J74 [(.bool true)] s72) (IxQ (aindexAddr T Y_s_Item v58 (.int .i64 (IntKind.wrap .i64 (n71 - 1)))) fun l94 o95 => RdL (rdc s72 l94 o95 2) fun g96 => IxQ (aindexAddr T Y_s_Item v58 (.int .i64 n71)) fun l97 o98 => RdL (rdc s72 l97 o98 2) fun g99 => ACalls Tryz.prog F_ref04iLess [(.agg g96), (.agg g99)] s72 fun v100 s101 => ∃ b102 : Bool, v100 = .bool b102 ∧ (J74 [(.bool b102)] s101))))
 (J21 [] s72))))))
 (J21 [] s20))) ∧
 (bsplit (!((b13 : Bool) == ((n18 : Int) == 0))) (R (.bool false) s16) (bsplit (!b13) (bsplit ((n18 : Int) != 2) (R (.bool false) s16) (RdO (aeq T 100 Y_p_orset_Set (.ptr p17) (.ptr none)) fun b103 => bsplit (!b103)
 (R (.bool false) s16)
 (J19 [] s16))) (J19 [] s16))))) ∧
 (LoopQ fun I104 m105 => I104 m105 [(.bool true), (.int .i64 0)] s11 ∧
 ∀ m106 : Nat, ∀ b107 : Bool, ∀ n108 : Int, ∀ s109 : AS, I104 m106 [(.bool b107), (.int .i64 n108)] s109 →
 RdI .i64 (alenB T Y_s_Item a1 s109) fun n110 => bsplit (decide ((n108 : Int) < n110))
 (JoinQ fun J111 =>
 (∀ b112 : Bool, ∀ s113 : AS, J111 [(.bool b112)] s113 →
 LoopQ fun I114 m115 => I114 m115 [(.bool b112), (.int .i64 0)] s113 ∧
 ∀ m116 : Nat, ∀ b117 : Bool, ∀ n118 : Int, ∀ s119 : AS, I114 m116 [(.bool b117), (.int .i64 n118)] s119 →
 bsplit (decide ((n118 : Int) < n108))
 (bsplit b117 (IxQ (aindexAddr T Y_s_Item a1 (.int .i64 n118)) fun l120 o121 => RdL (rdc s119 l120 o121 2) fun g122 => IxQ (aindexAddr T Y_s_Item a1 (.int .i64 n108)) fun l123 o124 => RdL (rdc s119 l123 o124 2) fun g125 => RdO (aeq T 100 Y_Dot (.agg g122) (.agg g125)) fun b126 => ∃ m', m' < m116 ∧ I114 m' [(.bool (!b126)), (.int .i64 (IntKind.wrap .i64 (n118 + 1)))] s119) (∃ m', m' < m116 ∧ I114 m' [(.bool false), (.int .i64 (IntKind.wrap .i64 (n118 + 1)))] s119))
 (∃ m', m' < m106 ∧ I104 m' [(.bool b117), (.int .i64 (IntKind.wrap .i64 (n108 + 1)))] s119)) ∧
 (bsplit b107 (IxQ (aindexAddr T Y_s_Item a1 (.int .i64 n108)) fun l127 o128 => RdL (rdc s109 l127 o128 5) fun g129 => ACalls Tryz.prog F_ref07iMay [(.agg g129)] s109 fun v130 s131 => ∃ b132 : Bool, v130 = .bool b132 ∧ (bsplit b132 (IxQ (aindexAddr T Y_s_Item a1 (.int .i64 n108)) fun l133 o134 => RdL (rdc s131 l133 o134 2) fun g135 => ACalls Tryz.prog F_ctx_Ctx_Has [(.ptr p9), (.agg g135)] s131 fun v136 s137 => ∃ b138 : Bool, v136 = .bool b138 ∧ (J111 [(.bool b138)] s137)) (J111 [(.bool false)] s131))) (J111 [(.bool false)] s109)))
 (J12 [(.bool b107)] s109))) ∧
 (LoopQ fun I139 m140 => I139 m140 [(.int .i64 0)] s8 ∧
 ∀ m141 : Nat, ∀ n142 : Int, ∀ s143 : AS, I139 m141 [(.int .i64 n142)] s143 →
 RdI .i64 (alenB T Y_s_Dot a0 s143) fun n144 => bsplit (decide ((n142 : Int) < n144))
 (IxQ (aindexAddr T Y_s_Dot a0 (.int .i64 n142)) fun l145 o146 => RdL (rdc s143 l145 o146 2) fun g147 => ACalls Tryz.prog F_ctx_Ctx_Add [(.ptr p9), (.agg g147)] s143 fun v148 s149 => ∃ b150 : Bool, ∃ n151 : Int, v148 = .tup [(.bool b150), (.int .i64 n151)] ∧ (∃ m', m' < m141 ∧ I139 m' [(.int .i64 (IntKind.wrap .i64 (n142 + 1)))] s149))
 (J10 [] s143))))) ∧
 (RdI .i64 (alenB T Y_s_Dot a0 s) fun n152 => bsplit (decide ((n152 : Int) > 100)) (J1 [(.bool true)] s) (RdI .i64 (alenB T Y_s_Item a1 s) fun n153 => bsplit (decide ((n153 : Int) > 100)) (J1 [(.bool true)] s) (ACalls Tryz.prog F_law07ifew [a2] s fun v154 s155 => ∃ b156 : Bool, v154 = .bool b156 ∧ (J1 [(.bool (!b156))] s155))))
def A_law07iOrsetOf : QA := (.seq .leaf (.seq (.join [(35, .bool)] [(23, 35)] .leaf (.cond (.seq .leaf .leaf) .leaf)) (.seq .leaf (.join [] [(8, 8), (38, 49)] (.seq .leaf (.wrap (.loop [(8, .int .i64)] [(8, 8), (38, 49)] (.seq (.seq .leaf (.cond .leaf .leaf)) (.seq (.wrap .leaf) .leaf))))) (.seq .leaf (.join [(9, .bool)] [(9, 11), (50, 91)] (.seq .leaf (.wrap (.loop [(9, .bool), (10, .int .i64)] [(9, 11), (50, 91)] (.seq (.seq .leaf (.cond .leaf .leaf)) (.seq (.wrap (.join [(9, .bool)] [(9, 9), (56, 72)] .leaf (.seq .leaf (.wrap (.loop [(9, .bool), (11, .int .i64)] [(9, 9), (11, 11), (73, 91)] (.seq (.seq .leaf (.cond .leaf .leaf)) (.seq (.wrap (.draw 12)) .leaf))))))) .leaf))))) (.seq .leaf (.join [] [(6, 6), (98, 113)] (.seq .leaf (.cond (.seq .leaf .leaf) .leaf)) (.join [] [(6, 6), (14, 18), (114, 174)] (.seq .leaf (.cond (.seq .leaf (.seq (.seq .leaf (.cond (.seq .leaf .leaf) .leaf)) (.seq .leaf (.wrap (.loop [(15, .int .i64)] [(6, 6), (15, 18), (129, 174)] (.seq (.seq .leaf (.cond .leaf .leaf)) (.seq (.wrap (.join [(16, .bool)] [(16, 16), (135, 150)] (.draw 14) (.seq .leaf (.join [(17, .bool)] [(17, 18), (151, 168)] (.seq .leaf (.wrap (.loop [(17, .bool), (18, .int .i64)] [(17, 18), (151, 168)] (.seq (.seq .leaf (.cond .leaf .leaf)) (.seq (.wrap (.draw 10)) .leaf))))) (.seq .leaf (.cond (.seq .leaf .leaf) .leaf)))))) .leaf))))))) .leaf)) (.seq .leaf (.join [] [(21, 21), (178, 190)] (.seq .leaf (.wrap (.loop [(21, .int .i64)] [(21, 21), (178, 190)] (.seq (.seq .leaf (.cond .leaf .leaf)) (.seq (.wrap .leaf) .leaf))))) (.seq .leaf (.seq .leaf .leaf)))))))))))))
theorem q_law07iOrsetOf (a0 : AV) (a1 : AV) (a2 : AV) (s : AS) (R : AV → AS → Prop) (h : Q_law07iOrsetOf a0 a1 a2 s R) : ACalls Tryz.prog F_law07iOrsetOf [a0, a1, a2] s R :=
 ACalls.q (n := 209) (rs := [.tmp 6]) (A := A_law07iOrsetOf) hT hmx Tryz.func9 (by kernel_rfl) rfl rfl rfl (by kernel_rfl) (by kernel_rfl) h
def Q_law07ifew (a0 : AV) (s : AS) (R : AV → AS → Prop) : Prop :=
 JoinQ fun J1 =>
 (∀ n2 : Int, ∀ s3 : AS, J1 [(.int .i64 n2)] s3 →
 RdI .i64 (alenB T Y_s_minsterlaw07iAct a0 s3) fun n4 => bsplit (decide ((n4 : Int) ≤ 100)) (R (.bool (decide ((n2 : Int) ≤ 300))) s3) (R (.bool false) s3)) ∧
 (LoopQ fun I5 m6 => I5 m6 [(.int .i64 0), (.int .i64 0)] s ∧
 ∀ m7 : Nat, ∀ n8 : Int, ∀ n9 : Int, ∀ s10 : AS, I5 m7 [(.int .i64 n8), (.int .i64 n9)] s10 →
 RdI .i64 (alenB T Y_s_minsterlaw07iAct a0 s10) fun n11 => bsplit (decide ((n9 : Int) < n11))
 (IxQ (aindexAddr T Y_s_minsterlaw07iAct a0 (.int .i64 n9)) fun l12 o13 => RdA (rd1 s10 l12 (o13 + 5)) fun v14 => RdI .i64 (alenB T Y_s_Item v14 s10) fun n15 => ∃ m', m' < m7 ∧ I5 m' [(.int .i64 (IntKind.wrap .i64 (n8 + n15))), (.int .i64 (IntKind.wrap .i64 (n9 + 1)))] s10)
 (J1 [(.int .i64 n8)] s10))
def A_law07ifew : QA := (.seq .leaf (.seq .leaf (.join [(3, .int .i64)] [(3, 18)] (.seq .leaf (.wrap (.loop [(3, .int .i64), (4, .int .i64)] [(3, 18)] (.seq (.seq .leaf (.cond .leaf .leaf)) (.seq (.wrap .leaf) .leaf))))) (.seq .leaf .leaf))))
theorem q_law07ifew (a0 : AV) (s : AS) (R : AV → AS → Prop) (h : Q_law07ifew a0 s R) : ACalls Tryz.prog F_law07ifew [a0] s R :=
 ACalls.q (n := 26) (rs := [.tmp 2]) (A := A_law07ifew) hT hmx Tryz.func24 (by kernel_rfl) rfl rfl rfl (by kernel_rfl) (by kernel_rfl) h
def Q_law07ido (a0 : Option (Nat × Nat)) (a1 : Option (Nat × Nat)) (a2 : List AV) (s : AS) (R : AV → AS → Prop) : Prop :=
 One1 a2 (NewQ (.cells a2 0 false) s fun l1 s2 => JoinQ fun J3 =>
 (∀ b4 : Bool, ∀ s5 : AS, J3 [(.bool b4)] s5 →
 RdI .i64 (rd1 s5 l1 0) fun n6 => bsplit ((n6 : Int) == 1)
 (RdL (rdc s5 l1 1 2) fun g7 => RdL (rdc s5 l1 3 2) fun g8 => ACalls Tryz.prog F_orset_Set_Add [(.ptr a0), (.agg g7), (.agg g8)] s5 fun v9 s10 => ∃ v11 : AV, ∃ n12 : Int, v9 = .tup [v11, (.int .i64 n12)] ∧ (JoinQ fun J13 =>
 (∀ b14 : Bool, ∀ s15 : AS, J13 [(.bool b14)] s15 →
 bsplit b14
 (bsplit ((n12 : Int) == 2) (RdI .i64 (alenB T Y_s_Item v11 s15) fun n16 => R (.bool ((n16 : Int) == 0)) s15) (R (.bool false) s15))
 (bsplit ((n12 : Int) == 0) (RdL (rdc s15 l1 1 2) fun g17 => RdL (rdc s15 l1 3 2) fun g18 => ACalls Tryz.prog F_ref07iSet_Add [(.ptr a1), (.agg g17), (.agg g18)] s15 fun v19 s20 => ACalls Tryz.prog F_ref07iSameItems [v11, v19] s20 fun v21 s22 => ∃ b23 : Bool, v21 = .bool b23 ∧ (R (.bool b23) s22)) (R (.bool false) s15))) ∧
 (bsplit (!b4) (J13 [(.bool true)] s10) (RdL (rdc s10 l1 3 2) fun g24 => ACalls Tryz.prog F_ref04iMay [(.agg g24)] s10 fun v25 s26 => ∃ b27 : Bool, v25 = .bool b27 ∧ (bsplit (!b27) (J13 [(.bool true)] s26) (AsSome a1 fun l28 o29 => RdL (rdc s26 l1 3 2) fun g30 => ACalls Tryz.prog F_ref04iSet_Has [(.ptr (some (l28, o29))), (.agg g30)] s26 fun v31 s32 => ∃ b33 : Bool, v31 = .bool b33 ∧ (J13 [(.bool b33)] s32)))))))
 (bsplit ((n6 : Int) == 2)
 (RdL (rdc s5 l1 1 2) fun g34 => ACalls Tryz.prog F_orset_Set_Remove [(.ptr a0), (.agg g34)] s5 fun v35 s36 => ∃ v37 : AV, ∃ n38 : Int, v35 = .tup [v37, (.int .i64 n38)] ∧ (bsplit (!b4)
 (bsplit ((n38 : Int) == 2) (RdI .i64 (alenB T Y_s_Item v37 s36) fun n39 => R (.bool ((n39 : Int) == 0)) s36) (R (.bool false) s36))
 (bsplit ((n38 : Int) == 0) (RdL (rdc s36 l1 1 2) fun g40 => ACalls Tryz.prog F_ref07iSet_Remove [(.ptr a1), (.agg g40)] s36 fun v41 s42 => ACalls Tryz.prog F_ref07iSameItems [v37, v41] s42 fun v43 s44 => ∃ b45 : Bool, v43 = .bool b45 ∧ (R (.bool b45) s44)) (R (.bool false) s36))))
 (bsplit ((n6 : Int) == 3)
 (RdA (rd1 s5 l1 5) fun v46 => ACalls Tryz.prog F_orset_Set_See [(.ptr a0), v46] s5 fun v47 s48 => ∃ b49 : Bool, ∃ n50 : Int, v47 = .tup [(.bool b49), (.int .i64 n50)] ∧ (JoinQ fun J51 =>
 (∀ s52 : AS, J51 [] s52 →
 JoinQ fun J53 =>
 (∀ b54 : Bool, ∀ s55 : AS, J53 [(.bool b54)] s55 →
 bsplit ((n50 : Int) == 0) (R (.bool ((b49 : Bool) == b54)) s55) (R (.bool false) s55)) ∧
 (LoopQ fun I56 m57 => I56 m57 [(.bool false), (.int .i64 0)] s52 ∧
 ∀ m58 : Nat, ∀ b59 : Bool, ∀ n60 : Int, ∀ s61 : AS, I56 m58 [(.bool b59), (.int .i64 n60)] s61 →
 RdA (rd1 s61 l1 5) fun v62 => RdI .i64 (alenB T Y_s_Item v62 s61) fun n63 => bsplit (decide ((n60 : Int) < n63))
 (RdA (rd1 s61 l1 5) fun v64 => IxQ (aindexAddr T Y_s_Item v64 (.int .i64 n60)) fun l65 o66 => RdL (rdc s61 l65 o66 5) fun g67 => ACalls Tryz.prog F_ref07iSet_See [(.ptr a1), (.agg g67)] s61 fun v68 s69 => ∃ b70 : Bool, v68 = .bool b70 ∧ (bsplit b70
 (∃ m', m' < m58 ∧ I56 m' [(.bool true), (.int .i64 (IntKind.wrap .i64 (n60 + 1)))] s69)
 (∃ m', m' < m58 ∧ I56 m' [(.bool b59), (.int .i64 (IntKind.wrap .i64 (n60 + 1)))] s69)))
 (J53 [(.bool b59)] s61))) ∧
 (LoopQ fun I71 m72 => I71 m72 [(.int .i64 0)] s48 ∧
 ∀ m73 : Nat, ∀ n74 : Int, ∀ s75 : AS, I71 m73 [(.int .i64 n74)] s75 →
 RdA (rd1 s75 l1 5) fun v76 => RdI .i64 (alenB T Y_s_Item v76 s75) fun n77 => bsplit (decide ((n74 : Int) < n77))
 (RdA (rd1 s75 l1 5) fun v78 => IxQ (aindexAddr T Y_s_Item v78 (.int .i64 n74)) fun l79 o80 => RdL (rdc s75 l79 o80 5) fun g81 => ACalls Tryz.prog F_ref07iMay [(.agg g81)] s75 fun v82 s83 => ∃ b84 : Bool, v82 = .bool b84 ∧ (bsplit (!b84)
 (bsplit ((n50 : Int) == 2) (R (.bool (!b49)) s83) (R (.bool false) s83))
 (∃ m', m' < m73 ∧ I71 m' [(.int .i64 (IntKind.wrap .i64 (n74 + 1)))] s83)))
 (J51 [] s75))))
 (bsplit ((n6 : Int) == 4)
 (RdL (rdc s5 l1 3 2) fun g85 => ACalls Tryz.prog F_orset_Set_Collect [(.ptr a0), (.agg g85)] s5 fun v86 s87 => ∃ n88 : Int, v86 = .int .i64 n88 ∧ (RdL (rdc s87 l1 3 2) fun g89 => ACalls Tryz.prog F_ref04iMay [(.agg g89)] s87 fun v90 s91 => ∃ b92 : Bool, v90 = .bool b92 ∧ (bsplit (!b92)
 (R (.bool ((n88 : Int) == 2)) s91)
 (RdL (rdc s91 l1 3 2) fun g93 => ACalls Tryz.prog F_ref07iSet_Collect [(.ptr a1), (.agg g93)] s91 fun v94 s95 => ∃ b96 : Bool, v94 = .bool b96 ∧ (bsplit (!b96)
 (R (.bool ((n88 : Int) == 6)) s95)
 (R (.bool ((n88 : Int) == 0)) s95))))))
 (R (.bool true) s5))))) ∧
 (RdS (rd1 s2 l1 1) fun x97 => ACalls Tryz.prog F_ref07iName [(.str x97)] s2 fun v98 s99 => ∃ b100 : Bool, v98 = .bool b100 ∧ (bsplit b100 (RdS (rd1 s99 l1 2) fun x101 => ACalls Tryz.prog F_ref07iName [(.str x101)] s99 fun v102 s103 => ∃ b104 : Bool, v102 = .bool b104 ∧ (J3 [(.bool b104)] s103)) (J3 [(.bool false)] s99))))
def A_law07ido : QA := (.seq .leaf (.join [(7, .bool)] [(7, 7), (18, 27)] .leaf (.seq (.seq .leaf (.wrap (.seq .leaf (.cond (.seq .leaf (.seq (.join [(56, .bool)] [(41, 56)] .calm (.cond (.seq .leaf .leaf) .leaf)) (.seq .leaf .leaf))) (.seq .leaf (.cond (.seq .leaf (.seq (.seq .leaf (.cond (.seq .leaf .leaf) .leaf)) (.seq .leaf .leaf))) (.seq .leaf (.cond (.seq .leaf (.join [] [(6, 6), (14, 14), (113, 132)] (.seq .leaf (.wrap (.loop [(14, .int .i64)] [(6, 6), (14, 14), (113, 132)] (.seq (.seq .leaf (.cond .leaf .leaf)) (.seq (.wrap (.seq .leaf (.cond (.seq .leaf .leaf) .leaf))) .leaf))))) (.seq .leaf (.join [(15, .bool)] [(15, 16), (133, 146)] (.seq .leaf (.wrap (.loop [(15, .bool), (16, .int .i64)] [(15, 16), (133, 146)] (.seq (.seq .leaf (.cond .leaf .leaf)) (.seq (.wrap (.seq .leaf (.cond .leaf .leaf))) .leaf))))) (.seq .leaf .leaf))))) (.seq .leaf (.cond (.seq .leaf (.seq (.seq .leaf (.cond (.seq .leaf .leaf) .leaf)) (.seq (.seq .leaf (.cond (.seq .leaf .leaf) .leaf)) (.seq .leaf .leaf)))) .leaf)))))))))) (.seq .leaf .leaf))))
theorem q_law07ido (a0 : Option (Nat × Nat)) (a1 : Option (Nat × Nat)) (a2 : List AV) (s : AS) (R : AV → AS → Prop) (h : Q_law07ido a0 a1 a2 s R) : ACalls Tryz.prog F_law07ido [(.ptr a0), (.ptr a1), (.agg a2)] s R :=
 ACalls.q (n := 175) (rs := [.tmp 6]) (A := A_law07ido) hT hmx Tryz.func25 (by kernel_rfl) rfl rfl rfl (by kernel_rfl) (by kernel_rfl) h
def Q_law07isame (a0 : Option (Nat × Nat)) (a1 : Option (Nat × Nat)) (s : AS) (R : AV → AS → Prop) : Prop :=
 ACalls Tryz.prog F_orset_Set_Ctx [(.ptr a0)] s fun v1 s2 => ∃ p3 : Option (Nat × Nat), v1 = .ptr p3 ∧ (DrawQ fun S V => RdO (aeq T 100 Y_p_ctx_Ctx (.ptr p3) (.ptr none)) fun b4 => bsplit b4 (∀ s5 : AS, Ext s2 s5 → WFs s5 → (True) → R (.bool false) s5) ((∀ s7 : AS, Ext s2 s7 → WFs s7 → (True) → ACalls Tryz.prog F_ctx_Ctx_Vector [(.ptr p3)] s7 fun v8 s9 => ∃ g10 : List AV, v8 = .agg g10 ∧ ((Ext s7 s9 ∧ S 4 [(.func F_ctx_Ctx_Vector []), (.ptr p3)] (.agg g10) s9 ∧ V 4 [(.func F_ctx_Ctx_Vector []), (.ptr p3)] (.agg g10)))) ∧ (∃ v, V 4 [(.func F_ctx_Ctx_Vector []), (.ptr p3)] v) ∧ ∀ v11 : AV, V 4 [(.func F_ctx_Ctx_Vector []), (.ptr p3)] v11 → ∃ g12 : List AV, v11 = .agg g12 ∧ (AsSome a1 fun l13 o14 => RdL (rdc s2 l13 o14 16) fun g15 => RdO (aeq T 100 Y_Vector (.agg g12) (.agg g15)) fun b16 => bsplit (!b16) (∀ s17 : AS, Ext s2 s17 → WFs s17 → (S 4 [(.func F_ctx_Ctx_Vector []), (.ptr p3)] (.agg g12) s17 ∧ True) → R (.bool false) s17) ((∀ s19 : AS, Ext s2 s19 → WFs s19 → (S 4 [(.func F_ctx_Ctx_Vector []), (.ptr p3)] (.agg g12) s19 ∧ True) → ACalls Tryz.prog F_ctx_Ctx_Extra [(.ptr p3)] s19 fun v20 s21 => (Ext s19 s21 ∧ S 14 [(.func F_ctx_Ctx_Extra []), (.ptr p3)] v20 s21 ∧ V 14 [(.func F_ctx_Ctx_Extra []), (.ptr p3)] v20)) ∧ (∃ v, V 14 [(.func F_ctx_Ctx_Extra []), (.ptr p3)] v) ∧ ∀ v22 : AV, V 14 [(.func F_ctx_Ctx_Extra []), (.ptr p3)] v22 → AsSome a1 fun l23 o24 => RdA (rd1 s2 l23 (o24 + 16)) fun v25 => ∀ s26 : AS, Ext s2 s26 → WFs s26 → (S 4 [(.func F_ctx_Ctx_Vector []), (.ptr p3)] (.agg g12) s26 ∧ (S 14 [(.func F_ctx_Ctx_Extra []), (.ptr p3)] v22 s26 ∧ True)) → ACalls Tryz.prog F_ref04iSameDots [v22, v25] s26 fun v28 s29 => ∃ b30 : Bool, v28 = .bool b30 ∧ (bsplit (!b30)
 (R (.bool false) s29)
 (DrawQ fun S V => (∀ s31 : AS, Ext s29 s31 → WFs s31 → (True) → ACalls Tryz.prog F_orset_Set_Items [(.ptr a0)] s31 fun v32 s33 => (Ext s31 s33 ∧ S 1 [(.func F_orset_Set_Items []), (.ptr a0)] v32 s33 ∧ V 1 [(.func F_orset_Set_Items []), (.ptr a0)] v32)) ∧ (∃ v, V 1 [(.func F_orset_Set_Items []), (.ptr a0)] v) ∧ ∀ v34 : AV, V 1 [(.func F_orset_Set_Items []), (.ptr a0)] v34 → AsSome a1 fun l35 o36 => RdA (rd1 s29 l35 (o36 + 17)) fun v37 => (∀ s38 : AS, Ext s29 s38 → WFs s38 → (S 1 [(.func F_orset_Set_Items []), (.ptr a0)] v34 s38 ∧ True) → ACalls Tryz.prog F_ref07iSameItems [v34, v37] s38 fun v39 s40 => ∃ b41 : Bool, v39 = .bool b41 ∧ ((Ext s38 s40 ∧ S 6 [(.func F_ref07iSameItems []), v34, v37] (.bool b41) s40 ∧ V 6 [(.func F_ref07iSameItems []), v34, v37] (.bool b41)))) ∧ (∃ v, V 6 [(.func F_ref07iSameItems []), v34, v37] v) ∧ ∀ v42 : AV, V 6 [(.func F_ref07iSameItems []), v34, v37] v42 → ∃ b43 : Bool, v42 = .bool b43 ∧ (bsplit b43 ((∀ s44 : AS, Ext s29 s44 → WFs s44 → (S 1 [(.func F_orset_Set_Items []), (.ptr a0)] v34 s44 ∧ (S 6 [(.func F_ref07iSameItems []), v34, v37] (.bool b43) s44 ∧ True)) → ACalls Tryz.prog F_orset_Set_Keys [(.ptr a0)] s44 fun v45 s46 => (Ext s44 s46 ∧ S 9 [(.func F_orset_Set_Keys []), (.ptr a0)] v45 s46 ∧ V 9 [(.func F_orset_Set_Keys []), (.ptr a0)] v45)) ∧ (∃ v, V 9 [(.func F_orset_Set_Keys []), (.ptr a0)] v) ∧ ∀ v47 : AV, V 9 [(.func F_orset_Set_Keys []), (.ptr a0)] v47 → ∀ s48 : AS, Ext s29 s48 → WFs s48 → (S 1 [(.func F_orset_Set_Items []), (.ptr a0)] v34 s48 ∧ (S 6 [(.func F_ref07iSameItems []), v34, v37] (.bool b43) s48 ∧ (S 9 [(.func F_orset_Set_Keys []), (.ptr a0)] v47 s48 ∧ True))) → ACalls Tryz.prog F_ref07iSet_Keys [(.ptr a1)] s48 fun v50 s51 => ACalls Tryz.prog F_ref07iSameKeys [v47, v50] s51 fun v52 s53 => ∃ b54 : Bool, v52 = .bool b54 ∧ (R (.bool b54) s53)) (∀ s55 : AS, Ext s29 s55 → WFs s55 → (S 1 [(.func F_orset_Set_Items []), (.ptr a0)] v34 s55 ∧ (S 6 [(.func F_ref07iSameItems []), v34, v37] (.bool b43) s55 ∧ True)) → R (.bool false) s55))))))))
def A_law07isame : QA := (.seq .leaf (.seq .leaf (.seq (.seq (.drawH 20 [[], [], [], [], [], [], [], [], [], [], [], [], [], [], [4], [], [], [], [], []] [4, 14]) (.cond (.seq .leaf .leaf) .leaf)) (.seq (.drawH 11 [[], [], [], [], [], [], [1], [], [], [1, 6], []] [1, 6, 9]) .leaf))))
theorem q_law07isame (a0 : Option (Nat × Nat)) (a1 : Option (Nat × Nat)) (s : AS) (R : AV → AS → Prop) (h : Q_law07isame a0 a1 s R) : ACalls Tryz.prog F_law07isame [(.ptr a0), (.ptr a1)] s R :=
 ACalls.q (n := 45) (rs := [.tmp 4]) (A := A_law07isame) hT hmx Tryz.func42 (by kernel_rfl) rfl rfl rfl (by kernel_rfl) (by kernel_rfl) h
end Go.Proofs.YtoklmpkpeanloaaGreat
end

section
namespace Go.Proofs.YtoklmpkpeanloaaGreat
open Go.Am Go.Minster Go.Minster2
structure A07 where
 kind : Int
 key : Key
 dot : Dot
 av : AV
 items : List Itm
def act7 (a : A07) : List AV := [.int .i64 a.kind, .str a.key.t, .str a.key.d, .int .i64 a.dot.r, .int .u64 a.dot.c, a.av]
structure Act7 (s : AS) (a : A07) : Prop where
 one : a.av.one = true
 it : Sl itemC 5 s a.av a.items
theorem Act7.ext {s s' : AS} {a : A07} (h : Act7 s a) (e : Ext s s') : Act7 s' a := ⟨h.one, h.it.ext e⟩
structure Pair2 (s0 s : AS) (p q : Nat) (x y : OSet) (B : Nat) : Prop where
 e : Ext s0 s
 mem : ∃ F G, SetO s0 s F p x B ∧ RefO G s q y ∧ (∀ z ∈ G, s0.h z = none) ∧ (∀ z ∈ G, s.h z ≠ none) ∧ Dj F G
section
variable {s0 s s' : AS} {p q : Nat} {x y : OSet} {B : Nat}
theorem Pair2.ext (h : Pair2 s0 s p q x y B) (e : Ext s s') : Pair2 s0 s' p q x y B := by
 obtain ⟨e0, F, G, h1, h2, h3, h4, h5⟩ := h
 exact ⟨e0.trans e, F, G, h1.ext e, h2.ext e, h3, fun z hz hn => h4 z hz (e.none hn), h5⟩
theorem Pair2.ok (h : Pair2 s0 s p q x y B) : OOk x B := by obtain ⟨e0, F, G, h1, _⟩ := h; exact h1.ok
theorem Pair2.mono {B' : Nat} (h : Pair2 s0 s p q x y B) (hb : B ≤ B') : Pair2 s0 s p q x y B' := by
 obtain ⟨e0, F, G, h1, h2⟩ := h
 exact ⟨e0, F, G, ⟨h1.set, h1.ok.mono hb, h1.new, h1.there⟩, h2⟩
theorem Pair2.set {F G F' L : List Nat} {x' : OSet} {B' : Nat} (h1 : SetO s0 s F p x B) (h2 : RefO G s q y) (h3 : ∀ z ∈ G, s0.h z = none) (h4 : ∀ z ∈ G, s.h z ≠ none) (h5 : Dj F G) (hL : ∀ z ∈ L, z ∈ F) (m : Mut L s s') (e' : Ext s0 s') (hA : SetO s0 s' F' p x' B') (hF : ∀ z ∈ F', z ∈ F ∨ s.h z = none) : Pair2 s0 s' p q x' y B' :=
 ⟨e', F', G, hA, h2.mut m (h5.sub hL), h3, there_mut h4 m (h5.sub hL), h5.step h4 hF⟩
theorem Pair2.setR {F G G' : List Nat} {y' : OSet} (e0 : Ext s0 s) (h1 : SetO s0 s F p x B) (h2 : RefO G s q y) (h3 : ∀ z ∈ G, s0.h z = none) (h5 : Dj F G) (m : Mut [q] s s') (hR : RefO G' s' q y') (hn : ∀ z ∈ G', z ∈ G ∨ s.h z = none) (ht : ∀ z ∈ G', s'.h z ≠ none) : Pair2 s0 s' p q x y' B := by
 have hqG : ∀ z ∈ [q], z ∈ G := by simpa using h2.qF
 refine ⟨Ext.wr e0 (h3 q h2.qF) m, F, G', h1.keep m (h5.symm.sub hqG), hR, fun z hz => ?_, ht, ?_⟩
 ·rcases hn z hz with h | h
  ·exact h3 z h
  ·exact e0.none h
 ·intro z hz hg
  rcases hn z hg with h | h
  ·exact h5 z hz h
  ·exact h1.there z hz h
theorem Pair2.pnew (h : Pair2 s0 s p q x y B) : s0.h p = none ∧ s.h p ≠ none := by
 obtain ⟨e0, F, G, h1, h2, h3, h4, h5⟩ := h
 exact ⟨h1.new _ h1.set.pF, h1.there _ h1.set.pF⟩
theorem Pair2.qnew (h : Pair2 s0 s p q x y B) : s0.h q = none ∧ s.h q ≠ none := by
 obtain ⟨e0, F, G, h1, h2, h3, h4, h5⟩ := h
 exact ⟨h3 _ h2.qF, h4 _ h2.qF⟩
theorem Pair2.Add (h : Pair2 s0 s p q x y B) (hB : B ≤ 500) (k : Key) (d : Dot) (hk : k.may = true) (hd : d.may = true) (hn : x.has d = false) :
  ACalls Tryz.prog F_orset_Set_Add [.ptr (some (p, 0)), .agg (keyC k), .agg (dotC d)] s fun r s' => ∃ v l x', x' = (x.sees (⟨d, k, false⟩ :: l.map goneI)).2 ∧ KD x k l ∧ r = .tup [v, .int .i64 0] ∧ Sl itemC 5 s' v (⟨d, k, false⟩ :: l.map goneI) ∧ Mut [p] s s' ∧ Pair2 s0 s' p q x' y (B + 1) := by
 obtain ⟨e0, F, G, h1, h2, h3, h4, h5⟩ := h
 refine (h1.Add e0 hB k d hk hd hn).mono ?_
 rintro r s' ⟨v, l, kd, rfl, hs, m, E, F', x', hx, A, hF⟩
 exact ⟨v, l, x', hx, kd.kd, rfl, hs, m, Pair2.set h1 h2 h3 h4 h5 (by simpa using h1.set.pF) m E A hF⟩
theorem Pair2.Remove (h : Pair2 s0 s p q x y B) (hB : B ≤ 500) (k : Key) (hk : k.may = true) :
  ACalls Tryz.prog F_orset_Set_Remove [.ptr (some (p, 0)), .agg (keyC k)] s fun r s' => ∃ v l x', x' = (x.sees (l.map goneI)).2 ∧ KD x k l ∧ r = .tup [v, .int .i64 0] ∧ Sl itemC 5 s' v (l.map goneI) ∧ Mut [p] s s' ∧ Pair2 s0 s' p q x' y B := by
 obtain ⟨e0, F, G, h1, h2, h3, h4, h5⟩ := h
 refine (h1.Remove e0 hB k hk).mono ?_
 rintro r s' ⟨v, l, kd, rfl, hs, m, E, F', x', hx, A, hF⟩
 exact ⟨v, l, x', hx, kd.kd, rfl, hs, m, Pair2.set h1 h2 h3 h4 h5 (by simpa using h1.set.pF) m E A hF⟩
theorem Pair2.See (h : Pair2 s0 s p q x y B) {a : AV} {l : List Itm} (hl : Sl itemC 5 s a l) (hB : B + l.length ≤ 1000) (hm : ∀ i ∈ l, i.may = true) :
  ACalls Tryz.prog F_orset_Set_See [.ptr (some (p, 0)), a] s fun r s' => ∃ x', x' = (x.sees l).2 ∧ r = .tup [.bool (x.sees l).1, .int .i64 0] ∧ Mut [p] s s' ∧ Pair2 s0 s' p q x' y (B + l.length) := by
 obtain ⟨e0, F, G, h1, h2, h3, h4, h5⟩ := h
 refine (h1.See e0 hl hB hm).mono ?_
 rintro r s' ⟨rfl, m, E, F', x', hx, A, hF⟩
 exact ⟨x', hx, rfl, m, Pair2.set h1 h2 h3 h4 h5 (by simpa using h1.set.pF) m E A hF⟩
theorem Pair2.See_bad (h : Pair2 s0 s p q x y B) {a : AV} {l : List Itm} (hl : Sl itemC 5 s a l) (hn : l.length ≤ 2 ^ 40) (hm : ¬ ∀ i ∈ l, i.may = true) :
  ACalls Tryz.prog F_orset_Set_See [.ptr (some (p, 0)), a] s fun r s' => r = .tup [.bool false, .int .i64 2] ∧ Ext s s' := by
 obtain ⟨e0, F, G, h1, h2, h3, h4, h5⟩ := h
 exact Go.Proofs.YtoklmpkpeanloaaGreat.See_bad h1.set hl hn hm
theorem Pair2.Collect (h : Pair2 s0 s p q x y B) (d : Dot) :
  ACalls Tryz.prog F_orset_Set_Collect [.ptr (some (p, 0)), .agg (dotC d)] s fun r s' => ∃ x', x' = (if d.may && x.tomb d then x.coll d else x) ∧ r = .int .i64 (if d.may then (if x.tomb d then 0 else 6) else 2) ∧ Pair2 s0 s' p q x' y B ∧ ∀ l cs, At s l cs → At s' l cs := by
 obtain ⟨e0, F, G, h1, h2, h3, h4, h5⟩ := id h
 refine (Collect_ok h1.set h1.there d).mono ?_
 rintro r s' (⟨c1, rfl, e⟩ | ⟨c1, c2, rfl, e⟩ | ⟨c1, c2, rfl, hS, ht, m, hm, mm, hC⟩)
 ·exact ⟨x, by simp [c1], by simp [c1], h.ext e, fun _ _ h => h.ext e⟩
 ·exact ⟨x, by simp [c1, c2], by simp [c1, c2], h.ext e, fun _ _ h => h.ext e⟩
 ·exact ⟨x.coll d, by simp [c1, c2], by simp [c1, c2], Pair2.set h1 h2 h3 h4 h5 (by simpa using hm) mm (Ext.wr e0 (h1.new m hm) mm) ⟨hS, h1.ok.coll d, h1.new, ht⟩ fun z hz => .inl hz, fun l cs hl => hl.mut mm (by simp only [List.mem_singleton]; rintro rfl; exact hC _ hl)⟩
theorem Pair2.rAdd {C : Nat} (h : Pair2 s0 s p q x y B) (o : OOk y C) (hC : C ≤ 450) (k : Key) (d : Dot) (hk : k.may = true) (hd : d.may = true) :
  ACalls Tryz.prog F_ref07iSet_Add [.ptr (some (q, 0)), .agg (keyC k), .agg (dotC d)] s fun v s' => ∃ l, KD y k l ∧ Sl itemC 5 s' v (⟨d, k, false⟩ :: l.map goneI) ∧ Mut [q] s s' ∧ Pair2 s0 s' p q x (y.sees (⟨d, k, false⟩ :: l.map goneI)).2 B := by
 obtain ⟨e0, F, G, h1, h2, h3, h4, h5⟩ := h
 refine (ref_Add_ok h2 o h4 hC k d hk hd).mono ?_
 rintro v s' ⟨l, kd, hs, m, G', hR, hn, ht⟩
 exact ⟨l, kd, hs, m, Pair2.setR e0 h1 h2 h3 h5 m hR hn ht⟩
theorem Pair2.rRemove {C : Nat} (h : Pair2 s0 s p q x y B) (o : OOk y C) (hC : C ≤ 450) (k : Key) :
  ACalls Tryz.prog F_ref07iSet_Remove [.ptr (some (q, 0)), .agg (keyC k)] s fun v s' => ∃ l, KD y k l ∧ Sl itemC 5 s' v (l.map goneI) ∧ Mut [q] s s' ∧ Pair2 s0 s' p q x (y.sees (l.map goneI)).2 B := by
 obtain ⟨e0, F, G, h1, h2, h3, h4, h5⟩ := h
 refine (ref_Remove_ok h2 o h4 hC k).mono ?_
 rintro v s' ⟨l, kd, hs, m, G', hR, hn, ht⟩
 exact ⟨l, kd, hs, m, Pair2.setR e0 h1 h2 h3 h5 m hR hn ht⟩
theorem Pair2.rSee {C : Nat} (h : Pair2 s0 s p q x y B) (o : OOk y C) (hC : C ≤ 1000) (i : Itm) (hi : i.may = true) :
  ACalls Tryz.prog F_ref07iSet_See [.ptr (some (q, 0)), .agg (itemC i)] s fun r s' => r = .bool (y.see i).1 ∧ Mut [q] s s' ∧ Pair2 s0 s' p q x (y.see i).2 B := by
 obtain ⟨e0, F, G, h1, h2, h3, h4, h5⟩ := h
 refine (ref_See_ok h2 o hC h4 i hi).mono ?_
 rintro r s' ⟨rfl, m, G', hR, hn, ht⟩
 exact ⟨rfl, m, Pair2.setR e0 h1 h2 h3 h5 m hR hn ht⟩
theorem Pair2.rCollect {C : Nat} (h : Pair2 s0 s p q x y B) (o : OOk y C) (hC : C ≤ 1000) (d : Dot) :
  ACalls Tryz.prog F_ref07iSet_Collect [.ptr (some (q, 0)), .agg (dotC d)] s fun r s' => r = .bool (y.tomb d) ∧ Pair2 s0 s' p q x (if y.tomb d then y.coll d else y) B := by
 obtain ⟨e0, F, G, h1, h2, h3, h4, h5⟩ := id h
 refine (ref_Collect_ok h2 o h4 hC d).mono ?_
 rintro r s' (⟨c, rfl, e⟩ | ⟨c, rfl, m, G', hR, hn, ht⟩)
 ·rw [c]; exact ⟨rfl, h.ext e⟩
 ·rw [c]; exact ⟨rfl, Pair2.setR e0 h1 h2 h3 h5 m hR hn ht⟩
theorem Pair2.rHas {C : Nat} (h : Pair2 s0 s p q x y B) (o : OOk y C) (hC : C ≤ 1000) (d : Dot) :
  ACalls Tryz.prog F_ref04iSet_Has [.ptr (some (q, 0)), .agg (dotC d)] s fun r s' => r = .bool (y.has d) ∧ Ext s s' := by
 obtain ⟨e0, F, G, h1, h2, h3, h4, h5⟩ := h
 obtain ⟨w, iw, I, _, _, _, _, _, hT⟩ := h2.open
 have hex := o.exlen
 exact ref_Has_T hT (by omega) d
theorem Pair2.keepI (h : Pair2 s0 s p q x y B) {v : AV} {l : List Itm} (hs : Sl itemC 5 s v l) (m : Mut [q] s s') : Sl itemC 5 s' v l := by
 obtain ⟨e0, F, G, h1, h2, h3, h4, h5⟩ := h
 exact h2.keepI hs m
theorem SetO.Add_bad {F : List Nat} (h : SetO s0 s F p x B) (hB : B ≤ 500) (k : Key) (d : Dot) (hc : ¬ (k.may = true ∧ d.may = true ∧ x.has d = false)) :
  ACalls Tryz.prog F_orset_Set_Add [.ptr (some (p, 0)), .agg (keyC k), .agg (dotC d)] s fun r s' => r = .tup [.slc none 0 0 true, .int .i64 2] ∧ Ext s s' := by
 obtain ⟨b1, b2⟩ := h.bnd
 refine (Add_ok h.set k d h.ok.lmay (by omega) (by omega) (by omega)).mono ?_
 rintro r s' (⟨_, rfl, e⟩ | ⟨h2, _⟩)
 ·exact ⟨rfl, e⟩
 ·exact absurd h2 hc
theorem SetO.Remove_bad {F : List Nat} (h : SetO s0 s F p x B) (hB : B ≤ 500) (k : Key) (hk : k.may = false) :
  ACalls Tryz.prog F_orset_Set_Remove [.ptr (some (p, 0)), .agg (keyC k)] s fun r s' => r = .tup [.slc none 0 0 true, .int .i64 2] ∧ Ext s s' := by
 obtain ⟨b1, b2⟩ := h.bnd
 refine (Remove_ok h.set k h.ok.lmay (by omega) (by omega) (by omega)).mono ?_
 rintro r s' (⟨_, rfl, e⟩ | ⟨h2, _⟩)
 ·exact ⟨rfl, e⟩
 ·rw [hk] at h2; cases h2
end
theorem sees_take {x : OSet} {L : List Itm} {i : Nat} {y : Itm} (hy : L[i]? = some y) : x.sees (L.take (i + 1)) = ((x.sees (L.take i)).1 || ((x.sees (L.take i)).2.see y).1, ((x.sees (L.take i)).2.see y).2) := by
 unfold OSet.sees
 rw [List.take_add_one, hy, Option.toList_some, List.foldl_append]
 rfl
theorem Pair2.Add_bad {s0 s : AS} {p q : Nat} {x y : OSet} {B : Nat} (h : Pair2 s0 s p q x y B) (hB : B ≤ 500) (k : Key) (d : Dot) (hc : ¬ (k.may = true ∧ d.may = true ∧ x.has d = false)) :
  ACalls Tryz.prog F_orset_Set_Add [.ptr (some (p, 0)), .agg (keyC k), .agg (dotC d)] s fun r s' => r = .tup [.slc none 0 0 true, .int .i64 2] ∧ Ext s s' := by
 obtain ⟨e0, F, G, h1, h2, h3, h4, h5⟩ := h
 exact h1.Add_bad hB k d hc
theorem Pair2.Remove_bad {s0 s : AS} {p q : Nat} {x y : OSet} {B : Nat} (h : Pair2 s0 s p q x y B) (hB : B ≤ 500) (k : Key) (hk : k.may = false) :
  ACalls Tryz.prog F_orset_Set_Remove [.ptr (some (p, 0)), .agg (keyC k)] s fun r s' => r = .tup [.slc none 0 0 true, .int .i64 2] ∧ Ext s s' := by
 obtain ⟨e0, F, G, h1, h2, h3, h4, h5⟩ := h
 exact h1.Remove_bad hB k hk
set_option maxRecDepth 100000 in
set_option maxHeartbeats 4000000 in
theorem do_ok {s0 s : AS} {p q : Nat} {x : OSet} {B : Nat} (h : Pair2 s0 s p q x x B) (a : A07) (ha : Act7 s0 a) (hB : B + 1 + a.items.length ≤ 450) :
  ACalls Tryz.prog F_law07ido [.ptr (some (p, 0)), .ptr (some (q, 0)), .agg (act7 a)] s fun r s' => r = .bool true ∧ ∃ x', Pair2 s0 s' p q x' x' (B + 1 + a.items.length) := by
 have hone : (act7 a).all AV.one = true := by simp only [act7, List.all_cons, List.all_nil, ha.one]; rfl
 refine ACalls.pre fun hw => q_law07ido _ _ _ _ _ ⟨hone, NewQ.intro hw rfl fun l1 s2 F2 => ?_⟩
 have h2 := h.ext F2.ext
 have l1new : s.h l1 = none := F2.no
 have c1 : At s2 l1 (act7 a) := F2.own.at
 refine ⟨fun vs s' => s' = s2 ∧ vs = [.bool a.key.may], ?_, a.key.t, by rw [c1.rd1]; rfl, ?_⟩
 rotate_left
 ·refine ACalls.use (refName_ok _ _) ?_
  rintro v s' ⟨rfl, rfl⟩ _
  refine ⟨_, rfl, bsplit.mk (fun h1 => ⟨a.key.d, by rw [c1.rd1]; rfl, ?_⟩) (fun h1 => ⟨rfl, by simp [Key.may, h1]⟩)⟩
  refine ACalls.use (refName_ok _ _) ?_
  rintro v s' ⟨rfl, rfl⟩ _
  exact ⟨_, rfl, rfl, by simp [Key.may, h1]⟩
 rintro b s5 ⟨rfl, hb⟩
 simp only [List.cons.injEq, AV.bool.injEq, and_true] at hb
 subst hb
 have hlp : l1 ∉ [p] := by
  simp only [List.mem_singleton]
  rintro rfl
  exact h.pnew.2 l1new
 have hlq : l1 ∉ [q] := by
  simp only [List.mem_singleton]
  rintro rfl
  exact h.qnew.2 l1new
 have kr : ∀ {s' : AS}, At s' l1 (act7 a) → rdc s' l1 1 2 = some (keyC a.key) := fun c => by rw [c.rdc (by simp [act7])]; rfl
 have dr : ∀ {s' : AS}, At s' l1 (act7 a) → rdc s' l1 3 2 = some (dotC a.dot) := fun c => by rw [c.rdc (by simp [act7])]; rfl
 have ar : ∀ {s' : AS}, At s' l1 (act7 a) → rd1 s' l1 5 = some a.av := fun c => by rw [c.rd1]; rfl
 have okx := h2.ok
 have nillen : ∀ s', alenB T Y_s_Item (.slc none 0 0 true) s' = some (.int .i64 0) := fun s' => by simp [alenB, u_s_Item]
 refine ⟨a.kind, by rw [c1.rd1]; rfl, bsplit.mk (fun hk1 => ?_) (fun hk1 => bsplit.mk (fun hk2 => ?_) (fun hk2 => bsplit.mk (fun hk3 => ?_) (fun hk3 => bsplit.mk (fun hk4 => ?_) (fun hk4 => ⟨rfl, x, h2.mono (by omega)⟩))))⟩
 ·
  refine ⟨_, kr c1, _, dr c1, ?_⟩
  have cond : ∀ {s10 : AS} {y : OSet} {B' : Nat} (J : List AV → AS → Prop), Pair2 s0 s10 p q y x B' → At s10 l1 (act7 a) → WFs s10 → (∀ s', Ext s10 s' → WFs s' → J [.bool !(a.key.may && a.dot.may && !x.has a.dot)] s') →
    bsplit (!a.key.may) (J [(.bool true)] s10) (RdL (rdc s10 l1 3 2) fun g24 => ACalls Tryz.prog F_ref04iMay [(.agg g24)] s10 fun v25 s26 => ∃ b27 : Bool, v25 = .bool b27 ∧ (bsplit (!b27) (J [(.bool true)] s26) (AsSome (some (q, 0)) fun l28 o29 => RdL (rdc s26 l1 3 2) fun g30 => ACalls Tryz.prog F_ref04iSet_Has [(.ptr (some (l28, o29))), (.agg g30)] s26 fun v31 s32 => ∃ b33 : Bool, v31 = .bool b33 ∧ (J [(.bool b33)] s32)))) := by
   intro s10 y B' J hp c10 w10 hJ
   refine bsplit.mk (fun hb => ?_) (fun hb => ⟨_, dr c10, ?_⟩)
   ·simp only [Bool.not_eq_true'] at hb
    have := hJ s10 (Ext.refl _) w10
    rw [hb] at this; exact this
   simp only [Bool.not_eq_false'] at hb
   refine ACalls.use (ref04iMay_ok _ _) ?_
   rintro v s26 ⟨rfl, e26⟩ w26
   refine ⟨_, rfl, bsplit.mk (fun hb2 => ?_) (fun hb2 => ⟨_, dr (c10.ext e26), ?_⟩)⟩
   ·simp only [Bool.not_eq_true'] at hb2
    have := hJ s26 e26 w26
    rw [hb, hb2] at this; exact this
   simp only [Bool.not_eq_false'] at hb2
   refine ACalls.use ((hp.ext e26).rHas okx (by omega) a.dot) ?_
   rintro v s32 ⟨rfl, e32⟩ w32
   refine ⟨_, rfl, ?_⟩
   have := hJ s32 (e26.trans e32) w32
   rw [hb, hb2] at this
   simpa using this
  by_cases hc : a.key.may = true ∧ a.dot.may = true ∧ x.has a.dot = false
  ·refine ACalls.use (h2.Add (by omega) a.key a.dot hc.1 hc.2.1 hc.2.2) ?_
   rintro v s10 ⟨v11, l, x', hx', kd, rfl, hs10, m10, p10⟩ w10
   have c10 : At s10 l1 (act7 a) := c1.mut m10 hlp
   refine ⟨_, _, rfl, fun vs s' => vs = [.bool false] ∧ Ext s10 s' ∧ WFs s', ?_, cond (fun vs s' => vs = [.bool false] ∧ Ext s10 s' ∧ WFs s') p10 c10 w10 fun s' e w => ⟨by rw [hc.1, hc.2.1, hc.2.2]; rfl, e, w⟩⟩
   rintro b s15 ⟨hb, e15, w15⟩
   obtain rfl : b = false := by simpa using hb
   have p15 := p10.ext e15
   refine bsplit.no rfl (bsplit.yes rfl ⟨_, kr (c10.ext e15), _, dr (c10.ext e15), ?_⟩)
   refine ACalls.use (p15.rAdd okx (by omega) a.key a.dot hc.1 hc.2.1) ?_
   rintro v19 s20 ⟨l', kd', hs20, m20, p20⟩ w20
   obtain rfl := kd'.uniq kd
   have hln := kd.len okx
   refine ACalls.use (SameItems_ok (p15.keepI (hs10.ext e15) m20) hs20 (by simp; omega)) ?_
   rintro v s22 ⟨rfl, rfl⟩ _
   refine ⟨_, rfl, by simp, x', ?_⟩
   rw [← hx'] at p20
   exact p20.mono (by omega)
  ·refine ACalls.use (h2.Add_bad (by omega) a.key a.dot hc) ?_
   rintro v s10 ⟨rfl, e10⟩ w10
   have p10 := h2.ext e10
   refine ⟨_, _, rfl, fun vs s' => vs = [.bool true] ∧ Ext s10 s' ∧ WFs s', ?_, cond (fun vs s' => vs = [.bool true] ∧ Ext s10 s' ∧ WFs s') p10 (c1.ext e10) w10 fun s' e w => ⟨?_, e, w⟩⟩
   ·rintro b s15 ⟨hb, e15, w15⟩
    obtain rfl : b = true := by simpa using hb
    exact bsplit.yes rfl (bsplit.yes rfl ⟨_, nillen _, rfl, x, (p10.ext e15).mono (by omega)⟩)
   ·congr 2
    cases h1 : a.key.may with
    | false => rfl
    | true =>
     cases h2 : a.dot.may with
     | false => rfl
     | true =>
      cases h3 : x.has a.dot with
      | true => rfl
      | false => exact absurd ⟨h1, h2, h3⟩ hc
 ·
  refine ⟨_, kr c1, ?_⟩
  cases hkm : a.key.may with
  | true =>
   refine ACalls.use (h2.Remove (by omega) a.key hkm) ?_
   rintro v s36 ⟨v37, l, x', hx', kd, rfl, hs36, m36, p36⟩ w36
   have c36 : At s36 l1 (act7 a) := c1.mut m36 hlp
   refine ⟨_, _, rfl, bsplit.no rfl (bsplit.yes rfl ⟨_, kr c36, ?_⟩)⟩
   refine ACalls.use (p36.rRemove okx (by omega) a.key) ?_
   rintro v41 s42 ⟨l', kd', hs42, m42, p42⟩ w42
   obtain rfl := kd'.uniq kd
   have hln := kd.len okx
   refine ACalls.use (SameItems_ok (p36.keepI hs36 m42) hs42 (by simp; omega)) ?_
   rintro v s22 ⟨rfl, rfl⟩ _
   refine ⟨_, rfl, by simp, x', ?_⟩
   rw [← hx'] at p42
   exact p42.mono (by omega)
  | false =>
   refine ACalls.use (h2.Remove_bad (by omega) a.key hkm) ?_
   rintro v s36 ⟨rfl, e36⟩ w36
   exact ⟨_, _, rfl, bsplit.yes rfl (bsplit.yes rfl ⟨_, nillen _, rfl, x, (h2.ext e36).mono (by omega)⟩)⟩
 ·
  have it2 := ha.it.ext h2.e
  refine ⟨a.av, ar c1, ?_⟩
  by_cases hall : ∀ i ∈ a.items, i.may = true
  ·refine ACalls.use (h2.See it2 (by omega) hall) ?_
   rintro v s48 ⟨x', hx', rfl, m48, p48⟩ w48
   have c48 : At s48 l1 (act7 a) := c1.mut m48 hlp
   refine ⟨_, _, rfl, fun vs s' => vs = [] ∧ Ext s48 s' ∧ WFs s', ?_, fun m vs s' => ∃ i : Nat, vs = [.int .i64 (i : Nat)] ∧ i ≤ a.items.length ∧ m = a.items.length - i ∧ Ext s48 s' ∧ WFs s', a.items.length, ⟨0, rfl, by omega, rfl, Ext.refl _, w48⟩, ?_⟩
   ·rintro s52 ⟨_, e52, w52⟩
    have p52 := p48.ext e52
    have c52 := c48.ext e52
    refine ⟨fun vs s' => vs = [.bool (x.sees a.items).1] ∧ Pair2 s0 s' p q x' x' (B + a.items.length), ?_, fun m vs s' => ∃ i : Nat, vs = [.bool (x.sees (a.items.take i)).1, .int .i64 (i : Nat)] ∧ i ≤ a.items.length ∧ m = a.items.length - i ∧ WFs s' ∧ At s' l1 (act7 a) ∧ Pair2 s0 s' p q x' (x.sees (a.items.take i)).2 (B + a.items.length), a.items.length, ⟨0, rfl, by omega, rfl, w52, c52, p52⟩, ?_⟩
    ·rintro b s55 ⟨hb, p55⟩
     obtain rfl : b = (x.sees a.items).1 := by simpa using hb
     exact bsplit.yes rfl ⟨by simp, x', p55.mono (by omega)⟩
    ·rintro m b n s61 ⟨i, hi, h6, rfl, w61, c61, p61⟩
     simp only [List.cons.injEq, AV.int.injEq, AV.bool.injEq, true_and, and_true] at hi
     obtain ⟨rfl, rfl⟩ := hi
     have it61 := ha.it.ext p61.e
     refine ⟨a.av, ar c61, _, it61.lenB u_s_Item _, bsplit.dec (fun hlt => ?_) (fun hge => ?_)⟩
     ·obtain ⟨y, hy⟩ := get_lt (l := a.items) (i := i) (by omega)
      obtain ⟨ly, oy, k8, k9⟩ := it61.ix (by decide) itemC_len u_s_Item z_Item hy
      have ok : OOk (x.sees (a.items.take i)).2 (B + (a.items.take i).length) := okx.sees _ fun j hj => hall j (List.mem_of_mem_take hj)
      have hti : (a.items.take i).length ≤ a.items.length := by rw [List.length_take]; omega
      refine ⟨a.av, ar c61, ly, oy, k8 _, _, (k9 _ (Ext.refl _)).2, ?_⟩
      refine ACalls.use (p61.rSee ok (by omega) y (hall y (List.mem_of_getElem? hy))) ?_
      rintro v s69 ⟨rfl, m69, p69⟩ w69
      have hst := sees_take (x := x) hy
      have c69 := c61.mut m69 hlq
      refine ⟨_, rfl, bsplit.mk (fun hb => ?_) (fun hb => ?_)⟩
      ·exact ⟨a.items.length - (i + 1), by omega, i + 1, by rw [wrap_i (by omega), hst, hb]; simp, by omega, rfl, w69, c69, by rw [hst]; exact p69⟩
      ·exact ⟨a.items.length - (i + 1), by omega, i + 1, by rw [wrap_i (by omega), hst, hb]; simp, by omega, rfl, w69, c69, by rw [hst]; exact p69⟩
     ·rw [List.take_of_length_le (by omega)] at p61 ⊢
      rw [← hx'] at p61
      exact ⟨rfl, p61⟩
   ·rintro m n s75 ⟨i, hi, h6, rfl, e75, w75⟩
    simp only [List.cons.injEq, AV.int.injEq, true_and, and_true] at hi
    subst hi
    have c75 := c48.ext e75
    have it75 := ha.it.ext (p48.e.trans e75)
    refine ⟨a.av, ar c75, _, it75.lenB u_s_Item _, bsplit.dec (fun hlt => ?_) (fun hge => ⟨rfl, e75, w75⟩)⟩
    obtain ⟨y, hy⟩ := get_lt (l := a.items) (i := i) (by omega)
    obtain ⟨ly, oy, k8, k9⟩ := it75.ix (by decide) itemC_len u_s_Item z_Item hy
    refine ⟨a.av, ar c75, ly, oy, k8 _, _, (k9 _ (Ext.refl _)).2, ?_⟩
    refine ACalls.use (ref07May_ok y _) ?_
    rintro v s83 ⟨rfl, e83⟩ w83
    exact ⟨_, rfl, bsplit.no (by rw [hall y (List.mem_of_getElem? hy)]; rfl) ⟨a.items.length - (i + 1), by omega, i + 1, by rw [wrap_i (by omega)]; rfl, by omega, rfl, e75.trans e83, w83⟩⟩
  ·refine ACalls.use (h2.See_bad it2 (by omega) hall) ?_
   rintro v s48 ⟨rfl, e48⟩ w48
   have p48 := h2.ext e48
   refine ⟨_, _, rfl, fun vs s' => False, fun s52 hf => hf.elim, fun m vs s' => ∃ i : Nat, vs = [.int .i64 (i : Nat)] ∧ i ≤ a.items.length ∧ m = a.items.length - i ∧ Ext s48 s' ∧ WFs s' ∧ ∀ (j : Nat) y, j < i → a.items[j]? = some y → y.may = true, a.items.length, ⟨0, rfl, by omega, rfl, Ext.refl _, w48, fun j y hj => by omega⟩, ?_⟩
   rintro m n s75 ⟨i, hi, h6, rfl, e75, w75, hgood⟩
   simp only [List.cons.injEq, AV.int.injEq, true_and, and_true] at hi
   subst hi
   have c75 := (c1.ext e48).ext e75
   have it75 := ha.it.ext (p48.e.trans e75)
   refine ⟨a.av, ar c75, _, it75.lenB u_s_Item _, bsplit.dec (fun hlt => ?_) (fun hge => ?_)⟩
   ·obtain ⟨y, hy⟩ := get_lt (l := a.items) (i := i) (by omega)
    obtain ⟨ly, oy, k8, k9⟩ := it75.ix (by decide) itemC_len u_s_Item z_Item hy
    refine ⟨a.av, ar c75, ly, oy, k8 _, _, (k9 _ (Ext.refl _)).2, ?_⟩
    refine ACalls.use (ref07May_ok y _) ?_
    rintro v s83 ⟨rfl, e83⟩ w83
    refine ⟨_, rfl, bsplit.mk (fun hb => bsplit.yes rfl ⟨rfl, x, (p48.ext (e75.trans e83)).mono (by omega)⟩) (fun hb => ?_)⟩
    refine ⟨a.items.length - (i + 1), by omega, i + 1, by rw [wrap_i (by omega)]; rfl, by omega, rfl, e75.trans e83, w83, fun j z hj hz => ?_⟩
    rcases Nat.lt_or_ge j i with h | h
    ·exact hgood j z h hz
    ·obtain rfl : j = i := by omega
     rw [hy] at hz; obtain rfl := Option.some.inj hz; simpa using hb
   ·refine hall fun y hy => ?_
    obtain ⟨j, hj⟩ := List.mem_iff_getElem?.1 hy
    have : j < a.items.length := by
     rcases Nat.lt_or_ge j a.items.length with h | h
     ·exact h
     ·rw [List.getElem?_eq_none h] at hj; cases hj
    exact hgood j y (by omega) hj
 ·
  refine ⟨_, dr c1, ?_⟩
  refine ACalls.use (h2.Collect a.dot) ?_
  rintro v s87 ⟨x', hx', rfl, p87, hkeep⟩ w87
  have c87 : At s87 l1 (act7 a) := hkeep _ _ c1
  refine ⟨_, rfl, _, dr c87, ?_⟩
  refine ACalls.use (ref04iMay_ok _ _) ?_
  rintro v s91 ⟨rfl, e91⟩ w91
  have p91 := p87.ext e91
  refine ⟨_, rfl, bsplit.mk (fun hb => ⟨?_, x', ?_⟩) (fun hb => ⟨_, dr (c87.ext e91), ?_⟩)⟩
  ·simp only [Bool.not_eq_true'] at hb
   simp [hb]
  ·simp only [Bool.not_eq_true'] at hb
   rw [hb] at hx'
   simp only [Bool.false_and, Bool.false_eq_true, if_false] at hx'
   subst hx'
   exact p91.mono (by omega)
  simp only [Bool.not_eq_false'] at hb
  rw [hb] at hx' ⊢
  simp only [Bool.true_and] at hx'
  refine ACalls.use (p91.rCollect okx (by omega) a.dot) ?_
  rintro v s95 ⟨rfl, p95⟩ w95
  rw [← hx'] at p95
  refine ⟨_, rfl, bsplit.mk (fun ht => ⟨?_, x', p95.mono (by omega)⟩) (fun ht => ⟨?_, x', p95.mono (by omega)⟩)⟩
  ·simp only [Bool.not_eq_true'] at ht; simp [ht]
  ·simp only [Bool.not_eq_false'] at ht; simp [ht]
end Go.Proofs.YtoklmpkpeanloaaGreat
end

section
namespace Go.Proofs.YtoklmpkpeanloaaGreat
open Go.Am Go.Minster Go.Minster2 Go.ChangeShapes Go.WideShapes Go.ChangeAt Go.RowKit
set_option maxRecDepth 100000 in
theorem flat_Item : flatT Tryz.prog 5 Y_Item = some [.int .i64, .int .u64, .str, .str, .bool] := by kernel_rfl
set_option maxRecDepth 100000 in
theorem items_arg {H : Type} {enc : TypeId × Value → H} {W : World} {base : Nat} {v : Value} (hv : Value.okWide Tryz.prog W .any base Y_s_Item v) (h : ∃ (d : DataW H) (p : List MemPlace), DataW.Trod enc Tryz.prog W 0 (fun _ => true) true Y_s_Item v d p) :
  ∃ l : List Itm, Sl itemC 5 (sW W) (absV W.heap.size (MW W) v) l ∧ ∀ i ∈ l, DotIn i.dot := by
 obtain ⟨d, p, h⟩ := h
 obtain ⟨C, h1, h2, _⟩ := slice_arg (d := 5) (ks := [.int .i64, .int .u64, .str, .str, .bool]) (hT.und _ _ u_s_Item) flat_Item (by kernel_rfl) (by decide) hv h
 obtain ⟨l, e1, e2, e3⟩ := cells_dec (f := itemC) (Q := fun i => DotIn i.dot) C fun c hc => by
  obtain ⟨a, c1, rfl, ⟨r, rfl, hr1, hr2⟩, g1⟩ := (h2 c hc).cons
  obtain ⟨b, c2, rfl, ⟨n, rfl, hn1, hn2⟩, g2⟩ := g1.cons
  obtain ⟨b, c3, rfl, ⟨t, rfl, _⟩, g3⟩ := g2.cons
  obtain ⟨b, c4, rfl, ⟨u, rfl, _⟩, g4⟩ := g3.cons
  obtain ⟨b, c5, rfl, ⟨g, rfl⟩, g5⟩ := g4.cons
  obtain rfl := g5.nil
  rw [min_i64] at hr1
  rw [max_i64] at hr2
  rw [min_u64] at hn1
  rw [max_u64] at hn2
  exact ⟨⟨⟨r, n⟩, ⟨t, u⟩, g⟩, rfl, ⟨hr1, hr2⟩, hn1, hn2⟩
 rw [e1, e2] at h1
 exact ⟨l, h1, e3⟩
end Go.Proofs.YtoklmpkpeanloaaGreat
end

section
namespace Go.Proofs.YtoklmpkpeanloaaGreat
open Go.Am Go.Minster Go.Minster2 Go.ChangeShapes Go.WideShapes Go.ChangeAt Go.RowKit
structure Acts7 (s : AS) (v : AV) (l : List A07) : Prop where
 sl : Sl act7 6 s v l
 each : ∀ a ∈ l, Act7 s a
theorem act7_len (a : A07) : (act7 a).length = 6 := rfl
def kItem : List LK := [.int .i64, .int .u64, .str, .str, .bool]
set_option maxRecDepth 100000 in
theorem deep_act : deepT Tryz.prog 5 Y_minsterlaw07iAct = some [.fl (.int .i64), .fl .str, .fl .str, .fl (.int .i64), .fl (.int .u64), .sl kItem] := by kernel_rfl
set_option maxRecDepth 100000 in
theorem deepB_act : deepB Tryz.prog 5 Y_minsterlaw07iAct = true := by kernel_rfl
set_option maxRecDepth 100000 in
theorem pos_act : 1 ≤ Tryz.prog.bytesOf Y_minsterlaw07iAct := by
 have h : (decide (1 ≤ Tryz.prog.bytesOf Y_minsterlaw07iAct)) = true := by kernel_rfl
 exact of_decide_eq_true h
theorem items_of {w : World} {v : AV} (h : leaf2 w (.sl kItem) v) : v.one = true ∧ ∃ l, Sl itemC 5 (sW w) v l := by
 obtain ⟨h1, C, h2, h3, _⟩ := h
 refine ⟨h1, ?_⟩
 obtain ⟨l, e1, e2, e3⟩ := cells_dec (f := itemC) (Q := fun _ => True) C fun c hc => by
  obtain ⟨a, c1, rfl, ⟨r, rfl, _⟩, g1⟩ := (h3 c hc).cons
  obtain ⟨b, c2, rfl, ⟨n, rfl, _⟩, g2⟩ := g1.cons
  obtain ⟨b, c3, rfl, ⟨t, rfl, _⟩, g3⟩ := g2.cons
  obtain ⟨b, c4, rfl, ⟨u, rfl, _⟩, g4⟩ := g3.cons
  obtain ⟨b, c5, rfl, ⟨g, rfl⟩, g5⟩ := g4.cons
  obtain rfl := g5.nil
  exact ⟨⟨⟨r, n⟩, ⟨t, u⟩, g⟩, rfl, trivial⟩
 rw [e1, e2] at h2
 exact ⟨l, h2⟩
theorem sl_len_ok {α : Type} {f : α → List AV} {sz : Nat} {s : AS} {v : AV} {l : List α} (h : Sl f sz s v l) (hl : lenOk v) : l.length ≤ reachBytes := by
 rcases h with ⟨_, h, _⟩ | ⟨a, c, e, rfl, _⟩
 ·rw [h]; exact Nat.zero_le _
 ·exact hl _ _ _ _ rfl
set_option maxRecDepth 100000 in
theorem acts_arg {H : Type} {enc : TypeId × Value → H} {W : World} {base : Nat} {v : Value} (hv : Value.okWide Tryz.prog W .any base Y_s_minsterlaw07iAct v) (h : ∃ (d : DataW H) (p : List MemPlace), DataW.Trod enc Tryz.prog W 0 (fun _ => true) true Y_s_minsterlaw07iAct v d p ∧ light Tryz.prog Y_s_minsterlaw07iAct d) :
  ∃ l : List A07, Acts7 (sW W) (absV W.heap.size (MW W) v) l ∧ (∀ a ∈ l, a.items.length ≤ reachBytes) ∧ l.length ≤ reachBytes := by
 obtain ⟨d, p, h, hw⟩ := h
 obtain ⟨C, h1, h2, h3⟩ := slice_arg3 (d := 5) (hT.und _ _ u_s_minsterlaw07iAct) deep_act deepB_act (by kernel_rfl) (by simp) hv h hw
 obtain ⟨l, e1, e2, e3⟩ := cells_dec (f := act7) (Q := fun a => Act7 (sW W) a ∧ a.items.length ≤ reachBytes) C fun c hc => by
  obtain ⟨g0, hlen⟩ := h2 c hc
  obtain ⟨a, r1, rfl, ⟨k, rfl, _⟩, g1⟩ := cells2.cons g0
  obtain ⟨a, r2, rfl, ⟨t, rfl, _⟩, g2⟩ := cells2.cons g1
  obtain ⟨a, r3, rfl, ⟨u, rfl, _⟩, g3⟩ := cells2.cons g2
  obtain ⟨a, r4, rfl, ⟨r, rfl, _⟩, g4⟩ := cells2.cons g3
  obtain ⟨a, r5, rfl, ⟨n, rfl, _⟩, g5⟩ := cells2.cons g4
  obtain ⟨iv, r6, rfl, hi, g6⟩ := cells2.cons g5
  obtain rfl := cells2.nil g6
  obtain ⟨o1, li, hli⟩ := items_of hi
  exact ⟨⟨k, ⟨t, u⟩, ⟨r, n⟩, iv, li⟩, rfl, ⟨o1, hli⟩, sl_len_ok hli (hlen iv (by simp))⟩
 rw [e1, e2] at h1
 refine ⟨l, ⟨h1, fun a ha => (e3 a ha).1⟩, fun a ha => (e3 a ha).2, ?_⟩
 obtain ⟨fuel, ht⟩ := h
 have hve : v.cells.toList = [v] := by
  cases v with
  | agg l => exfalso; unfold Value.okWide at hv; rw [hT.und _ _ u_s_minsterlaw07iAct] at hv; simp only [Cell.okWide, hT.und _ _ u_s_minsterlaw07iAct, Cell.ok] at hv
  | _ => rfl
 rw [hve] at ht
 exact sl_len_ok h1 (len_slice (hT.und _ _ u_s_minsterlaw07iAct) pos_act ht hw)
def weigh (l : List A07) : Nat := (l.map fun a => a.items.length).sum
theorem weigh_take {l : List A07} {i : Nat} {a : A07} (h : l[i]? = some a) : weigh (l.take (i + 1)) = weigh (l.take i) + a.items.length := by
 unfold weigh
 rw [List.take_add_one, h, Option.toList_some, List.map_append, List.sum_append]; simp
theorem weigh_le : ∀ (l : List A07), (∀ a ∈ l, a.items.length ≤ reachBytes) → weigh l ≤ l.length * reachBytes
 | [], _ => by simp [weigh]
 | a :: l, h => by
  have := weigh_le l fun b hb => h b (by simp [hb])
  have h1 := h a (by simp)
  unfold weigh at this ⊢
  simp only [List.map_cons, List.sum_cons, List.length_cons, Nat.add_mul, Nat.one_mul]
  omega
theorem reach_val : reachBytes = 140737488351232 := rfl
theorem few7_ok {s : AS} {v : AV} {l : List A07} (h : Acts7 s v l) (hi : ∀ a ∈ l, a.items.length ≤ reachBytes) (hl : l.length ≤ reachBytes) :
  ACalls Tryz.prog F_law07ifew [v] s fun r s' => s' = s ∧ ∃ b, r = .bool b ∧ (b = true → l.length ≤ 100 ∧ weigh l ≤ 300) := by
 rw [reach_val] at hl
 refine q_law07ifew _ _ _ ⟨fun vs s' => s' = s ∧ ∃ n : Int, vs = [.int .i64 n] ∧ (l.length ≤ 100 → n = (weigh l : Nat)), ?_, fun m vs s' => ∃ (i : Nat) (n : Int), vs = [.int .i64 n, .int .i64 (i : Nat)] ∧ i ≤ l.length ∧ m = l.length - i ∧ s' = s ∧ (l.length ≤ 100 → n = (weigh (l.take i) : Nat)), l.length, ⟨0, 0, rfl, by omega, rfl, rfl, fun _ => by simp [weigh]⟩, ?_⟩
 ·rintro n s3 ⟨rfl, n', hn, hw⟩
  simp only [List.cons.injEq, AV.int.injEq, true_and, and_true] at hn
  subst hn
  refine ⟨_, h.sl.lenB u_s_minsterlaw07iAct _, bsplit.dec (fun h1 => ⟨rfl, _, rfl, fun h2 => ?_⟩) (fun h1 => ⟨rfl, _, rfl, by simp⟩)⟩
  simp only [decide_eq_true_eq] at h2
  have h3 : l.length ≤ 100 := by omega
  have := hw h3
  exact ⟨h3, by omega⟩
 ·rintro m n8 n9 s10 ⟨i, n, hin, h6, rfl, rfl, hw⟩
  simp only [List.cons.injEq, AV.int.injEq, true_and, and_true] at hin
  obtain ⟨rfl, rfl⟩ := hin
  refine ⟨_, h.sl.lenB u_s_minsterlaw07iAct _, bsplit.dec (fun hlt => ?_) (fun hge => ⟨rfl, n8, rfl, fun h1 => ?_⟩)⟩
  ·obtain ⟨a, ha⟩ := get_lt (l := l) (i := i) (by omega)
   obtain ⟨la, oa, k8, k9⟩ := h.sl.ix (by decide) act7_len u_s_minsterlaw07iAct z_minsterlaw07iAct ha
   have hai := List.mem_of_getElem? ha
   refine ⟨la, oa, k8 _, a.av, (k9 _ (Ext.refl _)).1 5 (by decide), _, (h.each a hai).it.lenB u_s_Item _, l.length - (i + 1), by omega, i + 1, _, by rw [wrap_i (n := (i : Int) + 1) (by omega)]; rfl, by omega, rfl, rfl, fun h1 => ?_⟩
   have hbnd := weigh_le (l.take i) fun b hb => hi b (List.mem_of_mem_take hb)
   have hti : (l.take i).length ≤ 100 := by rw [List.length_take]; omega
   have h2 := hi a hai
   rw [reach_val] at hbnd h2
   have h3 : weigh (l.take i) ≤ 100 * 140737488351232 := Nat.le_trans hbnd (Nat.mul_le_mul_right _ hti)
   rw [hw h1, wrap_i (by omega), weigh_take ha]
   omega
  ·rw [List.take_of_length_le (by omega)] at hw
   exact hw h1
end Go.Proofs.YtoklmpkpeanloaaGreat
end

section
namespace Go.Proofs.YtoklmpkpeanloaaGreat
open Go.Am Go.Minster Go.Minster2
section
variable {s0 s : AS} {p q : Nat} {x : OSet} {B : Nat} {F G : List Nat}
set_option maxRecDepth 100000 in
theorem same_of (h1 : SetF F s p x) (o : OOk x B) (h2 : RefO G s q x) (hB : B ≤ 1000) :
  ACalls Tryz.prog F_law07isame [.ptr (some (p, 0)), .ptr (some (q, 0))] s fun r s' => r = .bool true ∧ Ext s s' := by
 obtain ⟨ok, gap, w, iw, I, a, ⟨b1, b2, b3⟩, ⟨c1, c2, c3⟩, hI, hqF, f, g⟩ := id h2
 have hex := o.exlen
 have hIl := hI.len o
 obtain ⟨hb1, hb2⟩ := h1.bnd o
 refine q_law07isame _ _ _ _ ?_
 refine ACalls.use (Ctx_ok h1) ?_
 rintro v s2 ⟨pc, rfl, hpc, hG, e2⟩ w2
 refine ⟨_, rfl, fun n _ v s' => n = 14 → Sl dotC 2 s' v x.ex, fun n _ v => n = 4 → v = .agg (x.v.map (.int .u64)), fun _ _ _ _ _ e h hn => (h hn).ext e, _, aeqPtrNil u_p_ctx_Ctx _, bsplit.no rfl ⟨fun s7 e7 w7 _ => ?_, ⟨_, fun _ => rfl⟩, fun v11 hv11 => ?_⟩⟩
 ·refine (ctx_Vector_ok (hG.at.ext e7)).mono ?_
  rintro r s9 ⟨rfl, e9⟩
  exact ⟨_, rfl, e9, (by simp), fun _ => rfl⟩
 obtain rfl := hv11 rfl
 have a2 := (a.ext e2).at
 have r15 : rdc s2 q 0 16 = some (x.v.map (.int .u64)) := by
  rw [a2.rdc (by simp [ok.v.len])]
  simp [ok.v.len]
 refine ⟨_, rfl, _, r15, _, vec_eq ok.v.len ok.v.len, bsplit.no (by simp) ⟨fun s19 e19 w19 _ => ?_, ⟨.undef, by simp⟩, fun v22 _ => ⟨w, ?_, fun s26 e26 w26 hS => ?_⟩⟩⟩
 ·refine (ctx_Extra_ok (hG.at.ext e19) (by omega)).mono ?_
  intro r s21 g21
  exact ⟨g21.chg.ext, fun _ => g21.sl dotC_len, by simp⟩
 ·rw [a2.rd1]; exact ref_16T ok.v.len w [iw]
 refine ACalls.use (SameDots_ok (hS.2.1 rfl) ((b3.sl dotC_len).ext (e2.trans e26)) (by omega)) ?_
 rintro r s29 ⟨rfl, rfl⟩ w29
 have e29 := e2.trans e26
 refine ⟨_, rfl, bsplit.no (by simp) ⟨fun n _ v s' => (n = 1 → Sl itemC 5 s' v I) ∧ (n = 9 → ∃ l, Go.Minster.SK.KRis l ∧ (∀ k, k ∈ l ↔ ∃ d, x.live d = some k) ∧ KeysS s' v l ∧ l.length ≤ x.nl), fun n _ v => n = 6 → v = .bool true, fun _ _ _ _ _ e h => ⟨fun hn => (h.1 hn).ext e, fun hn => by obtain ⟨l, k1, k2, k3, k4⟩ := h.2 hn; exact ⟨l, k1, k2, k3.ext e, k4⟩⟩, fun s31 e31 w31 _ => ?_, ⟨.undef, by simp⟩, fun v34 _ => ⟨iw, ?_, fun s38 e38 w38 hS => ?_, ⟨.bool true, fun _ => rfl⟩, fun v42 hv42 => ?_⟩⟩⟩
 ·refine (Items_ok (h1.ext (e29.trans e31)) o hB).mono ?_
  rintro v s' ⟨J, hJ, hs, e'⟩
  obtain rfl := hJ.uniq hI
  exact ⟨e', ⟨fun _ => hs, by simp⟩, by simp⟩
 ·rw [(a.ext e29).at.rd1]; exact ref_17T ok.v.len w iw
 ·refine (SameItems_ok (hS.1.1 rfl) ((c3.sl itemC_len).ext (e29.trans e38)) (by omega)).mono ?_
  rintro r s' ⟨rfl, rfl⟩
  exact ⟨_, rfl, Ext.refl _, ⟨by simp, by simp⟩, by simp⟩
 obtain rfl := hv42 rfl
 refine ⟨_, rfl, bsplit.yes rfl ⟨fun s44 e44 w44 _ => ?_, ⟨.undef, by simp⟩, fun v47 _ s48 e48 w48 hS => ?_⟩⟩
 ·refine (Keys_ok (h1.ext (e29.trans e44)) (by omega)).mono ?_
  rintro v s' ⟨l, k1, k2, k3, e', k4⟩
  exact ⟨e', ⟨by simp, fun _ => ⟨l, k1, k2, k3, k4⟩⟩, by simp⟩
 obtain ⟨l, k1, k2, k3, k4⟩ := hS.2.2.1.2 rfl
 refine ACalls.use (ref_Keys_ok (h2.ext (e29.trans e48)) o hB) ?_
 rintro v s51 ⟨l', j1, j2, j3, e51⟩ w51
 obtain rfl := kris_uniq j1 k1 fun k => by rw [j2, k2]
 refine ACalls.use (SameKeys_ok (k3.ext e51) j3 (by omega)) ?_
 rintro r s52 ⟨rfl, rfl⟩ w52
 exact ⟨_, rfl, by simp, e29.trans (e48.trans e51)⟩
end
end Go.Proofs.YtoklmpkpeanloaaGreat
end

section
namespace Go.Am
end Go.Am
namespace Go.Proofs.YtoklmpkpeanloaaGreat
open Go.Am Go.Minster Go.Minster2
section
variable {s0 s s' : AS} {p q : Nat} {x y : OSet} {B : Nat}
end
theorem build_ref7 : abuild T Y_minsterref07iSet [] = some (.agg (zeros.map (.int .u64) ++ [.slc none 0 0 true, .slc none 0 0 true])) := by kernel_rfl
theorem start7 {s0 s : AS} (e0 : Ext s0 s) {K : Option (Nat × Nat) → Nat → AS → Prop} (hK : ∀ p q s', WFs s' → Ext s s' → Pair2 s0 s' p q OSet.zero OSet.zero 0 → K (some (p, 0)) q s') :
  ACalls Tryz.prog F_orset_New [] s fun v7 s8 => ∃ p9 : Option (Nat × Nat), v7 = .ptr p9 ∧ (RdG (abuild T Y_minsterref07iSet []) fun g10 => One1 g10 (NewQ (.cells g10 0 false) s8 fun l11 s12 => K p9 l11 s12)) := by
 refine ACalls.use (New_ok s) ?_
 rintro v s8 ⟨p, F, rfl, h1, h2, h3, e8⟩ w8
 refine ⟨_, rfl, _, build_ref7, by decide, NewQ.intro w8 rfl fun l s12 F12 => hK p l s12 F12.wf (e8.trans F12.ext) ⟨e0.trans (e8.trans F12.ext), F, [l], ⟨h1.ext F12.ext, OOk.zero, fun y hy => e0.none (h2 y hy), fun y hy hn => h3 y hy (F12.ext.none hn)⟩, ⟨COk.zero, (fun y hy => by cases hy), .slc none 0 0 true, .slc none 0 0 true, [], F12.own, ⟨rfl, by simp, Gro.nil⟩, ⟨rfl, by simp, Gro.nil⟩, Items.zero, by simp, by simp [labOf], by simp [labOf]⟩, ?_, ?_, ?_⟩⟩
 ·intro z hz; obtain rfl := List.mem_singleton.1 hz; exact e0.none (e8.none F12.no)
 ·intro z hz; obtain rfl := List.mem_singleton.1 hz; rw [F12.at]; simp
 ·intro z hz hg; obtain rfl := List.mem_singleton.1 hg; exact h3 z hz F12.no
end Go.Proofs.YtoklmpkpeanloaaGreat
end

section
namespace Go.Proofs.YtoklmpkpeanloaaGreat
open Go.Am Go.Minster Go.Minster2
end Go.Proofs.YtoklmpkpeanloaaGreat
end

section
set_option maxRecDepth 100000
set_option maxHeartbeats 4000000
namespace Go.Proofs.YtoklmpkpeanloaaGreat
open Go.Am
end Go.Proofs.YtoklmpkpeanloaaGreat
end

section
namespace Go.Proofs.YtoklmpkpeanloaaGreat
open Go.Am Go.Minster Go.Minster2
/-! ### plainly -/
theorem has_may {x : OSet} {d : Dot} (h : x.has d = true) : d.may = true := (hasD_iff.1 h).1
/-! ### at a set -/
section
variable {s0 s : AS} {F : List Nat} {p : Nat} {x : OSet} {B : Nat}
end
end Go.Proofs.YtoklmpkpeanloaaGreat
end

section
namespace Go.Proofs.YtoklmpkpeanloaaGreat
open Go.Am Go.Minster Go.Minster2
/-! ### plainly -/
def Good (v : List Int) (ex : List Dot) (L : List Itm) : Prop := (∀ j ∈ L, j.may = true ∧ hasD v ex j.dot = true) ∧ (L.map Itm.dot).Nodup
structure OfP (v : List Int) (ex : List Dot) (L : List Itm) (x : OSet) : Prop where
 v : x.v = v
 ex : x.ex = ex
 live : ∀ d k, x.live d = some k ↔ (⟨d, k, false⟩ : Itm) ∈ L
 tomb : ∀ d, x.tomb d = true ↔ goneI d ∈ L
 cnt : x.nl + x.nt = L.length
def OSet.put (x : OSet) (j : Itm) : OSet :=
 if j.gone then { x with tomb := fun d => x.tomb d || decide (d = j.dot), nt := if x.tomb j.dot then x.nt else x.nt + 1 }
 else { x with live := fun d => if d = j.dot then some j.key else x.live d, nl := if (x.live j.dot).isSome then x.nl else x.nl + 1 }
theorem may_gone {j : Itm} (h : j.may = true) (hg : j.gone = true) : j = goneI j.dot := by
 cases j
 simp only [Itm.may] at h hg
 subst hg
 simp at h
 simp [goneI, h.2]
theorem may_live {j : Itm} (h : j.may = true) (hg : j.gone = false) : j.dot.may = true ∧ j.key.may = true := by
 cases j
 simp only [Itm.may] at h hg
 subst hg
 simpa using h
theorem nodup_one : ∀ {L : List Itm}, (L.map Itm.dot).Nodup → ∀ {i j : Itm}, i ∈ L → j ∈ L → i.dot = j.dot → i = j
 | [], _, _, _, h, _, _ => by cases h
 | a :: L, hn, i, j, h1, h2, e => by
  obtain ⟨p1, p2⟩ := List.nodup_cons.1 (by simpa using hn : (a.dot :: L.map Itm.dot).Nodup)
  rcases List.mem_cons.1 h1 with e1 | r1 <;> rcases List.mem_cons.1 h2 with e2 | r2
  ·rw [e1, e2]
  ·exact absurd (List.mem_map.2 ⟨j, r2, by rw [← e, e1]⟩) p1
  ·exact absurd (List.mem_map.2 ⟨i, r1, by rw [e, e2]⟩) p1
  ·exact nodup_one p2 r1 r2 e
section
variable {v : List Int} {ex : List Dot} {L : List Itm} {x : OSet}
theorem OfP.zero (v : List Int) (ex : List Dot) : OfP v ex [] ⟨v, ex, fun _ => none, fun _ => false, 0, 0⟩ := ⟨rfl, rfl, fun d k => by simp, fun d => by simp, rfl⟩
theorem Good.nil (v : List Int) (ex : List Dot) : Good v ex [] := ⟨by simp, by simp⟩
theorem OfP.dup (h : OfP v ex L x) (g : Good v ex L) (d : Dot) : ((x.live d).isSome || x.tomb d) = true ↔ d ∈ L.map Itm.dot := by
 rw [Bool.or_eq_true, Option.isSome_iff_exists, h.tomb, List.mem_map]
 constructor
 ·rintro (⟨k, hk⟩ | hk)
  ·exact ⟨_, (h.live d k).1 hk, rfl⟩
  ·exact ⟨_, hk, rfl⟩
 ·rintro ⟨j, hj, rfl⟩
  cases hg : j.gone with
  | true => exact .inr (by rw [← may_gone (g.1 j hj).1 hg]; exact hj)
  | false =>
   refine .inl ⟨j.key, (h.live _ _).2 ?_⟩
   cases j
   simp only at hg
   subst hg
   exact hj
theorem Good.snoc {j : Itm} : Good v ex (L ++ [j]) ↔ Good v ex L ∧ j.may = true ∧ hasD v ex j.dot = true ∧ j.dot ∉ L.map Itm.dot := by
 unfold Good
 rw [List.map_append, List.nodup_append]
 constructor
 ·rintro ⟨h1, h2, _, h3⟩
  exact ⟨⟨fun i hi => h1 i (by simp [hi]), h2⟩, (h1 j (by simp)).1, (h1 j (by simp)).2, fun hm => h3 _ hm j.dot (by simp) rfl⟩
 ·rintro ⟨⟨h1, h2⟩, h3, h4, h5⟩
  refine ⟨fun i hi => ?_, h2, by simp, fun a ha b hb => ?_⟩
  ·rcases List.mem_append.1 hi with hi | hi
   ·exact h1 i hi
   ·obtain rfl := List.mem_singleton.1 hi; exact ⟨h3, h4⟩
  ·obtain rfl : b = j.dot := by simpa using hb
   rintro rfl
   exact h5 ha
theorem OfP.put (h : OfP v ex L x) {j : Itm} (g : Good v ex (L ++ [j])) : OfP v ex (L ++ [j]) (x.put j) := by
 obtain ⟨g0, g1, g2, g3⟩ := Good.snoc.1 g
 have hd : ¬ ((x.live j.dot).isSome || x.tomb j.dot) = true := fun hc => g3 ((h.dup g0 j.dot).1 hc)
 rw [Bool.or_eq_true, not_or] at hd
 have hl : x.live j.dot = none := by cases hx : x.live j.dot <;> simp [hx] at hd; rfl
 have ht : x.tomb j.dot = false := by simpa using hd.2
 have hcnt := h.cnt
 cases hg : j.gone with
 | true =>
  have hj := may_gone g1 hg
  have e : x.put j = { x with tomb := fun d => x.tomb d || decide (d = j.dot), nt := if x.tomb j.dot then x.nt else x.nt + 1 } := by unfold OSet.put; rw [if_pos hg]
  rw [e]
  refine ⟨h.v, h.ex, fun d k => ?_, fun d => ?_, ?_⟩
  ·simp only [h.live, List.mem_append, List.mem_singleton]
   refine ⟨.inl, fun h => h.resolve_right fun he => ?_⟩
   rw [← he] at hg; cases hg
  ·simp only [Bool.or_eq_true, decide_eq_true_eq, h.tomb, List.mem_append, List.mem_singleton]
   refine or_congr Iff.rfl ⟨?_, ?_⟩
   ·rintro rfl; exact hj.symm
   ·intro he; rw [← he]; rfl
  ·simp only [ht, List.length_append, List.length_singleton]
   simp; omega
 | false =>
  have e : x.put j = { x with live := fun d => if d = j.dot then some j.key else x.live d, nl := if (x.live j.dot).isSome then x.nl else x.nl + 1 } := by unfold OSet.put; rw [if_neg (by rw [hg]; simp)]
  rw [e]
  refine ⟨h.v, h.ex, fun d k => ?_, fun d => ?_, ?_⟩
  ·simp only [List.mem_append, List.mem_singleton]
   by_cases e : d = j.dot
   ·subst e
    simp only [if_true, Option.some.injEq]
    constructor
    ·rintro rfl
     exact .inr (by cases j; simp only at hg; subst hg; rfl)
    ·rintro (hm | hm)
     ·exact absurd (List.mem_map.2 ⟨_, hm, rfl⟩) g3
     ·rw [← hm]
   ·rw [if_neg e, h.live]
    refine ⟨.inl, fun h => h.resolve_right fun he => e (by rw [← he])⟩
  ·simp only [h.tomb, List.mem_append, List.mem_singleton]
   refine ⟨.inl, fun h => h.resolve_right fun he => ?_⟩
   rw [← he] at hg; cases hg
  ·simp only [hl, List.length_append, List.length_singleton]
   simp; omega
theorem OfP.item (h : OfP v ex L x) (g : Good v ex L) (i : Itm) : x.item i ↔ i ∈ L := by
 unfold OSet.item
 cases hg : i.gone with
 | true =>
  simp only [h.tomb]
  constructor
  ·rintro ⟨h1, h2⟩
   have : i = goneI i.dot := by cases i; simp only at hg h2; subst hg h2; rfl
   rw [this]; exact h1
  ·intro hi
   have := may_gone (g.1 i hi).1 hg
   rw [this] at hi
   exact ⟨hi, by rw [this]; rfl⟩
 | false =>
  simp only [h.live]
  have : (⟨i.dot, i.key, false⟩ : Itm) = i := by cases i; simp only at hg; subst hg; rfl
  rw [this]
theorem OfP.ok (h : OfP v ex L x) (g : Good v ex L) (ok : COk v ex) (gap : Gap v ex) {B : Nat} (sz : ∃ U : List Dot, U.length ≤ B ∧ ∀ d, hasD v ex d = true → d ∈ U) : OOk x B := by
 have one := fun i hi j hj => nodup_one g.2 (i := i) (j := j) hi hj
 refine ⟨by rw [h.v, h.ex]; exact ok, by rw [h.v, h.ex]; exact gap, fun d k hd => ?_, fun d hd => ?_, ?_⟩
 ·have hm := (h.live d k).1 hd
  obtain ⟨g1, g2⟩ := g.1 _ hm
  exact ⟨by unfold OSet.has; rw [h.v, h.ex]; exact g2, (may_live g1 rfl).2⟩
 ·have hm := (h.tomb d).1 hd
  obtain ⟨g1, g2⟩ := g.1 _ hm
  refine ⟨by unfold OSet.has; rw [h.v, h.ex]; exact g2, ?_⟩
  cases hx : x.live d with
  | none => rfl
  | some k =>
   have := one _ hm _ ((h.live d k).1 hx) rfl
   simp [goneI] at this
 ·obtain ⟨U, h1, h2⟩ := sz
  exact ⟨U, h1, fun d hd => h2 d (by unfold OSet.has at hd; rw [h.v, h.ex] at hd; exact hd)⟩
end
/-! ### in memory -/
set_option maxRecDepth 100000 in
set_option maxHeartbeats 1000000 in
theorem Of_ok {s : AS} {pc : Nat} {v : List Int} {ex : List Dot} {a : AV} {l : List Itm} (h : CtxAt s pc v ex) (ok : COk v ex) (gap : Gap v ex) (hex : ex.length ≤ 4096) (hl : Sl itemC 5 s a l) (hn : l.length ≤ 1000) :
  ACalls Tryz.prog F_orset_Of [.ptr (some (pc, 0)), a] s fun r s' => Ext s s' ∧ ((¬ Good v ex l ∧ r = .tup [.ptr none, .int .i64 2]) ∨
   (Good v ex l ∧ ∃ p F x, r = .tup [.ptr (some (p, 0)), .int .i64 0] ∧ OfP v ex l x ∧ SetF F s' p x ∧ (∀ y ∈ F, s.h y = none) ∧ ∀ y ∈ F, s'.h y ≠ none)) := by
 refine q_orset_Of _ _ _ _ ?_
 refine ACalls.use (ctx_Copy_G h (by omega)) ?_
 rintro v1 s2 ⟨q, rfl, hq, hG, e2⟩ w2
 refine ⟨_, rfl, _, aeqPtrNil u_p_ctx_Ctx _, bsplit.no rfl (NewQ.intro w2 rfl fun lm s6 F6 => NewQ.intro F6.wf rfl fun tm s8 F8 => ⟨_, set_build _ _ _, rfl, NewQ.intro F8.wf rfl fun p s11 F11 => ?_⟩)⟩
 obtain ⟨Fc, hcF, hFn, hFt⟩ := hG.toF hq
 have e11 := F6.ext.trans (F8.ext.trans F11.ext)
 have E11 := e2.trans e11
 have hlm : s11.h lm = some (.map [] 0 false) := (F8.ext.trans F11.ext).1 _ _ F6.at
 have htm : s11.h tm = some (.map [] 0 false) := F11.ext.1 _ _ F8.at
 have hne : lm ≠ tm := by
  rintro rfl
  have := F8.no
  rw [F6.at] at this; cases this
 have a11 : Am.Own s11 p [.ptr (some (q, 0)), .map (some lm), .map (some tm)] := F11.own
 have hpl : p ≠ lm := by rintro rfl; rw [a11] at hlm; cases hlm
 have hpt : p ≠ tm := by rintro rfl; rw [a11] at htm; cases htm
 have hcm : ∀ y ∈ [lm, tm], y ∉ Fc := by
  intro y hy hf
  rcases List.mem_cons.1 hy with rfl | hy
  ·exact hFt _ hf F6.no
  ·obtain rfl := List.mem_singleton.1 hy; exact hFt _ hf (F6.ext.none F8.no)
 have hc11 : CtxF Fc s11 q v ex := hcF.mut (L := []) e11.mut (by simp)
 have mnew : ∀ z ∈ [lm, tm], s.h z = none := by
  intro z hz
  rcases List.mem_cons.1 hz with rfl | hz
  ·exact e2.none F6.no
  ·obtain rfl := List.mem_singleton.1 hz; exact e2.none (F6.ext.none F8.no)
 have bad : ∀ {i : Nat} {j : Itm}, l[i]? = some j → ¬ Good v ex (l.take (i + 1)) → ¬ Good v ex l := by
  intro i j hj hb hg
  refine hb ⟨fun y hy => hg.1 y (List.mem_of_mem_take hy), ?_⟩
  rw [List.map_take]
  exact hg.2.sublist (List.take_sublist _ _)
 refine ⟨fun vs s' => vs = [] ∧ ∃ x, WFs s' ∧ Mut [lm, tm] s11 s' ∧ LiveAt s' lm x.live x.nl ∧ TombAt s' tm x.tomb x.nt ∧ OfP v ex l x ∧ Good v ex l, ?_, _, hl.lenB u_s_Item _, fun m vs s' => ∃ (i : Nat) (x : OSet), vs = [.int .i64 (i : Nat)] ∧ i ≤ l.length ∧ m = l.length - i ∧ WFs s' ∧ Mut [lm, tm] s11 s' ∧ LiveAt s' lm x.live x.nl ∧ TombAt s' tm x.tomb x.nt ∧ OfP v ex (l.take i) x ∧ Good v ex (l.take i), l.length,
  ⟨0, ⟨v, ex, fun _ => none, fun _ => false, 0, 0⟩, rfl, by omega, rfl, F11.wf, Mut.refl _ _, ⟨[], 0, MpAt.new hlm, fun d => rfl, rfl⟩, ⟨[], 0, MpAt.new htm, fun d => rfl, rfl⟩, OfP.zero v ex, Good.nil v ex⟩, ?_⟩
 ·rintro s13 ⟨_, x, w13, m13, hlv, htb, P, G⟩
  have a13 := a11.mut m13 (by simp [hpl, hpt])
  have hcnt := P.cnt
  refine ⟨fun vs s' => vs = [.bool false] ∧ s' = s13, ?_, some lm, by rw [a13.at.rd1]; rfl, _, hlv.lenB, bsplit.dec (fun hc => absurd hc (by omega)) (fun _ => ⟨_, hl.lenB u_s_Item _, by simp; omega, rfl⟩)⟩
  rintro b s16 ⟨hb, rfl⟩
  obtain rfl : b = false := by simpa using hb
  refine bsplit.no rfl ⟨Ext.wrL E11 mnew m13, .inr ⟨G, p, p :: lm :: tm :: Fc, x, rfl, P, ⟨by rw [P.v, P.ex]; exact ok, by rw [P.v, P.ex]; exact gap, by rw [P.ex]; exact hex, q, lm, tm, a13, by simp, ?_, by simp, by simp, hne, hlv, htb⟩, ?_, ?_⟩⟩
  ·rw [P.v, P.ex]
   exact (hc11.mut m13 hcm).sub fun y hy => by simp [hy]
  ·intro y hy
   simp only [List.mem_cons] at hy
   rcases hy with rfl | rfl | rfl | hy
   ·exact e2.none (F6.ext.none (F8.ext.none F11.no))
   ·exact mnew _ (by simp)
   ·exact mnew _ (by simp)
   ·exact hFn y hy
  ·intro y hy
   simp only [List.mem_cons] at hy
   rcases hy with rfl | rfl | rfl | hy
   ·rw [a13]; simp
   ·obtain ⟨es, c, h⟩ := hlv.obj; rw [h]; simp
   ·obtain ⟨es, c, h⟩ := htb.obj; rw [h]; simp
   ·exact there_mut (fun z hz hn => hFt z hz (e11.none hn)) m13 (fun z hz => hcm z hz) y hy
 ·rintro m n s25 ⟨i, x, hin, h6, rfl, w25, m25, hlv, htb, P, G⟩
  simp only [List.cons.injEq, AV.int.injEq, true_and, and_true] at hin
  subst hin
  have E25 : Ext s s25 := Ext.wrL E11 mnew m25
  refine bsplit.dec (fun hlt => ?_) (fun hge => ?_)
  rotate_left
  ·rw [List.take_of_length_le (by omega)] at P G
   exact ⟨rfl, x, w25, m25, hlv, htb, P, G⟩
  obtain ⟨j, hj⟩ := get_lt (l := l) (i := i) (by omega)
  obtain ⟨la, oa, k8, k9⟩ := hl.ix (by decide) itemC_len u_s_Item z_Item hj
  refine ⟨la, oa, k8 _, _, (k9 _ E25).2, ?_⟩
  refine NewSt w25 rfl rfl rfl fun l29 s31 F31 => ?_
  have o31 : Am.Own s31 l29 (itemC j) := F31.own
  have e31 := F31.ext
  have a31 := (a11.mut m25 (by simp [hpl, hpt])).ext e31
  have hlv31 := hlv.ext e31
  have htb31 := htb.ext e31
  have hf : alookup T Y_m_Dot_Key (.map (some lm)) (.agg (dotC j.dot)) true s31 = some (.tup [.agg (keyC ((x.live j.dot).getD ⟨[], []⟩)), .bool (x.live j.dot).isSome]) := by
   obtain ⟨es, c, hm, hg, _⟩ := hlv31
   have hf := hm.find mp_live j.dot true
   rw [hg] at hf
   refine Eq.trans (show _ = _ from hf) ?_
   cases x.live j.dot <;> rfl
  refine ⟨some lm, by rw [a31.at.rd1]; rfl, _, o31.at.rdc (by simp [itemC]), keyC ((x.live j.dot).getD ⟨[], []⟩), (x.live j.dot).isSome, hf, ?_⟩
  refine NewSt F31.wf rfl rfl rfl fun l36 s38 F38 => ?_
  have o38 := o31.ext F38.ext
  have step := List.take_add_one (l := l) (i := i)
  rw [hj, Option.toList_some] at step
  refine ⟨fun vs s' => ∃ b, vs = [.bool b] ∧ (b = true ↔ ¬ (j.may = true ∧ hasD v ex j.dot = true ∧ ((x.live j.dot).isSome || x.tomb j.dot) = false)) ∧ Ext s38 s' ∧ WFs s', ?_, ?_⟩
  rotate_left
  ·refine ⟨_, o38.at.rdc (by simp [itemC]), ?_⟩
   refine ACalls.use (May_ok j _) ?_
   rintro v52 s53 ⟨rfl, e53⟩ w53
   refine ⟨_, rfl, bsplit.mk (fun hb => ⟨_, rfl, ?_, e53, w53⟩) (fun hb => ?_)⟩
   ·simp only [Bool.not_eq_true'] at hb
    simp [hb]
   simp only [Bool.not_eq_false'] at hb
   refine ⟨_, (o38.ext e53).at.rdc (by simp [itemC]), ?_⟩
   have hc53 : CtxAt s53 q v ex := (hc11.mut m25 hcm).at.ext ((e31.trans F38.ext).trans e53)
   refine ACalls.use (ctx_Has_ok hc53 ok.r (by omega) j.dot) ?_
   rintro v56 s57 ⟨rfl, e57⟩ w57
   have E57 := (F38.ext.trans e53).trans e57
   refine ⟨_, rfl, bsplit.mk (fun hb2 => ⟨_, rfl, ?_, e53.trans e57, w57⟩) (fun hb2 => bsplit.mk (fun hb3 => ⟨_, rfl, ?_, e53.trans e57, w57⟩) (fun hb3 => ?_))⟩
   ·simp only [Bool.not_eq_true'] at hb2
    simp [hb2]
   ·simp [hb3]
   simp only [Bool.not_eq_false'] at hb2
   have hlook : alookup T Y_m_Dot_struct__is_bool__ (.map (some tm)) (.agg (dotC j.dot)) false s57 = some (.agg [.bool (x.tomb j.dot)]) := by
    obtain ⟨es, c, h1, h2, _⟩ := htb31.ext E57
    rw [show (AV.agg (dotC j.dot)) = dK j.dot from rfl, h1.find mp_tombs j.dot false, h2]
    cases x.tomb j.dot <;> rfl
   refine ⟨some tm, by rw [(a31.ext E57).at.rd1]; rfl, _, (o38.ext (e53.trans e57)).at.rdc (by simp [itemC]), _, hlook, _, rfl, _, rfl, ?_, e53.trans e57, w57⟩
   rw [hb, hb2, hb3]
   cases x.tomb j.dot <;> simp
  rintro b s41 ⟨b', hb', hbi, e41, w41⟩
  obtain rfl : b = b' := by simpa using hb'
  have E41 := (e31.trans F38.ext).trans e41
  have a41 := a31.ext (F38.ext.trans e41)
  have o41 := o38.ext e41
  refine bsplit.mk (fun hb => ⟨E25.trans E41, .inl ⟨bad hj ?_, rfl⟩⟩) (fun hb => ?_)
  ·rw [step, Good.snoc]
   rintro ⟨_, g1, g2, g3⟩
   refine hbi.1 hb ⟨g1, g2, ?_⟩
   cases hd : ((x.live j.dot).isSome || x.tomb j.dot) with
   | false => rfl
   | true => exact absurd ((P.dup G j.dot).1 hd) g3
  have hgood : j.may = true ∧ hasD v ex j.dot = true ∧ ((x.live j.dot).isSome || x.tomb j.dot) = false := by
   by_cases hg : j.may = true ∧ hasD v ex j.dot = true ∧ ((x.live j.dot).isSome || x.tomb j.dot) = false
   ·exact hg
   ·rw [hbi.2 hg] at hb; cases hb
  have G' : Good v ex (l.take i ++ [j]) := by
   rw [Good.snoc]
   refine ⟨G, hgood.1, hgood.2.1, fun hm => ?_⟩
   rw [(P.dup G j.dot).2 hm] at hgood
   cases hgood.2.2
  have P' := P.put G'
  have m41 : Mut [lm, tm] s11 s41 := m25.trans E41.mut
  have hl29 : l29 ∉ [lm, tm] := by
   intro hm
   rcases List.mem_cons.1 hm with rfl | hm
   ·obtain ⟨es, c, h⟩ := hlv.obj
    rw [F31.no] at h; cases h
   ·obtain rfl := List.mem_singleton.1 hm
    obtain ⟨es, c, h⟩ := htb.obj
    rw [F31.no] at h; cases h
  have hlv41 := hlv.ext E41
  have htb41 := htb.ext E41
  refine ⟨j.gone, by rw [o41.at.rd1]; rfl, bsplit.mk (fun hg => ?_) (fun hg => ?_)⟩
  ·have e : x.put j = { x with tomb := fun d => x.tomb d || decide (d = j.dot), nt := if x.tomb j.dot then x.nt else x.nt + 1 } := by unfold OSet.put; rw [if_pos hg]
   refine ⟨some tm, by rw [a41.at.rd1]; rfl, _, o41.at.rdc (by simp [itemC]), _, is_build, htb41.upd w41 j.dot fun s46 ht46 w46 m46 => ⟨l.length - (i + 1), by omega, i + 1, x.put j, by rw [wrap_i (by omega)]; rfl, by omega, rfl, w46, m41.trans (m46.mono (by simp)), ?_, ?_, by rw [step]; exact P', by rw [step]; exact G'⟩⟩
   ·rw [e]; exact hlv41.mut m46 (by simpa using hne)
   ·rw [e]; exact ht46
  ·have e : x.put j = { x with live := fun d => if d = j.dot then some j.key else x.live d, nl := if (x.live j.dot).isSome then x.nl else x.nl + 1 } := by unfold OSet.put; rw [if_neg (by rw [hg]; simp)]
   refine ⟨some lm, by rw [a41.at.rd1]; rfl, _, o41.at.rdc (by simp [itemC]), _, o41.at.rdc (by simp [itemC]), ?_⟩
   refine hlv41.upd w41 j.dot j.key fun s50 hl50 w50 m50 => ⟨l.length - (i + 1), by omega, i + 1, x.put j, by rw [wrap_i (by omega)]; rfl, by omega, rfl, w50, m41.trans (m50.mono (by simp)), ?_, ?_, by rw [step]; exact P', by rw [step]; exact G'⟩
   ·rw [e]; exact hl50
   ·rw [e]; exact htb41.mut m50 (by simpa using fun hh => hne hh.symm)
end Go.Proofs.YtoklmpkpeanloaaGreat
end

section
namespace Go.Proofs.YtoklmpkpeanloaaGreat
open Go.Am Go.Minster Go.Minster2
theorem nodup_of_map {α β : Type} (f : α → β) {l : List α} (h : (l.map f).Nodup) : l.Nodup := (List.pairwise_map.1 h).imp fun h e => h (by rw [e])
theorem weigh_take_le (l : List A07) (i : Nat) : weigh (l.take i) ≤ weigh l := by
 have : weigh l = weigh (l.take i) + weigh (l.drop i) := by
  unfold weigh
  rw [← List.sum_append, ← List.map_append, List.take_append_drop]
 omega
theorem acts_loop {s2 s14 : AS} {v : AV} {l : List A07} {p q : Nat} (a2 : Acts7 s2 v l) (hn : l.length ≤ 100) (hw : weigh l ≤ 300) (w14 : WFs s14) (P0 : Pair2 s2 s14 p q OSet.zero OSet.zero 0) {J : List AV → AS → Prop} (hJ : ∀ s' x, WFs s' → Pair2 s2 s' p q x x 400 → J [] s') :
  LoopQ fun I m => I m [(.int .i64 0)] s14 ∧ ∀ m' : Nat, ∀ n : Int, ∀ s : AS, I m' [(.int .i64 n)] s →
   RdI .i64 (alenB T Y_s_minsterlaw07iAct v s) fun n' => bsplit (decide ((n : Int) < n'))
    (IxQ (aindexAddr T Y_s_minsterlaw07iAct v (.int .i64 n)) fun l o => RdL (rdc s l o 6) fun g => ACalls Tryz.prog F_law07ido [(.ptr (some (p, 0))), (.ptr (some (q, 0))), (.agg g)] s fun v s' => ∃ b : Bool, v = .bool b ∧ (∃ m'', m'' < m' ∧ I m'' [(.int .i64 (IntKind.wrap .i64 (n + 1)))] s'))
    (J [] s) := by
 refine ⟨fun m vs s' => ∃ (i : Nat) (x : OSet), vs = [.int .i64 (i : Nat)] ∧ i ≤ l.length ∧ m = l.length - i ∧ WFs s' ∧ Pair2 s2 s' p q x x (i + weigh (l.take i)), l.length, ⟨0, _, rfl, by omega, rfl, w14, by simpa [weigh] using P0⟩, ?_⟩
 rintro m n s17 ⟨i, x, hin, h6, rfl, w17, P⟩
 simp only [List.cons.injEq, AV.int.injEq, true_and, and_true] at hin
 subst hin
 refine ⟨_, a2.sl.lenB u_s_minsterlaw07iAct _, bsplit.dec (fun hlt => ?_) (fun hge => hJ s17 x w17 (P.mono (by have := weigh_take_le l i; omega)))⟩
 obtain ⟨a, ha⟩ := get_lt (l := l) (i := i) (by omega)
 have hwt := weigh_take ha
 have hwl := weigh_take_le l (i + 1)
 obtain ⟨la, oa, k8, k9⟩ := a2.sl.ix (by decide) act7_len u_s_minsterlaw07iAct z_minsterlaw07iAct ha
 have hA := a2.each a (List.mem_of_getElem? ha)
 refine ⟨la, oa, k8 _, _, (k9 _ P.e).2, ?_⟩
 refine ACalls.use (do_ok P a hA (by omega)) ?_
 rintro v s28 ⟨rfl, x', P2⟩ w28
 exact ⟨_, rfl, l.length - (i + 1), by omega, i + 1, x', by rw [wrap_i (by omega)]; rfl, by omega, rfl, w28, P2.mono (by omega)⟩
theorem Items.good {x : OSet} {B : Nat} (o : OOk x B) {I : List Itm} (h : Items x I) : Good x.v x.ex I := by
 refine ⟨fun j hj => ?_, rising_nodup h.ris⟩
 have hi := (h.mem j).1 hj
 have hh := item_has o hi
 refine ⟨?_, hh⟩
 have hd := has_may hh
 unfold OSet.item at hi
 cases hg : j.gone with
 | true =>
  rw [hg] at hi
  have : j = goneI j.dot := by cases j; simp only at hg hi; obtain ⟨_, rfl⟩ := hi; subst hg; rfl
  rw [this]; exact goneI_may hd
 | false =>
  rw [hg] at hi
  have := (o.lv _ _ hi).2
  simp [Itm.may, hg, hd, this]
theorem RefO.cong {G : List Nat} {s : AS} {q : Nat} {x y : OSet} (h : RefO G s q x) (hv : y.v = x.v) (hx : y.ex = x.ex) (hi : ∀ i, y.item i ↔ x.item i) : RefO G s q y := by
 obtain ⟨ok, gap, w, iw, I, a, b, c, hI, d⟩ := h
 exact ⟨by rw [hv, hx]; exact ok, by rw [hv, hx]; exact gap, w, iw, I, by rw [hv]; exact a, by rw [hx]; exact b, c, ⟨hI.ris, fun i => by rw [hi, hI.mem]⟩, d⟩
set_option maxRecDepth 100000 in
set_option maxHeartbeats 2000000 in
theorem orsetOf_ok {s : AS} {dv lv av : AV} {ds : List Dot} {l : List Itm} {acts : List A07} (hd : Dots s dv ds) (hl : Sl itemC 5 s lv l) (ha : Acts7 s av acts) (hi : ∀ a ∈ acts, a.items.length ≤ reachBytes) (hla : acts.length ≤ reachBytes) :
    ACalls Tryz.prog F_law07iOrsetOf [dv, lv, av] s fun r s' => r = .bool true := by
  refine ACalls.pre fun hw => q_law07iOrsetOf _ _ _ _ _ ?_
  refine ⟨fun vs s' => Ext s s' ∧ WFs s' ∧ ∃ b, vs = [.bool b] ∧ (b = false → ds.length ≤ 100 ∧ l.length ≤ 100 ∧ acts.length ≤ 100 ∧ weigh acts ≤ 300), ?_, ?_⟩
  rotate_left
  · refine ⟨_, hd.lenB u_s_Dot _, bsplit.dec (fun _ => ⟨Ext.refl _, hw, _, rfl, by simp⟩) (fun h1 => ⟨_, hl.lenB u_s_Item _, bsplit.dec (fun _ => ⟨Ext.refl _, hw, _, rfl, by simp⟩) (fun h2 => ?_)⟩)⟩
    refine ACalls.use (few7_ok ha hi hla) ?_
    rintro r s110 ⟨rfl, b, rfl, hfew⟩ w2
    refine ⟨_, rfl, Ext.refl _, w2, _, rfl, fun hb => ?_⟩
    obtain ⟨h3, h4⟩ := hfew (by simpa using hb)
    exact ⟨by omega, by omega, h3, h4⟩
  rintro b s3 ⟨e3, w3, b', hb', hsm⟩
  obtain rfl : b = b' := by simpa using hb'
  refine bsplit.mk (fun hb => ?_) (fun hb => ?_)
  · refine ACalls.use (known07_ok _) ?_
    rintro r s5 ⟨rfl, _⟩ _
    exact ⟨_, rfl, rfl⟩
  obtain ⟨hn1, hn2, hn3, hn4⟩ := hsm hb
  refine ACalls.use (ctx_New_G s3) ?_
  rintro v7 s8 ⟨pc, rfl, hpc, hG, e8⟩ w8
  refine ⟨_, rfl, fun vs s' => vs = [] ∧ WFs s' ∧ Ext s3 s' ∧ ∃ v ex, CtxAt s' pc v ex ∧ COk v ex ∧ Gap v ex ∧ ex.length ≤ 100 ∧ ∀ d, hasD v ex d = true → d ∈ ds, ?_, ?_⟩
  rotate_left
  ·
    refine ⟨fun m vs s' => ∃ (i : Nat) (v : List Int) (ex : List Dot), vs = [.int .i64 (i : Nat)] ∧ i ≤ ds.length ∧ m = ds.length - i ∧ WFs s' ∧ Ext s3 s' ∧ CtxAt s' pc v ex ∧ COk v ex ∧ Gap v ex ∧ ex.length ≤ i ∧ ∀ d, hasD v ex d = true → d ∈ ds.take i, ds.length, ⟨0, zeros, [], rfl, by omega, rfl, w8, e8, hG.at, COk.zero, (fun y hy => by cases hy), by simp, fun d h => by rw [has_zero] at h; cases h⟩, ?_⟩
    rintro m n s143 ⟨i, v, ex, hin, h6, rfl, w, e, c, ok, gap, hex, hh⟩
    simp only [List.cons.injEq, AV.int.injEq, true_and, and_true] at hin
    subst hin
    refine ⟨_, hd.lenB u_s_Dot _, bsplit.dec (fun hlt => ?_) (fun hge => ?_)⟩
    · obtain ⟨d, hdi⟩ := get_lt (l := ds) (i := i) (by omega)
      obtain ⟨la, oa, k8, k9⟩ := hd.ix (by decide) dotC_len u_s_Dot z_Dot hdi
      refine ⟨la, oa, k8 _, _, (k9 _ (e3.trans e)).2, ?_⟩
      refine ACalls.use (ctx_Add_ok3 c ok.v ok.r ok.m (by omega) d) ?_
      rintro r s149 ⟨rfl, c', m', _, _⟩ w149
      obtain ⟨ok', gap', hex', hh'⟩ := addD_any ok gap (by omega) d
      refine ⟨_, _, rfl, ds.length - (i + 1), by omega, i + 1, _, _, by rw [wrap_i (by omega)]; rfl, by omega, rfl, w149, Ext.wr e hpc m', c', ok', gap', by omega, fun y hy => ?_⟩
      rw [mem_take_succ hdi]
      rcases (hh' y).1 hy with h | h
      · exact .inl (hh y h)
      · exact .inr h.1
    · rw [List.take_of_length_le (by omega)] at hh
      exact ⟨rfl, w, e, v, ex, c, ok, gap, by omega, hh⟩
  rintro s11 ⟨_, w11, e11, v, ex, c11, ok, gap, hex, hh⟩
  have E11 := e3.trans e11
  refine ⟨fun vs s' => WFs s' ∧ Ext s11 s' ∧ ∃ b, vs = [.bool b] ∧ (b = true ↔ Good v ex l), ?_, ?_⟩
  rotate_left
  ·
    refine ⟨fun m vs s' => ∃ (i : Nat) (b : Bool), vs = [.bool b, .int .i64 (i : Nat)] ∧ i ≤ l.length ∧ m = l.length - i ∧ WFs s' ∧ Ext s11 s' ∧ (b = true ↔ Good v ex (l.take i)), l.length, ⟨0, true, rfl, by omega, rfl, w11, Ext.refl _, by simp [Good.nil]⟩, ?_⟩
    rintro m b n s109 ⟨i, b', hin, h6, rfl, w, e, hb⟩
    simp only [List.cons.injEq, AV.int.injEq, AV.bool.injEq, true_and, and_true] at hin
    obtain ⟨rfl, rfl⟩ := hin
    refine ⟨_, hl.lenB u_s_Item _, bsplit.dec (fun hlt => ?_) (fun hge => ?_)⟩
    rotate_left
    · rw [List.take_of_length_le (by omega)] at hb
      exact ⟨w, e, _, rfl, hb⟩
    obtain ⟨j, hj⟩ := get_lt (l := l) (i := i) (by omega)
    have step := List.take_add_one (l := l) (i := i)
    rw [hj, Option.toList_some] at step
    obtain ⟨la, oa, k8, k9⟩ := hl.ix (by decide) itemC_len u_s_Item z_Item hj
    refine ⟨fun vs s' => WFs s' ∧ Ext s11 s' ∧ vs = [.bool (b && j.may && hasD v ex j.dot)], ?_, ?_⟩
    rotate_left
    · refine bsplit.mk (fun hb1 => ?_) (fun hb1 => ⟨w, e, by rw [hb1]; rfl⟩)
      refine ⟨la, oa, k8 _, _, (k9 _ (E11.trans e)).2, ?_⟩
      refine ACalls.use (ref07May_ok j _) ?_
      rintro r s131 ⟨rfl, e131⟩ w131
      refine ⟨_, rfl, bsplit.mk (fun hb2 => ?_) (fun hb2 => ⟨w131, e.trans e131, by rw [hb1, hb2]; rfl⟩)⟩
      refine ⟨la, oa, k8 _, _, rdc_pre ((k9 _ (E11.trans (e.trans e131))).2) (by decide), ?_⟩
      refine ACalls.use (ctx_Has_ok (c11.ext (e.trans e131)) ok.r (by omega) j.dot) ?_
      rintro r s137 ⟨rfl, e137⟩ w137
      exact ⟨_, rfl, w137, (e.trans e131).trans e137, by rw [hb1, hb2]; rfl⟩
    rintro b112 s113 ⟨w113, e113, hb112⟩
    obtain rfl : b112 = (b && j.may && hasD v ex j.dot) := by simpa using hb112
    refine ⟨fun m vs s' => ∃ (k : Nat) (t : Bool), vs = [.bool t, .int .i64 (k : Nat)] ∧ k ≤ i ∧ m = i - k ∧ s' = s113 ∧ (t = true ↔ (b && j.may && hasD v ex j.dot) = true ∧ j.dot ∉ (l.take k).map Itm.dot), i, ⟨0, _, rfl, by omega, rfl, rfl, by simp⟩, ?_⟩
    rintro m t n s119 ⟨k, t', hin, h7, rfl, rfl, ht⟩
    simp only [List.cons.injEq, AV.int.injEq, AV.bool.injEq, true_and, and_true] at hin
    obtain ⟨rfl, rfl⟩ := hin
    refine bsplit.dec (fun hlt2 => ?_) (fun hge2 => ?_)
    · obtain ⟨jk, hjk⟩ := get_lt (l := l) (i := k) (by omega)
      have stepk := List.take_add_one (l := l) (i := k)
      rw [hjk, Option.toList_some] at stepk
      obtain ⟨lk, ok', m8, m9⟩ := hl.ix (by decide) itemC_len u_s_Item z_Item hjk
      refine bsplit.mk (fun hb1 => ?_) (fun hb1 => ⟨i - (k + 1), by omega, k + 1, false, by rw [wrap_i (by omega)]; rfl, by omega, rfl, rfl, ?_⟩)
      · refine ⟨lk, ok', m8 _, _, rdc_pre ((m9 _ (E11.trans e113)).2) (by decide), la, oa, k8 _, _, rdc_pre ((k9 _ (E11.trans e113)).2) (by decide), _, dot_eq jk.dot j.dot, i - (k + 1), by omega, k + 1, _, by rw [wrap_i (by omega)]; rfl, by omega, rfl, rfl, ?_⟩
        have ht' := ht.1 hb1
        rw [stepk, List.map_append, List.mem_append, not_or]
        simp only [Bool.not_eq_true', decide_eq_false_iff_not, List.map_cons, List.map_nil, List.mem_singleton]
        constructor
        · intro hne; exact ⟨ht'.1, ht'.2, fun e => hne e.symm⟩
        · rintro ⟨_, _, h3⟩ e; exact h3 e.symm
      · rw [stepk, List.map_append, List.mem_append, not_or]
        constructor
        · intro h; cases h
        · rintro ⟨h1, h2, _⟩
          have := ht.2 ⟨h1, h2⟩
          rw [hb1] at this; cases this
    · obtain rfl : k = i := by omega
      refine ⟨l.length - (k + 1), by omega, k + 1, t, by rw [wrap_i (by omega)]; rfl, by omega, rfl, w113, e113, ?_⟩
      rw [ht, step, Good.snoc, ← hb]
      simp only [Bool.and_eq_true]
      constructor
      · rintro ⟨⟨⟨h1, h2⟩, h3⟩, h4⟩; exact ⟨h1, h2, h3, h4⟩
      · rintro ⟨h1, h2, h3, h4⟩; exact ⟨⟨⟨h1, h2⟩, h3⟩, h4⟩
  rintro b13 s14 ⟨w14, e14, b', hb', hgood⟩
  obtain rfl : b13 = b' := by simpa using hb'
  have E14 := E11.trans e14
  refine ACalls.use (Of_ok (c11.ext e14) ok gap (by omega) (hl.ext E14) (by omega)) ?_
  rintro v15 s16 ⟨e16, hres⟩ w16
  have E16 := E14.trans e16
  have last : ∀ s22, Ext s s22 → ACalls Tryz.prog F_orset_New [] s22 fun v23 s24 => ∃ p25 : Option (Nat × Nat), v23 = .ptr p25 ∧ (RdG (abuild T Y_minsterref07iSet []) fun g26 => One1 g26 (NewQ (.cells g26 0 false) s24 fun l27 s28 => JoinQ fun J29 =>
     (∀ s30 : AS, J29 [] s30 →
     ACalls Tryz.prog F_orset_Set_Ctx [(.ptr p25)] s30 fun v31 s32 => ∃ p33 : Option (Nat × Nat), v31 = .ptr p33 ∧ (ACalls Tryz.prog F_orset_Set_Items [(.ptr p25)] s32 fun v34 s35 => ACalls Tryz.prog F_orset_Of [(.ptr p33), v34] s35 fun v36 s37 => ∃ p38 : Option (Nat × Nat), ∃ n39 : Int, v36 = .tup [(.ptr p38), (.int .i64 n39)] ∧ (bsplit ((n39 : Int) == 0) (ACalls Tryz.prog F_law07isame [(.ptr p38), (.ptr (some (l27, 0)))] s37 fun v40 s41 => ∃ b42 : Bool, v40 = .bool b42 ∧ (bsplit b42 (ACalls Tryz.prog F_law07iknown [] s41 fun v43 s44 => ∃ b45 : Bool, v43 = .bool b45 ∧ (AV.bool b45 = .bool true)) (AV.bool false = .bool true))) (AV.bool false = .bool true)))) ∧
     (LoopQ fun I46 m47 => I46 m47 [(.int .i64 0)] s28 ∧
     ∀ m48 : Nat, ∀ n49 : Int, ∀ s50 : AS, I46 m48 [(.int .i64 n49)] s50 →
     RdI .i64 (alenB T Y_s_minsterlaw07iAct av s50) fun n51 => bsplit (decide ((n49 : Int) < n51))
     (IxQ (aindexAddr T Y_s_minsterlaw07iAct av (.int .i64 n49)) fun l52 o53 => RdL (rdc s50 l52 o53 6) fun g54 => ACalls Tryz.prog F_law07ido [(.ptr p25), (.ptr (some (l27, 0))), (.agg g54)] s50 fun v55 s56 => ∃ b57 : Bool, v55 = .bool b57 ∧ (∃ m', m' < m48 ∧ I46 m' [(.int .i64 (IntKind.wrap .i64 (n49 + 1)))] s56))
     (J29 [] s50)))) := by
    intro s22 E22
    have a22 : Acts7 s22 av acts := ⟨ha.sl.ext E22, fun a h => (ha.each a h).ext E22⟩
    refine start7 (Ext.refl s22) fun p q s28 w28 e28 P0 => ?_
    refine ⟨fun vs s' => vs = [] ∧ WFs s' ∧ ∃ x, Pair2 s22 s' p q x x 400, ?_, acts_loop (J := fun vs s' => vs = [] ∧ WFs s' ∧ ∃ x, Pair2 s22 s' p q x x 400) a22 hn3 hn4 w28 P0 fun s' x w P => ⟨rfl, w, x, P⟩⟩
    rintro s30 ⟨_, w30, x, e0, F, G, h1, h2, h3, h4, h5⟩
    have hxe := h1.ok.exlen
    refine ACalls.use (Ctx_ok h1.set) ?_
    rintro v31 s32 ⟨qc, rfl, hqc, gc, e32⟩ w32
    refine ⟨_, rfl, ?_⟩
    refine ACalls.use (Items_ok (h1.set.ext e32) h1.ok (by omega)) ?_
    rintro v34 s35 ⟨I, hI, sI, e35⟩ w35
    have hIl := hI.len h1.ok
    refine ACalls.use (Of_ok (gc.at.ext e35) h1.ok.ok h1.ok.gap (by omega) sI (by omega)) ?_
    rintro v36 s37 ⟨e37, ⟨hb, _⟩ | ⟨hg, pu, Fu, y, rfl, P, hS, _⟩⟩ w37
    · exact absurd (hI.good h1.ok) hb
    refine ⟨_, _, rfl, bsplit.yes rfl ?_⟩
    obtain ⟨U, hU, hUm⟩ := h1.ok.sz
    have hy : ∀ i, y.item i ↔ x.item i := fun i => by rw [P.item hg, hI.mem]
    refine ACalls.use (same_of hS (P.ok hg h1.ok.ok h1.ok.gap ⟨U, hU, fun d hd => hUm d hd⟩) ((h2.ext ((e32.trans e35).trans e37)).cong P.v P.ex hy) (by omega)) ?_
    rintro v40 s41 ⟨rfl, e41⟩ w41
    refine ⟨_, rfl, bsplit.yes rfl ?_⟩
    refine ACalls.use (known07_ok _) ?_
    rintro r s5 ⟨rfl, _⟩ _
    exact ⟨_, rfl, rfl⟩
  rcases hres with ⟨hbad, rfl⟩ | ⟨hg, pu, Fu, x, rfl, P, hS, _, _⟩
  · have hb0 : b13 = false := by
      cases b13 with
      | false => rfl
      | true => exact absurd (hgood.1 rfl) hbad
    subst hb0
    refine ⟨_, _, rfl, fun vs s' => vs = [] ∧ s' = s16, ?_, bsplit.no rfl (bsplit.yes rfl (bsplit.no rfl ⟨_, aeqPtrNil u_p_orset_Set _, bsplit.no rfl ⟨rfl, rfl⟩⟩))⟩
    rintro s20 ⟨_, rfl⟩
    exact ⟨fun vs s' => vs = [] ∧ s' = s20, by rintro s22 ⟨_, rfl⟩; exact last _ E16, bsplit.no rfl ⟨rfl, rfl⟩⟩
  · have hb1 : b13 = true := hgood.2 hg
    subst hb1
    refine ⟨_, _, rfl, fun vs s' => vs = [] ∧ s' = s16, ?_, bsplit.no rfl (bsplit.no rfl ⟨rfl, rfl⟩)⟩
    rintro s20 ⟨_, rfl⟩
    refine ⟨fun vs s' => vs = [] ∧ Ext s20 s' ∧ WFs s', by rintro s22 ⟨_, e22, _⟩; exact last _ (E16.trans e22), bsplit.yes rfl ?_⟩
    have oX : OOk x 100 := P.ok hg ok gap ⟨ds, hn1, hh⟩
    refine ACalls.use (Items_ok hS oX (by omega)) ?_
    rintro v58 s59 ⟨I, hI, sI, e59⟩ w59
    have hperm : I.Perm l := (List.perm_ext_iff_of_nodup (nodup_of_map _ (rising_nodup hI.ris)) (nodup_of_map _ hg.2)).2 fun i => by rw [hI.mem, P.item hg]
    have hIl := hperm.length_eq
    refine ⟨_, sI.lenB u_s_Item _, _, hl.lenB u_s_Item _, bsplit.no (by simp [hIl]) ?_⟩
    refine ACalls.use (Ctx_ok (hS.ext e59)) ?_
    rintro v62 s63 ⟨qc, rfl, hqc, gc, e63⟩ w63
    refine ⟨_, rfl, ?_⟩
    refine ACalls.use (Same_ok gc.at (c11.ext (((e14.trans e16).trans e59).trans e63)) (by rw [P.ex]; omega)) ?_
    rintro v65 s66 ⟨rfl, rfl⟩ w66
    refine ⟨_, rfl, bsplit.no (by simp [P.v, P.ex]) ?_⟩
    have e66 := e59.trans e63
    refine ⟨fun m vs s' => ∃ (i : Nat), vs = [.int .i64 (i : Nat)] ∧ i ≤ I.length ∧ m = I.length - i ∧ WFs s' ∧ Ext s66 s', I.length, ⟨0, rfl, by omega, rfl, w66, Ext.refl _⟩, ?_⟩
    rintro m n s72 ⟨i, hin, h6, rfl, w72, e72⟩
    simp only [List.cons.injEq, AV.int.injEq, true_and, and_true] at hin
    subst hin
    have sI72 := sI.ext (e63.trans e72)
    refine ⟨_, sI72.lenB u_s_Item _, bsplit.dec (fun hlt => ?_) (fun hge => ⟨rfl, e66.trans e72, w72⟩)⟩
    obtain ⟨j, hj⟩ := get_lt (l := I) (i := i) (by omega)
    have hjl : j ∈ l := (hperm.mem_iff).1 (List.mem_of_getElem? hj)
    obtain ⟨la, oa, k8, k9⟩ := sI72.ix (by decide) itemC_len u_s_Item z_Item hj
    refine ⟨fun vs s' => vs = [.bool true] ∧ WFs s' ∧ Ext s72 s', ?_, bsplit.mk (fun h0 => ⟨rfl, w72, Ext.refl _⟩) (fun h0 => ?_)⟩
    rotate_left
    · have hi0 : i ≠ 0 := by rintro rfl; simp at h0
      obtain ⟨jp, hjp⟩ := get_lt (l := I) (i := i - 1) (by omega)
      obtain ⟨lp, op, m8, m9⟩ := sI72.ix (by decide) itemC_len u_s_Item z_Item hjp
      have hw1 : IntKind.wrap .i64 ((i : Int) - 1) = ((i - 1 : Nat) : Int) := by rw [wrap_i (by omega)]; omega
      rw [hw1]
      refine ⟨lp, op, m8 _, _, rdc_pre ((m9 _ (Ext.refl _)).2) (by decide), la, oa, k8 _, _, rdc_pre ((k9 _ (Ext.refl _)).2) (by decide), ?_⟩
      refine ACalls.use (ref04iLess_ok jp.dot j.dot _) ?_
      rintro r s101 ⟨rfl, e101⟩ w101
      have hlt' : jp.dot.lt j.dot = true := by
        have h1 : i - 1 < I.length := by omega
        have h2 : i < I.length := by omega
        have := (List.pairwise_iff_getElem.1 hI.ris) (i - 1) i (by simpa using h1) (by simpa using h2) (by omega)
        rw [List.getElem?_eq_getElem h1] at hjp
        rw [List.getElem?_eq_getElem h2] at hj
        obtain rfl := Option.some.inj hjp
        obtain rfl := Option.some.inj hj
        simpa using this
      exact ⟨_, rfl, by rw [hlt'], w101, e101⟩
    rintro b75 s76 ⟨hb75, w76, e76⟩
    obtain rfl : b75 = true := by simpa using hb75
    refine ⟨fun vs s' => vs = [.bool true] ∧ s' = s76, ?_, fun m vs s' => ∃ (k : Nat) (t : Bool), vs = [.bool t, .int .i64 (k : Nat)] ∧ k ≤ l.length ∧ m = l.length - k ∧ s' = s76 ∧ (t = true ↔ j ∈ l.take k), l.length, ⟨0, false, rfl, by omega, rfl, rfl, by simp⟩, ?_⟩
    · rintro b78 s79 ⟨hb78, rfl⟩
      obtain rfl : b78 = true := by simpa using hb78
      exact bsplit.no rfl (bsplit.no rfl ⟨I.length - (i + 1), by omega, i + 1, by rw [wrap_i (by omega)]; rfl, by omega, rfl, w76, e72.trans e76⟩)
    · rintro m t n s85 ⟨k, t', hin, h7, rfl, rfl, ht⟩
      simp only [List.cons.injEq, AV.int.injEq, AV.bool.injEq, true_and, and_true] at hin
      obtain ⟨rfl, rfl⟩ := hin
      have E85 := (E16.trans e66).trans (e72.trans e76)
      refine ⟨_, (hl.ext E85).lenB u_s_Item _, bsplit.dec (fun hlt2 => ?_) (fun hge2 => ?_)⟩
      · obtain ⟨jk, hjk⟩ := get_lt (l := l) (i := k) (by omega)
        have stepk := List.take_add_one (l := l) (i := k)
        rw [hjk, Option.toList_some] at stepk
        obtain ⟨lk, ok', m8, m9⟩ := hl.ix (by decide) itemC_len u_s_Item z_Item hjk
        refine bsplit.mk (fun hb1 => ⟨l.length - (k + 1), by omega, k + 1, true, by rw [wrap_i (by omega)]; rfl, by omega, rfl, rfl, ?_⟩) (fun hb1 => ?_)
        · rw [stepk, List.mem_append]
          exact ⟨fun _ => .inl (ht.1 hb1), fun _ => rfl⟩
        · refine ⟨lk, ok', m8 _, _, (m9 _ E85).2, la, oa, k8 _, _, (k9 _ e76).2, _, item_eq jk j, l.length - (k + 1), by omega, k + 1, _, by rw [wrap_i (by omega)]; rfl, by omega, rfl, rfl, ?_⟩
          rw [stepk, List.mem_append, List.mem_singleton, decide_eq_true_eq]
          constructor
          · intro h; exact .inr h.symm
          · rintro (h | h)
            · rw [ht.2 h] at hb1; cases hb1
            · exact h.symm
      · rw [List.take_of_length_le (by omega)] at ht
        exact ⟨by rw [ht.2 hjl], rfl⟩
end Go.Proofs.YtoklmpkpeanloaaGreat
end
