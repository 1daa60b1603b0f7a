/-
  A part of the proof: an abstract machine over the model, and contracts of functions of this program over it.
-/
import Derived.KernelRfl
import Derived.Test.YtoklmpkpeanloaaGreatP5
section
set_option linter.unusedSimpArgs false
set_option linter.unusedVariables false
namespace Go.Proofs.YtoklmpkpeanloaaGreat
open Go.Am Go.Minster Go.Minster2

theorem OOk.exlen {x : OSet} {B : Nat} (o : OOk x B) : x.ex.length ≤ B := by
  obtain ⟨U, hU, hm⟩ := o.sz
  have := nodup_len (rising_nodup o.ok.r) fun d hd => hm d ?_
  · omega
  · simp [OSet.has, hasD, o.ok.m d hd, hd]
theorem flat_setG {α : Type} {f : α → List AV} {sz : Nat} (hf : ∀ x, (f x).length = sz) : ∀ (l : List α) (k : Nat) (x : α), k < l.length → wrs (l.flatMap f) (k * sz) (f x) = (l.set k x).flatMap f := by
  intro l k x hk
  have hsp : l.flatMap f = (l.take k).flatMap f ++ (f (l[k]) ++ (l.drop (k + 1)).flatMap f) := by
    conv => lhs; rw [← List.take_append_drop k l, List.flatMap_append, List.drop_eq_getElem_cons hk, List.flatMap_cons]
  have hl : ((l.take k).flatMap f).length = k * sz := by rw [flat_len hf, List.length_take, Nat.min_eq_left (by omega)]
  have := wrs_mid ((l.take k).flatMap f) (f l[k]) (f x) ((l.drop (k + 1)).flatMap f) (by rw [hf, hf])
  rw [hl] at this
  rw [hsp, ← List.append_assoc, this, List.set_eq_take_append_cons_drop, if_pos hk, List.flatMap_append, List.flatMap_cons, List.append_assoc]
theorem see_two {x : OSet} {i : Itm} (h1 : ¬ ((x.live i.dot).isSome = true ∧ i.gone = true)) (h2 : x.has i.dot = true) : x.see i = (false, x) := by
  unfold OSet.see
  rw [if_neg (by simpa using h1), if_pos (show hasD x.v x.ex i.dot = true from h2)]
theorem see_three {x : OSet} {i : Itm} (h1 : ¬ ((x.live i.dot).isSome = true ∧ i.gone = true)) (h2 : x.has i.dot = false) : (x.see i).1 = true ∧ (x.see i).2.v = (compact x.v (ins x.ex i.dot)).1 ∧ (x.see i).2.ex = (compact x.v (ins x.ex i.dot)).2 := by
  have h2' : ¬ hasD x.v x.ex i.dot = true := by rw [show hasD x.v x.ex i.dot = x.has i.dot from rfl, h2]; simp
  unfold OSet.see
  rw [if_neg (by simpa using h1), if_neg h2']
  split <;> exact ⟨rfl, rfl, rfl⟩
section
variable {F : List Nat} {s : AS} {q : Nat} {x : OSet} {B : Nat}
theorem _root_.Go.Am.Gro.there {α : Type} {f : α → List AV} {sz : Nat} {v : AV} {l : List α} (h : Gro f sz s v l) : ∀ y ∈ labOf v, s.h y ≠ none := by
  intro y hy
  rcases h with ⟨_, b, rfl⟩ | ⟨la, rfl, ho⟩
  · simp [labOf] at hy
  · obtain rfl : y = la := by simpa [labOf] using hy
    rw [ho]; simp
theorem _root_.Go.Am.Gro.ne {α : Type} {f : α → List AV} {sz : Nat} (hz : sz ≠ 0) {v : AV} {l : List α} {cs : List AV} (h : Gro f sz s v l) (hq : Am.Own s q cs) : ∀ y ∈ labOf v, y ∉ [q] := by
  intro y hy hm
  obtain rfl := List.mem_singleton.1 hm
  rcases h with ⟨_, b, rfl⟩ | ⟨la, rfl, ho⟩
  · simp [labOf] at hy
  · obtain rfl : y = la := by simpa [labOf] using hy
    rw [hq] at ho
    simp only [Option.some.injEq, AO.cells.injEq] at ho
    exact hz ho.2.1.symm
theorem ref_See_ok (h : RefO F s q x) (o : OOk x B) (hB : B ≤ 1000) (hth : ∀ y ∈ F, s.h y ≠ none) (i : Itm) (hi : i.may = true) :
    ACalls Tryz.prog F_ref07iSet_See [.ptr (some (q, 0)), .agg (itemC i)] s fun r s' => r = .bool (x.see i).1 ∧ Mut [q] s s' ∧ ∃ F', RefO F' s' q (x.see i).2 ∧ (∀ y ∈ F', y ∈ F ∨ s.h y = none) ∧ ∀ y ∈ F', s'.h y ≠ none := by
  have him : i.dot.may = true := by simp only [Itm.may, Bool.and_eq_true] at hi; exact hi.1
  refine ACalls.pre fun hw => q_ref07iSet_See _ _ _ _ ⟨rfl, NewQ.intro hw rfl fun l1 s2 F2 => ?_⟩
  obtain ⟨ok, gap, w, iw, I, a, ⟨b1, b2, b3⟩, ⟨c1, c2, c3⟩, hI, hqF, f, g⟩ := h.ext F2.ext
  have hlen := hI.len o
  have hexl := o.exlen
  have hvl := ok.v.len
  refine ⟨_, F2.own.at.rdc (by simp [itemC]), ?_⟩
  refine ACalls.use (at_ok a.at hvl (c3.sl itemC_len) (by omega) i.dot) ?_
  rintro r s5 ⟨e5, n, rfl, hcase⟩ w5
  have a5 := a.ext e5
  have c5 := c3.ext e5
  have b5 := b3.ext e5
  have o5 : Am.Own s5 l1 (itemC i) := F2.own.ext e5
  have E5 := F2.ext.trans e5
  have r17 : rd1 s5 q (0 + 17) = some iw := by rw [a5.at.rd1]; exact ref_17T hvl w iw
  have hth5 : ∀ y ∈ F, s5.h y ≠ none := fun y hy hn => hth y hy (E5.none hn)
  refine ⟨_, rfl, fun vs s' => s' = s5 ∧ ∃ t, vs = [.bool t] ∧ (t = true → ∃ (k : Nat) (j : Itm), n = k ∧ I[k]? = some j ∧ j.dot = i.dot ∧ j.gone = false ∧ i.gone = true) ∧ (t = false → ¬ ((x.live i.dot).isSome = true ∧ i.gone = true)), ?_, ?_⟩
  rotate_left
  · refine bsplit.dec (fun hn => ?_) (fun hn => ⟨rfl, _, rfl, (fun h => by cases h), fun _ => ?_⟩)
    · rcases hcase with ⟨rfl, _⟩ | ⟨k, rfl, j, hj, hjd⟩
      · omega
      · obtain ⟨lj, oj, g8, g9⟩ := c5.sl itemC_len |>.ix (by decide) itemC_len u_s_Item z_Item hj
        refine ⟨iw, r17, lj, oj, g8 _, j.gone, (g9 _ (Ext.refl _)).1 4 (by decide), bsplit.mk (fun hg => ⟨i.gone, by rw [o5.at.rd1]; rfl, rfl, _, rfl, fun ht => ⟨k, j, rfl, hj, hjd, by simpa using hg, ht⟩, fun ht h => by rw [ht] at h; cases h.2⟩) (fun hg => ⟨rfl, _, rfl, (fun h => by cases h), fun _ h => ?_⟩)⟩
        have := (hI.mem j).1 (List.mem_of_getElem? hj)
        unfold OSet.item at this
        have hg' : j.gone = true := by simpa using hg
        rw [hg', hjd] at this
        rw [(o.tb _ this.1).2] at h
        cases h.1
    · rcases hcase with ⟨rfl, hno⟩ | ⟨k, rfl, _⟩
      · rintro ⟨h1, h2⟩
        obtain ⟨k, hk⟩ := Option.isSome_iff_exists.1 h1
        exact hno ⟨i.dot, k, false⟩ ((hI.mem _).2 hk) rfl
      · omega
  rintro t s9 ⟨rfl, t', ht, hyes, hno⟩
  simp only [List.cons.injEq, AV.bool.injEq, and_true] at ht
  subst ht
  refine bsplit.mk (fun ht => ?_) (fun ht => ?_)
  · -- an item that was live is gone
    obtain ⟨k, j, rfl, hj, hjd, hjg, hig⟩ := hyes ht
    have hkey : i.key = ⟨[], []⟩ := by
      simp only [Itm.may, Bool.and_eq_true, hig, if_true, decide_eq_true_eq] at hi
      exact hi.2
    obtain ⟨hI', hs1, hs2, hs3⟩ := hI.set o hj hjg hjd hig hkey
    have hkl : k < I.length := by
      rcases Nat.lt_or_ge k I.length with h | h
      · exact h
      · rw [List.getElem?_eq_none h] at hj; cases hj
    refine ⟨iw, r17, GroN.appendS sl_s_Item itemC_len itemC_one w5 (GroN.nil (M := [])) (by simp) (c5.sl itemC_len) (by simp; omega) u_s_Item fun v13 s14 g14 w14 _ => ?_⟩
    rw [List.nil_append] at g14
    have e14 := g14.chg.ext
    rcases g14.gro with ⟨h0, _⟩ | ⟨la, hv13, ho⟩
    · rw [h0] at hkl; simp at hkl
    have hlab : labOf v13 = [la] := by rw [hv13]; rfl
    have hla : s9.h la = none := g14.new la (by simp [hlab])
    have hlq : la ≠ q := by rintro rfl; rw [a5] at hla; cases hla
    have hix : aindexAddr T Y_s_Item v13 (.int .i64 (k : Nat)) = some (.ptr (some (la, 0 + k * 5))) := by
      rw [hv13]
      have : (0 : Int) ≤ (k : Int) ∧ (k : Int) < (I.length : Int) := by omega
      simp only [aindexAddr, u_s_Item, z_Item, Option.bind_some]
      rw [if_pos this]; simp
    refine ⟨itemC i, (o5.ext e14).at.rdc (by simp [itemC]), _, _, hix, ⟨rfl, rfl⟩, ?_⟩
    rw [Nat.zero_add]
    have hfl := flat_len itemC_len I
    have hk5 : k * 5 + 5 ≤ I.length * 5 := by omega
    refine StQ.awr w14 ho (by rw [hfl]; simp [itemC]; omega) fun s18 P18 => ?_
    have ho18 : s18.h la = some (.cells ((I.set k i).flatMap itemC) 5 false) := by
      have e3 : wrs (I.flatMap itemC) (k * 5) (itemC i) = (I.set k i).flatMap itemC := flat_setG itemC_len I k i hkl
      exact P18.at.trans (by rw [← e3])
    have a18 : Am.Own s18 q (x.v.map (.int .u64) ++ [w, iw]) := (a5.ext e14).mut P18.mut (by simpa using hlq.symm)
    have gI : Gro itemC 5 s18 v13 (I.set k i) := .inr ⟨la, by rw [List.length_set]; exact hv13, ho18⟩
    refine qstore_one g14.isSlc.2 z_s_Item (StQ.own P18.wf a18 (by simp [hvl]) fun s21 P21 => ?_)
    have M : Mut [q] s s21 := by
      have e18 : Ext s s18 := Ext.wr (E5.trans e14) (E5.none hla) P18.mut
      exact e18.mut.trans P21.mut
    have a21 : Am.Own s21 q (x.v.map (.int .u64) ++ [w, v13]) := by
      have := P21.at
      rw [wrs_one, List.set_append_right _ _ (by simp [hvl])] at this
      simp only [List.length_map, hvl, Nat.zero_add, Nat.reduceSub, List.set_cons_succ, List.set_cons_zero] at this
      exact this
    have b21 : Gro dotC 2 s21 w x.ex := (((b5.ext e14).mut P18.mut fun y hy hm => by
      obtain rfl := List.mem_singleton.1 hm
      exact hth5 _ (f _ hy) hla)).mut P21.mut ((b5.ext e14).mut P18.mut (fun y hy hm => by
      obtain rfl := List.mem_singleton.1 hm
      exact hth5 _ (f _ hy) hla) |>.ne (by decide) a18)
    have g21 := gI.mut P21.mut (by simpa [hlab] using hlq)
    rw [hs1]
    refine ⟨rfl, M, la :: F, ⟨by rw [hs2, hs3]; exact ok, by rw [hs2, hs3]; exact gap, w, _, I.set k i, by rw [hs2]; exact a21, ⟨b1, b2, by rw [hs3]; exact b21⟩, ⟨g14.isSlc.2, g14.isSlc.1, g21⟩, hI', by simp [hqF], fun y hy => by simp [f y hy], fun y hy => by rw [hlab] at hy; simp at hy; simp [hy]⟩, fun y hy => ?_, fun y hy => ?_⟩
    · rcases List.mem_cons.1 hy with rfl | hy
      · exact .inr (E5.none hla)
      · exact .inl hy
    · by_cases e1 : y = q
      · rw [e1, a21]; simp
      · rw [P21.eq y e1]
        by_cases e2 : y = la
        · rw [e2, ho18]; simp
        · rw [P18.eq y e2]
          rcases List.mem_cons.1 hy with rfl | hy
          · exact absurd rfl e2
          · exact fun hn => hth5 y hy (e14.none hn)
  · have hn1 := hno ht
    have hT : RefT s9 q [iw] x.v x.ex := ⟨hvl, fun y hy n => by obtain rfl := List.mem_singleton.1 hy; exact slc_not_int c5 n, w, a5, b1, b2, b5.sl dotC_len⟩
    refine ⟨_, o5.at.rdc (by simp [itemC]), ?_⟩
    refine ACalls.use (ref_Add_T hT ok.v ok.r ok.m (by omega) him) ?_
    rintro r s26 ⟨rfl, m26, hold, hnew⟩ w26
    cases hh : hasD x.v x.ex i.dot with
    | true =>
      have e26 := hold hh
      rw [see_two hn1 hh]
      exact ⟨_, rfl, bsplit.yes (by simp) ⟨rfl, (E5.trans e26).mut, F, h.ext (E5.trans e26), fun y hy => .inl hy, fun y hy hn => hth5 y hy (e26.none hn)⟩⟩
    | false =>
      obtain ⟨hs1, hs2, hs3⟩ := see_three hn1 hh
      obtain ⟨hv26, hnt, w', a26, d1, d2, d3, d4⟩ := hnew hh
      have c26 : Gro itemC 5 s26 iw I := c5.mut m26 (c5.ne (by decide) a5)
      have hlq : l1 ∉ [q] := by
        simp only [List.mem_singleton]
        rintro rfl
        have := a5.at.inj o5.at
        have := congrArg List.length this
        simp [hvl, itemC] at this
      have o26 : Am.Own s26 l1 (itemC i) := o5.mut m26 hlq
      have r26 : ∀ s', Ext s26 s' → rd1 s' q (0 + 17) = some iw := fun s' e => by rw [(a26.ext e).at.rd1]; exact ref_17T hv26 w' iw
      refine ⟨_, rfl, bsplit.no (by simp) ⟨fun vs s' => ∃ left, vs = [left, .int .i64 (pos (I.map Itm.dot) i.dot : Nat)] ∧ WFs s' ∧ GroN itemC 5 [] s26 s' left (I.take (pos (I.map Itm.dot) i.dot)), ?_, fun m vs s' => ∃ (k : Nat) (left : AV), vs = [left, .int .i64 (k : Nat)] ∧ k ≤ I.length ∧ m = I.length - k ∧ WFs s' ∧ GroN itemC 5 [] s26 s' left (I.take k) ∧ ∀ (j : Nat) y, j < k → I[j]? = some y → y.dot.lt i.dot = true, I.length, ⟨0, _, rfl, by omega, rfl, w26, by simpa using GroN.nil, fun j y hj => by omega⟩, ?_⟩⟩
      · rintro v29 n30 s31 ⟨left, hl, w31, g31⟩
        simp only [List.cons.injEq, AV.int.injEq, true_and, and_true] at hl
        obtain ⟨rfl, rfl⟩ := hl
        have hpl : pos (I.map Itm.dot) i.dot ≤ I.length := by have := pos_le (I.map Itm.dot) i.dot; simpa using this
        have htl : (I.take (pos (I.map Itm.dot) i.dot)).length ≤ I.length := by rw [List.length_take]; omega
        refine ⟨_, (o26.ext g31.chg.ext).at.rdc (by simp [itemC]), GroN.append1 sl_s_Item itemC_len itemC_one w31 g31 (by simp) i (by omega) fun v36 s37 g37 w37 _ => ?_⟩
        obtain ⟨v41, k1, k2⟩ := ((c26.ext g37.chg.ext).sl itemC_len).from itemC_len u_s_Item z_Item c2 hpl .i64
        refine ⟨iw, r26 _ g37.chg.ext, v41, k1, GroN.appendS sl_s_Item itemC_len itemC_one w37 g37 (by simp) k2 (by simp; omega) u_s_Item fun v42 s43 g43 w43 _ => ?_⟩
        have hins : I.take (pos (I.map Itm.dot) i.dot) ++ [i] ++ I.drop (pos (I.map Itm.dot) i.dot) = I.take (pos (I.map Itm.dot) i.dot) ++ i :: I.drop (pos (I.map Itm.dot) i.dot) := by simp
        rw [hins] at g43
        have a43 := a26.ext g43.chg.ext
        refine qstore_one g43.isSlc.2 z_s_Item (StQ.own w43 a43 (by simp [hv26]) fun s46 P => ?_)
        have a46 : Am.Own s46 q ((compact x.v (ins x.ex i.dot)).1.map (.int .u64) ++ [w', v42]) := by
          have := P.at
          rw [wrs_one, List.set_append_right _ _ (by simp [hv26])] at this
          simp only [List.length_map, hv26, Nat.zero_add, Nat.reduceSub, List.set_cons_succ, List.set_cons_zero] at this
          exact this
        have hq26 : s26.h q ≠ none := by rw [a26]; simp
        have g46 := g43.gro.mut P.mut fun y hy hm => by
          obtain rfl := List.mem_singleton.1 hm
          exact hq26 (g43.new _ hy)
        have d46 := (d3.ext g43.chg.ext).mut P.mut ((d3.ext g43.chg.ext).ne (by decide) a43)
        have M : Mut [q] s s46 := E5.mut.trans (m26.trans (g43.chg.ext.mut.trans P.mut))
        have ok2 := see_OOk o hi
        have hnone : ∀ y, s26.h y = none → s9.h y = none := fun y hy => by
          cases hq : s9.h y with
          | none => rfl
          | some ob =>
            by_cases e : y = q
            · subst e; exact absurd hy hq26
            · rw [m26.1 y ob (by simpa using e) hq] at hy; cases hy
        rw [hs1]
        refine ⟨rfl, M, labOf w' ++ (labOf v42 ++ F), ⟨ok2.ok, ok2.gap, w', v42, _, by rw [hs2]; exact a46, ⟨d1, d2, by rw [hs3]; exact d46⟩, ⟨g43.isSlc.2, g43.isSlc.1, g46⟩, hI.ins o hi hh, by simp [hqF], fun y hy => by simp [hy], fun y hy => by simp [hy]⟩, fun y hy => ?_, fun y hy => ?_⟩
        · rcases List.mem_append.1 hy with hy | hy
          · exact .inr (E5.none (d4 y hy))
          · rcases List.mem_append.1 hy with hy | hy
            · exact .inr (E5.none (hnone y (g43.new y hy)))
            · exact .inl hy
        · rcases List.mem_append.1 hy with hy | hy
          · exact d46.there y hy
          · rcases List.mem_append.1 hy with hy | hy
            · exact g46.there y hy
            · by_cases e : y = q
              · rw [e, a46]; simp
              · rw [P.eq y e]
                intro hn
                exact hth5 y hy (hnone y (g43.chg.ext.none hn))
      · rintro m left n s52 ⟨k, left', hk, h6, rfl, w52, g52, hlt⟩
        simp only [List.cons.injEq, AV.int.injEq, true_and, and_true] at hk
        obtain ⟨rfl, rfl⟩ := hk
        have c52 := c26.ext g52.chg.ext
        have htl : (I.take k).length ≤ I.length := by rw [List.length_take]; omega
        have fin : (∀ y, I[k]? = some y → y.dot.lt i.dot = false) → pos (I.map Itm.dot) i.dot = k := fun hq => by
          refine pos_eq (by simpa using h6) (fun j d hj hd => ?_) fun d hd => ?_
          · rw [List.getElem?_map, Option.map_eq_some_iff] at hd
            obtain ⟨y, hy, rfl⟩ := hd
            exact hlt j y hj hy
          · rw [List.getElem?_map, Option.map_eq_some_iff] at hd
            obtain ⟨y, hy, rfl⟩ := hd
            exact hq y hy
        refine ⟨iw, r26 _ g52.chg.ext, _, (c52.sl itemC_len).lenB u_s_Item _, bsplit.dec (fun hl => ?_) (fun hge => ?_)⟩
        · obtain ⟨y, hy⟩ := get_lt (l := I) (i := k) (by omega)
          obtain ⟨ly, oy, g8, g9⟩ := (c52.sl itemC_len).ix (by decide) itemC_len u_s_Item z_Item hy
          refine ⟨iw, r26 _ g52.chg.ext, ly, oy, g8 _, _, rdc_pre ((g9 _ (Ext.refl _)).2) (by decide), _, (o26.ext g52.chg.ext).at.rdc (by simp [itemC]), ?_⟩
          refine ACalls.use (ref04iLess_ok y.dot i.dot _) ?_
          rintro r s65 ⟨rfl, e65⟩ w65
          refine ⟨_, rfl, bsplit.mk (fun hb => ?_) (fun hb => ?_)⟩
          · have ht : I.take (k + 1) = I.take k ++ [y] := by rw [List.take_add_one, hy]; rfl
            refine ⟨iw, r26 _ (g52.chg.ext.trans e65), ly, oy, g8 _, _, (g9 _ e65).2, GroN.append1 sl_s_Item itemC_len itemC_one w65 (g52.step e65) (by simp) y (by omega) fun v' s' g' hw' _ => ?_⟩
            refine ⟨I.length - (k + 1), by omega, k + 1, v', by rw [wrap_i (by omega)]; rfl, by omega, rfl, hw', by rw [ht]; exact g', fun j z hj hz => ?_⟩
            rcases Nat.lt_or_ge j k with h | h
            · exact hlt j z h hz
            · obtain rfl : j = k := by omega
              rw [hy] at hz; obtain rfl := Option.some.inj hz; exact hb
          · have hp := fin fun z hz => by rw [hy] at hz; obtain rfl := Option.some.inj hz; exact hb
            exact ⟨left, by rw [hp], w65, by rw [hp]; exact g52.step e65⟩
        · have hp := fin fun z hz => by rw [List.getElem?_eq_none (by omega)] at hz; cases hz
          exact ⟨left, by rw [hp], w52, by rw [hp]; exact g52⟩
end
end Go.Proofs.YtoklmpkpeanloaaGreat
end

section
set_option linter.unusedVariables false
set_option maxRecDepth 100000
set_option maxHeartbeats 4000000
namespace Go.Proofs.YtoklmpkpeanloaaGreat
open Go.Am

/-- what (*minster/minsterref07.Set).Collect asks -/
def Q_ref07iSet_Collect (a0 : Option (Nat × Nat)) (a1 : List AV) (s : AS) (R : AV → AS → Prop) : Prop :=
 One1 a1 (NewQ (.cells a1 0 false) s fun l1 s2 => RdL (rdc s2 l1 0 2) fun g3 => ACalls Tryz.prog F_ref07iSet_at [(.ptr a0), (.agg g3)] s2 fun v4 s5 => ∃ n6 : Int, v4 = .int .i64 n6 ∧ (bsplit (decide ((n6 : Int) < 0)) (R (.bool false) s5) (AsSome a0 fun l7 o8 => RdA (rd1 s5 l7 (o8 + 17)) fun v9 => IxQ (aindexAddr T Y_s_Item v9 (.int .i64 n6)) fun l10 o11 => RdB (rd1 s5 l10 (o11 + 4)) fun b12 => bsplit (!b12)
 (R (.bool false) s5)
 (DrawQ fun S V => AsSome a0 fun l13 o14 => RdA (rd1 s5 l13 (o14 + 17)) fun v15 => RdA (aslice T Y_s_Item v15 none (some (.int .i64 n6)) none) fun v16 => (∀ s17 : AS, Ext s5 s17 → WFs s17 → (True) → Bd2 (aappend T Y_s_Item Y_s_Item (.slc none 0 0 true) v16 s17) fun v18 s19 => (Ext s17 s19 ∧ S 7 [(.slc none 0 0 true), v16] v18 s19 ∧ V 7 [(.slc none 0 0 true), v16] v18)) ∧ (∃ v, V 7 [(.slc none 0 0 true), v16] v) ∧ ∀ v20 : AV, V 7 [(.slc none 0 0 true), v16] v20 → AsSome a0 fun l21 o22 => RdA (rd1 s5 l21 (o22 + 17)) fun v23 => RdA (aslice T Y_s_Item v23 (some (.int .i64 (IntKind.wrap .i64 (n6 + 1)))) none none) fun v24 => ∀ s25 : AS, Ext s5 s25 → WFs s25 → (S 7 [(.slc none 0 0 true), v16] v20 s25 ∧ True) → Bd2 (aappend T Y_s_Item Y_s_Item v20 v24 s25) fun v27 s28 => AsSome a0 fun l29 o30 => qstore T Y_s_Item s28 l29 (o30 + 17) v27 fun s31 => R (.bool true) s31))))

def A_ref07iSet_Collect : QA := (.seq .leaf (.seq .leaf (.seq (.seq .leaf (.cond (.seq .leaf .leaf) .leaf)) (.seq (.drawT [0, 1, 2, 3, 4, 5, 6, 7, 8, 9, 10, 11, 12, 13, 14] [15, 16, 17, 18] [[], [], [], [], [], [], [], [], [], [], [], [], [], [], [], [], [], [], []] [7]) (.seq .leaf .leaf)))))

theorem q_ref07iSet_Collect (a0 : Option (Nat × Nat)) (a1 : List AV) (s : AS) (R : AV → AS → Prop) (h : Q_ref07iSet_Collect a0 a1 s R) : ACalls Tryz.prog F_ref07iSet_Collect [(.ptr a0), (.agg a1)] s R :=
  ACalls.q (n := 40) (rs := [.tmp 4]) (A := A_ref07iSet_Collect) hT hmx Tryz.func79 (by kernel_rfl) rfl rfl rfl (by kernel_rfl) (by kernel_rfl) h

end Go.Proofs.YtoklmpkpeanloaaGreat
end

section
set_option linter.unusedSimpArgs false
set_option linter.unusedVariables false
namespace Go.Proofs.YtoklmpkpeanloaaGreat
open Go.Am Go.Minster Go.Minster2

theorem SameItems_ok {s : AS} {v v' : AV} {l l' : List Itm} (h : Sl itemC 5 s v l) (h' : Sl itemC 5 s v' l') (hn : l.length ≤ 2 ^ 40) : ACalls Tryz.prog F_ref07iSameItems [v, v'] s fun r s' => r = .bool (decide (l = l')) ∧ s' = s := by
  refine q_ref07iSameItems _ _ _ _ ⟨_, h.lenB u_s_Item _, _, h'.lenB u_s_Item _, bsplit.mk (fun hq => ?_) (fun hq => ?_)⟩
  · refine ⟨?_, rfl⟩
    have hq' : ¬ (l.length : Int) = (l'.length : Int) := by simpa using hq
    have : l.length ≠ l'.length := by omega
    have : l ≠ l' := fun e => this (by rw [e])
    simp [this]
  · have hlen : l.length = l'.length := by
      have : (l.length : Int) = (l'.length : Int) := by simpa using hq
      omega
    refine ⟨fun m vs s' => ∃ i : Nat, vs = [.int .i64 (i : Nat)] ∧ i ≤ l.length ∧ m = l.length - i ∧ s' = s ∧ l.take i = l'.take i, l.length, ⟨0, rfl, by omega, rfl, rfl, by simp⟩, ?_⟩
    rintro m n s20 ⟨i, hi, h6, rfl, rfl, h7⟩
    simp only [List.cons.injEq, AV.int.injEq, true_and, and_true] at hi
    subst hi
    refine ⟨_, h.lenB u_s_Item _, bsplit.dec (fun hlt => ?_) (fun hge => ?_)⟩
    · obtain ⟨x, hx⟩ := get_lt (l := l) (i := i) (by omega)
      obtain ⟨y, hy⟩ := get_lt (l := l') (i := i) (by omega)
      obtain ⟨la, o, h8, h9⟩ := h.ix (by decide) itemC_len u_s_Item z_Item hx
      obtain ⟨la', o', h8', h9'⟩ := h'.ix (by decide) itemC_len u_s_Item z_Item hy
      refine ⟨la, o, h8 _, _, (h9 _ (Ext.refl _)).2, la', o', h8' _, _, (h9' _ (Ext.refl _)).2, _, item_eq x y, bsplit.mk (fun hq => ?_) (fun hq => ?_)⟩
      · refine ⟨?_, rfl⟩
        have hne : x ≠ y := by simpa using hq
        have : l ≠ l' := fun e => hne (by subst e; rw [hx] at hy; exact Option.some.inj hy)
        simp [this]
      · have he : x = y := by simpa using hq
        subst he
        refine ⟨l.length - (i + 1), by omega, i + 1, by rw [wrap_i (by omega)]; rfl, by omega, rfl, rfl, ?_⟩
        rw [List.take_add_one, List.take_add_one, h7, hx, hy]
    · refine ⟨?_, rfl⟩
      rw [List.take_of_length_le (by omega), List.take_of_length_le (by omega)] at h7
      simp [h7]

/-- the live dots of a key, in order -/
def KD (x : OSet) (k : Key) (l : List Dot) : Prop := Rising l ∧ ∀ d, d ∈ l ↔ x.live d = some k
theorem KD.uniq {x : OSet} {k : Key} {l l' : List Dot} (h : KD x k l) (h' : KD x k l') : l = l' := rising_uniq h.1 h'.1 fun d => by rw [h.2, h'.2]
theorem KeyDots.kd {x : OSet} {k : Key} {l : List Dot} (h : KeyDots x k l) : KD x k l := ⟨h.ris, h.mem⟩
theorem KD.has {x : OSet} {B : Nat} (o : OOk x B) {k : Key} {l : List Dot} (h : KD x k l) {d : Dot} (hd : d ∈ l) : x.has d = true := (o.lv d k ((h.2 d).1 hd)).1
theorem KD.len {x : OSet} {B : Nat} (o : OOk x B) {k : Key} {l : List Dot} (h : KD x k l) : l.length ≤ B := by
  obtain ⟨U, hU, hm⟩ := o.sz
  have := nodup_len (rising_nodup h.1) fun d hd => hm d (h.has o hd)
  omega
def liveOf (k : Key) (i : Itm) : Bool := !i.gone && decide (i.key = k)
theorem kd_filter {x : OSet} {I : List Itm} (h : Items x I) (k : Key) : KD x k ((I.filter (liveOf k)).map Itm.dot) := by
  refine ⟨h.ris.sub (List.Sublist.map _ List.filter_sublist), fun d => ?_⟩
  simp only [List.mem_map, List.mem_filter, liveOf, Bool.and_eq_true, Bool.not_eq_true', decide_eq_true_eq]
  constructor
  · rintro ⟨i, ⟨hi, hg, hk⟩, rfl⟩
    have := (h.mem i).1 hi
    unfold OSet.item at this
    rw [hg] at this
    rw [this, hk]
  · intro hd
    exact ⟨⟨d, k, false⟩, ⟨(h.mem _).2 hd, rfl, rfl⟩, rfl⟩

section
variable {F : List Nat} {s : AS} {q : Nat} {x : OSet} {B : Nat}
theorem RefO.open (h : RefO F s q x) : ∃ w iw I, At s q (x.v.map (.int .u64) ++ [w, iw]) ∧ iw ≠ .emp ∧ Gro itemC 5 s iw I ∧ Items x I ∧ (∀ s', Ext s s' → rd1 s' q (0 + 17) = some iw) ∧ RefT s q [iw] x.v x.ex := by
  obtain ⟨ok, gap, w, iw, I, a, ⟨b1, b2, b3⟩, ⟨c1, c2, c3⟩, hI, hqF, f, g⟩ := h
  exact ⟨w, iw, I, a.at, c2, c3, hI, fun s' e => by rw [(a.ext e).at.rd1]; exact ref_17T ok.v.len w iw, ok.v.len, fun y hy n => by obtain rfl := List.mem_singleton.1 hy; exact slc_not_int c3 n, w, a, b1, b2, b3.sl dotC_len⟩
theorem ref_Gone_ok (h : RefO F s q x) (o : OOk x B) (hB : B ≤ 1000) (k : Key) : ACalls Tryz.prog F_ref07iSet_Gone [.ptr (some (q, 0)), .agg (keyC k)] s fun v s' => ∃ l, KD x k l ∧ GroN itemC 5 [] s s' v (l.map goneI) := by
  obtain ⟨w, iw, I, a, c2, c3, hI, hr, _⟩ := h.open
  have hlen := hI.len o
  refine ACalls.pre fun hw => q_ref07iSet_Gone _ _ _ _ ⟨rfl, NewQ.intro hw rfl fun l1 s2 F2 => ⟨fun m vs s' => ∃ (i : Nat) (v : AV), vs = [v, .int .i64 (i : Nat)] ∧ i ≤ I.length ∧ m = I.length - i ∧ WFs s' ∧ GroN itemC 5 [] s2 s' v ((((I.take i).filter (liveOf k)).map Itm.dot).map goneI), I.length, ⟨0, _, rfl, by omega, rfl, F2.wf, by simpa using GroN.nil⟩, ?_⟩⟩
  rintro m v6 n s8 ⟨i, v', hi, h6, rfl, w8, g8⟩
  simp only [List.cons.injEq, AV.int.injEq, true_and, and_true] at hi
  obtain ⟨rfl, rfl⟩ := hi
  have E8 := F2.ext.trans g8.chg.ext
  have c8 := (c3.ext E8).sl itemC_len
  refine ⟨iw, hr _ E8, _, c8.lenB u_s_Item _, bsplit.dec (fun hlt => ?_) (fun hge => ?_)⟩
  · obtain ⟨y, hy⟩ := get_lt (l := I) (i := i) (by omega)
    obtain ⟨ly, oy, k8, k9⟩ := c8.ix (by decide) itemC_len u_s_Item z_Item hy
    have hfl := List.length_filter_le (liveOf k) (I.take i)
    have htl := List.length_take_le i I
    have ht : ((((I.take (i + 1)).filter (liveOf k)).map Itm.dot).map goneI) = ((((I.take i).filter (liveOf k)).map Itm.dot).map goneI) ++ if liveOf k y = true then [goneI y.dot] else [] := by
      rw [List.take_add_one, hy, List.filter_append, Option.toList_some, List.map_append, List.map_append]
      congr 1
      cases hq : liveOf k y <;> simp [List.filter_cons, hq]
    refine ⟨fun vs s' => s' = s8 ∧ vs = [.bool (liveOf k y)], ?_, iw, hr _ E8, ly, oy, k8 _, y.gone, (k9 _ (Ext.refl _)).1 4 (by decide), bsplit.mk (fun hg => ⟨iw, hr _ E8, ly, oy, k8 _, keyC y.key, rdc_mid ((k9 _ (Ext.refl _)).2) 2 2 (by decide), _, (F2.own.ext g8.chg.ext).at.rdc (by simp [keyC]), _, key_eq y.key k, rfl, by simp only [Bool.not_eq_true'] at hg; simp [liveOf, hg]⟩) (fun hg => ⟨rfl, by simp only [Bool.not_eq_false'] at hg; simp [liveOf, hg]⟩)⟩
    rintro b s15 ⟨rfl, hb⟩
    simp only [List.cons.injEq, AV.bool.injEq, and_true] at hb
    subst hb
    refine bsplit.mk (fun hb => ?_) (fun hb => ?_)
    · refine ⟨iw, hr _ E8, ly, oy, k8 _, _, rdc_pre ((k9 _ (Ext.refl _)).2) (by decide), _, build_gone y.dot, GroN.append1 sl_s_Item itemC_len itemC_one w8 g8 (by simp) (goneI y.dot) (by simp; omega) fun v' s' g' w' _ => ?_⟩
      exact ⟨I.length - (i + 1), by omega, i + 1, v', by rw [wrap_i (by omega)]; rfl, by omega, rfl, w', by rw [ht, if_pos hb]; exact g'⟩
    · exact ⟨I.length - (i + 1), by omega, i + 1, v6, by rw [wrap_i (by omega)]; rfl, by omega, rfl, w8, by rw [ht, if_neg (by rw [hb]; simp), List.append_nil]; exact g8⟩
  · rw [List.take_of_length_le (by omega)] at g8
    exact ⟨_, kd_filter hI k, g8.gro, F2.ext.mut.trans g8.chg, fun la hla => F2.ext.none (g8.new la hla)⟩

/-- items that are read stay where the reference's set is written -/
theorem RefO.keepI {s' : AS} {v : AV} {l : List Itm} (h : RefO F s q x) (hs : Sl itemC 5 s v l) (m : Mut [q] s s') : Sl itemC 5 s' v l := by
  obtain ⟨ok, gap, w, iw, I, a, ⟨b1, b2, b3⟩, ⟨c1, c2, c3⟩, _⟩ := h
  refine items_keep a (fun c hc n => ?_) hs m
  rcases List.mem_append.1 hc with hc | hc
  · obtain ⟨y, _, rfl⟩ := List.mem_map.1 hc; simp
  · simp only [List.mem_cons, List.not_mem_nil, or_false] at hc
    rcases hc with rfl | rfl
    · exact slc_not_int b3 n
    · exact slc_not_int c3 n
/-- a row of items is seen, one by one -/
theorem refLoop (hw : WFs s) (h : RefO F s q x) (o : OOk x B) (hth : ∀ y ∈ F, s.h y ≠ none) {v : AV} {L : List Itm} (hv : Sl itemC 5 s v L) (hB : B + L.length ≤ 1000) (hL : ∀ i ∈ L, i.may = true) {K : AS → Prop}
    (hK : ∀ s' F', RefO F' s' q (x.sees L).2 → (∀ y ∈ F', y ∈ F ∨ s.h y = none) → (∀ y ∈ F', s'.h y ≠ none) → Mut [q] s s' → Sl itemC 5 s' v L → WFs s' → K s') :
    LoopQ fun I22 m23 => I22 m23 [(.int .i64 0)] s ∧
     ∀ m24 : Nat, ∀ n25 : Int, ∀ s26 : AS, I22 m24 [(.int .i64 n25)] s26 →
     RdI .i64 (alenB T Y_s_Item v s26) fun n27 => bsplit (decide ((n25 : Int) < n27))
     (IxQ (aindexAddr T Y_s_Item v (.int .i64 n25)) fun l28 o29 => RdL (rdc s26 l28 o29 5) fun g30 => ACalls Tryz.prog F_ref07iSet_See [(.ptr (some (q, 0))), (.agg g30)] s26 fun v31 s32 => ∃ b33 : Bool, v31 = .bool b33 ∧ (∃ m', m' < m24 ∧ I22 m' [(.int .i64 (IntKind.wrap .i64 (n25 + 1)))] s32))
     (K s26) := by
  have hstep : ∀ (i : Nat) y, L[i]? = some y → (x.sees (L.take (i + 1))).2 = ((x.sees (L.take i)).2.see y).2 := by
    intro i y hy
    unfold OSet.sees
    rw [List.take_add_one, hy, Option.toList_some, List.foldl_append]
    rfl
  refine ⟨fun m vs s' => ∃ i : Nat, vs = [.int .i64 (i : Nat)] ∧ i ≤ L.length ∧ m = L.length - i ∧ WFs s' ∧ Mut [q] s s' ∧ Sl itemC 5 s' v L ∧ ∃ F', RefO F' s' q (x.sees (L.take i)).2 ∧ (∀ y ∈ F', y ∈ F ∨ s.h y = none) ∧ ∀ y ∈ F', s'.h y ≠ none, L.length, ⟨0, rfl, by omega, rfl, hw, Mut.refl _ _, hv, F, h, fun y hy => .inl hy, hth⟩, ?_⟩
  rintro m n s26 ⟨i, hi, h6, rfl, w26, m26, hv26, F', hR, hn, ht⟩
  simp only [List.cons.injEq, AV.int.injEq, true_and, and_true] at hi
  subst hi
  refine ⟨_, hv26.lenB u_s_Item _, bsplit.dec (fun hlt => ?_) (fun hge => ?_)⟩
  · obtain ⟨y, hy⟩ := get_lt (l := L) (i := i) (by omega)
    obtain ⟨ly, oy, k8, k9⟩ := hv26.ix (by decide) itemC_len u_s_Item z_Item hy
    have ok : OOk (x.sees (L.take i)).2 (B + (L.take i).length) := o.sees _ fun j hj => hL j (List.mem_of_mem_take hj)
    have htl := List.length_take_le i L
    have hti : (L.take i).length ≤ L.length := by rw [List.length_take]; omega
    refine ⟨ly, oy, k8 _, _, (k9 _ (Ext.refl _)).2, ?_⟩
    refine ACalls.use (ref_See_ok hR ok (by omega) ht y (hL y (List.mem_of_getElem? hy))) ?_
    rintro r s32 ⟨rfl, m32, F2, hR2, hn2, ht2⟩ w32
    refine ⟨_, rfl, L.length - (i + 1), by omega, i + 1, by rw [wrap_i (by omega)]; rfl, by omega, rfl, w32, m26.trans m32, hR.keepI hv26 m32, F2, by rw [hstep i y hy]; exact hR2, fun z hz => ?_, ht2⟩
    have hqs : s.h q ≠ none := hth q h.qF
    rcases hn2 z hz with h1 | h1
    · exact hn z h1
    · right
      cases hq : s.h z with
      | none => rfl
      | some ob =>
        by_cases e : z = q
        · subst e
          exact absurd h1 (ht _ hR.qF)
        · rw [m26.1 z ob (by simpa using e) hq] at h1; cases h1
  · rw [List.take_of_length_le (by omega)] at hR
    exact hK s26 F' hR hn ht m26 hv26 w26

/-- Add, by the reference -/
theorem ref_Add_ok (h : RefO F s q x) (o : OOk x B) (hth : ∀ y ∈ F, s.h y ≠ none) (hB : B ≤ 450) (k : Key) (d : Dot) (hk : k.may = true) (hd : d.may = true) :
    ACalls Tryz.prog F_ref07iSet_Add [.ptr (some (q, 0)), .agg (keyC k), .agg (dotC d)] s fun v s' => ∃ l, KD x k l ∧ Sl itemC 5 s' v (⟨d, k, false⟩ :: l.map goneI) ∧ Mut [q] s s' ∧ ∃ F', RefO F' s' q (x.sees (⟨d, k, false⟩ :: l.map goneI)).2 ∧ (∀ y ∈ F', y ∈ F ∨ s.h y = none) ∧ ∀ y ∈ F', s'.h y ≠ none := by
  refine ACalls.pre fun hw => q_ref07iSet_Add _ _ _ _ _ ⟨rfl, NewQ.intro hw rfl fun l1 s2 F2 => ⟨rfl, NewQ.intro F2.wf rfl fun l3 s4 F4 => ?_⟩⟩
  have E4 := F2.ext.trans F4.ext
  have h4 := h.ext E4
  obtain ⟨w0, iw0, I0, _, _, _, hI0, _⟩ := h.open
  have hkd0 := kd_filter hI0 k
  generalize hl0 : (I0.filter (liveOf k)).map Itm.dot = l at hkd0
  refine ⟨fun z _ v s' => (z = 3 → ∃ l, v = .slc (some (l, 0)) 1 1 true ∧ At s' l (itemC ⟨d, k, false⟩)) ∧ (z = 6 → Sl itemC 5 s' v (l.map goneI)), fun z _ v => z = 3 → ∃ l, v = .slc (some (l, 0)) 1 1 true, ?_, _, F4.own.at.rdc (by simp [dotC]), _, (F2.own.ext F4.ext).at.rdc (by simp [keyC]), _, build_item d k, fun s8 e8 w8 _ => ?_, ⟨.slc (some (0, 0)) 1 1 true, fun _ => ⟨0, rfl⟩⟩, fun v12 hv12 => ⟨_, (F2.own.ext F4.ext).at.rdc (by simp [keyC]), fun s14 e14 w14 _ => ?_, ⟨.undef, (fun h => by cases h)⟩, fun v17 _ s18 e18 w18 hS => ?_⟩⟩
  · rintro z ks v s s' e ⟨h1, h2⟩
    refine ⟨fun hq => ?_, fun hq => (h2 hq).ext e⟩
    obtain ⟨l, a, b⟩ := h1 hq
    exact ⟨l, a, b.ext e⟩
  · exact ⟨_, absl_agg sl_s_Item (itemC_len _) (itemC_one _), NewQ.intro w8 rfl fun l10 s11 F11 => ⟨F11.ext, ⟨(fun _ => ⟨l10, rfl, F11.own.at⟩), (fun h => by cases h)⟩, fun _ => ⟨l10, rfl⟩⟩⟩
  · refine (ref_Gone_ok (h4.ext e14) o (by omega) k).mono ?_
    rintro v15 s16 ⟨l', kd', g⟩
    obtain rfl := kd'.uniq hkd0
    exact ⟨g.chg.ext, ⟨(fun h => by cases h), fun _ => g.sl itemC_len⟩, (fun h => by cases h)⟩
  obtain ⟨l18, rfl, hi⟩ := hS.1.1 rfl
  have hg := hS.2.1.2 rfl
  have hln := hkd0.len o
  refine lit_append w18 hi hg (by simp; omega) fun v20 s21 hs21 w21 e21 => ?_
  have E21 := E4.trans (e18.trans e21)
  have hmay : ∀ i ∈ (⟨d, k, false⟩ : Itm) :: l.map goneI, i.may = true := by
    intro i hi
    rcases List.mem_cons.1 hi with rfl | hi
    · simp [Itm.may, hk, hd]
    · obtain ⟨y, hy, rfl⟩ := List.mem_map.1 hi
      exact goneI_may (OSet.has_may (hkd0.has o hy))
  refine refLoop w21 (h.ext E21) o (fun y hy hn => hth y hy (E21.none hn)) hs21 (by simp; omega) hmay fun s' F' hR hn ht m hs w => ?_
  exact ⟨l, hkd0, hs, E21.mut.trans m, F', hR, fun y hy => (hn y hy).imp id fun h => E21.none h, ht⟩
theorem ref_Remove_ok (h : RefO F s q x) (o : OOk x B) (hth : ∀ y ∈ F, s.h y ≠ none) (hB : B ≤ 450) (k : Key) :
    ACalls Tryz.prog F_ref07iSet_Remove [.ptr (some (q, 0)), .agg (keyC k)] s fun v s' => ∃ l, KD x k l ∧ Sl itemC 5 s' v (l.map goneI) ∧ Mut [q] s s' ∧ ∃ F', RefO F' s' q (x.sees (l.map goneI)).2 ∧ (∀ y ∈ F', y ∈ F ∨ s.h y = none) ∧ ∀ y ∈ F', s'.h y ≠ none := by
  refine ACalls.pre fun hw => q_ref07iSet_Remove _ _ _ _ ⟨rfl, NewQ.intro hw rfl fun l1 s2 F2 => ⟨_, F2.own.at.rdc (by simp [keyC]), ?_⟩⟩
  refine ACalls.use (ref_Gone_ok (h.ext F2.ext) o (by omega) k) ?_
  rintro v4 s5 ⟨l, kd, g⟩ w5
  have E5 := F2.ext.trans g.chg.ext
  have hln := kd.len o
  refine refLoop w5 (h.ext E5) o (fun y hy hn => hth y hy (E5.none hn)) (g.sl itemC_len) (by simp; omega) (goneL_may fun y hy => OSet.has_may (kd.has o hy)) fun s' F' hR hn ht m hs w => ?_
  exact ⟨l, kd, hs, E5.mut.trans m, F', hR, fun y hy => (hn y hy).imp id fun h => E5.none h, ht⟩

/-- a tombstone let go -/
theorem Items.coll {x : OSet} {I : List Itm} (h : Items x I) {k : Nat} {j : Itm} (hk : I[k]? = some j) (hg : j.gone = true) : Items (x.coll j.dot) (I.take k ++ I.drop (k + 1)) := by
  have hkl : k < I.length := by
    rcases Nat.lt_or_ge k I.length with h | h
    · exact h
    · rw [List.getElem?_eq_none h] at hk; cases hk
  have hsp : I = I.take k ++ j :: I.drop (k + 1) := by
    conv => lhs; rw [← List.take_append_drop k I, List.drop_eq_getElem_cons hkl]
    rw [List.getElem?_eq_getElem hkl] at hk
    rw [Option.some.inj hk]
  have hsub : (I.take k ++ I.drop (k + 1)).Sublist I := by
    conv => rhs; rw [hsp]
    exact List.Sublist.append_left (List.sublist_cons_self _ _) _
  have hjI : j ∈ I := List.mem_of_getElem? hk
  have hmem : ∀ y, y ∈ I.take k ++ I.drop (k + 1) ↔ y ∈ I ∧ y.dot ≠ j.dot := by
    intro y
    have hpw := IRis.pw h.ris
    rw [hsp] at hpw
    obtain ⟨p1, p2, p3⟩ := List.pairwise_append.1 hpw
    obtain ⟨p4, p5⟩ := List.pairwise_cons.1 p2
    constructor
    · intro hy
      refine ⟨hsub.subset hy, fun e => ?_⟩
      rcases List.mem_append.1 hy with hy | hy
      · have := p3 y hy j (by simp); rw [e] at this; exact Dot.lt_irrefl _ this
      · have := p4 y hy; rw [e] at this; exact Dot.lt_irrefl _ this
    · rintro ⟨hy, hne⟩
      rw [hsp] at hy
      rcases List.mem_append.1 hy with hy | hy
      · exact List.mem_append_left _ hy
      · rcases List.mem_cons.1 hy with rfl | hy
        · exact absurd rfl hne
        · exact List.mem_append_right _ hy
  refine ⟨h.ris.sub (hsub.map _), fun y => ?_⟩
  rw [hmem, h.mem]
  have hjt := (h.mem j).1 hjI
  unfold OSet.item at hjt ⊢
  rw [hg] at hjt
  cases hgy : y.gone with
  | true =>
    simp only [OSet.coll, Bool.and_eq_true, Bool.not_eq_true', decide_eq_false_iff_not]
    constructor
    · rintro ⟨⟨a, b⟩, c⟩; exact ⟨⟨a, c⟩, b⟩
    · rintro ⟨⟨a, c⟩, b⟩; exact ⟨⟨a, b⟩, c⟩
  | false =>
    simp only [OSet.coll]
    constructor
    · exact fun h => h.1
    · intro hl
      refine ⟨hl, fun e => ?_⟩
      -- a live one and a tombstone at one dot
      have : (⟨y.dot, y.key, false⟩ : Itm) ∈ I := (h.mem _).2 hl
      have := h.one this hjI e
      rw [← this] at hg; cases hg
theorem ref_Collect_ok (h : RefO F s q x) (o : OOk x B) (hth : ∀ y ∈ F, s.h y ≠ none) (hB : B ≤ 1000) (d : Dot) :
    ACalls Tryz.prog F_ref07iSet_Collect [.ptr (some (q, 0)), .agg (dotC d)] s fun r s' => (x.tomb d = false ∧ r = .bool false ∧ Ext s s') ∨ (x.tomb d = true ∧ r = .bool true ∧ Mut [q] s s' ∧ ∃ F', RefO F' s' q (x.coll d) ∧ (∀ y ∈ F', y ∈ F ∨ s.h y = none) ∧ ∀ y ∈ F', s'.h y ≠ none) := by
  refine ACalls.pre fun hw => q_ref07iSet_Collect _ _ _ _ ⟨rfl, NewQ.intro hw rfl fun l1 s2 F2 => ⟨_, F2.own.at.rdc (by simp [dotC]), ?_⟩⟩
  obtain ⟨ok, gap, w, iw, I, a, ⟨b1, b2, b3⟩, ⟨c1, c2, c3⟩, hI, hqF, f, g⟩ := h.ext F2.ext
  have hlen := hI.len o
  have hvl := ok.v.len
  refine ACalls.use (at_ok a.at hvl (c3.sl itemC_len) (by omega) d) ?_
  rintro r s5 ⟨e5, n, rfl, hcase⟩ w5
  have E5 := F2.ext.trans e5
  have a5 := a.ext e5
  have c5 := c3.ext e5
  have b5 := b3.ext e5
  have r17 : ∀ s', Ext s5 s' → rd1 s' q (0 + 17) = some iw := fun s' e => by rw [(a5.ext e).at.rd1]; exact ref_17T hvl w iw
  refine ⟨_, rfl, bsplit.dec (fun hn => .inl ⟨?_, rfl, E5⟩) (fun hn => ?_)⟩
  · rcases hcase with ⟨rfl, hno⟩ | ⟨k, rfl, _⟩
    · cases hq : x.tomb d with
      | false => rfl
      | true => exact absurd rfl (hno ⟨d, ⟨[], []⟩, true⟩ ((hI.mem _).2 ⟨hq, rfl⟩))
    · omega
  rcases hcase with ⟨rfl, _⟩ | ⟨k, rfl, j, hj, hjd⟩
  · omega
  have hjI := List.mem_of_getElem? hj
  have hkl : k < I.length := by
    rcases Nat.lt_or_ge k I.length with h | h
    · exact h
    · rw [List.getElem?_eq_none h] at hj; cases hj
  obtain ⟨lj, oj, g8, g9⟩ := (c5.sl itemC_len).ix (by decide) itemC_len u_s_Item z_Item hj
  have hjit := (hI.mem j).1 hjI
  unfold OSet.item at hjit
  refine ⟨iw, r17 _ (Ext.refl _), lj, oj, g8 _, j.gone, (g9 _ (Ext.refl _)).1 4 (by decide), bsplit.mk (fun hg => .inl ⟨?_, rfl, E5⟩) (fun hg => ?_)⟩
  · have hg' : j.gone = false := by simpa using hg
    rw [hg', hjd] at hjit
    cases hq : x.tomb d with
    | false => rfl
    | true => rw [(o.tb _ hq).2] at hjit; cases hjit
  have hg' : j.gone = true := by simpa using hg
  rw [hg', hjd] at hjit
  obtain ⟨v16, k1, k2⟩ := (c5.sl itemC_len).upto itemC_len u_s_Item z_Item c2 (show k ≤ I.length by omega) .i64
  obtain ⟨v24, k3, k4⟩ := (c5.sl itemC_len).from itemC_len u_s_Item z_Item c2 (show k + 1 ≤ I.length by omega) .i64
  have htk : (I.take k).length = k := by rw [List.length_take]; omega
  refine ⟨fun z _ v s' => GroN itemC 5 [] s5 s' v (I.take k), fun _ _ _ => True, fun _ _ _ _ _ e h => h.step e, iw, r17 _ (Ext.refl _), v16, k1, fun s17 e17 w17 _ => ?_, ⟨.undef, trivial⟩, fun v20 _ => ⟨iw, r17 _ (Ext.refl _), v24, ?_, fun s25 e25 w25 hS => ?_⟩⟩
  · refine GroN.appendS sl_s_Item itemC_len itemC_one w17 (GroN.start (M := []) e17.mut) (by simp) (k2.ext e17) (by simp [htk]; omega) u_s_Item fun v' s' g' w' m' => ?_
    rw [List.nil_append] at g'
    exact ⟨Mut.ext (by simpa [labOf] using m'), g', trivial⟩
  · rw [wrap_i (by omega)]; exact k3
  have g25 := hS.1
  refine GroN.appendS sl_s_Item itemC_len itemC_one w25 g25 (by simp) (k4.ext e25) (by simp [htk]; omega) u_s_Item fun v27 s28 g28 w28 _ => ?_
  have a28 := a5.ext g28.chg.ext
  refine qstore_one g28.isSlc.2 z_s_Item (StQ.own w28 a28 (by simp [hvl]) fun s31 P => .inr ⟨hjit.1, rfl, E5.mut.trans (g28.chg.ext.mut.trans P.mut), labOf v27 ++ F, ?_, fun y hy => ?_, fun y hy => ?_⟩)
  · have a31 : Am.Own s31 q (x.v.map (.int .u64) ++ [w, v27]) := by
      have := P.at
      rw [wrs_one, List.set_append_right _ _ (by simp [hvl])] at this
      simp only [List.length_map, hvl, Nat.zero_add, Nat.reduceSub, List.set_cons_succ, List.set_cons_zero] at this
      exact this
    have hit := hI.coll hj hg'
    rw [hjd] at hit
    exact ⟨ok, gap, w, v27, _, a31, ⟨b1, b2, (b5.ext g28.chg.ext).mut P.mut ((b5.ext g28.chg.ext).ne (by decide) a28)⟩, ⟨g28.isSlc.2, g28.isSlc.1, g28.gro.mut P.mut (g28.gro.ne (by decide) a28)⟩, hit, by simp [hqF], fun y hy => by simp [f y hy], fun y hy => by simp [hy]⟩
  · rcases List.mem_append.1 hy with hy | hy
    · exact .inr (E5.none (g28.new y hy))
    · exact .inl hy
  · by_cases e : y = q
    · rw [e, P.at]; simp
    · rw [P.eq y e]
      rcases List.mem_append.1 hy with hy | hy
      · exact g28.gro.there y hy
      · exact fun hn => hth y hy (E5.none (g28.chg.ext.none hn))
end
end Go.Proofs.YtoklmpkpeanloaaGreat
end

section
set_option linter.unusedSimpArgs false
set_option linter.unusedVariables false
namespace Go.Proofs.YtoklmpkpeanloaaGreat
open Go.Am Go.Minster Go.Minster2

section
variable {F : List Nat} {s : AS} {p : Nat} {x : OSet} {B : Nat}
def liveE (e : Dot × Key × Nat) : Itm := ⟨e.1, e.2.1, false⟩
theorem srt_rising {l : List Itm} (hs : Go.Minster.SI.Srt l 0 l.length) (hn : (l.map Itm.dot).Nodup) : Rising (l.map Itm.dot) := by
  refine List.pairwise_iff_getElem.2 fun i j hi hj hij => ?_
  simp only [List.length_map] at hi hj
  have hle : (Go.Minster.SI.el l i).le (Go.Minster.SI.el l j) := hs i j (by omega) hij hj
  have ei : Go.Minster.SI.el l i = l[i] := by have := Go.Minster.SI.el_get hi; rw [List.getElem?_eq_getElem hi] at this; exact (Option.some.inj this).symm
  have ej : Go.Minster.SI.el l j = l[j] := by have := Go.Minster.SI.el_get hj; rw [List.getElem?_eq_getElem hj] at this; exact (Option.some.inj this).symm
  rw [ei, ej] at hle
  simp only [List.getElem_map]
  rcases Dot.lt_tri l[i].dot l[j].dot with h | h | h
  · exact h
  · exfalso
    have := (List.pairwise_iff_getElem.1 hn) i j (by simpa using hi) (by simpa using hj) hij
    simp only [List.getElem_map] at this
    exact this h
  · exfalso
    have h2 : l[j].dot.lt l[i].dot = false := hle
    rw [h2] at h; cases h
theorem Items_okN (h : SetF F s p x) (o : OOk x B) (hB : B ≤ 1000) : ACalls Tryz.prog F_orset_Set_Items [.ptr (some (p, 0))] s fun v s' => ∃ I, Items x I ∧ SI.ArrN s s' v I := by
  obtain ⟨hb1, hb2⟩ := h.bnd o
  refine q_orset_Set_Items _ _ _ ?_
  refine ACalls.use (there_ok h) ?_
  rintro v s2 ⟨rfl, rfl⟩ w2
  obtain ⟨_, _, _, pc, lm, tm, a, _, _, _, _, _, ⟨es, c, hm, hg, hl⟩, _⟩ := id h
  refine ⟨_, rfl, bsplit.no rfl ⟨fun vs s' => ∃ (v : AV) (done : List (Dot × Key × Nat)), vs = [v] ∧ WFs s' ∧ GroN itemC 5 [] s2 s' v (done.map liveE) ∧ (∀ e ∈ es, e ∈ done) ∧ (∀ e ∈ done, e ∈ es) ∧ done.Nodup, ?_, _, by rw [a.at.rd1]; rfl, MpAt.range u_m_Dot_Key w2 hm fun it s19 hit F19 => ⟨fun m vs s' => ∃ (v : AV) (done : List (Dot × Key × Nat)), vs = [v] ∧ m = es.length - done.length ∧ WFs s' ∧ MpAt dK kV s' lm es c false ∧ Iter s' it lm es c done ∧ GroN itemC 5 [it] s19 s' v (done.map liveE), es.length, ⟨_, [], rfl, by simp, F19.wf, hm.ext F19.ext, hit, GroN.nil⟩, ?_⟩⟩⟩
  · rintro v5 s6 ⟨v', done, hv, w6, g6, d1, d2, d3⟩
    obtain rfl : v5 = v' := by simpa using hv
    have e6 := g6.chg.ext
    refine ACalls.use (Tombs_ok (h.ext e6) (by omega)) ?_
    rintro v7 s8 ⟨t, hA, tris, tmem, tlen⟩ w8
    refine ACalls.use (gone_ok hA.dots (by omega)) ?_
    rintro v9 s10 g10 w10
    have e10 := hA.1.trans g10.chg.ext
    have hdl : done.length = es.length := by
      have hes2 : es.Nodup := hm.nd.imp fun {a b} h e => h (by rw [e])
      exact ((List.perm_ext_iff_of_nodup d3 hes2).2 fun a => ⟨d2 a, d1 a⟩).length_eq
    refine GroN.appendS sl_s_Item itemC_len itemC_one w10 (g6.step e10) (by simp) (g10.sl itemC_len) (by simp; omega) u_s_Item fun v11 s12 g12 w12 _ => ?_
    refine ACalls.use (SI.sortGro_ok g12 (by simp; omega)) ?_
    rintro r s14 ⟨rfl, l', hp, hs, hA2⟩ w14
    refine ⟨rfl, l', ?_, hA2⟩
    have hlive : ∀ i : Itm, i ∈ done.map liveE ↔ i.gone = false ∧ x.live i.dot = some i.key := by
      intro i
      rw [List.mem_map]
      constructor
      · rintro ⟨e, he, rfl⟩
        exact ⟨rfl, by rw [← hg]; exact mget_mem hm.nd (d2 e he)⟩
      · rintro ⟨h1, h2⟩
        rw [← hg] at h2
        obtain ⟨j, n, hj⟩ := mget_some h2
        refine ⟨_, d1 _ (List.mem_of_getElem? hj), ?_⟩
        cases i
        simp only at h1
        simp [liveE, h1]
    have hgone : ∀ i : Itm, i ∈ t.map goneI ↔ i.gone = true ∧ x.tomb i.dot = true ∧ i.key = ⟨[], []⟩ := by
      intro i
      rw [List.mem_map]
      constructor
      · rintro ⟨d, hd, rfl⟩
        exact ⟨rfl, (tmem d).1 hd, rfl⟩
      · rintro ⟨h1, h2, h3⟩
        refine ⟨i.dot, (tmem _).2 h2, ?_⟩
        cases i
        simp only at h1 h3
        simp [goneI, h1, h3]
    have hnd : ((done.map liveE ++ t.map goneI).map Itm.dot).Nodup := by
      rw [List.map_append, List.map_map, List.map_map]
      refine List.nodup_append.2 ⟨?_, ?_, ?_⟩
      · refine List.pairwise_map.2 (List.Pairwise.imp_of_mem ?_ d3)
        intro u w hu hw huw he
        have h1 := mget_mem hm.nd (d2 u hu)
        have h2 := mget_mem hm.nd (d2 w hw)
        have key : ∀ (l : List (Dot × Key × Nat)), l.Pairwise (fun a b => a.1 ≠ b.1) → u ∈ l → w ∈ l → u = w := by
          intro l
          induction l with
          | nil => intro _ h; cases h
          | cons z l ih =>
            intro hp h4 h5
            obtain ⟨p1, p2⟩ := List.pairwise_cons.1 hp
            rcases List.mem_cons.1 h4 with r4 | h4 <;> rcases List.mem_cons.1 h5 with r5 | h5
            · rw [r4, r5]
            · exact absurd (by rw [← r4]; exact he) (p1 w h5)
            · exact absurd (by rw [← r5]; exact he.symm) (p1 u h4)
            · exact ih p2 h4 h5
        exact huw (key es hm.nd (d2 u hu) (d2 w hw))
      · have : t.map (Itm.dot ∘ goneI) = t := by
          conv => rhs; rw [← List.map_id t]
          rfl
        rw [this]; exact rising_nodup tris
      · intro u hu w hw
        rw [List.mem_map] at hu hw
        obtain ⟨e, he, rfl⟩ := hu
        obtain ⟨d, hd, rfl⟩ := hw
        intro heq
        have h1 : x.live e.1 = some e.2.1 := by rw [← hg]; exact mget_mem hm.nd (d2 e he)
        have h2 := (o.tb d ((tmem d).1 hd)).2
        have : e.1 = d := heq
        rw [this, h2] at h1; cases h1
    refine ⟨srt_rising hs ((hp.map Itm.dot).nodup_iff.2 hnd), fun i => ?_⟩
    rw [hp.mem_iff, List.mem_append, hlive, hgone]
    unfold OSet.item
    cases i.gone <;> simp
  · rintro m v s24 ⟨v', done, hv, rfl, w24, hm24, hit24, g24⟩
    obtain rfl : v = v' := by simpa using hv
    have hitx : s24.h it ≠ none := by rw [hit24.at]; simp
    refine ⟨fun vs s' => (vs = [.bool false] ∧ s' = s24 ∧ ∀ e ∈ es, e ∈ done) ∨ (vs = [.bool true] ∧ ∃ e, e ∈ es ∧ e ∉ done ∧ WFs s' ∧ MpAt dK kV s' lm es c false ∧ Iter s' it lm es c (done ++ [e]) ∧ GroN itemC 5 [it] s19 s' v (done.map liveE)), ?_, ?_⟩
    rotate_left
    · refine Iter.next w24 hm24 hit24 (fun hall => .inl ⟨rfl, rfl, hall⟩) fun e s' he hne hit' w' m' => .inr ⟨rfl, e, he, hne, w', hm24.mut m' ?_, hit', g24.wr ?_ m'⟩
      · simp only [List.mem_singleton]
        rintro rfl
        have := hm24.obj
        rw [hit24.at] at this; cases this
      · intro y hy
        obtain rfl := List.mem_singleton.1 hy
        rw [hit.at]; simp
    rintro b s27 (⟨hb, rfl, hall⟩ | ⟨hb, e, he, hne, w27, hm27, hit27, g27⟩)
    · obtain rfl : b = false := by simpa using hb
      refine bsplit.no rfl ⟨v, done, rfl, w24, ⟨g24.gro, ?_, fun la hla => F19.ext.none (g24.new la hla)⟩, hall, hit24.sub, hit24.nd⟩
      exact (Ext.wr F19.ext F19.no g24.chg).mut
    · obtain rfl : b = true := by simpa using hb
      have hlt := hit24.lt he hne
      refine bsplit.yes rfl (Iter.entry hm27 hit27 ⟨dotC e.1, rfl, keyC e.2.1, rfl, NewQ.intro w27 rfl fun l32 s33 F33 => NewQ.intro F33.wf rfl fun l34 s35 F35 => ⟨⟨by simp [dotC], rfl⟩, ?_⟩⟩)
      have hne34 : l32 ≠ l34 := by
        rintro rfl
        have := F35.no
        rw [F33.at] at this; cases this
      refine StQ.own F35.wf (F33.own.ext F35.ext) (by simp [dotC]) fun s36 P36 => ⟨⟨by simp [keyC], rfl⟩, StQ.own P36.wf (F35.own.mut P36.mut (by simpa using hne34.symm)) (by simp [keyC]) fun s37 P37 => ?_⟩
      have e35 : Ext s27 s35 := F33.ext.trans F35.ext
      have e37 : Ext s27 s37 := Ext.wr (Ext.wr e35 F33.no P36.mut) (F33.ext.none F35.no) P37.mut
      have o32 : Am.Own s37 l32 (dotC e.1) := by
        have := P36.at
        rw [wrs_all0 (by simp [dotC])] at this
        exact Am.Own.mut this P37.mut (by simpa using hne34)
      have o34 : Am.Own s37 l34 (keyC e.2.1) := by
        have := P37.at
        rw [wrs_all0 (by simp [keyC])] at this
        exact this
      have hit37 := hit27.ext e37
      refine ⟨_, o32.at.rdc (by simp [dotC]), _, o34.at.rdc (by simp [keyC]), _, build_item e.1 e.2.1, GroN.append1 sl_s_Item itemC_len itemC_one P37.wf (g27.step e37) (fun y hy => ?_) (liveE e) (by simp; omega) fun v44 s45 g45 w45 m45 => ?_⟩
      · obtain rfl := List.mem_singleton.1 hy
        rw [hit37.at]; simp
      · have hnit : it ∉ labOf v := fun hx => by
          have := g24.new it hx
          rw [hit.at] at this; cases this
        have hnlm : lm ∉ labOf v := fun hx => by
          have := g24.new lm hx
          rw [(hm.ext F19.ext).obj] at this; cases this
        refine ⟨es.length - (done ++ [e]).length, by simp; omega, v44, done ++ [e], rfl, rfl, w45, (hm27.ext e37).mut m45 hnlm, hit37.mut m45 hnit, ?_⟩
        rw [List.map_append]
        exact g45
theorem Items_ok (h : SetF F s p x) (o : OOk x B) (hB : B ≤ 1000) : ACalls Tryz.prog F_orset_Set_Items [.ptr (some (p, 0))] s fun v s' => ∃ I, Items x I ∧ Sl itemC 5 s' v I ∧ Ext s s' := by
  refine (Items_okN h o hB).mono ?_
  rintro v s' ⟨I, h1, h2⟩
  exact ⟨I, h1, h2.dots, h2.1⟩
end

/-! ### the reference's live items and keys -/
section
variable {F : List Nat} {s : AS} {q : Nat} {x : OSet} {B : Nat}
def liveI (I : List Itm) : List Itm := I.filter fun i => !i.gone
theorem liveI_mem {I : List Itm} (h : Items x I) (i : Itm) : i ∈ liveI I ↔ i.gone = false ∧ x.live i.dot = some i.key := by
  unfold liveI
  rw [List.mem_filter, h.mem]
  unfold OSet.item
  cases i.gone <;> simp

end
end Go.Proofs.YtoklmpkpeanloaaGreat
end

section
set_option linter.unusedVariables false
set_option maxRecDepth 100000
set_option maxHeartbeats 4000000
namespace Go.Proofs.YtoklmpkpeanloaaGreat
open Go.Am

-- NOT PRINTED 11 minster/minsterlaw07.OrsetNil: string index out of range
/-- what minster/minsterlaw07.few asks -/
def Q_law07ifew (a0 : AV) (s : AS) (R : AV → AS → Prop) : Prop :=
 JoinQ fun J1 =>
 (∀ n2 : Int, ∀ s3 : AS, J1 [(.int .i64 n2)] s3 →
 RdI .i64 (alenB T Y_s_minsterlaw07iAct a0 s3) fun n4 => bsplit (decide ((n4 : Int) ≤ 100)) (R (.bool (decide ((n2 : Int) ≤ 300))) s3) (R (.bool false) s3)) ∧
 (LoopQ fun I5 m6 => I5 m6 [(.int .i64 0), (.int .i64 0)] s ∧
 ∀ m7 : Nat, ∀ n8 : Int, ∀ n9 : Int, ∀ s10 : AS, I5 m7 [(.int .i64 n8), (.int .i64 n9)] s10 →
 RdI .i64 (alenB T Y_s_minsterlaw07iAct a0 s10) fun n11 => bsplit (decide ((n9 : Int) < n11))
 (IxQ (aindexAddr T Y_s_minsterlaw07iAct a0 (.int .i64 n9)) fun l12 o13 => RdA (rd1 s10 l12 (o13 + 5)) fun v14 => RdI .i64 (alenB T Y_s_Item v14 s10) fun n15 => ∃ m', m' < m7 ∧ I5 m' [(.int .i64 (IntKind.wrap .i64 (n8 + n15))), (.int .i64 (IntKind.wrap .i64 (n9 + 1)))] s10)
 (J1 [(.int .i64 n8)] s10))

def A_law07ifew : QA := (.seq .leaf (.seq .leaf (.join [(3, .int .i64)] [(3, 18)] (.seq .leaf (.wrap (.loop [(3, .int .i64), (4, .int .i64)] [(3, 18)] (.seq (.seq .leaf (.cond .leaf .leaf)) (.seq (.wrap .leaf) .leaf))))) (.seq .leaf .leaf))))

theorem q_law07ifew (a0 : AV) (s : AS) (R : AV → AS → Prop) (h : Q_law07ifew a0 s R) : ACalls Tryz.prog F_law07ifew [a0] s R :=
  ACalls.q (n := 26) (rs := [.tmp 2]) (A := A_law07ifew) hT hmx Tryz.func24 (by kernel_rfl) rfl rfl rfl (by kernel_rfl) (by kernel_rfl) h

/-- what minster/minsterlaw07.do asks -/
def Q_law07ido (a0 : Option (Nat × Nat)) (a1 : Option (Nat × Nat)) (a2 : List AV) (s : AS) (R : AV → AS → Prop) : Prop :=
 One1 a2 (NewQ (.cells a2 0 false) s fun l1 s2 => JoinQ fun J3 =>
 (∀ b4 : Bool, ∀ s5 : AS, J3 [(.bool b4)] s5 →
 RdI .i64 (rd1 s5 l1 0) fun n6 => bsplit ((n6 : Int) == 1)
 (RdL (rdc s5 l1 1 2) fun g7 => RdL (rdc s5 l1 3 2) fun g8 => ACalls Tryz.prog F_orset_Set_Add [(.ptr a0), (.agg g7), (.agg g8)] s5 fun v9 s10 => ∃ v11 : AV, ∃ n12 : Int, v9 = .tup [v11, (.int .i64 n12)] ∧ (JoinQ fun J13 =>
 (∀ b14 : Bool, ∀ s15 : AS, J13 [(.bool b14)] s15 →
 bsplit b14
 (bsplit ((n12 : Int) == 2) (RdI .i64 (alenB T Y_s_Item v11 s15) fun n16 => R (.bool ((n16 : Int) == 0)) s15) (R (.bool false) s15))
 (bsplit ((n12 : Int) == 0) (RdL (rdc s15 l1 1 2) fun g17 => RdL (rdc s15 l1 3 2) fun g18 => ACalls Tryz.prog F_ref07iSet_Add [(.ptr a1), (.agg g17), (.agg g18)] s15 fun v19 s20 => ACalls Tryz.prog F_ref07iSameItems [v11, v19] s20 fun v21 s22 => ∃ b23 : Bool, v21 = .bool b23 ∧ (R (.bool b23) s22)) (R (.bool false) s15))) ∧
 (bsplit (!b4) (J13 [(.bool true)] s10) (RdL (rdc s10 l1 3 2) fun g24 => ACalls Tryz.prog F_ref04iMay [(.agg g24)] s10 fun v25 s26 => ∃ b27 : Bool, v25 = .bool b27 ∧ (bsplit (!b27) (J13 [(.bool true)] s26) (AsSome a1 fun l28 o29 => RdL (rdc s26 l1 3 2) fun g30 => ACalls Tryz.prog F_ref04iSet_Has [(.ptr (some (l28, o29))), (.agg g30)] s26 fun v31 s32 => ∃ b33 : Bool, v31 = .bool b33 ∧ (J13 [(.bool b33)] s32)))))))
 (bsplit ((n6 : Int) == 2)
 (RdL (rdc s5 l1 1 2) fun g34 => ACalls Tryz.prog F_orset_Set_Remove [(.ptr a0), (.agg g34)] s5 fun v35 s36 => ∃ v37 : AV, ∃ n38 : Int, v35 = .tup [v37, (.int .i64 n38)] ∧ (bsplit (!b4)
 (bsplit ((n38 : Int) == 2) (RdI .i64 (alenB T Y_s_Item v37 s36) fun n39 => R (.bool ((n39 : Int) == 0)) s36) (R (.bool false) s36))
 (bsplit ((n38 : Int) == 0) (RdL (rdc s36 l1 1 2) fun g40 => ACalls Tryz.prog F_ref07iSet_Remove [(.ptr a1), (.agg g40)] s36 fun v41 s42 => ACalls Tryz.prog F_ref07iSameItems [v37, v41] s42 fun v43 s44 => ∃ b45 : Bool, v43 = .bool b45 ∧ (R (.bool b45) s44)) (R (.bool false) s36))))
 (bsplit ((n6 : Int) == 3)
 (RdA (rd1 s5 l1 5) fun v46 => ACalls Tryz.prog F_orset_Set_See [(.ptr a0), v46] s5 fun v47 s48 => ∃ b49 : Bool, ∃ n50 : Int, v47 = .tup [(.bool b49), (.int .i64 n50)] ∧ (JoinQ fun J51 =>
 (∀ s52 : AS, J51 [] s52 →
 JoinQ fun J53 =>
 (∀ b54 : Bool, ∀ s55 : AS, J53 [(.bool b54)] s55 →
 bsplit ((n50 : Int) == 0) (R (.bool ((b49 : Bool) == b54)) s55) (R (.bool false) s55)) ∧
 (LoopQ fun I56 m57 => I56 m57 [(.bool false), (.int .i64 0)] s52 ∧
 ∀ m58 : Nat, ∀ b59 : Bool, ∀ n60 : Int, ∀ s61 : AS, I56 m58 [(.bool b59), (.int .i64 n60)] s61 →
 RdA (rd1 s61 l1 5) fun v62 => RdI .i64 (alenB T Y_s_Item v62 s61) fun n63 => bsplit (decide ((n60 : Int) < n63))
 (RdA (rd1 s61 l1 5) fun v64 => IxQ (aindexAddr T Y_s_Item v64 (.int .i64 n60)) fun l65 o66 => RdL (rdc s61 l65 o66 5) fun g67 => ACalls Tryz.prog F_ref07iSet_See [(.ptr a1), (.agg g67)] s61 fun v68 s69 => ∃ b70 : Bool, v68 = .bool b70 ∧ (bsplit b70
 (∃ m', m' < m58 ∧ I56 m' [(.bool true), (.int .i64 (IntKind.wrap .i64 (n60 + 1)))] s69)
 (∃ m', m' < m58 ∧ I56 m' [(.bool b59), (.int .i64 (IntKind.wrap .i64 (n60 + 1)))] s69)))
 (J53 [(.bool b59)] s61))) ∧
 (LoopQ fun I71 m72 => I71 m72 [(.int .i64 0)] s48 ∧
 ∀ m73 : Nat, ∀ n74 : Int, ∀ s75 : AS, I71 m73 [(.int .i64 n74)] s75 →
 RdA (rd1 s75 l1 5) fun v76 => RdI .i64 (alenB T Y_s_Item v76 s75) fun n77 => bsplit (decide ((n74 : Int) < n77))
 (RdA (rd1 s75 l1 5) fun v78 => IxQ (aindexAddr T Y_s_Item v78 (.int .i64 n74)) fun l79 o80 => RdL (rdc s75 l79 o80 5) fun g81 => ACalls Tryz.prog F_ref07iMay [(.agg g81)] s75 fun v82 s83 => ∃ b84 : Bool, v82 = .bool b84 ∧ (bsplit (!b84)
 (bsplit ((n50 : Int) == 2) (R (.bool (!b49)) s83) (R (.bool false) s83))
 (∃ m', m' < m73 ∧ I71 m' [(.int .i64 (IntKind.wrap .i64 (n74 + 1)))] s83)))
 (J51 [] s75))))
 (bsplit ((n6 : Int) == 4)
 (RdL (rdc s5 l1 3 2) fun g85 => ACalls Tryz.prog F_orset_Set_Collect [(.ptr a0), (.agg g85)] s5 fun v86 s87 => ∃ n88 : Int, v86 = .int .i64 n88 ∧ (RdL (rdc s87 l1 3 2) fun g89 => ACalls Tryz.prog F_ref04iMay [(.agg g89)] s87 fun v90 s91 => ∃ b92 : Bool, v90 = .bool b92 ∧ (bsplit (!b92)
 (R (.bool ((n88 : Int) == 2)) s91)
 (RdL (rdc s91 l1 3 2) fun g93 => ACalls Tryz.prog F_ref07iSet_Collect [(.ptr a1), (.agg g93)] s91 fun v94 s95 => ∃ b96 : Bool, v94 = .bool b96 ∧ (bsplit (!b96)
 (R (.bool ((n88 : Int) == 6)) s95)
 (R (.bool ((n88 : Int) == 0)) s95))))))
 (R (.bool true) s5))))) ∧
 (RdS (rd1 s2 l1 1) fun x97 => ACalls Tryz.prog F_ref07iName [(.str x97)] s2 fun v98 s99 => ∃ b100 : Bool, v98 = .bool b100 ∧ (bsplit b100 (RdS (rd1 s99 l1 2) fun x101 => ACalls Tryz.prog F_ref07iName [(.str x101)] s99 fun v102 s103 => ∃ b104 : Bool, v102 = .bool b104 ∧ (J3 [(.bool b104)] s103)) (J3 [(.bool false)] s99))))

def A_law07ido : QA := (.seq .leaf (.join [(7, .bool)] [(7, 7), (18, 27)] .leaf (.seq (.seq .leaf (.wrap (.seq .leaf (.cond (.seq .leaf (.seq (.join [(56, .bool)] [(41, 56)] .calm (.cond (.seq .leaf .leaf) .leaf)) (.seq .leaf .leaf))) (.seq .leaf (.cond (.seq .leaf (.seq (.seq .leaf (.cond (.seq .leaf .leaf) .leaf)) (.seq .leaf .leaf))) (.seq .leaf (.cond (.seq .leaf (.join [] [(6, 6), (14, 14), (113, 132)] (.seq .leaf (.wrap (.loop [(14, .int .i64)] [(6, 6), (14, 14), (113, 132)] (.seq (.seq .leaf (.cond .leaf .leaf)) (.seq (.wrap (.seq .leaf (.cond (.seq .leaf .leaf) .leaf))) .leaf))))) (.seq .leaf (.join [(15, .bool)] [(15, 16), (133, 146)] (.seq .leaf (.wrap (.loop [(15, .bool), (16, .int .i64)] [(15, 16), (133, 146)] (.seq (.seq .leaf (.cond .leaf .leaf)) (.seq (.wrap (.seq .leaf (.cond .leaf .leaf))) .leaf))))) (.seq .leaf .leaf))))) (.seq .leaf (.cond (.seq .leaf (.seq (.seq .leaf (.cond (.seq .leaf .leaf) .leaf)) (.seq (.seq .leaf (.cond (.seq .leaf .leaf) .leaf)) (.seq .leaf .leaf)))) .leaf)))))))))) (.seq .leaf .leaf))))

theorem q_law07ido (a0 : Option (Nat × Nat)) (a1 : Option (Nat × Nat)) (a2 : List AV) (s : AS) (R : AV → AS → Prop) (h : Q_law07ido a0 a1 a2 s R) : ACalls Tryz.prog F_law07ido [(.ptr a0), (.ptr a1), (.agg a2)] s R :=
  ACalls.q (n := 175) (rs := [.tmp 6]) (A := A_law07ido) hT hmx Tryz.func25 (by kernel_rfl) rfl rfl rfl (by kernel_rfl) (by kernel_rfl) h

end Go.Proofs.YtoklmpkpeanloaaGreat
end

section
set_option linter.unusedSimpArgs false
set_option linter.unusedVariables false
namespace Go.Proofs.YtoklmpkpeanloaaGreat
open Go.Am Go.Minster Go.Minster2

/-- an act, as it may come -/
structure A07 where
  kind : Int
  key : Key
  dot : Dot
  av : AV
  items : List Itm
def act7 (a : A07) : List AV := [.int .i64 a.kind, .str a.key.t, .str a.key.d, .int .i64 a.dot.r, .int .u64 a.dot.c, a.av]
structure Act7 (s : AS) (a : A07) : Prop where
  one : a.av.one = true
  it : Sl itemC 5 s a.av a.items
theorem Act7.ext {s s' : AS} {a : A07} (h : Act7 s a) (e : Ext s s') : Act7 s' a := ⟨h.one, h.it.ext e⟩

/-- a set, and the reference's, that are alike -/
structure Pair2 (s0 s : AS) (p q : Nat) (x y : OSet) (B : Nat) : Prop where
  e : Ext s0 s
  mem : ∃ F G, SetO s0 s F p x B ∧ RefO G s q y ∧ (∀ z ∈ G, s0.h z = none) ∧ (∀ z ∈ G, s.h z ≠ none) ∧ Dj F G
section
variable {s0 s s' : AS} {p q : Nat} {x y : OSet} {B : Nat}
theorem Pair2.ext (h : Pair2 s0 s p q x y B) (e : Ext s s') : Pair2 s0 s' p q x y B := by
  obtain ⟨e0, F, G, h1, h2, h3, h4, h5⟩ := h
  exact ⟨e0.trans e, F, G, h1.ext e, h2.ext e, h3, fun z hz hn => h4 z hz (e.none hn), h5⟩
theorem Pair2.ok (h : Pair2 s0 s p q x y B) : OOk x B := by obtain ⟨e0, F, G, h1, _⟩ := h; exact h1.ok
theorem Pair2.mono {B' : Nat} (h : Pair2 s0 s p q x y B) (hb : B ≤ B') : Pair2 s0 s p q x y B' := by
  obtain ⟨e0, F, G, h1, h2⟩ := h
  exact ⟨e0, F, G, ⟨h1.set, h1.ok.mono hb, h1.new, h1.there⟩, h2⟩
/-- the set has changed -/
theorem Pair2.set {F G F' L : List Nat} {x' : OSet} {B' : Nat} (h1 : SetO s0 s F p x B) (h2 : RefO G s q y) (h3 : ∀ z ∈ G, s0.h z = none) (h4 : ∀ z ∈ G, s.h z ≠ none) (h5 : Dj F G) (hL : ∀ z ∈ L, z ∈ F) (m : Mut L s s') (e' : Ext s0 s') (hA : SetO s0 s' F' p x' B') (hF : ∀ z ∈ F', z ∈ F ∨ s.h z = none) : Pair2 s0 s' p q x' y B' :=
  ⟨e', F', G, hA, h2.mut m (h5.sub hL), h3, there_mut h4 m (h5.sub hL), h5.step h4 hF⟩
/-- the reference has changed -/
theorem Pair2.setR {F G G' : List Nat} {y' : OSet} (e0 : Ext s0 s) (h1 : SetO s0 s F p x B) (h2 : RefO G s q y) (h3 : ∀ z ∈ G, s0.h z = none) (h5 : Dj F G) (m : Mut [q] s s') (hR : RefO G' s' q y') (hn : ∀ z ∈ G', z ∈ G ∨ s.h z = none) (ht : ∀ z ∈ G', s'.h z ≠ none) : Pair2 s0 s' p q x y' B := by
  have hqG : ∀ z ∈ [q], z ∈ G := by simpa using h2.qF
  refine ⟨Ext.wr e0 (h3 q h2.qF) m, F, G', h1.keep m (h5.symm.sub hqG), hR, fun z hz => ?_, ht, ?_⟩
  · rcases hn z hz with h | h
    · exact h3 z h
    · exact e0.none h
  · intro z hz hg
    rcases hn z hg with h | h
    · exact h5 z hz h
    · exact h1.there z hz h
theorem Pair2.pnew (h : Pair2 s0 s p q x y B) : s0.h p = none ∧ s.h p ≠ none := by
  obtain ⟨e0, F, G, h1, h2, h3, h4, h5⟩ := h
  exact ⟨h1.new _ h1.set.pF, h1.there _ h1.set.pF⟩
theorem Pair2.qnew (h : Pair2 s0 s p q x y B) : s0.h q = none ∧ s.h q ≠ none := by
  obtain ⟨e0, F, G, h1, h2, h3, h4, h5⟩ := h
  exact ⟨h3 _ h2.qF, h4 _ h2.qF⟩
theorem Pair2.Add (h : Pair2 s0 s p q x y B) (hB : B ≤ 500) (k : Key) (d : Dot) (hk : k.may = true) (hd : d.may = true) (hn : x.has d = false) :
    ACalls Tryz.prog F_orset_Set_Add [.ptr (some (p, 0)), .agg (keyC k), .agg (dotC d)] s fun r s' => ∃ v l x', x' = (x.sees (⟨d, k, false⟩ :: l.map goneI)).2 ∧ KD x k l ∧ r = .tup [v, .int .i64 0] ∧ Sl itemC 5 s' v (⟨d, k, false⟩ :: l.map goneI) ∧ Mut [p] s s' ∧ Pair2 s0 s' p q x' y (B + 1) := by
  obtain ⟨e0, F, G, h1, h2, h3, h4, h5⟩ := h
  refine (h1.Add e0 hB k d hk hd hn).mono ?_
  rintro r s' ⟨v, l, kd, rfl, hs, m, E, F', x', hx, A, hF⟩
  exact ⟨v, l, x', hx, kd.kd, rfl, hs, m, Pair2.set h1 h2 h3 h4 h5 (by simpa using h1.set.pF) m E A hF⟩
theorem Pair2.Remove (h : Pair2 s0 s p q x y B) (hB : B ≤ 500) (k : Key) (hk : k.may = true) :
    ACalls Tryz.prog F_orset_Set_Remove [.ptr (some (p, 0)), .agg (keyC k)] s fun r s' => ∃ v l x', x' = (x.sees (l.map goneI)).2 ∧ KD x k l ∧ r = .tup [v, .int .i64 0] ∧ Sl itemC 5 s' v (l.map goneI) ∧ Mut [p] s s' ∧ Pair2 s0 s' p q x' y B := by
  obtain ⟨e0, F, G, h1, h2, h3, h4, h5⟩ := h
  refine (h1.Remove e0 hB k hk).mono ?_
  rintro r s' ⟨v, l, kd, rfl, hs, m, E, F', x', hx, A, hF⟩
  exact ⟨v, l, x', hx, kd.kd, rfl, hs, m, Pair2.set h1 h2 h3 h4 h5 (by simpa using h1.set.pF) m E A hF⟩
theorem Pair2.See (h : Pair2 s0 s p q x y B) {a : AV} {l : List Itm} (hl : Sl itemC 5 s a l) (hB : B + l.length ≤ 1000) (hm : ∀ i ∈ l, i.may = true) :
    ACalls Tryz.prog F_orset_Set_See [.ptr (some (p, 0)), a] s fun r s' => ∃ x', x' = (x.sees l).2 ∧ r = .tup [.bool (x.sees l).1, .int .i64 0] ∧ Mut [p] s s' ∧ Pair2 s0 s' p q x' y (B + l.length) := by
  obtain ⟨e0, F, G, h1, h2, h3, h4, h5⟩ := h
  refine (h1.See e0 hl hB hm).mono ?_
  rintro r s' ⟨rfl, m, E, F', x', hx, A, hF⟩
  exact ⟨x', hx, rfl, m, Pair2.set h1 h2 h3 h4 h5 (by simpa using h1.set.pF) m E A hF⟩
theorem Pair2.See_bad (h : Pair2 s0 s p q x y B) {a : AV} {l : List Itm} (hl : Sl itemC 5 s a l) (hn : l.length ≤ 2 ^ 40) (hm : ¬ ∀ i ∈ l, i.may = true) :
    ACalls Tryz.prog F_orset_Set_See [.ptr (some (p, 0)), a] s fun r s' => r = .tup [.bool false, .int .i64 2] ∧ Ext s s' := by
  obtain ⟨e0, F, G, h1, h2, h3, h4, h5⟩ := h
  exact Go.Proofs.YtoklmpkpeanloaaGreat.See_bad h1.set hl hn hm
theorem Pair2.Collect (h : Pair2 s0 s p q x y B) (d : Dot) :
    ACalls Tryz.prog F_orset_Set_Collect [.ptr (some (p, 0)), .agg (dotC d)] s fun r s' => ∃ x', x' = (if d.may && x.tomb d then x.coll d else x) ∧ r = .int .i64 (if d.may then (if x.tomb d then 0 else 6) else 2) ∧ Pair2 s0 s' p q x' y B ∧ ∀ l cs, At s l cs → At s' l cs := by
  obtain ⟨e0, F, G, h1, h2, h3, h4, h5⟩ := id h
  refine (Collect_ok h1.set h1.there d).mono ?_
  rintro r s' (⟨c1, rfl, e⟩ | ⟨c1, c2, rfl, e⟩ | ⟨c1, c2, rfl, hS, ht, m, hm, mm, hC⟩)
  · exact ⟨x, by simp [c1], by simp [c1], h.ext e, fun _ _ h => h.ext e⟩
  · exact ⟨x, by simp [c1, c2], by simp [c1, c2], h.ext e, fun _ _ h => h.ext e⟩
  · exact ⟨x.coll d, by simp [c1, c2], by simp [c1, c2], Pair2.set h1 h2 h3 h4 h5 (by simpa using hm) mm (Ext.wr e0 (h1.new m hm) mm) ⟨hS, h1.ok.coll d, h1.new, ht⟩ fun z hz => .inl hz, fun l cs hl => hl.mut mm (by simp only [List.mem_singleton]; rintro rfl; exact hC _ hl)⟩
theorem Pair2.rAdd {C : Nat} (h : Pair2 s0 s p q x y B) (o : OOk y C) (hC : C ≤ 450) (k : Key) (d : Dot) (hk : k.may = true) (hd : d.may = true) :
    ACalls Tryz.prog F_ref07iSet_Add [.ptr (some (q, 0)), .agg (keyC k), .agg (dotC d)] s fun v s' => ∃ l, KD y k l ∧ Sl itemC 5 s' v (⟨d, k, false⟩ :: l.map goneI) ∧ Mut [q] s s' ∧ Pair2 s0 s' p q x (y.sees (⟨d, k, false⟩ :: l.map goneI)).2 B := by
  obtain ⟨e0, F, G, h1, h2, h3, h4, h5⟩ := h
  refine (ref_Add_ok h2 o h4 hC k d hk hd).mono ?_
  rintro v s' ⟨l, kd, hs, m, G', hR, hn, ht⟩
  exact ⟨l, kd, hs, m, Pair2.setR e0 h1 h2 h3 h5 m hR hn ht⟩
theorem Pair2.rRemove {C : Nat} (h : Pair2 s0 s p q x y B) (o : OOk y C) (hC : C ≤ 450) (k : Key) :
    ACalls Tryz.prog F_ref07iSet_Remove [.ptr (some (q, 0)), .agg (keyC k)] s fun v s' => ∃ l, KD y k l ∧ Sl itemC 5 s' v (l.map goneI) ∧ Mut [q] s s' ∧ Pair2 s0 s' p q x (y.sees (l.map goneI)).2 B := by
  obtain ⟨e0, F, G, h1, h2, h3, h4, h5⟩ := h
  refine (ref_Remove_ok h2 o h4 hC k).mono ?_
  rintro v s' ⟨l, kd, hs, m, G', hR, hn, ht⟩
  exact ⟨l, kd, hs, m, Pair2.setR e0 h1 h2 h3 h5 m hR hn ht⟩
theorem Pair2.rSee {C : Nat} (h : Pair2 s0 s p q x y B) (o : OOk y C) (hC : C ≤ 1000) (i : Itm) (hi : i.may = true) :
    ACalls Tryz.prog F_ref07iSet_See [.ptr (some (q, 0)), .agg (itemC i)] s fun r s' => r = .bool (y.see i).1 ∧ Mut [q] s s' ∧ Pair2 s0 s' p q x (y.see i).2 B := by
  obtain ⟨e0, F, G, h1, h2, h3, h4, h5⟩ := h
  refine (ref_See_ok h2 o hC h4 i hi).mono ?_
  rintro r s' ⟨rfl, m, G', hR, hn, ht⟩
  exact ⟨rfl, m, Pair2.setR e0 h1 h2 h3 h5 m hR hn ht⟩
theorem Pair2.rCollect {C : Nat} (h : Pair2 s0 s p q x y B) (o : OOk y C) (hC : C ≤ 1000) (d : Dot) :
    ACalls Tryz.prog F_ref07iSet_Collect [.ptr (some (q, 0)), .agg (dotC d)] s fun r s' => r = .bool (y.tomb d) ∧ Pair2 s0 s' p q x (if y.tomb d then y.coll d else y) B := by
  obtain ⟨e0, F, G, h1, h2, h3, h4, h5⟩ := id h
  refine (ref_Collect_ok h2 o h4 hC d).mono ?_
  rintro r s' (⟨c, rfl, e⟩ | ⟨c, rfl, m, G', hR, hn, ht⟩)
  · rw [c]; exact ⟨rfl, h.ext e⟩
  · rw [c]; exact ⟨rfl, Pair2.setR e0 h1 h2 h3 h5 m hR hn ht⟩
theorem Pair2.rHas {C : Nat} (h : Pair2 s0 s p q x y B) (o : OOk y C) (hC : C ≤ 1000) (d : Dot) :
    ACalls Tryz.prog F_ref04iSet_Has [.ptr (some (q, 0)), .agg (dotC d)] s fun r s' => r = .bool (y.has d) ∧ Ext s s' := by
  obtain ⟨e0, F, G, h1, h2, h3, h4, h5⟩ := h
  obtain ⟨w, iw, I, _, _, _, _, _, hT⟩ := h2.open
  have hex := o.exlen
  exact ref_Has_T hT (by omega) d
theorem Pair2.keepI (h : Pair2 s0 s p q x y B) {v : AV} {l : List Itm} (hs : Sl itemC 5 s v l) (m : Mut [q] s s') : Sl itemC 5 s' v l := by
  obtain ⟨e0, F, G, h1, h2, h3, h4, h5⟩ := h
  exact h2.keepI hs m
theorem SetO.Add_bad {F : List Nat} (h : SetO s0 s F p x B) (hB : B ≤ 500) (k : Key) (d : Dot) (hc : ¬ (k.may = true ∧ d.may = true ∧ x.has d = false)) :
    ACalls Tryz.prog F_orset_Set_Add [.ptr (some (p, 0)), .agg (keyC k), .agg (dotC d)] s fun r s' => r = .tup [.slc none 0 0 true, .int .i64 2] ∧ Ext s s' := by
  obtain ⟨b1, b2⟩ := h.bnd
  refine (Add_ok h.set k d h.ok.lmay (by omega) (by omega) (by omega)).mono ?_
  rintro r s' (⟨_, rfl, e⟩ | ⟨h2, _⟩)
  · exact ⟨rfl, e⟩
  · exact absurd h2 hc
theorem SetO.Remove_bad {F : List Nat} (h : SetO s0 s F p x B) (hB : B ≤ 500) (k : Key) (hk : k.may = false) :
    ACalls Tryz.prog F_orset_Set_Remove [.ptr (some (p, 0)), .agg (keyC k)] s fun r s' => r = .tup [.slc none 0 0 true, .int .i64 2] ∧ Ext s s' := by
  obtain ⟨b1, b2⟩ := h.bnd
  refine (Remove_ok h.set k h.ok.lmay (by omega) (by omega) (by omega)).mono ?_
  rintro r s' (⟨_, rfl, e⟩ | ⟨h2, _⟩)
  · exact ⟨rfl, e⟩
  · rw [hk] at h2; cases h2
end
theorem sees_take {x : OSet} {L : List Itm} {i : Nat} {y : Itm} (hy : L[i]? = some y) : x.sees (L.take (i + 1)) = ((x.sees (L.take i)).1 || ((x.sees (L.take i)).2.see y).1, ((x.sees (L.take i)).2.see y).2) := by
  unfold OSet.sees
  rw [List.take_add_one, hy, Option.toList_some, List.foldl_append]
  rfl

theorem Pair2.Add_bad {s0 s : AS} {p q : Nat} {x y : OSet} {B : Nat} (h : Pair2 s0 s p q x y B) (hB : B ≤ 500) (k : Key) (d : Dot) (hc : ¬ (k.may = true ∧ d.may = true ∧ x.has d = false)) :
    ACalls Tryz.prog F_orset_Set_Add [.ptr (some (p, 0)), .agg (keyC k), .agg (dotC d)] s fun r s' => r = .tup [.slc none 0 0 true, .int .i64 2] ∧ Ext s s' := by
  obtain ⟨e0, F, G, h1, h2, h3, h4, h5⟩ := h
  exact h1.Add_bad hB k d hc
theorem Pair2.Remove_bad {s0 s : AS} {p q : Nat} {x y : OSet} {B : Nat} (h : Pair2 s0 s p q x y B) (hB : B ≤ 500) (k : Key) (hk : k.may = false) :
    ACalls Tryz.prog F_orset_Set_Remove [.ptr (some (p, 0)), .agg (keyC k)] s fun r s' => r = .tup [.slc none 0 0 true, .int .i64 2] ∧ Ext s s' := by
  obtain ⟨e0, F, G, h1, h2, h3, h4, h5⟩ := h
  exact h1.Remove_bad hB k hk

set_option maxRecDepth 100000 in
set_option maxHeartbeats 4000000 in
theorem do_ok {s0 s : AS} {p q : Nat} {x : OSet} {B : Nat} (h : Pair2 s0 s p q x x B) (a : A07) (ha : Act7 s0 a) (hB : B + 1 + a.items.length ≤ 450) :
    ACalls Tryz.prog F_law07ido [.ptr (some (p, 0)), .ptr (some (q, 0)), .agg (act7 a)] s fun r s' => r = .bool true ∧ ∃ x', Pair2 s0 s' p q x' x' (B + 1 + a.items.length) := by
  have hone : (act7 a).all AV.one = true := by simp only [act7, List.all_cons, List.all_nil, ha.one]; rfl
  refine ACalls.pre fun hw => q_law07ido _ _ _ _ _ ⟨hone, NewQ.intro hw rfl fun l1 s2 F2 => ?_⟩
  have h2 := h.ext F2.ext
  have l1new : s.h l1 = none := F2.no
  have c1 : At s2 l1 (act7 a) := F2.own.at
  refine ⟨fun vs s' => s' = s2 ∧ vs = [.bool a.key.may], ?_, a.key.t, by rw [c1.rd1]; rfl, ?_⟩
  rotate_left
  · refine ACalls.use (refName_ok _ _) ?_
    rintro v s' ⟨rfl, rfl⟩ _
    refine ⟨_, rfl, bsplit.mk (fun h1 => ⟨a.key.d, by rw [c1.rd1]; rfl, ?_⟩) (fun h1 => ⟨rfl, by simp [Key.may, h1]⟩)⟩
    refine ACalls.use (refName_ok _ _) ?_
    rintro v s' ⟨rfl, rfl⟩ _
    exact ⟨_, rfl, rfl, by simp [Key.may, h1]⟩
  rintro b s5 ⟨rfl, hb⟩
  simp only [List.cons.injEq, AV.bool.injEq, and_true] at hb
  subst hb
  have hlp : l1 ∉ [p] := by
    simp only [List.mem_singleton]
    rintro rfl
    exact h.pnew.2 l1new
  have hlq : l1 ∉ [q] := by
    simp only [List.mem_singleton]
    rintro rfl
    exact h.qnew.2 l1new
  have kr : ∀ {s' : AS}, At s' l1 (act7 a) → rdc s' l1 1 2 = some (keyC a.key) := fun c => by rw [c.rdc (by simp [act7])]; rfl
  have dr : ∀ {s' : AS}, At s' l1 (act7 a) → rdc s' l1 3 2 = some (dotC a.dot) := fun c => by rw [c.rdc (by simp [act7])]; rfl
  have ar : ∀ {s' : AS}, At s' l1 (act7 a) → rd1 s' l1 5 = some a.av := fun c => by rw [c.rd1]; rfl
  have okx := h2.ok
  have nillen : ∀ s', alenB T Y_s_Item (.slc none 0 0 true) s' = some (.int .i64 0) := fun s' => by simp [alenB, u_s_Item]
  refine ⟨a.kind, by rw [c1.rd1]; rfl, bsplit.mk (fun hk1 => ?_) (fun hk1 => bsplit.mk (fun hk2 => ?_) (fun hk2 => bsplit.mk (fun hk3 => ?_) (fun hk3 => bsplit.mk (fun hk4 => ?_) (fun hk4 => ⟨rfl, x, h2.mono (by omega)⟩))))⟩
  · -- it subscribes
    refine ⟨_, kr c1, _, dr c1, ?_⟩
    have cond : ∀ {s10 : AS} {y : OSet} {B' : Nat} (J : List AV → AS → Prop), Pair2 s0 s10 p q y x B' → At s10 l1 (act7 a) → WFs s10 → (∀ s', Ext s10 s' → WFs s' → J [.bool !(a.key.may && a.dot.may && !x.has a.dot)] s') →
        bsplit (!a.key.may) (J [(.bool true)] s10) (RdL (rdc s10 l1 3 2) fun g24 => ACalls Tryz.prog F_ref04iMay [(.agg g24)] s10 fun v25 s26 => ∃ b27 : Bool, v25 = .bool b27 ∧ (bsplit (!b27) (J [(.bool true)] s26) (AsSome (some (q, 0)) fun l28 o29 => RdL (rdc s26 l1 3 2) fun g30 => ACalls Tryz.prog F_ref04iSet_Has [(.ptr (some (l28, o29))), (.agg g30)] s26 fun v31 s32 => ∃ b33 : Bool, v31 = .bool b33 ∧ (J [(.bool b33)] s32)))) := by
      intro s10 y B' J hp c10 w10 hJ
      refine bsplit.mk (fun hb => ?_) (fun hb => ⟨_, dr c10, ?_⟩)
      · simp only [Bool.not_eq_true'] at hb
        have := hJ s10 (Ext.refl _) w10
        rw [hb] at this; exact this
      simp only [Bool.not_eq_false'] at hb
      refine ACalls.use (ref04iMay_ok _ _) ?_
      rintro v s26 ⟨rfl, e26⟩ w26
      refine ⟨_, rfl, bsplit.mk (fun hb2 => ?_) (fun hb2 => ⟨_, dr (c10.ext e26), ?_⟩)⟩
      · simp only [Bool.not_eq_true'] at hb2
        have := hJ s26 e26 w26
        rw [hb, hb2] at this; exact this
      simp only [Bool.not_eq_false'] at hb2
      refine ACalls.use ((hp.ext e26).rHas okx (by omega) a.dot) ?_
      rintro v s32 ⟨rfl, e32⟩ w32
      refine ⟨_, rfl, ?_⟩
      have := hJ s32 (e26.trans e32) w32
      rw [hb, hb2] at this
      simpa using this
    by_cases hc : a.key.may = true ∧ a.dot.may = true ∧ x.has a.dot = false
    · refine ACalls.use (h2.Add (by omega) a.key a.dot hc.1 hc.2.1 hc.2.2) ?_
      rintro v s10 ⟨v11, l, x', hx', kd, rfl, hs10, m10, p10⟩ w10
      have c10 : At s10 l1 (act7 a) := c1.mut m10 hlp
      refine ⟨_, _, rfl, fun vs s' => vs = [.bool false] ∧ Ext s10 s' ∧ WFs s', ?_, cond (fun vs s' => vs = [.bool false] ∧ Ext s10 s' ∧ WFs s') p10 c10 w10 fun s' e w => ⟨by rw [hc.1, hc.2.1, hc.2.2]; rfl, e, w⟩⟩
      rintro b s15 ⟨hb, e15, w15⟩
      obtain rfl : b = false := by simpa using hb
      have p15 := p10.ext e15
      refine bsplit.no rfl (bsplit.yes rfl ⟨_, kr (c10.ext e15), _, dr (c10.ext e15), ?_⟩)
      refine ACalls.use (p15.rAdd okx (by omega) a.key a.dot hc.1 hc.2.1) ?_
      rintro v19 s20 ⟨l', kd', hs20, m20, p20⟩ w20
      obtain rfl := kd'.uniq kd
      have hln := kd.len okx
      refine ACalls.use (SameItems_ok (p15.keepI (hs10.ext e15) m20) hs20 (by simp; omega)) ?_
      rintro v s22 ⟨rfl, rfl⟩ _
      refine ⟨_, rfl, by simp, x', ?_⟩
      rw [← hx'] at p20
      exact p20.mono (by omega)
    · refine ACalls.use (h2.Add_bad (by omega) a.key a.dot hc) ?_
      rintro v s10 ⟨rfl, e10⟩ w10
      have p10 := h2.ext e10
      refine ⟨_, _, rfl, fun vs s' => vs = [.bool true] ∧ Ext s10 s' ∧ WFs s', ?_, cond (fun vs s' => vs = [.bool true] ∧ Ext s10 s' ∧ WFs s') p10 (c1.ext e10) w10 fun s' e w => ⟨?_, e, w⟩⟩
      · rintro b s15 ⟨hb, e15, w15⟩
        obtain rfl : b = true := by simpa using hb
        exact bsplit.yes rfl (bsplit.yes rfl ⟨_, nillen _, rfl, x, (p10.ext e15).mono (by omega)⟩)
      · congr 2
        cases h1 : a.key.may with
        | false => rfl
        | true =>
          cases h2 : a.dot.may with
          | false => rfl
          | true =>
            cases h3 : x.has a.dot with
            | true => rfl
            | false => exact absurd ⟨h1, h2, h3⟩ hc
  · -- it gives up
    refine ⟨_, kr c1, ?_⟩
    cases hkm : a.key.may with
    | true =>
      refine ACalls.use (h2.Remove (by omega) a.key hkm) ?_
      rintro v s36 ⟨v37, l, x', hx', kd, rfl, hs36, m36, p36⟩ w36
      have c36 : At s36 l1 (act7 a) := c1.mut m36 hlp
      refine ⟨_, _, rfl, bsplit.no rfl (bsplit.yes rfl ⟨_, kr c36, ?_⟩)⟩
      refine ACalls.use (p36.rRemove okx (by omega) a.key) ?_
      rintro v41 s42 ⟨l', kd', hs42, m42, p42⟩ w42
      obtain rfl := kd'.uniq kd
      have hln := kd.len okx
      refine ACalls.use (SameItems_ok (p36.keepI hs36 m42) hs42 (by simp; omega)) ?_
      rintro v s22 ⟨rfl, rfl⟩ _
      refine ⟨_, rfl, by simp, x', ?_⟩
      rw [← hx'] at p42
      exact p42.mono (by omega)
    | false =>
      refine ACalls.use (h2.Remove_bad (by omega) a.key hkm) ?_
      rintro v s36 ⟨rfl, e36⟩ w36
      exact ⟨_, _, rfl, bsplit.yes rfl (bsplit.yes rfl ⟨_, nillen _, rfl, x, (h2.ext e36).mono (by omega)⟩)⟩
  · -- it sees
    have it2 := ha.it.ext h2.e
    refine ⟨a.av, ar c1, ?_⟩
    by_cases hall : ∀ i ∈ a.items, i.may = true
    · refine ACalls.use (h2.See it2 (by omega) hall) ?_
      rintro v s48 ⟨x', hx', rfl, m48, p48⟩ w48
      have c48 : At s48 l1 (act7 a) := c1.mut m48 hlp
      refine ⟨_, _, rfl, fun vs s' => vs = [] ∧ Ext s48 s' ∧ WFs s', ?_, fun m vs s' => ∃ i : Nat, vs = [.int .i64 (i : Nat)] ∧ i ≤ a.items.length ∧ m = a.items.length - i ∧ Ext s48 s' ∧ WFs s', a.items.length, ⟨0, rfl, by omega, rfl, Ext.refl _, w48⟩, ?_⟩
      · rintro s52 ⟨_, e52, w52⟩
        have p52 := p48.ext e52
        have c52 := c48.ext e52
        refine ⟨fun vs s' => vs = [.bool (x.sees a.items).1] ∧ Pair2 s0 s' p q x' x' (B + a.items.length), ?_, fun m vs s' => ∃ i : Nat, vs = [.bool (x.sees (a.items.take i)).1, .int .i64 (i : Nat)] ∧ i ≤ a.items.length ∧ m = a.items.length - i ∧ WFs s' ∧ At s' l1 (act7 a) ∧ Pair2 s0 s' p q x' (x.sees (a.items.take i)).2 (B + a.items.length), a.items.length, ⟨0, rfl, by omega, rfl, w52, c52, p52⟩, ?_⟩
        · rintro b s55 ⟨hb, p55⟩
          obtain rfl : b = (x.sees a.items).1 := by simpa using hb
          exact bsplit.yes rfl ⟨by simp, x', p55.mono (by omega)⟩
        · rintro m b n s61 ⟨i, hi, h6, rfl, w61, c61, p61⟩
          simp only [List.cons.injEq, AV.int.injEq, AV.bool.injEq, true_and, and_true] at hi
          obtain ⟨rfl, rfl⟩ := hi
          have it61 := ha.it.ext p61.e
          refine ⟨a.av, ar c61, _, it61.lenB u_s_Item _, bsplit.dec (fun hlt => ?_) (fun hge => ?_)⟩
          · obtain ⟨y, hy⟩ := get_lt (l := a.items) (i := i) (by omega)
            obtain ⟨ly, oy, k8, k9⟩ := it61.ix (by decide) itemC_len u_s_Item z_Item hy
            have ok : OOk (x.sees (a.items.take i)).2 (B + (a.items.take i).length) := okx.sees _ fun j hj => hall j (List.mem_of_mem_take hj)
            have hti : (a.items.take i).length ≤ a.items.length := by rw [List.length_take]; omega
            refine ⟨a.av, ar c61, ly, oy, k8 _, _, (k9 _ (Ext.refl _)).2, ?_⟩
            refine ACalls.use (p61.rSee ok (by omega) y (hall y (List.mem_of_getElem? hy))) ?_
            rintro v s69 ⟨rfl, m69, p69⟩ w69
            have hst := sees_take (x := x) hy
            have c69 := c61.mut m69 hlq
            refine ⟨_, rfl, bsplit.mk (fun hb => ?_) (fun hb => ?_)⟩
            · exact ⟨a.items.length - (i + 1), by omega, i + 1, by rw [wrap_i (by omega), hst, hb]; simp, by omega, rfl, w69, c69, by rw [hst]; exact p69⟩
            · exact ⟨a.items.length - (i + 1), by omega, i + 1, by rw [wrap_i (by omega), hst, hb]; simp, by omega, rfl, w69, c69, by rw [hst]; exact p69⟩
          · rw [List.take_of_length_le (by omega)] at p61 ⊢
            rw [← hx'] at p61
            exact ⟨rfl, p61⟩
      · rintro m n s75 ⟨i, hi, h6, rfl, e75, w75⟩
        simp only [List.cons.injEq, AV.int.injEq, true_and, and_true] at hi
        subst hi
        have c75 := c48.ext e75
        have it75 := ha.it.ext (p48.e.trans e75)
        refine ⟨a.av, ar c75, _, it75.lenB u_s_Item _, bsplit.dec (fun hlt => ?_) (fun hge => ⟨rfl, e75, w75⟩)⟩
        obtain ⟨y, hy⟩ := get_lt (l := a.items) (i := i) (by omega)
        obtain ⟨ly, oy, k8, k9⟩ := it75.ix (by decide) itemC_len u_s_Item z_Item hy
        refine ⟨a.av, ar c75, ly, oy, k8 _, _, (k9 _ (Ext.refl _)).2, ?_⟩
        refine ACalls.use (ref07May_ok y _) ?_
        rintro v s83 ⟨rfl, e83⟩ w83
        exact ⟨_, rfl, bsplit.no (by rw [hall y (List.mem_of_getElem? hy)]; rfl) ⟨a.items.length - (i + 1), by omega, i + 1, by rw [wrap_i (by omega)]; rfl, by omega, rfl, e75.trans e83, w83⟩⟩
    · refine ACalls.use (h2.See_bad it2 (by omega) hall) ?_
      rintro v s48 ⟨rfl, e48⟩ w48
      have p48 := h2.ext e48
      refine ⟨_, _, rfl, fun vs s' => False, fun s52 hf => hf.elim, fun m vs s' => ∃ i : Nat, vs = [.int .i64 (i : Nat)] ∧ i ≤ a.items.length ∧ m = a.items.length - i ∧ Ext s48 s' ∧ WFs s' ∧ ∀ (j : Nat) y, j < i → a.items[j]? = some y → y.may = true, a.items.length, ⟨0, rfl, by omega, rfl, Ext.refl _, w48, fun j y hj => by omega⟩, ?_⟩
      rintro m n s75 ⟨i, hi, h6, rfl, e75, w75, hgood⟩
      simp only [List.cons.injEq, AV.int.injEq, true_and, and_true] at hi
      subst hi
      have c75 := (c1.ext e48).ext e75
      have it75 := ha.it.ext (p48.e.trans e75)
      refine ⟨a.av, ar c75, _, it75.lenB u_s_Item _, bsplit.dec (fun hlt => ?_) (fun hge => ?_)⟩
      · obtain ⟨y, hy⟩ := get_lt (l := a.items) (i := i) (by omega)
        obtain ⟨ly, oy, k8, k9⟩ := it75.ix (by decide) itemC_len u_s_Item z_Item hy
        refine ⟨a.av, ar c75, ly, oy, k8 _, _, (k9 _ (Ext.refl _)).2, ?_⟩
        refine ACalls.use (ref07May_ok y _) ?_
        rintro v s83 ⟨rfl, e83⟩ w83
        refine ⟨_, rfl, bsplit.mk (fun hb => bsplit.yes rfl ⟨rfl, x, (p48.ext (e75.trans e83)).mono (by omega)⟩) (fun hb => ?_)⟩
        refine ⟨a.items.length - (i + 1), by omega, i + 1, by rw [wrap_i (by omega)]; rfl, by omega, rfl, e75.trans e83, w83, fun j z hj hz => ?_⟩
        rcases Nat.lt_or_ge j i with h | h
        · exact hgood j z h hz
        · obtain rfl : j = i := by omega
          rw [hy] at hz; obtain rfl := Option.some.inj hz; simpa using hb
      · refine hall fun y hy => ?_
        obtain ⟨j, hj⟩ := List.mem_iff_getElem?.1 hy
        have : j < a.items.length := by
          rcases Nat.lt_or_ge j a.items.length with h | h
          · exact h
          · rw [List.getElem?_eq_none h] at hj; cases hj
        exact hgood j y (by omega) hj
  · -- it lets a tombstone go
    refine ⟨_, dr c1, ?_⟩
    refine ACalls.use (h2.Collect a.dot) ?_
    rintro v s87 ⟨x', hx', rfl, p87, hkeep⟩ w87
    have c87 : At s87 l1 (act7 a) := hkeep _ _ c1
    refine ⟨_, rfl, _, dr c87, ?_⟩
    refine ACalls.use (ref04iMay_ok _ _) ?_
    rintro v s91 ⟨rfl, e91⟩ w91
    have p91 := p87.ext e91
    refine ⟨_, rfl, bsplit.mk (fun hb => ⟨?_, x', ?_⟩) (fun hb => ⟨_, dr (c87.ext e91), ?_⟩)⟩
    · simp only [Bool.not_eq_true'] at hb
      simp [hb]
    · simp only [Bool.not_eq_true'] at hb
      rw [hb] at hx'
      simp only [Bool.false_and, Bool.false_eq_true, if_false] at hx'
      subst hx'
      exact p91.mono (by omega)
    simp only [Bool.not_eq_false'] at hb
    rw [hb] at hx' ⊢
    simp only [Bool.true_and] at hx'
    refine ACalls.use (p91.rCollect okx (by omega) a.dot) ?_
    rintro v s95 ⟨rfl, p95⟩ w95
    rw [← hx'] at p95
    refine ⟨_, rfl, bsplit.mk (fun ht => ⟨?_, x', p95.mono (by omega)⟩) (fun ht => ⟨?_, x', p95.mono (by omega)⟩)⟩
    · simp only [Bool.not_eq_true'] at ht; simp [ht]
    · simp only [Bool.not_eq_false'] at ht; simp [ht]
end Go.Proofs.YtoklmpkpeanloaaGreat
end

section
set_option linter.unusedSimpArgs false
set_option linter.unusedVariables false
namespace Go.Proofs.YtoklmpkpeanloaaGreat
open Go.Am Go.Minster Go.Minster2 Go.ChangeShapes Go.WideShapes Go.ChangeAt Go.RowKit
end Go.Proofs.YtoklmpkpeanloaaGreat
end

section
set_option linter.unusedSimpArgs false
set_option linter.unusedVariables false
namespace Go.Proofs.YtoklmpkpeanloaaGreat
open Go.Am Go.Minster Go.Minster2 Go.ChangeShapes Go.WideShapes Go.ChangeAt Go.RowKit

/-- acts in memory -/
structure Acts7 (s : AS) (v : AV) (l : List A07) : Prop where
  sl : Sl act7 6 s v l
  each : ∀ a ∈ l, Act7 s a
theorem act7_len (a : A07) : (act7 a).length = 6 := rfl
def kItem : List LK := [.int .i64, .int .u64, .str, .str, .bool]
set_option maxRecDepth 100000 in
theorem deep_act : deepT Tryz.prog 5 Y_minsterlaw07iAct = some [.fl (.int .i64), .fl .str, .fl .str, .fl (.int .i64), .fl (.int .u64), .sl kItem] := by kernel_rfl
set_option maxRecDepth 100000 in
theorem deepB_act : deepB Tryz.prog 5 Y_minsterlaw07iAct = true := by kernel_rfl
set_option maxRecDepth 100000 in
theorem pos_act : 1 ≤ Tryz.prog.bytesOf Y_minsterlaw07iAct := by
  have h : (decide (1 ≤ Tryz.prog.bytesOf Y_minsterlaw07iAct)) = true := by kernel_rfl
  exact of_decide_eq_true h
theorem items_of {w : World} {v : AV} (h : leaf2 w (.sl kItem) v) : v.one = true ∧ ∃ l, Sl itemC 5 (sW w) v l := by
  obtain ⟨h1, C, h2, h3, _⟩ := h
  refine ⟨h1, ?_⟩
  obtain ⟨l, e1, e2, e3⟩ := cells_dec (f := itemC) (Q := fun _ => True) C fun c hc => by
    obtain ⟨a, c1, rfl, ⟨r, rfl, _⟩, g1⟩ := (h3 c hc).cons
    obtain ⟨b, c2, rfl, ⟨n, rfl, _⟩, g2⟩ := g1.cons
    obtain ⟨b, c3, rfl, ⟨t, rfl, _⟩, g3⟩ := g2.cons
    obtain ⟨b, c4, rfl, ⟨u, rfl, _⟩, g4⟩ := g3.cons
    obtain ⟨b, c5, rfl, ⟨g, rfl⟩, g5⟩ := g4.cons
    obtain rfl := g5.nil
    exact ⟨⟨⟨r, n⟩, ⟨t, u⟩, g⟩, rfl, trivial⟩
  rw [e1, e2] at h2
  exact ⟨l, h2⟩
theorem sl_len_ok {α : Type} {f : α → List AV} {sz : Nat} {s : AS} {v : AV} {l : List α} (h : Sl f sz s v l) (hl : lenOk v) : l.length ≤ reachBytes := by
  rcases h with ⟨_, h, _⟩ | ⟨a, c, e, rfl, _⟩
  · rw [h]; exact Nat.zero_le _
  · exact hl _ _ _ _ rfl
set_option maxRecDepth 100000 in
theorem acts_arg {H : Type} {enc : TypeId × Value → H} {W : World} {base : Nat} {v : Value} (hv : Value.okWide Tryz.prog W .any base Y_s_minsterlaw07iAct v) (h : ∃ (d : DataW H) (p : List MemPlace), DataW.Trod enc Tryz.prog W 0 (fun _ => true) true Y_s_minsterlaw07iAct v d p ∧ light Tryz.prog Y_s_minsterlaw07iAct d) :
    ∃ l : List A07, Acts7 (sW W) (absV W.heap.size (MW W) v) l ∧ (∀ a ∈ l, a.items.length ≤ reachBytes) ∧ l.length ≤ reachBytes := by
  obtain ⟨d, p, h, hw⟩ := h
  obtain ⟨C, h1, h2, h3⟩ := slice_arg3 (d := 5) (hT.und _ _ u_s_minsterlaw07iAct) deep_act deepB_act (by kernel_rfl) (by simp) hv h hw
  obtain ⟨l, e1, e2, e3⟩ := cells_dec (f := act7) (Q := fun a => Act7 (sW W) a ∧ a.items.length ≤ reachBytes) C fun c hc => by
    obtain ⟨g0, hlen⟩ := h2 c hc
    obtain ⟨a, r1, rfl, ⟨k, rfl, _⟩, g1⟩ := cells2.cons g0
    obtain ⟨a, r2, rfl, ⟨t, rfl, _⟩, g2⟩ := cells2.cons g1
    obtain ⟨a, r3, rfl, ⟨u, rfl, _⟩, g3⟩ := cells2.cons g2
    obtain ⟨a, r4, rfl, ⟨r, rfl, _⟩, g4⟩ := cells2.cons g3
    obtain ⟨a, r5, rfl, ⟨n, rfl, _⟩, g5⟩ := cells2.cons g4
    obtain ⟨iv, r6, rfl, hi, g6⟩ := cells2.cons g5
    obtain rfl := cells2.nil g6
    obtain ⟨o1, li, hli⟩ := items_of hi
    exact ⟨⟨k, ⟨t, u⟩, ⟨r, n⟩, iv, li⟩, rfl, ⟨o1, hli⟩, sl_len_ok hli (hlen iv (by simp))⟩
  rw [e1, e2] at h1
  refine ⟨l, ⟨h1, fun a ha => (e3 a ha).1⟩, fun a ha => (e3 a ha).2, ?_⟩
  obtain ⟨fuel, ht⟩ := h
  have hve : v.cells.toList = [v] := by
    cases v with
    | agg l => exfalso; unfold Value.okWide at hv; rw [hT.und _ _ u_s_minsterlaw07iAct] at hv; simp only [Cell.okWide, hT.und _ _ u_s_minsterlaw07iAct, Cell.ok] at hv
    | _ => rfl
  rw [hve] at ht
  exact sl_len_ok h1 (len_slice (hT.und _ _ u_s_minsterlaw07iAct) pos_act ht hw)

/-- how many items acts bear -/
def weigh (l : List A07) : Nat := (l.map fun a => a.items.length).sum
theorem weigh_take {l : List A07} {i : Nat} {a : A07} (h : l[i]? = some a) : weigh (l.take (i + 1)) = weigh (l.take i) + a.items.length := by
  unfold weigh
  rw [List.take_add_one, h, Option.toList_some, List.map_append, List.sum_append]; simp
theorem weigh_le : ∀ (l : List A07), (∀ a ∈ l, a.items.length ≤ reachBytes) → weigh l ≤ l.length * reachBytes
  | [], _ => by simp [weigh]
  | a :: l, h => by
    have := weigh_le l fun b hb => h b (by simp [hb])
    have h1 := h a (by simp)
    unfold weigh at this ⊢
    simp only [List.map_cons, List.sum_cons, List.length_cons, Nat.add_mul, Nat.one_mul]
    omega
theorem reach_val : reachBytes = 140737488351232 := rfl
theorem few7_ok {s : AS} {v : AV} {l : List A07} (h : Acts7 s v l) (hi : ∀ a ∈ l, a.items.length ≤ reachBytes) (hl : l.length ≤ reachBytes) :
    ACalls Tryz.prog F_law07ifew [v] s fun r s' => s' = s ∧ ∃ b, r = .bool b ∧ (b = true → l.length ≤ 100 ∧ weigh l ≤ 300) := by
  rw [reach_val] at hl
  refine q_law07ifew _ _ _ ⟨fun vs s' => s' = s ∧ ∃ n : Int, vs = [.int .i64 n] ∧ (l.length ≤ 100 → n = (weigh l : Nat)), ?_, fun m vs s' => ∃ (i : Nat) (n : Int), vs = [.int .i64 n, .int .i64 (i : Nat)] ∧ i ≤ l.length ∧ m = l.length - i ∧ s' = s ∧ (l.length ≤ 100 → n = (weigh (l.take i) : Nat)), l.length, ⟨0, 0, rfl, by omega, rfl, rfl, fun _ => by simp [weigh]⟩, ?_⟩
  · rintro n s3 ⟨rfl, n', hn, hw⟩
    simp only [List.cons.injEq, AV.int.injEq, true_and, and_true] at hn
    subst hn
    refine ⟨_, h.sl.lenB u_s_minsterlaw07iAct _, bsplit.dec (fun h1 => ⟨rfl, _, rfl, fun h2 => ?_⟩) (fun h1 => ⟨rfl, _, rfl, by simp⟩)⟩
    simp only [decide_eq_true_eq] at h2
    have h3 : l.length ≤ 100 := by omega
    have := hw h3
    exact ⟨h3, by omega⟩
  · rintro m n8 n9 s10 ⟨i, n, hin, h6, rfl, rfl, hw⟩
    simp only [List.cons.injEq, AV.int.injEq, true_and, and_true] at hin
    obtain ⟨rfl, rfl⟩ := hin
    refine ⟨_, h.sl.lenB u_s_minsterlaw07iAct _, bsplit.dec (fun hlt => ?_) (fun hge => ⟨rfl, n8, rfl, fun h1 => ?_⟩)⟩
    · obtain ⟨a, ha⟩ := get_lt (l := l) (i := i) (by omega)
      obtain ⟨la, oa, k8, k9⟩ := h.sl.ix (by decide) act7_len u_s_minsterlaw07iAct z_minsterlaw07iAct ha
      have hai := List.mem_of_getElem? ha
      refine ⟨la, oa, k8 _, a.av, (k9 _ (Ext.refl _)).1 5 (by decide), _, (h.each a hai).it.lenB u_s_Item _, l.length - (i + 1), by omega, i + 1, _, by rw [wrap_i (n := (i : Int) + 1) (by omega)]; rfl, by omega, rfl, rfl, fun h1 => ?_⟩
      have hbnd := weigh_le (l.take i) fun b hb => hi b (List.mem_of_mem_take hb)
      have hti : (l.take i).length ≤ 100 := by rw [List.length_take]; omega
      have h2 := hi a hai
      rw [reach_val] at hbnd h2
      have h3 : weigh (l.take i) ≤ 100 * 140737488351232 := Nat.le_trans hbnd (Nat.mul_le_mul_right _ hti)
      rw [hw h1, wrap_i (by omega), weigh_take ha]
      omega
    · rw [List.take_of_length_le (by omega)] at hw
      exact hw h1
end Go.Proofs.YtoklmpkpeanloaaGreat
end

section
set_option linter.unusedSimpArgs false
set_option linter.unusedVariables false
namespace Go.Proofs.YtoklmpkpeanloaaGreat
open Go.Am Go.Minster Go.Minster2
section
variable {s0 s : AS} {p q : Nat} {x : OSet} {B : Nat} {F G : List Nat}
end
end Go.Proofs.YtoklmpkpeanloaaGreat
end

section
set_option linter.unusedSimpArgs false
set_option linter.unusedVariables false
namespace Go.Am
/-- a heap without some objects -/
def AS.less (s : AS) (L : List Nat) : AS := L.foldl AS.kill s
theorem AS.less_h (s : AS) (L : List Nat) (x : Nat) : (s.less L).h x = if x ∈ L then none else s.h x := by
  unfold AS.less
  induction L generalizing s with
  | nil => simp
  | cons a L ih =>
    rw [List.foldl_cons, ih, AS.kill_h]
    by_cases h1 : x ∈ L
    · simp [h1]
    · by_cases h2 : x = a <;> simp [h1, h2]
theorem AS.less_nl (s : AS) (L : List Nat) : (s.less L).nl = s.nl := by
  unfold AS.less
  induction L generalizing s with
  | nil => rfl
  | cons a L ih => rw [List.foldl_cons, ih, AS.kill_nl]
theorem AS.less_ext (s : AS) (L : List Nat) : Ext (s.less L) s := ⟨(fun l o h => by rw [AS.less_h] at h; split at h <;> first | exact h | cases h), by rw [AS.less_nl]; exact Nat.le_refl _⟩
theorem AS.less_mut (s : AS) (L : List Nat) : Mut L s (s.less L) := ⟨fun l o hl h => by rw [AS.less_h, if_neg hl]; exact h, by rw [AS.less_nl]; exact Nat.le_refl _⟩
theorem AS.less_of {s0 s : AS} {L : List Nat} (e : Ext s0 s) (hL : ∀ x ∈ L, s0.h x = none) : Ext s0 (s.less L) :=
  ⟨fun l o h => by rw [AS.less_h, if_neg (fun hm => by rw [hL l hm] at h; cases h)]; exact e.1 l o h, by rw [AS.less_nl]; exact e.2⟩
end Go.Am
namespace Go.Proofs.YtoklmpkpeanloaaGreat
open Go.Am Go.Minster Go.Minster2
section
variable {s0 s s' : AS} {p q : Nat} {x y : OSet} {B : Nat}
/-- a pair, seen from a heap that holds all else -/
theorem Pair2.base {F G : List Nat} (e0 : Ext s0 s) (h1 : SetO s0 s F p x B) (h2 : RefO G s q y) (h3 : ∀ z ∈ G, s0.h z = none) (h4 : ∀ z ∈ G, s.h z ≠ none) (h5 : Dj F G) :
    Pair2 (s.less (F ++ G)) s p q x y B :=
  ⟨s.less_ext _, F, G, ⟨h1.set, h1.ok, fun z hz => by rw [AS.less_h, if_pos (by simp [hz])], h1.there⟩, h2, fun z hz => by rw [AS.less_h, if_pos (by simp [hz])], h4, h5⟩
end
theorem build_ref7 : abuild T Y_minsterref07iSet [] = some (.agg (zeros.map (.int .u64) ++ [.slc none 0 0 true, .slc none 0 0 true])) := by kernel_rfl
theorem start7 {s0 s : AS} (e0 : Ext s0 s) {K : Option (Nat × Nat) → Nat → AS → Prop} (hK : ∀ p q s', WFs s' → Ext s s' → Pair2 s0 s' p q OSet.zero OSet.zero 0 → K (some (p, 0)) q s') :
    ACalls Tryz.prog F_orset_New [] s fun v7 s8 => ∃ p9 : Option (Nat × Nat), v7 = .ptr p9 ∧ (RdG (abuild T Y_minsterref07iSet []) fun g10 => One1 g10 (NewQ (.cells g10 0 false) s8 fun l11 s12 => K p9 l11 s12)) := by
  refine ACalls.use (New_ok s) ?_
  rintro v s8 ⟨p, F, rfl, h1, h2, h3, e8⟩ w8
  refine ⟨_, rfl, _, build_ref7, by decide, NewQ.intro w8 rfl fun l s12 F12 => hK p l s12 F12.wf (e8.trans F12.ext) ⟨e0.trans (e8.trans F12.ext), F, [l], ⟨h1.ext F12.ext, OOk.zero, fun y hy => e0.none (h2 y hy), fun y hy hn => h3 y hy (F12.ext.none hn)⟩, ⟨COk.zero, (fun y hy => by cases hy), .slc none 0 0 true, .slc none 0 0 true, [], F12.own, ⟨rfl, by simp, Gro.nil⟩, ⟨rfl, by simp, Gro.nil⟩, Items.zero, by simp, by simp [labOf], by simp [labOf]⟩, ?_, ?_, ?_⟩⟩
  · intro z hz; obtain rfl := List.mem_singleton.1 hz; exact e0.none (e8.none F12.no)
  · intro z hz; obtain rfl := List.mem_singleton.1 hz; rw [F12.at]; simp
  · intro z hz hg; obtain rfl := List.mem_singleton.1 hg; exact h3 z hz F12.no
end Go.Proofs.YtoklmpkpeanloaaGreat
end

section
set_option linter.unusedSimpArgs false
set_option linter.unusedVariables false
namespace Go.Proofs.YtoklmpkpeanloaaGreat
open Go.Am Go.Minster Go.Minster2
/-- the labels of a slice that is new -/
theorem SI.ArrN.keep {s0 s s' : AS} {v : AV} {l : List Itm} {L : List Nat} (h : SI.ArrN s0 s v l) (m : Mut L s s') (hL : ∀ z ∈ L, s0.h z ≠ none) : Sl itemC 5 s' v l := by
  obtain ⟨e, ⟨rfl, a, rfl⟩ | ⟨la, rfl, hA, hn⟩⟩ := h
  · exact Sl.nil
  · exact SI.ArrN.dots (s0 := s'.less [la]) ⟨AS.less_ext _ _, .inr ⟨la, rfl, hA.mut m fun hm => hL la hm hn, by rw [AS.less_h, if_pos (by simp)]⟩⟩
end Go.Proofs.YtoklmpkpeanloaaGreat
end

section
set_option linter.unusedVariables false
set_option maxRecDepth 100000
set_option maxHeartbeats 4000000
namespace Go.Proofs.YtoklmpkpeanloaaGreat
open Go.Am

/-- what minster/minsterlaw07.OrsetCollects asks -/
def Q_law07iOrsetCollects (a0 : AV) (a1 : List AV) (s : AS) (R : AV → AS → Prop) : Prop :=
 One1 a1 (NewQ (.cells a1 0 false) s fun l1 s2 => JoinQ fun J3 =>
 (∀ b4 : Bool, ∀ s5 : AS, J3 [(.bool b4)] s5 →
 bsplit b4
 (ACalls Tryz.prog F_law07iknown [] s5 fun v6 s7 => ∃ b8 : Bool, v6 = .bool b8 ∧ (R (.bool b8) s7))
 (ACalls Tryz.prog F_orset_New [] s5 fun v9 s10 => ∃ p11 : Option (Nat × Nat), v9 = .ptr p11 ∧ (RdG (abuild T Y_minsterref07iSet []) fun g12 => One1 g12 (NewQ (.cells g12 0 false) s10 fun l13 s14 => JoinQ fun J15 =>
 (∀ s16 : AS, J15 [] s16 →
 ACalls Tryz.prog F_orset_Set_Copy [(.ptr p11)] s16 fun v17 s18 => ∃ p19 : Option (Nat × Nat), v17 = .ptr p19 ∧ (ACalls Tryz.prog F_orset_Set_Tombs [(.ptr p11)] s18 fun v20 s21 => JoinQ fun J22 =>
 (∀ s23 : AS, J22 [] s23 →
 ACalls Tryz.prog F_orset_Set_Tombs [(.ptr p11)] s23 fun v24 s25 => RdI .i64 (alenB T Y_s_Dot v24 s25) fun n26 => bsplit ((n26 : Int) == 0) (ACalls Tryz.prog F_orset_Set_Ctx [(.ptr p11)] s25 fun v27 s28 => ∃ p29 : Option (Nat × Nat), v27 = .ptr p29 ∧ (ACalls Tryz.prog F_orset_Set_Ctx [(.ptr p19)] s28 fun v30 s31 => ∃ p32 : Option (Nat × Nat), v30 = .ptr p32 ∧ (ACalls Tryz.prog F_ctx_Ctx_Same [(.ptr p29), (.ptr p32)] s31 fun v33 s34 => ∃ b35 : Bool, v33 = .bool b35 ∧ (bsplit b35 (ACalls Tryz.prog F_orset_Set_Keys [(.ptr p11)] s34 fun v36 s37 => ACalls Tryz.prog F_orset_Set_Keys [(.ptr p19)] s37 fun v38 s39 => ACalls Tryz.prog F_ref07iSameKeys [v36, v38] s39 fun v40 s41 => ∃ b42 : Bool, v40 = .bool b42 ∧ (bsplit b42 (ACalls Tryz.prog F_orset_Set_Items [(.ptr p11)] s41 fun v43 s44 => RdI .i64 (alenB T Y_s_Item v43 s44) fun n45 => RdI .i64 (alenB T Y_s_Dot v20 s44) fun n46 => ACalls Tryz.prog F_orset_Set_Items [(.ptr p19)] s44 fun v47 s48 => RdI .i64 (alenB T Y_s_Item v47 s48) fun n49 => bsplit ((IntKind.wrap .i64 (n45 + n46) : Int) == n49) (ACalls Tryz.prog F_law07iknown [] s48 fun v50 s51 => ∃ b52 : Bool, v50 = .bool b52 ∧ (R (.bool b52) s51)) (R (.bool false) s48)) (R (.bool false) s41))) (R (.bool false) s34))))) (R (.bool false) s25)) ∧
 (LoopQ fun I53 m54 => I53 m54 [(.int .i64 0)] s21 ∧
 ∀ m55 : Nat, ∀ n56 : Int, ∀ s57 : AS, I53 m55 [(.int .i64 n56)] s57 →
 RdI .i64 (alenB T Y_s_Dot v20 s57) fun n58 => bsplit (decide ((n56 : Int) < n58))
 (IxQ (aindexAddr T Y_s_Dot v20 (.int .i64 n56)) fun l59 o60 => RdL (rdc s57 l59 o60 2) fun g61 => ACalls Tryz.prog F_orset_Set_Collect [(.ptr p11), (.agg g61)] s57 fun v62 s63 => ∃ n64 : Int, v62 = .int .i64 n64 ∧ (bsplit ((n64 : Int) != 0) (R (.bool false) s63) (IxQ (aindexAddr T Y_s_Dot v20 (.int .i64 n56)) fun l65 o66 => RdL (rdc s63 l65 o66 2) fun g67 => ACalls Tryz.prog F_orset_Set_Collect [(.ptr p11), (.agg g67)] s63 fun v68 s69 => ∃ n70 : Int, v68 = .int .i64 n70 ∧ (bsplit ((n70 : Int) != 6)
 (R (.bool false) s69)
 (DrawQ fun S V => IxQ (aindexAddr T Y_s_Dot v20 (.int .i64 n56)) fun l71 o72 => RdL (rdc s69 l71 o72 2) fun g73 => RdG (abuild T Y_Item [(0, (.agg g73)), (2, (.bool true))]) fun g74 => IxQ (aindexAddr T Y_s_Dot v20 (.int .i64 n56)) fun l75 o76 => RdL (rdc s69 l75 o76 2) fun g77 => RdL (rdc s69 l1 0 2) fun g78 => RdG (abuild T Y_Item [(0, (.agg g77)), (1, (.agg g78))]) fun g79 => (∀ s80 : AS, Ext s69 s80 → WFs s80 → (True) → RdL (absl T Y_s_Item 2 [(0, (.agg g74)), (1, (.agg g79))]) fun g81 => NewQ (.cells g81 0 false) s80 fun l82 s83 => (Ext s80 s83 ∧ S 12 [(.agg g74), (.agg g79)] (.slc (some (l82, 0)) 2 2 true) s83 ∧ V 12 [(.agg g74), (.agg g79)] (.slc (some (l82, 0)) 2 2 true))) ∧ (∃ v, V 12 [(.agg g74), (.agg g79)] v) ∧ ∀ v84 : AV, V 12 [(.agg g74), (.agg g79)] v84 → ∀ s85 : AS, Ext s69 s85 → WFs s85 → (S 12 [(.agg g74), (.agg g79)] v84 s85 ∧ True) → ACalls Tryz.prog F_orset_Set_See [(.ptr p11), v84] s85 fun v87 s88 => ∃ b89 : Bool, ∃ n90 : Int, v87 = .tup [(.bool b89), (.int .i64 n90)] ∧ (bsplit b89 (R (.bool false) s88) (bsplit ((n90 : Int) != 0) (R (.bool false) s88) (IxQ (aindexAddr T Y_s_Dot v20 (.int .i64 n56)) fun l91 o92 => RdL (rdc s88 l91 o92 2) fun g93 => ACalls Tryz.prog F_orset_Set_Gone [(.ptr p11), (.agg g93)] s88 fun v94 s95 => ∃ b96 : Bool, v94 = .bool b96 ∧ (bsplit (!b96)
 (R (.bool false) s95)
 (∃ m', m' < m55 ∧ I53 m' [(.int .i64 (IntKind.wrap .i64 (n56 + 1)))] s95))))))))))
 (J22 [] s57)))) ∧
 (LoopQ fun I97 m98 => I97 m98 [(.int .i64 0)] s14 ∧
 ∀ m99 : Nat, ∀ n100 : Int, ∀ s101 : AS, I97 m99 [(.int .i64 n100)] s101 →
 RdI .i64 (alenB T Y_s_minsterlaw07iAct a0 s101) fun n102 => bsplit (decide ((n100 : Int) < n102))
 (IxQ (aindexAddr T Y_s_minsterlaw07iAct a0 (.int .i64 n100)) fun l103 o104 => RdL (rdc s101 l103 o104 6) fun g105 => ACalls Tryz.prog F_law07ido [(.ptr p11), (.ptr (some (l13, 0))), (.agg g105)] s101 fun v106 s107 => ∃ b108 : Bool, v106 = .bool b108 ∧ (bsplit (!b108)
 (R (.bool false) s107)
 (∃ m', m' < m99 ∧ I97 m' [(.int .i64 (IntKind.wrap .i64 (n100 + 1)))] s107)))
 (J15 [] s101)))))) ∧
 (ACalls Tryz.prog F_law07ifew [a0] s2 fun v109 s110 => ∃ b111 : Bool, v109 = .bool b111 ∧ (bsplit (!b111) (J3 [(.bool true)] s110) (RdI .i64 (alenB T Y_s_minsterlaw07iAct a0 s110) fun n112 => bsplit (decide ((n112 : Int) > 60)) (J3 [(.bool true)] s110) (RdS (rd1 s110 l1 0) fun x113 => ACalls Tryz.prog F_ref07iName [(.str x113)] s110 fun v114 s115 => ∃ b116 : Bool, v114 = .bool b116 ∧ (bsplit (!b116) (J3 [(.bool true)] s115) (RdS (rd1 s115 l1 1) fun x117 => ACalls Tryz.prog F_ref07iName [(.str x117)] s115 fun v118 s119 => ∃ b120 : Bool, v118 = .bool b120 ∧ (J3 [(.bool (!b120))] s119))))))))

def A_law07iOrsetCollects : QA := (.seq .leaf (.seq (.join [(32, .bool)] [(13, 32)] .leaf (.cond (.seq .leaf .leaf) .leaf)) (.seq .leaf (.join [] [(4, 4), (7, 7), (37, 50)] (.seq .leaf (.wrap (.loop [(7, .int .i64)] [(4, 4), (7, 7), (37, 50)] (.seq (.seq .leaf (.cond .leaf .leaf)) (.seq (.wrap (.seq .leaf (.cond (.seq .leaf .leaf) .leaf))) .leaf))))) (.seq .leaf (.seq .leaf (.join [] [(4, 4), (10, 12), (55, 107)] (.seq .leaf (.wrap (.loop [(10, .int .i64)] [(4, 4), (10, 12), (55, 107)] (.seq (.seq .leaf (.cond .leaf .leaf)) (.seq (.wrap (.seq (.seq .leaf (.cond (.seq .leaf .leaf) .leaf)) (.seq (.drawT [0, 1, 2, 3, 4, 5, 6, 7, 8, 9, 10, 11, 12] [13, 14, 15, 16, 17, 18] [[], [], [], [], [], [], [], [], [], [], [], [], [], [], [], [], [], [], []] [12]) (.seq .leaf (.cond (.seq .leaf .leaf) .leaf))))) .leaf))))) (.seq .leaf .leaf))))))))

theorem q_law07iOrsetCollects (a0 : AV) (a1 : List AV) (s : AS) (R : AV → AS → Prop) (h : Q_law07iOrsetCollects a0 a1 s R) : ACalls Tryz.prog F_law07iOrsetCollects [a0, (.agg a1)] s R :=
  ACalls.q (n := 141) (rs := [.tmp 4]) (A := A_law07iOrsetCollects) hT hmx Tryz.func7 (by kernel_rfl) rfl rfl rfl (by kernel_rfl) (by kernel_rfl) h


end Go.Proofs.YtoklmpkpeanloaaGreat
end

section
set_option linter.unusedSimpArgs false
set_option linter.unusedVariables false
namespace Go.Proofs.YtoklmpkpeanloaaGreat
open Go.Am Go.Minster Go.Minster2

/-! ### plainly -/
/-- y is x, but for tombstones at t that were let go -/
structure Colld (x : OSet) (t : List Dot) (y : OSet) : Prop where
  v : y.v = x.v
  ex : y.ex = x.ex
  live : y.live = x.live
  tomb : ∀ d, y.tomb d = (x.tomb d && !decide (d ∈ t))
theorem Colld.start (x : OSet) : Colld x [] x := ⟨rfl, rfl, rfl, fun d => by simp⟩
theorem Colld.step {x y : OSet} {t : List Dot} (h : Colld x t y) (d : Dot) : Colld x (t ++ [d]) (y.coll d) :=
  ⟨h.v, h.ex, h.live, fun e => by simp only [OSet.coll, h.tomb, List.mem_append, List.mem_singleton]; by_cases h1 : e ∈ t <;> by_cases h2 : e = d <;> simp [h1, h2]⟩
theorem has_may {x : OSet} {d : Dot} (h : x.has d = true) : d.may = true := (hasD_iff.1 h).1
theorem Colld.has {x y : OSet} {t : List Dot} (h : Colld x t y) (d : Dot) : y.has d = x.has d := by unfold OSet.has; rw [h.v, h.ex]
/-- what was seen is not seen anew -/
theorem sees_old {y : OSet} {d : Dot} (h : y.has d = true) (hl : y.live d = none) (k : Key) : y.sees [goneI d, ⟨d, k, false⟩] = (false, y) := by
  have h' : hasD y.v y.ex d = true := h
  have s1 : y.see (goneI d) = (false, y) := by simp [OSet.see, goneI, hl, h']
  have s2 : y.see ⟨d, k, false⟩ = (false, y) := by simp [OSet.see, h']
  simp [OSet.sees, s1, s2]
/-- what is left of the items -/
theorem Colld.items {x y : OSet} {t : List Dot} (h : Colld x t y) {I J : List Itm} (hI : Items y I) (hJ : Items x J) (ht : Rising t) (hm : ∀ d, d ∈ t ↔ x.tomb d = true) : I.length + t.length = J.length := by
  have h0 : ∀ d, y.tomb d = false := fun d => by
    rw [h.tomb]
    cases hx : x.tomb d with
    | false => rfl
    | true => simp [(hm d).2 hx]
  have e1 : I = liveI J := by
    refine hI.uniq ⟨?_, fun i => ?_⟩
    · exact hJ.ris.sublist (List.Sublist.map _ List.filter_sublist)
    · rw [liveI_mem hJ]
      unfold OSet.item
      cases hg : i.gone with
      | true => simp [h0]
      | false => simp [h.live]
  have e2 : (J.filter fun i => i.gone).map Itm.dot = t := by
    refine rising_uniq (hJ.ris.sublist (List.Sublist.map _ List.filter_sublist)) ht fun d => ?_
    rw [hm, List.mem_map]
    constructor
    · rintro ⟨i, hi, rfl⟩
      obtain ⟨h1, h2⟩ := List.mem_filter.1 hi
      have := (hJ.mem i).1 h1
      unfold OSet.item at this
      rw [h2] at this
      exact this.1
    · intro hd
      exact ⟨goneI d, List.mem_filter.2 ⟨(hJ.mem _).2 ⟨hd, rfl⟩, rfl⟩, rfl⟩
  have e3 : ∀ L : List Itm, L.length = (L.filter fun i => i.gone).length + (L.filter fun i => !i.gone).length := by
    intro L
    induction L with
    | nil => rfl
    | cons a L ih => cases hg : a.gone <;> simp only [List.filter_cons, hg, List.length_cons, if_true, if_false, Bool.not_true, Bool.not_false, Bool.false_eq_true] <;> omega
  rw [e3 J, ← e2, e1, List.length_map]
  unfold liveI
  omega

/-! ### at a set -/
section
variable {s0 s : AS} {F : List Nat} {p : Nat} {x : OSet} {B : Nat}
theorem SetO.coll1 (h : SetO s0 s F p x B) (e0 : Ext s0 s) (d : Dot) (hd : d.may = true) (ht : x.tomb d = true) :
    ACalls Tryz.prog F_orset_Set_Collect [.ptr (some (p, 0)), .agg (dotC d)] s fun r s' => r = .int .i64 0 ∧ Ext s0 s' ∧ SetO s0 s' F p (x.coll d) B := by
  refine (Collect_ok h.set h.there d).mono ?_
  rintro r s' (⟨c1, _⟩ | ⟨_, c2, _⟩ | ⟨c1, c2, rfl, hS, ht, m, hm, mm, hC⟩)
  · rw [hd] at c1; cases c1
  · rw [ht] at c2; cases c2
  · exact ⟨rfl, Ext.wr e0 (h.new m hm) mm, hS, h.ok.coll d, h.new, ht⟩
theorem SetO.coll0 (h : SetO s0 s F p x B) (d : Dot) (hd : d.may = true) (ht : x.tomb d = false) :
    ACalls Tryz.prog F_orset_Set_Collect [.ptr (some (p, 0)), .agg (dotC d)] s fun r s' => r = .int .i64 6 ∧ Ext s s' := by
  refine (Collect_ok h.set h.there d).mono ?_
  rintro r s' (⟨c1, _⟩ | ⟨_, c2, rfl, e⟩ | ⟨c1, c2, _⟩)
  · rw [hd] at c1; cases c1
  · exact ⟨rfl, e⟩
  · rw [ht] at c2; cases c2
end
theorem item2_row (i j : Itm) : absl T Y_s_Item 2 [(0, .agg (itemC i)), (1, .agg (itemC j))] = some (itemC i ++ itemC j) := by kernel_rfl
theorem build_live (d : Dot) (k : Key) : abuild T Y_Item [(0, .agg (dotC d)), (1, .agg (keyC k))] = some (.agg (itemC ⟨d, k, false⟩)) := by kernel_rfl
theorem ArrN.keep {s0 s s' : AS} {v : AV} {l : List Dot} {L : List Nat} (h : ArrN s0 s v l) (m : Mut L s s') (hL : ∀ z ∈ L, s0.h z ≠ none) : Dots s' v l := by
  obtain ⟨e, ⟨rfl, a, rfl⟩ | ⟨la, rfl, hA, hn⟩⟩ := h
  · exact Sl.nil
  · exact ArrN.dots (s0 := s'.less [la]) ⟨AS.less_ext _ _, .inr ⟨la, rfl, hA.mut m fun hm => hL la hm hn, by rw [AS.less_h, if_pos (by simp)]⟩⟩

set_option maxRecDepth 100000 in
set_option maxHeartbeats 1000000 in
theorem orsetCollects_ok {s : AS} {v : AV} {l : List A07} {k : Key} (h : Acts7 s v l) (hi : ∀ a ∈ l, a.items.length ≤ reachBytes) (hl : l.length ≤ reachBytes) :
    ACalls Tryz.prog F_law07iOrsetCollects [v, .agg (keyC k)] s fun r s' => r = .bool true := by
  refine ACalls.pre fun hw => q_law07iOrsetCollects _ _ _ _ ⟨rfl, NewQ.intro hw rfl fun l1 s2 F2 => ?_⟩
  have a2 : Acts7 s2 v l := ⟨h.sl.ext F2.ext, fun a ha => (h.each a ha).ext F2.ext⟩
  have c2 : At s2 l1 (keyC k) := F2.own.at
  refine ⟨fun vs s' => Ext s2 s' ∧ WFs s' ∧ ∃ b, vs = [.bool b] ∧ (b = false → l.length ≤ 60 ∧ weigh l ≤ 300 ∧ k.may = true), ?_, ?_⟩
  rotate_left
  · refine ACalls.use (few7_ok a2 hi hl) ?_
    rintro r s110 ⟨rfl, b, rfl, hfew⟩ w2
    refine ⟨_, rfl, bsplit.mk (fun hb => ⟨Ext.refl _, w2, _, rfl, by simp⟩) (fun hb => ?_)⟩
    obtain ⟨hn, hw⟩ := hfew (by simpa using hb)
    refine ⟨_, a2.sl.lenB u_s_minsterlaw07iAct _, bsplit.dec (fun _ => ⟨Ext.refl _, w2, _, rfl, by simp⟩) (fun hle => ⟨k.t, by rw [c2.rd1]; rfl, ?_⟩)⟩
    refine ACalls.use (refName_ok _ _) ?_
    rintro v s' ⟨rfl, rfl⟩ w3
    refine ⟨_, rfl, bsplit.mk (fun hb => ⟨Ext.refl _, w3, _, rfl, by simp⟩) (fun h1 => ⟨k.d, by rw [c2.rd1]; rfl, ?_⟩)⟩
    refine ACalls.use (refName_ok _ _) ?_
    rintro v s' ⟨rfl, rfl⟩ w4
    refine ⟨_, rfl, Ext.refl _, w4, _, rfl, fun h2 => ⟨by omega, hw, ?_⟩⟩
    simp only [Bool.not_eq_false'] at h1 h2
    simp [Key.may, h1, h2]
  rintro b s5 ⟨e5, w5, b', hb', hsm⟩
  obtain rfl : b = b' := by simpa using hb'
  refine bsplit.mk (fun hb => ?_) (fun hb => ?_)
  · refine ACalls.use (known07_ok _) ?_
    rintro r s5 ⟨rfl, _⟩ _
    exact ⟨_, rfl, rfl⟩
  obtain ⟨hn, hwt0, hk⟩ := hsm hb
  refine start7 e5 fun p q s14 w14 e14 P0 => ?_
  refine ⟨fun vs s' => vs = [] ∧ WFs s' ∧ ∃ x, Pair2 s2 s' p q x x 400, ?_, fun m vs s' => ∃ (i : Nat) (x : OSet), vs = [.int .i64 (i : Nat)] ∧ i ≤ l.length ∧ m = l.length - i ∧ WFs s' ∧ Pair2 s2 s' p q x x (i + weigh (l.take i)), l.length, ⟨0, _, rfl, by omega, rfl, w14, by simpa [weigh] using P0⟩, ?_⟩
  rotate_left
  · rintro m n s17 ⟨i, x, hin, h6, rfl, w17, P⟩
    simp only [List.cons.injEq, AV.int.injEq, true_and, and_true] at hin
    subst hin
    refine ⟨_, a2.sl.lenB u_s_minsterlaw07iAct _, bsplit.dec (fun hlt => ?_) (fun hge => ?_)⟩
    · obtain ⟨a, ha⟩ := get_lt (l := l) (i := i) (by omega)
      have hwt := weigh_take ha
      have hwl : weigh (l.take (i + 1)) ≤ weigh l := by
        have : weigh l = weigh (l.take (i + 1)) + weigh (l.drop (i + 1)) := by
          unfold weigh
          rw [← List.sum_append, ← List.map_append, List.take_append_drop]
        omega
      obtain ⟨la, oa, k8, k9⟩ := a2.sl.ix (by decide) act7_len u_s_minsterlaw07iAct z_minsterlaw07iAct ha
      have hA := a2.each a (List.mem_of_getElem? ha)
      refine ⟨la, oa, k8 _, _, (k9 _ P.e).2, ?_⟩
      refine ACalls.use (do_ok P a hA (by omega)) ?_
      rintro v s28 ⟨rfl, x', P2⟩ w28
      exact ⟨_, rfl, bsplit.no rfl ⟨l.length - (i + 1), by omega, i + 1, x', by rw [wrap_i (by omega)]; rfl, by omega, rfl, w28, P2.mono (by omega)⟩⟩
    · have hwl : weigh (l.take i) ≤ weigh l := by
        rw [List.take_of_length_le (by omega)]; exact Nat.le_refl _
      exact ⟨rfl, w17, x, P.mono (by omega)⟩
  rintro s16 ⟨_, w16, x, P⟩
  obtain ⟨e0, F, G, h1, _⟩ := P
  obtain ⟨bl, bt⟩ := h1.set.bnd h1.ok
  refine ACalls.use (Copy_ok h1.set) ?_
  rintro v s18 ⟨p', F', rfl, hC, n1, n2, e18⟩ w18
  refine ⟨_, rfl, ?_⟩
  refine ACalls.use (Tombs_ok (h1.set.ext e18) (by omega)) ?_
  rintro v20 s21 ⟨t, hA, tris, tmem, tlen⟩ w21
  have e21 := hA.1
  have E := e18.trans e21
  have hF18 : ∀ z ∈ F, s18.h z ≠ none := fun z hz hn => h1.there z hz (e18.none hn)
  have hC0 : SetF F' (s21.less F) p' x := (hC.ext e21).mut (s21.less_mut _) fun y hy hf => h1.there y hy (n1 y hf)
  have hA0 : Dots (s21.less F) v20 t := hA.keep (s21.less_mut _) hF18
  have eb : Ext s2 (s21.less F) := AS.less_of (e0.trans E) h1.new
  have c0 : At (s21.less F) l1 (keyC k) := c2.ext eb
  have S0 : SetO (s21.less F) s21 F p x 400 := ⟨h1.set.ext E, h1.ok, fun z hz => by rw [AS.less_h, if_pos hz], fun z hz hn => h1.there z hz (E.none hn)⟩
  have eB : Ext (s21.less F) s21 := s21.less_ext _
  generalize s21.less F = sB at *
  refine ⟨fun vs s' => vs = [] ∧ WFs s' ∧ ∃ F1 y, SetO sB s' F1 p y 400 ∧ Ext sB s' ∧ Colld x t y, ?_, fun m vs s' => ∃ (i : Nat) (F1 : List Nat) (y : OSet), vs = [.int .i64 (i : Nat)] ∧ i ≤ t.length ∧ m = t.length - i ∧ WFs s' ∧ SetO sB s' F1 p y 400 ∧ Ext sB s' ∧ Colld x (t.take i) y, t.length, ⟨0, F, x, rfl, by omega, rfl, w21, S0, eB, Colld.start x⟩, ?_⟩
  · rintro s23 ⟨_, w23, F1, y, S1, e23, cl⟩
    obtain ⟨bl1, bt1⟩ := S1.set.bnd S1.ok
    refine ACalls.use (Tombs_ok S1.set (by omega)) ?_
    rintro v24 s25 ⟨t2, hA2, _, tmem2, _⟩ w25
    have ht2 : t2 = [] := by
      cases t2 with
      | nil => rfl
      | cons d t2 =>
        have := (tmem2 d).1 (by simp)
        rw [cl.tomb] at this
        simp only [Bool.and_eq_true, Bool.not_eq_true', decide_eq_false_iff_not] at this
        exact absurd ((tmem d).2 this.1) this.2
    subst ht2
    refine ⟨_, hA2.dots.lenB u_s_Dot _, bsplit.yes rfl ?_⟩
    have S2 := S1.set.ext hA2.1
    refine ACalls.use (Ctx_ok S2) ?_
    rintro v27 s28 ⟨q1, rfl, hq1, g1, e28⟩ w28
    refine ⟨_, rfl, ?_⟩
    have E28 := (e23.trans hA2.1).trans e28
    refine ACalls.use (Ctx_ok (hC0.ext E28)) ?_
    rintro v30 s31 ⟨q2, rfl, hq2, g2, e31⟩ w31
    refine ⟨_, rfl, ?_⟩
    have hex := S1.ok.exlen
    refine ACalls.use (Same_ok (g1.at.ext e31) g2.at (by omega)) ?_
    rintro v33 s34 ⟨rfl, rfl⟩ w34
    refine ⟨_, rfl, bsplit.yes (by simp [cl.v, cl.ex]) ?_⟩
    have E31 := E28.trans e31
    refine ACalls.use (Keys_ok (S2.ext (e28.trans e31)) (by omega)) ?_
    rintro v36 s37 ⟨l1', k1, k2, k3, e37, k4⟩ w37
    refine ACalls.use (Keys_ok (hC0.ext (E31.trans e37)) (by omega)) ?_
    rintro v38 s39 ⟨l2', j1, j2, j3, e39, j4⟩ w39
    obtain rfl := kris_uniq k1 j1 fun k => by rw [k2, j2, cl.live]
    refine ACalls.use (SameKeys_ok (k3.ext e39) j3 (by omega)) ?_
    rintro v40 s41 ⟨rfl, rfl⟩ w41
    refine ⟨_, rfl, bsplit.yes (by simp) ?_⟩
    have E39 := (E31.trans e37).trans e39
    refine ACalls.use (Items_ok (S2.ext (((e28.trans e31).trans e37).trans e39)) S1.ok (by omega)) ?_
    rintro v43 s44 ⟨I, hI, sI, e44⟩ w44
    refine ⟨_, sI.lenB u_s_Item _, _, hA0.lenB u_s_Dot _, ?_⟩
    refine ACalls.use (Items_ok (hC0.ext (E39.trans e44)) h1.ok (by omega)) ?_
    rintro v47 s48 ⟨J, hJ, sJ, e48⟩ w48
    have hlen := cl.items hI hJ tris tmem
    have hJl := hJ.len h1.ok
    refine ⟨_, sJ.lenB u_s_Item _, bsplit.yes (by rw [wrap_i (by omega)]; simp; omega) ?_⟩
    refine ACalls.use (known07_ok _) ?_
    rintro r s5 ⟨rfl, _⟩ _
    exact ⟨_, rfl, rfl⟩
  · rintro m n s57 ⟨i, F1, y, hin, h6, rfl, w57, S1, e57, cl⟩
    simp only [List.cons.injEq, AV.int.injEq, true_and, and_true] at hin
    subst hin
    refine ⟨_, hA0.lenB u_s_Dot _, bsplit.dec (fun hlt => ?_) (fun hge => ?_)⟩
    rotate_left
    · rw [List.take_of_length_le (by omega)] at cl
      exact ⟨rfl, w57, F1, y, S1, e57, cl⟩
    obtain ⟨d, hd⟩ := get_lt (l := t) (i := i) (by omega)
    have hdt : d ∈ t := List.mem_of_getElem? hd
    have hxt : x.tomb d = true := (tmem d).1 hdt
    have hxh := (h1.ok.tb d hxt).1
    have hxl := (h1.ok.tb d hxt).2
    have hdm := has_may hxh
    have hnt : d ∉ t.take i := fun hm => by
      obtain ⟨j, hj, hj2⟩ := List.mem_take_iff_getElem.1 hm
      have hnd := rising_nodup tris
      have h3 : t[i]? = t[j]? := by rw [hd, List.getElem?_eq_getElem (by omega), hj2]
      have := (List.getElem?_inj (by omega) hnd).1 h3
      omega
    have hyt : y.tomb d = true := by rw [cl.tomb, hxt]; simp [hnt]
    obtain ⟨la, oa, k8, k9⟩ := hA0.ix (by decide) dotC_len u_s_Dot z_Dot hd
    refine ⟨la, oa, k8 _, _, (k9 _ e57).2, ?_⟩
    refine ACalls.use (S1.coll1 e57 d hdm hyt) ?_
    rintro v62 s63 ⟨rfl, e63, S2⟩ w63
    refine ⟨_, rfl, bsplit.no rfl ⟨la, oa, k8 _, _, (k9 _ e63).2, ?_⟩⟩
    have cl2 := cl.step d
    have hyt2 : (y.coll d).tomb d = false := by simp [OSet.coll]
    refine ACalls.use (S2.coll0 d hdm hyt2) ?_
    rintro v68 s69 ⟨rfl, e69⟩ w69
    have S3 : SetO sB s69 F1 p (y.coll d) 400 := S2.ext e69
    have E69 := e63.trans e69
    have hyh : (y.coll d).has d = true := by rw [cl2.has]; exact hxh
    have hyl : (y.coll d).live d = none := by rw [cl2.live]; exact hxl
    refine ⟨_, rfl, bsplit.no rfl ⟨fun z _ v s' => z = 12 → Sl itemC 5 s' v [goneI d, ⟨d, k, false⟩], fun z _ v => True, fun _ _ _ _ _ e h hz => (h hz).ext e, la, oa, k8 _, _, (k9 _ E69).2, _, build_gone d, la, oa, k8 _, _, (k9 _ E69).2, _, (c0.ext E69).rdc (by simp [keyC]), _, build_live d k, fun s80 e80 w80 _ => ⟨_, item2_row _ _, NewQ.intro w80 rfl fun l82 s83 F83 => ⟨F83.ext, fun _ => ?_, trivial⟩⟩, ⟨.undef, trivial⟩, fun v84 _ s85 e85 w85 hS => ?_⟩⟩
    · refine SlAt.mk F83.own.at (by simp [itemC]) (by simp [itemC]) (by simp)
    have hS84 := hS.1 rfl
    refine ACalls.use ((S3.ext e85).See (E69.trans e85) hS84 (by simp) (fun i hi => ?_)) ?_
    · rcases List.mem_cons.1 hi with rfl | hi
      · simp [Itm.may, goneI, hdm]
      · obtain rfl := List.mem_singleton.1 hi
        simp [Itm.may, hdm, hk]
    rintro v87 s88 ⟨rfl, m88, e88, F2, y2, hy2, S4, _⟩ w88
    rw [sees_old hyh hyl k] at hy2 ⊢
    subst hy2
    refine ⟨_, _, rfl, bsplit.no rfl (bsplit.no rfl ⟨la, oa, k8 _, _, (k9 _ e88).2, ?_⟩)⟩
    refine ACalls.use (Gone_ok S4.set d) ?_
    rintro v94 s95 ⟨rfl, e95⟩ w95
    refine ⟨_, rfl, bsplit.no (by rw [hyl]; simp; exact hyh) ⟨t.length - (i + 1), by omega, i + 1, F2, y.coll d, by rw [wrap_i (by omega)]; rfl, by omega, rfl, w95, ?_, e88.trans e95, ?_⟩⟩
    · exact SetO.ext ⟨S4.set, S3.ok, S4.new, S4.there⟩ e95
    · rw [List.take_add_one, hd]; exact cl2
end Go.Proofs.YtoklmpkpeanloaaGreat
end
