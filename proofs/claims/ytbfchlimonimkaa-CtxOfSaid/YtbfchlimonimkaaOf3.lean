/-
  What compact leaves is a context; a row of dots handed to both sides; the law CtxOf.
-/
import Derived.Test.YtbfchlimonimkaaOf2
set_option linter.unusedSimpArgs false
set_option linter.unusedVariables false
namespace Go.Proofs.Ytbfchlimonimkaa
open Go.Am Go.Minster Go.ChangeShapes Go.WideShapes Go.ChangeAt Go.RowKit

theorem fold_gap : ∀ (l : List Dot) (st : List Int × List Dot), VOk st.1 → Rising l → (∀ d ∈ l, d.may = true) →
    (∀ y ∈ st.2, y.may = true ∧ st.1.getD (y.r - 1).toNat 0 + 1 < y.c ∧ ∀ d ∈ l, y.lt d = true) →
    ∀ y ∈ (l.foldl cstep st).2, (l.foldl cstep st).1.getD (y.r - 1).toNat 0 + 1 < y.c
  | [], st, hv, hr, hm, h => fun y hy => (h y hy).2.1
  | d :: l, st, hv, hr, hm, h => by
    have hd := Dot.may_iff.1 (hm d (by simp))
    obtain ⟨hr1, hr2⟩ := List.pairwise_cons.1 hr
    refine fold_gap l (cstep st d) (cstep_ok hv (hm d (by simp))) hr2 (fun x hx => hm x (by simp [hx])) ?_
    intro y hy
    unfold cstep at hy ⊢
    split at hy
    · rename_i hc
      rw [if_pos hc]
      exact ⟨(h y hy).1, (h y hy).2.1, fun x hx => (h y hy).2.2 x (by simp [hx])⟩
    · rename_i hc
      rw [if_neg hc]
      split at hy
      · rename_i hc2
        rw [if_pos hc2]
        obtain ⟨h1, h2, h3⟩ := h y hy
        refine ⟨h1, ?_, fun x hx => h3 x (by simp [hx])⟩
        have hym := Dot.may_iff.1 h1
        have hlt := Dot.lt_iff.1 (h3 d (by simp))
        have hne : (d.r - 1).toNat ≠ (y.r - 1).toNat := by
          intro e
          have : y.r = d.r := by omega
          rw [this] at h2
          omega
        simp only [List.getD_eq_getElem?_getD] at h2 ⊢
        rw [List.getElem?_set_ne hne]
        exact h2
      · rename_i hc2
        rw [if_neg hc2]
        simp only [List.mem_append, List.mem_singleton] at hy
        rcases hy with hy | rfl
        · exact ⟨(h y hy).1, (h y hy).2.1, fun x hx => (h y hy).2.2 x (by simp [hx])⟩
        · refine ⟨hm y (by simp), ?_, hr1⟩
          show st.1.getD (y.r - 1).toNat 0 + 1 < y.c
          omega

/-- the exceptions stand apart from the vector -/
def Gap (v : List Int) (ex : List Dot) : Prop := ∀ y ∈ ex, v.getD (y.r - 1).toNat 0 + 1 < y.c
theorem Gap.add {v : List Int} {ex : List Dot} (h : COk v ex) (g : Gap v ex) {d : Dot} (hd : d.may = true) : Gap (addR v ex d).1 (addR v ex d).2 := by
  unfold addR
  split
  · exact g
  · rename_i hh
    have hnin : d ∉ ex := fun hin => hh (by simp [hasD, hd, hin])
    have hmi : ∀ x ∈ ins ex d, x.may = true := by
      intro x hx
      rcases mem_ins.1 hx with rfl | hx
      · exact hd
      · exact h.m x hx
    exact fold_gap (ins ex d) (v, []) h.v (h.r.ins hnin) hmi (by simp)
theorem ofOk {v : List Int} {ex : List Dot} (h : COk v ex) (g : Gap v ex) : OfOk v ex := by
  refine ⟨fun x hx => (h.v.rng x hx).2, fun i x hx => ⟨h.m x (List.mem_of_getElem? hx), fun y h0 hy => h.r.lt (by omega) hy hx, g x (List.mem_of_getElem? hx)⟩⟩

theorem law_of_ok {s : AS} {a : AV} {la : List Dot} (ha : Dots s a la) (hn : la.length ≤ 200) : ACalls Try.prog F_law04iof [a] s fun r s' => ∃ p q v ex, r = .tup [.ptr (some (p, 0)), .ptr (some (q, 0))] ∧ s.h p = none ∧ s.h q = none ∧ COk v ex ∧ Gap v ex ∧ ex.length ≤ la.length ∧ Ext s s' ∧ CtxAt s' p v ex ∧ RefAt s' q v ex := by
  refine q_law04iof _ _ _ ?_
  refine ACalls.use (ctx_New_ok _) ?_
  rintro r s2 ⟨p, rfl, hp, hc, e2⟩ hw2
  refine ⟨_, rfl, set_new hw2 fun q s6 hq hr e6 hw6 => ?_⟩
  have hq0 := e2.none hq
  have E6 := e2.trans e6
  refine ⟨fun vs s' => ∃ v ex, COk v ex ∧ Gap v ex ∧ ex.length ≤ la.length ∧ Ext s s' ∧ CtxAt s' p v ex ∧ RefAt s' q v ex, ?_, fun m vs s' => ∃ (i : Nat) (v : List Int) (ex : List Dot), vs = [.int .i64 (i : Nat)] ∧ i ≤ la.length ∧ m = la.length - i ∧ COk v ex ∧ Gap v ex ∧ ex.length ≤ i ∧ Ext s s' ∧ WFs s' ∧ CtxAt s' p v ex ∧ RefAt s' q v ex, la.length, ⟨0, _, _, rfl, by omega, rfl, COk.zero, (fun y hy => by cases hy), by simp, E6, hw6, hc.ext e6, hr⟩, ?_⟩
  · rintro s8 ⟨v, ex, h1, h2, h3, h4, h5, h6⟩
    exact ⟨p, q, v, ex, rfl, hp, hq0, h1, h2, h3, h4, h5, h6⟩
  · rintro m n s13 ⟨i, v, ex, hi, h6, rfl, ok, gap, hlen, e13, w13, c13, r13⟩
    simp only [List.cons.injEq, AV.int.injEq, true_and, and_true] at hi
    subst hi
    refine ⟨_, ha.lenB u_s_Dot _, bsplit.dec (fun hlt => ?_) (fun hge => ⟨v, ex, ok, gap, by omega, e13, c13, r13⟩)⟩
    have cont : ∀ s' v' ex', COk v' ex' → Gap v' ex' → ex'.length ≤ ex.length + 1 → Ext s s' → WFs s' → CtxAt s' p v' ex' → RefAt s' q v' ex' → ∃ m', m' < la.length - i ∧ ∃ (j : Nat) (v : List Int) (ex : List Dot), [AV.int .i64 (IntKind.wrap .i64 ((i : Int) + 1))] = [.int .i64 (j : Nat)] ∧ j ≤ la.length ∧ m' = la.length - j ∧ COk v ex ∧ Gap v ex ∧ ex.length ≤ j ∧ Ext s s' ∧ WFs s' ∧ CtxAt s' p v ex ∧ RefAt s' q v ex := by
      intro s' v' ex' a b c d e f g
      exact ⟨la.length - (i + 1), by omega, i + 1, v', ex', by rw [wrap_i (by omega)]; rfl, by omega, rfl, a, b, by omega, d, e, f, g⟩
    obtain ⟨x, hx⟩ := get_lt (l := la) (i := i) (by omega)
    obtain ⟨lx, o, h8, h9⟩ := ha.ix (by decide) dotC_len u_s_Dot z_Dot hx
    have gx := fun s' e => (h9 s' e).2
    refine ⟨lx, o, h8 _, _, gx _ e13, ?_⟩
    refine ACalls.use (ref04iMay_ok x _) ?_
    rintro r s19 ⟨rfl, e19⟩ hw19
    have E19 := e13.trans e19
    have c19 := c13.ext e19
    have r19 := r13.ext e19
    refine ⟨_, rfl, bsplit.mk (fun hm => ?_) (fun hm => ?_)⟩
    · refine ⟨lx, o, h8 _, _, gx _ E19, ?_⟩
      refine ACalls.use (ctx_Add_ok c19 ok.v ok.r ok.m (by omega) x) ?_
      rintro r s25 ⟨rfl, c25, m25⟩ hw25
      have e25 := Ext.wr E19 hp m25
      have r25 := r19.keep c19 m25
      have hadd := addD_few (v := v) (ex := ex) hm (by omega)
      rw [hadd] at c25 ⊢
      change CtxAt s25 p (addR v ex x).1 (addR v ex x).2 at c25
      refine ⟨_, _, rfl, lx, o, h8 _, _, gx _ e25, ?_⟩
      refine ACalls.use (ref_Add_ok r25 ok.v ok.r ok.m (by omega) hm) ?_
      rintro r s32 ⟨rfl, r32, m32⟩ hw32
      have c32 := c25.keep r25 m32
      exact ⟨_, rfl, cont _ _ _ (ok.add hm) (Gap.add ok gap hm) addR_len (Ext.wr e25 hq0 m32) hw32 c32 r32⟩
    · exact cont _ v ex ok gap (by omega) E19 hw19 c19 r19
end Go.Proofs.Ytbfchlimonimkaa
