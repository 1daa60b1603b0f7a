/-
  A part of the proof: an abstract machine over the model, and contracts of functions of this program over it.
-/
import Derived.KernelRfl
import Derived.Test.YtoklmpkpeanloaaGreatP5
section
set_option linter.unusedSimpArgs false
set_option linter.unusedVariables false
namespace Go.Proofs.YtoklmpkpeanloaaGreat
open Go.Am Go.Minster Go.Minster2

theorem Ext.wrL {s s1 s2 : AS} {L : List Nat} (e : Ext s s1) (hp : ∀ x ∈ L, s.h x = none) (m : Mut L s1 s2) : Ext s s2 :=
  ⟨fun x o hx => m.1 x o (fun hm => by rw [hp x hm] at hx; cases hx) (e.1 x o hx), Nat.le_trans e.2 m.2⟩

section
variable {s : AS} {l n : Nat}
theorem LiveAt.obj {f : Dot → Option Key} (h : LiveAt s l f n) : ∃ es c, s.h l = some (.map es c false) := by
  obtain ⟨es, c, h1, _⟩ := h; exact ⟨_, _, h1.obj⟩
theorem TombAt.obj {f : Dot → Bool} (h : TombAt s l f n) : ∃ es c, s.h l = some (.map es c false) := by
  obtain ⟨es, c, h1, _⟩ := h; exact ⟨_, _, h1.obj⟩
theorem LiveAt.del (hw : WFs s) {f : Dot → Option Key} (h : LiveAt s l f n) {d : Dot} {k : Key} (hd : f d = some k) {Q : AS → Prop}
    (hq : ∀ s', LiveAt s' l (fun x => if x = d then none else f x) (n - 1) → WFs s' → Mut [l] s s' → Q s') : StQ (adelete T Y_m_Dot_Key (.map (some l)) (.agg (dotC d)) s) Q := by
  obtain ⟨es, c, h1, h2, h3⟩ := h
  refine MpAt.del mp_live hw h1 d (by rw [h2]; exact hd) fun s' es' h1' h2' hl w m => hq s' ⟨es', c, h1', fun x => ?_, by omega⟩ w m
  rw [h2', h2]
theorem LiveAt.upd (hw : WFs s) {f : Dot → Option Key} (h : LiveAt s l f n) (d : Dot) (k : Key) {Q : AS → Prop}
    (hq : ∀ s', LiveAt s' l (fun x => if x = d then some k else f x) (if (f d).isSome then n else n + 1) → WFs s' → Mut [l] s s' → Q s') : StQ (amapUpdate T Y_m_Dot_Key (.map (some l)) (.agg (dotC d)) (.agg (keyC k)) s) Q := by
  obtain ⟨es, c, h1, h2, h3⟩ := h
  refine MpAt.upd mp_live hw h1 d k fun s' es' c' h1' h2' w m => hq s' ⟨es', c', h1', fun x => ?_, ?_⟩ w m
  · rw [h2', h2]
  · rw [upd_len h1.nd h1'.nd h2', h2, h3]
theorem TombAt.upd (hw : WFs s) {f : Dot → Bool} (h : TombAt s l f n) (d : Dot) {Q : AS → Prop}
    (hq : ∀ s', TombAt s' l (fun x => f x || decide (x = d)) (if f d then n else n + 1) → WFs s' → Mut [l] s s' → Q s') : StQ (amapUpdate T Y_m_Dot_struct__is_bool__ (.map (some l)) (.agg (dotC d)) (.agg [.bool true]) s) Q := by
  obtain ⟨es, c, h1, h2, h3⟩ := h
  refine MpAt.upd mp_tombs hw h1 d true fun s' es' c' h1' h2' w m => hq s' ⟨es', c', h1', fun x => ?_, ?_⟩ w m
  · rw [h2', h2]
    by_cases e : x = d
    · simp [e]
    · simp [e]
  · rw [upd_len h1.nd h1'.nd h2', h2, h3]
    cases f d <;> simp
theorem TombAt.del (hw : WFs s) {f : Dot → Bool} (h : TombAt s l f n) {d : Dot} (hd : f d = true) {Q : AS → Prop}
    (hq : ∀ s', TombAt s' l (fun x => f x && !decide (x = d)) (n - 1) → WFs s' → Mut [l] s s' → Q s') : StQ (adelete T Y_m_Dot_struct__is_bool__ (.map (some l)) (.agg (dotC d)) s) Q := by
  obtain ⟨es, c, h1, h2, h3⟩ := h
  refine MpAt.del mp_tombs hw h1 d (v := true) (by rw [h2, hd]; rfl) fun s' es' h1' h2' hl w m => hq s' ⟨es', c, h1', fun x => ?_, by omega⟩ w m
  rw [h2', h2]
  by_cases e : x = d
  · simp [e]
  · simp [e]
end

theorem compact_len (v : List Int) (ex : List Dot) : (compact v ex).2.length ≤ ex.length := by
  have := fold_len ex (v, [])
  simpa [compact] using this
/-- seeing an item, plainly -/
def OSet.see (x : OSet) (i : Itm) : Bool × OSet :=
  if (x.live i.dot).isSome && i.gone then (true, { x with live := fun d => if d = i.dot then none else x.live d, tomb := fun d => x.tomb d || decide (d = i.dot), nl := x.nl - 1, nt := if x.tomb i.dot then x.nt else x.nt + 1 })
  else if hasD x.v x.ex i.dot then (false, x)
  else if i.gone then (true, { x with v := (compact x.v (ins x.ex i.dot)).1, ex := (compact x.v (ins x.ex i.dot)).2, tomb := fun d => x.tomb d || decide (d = i.dot), nt := if x.tomb i.dot then x.nt else x.nt + 1 })
  else (true, { x with v := (compact x.v (ins x.ex i.dot)).1, ex := (compact x.v (ins x.ex i.dot)).2, live := fun d => if d = i.dot then some i.key else x.live d, nl := if (x.live i.dot).isSome then x.nl else x.nl + 1 })
theorem see_len (x : OSet) (i : Itm) (ok : COk x.v x.ex) (hi : i.dot.may = true) (hroom : x.ex.length < 4096) : (x.see i).2.ex.length ≤ x.ex.length + 1 ∧ (x.see i).2.nl ≤ x.nl + 1 ∧ (x.see i).2.nl + (x.see i).2.nt ≤ x.nl + x.nt + 1 := by
  have hc : (compact x.v (ins x.ex i.dot)).2.length ≤ x.ex.length + 1 := by
    have := compact_len x.v (ins x.ex i.dot)
    rw [ins_len] at this; exact this
  unfold OSet.see
  split
  · refine ⟨by simp, by simp; omega, ?_⟩
    simp only
    split <;> omega
  · split
    · refine ⟨by simp, by simp, by simp⟩
    · split
      · refine ⟨hc, by simp, ?_⟩
        simp only; split <;> omega
      · refine ⟨hc, ?_, ?_⟩ <;> simp only <;> split <;> omega

section
variable {F : List Nat} {s : AS} {p : Nat} {x : OSet}
theorem addD_no {v : List Int} {ex : List Dot} {d : Dot} (hh : hasD v ex d = true) (hd : d.may = true) : addD v ex d = (false, 0, v, ex) := by simp [addD, hd, hh]
theorem addD_yes {v : List Int} {ex : List Dot} {d : Dot} (hh : hasD v ex d = false) (hd : d.may = true) (hn : ex.length < 4096) : addD v ex d = (true, 0, compact v (ins ex d)) := by
  have hc := compact_len v (ins ex d)
  rw [ins_len] at hc
  simp only [addD, hd, hh, Bool.true_eq_false, Bool.false_eq_true, if_false]
  rw [if_neg (by omega)]
theorem see_ok (h : SetF F s p x) (hth : ∀ y ∈ F, s.h y ≠ none) (i : Itm) (hi : i.dot.may = true) (hroom : x.ex.length < 4096) :
    ACalls Tryz.prog F_orset_Set_see [.ptr (some (p, 0)), .agg (itemC i)] s fun r s' => r = .tup [.bool (x.see i).1, .int .i64 0] ∧ ∃ F', SetF F' s' p (x.see i).2 ∧ (∀ y ∈ F', y ∈ F ∨ s.h y = none) ∧ (∀ y ∈ F', s'.h y ≠ none) ∧ Mut F s s' := by
  refine ACalls.pre fun hw => q_orset_Set_see _ _ _ _ ⟨rfl, NewQ.intro hw rfl fun l1 s2 F2 => ?_⟩
  have h2 := h.ext F2.ext
  obtain ⟨ok, gap, hlen, pc, lm, tm, a, hpF, hc, hlF, htF, hlt, hl, ht⟩ := id h2
  have hf : alookup T Y_m_Dot_Key (.map (some lm)) (.agg (dotC i.dot)) true s2 = some (.tup [.agg (keyC ((x.live i.dot).getD ⟨[], []⟩)), .bool (x.live i.dot).isSome]) := by
    obtain ⟨es, c, hm, hg, _⟩ := hl
    have hf := hm.find mp_live i.dot true
    rw [hg] at hf
    refine Eq.trans (show _ = _ from hf) ?_
    cases x.live i.dot <;> rfl
  refine ⟨_, by rw [a.at.rd1]; rfl, _, F2.own.at.rdc (by simp [itemC]), keyC ((x.live i.dot).getD ⟨[], []⟩), (x.live i.dot).isSome, hf, ?_⟩
  refine NewSt F2.wf rfl rfl rfl fun l9 s11 F11 => ?_
  have E11 := F2.ext.trans F11.ext
  have o1 : Am.Own s11 l1 (itemC i) := F2.own.ext F11.ext
  have hpl : p ≠ lm := by rintro rfl; obtain ⟨es, c, h⟩ := hl.obj; rw [a] at h; cases h
  have hpt : p ≠ tm := by rintro rfl; obtain ⟨es, c, h⟩ := ht.obj; rw [a] at h; cases h
  have hF1 : l1 ∉ F := fun hm => hth l1 hm F2.no
  refine ⟨fun vs s' => vs = [.bool ((x.live i.dot).isSome && i.gone)] ∧ s' = s11, ?_, bsplit.mk (fun hs => ⟨i.gone, by rw [o1.at.rd1]; rfl, by rw [hs]; rfl, rfl⟩) (fun hs => ⟨by rw [hs]; rfl, rfl⟩)⟩
  rintro b s14 ⟨hb, rfl⟩
  simp only [List.cons.injEq, AV.bool.injEq, and_true] at hb
  subst hb
  have h14 := h2.ext F11.ext
  replace a := a.ext F11.ext
  replace hc := hc.mut (L := []) F11.ext.mut (by simp)
  replace hl := hl.ext F11.ext
  replace ht := ht.ext F11.ext
  have hth14 : ∀ y ∈ F, s14.h y ≠ none := fun y hy hn => hth y hy (E11.none hn)
  refine bsplit.mk (fun hb => ?_) (fun hb => ?_)
  · simp only [Bool.and_eq_true] at hb
    obtain ⟨k, hk⟩ := Option.isSome_iff_exists.1 hb.1
    have hsee : x.see i = (true, { x with live := fun d => if d = i.dot then none else x.live d, tomb := fun d => x.tomb d || decide (d = i.dot), nl := x.nl - 1, nt := if x.tomb i.dot then x.nt else x.nt + 1 }) := by
      unfold OSet.see
      rw [if_pos (by simp [hb])]
    refine ⟨_, by rw [a.at.rd1]; rfl, _, o1.at.rdc (by simp [itemC]), hl.del F11.wf hk fun s19 hl19 w19 m19 => ?_⟩
    have ht19 := ht.mut m19 (by simpa using hlt.symm)
    have a19 := a.mut m19 (by simpa using hpl)
    have o19 := o1.mut m19 (by simp only [List.mem_singleton]; rintro rfl; exact hF1 hlF)
    refine ⟨_, by rw [a19.at.rd1]; rfl, _, o19.at.rdc (by simp [itemC]), _, is_build, ht19.upd w19 i.dot fun s25 ht25 w25 m25 => ?_⟩
    have hml : ∀ y ∈ [lm], y ∈ F := by simpa using hlF
    have hmt : ∀ y ∈ [tm], y ∈ F := by simpa using htF
    have M : Mut F s s25 := E11.mut.trans ((m19.mono hml).trans (m25.mono hmt))
    have hcl : pc ∉ [lm] := by
      simp only [List.mem_singleton]
      rintro rfl
      obtain ⟨_, _, w, hw2, _⟩ := hc
      obtain ⟨es, c, h⟩ := hl.obj
      rw [hw2] at h; cases h
    have hct : pc ∉ [tm] := by
      simp only [List.mem_singleton]
      rintro rfl
      obtain ⟨_, _, w, hw2, _⟩ := hc
      obtain ⟨es, c, h⟩ := ht.obj
      rw [hw2] at h; cases h
    have hc25 : CtxF F s25 pc x.v x.ex := by
      obtain ⟨q1, q2, w, q3, q4, q5, q6⟩ := hc
      have keep : ∀ (m : Nat) (es : List (AV × AV × Nat)) (c : Nat), s14.h m = some (.map es c false) → ∀ y ∈ labOf w, y ≠ m := by
        rintro m es c hm y hy rfl
        rcases q5 with ⟨_, b, rfl⟩ | ⟨la, rfl, ho⟩
        · simp [labOf] at hy
        · obtain rfl : y = la := by simpa [labOf] using hy
          rw [ho] at hm; cases hm
      obtain ⟨es1, c1, e1⟩ := hl.obj
      obtain ⟨es2, c2, e2⟩ := ht.obj
      have q5' := q5.mut m19 fun y hy hm => keep _ _ _ e1 y hy (by simpa using hm)
      exact ⟨q1, q2, w, (q3.mut m19 hcl).mut m25 hct, q4, q5'.mut m25 fun y hy hm => keep _ _ _ e2 y hy (by simpa using hm), q6⟩
    rw [hsee]
    refine ⟨rfl, F, ⟨ok, gap, hlen, pc, lm, tm, a19.mut m25 (by simpa using hpt), hpF, hc25, hlF, htF, hlt, hl19.mut m25 (by simpa using hlt), ht25⟩, fun y hy => .inl hy, fun y hy => ?_, M⟩
    have keepN : ∀ {m : Nat} {u u' : AS}, Mut [m] u u' → u'.h m ≠ none → u.h y ≠ none → u'.h y ≠ none := by
      intro m u u' mm hm hn
      by_cases e : y = m
      · rw [e]; exact hm
      · cases hq : u.h y with
        | none => exact absurd hq hn
        | some o => rw [mm.1 y o (by simpa using e) hq]; simp
    refine keepN m25 ?_ (keepN m19 ?_ (hth14 y hy))
    · obtain ⟨es, c, h⟩ := ht25.obj; rw [h]; simp
    · obtain ⟨es, c, h⟩ := hl19.obj; rw [h]; simp
  refine ⟨_, by rw [a.at.rd1]; rfl, _, o1.at.rdc (by simp [itemC]), ?_⟩
  refine ACalls.use (ctx_Add_ok3 hc.at ok.v ok.r ok.m (by omega) i.dot) ?_
  rintro r s31 ⟨rfl, c31, m31, hno, hyes⟩ w31
  have hb' : ¬ ((x.live i.dot).isSome && i.gone) = true := by rw [hb]; simp
  cases hh : hasD x.v x.ex i.dot with
  | true =>
    rw [addD_no hh hi] at c31 hno hyes ⊢
    have e31 := hno rfl
    have hsee : x.see i = (false, x) := by
      unfold OSet.see
      rw [if_neg hb', if_pos hh]
    rw [hsee]
    refine ⟨_, _, rfl, fun vs s' => vs = [.bool true] ∧ s' = s31, ?_, bsplit.no rfl ⟨rfl, rfl⟩⟩
    rintro b s36 ⟨hb, rfl⟩
    simp only [List.cons.injEq, AV.bool.injEq, and_true] at hb
    subst hb
    exact bsplit.yes rfl ⟨rfl, F, h14.ext e31, fun y hy => .inl hy, fun y hy hn => hth14 y hy (e31.none hn), (E11.trans e31).mut⟩
  | false =>
    have hadd := addD_yes hh hi hroom
    have haa := addD_any ok gap hroom i.dot
    rw [hadd] at c31 hno hyes haa ⊢
    obtain ⟨ok', gap', hlen0, _⟩ := haa
    have hlen' : (compact x.v (ins x.ex i.dot)).2.length ≤ x.ex.length + 1 := hlen0
    have hG := hyes rfl
    obtain ⟨Fc, hcF, hFn, hFt⟩ := hG.toF2
    have hpcF : pc ∈ F := hc.lab
    have m31F : Mut F s14 s31 := m31.mono (by simpa using hpcF)
    have hpc : p ≠ pc := by
      rintro rfl
      have hvl := ok.v.len
      obtain ⟨_, _, w, hw2, _⟩ := hc
      have h1 := congrArg List.length (a.at.inj hw2.at)
      simp [hvl] at h1
    have hlp : lm ≠ pc := by
      rintro rfl
      obtain ⟨_, _, w, hw2, _⟩ := hc
      obtain ⟨es, c, h⟩ := hl.obj
      rw [hw2] at h; cases h
    have htp : tm ≠ pc := by
      rintro rfl
      obtain ⟨_, _, w, hw2, _⟩ := hc
      obtain ⟨es, c, h⟩ := ht.obj
      rw [hw2] at h; cases h
    have a31 := a.mut m31 (by simpa using hpc)
    have hl31 := hl.mut m31 (by simpa using hlp)
    have ht31 := ht.mut m31 (by simpa using htp)
    have o31 := o1.mut m31 (by simp only [List.mem_singleton]; rintro rfl; exact hF1 hpcF)
    have hFs : ∀ y ∈ Fc, y ∈ F ∨ s.h y = none := by
      intro y hy
      rcases hFn y hy with rfl | h
      · exact .inl hpcF
      · exact .inr (E11.none h)
    have hFm : ∀ {m : Nat}, m ≠ pc → s14.h m ≠ none → ∀ y ∈ [m], y ∉ Fc := by
      intro m hm hn y hy hf
      obtain rfl := List.mem_singleton.1 hy
      rcases hFn y hf with h | h
      · exact hm h
      · exact hn h
    have fin : ∀ {m : Nat} {s' : AS}, m ∈ F → Mut [m] s31 s' → s'.h m ≠ none → ∀ y ∈ Fc ++ F, s'.h y ≠ none := by
      intro m s' hm mm hn y hy
      by_cases e : y = m
      · rw [e]; exact hn
      · have h31 : s31.h y ≠ none := by
          rcases List.mem_append.1 hy with hy | hy
          · exact hFt y hy
          · by_cases e2 : y = pc
            · rw [e2]; obtain ⟨_, w, h, _⟩ := c31; rw [h]; simp
            · cases hq : s14.h y with
              | none => exact absurd hq (hth14 y hy)
              | some o => rw [m31.1 y o (by simpa using e2) hq]; simp
        cases hq : s31.h y with
        | none => exact absurd hq h31
        | some o => rw [mm.1 y o (by simpa using e) hq]; simp
    have hFall : ∀ y ∈ Fc ++ F, y ∈ F ∨ s.h y = none := by
      intro y hy
      rcases List.mem_append.1 hy with hy | hy
      · exact hFs y hy
      · exact .inl hy
    refine ⟨_, _, rfl, fun vs s' => vs = [.bool false] ∧ s' = s31, ?_, bsplit.no rfl ⟨rfl, rfl⟩⟩
    rintro b s36 ⟨hb2, rfl⟩
    simp only [List.cons.injEq, AV.bool.injEq, and_true] at hb2
    subst hb2
    refine bsplit.no rfl ⟨i.gone, by rw [o31.at.rd1]; rfl, bsplit.mk (fun hg => ?_) (fun hg => ?_)⟩
    · have hsee : x.see i = (true, { x with v := (compact x.v (ins x.ex i.dot)).1, ex := (compact x.v (ins x.ex i.dot)).2, tomb := fun d => x.tomb d || decide (d = i.dot), nt := if x.tomb i.dot then x.nt else x.nt + 1 }) := by
        unfold OSet.see
        rw [if_neg hb', if_neg (by rw [hh]; simp), if_pos hg]
      rw [hsee]
      refine ⟨_, by rw [a31.at.rd1]; rfl, _, o31.at.rdc (by simp [itemC]), _, is_build, ht31.upd w31 i.dot fun s43 ht43 w43 m43 => ?_⟩
      obtain ⟨es, c, hto⟩ := ht.obj
      have hc43 := hcF.mut m43 (hFm htp (by rw [hto]; simp))
      refine ⟨rfl, Fc ++ F, ⟨ok', gap', by simp only; omega, pc, lm, tm, a31.mut m43 (by simpa using hpt), by simp [hpF], hc43.sub (fun y hy => by simp [hy]), by simp [hlF], by simp [htF], hlt, hl31.mut m43 (by simpa using hlt), ht43⟩, hFall, fin htF m43 ?_, E11.mut.trans (m31F.trans (m43.mono (by simpa using htF)))⟩
      obtain ⟨es, c, h⟩ := ht43.obj; rw [h]; simp
    · have hsee : x.see i = (true, { x with v := (compact x.v (ins x.ex i.dot)).1, ex := (compact x.v (ins x.ex i.dot)).2, live := fun d => if d = i.dot then some i.key else x.live d, nl := if (x.live i.dot).isSome then x.nl else x.nl + 1 }) := by
        unfold OSet.see
        rw [if_neg hb', if_neg (by rw [hh]; simp), if_neg (by rw [hg]; simp)]
      rw [hsee]
      refine ⟨_, by rw [a31.at.rd1]; rfl, _, o31.at.rdc (by simp [itemC]), _, o31.at.rdc (by simp [itemC]), hl31.upd w31 i.dot i.key fun s49 hl49 w49 m49 => ?_⟩
      obtain ⟨es, c, hlo⟩ := hl.obj
      have hc49 := hcF.mut m49 (hFm hlp (by rw [hlo]; simp))
      refine ⟨rfl, Fc ++ F, ⟨ok', gap', by simp only; omega, pc, lm, tm, a31.mut m49 (by simpa using hpl), by simp [hpF], hc49.sub (fun y hy => by simp [hy]), by simp [hlF], by simp [htF], hlt, hl49, ht31.mut m49 (by simpa using hlt.symm)⟩, hFall, fin hlF m49 ?_, E11.mut.trans (m31F.trans (m49.mono (by simpa using hlF)))⟩
      obtain ⟨es, c, h⟩ := hl49.obj; rw [h]; simp
end
end Go.Proofs.YtoklmpkpeanloaaGreat
end

section
set_option linter.unusedSimpArgs false
set_option linter.unusedVariables false
namespace Go.Proofs.YtoklmpkpeanloaaGreat
open Go.Am Go.Minster Go.Minster2

theorem sl_s_Item : SlTy T Y_s_Item Y_Item 5 56 := ⟨u_s_Item, z_Item, b_Item, ⟨_, _, zr_Item, rfl, rfl⟩, by decide, by decide⟩
section
variable {s : AS} {a : AV} {l : List Itm} {g : FuncId} {cap : List AV} {P : Itm → Bool}
theorem IndexFunc_ok (hl : Sl itemC 5 s a l) (hn : l.length ≤ 2 ^ 40) (hf : ∀ i s', Ext s s' → WFs s' → ACalls Tryz.prog g ([.agg (itemC i)] ++ cap) s' fun v s'' => v = .bool (P i) ∧ Ext s' s'') :
    ACalls Tryz.prog F_slices_IndexFunc__s_Item_Item [a, .func g cap] s fun v s' => Ext s s' ∧ ∃ n : Int, v = .int .i64 n ∧ ((n = -1 ∧ l.any P = false) ∨ ∃ k : Nat, n = k ∧ k < l.length ∧ (∃ x, l[k]? = some x ∧ P x = true) ∧ ∀ j x, j < k → l[j]? = some x → P x = false) := by
  refine ACalls.pre fun hw => q_slices_IndexFunc__s_Item_Item _ _ _ _ ⟨_, hl.lenB u_s_Item _, fun m vs s' => ∃ i : Nat, vs = [.int .i64 (i : Nat)] ∧ i ≤ l.length ∧ m = l.length - i ∧ Ext s s' ∧ WFs s' ∧ (∀ j x, j < i → l[j]? = some x → P x = false), l.length, ⟨0, rfl, by omega, rfl, Ext.refl _, hw, by omega⟩, ?_⟩
  rintro m n s6 ⟨i, hi, h6, rfl, e6, w6, hall⟩
  simp only [List.cons.injEq, AV.int.injEq, true_and, and_true] at hi
  subst hi
  refine bsplit.dec (fun hlt => ?_) (fun hge => ⟨e6, -1, rfl, .inl ⟨rfl, ?_⟩⟩)
  · obtain ⟨x, hx⟩ := get_lt (l := l) (i := i) (by omega)
    obtain ⟨la, o, h8, h9⟩ := hl.ix (by decide) itemC_len u_s_Item z_Item hx
    refine ⟨la, o, h8 _, _, (h9 _ e6).2, ?_⟩
    refine ACalls.use (hf x s6 e6 w6) ?_
    rintro v s11 ⟨rfl, e11⟩ w11
    refine ⟨_, rfl, bsplit.mk (fun hb => ⟨e6.trans e11, _, rfl, .inr ⟨i, rfl, by omega, ⟨x, hx, hb⟩, hall⟩⟩) (fun hb => ⟨l.length - (i + 1), by omega, i + 1, by rw [wrap_i (by omega)]; rfl, by omega, rfl, e6.trans e11, w11, fun j y hj hy => ?_⟩)⟩
    rcases Nat.lt_or_ge j i with h | h
    · exact hall j y h hy
    · obtain rfl : j = i := by omega
      rw [hx] at hy; obtain rfl := Option.some.inj hy; exact hb
  · rw [List.any_eq_false]
    intro x hx
    obtain ⟨j, hj⟩ := List.mem_iff_getElem?.1 hx
    have : j < l.length := by
      rcases Nat.lt_or_ge j l.length with h | h
      · exact h
      · rw [List.getElem?_eq_none h] at hj; cases hj
    rw [hall j x (by omega) hj]; simp
theorem ContainsFunc_ok (hl : Sl itemC 5 s a l) (hn : l.length ≤ 2 ^ 40) (hf : ∀ i s', Ext s s' → WFs s' → ACalls Tryz.prog g ([.agg (itemC i)] ++ cap) s' fun v s'' => v = .bool (P i) ∧ Ext s' s'') :
    ACalls Tryz.prog F_slices_ContainsFunc__s_Item_Item [a, .func g cap] s fun v s' => v = .bool (l.any P) ∧ Ext s s' := by
  refine q_slices_ContainsFunc__s_Item_Item _ _ _ _ ?_
  refine ACalls.use (IndexFunc_ok hl hn hf) ?_
  rintro v s2 ⟨e, n, rfl, h⟩ _
  refine ⟨_, rfl, ?_, e⟩
  congr 1
  rcases h with ⟨rfl, h⟩ | ⟨k, rfl, hk, ⟨x, hx, hp⟩, _⟩
  · rw [h]; decide
  · rw [List.any_eq_true.2 ⟨x, List.mem_of_getElem? hx, hp⟩, decide_eq_true_eq]; omega
theorem See1_ok (i : Itm) (s : AS) : ACalls Tryz.prog F_orset_Set_See_1 [.agg (itemC i)] s fun v s' => v = .bool (!i.may) ∧ Ext s s' := by
  refine ACalls.pre fun hw => q_orset_Set_See_1 _ _ _ ⟨rfl, NewQ.intro hw rfl fun l s1 F => ⟨_, F.own.at.rdc (by simp [itemC]), ?_⟩⟩
  refine ACalls.use (May_ok i _) ?_
  rintro v s2 ⟨rfl, e⟩ _
  exact ⟨_, rfl, rfl, F.ext.trans e⟩
end

/-- seeing items, plainly -/
def OSet.sees (x : OSet) (l : List Itm) : Bool × OSet := l.foldl (fun a i => (a.1 || (a.2.see i).1, (a.2.see i).2)) (false, x)
section
variable {F : List Nat} {s : AS} {p : Nat} {x : OSet}
theorem SetF.sub {F' : List Nat} (h : SetF F s p x) (hF : ∀ y ∈ F, y ∈ F') : SetF F' s p x := by
  obtain ⟨h1, h2, h3, pc, lm, tm, a, b, c, d, e, f, g, i⟩ := h
  exact ⟨h1, h2, h3, pc, lm, tm, a, hF _ b, c.sub hF, hF _ d, hF _ e, f, g, i⟩
theorem LiveAt.lenB {l n : Nat} {f : Dot → Option Key} (h : LiveAt s l f n) : alenB T Y_m_Dot_Key (.map (some l)) s = some (.int .i64 (n : Nat)) := by
  obtain ⟨es, c, h1, _, h3⟩ := h
  rw [h1.lenB mp_live, h3]
theorem TombAt.lenB {l n : Nat} {f : Dot → Bool} (h : TombAt s l f n) : alenB T Y_m_Dot_struct__is_bool__ (.map (some l)) s = some (.int .i64 (n : Nat)) := by
  obtain ⟨es, c, h1, _, h3⟩ := h
  rw [h1.lenB mp_tombs, h3]
theorem See_ok (h : SetF F s p x) {a : AV} {l : List Itm} (hl : Sl itemC 5 s a l) (hall : ∀ i ∈ l, i.may = true) (hr1 : x.ex.length + l.length ≤ 4096) (hr2 : x.nl + l.length ≤ 1024) (hr3 : x.nl + x.nt + l.length ≤ 4096) :
    ACalls Tryz.prog F_orset_Set_See [.ptr (some (p, 0)), a] s fun r s' => r = .tup [.bool (x.sees l).1, .int .i64 0] ∧ ∃ F', SetF F' s' p (x.sees l).2 ∧ (∀ y ∈ F', y = p ∨ s.h y = none) ∧ (∀ y ∈ F', s'.h y ≠ none) ∧ Mut [p] s s' := by
  refine q_orset_Set_See _ _ _ _ ?_
  refine ACalls.use (there_ok h) ?_
  rintro v s2 ⟨rfl, rfl⟩ w2
  refine ⟨_, rfl, bsplit.no rfl ?_⟩
  refine ACalls.use (ContainsFunc_ok (P := fun i => !i.may) hl (by omega) fun i s' _ _ => See1_ok i s') ?_
  rintro v s5 ⟨rfl, e5⟩ w5
  have : l.any (fun i => !i.may) = false := by
    rw [List.any_eq_false]
    intro i hi
    simp [hall i hi]
  rw [this]
  refine ⟨_, rfl, bsplit.no rfl ?_⟩
  refine ACalls.use (Copy_ok (h.ext e5)) ?_
  rintro v s8 ⟨po, F0, rfl, hS, hn0, ht0, e8⟩ w8
  have E8 := e5.trans e8
  have hp : ∃ cs, Am.Own s2 p cs ∧ cs.length = 3 := by
    obtain ⟨_, _, _, pc, lm, tm, a, _⟩ := h
    exact ⟨_, a, rfl⟩
  obtain ⟨cs, hp, hcs⟩ := hp
  have hstep : ∀ (i : Nat) y, l[i]? = some y → x.sees (l.take (i + 1)) = ((x.sees (l.take i)).1 || ((x.sees (l.take i)).2.see y).1, ((x.sees (l.take i)).2.see y).2) := by
    intro i y hy
    unfold OSet.sees
    rw [List.take_add_one, hy, Option.toList_some, List.foldl_append]
    rfl
  refine ⟨_, rfl, fun vs s' => vs = [.bool (x.sees l).1] ∧ WFs s' ∧ Ext s2 s' ∧ ∃ F', SetF F' s' po (x.sees l).2 ∧ (∀ y ∈ F', s2.h y = none) ∧ (∀ y ∈ F', s'.h y ≠ none) ∧ (x.sees l).2.nl ≤ 1024 ∧ (x.sees l).2.nl + (x.sees l).2.nt ≤ 4096, ?_, ?_⟩
  · rintro b s12 ⟨hb, w12, e12, F', hS', hn', ht', hl1, hl2⟩
    simp only [List.cons.injEq, AV.bool.injEq, and_true] at hb
    subst hb
    obtain ⟨ok, gap, hlen, pc, lm, tm, a', hpF, hc, hlF, htF, hlt, hlv, htb⟩ := hS'
    refine ⟨fun vs s' => vs = [.bool false] ∧ s' = s12, ?_, _, by rw [a'.at.rd1]; rfl, _, hlv.lenB, bsplit.no (by rw [decide_eq_false_iff_not]; omega) ⟨_, by rw [a'.at.rd1]; rfl, _, hlv.lenB, _, by rw [a'.at.rd1]; rfl, _, htb.lenB, ?_, rfl⟩⟩
    · rintro b s15 ⟨hb, rfl⟩
      simp only [List.cons.injEq, AV.bool.injEq, and_true] at hb
      subst hb
      have ho := hp.ext e12
      refine bsplit.no rfl ⟨_, a'.at.rdc (by simp), ⟨by simp, rfl⟩, StQ.own w12 ho (by simp [hcs]) fun s21 P => ⟨rfl, p :: F', ⟨ok, gap, hlen, pc, lm, tm, ?_, by simp, ?_, by simp [hlF], by simp [htF], hlt, hlv.mut P.mut ?_, htb.mut P.mut ?_⟩, fun y hy => ?_, fun y hy => ?_, e12.mut.trans P.mut⟩⟩
      · have := P.at
        rw [wrs_all0 (by simp [hcs])] at this
        exact this
      · refine (hc.mut P.mut fun y hy hm => ?_).sub fun y hy => by simp [hy]
        obtain rfl := List.mem_singleton.1 hy
        have := hn' _ hm
        rw [hp] at this; cases this
      · intro hm
        obtain rfl := List.mem_singleton.1 hm
        have := hn' _ hlF
        rw [hp] at this; cases this
      · intro hm
        obtain rfl := List.mem_singleton.1 hm
        have := hn' _ htF
        rw [hp] at this; cases this
      · rcases List.mem_cons.1 hy with rfl | hy
        · exact .inl rfl
        · exact .inr (hn' y hy)
      · by_cases e : y = p
        · rw [e, P.at]; simp
        · rw [P.eq y e]
          rcases List.mem_cons.1 hy with rfl | hy
          · exact absurd rfl e
          · exact ht' y hy
    · rw [wrap_i (by omega), show decide (((x.sees l).2.nl : Int) + ((x.sees l).2.nt : Int) > 4096) = false from by rw [decide_eq_false_iff_not]; omega]
  · refine ⟨_, hl.lenB u_s_Item _, fun m vs s' => ∃ i : Nat, vs = [.bool (x.sees (l.take i)).1, .int .i64 (i : Nat)] ∧ i ≤ l.length ∧ m = l.length - i ∧ WFs s' ∧ Ext s2 s' ∧ (∃ F', SetF F' s' po (x.sees (l.take i)).2 ∧ (∀ y ∈ F', s2.h y = none) ∧ (∀ y ∈ F', s'.h y ≠ none)) ∧ (x.sees (l.take i)).2.ex.length ≤ x.ex.length + i ∧ (x.sees (l.take i)).2.nl ≤ x.nl + i ∧ (x.sees (l.take i)).2.nl + (x.sees (l.take i)).2.nt ≤ x.nl + x.nt + i, l.length, ⟨0, rfl, by omega, rfl, w8, E8, ⟨F0, hS, fun y hy => e5.none (hn0 y hy), ht0⟩, by simp [OSet.sees], by simp [OSet.sees], by simp [OSet.sees]⟩, ?_⟩
    rintro m b n s40 ⟨i, hi, h6, rfl, w40, e40, ⟨F', hS', hn', ht'⟩, r1, r2, r3⟩
    simp only [List.cons.injEq, AV.int.injEq, AV.bool.injEq, true_and, and_true] at hi
    obtain ⟨rfl, rfl⟩ := hi
    refine bsplit.dec (fun hlt => ?_) (fun hge => ?_)
    · obtain ⟨y, hy⟩ := get_lt (l := l) (i := i) (by omega)
      obtain ⟨la, o, h8, h9⟩ := hl.ix (by decide) itemC_len u_s_Item z_Item hy
      have hmay : y.dot.may = true := by
        have := hall y (List.mem_of_getElem? hy)
        simp only [Itm.may, Bool.and_eq_true] at this
        exact this.1
      refine ⟨la, o, h8 _, _, (h9 _ e40).2, NewSt w40 rfl rfl rfl fun l44 s46 F46 => ?_⟩
      refine ⟨_, F46.own.at.rdc (by simp [itemC]), ?_⟩
      have ht46 : ∀ z ∈ F', s46.h z ≠ none := fun z hz hq => ht' z hz (F46.ext.none hq)
      have hsl := see_len (x.sees (l.take i)).2 y hS'.ok hmay (by omega)
      refine ACalls.use (see_ok (hS'.ext F46.ext) ht46 y hmay (by omega)) ?_
      rintro v s49 ⟨rfl, F2, hS2, hn2, ht2, m2⟩ w49
      have hs1 := hstep i y hy
      have E49 : Ext s2 s49 := Ext.wrL (e40.trans F46.ext) hn' m2
      refine ⟨_, _, rfl, bsplit.no (by decide) ?_⟩
      have hn2' : ∀ z ∈ F2, s2.h z = none := fun z hz => by
        rcases hn2 z hz with h | h
        · exact hn' z h
        · exact (e40.trans F46.ext).none h
      have rest : SetF F2 s49 po (x.sees (l.take (i + 1))).2 ∧ (x.sees (l.take (i + 1))).2.ex.length ≤ x.ex.length + (i + 1) ∧ (x.sees (l.take (i + 1))).2.nl ≤ x.nl + (i + 1) ∧ (x.sees (l.take (i + 1))).2.nl + (x.sees (l.take (i + 1))).2.nt ≤ x.nl + x.nt + (i + 1) := by
        rw [hs1]
        exact ⟨hS2, by simp only; omega, by simp only; omega, by simp only; omega⟩
      refine bsplit.mk (fun hb => ?_) (fun hb => ?_)
      · exact ⟨l.length - (i + 1), by omega, i + 1, by rw [wrap_i (by omega), hs1, hb]; rfl, by omega, rfl, w49, E49, ⟨F2, rest.1, hn2', ht2⟩, rest.2⟩
      · exact ⟨l.length - (i + 1), by omega, i + 1, by rw [wrap_i (by omega), hs1, hb]; rfl, by omega, rfl, w49, E49, ⟨F2, rest.1, hn2', ht2⟩, rest.2⟩
    · obtain rfl : i = l.length := by omega
      rw [List.take_length] at *
      exact ⟨rfl, w40, e40, F', hS', hn', ht', by omega, by omega⟩
end

/-! ### the live dots that something holds of -/
def OSet.held (x : OSet) (P : Dot → Key → Bool) (d : Dot) : Bool := match x.live d with
  | some k => P d k
  | none => false
section
variable {F : List Nat} {s : AS} {p : Nat} {x : OSet} {g : FuncId} {cap : List AV} {P : Dot → Key → Bool}
theorem dots_ok (h : SetF F s p x) (hn : x.nl < 65536) (hf : ∀ d k s', Ext s s' → WFs s' → ACalls Tryz.prog g ([.agg (dotC d), .agg (keyC k)] ++ cap) s' fun v s'' => v = .bool (P d k) ∧ Ext s' s'') :
    ACalls Tryz.prog F_orset_Set_dots [.ptr (some (p, 0)), .func g cap] s fun v s' => ∃ l, GroN dotC 2 [] s s' v l ∧ Rising l ∧ (∀ d, d ∈ l ↔ x.held P d = true) ∧ l.length ≤ x.nl := by
  refine ACalls.pre fun hw => q_orset_Set_dots _ _ _ _ ?_
  obtain ⟨_, _, _, pc, lm, tm, a, _, _, _, _, _, hlv, _⟩ := id h
  obtain ⟨es, c, hm, hg, hl⟩ := id hlv
  refine ⟨_, by rw [a.at.rd1]; rfl, live_sorted (by omega) hm fun v6 s7 l h1 h2 h3 h4 w7 => ?_⟩
  have E7 : Ext s s7 := h4.1
  have hd := h4.dots
  refine ⟨_, hd.lenB u_s_Dot _, fun m vs s' => ∃ (i : Nat) (v : AV), vs = [v, .int .i64 (i : Nat)] ∧ i ≤ l.length ∧ m = l.length - i ∧ WFs s' ∧ GroN dotC 2 [] s7 s' v ((l.take i).filter (x.held P)), l.length, ⟨0, _, rfl, by omega, rfl, w7, by simpa using GroN.nil⟩, ?_⟩
  rintro m v12 n s14 ⟨i, v', hi, h6, rfl, w14, g14⟩
  simp only [List.cons.injEq, AV.int.injEq, true_and, and_true] at hi
  obtain ⟨rfl, rfl⟩ := hi
  refine bsplit.dec (fun hlt => ?_) (fun hge => ?_)
  · obtain ⟨d, hx⟩ := get_lt (l := l) (i := i) (by omega)
    obtain ⟨la, o, h8, h9⟩ := hd.ix (by decide) dotC_len u_s_Dot z_Dot hx
    have ht : (l.take (i + 1)).filter (x.held P) = (l.take i).filter (x.held P) ++ if x.held P d = true then [d] else [] := by
      rw [List.take_add_one, hx, List.filter_append, Option.toList_some]
      congr 1
      cases hq : x.held P d <;> simp [List.filter_cons, hq]
    refine ⟨la, o, h8 _, _, (h9 _ g14.chg.ext).2, NewSt w14 rfl rfl rfl fun l18 s20 F20 => ?_⟩
    have E20 := E7.trans (g14.chg.ext.trans F20.ext)
    have a20 := a.ext E20
    obtain ⟨e, he, hed⟩ := (h2 d).1 (List.mem_of_getElem? hx)
    have hlk : x.live d = some e.2.1 := by rw [← hg, ← hed]; exact mget_mem hm.nd he
    have hlook : alookup T Y_m_Dot_Key (.map (some lm)) (.agg (dotC d)) false s20 = some (.agg (keyC e.2.1)) := by
      have := (hm.ext E20).find mp_live d false
      rw [hg, hlk] at this
      exact this
    refine ⟨_, F20.own.at.rdc (by simp [dotC]), _, by rw [a20.at.rd1]; rfl, _, F20.own.at.rdc (by simp [dotC]), _, hlook, ?_⟩
    refine ACalls.use (hf d e.2.1 s20 E20 F20.wf) ?_
    rintro v s28 ⟨rfl, e28⟩ w28
    have hheld : x.held P d = P d e.2.1 := by simp [OSet.held, hlk]
    have g28 := g14.step (F20.ext.trans e28)
    have hfl := List.length_filter_le (x.held P) (l.take i)
    have htl := List.length_take_le i l
    refine ⟨_, rfl, bsplit.mk (fun hb => ?_) (fun hb => ?_)⟩
    · refine ⟨_, (F20.own.ext e28).at.rdc (by simp [dotC]), GroN.append1 sl_s_Dot dotC_len dotC_one w28 g28 (by simp) d (by omega) fun v' s' g' w' _ => ?_⟩
      exact ⟨l.length - (i + 1), by omega, i + 1, v', by rw [wrap_i (by omega)]; rfl, by omega, rfl, w', by rw [ht, hheld, if_pos hb]; exact g'⟩
    · exact ⟨l.length - (i + 1), by omega, i + 1, v12, by rw [wrap_i (by omega)]; rfl, by omega, rfl, w28, by rw [ht, hheld, if_neg (by rw [hb]; simp), List.append_nil]; exact g28⟩
  · rw [List.take_of_length_le (by omega)] at g14
    refine ⟨l.filter (x.held P), ⟨g14.gro, E7.mut.trans g14.chg, fun la hla => E7.none (g14.new la hla)⟩, h1.filter _, fun d => ?_, ?_⟩
    · rw [List.mem_filter, h2]
      constructor
      · exact fun h => h.2
      · intro hd
        refine ⟨?_, hd⟩
        unfold OSet.held at hd
        cases hq : x.live d with
        | none => rw [hq] at hd; cases hd
        | some k =>
          rw [← hg] at hq
          obtain ⟨j, n, hj⟩ := mget_some hq
          exact ⟨_, List.mem_of_getElem? hj, rfl⟩
    · have := List.length_filter_le (x.held P) l
      omega
end

/-! ### items that are gone -/
def goneI (d : Dot) : Itm := ⟨d, ⟨[], []⟩, true⟩
theorem build_gone (d : Dot) : abuild T Y_Item [(0, .agg (dotC d)), (2, .bool true)] = some (.agg (itemC (goneI d))) := by kernel_rfl
theorem gone_ok {s : AS} {a : AV} {l : List Dot} (hl : Dots s a l) (hn : l.length ≤ 2 ^ 29) :
    ACalls Tryz.prog F_orset_gone [a] s fun v s' => GroN itemC 5 [] s s' v (l.map goneI) := by
  refine ACalls.pre fun hw => q_orset_gone _ _ _ ⟨_, hl.lenB u_s_Dot _, fun m vs s' => ∃ (i : Nat) (v : AV), vs = [v, .int .i64 (i : Nat)] ∧ i ≤ l.length ∧ m = l.length - i ∧ WFs s' ∧ GroN itemC 5 [] s s' v ((l.take i).map goneI), l.length, ⟨0, _, rfl, by omega, rfl, hw, by simpa using GroN.nil⟩, ?_⟩
  rintro m v5 n s7 ⟨i, v', hi, h6, rfl, w7, g7⟩
  simp only [List.cons.injEq, AV.int.injEq, true_and, and_true] at hi
  obtain ⟨rfl, rfl⟩ := hi
  refine bsplit.dec (fun hlt => ?_) (fun hge => ?_)
  · obtain ⟨d, hx⟩ := get_lt (l := l) (i := i) (by omega)
    obtain ⟨la, o, h8, h9⟩ := hl.ix (by decide) dotC_len u_s_Dot z_Dot hx
    have ht : (l.take (i + 1)).map goneI = (l.take i).map goneI ++ [goneI d] := by
      rw [List.take_add_one, hx, List.map_append]; rfl
    refine ⟨la, o, h8 _, _, (h9 _ g7.chg.ext).2, NewSt w7 rfl rfl rfl fun l11 s13 F13 => ?_⟩
    refine ⟨_, F13.own.at.rdc (by simp [dotC]), _, build_gone d, GroN.append1 sl_s_Item itemC_len itemC_one F13.wf (g7.step F13.ext) (by simp) (goneI d) (by simp; omega) fun v' s' g' w' _ => ?_⟩
    exact ⟨l.length - (i + 1), by omega, i + 1, v', by rw [wrap_i (by omega)]; rfl, by omega, rfl, w', by rw [ht]; exact g'⟩
  · rw [List.take_of_length_le (by omega)] at g7
    exact g7
end Go.Proofs.YtoklmpkpeanloaaGreat
end

section
set_option linter.unusedSimpArgs false
set_option linter.unusedVariables false
namespace Go.Proofs.YtoklmpkpeanloaaGreat
open Go.Am Go.Minster Go.Minster2

/-- a set that is new, plainly -/
def OSet.zero : OSet := ⟨zeros, [], fun _ => none, fun _ => false, 0, 0⟩
theorem ctx_New_G (s : AS) : ACalls Tryz.prog F_ctx_New [] s fun r s' => ∃ p, r = .ptr (some (p, 0)) ∧ s.h p = none ∧ CtxG s s' p zeros [] ∧ Ext s s' := by
  refine ACalls.pre fun hw => q_ctx_New _ _ ?_
  have hb : abuild T Y_ctx_Ctx [(2, .bool true)] = some (.agg (zeros.map (.int .u64) ++ [.slc none 0 0 true, .bool true])) := by kernel_rfl
  exact ⟨_, hb, rfl, NewQ.intro hw rfl fun p s1 F => ⟨p, rfl, F.no, ⟨rfl, _, F.own, rfl, Gro.nil, by simp [labOf]⟩, F.ext⟩⟩
theorem New_ok (s : AS) : ACalls Tryz.prog F_orset_New [] s fun r s' => ∃ p F, r = .ptr (some (p, 0)) ∧ SetF F s' p OSet.zero ∧ (∀ y ∈ F, s.h y = none) ∧ (∀ y ∈ F, s'.h y ≠ none) ∧ Ext s s' := by
  refine ACalls.pre fun hw => q_orset_New _ _ ?_
  refine ACalls.use (ctx_New_G s) ?_
  rintro v s2 ⟨pc, rfl, hpc, hG, e2⟩ w2
  refine ⟨_, rfl, NewQ.intro w2 rfl fun lm s5 F5 => NewQ.intro F5.wf rfl fun tm s7 F7 => ⟨_, set_build _ _ _, rfl, NewQ.intro F7.wf rfl fun p s10 F10 => ?_⟩⟩
  obtain ⟨Fc, hcF, hFn, hFt⟩ := hG.toF hpc
  have e10 := F5.ext.trans (F7.ext.trans F10.ext)
  have e57 := F7.ext.trans F10.ext
  have hlm : s10.h lm = some (.map [] 0 false) := e57.1 _ _ F5.at
  have htm : s10.h tm = some (.map [] 0 false) := F10.ext.1 _ _ F7.at
  have hne : lm ≠ tm := by
    rintro rfl
    have := F7.no
    rw [F5.at] at this; cases this
  refine ⟨p, p :: lm :: tm :: Fc, rfl, ⟨COk.zero, (fun y hy => by cases hy), by simp [OSet.zero], pc, lm, tm, F10.own, by simp, (hcF.mut (L := []) e10.mut (by simp)).sub (fun y hy => by simp [hy]), by simp, by simp, hne, ⟨[], 0, MpAt.new hlm, fun d => rfl, rfl⟩, ⟨[], 0, MpAt.new htm, fun d => rfl, rfl⟩⟩, ?_, ?_, e2.trans e10⟩
  · intro y hy
    simp only [List.mem_cons] at hy
    rcases hy with rfl | rfl | rfl | hy
    · exact e2.none (F5.ext.none (F7.ext.none F10.no))
    · exact e2.none F5.no
    · exact e2.none (F5.ext.none F7.no)
    · exact hFn y hy
  · intro y hy
    simp only [List.mem_cons] at hy
    rcases hy with rfl | rfl | rfl | hy
    · rw [F10.at]; simp
    · rw [hlm]; simp
    · rw [htm]; simp
    · cases hq : s2.h y with
      | none => exact absurd hq (hFt y hy)
      | some ob => rw [e10.1 y ob hq]; simp

theorem items_keep {s s' : AS} {p : Nat} {cs : List AV} {v : AV} {l : List Itm} (hp : s.h p = some (.cells cs 0 false)) (hcs : ∀ c ∈ cs, ∀ n, c ≠ .int .i64 n) (hs : Sl itemC 5 s v l) (m : Mut [p] s s') : Sl itemC 5 s' v l := by
  refine Sl.mut hs m itemC_len (by decide) fun q hq C hC x hx i c hc he => ?_
  obtain rfl := List.mem_singleton.1 hq
  obtain ⟨g, ro, hC⟩ := hC
  rw [hp] at hC
  simp only [Option.some.injEq, AO.cells.injEq] at hC
  obtain ⟨rfl, _⟩ := hC
  simp only [itemC, List.getElem?_cons_zero, Option.some.injEq] at hc
  exact hcs c (List.mem_of_getElem? he) _ hc.symm
section
variable {F : List Nat} {s s' : AS} {p : Nat} {x : OSet} {k : Key}
theorem SetF.keepI {v : AV} {l : List Itm} (h : SetF F s p x) (hs : Sl itemC 5 s v l) (m : Mut [p] s s') : Sl itemC 5 s' v l := by
  obtain ⟨_, _, _, pc, lm, tm, a, _⟩ := h
  refine items_keep a (fun c hc n => ?_) hs m
  simp only [List.mem_cons, List.not_mem_nil, or_false] at hc
  rcases hc with rfl | rfl | rfl <;> simp

/-- the live dots of a key -/
theorem held_key (d : Dot) : x.held (fun _ y => decide (y = k)) d = true ↔ x.live d = some k := by
  unfold OSet.held
  cases x.live d with
  | none => simp
  | some y => simp
theorem Add1_ok {lc : Nat} (d : Dot) (y : Key) (hc : At s lc (keyC k)) : ACalls Tryz.prog F_orset_Set_Add_1 ([.agg (dotC d), .agg (keyC y)] ++ [.ptr (some (lc, 0))]) s fun v s' => v = .bool (decide (y = k)) ∧ Ext s s' := by
  refine ACalls.pre fun hw => q_orset_Set_Add_1 _ _ _ _ _ ⟨rfl, NewQ.intro hw rfl fun l1 s2 F2 => ⟨rfl, NewQ.intro F2.wf rfl fun l3 s4 F4 => ?_⟩⟩
  have e4 := F2.ext.trans F4.ext
  exact ⟨_, F4.own.at.rdc (by simp [keyC]), _, (hc.ext e4).rdc (by simp [keyC]), _, key_eq _ _, rfl, e4⟩
theorem Has1_ok {lc : Nat} (d : Dot) (y : Key) (hc : At s lc (keyC k)) : ACalls Tryz.prog F_orset_Set_Has_1 ([.agg (dotC d), .agg (keyC y)] ++ [.ptr (some (lc, 0))]) s fun v s' => v = .bool (decide (y = k)) ∧ Ext s s' := by
  refine ACalls.pre fun hw => q_orset_Set_Has_1 _ _ _ _ _ ⟨rfl, NewQ.intro hw rfl fun l1 s2 F2 => ⟨rfl, NewQ.intro F2.wf rfl fun l3 s4 F4 => ?_⟩⟩
  have e4 := F2.ext.trans F4.ext
  exact ⟨_, F4.own.at.rdc (by simp [keyC]), _, (hc.ext e4).rdc (by simp [keyC]), _, key_eq _ _, rfl, e4⟩
theorem Has_ok (h : SetF F s p x) (hn : x.nl < 65536) (k : Key) : ACalls Tryz.prog F_orset_Set_Has [.ptr (some (p, 0)), .agg (keyC k)] s fun r s' => (∃ b, r = .bool b ∧ (b = true ↔ ∃ d, x.live d = some k)) ∧ Ext s s' := by
  refine ACalls.pre fun hw => q_orset_Set_Has _ _ _ _ ⟨rfl, NewQ.intro hw rfl fun l1 s2 F2 => ?_⟩
  refine ACalls.use (there_ok (h.ext F2.ext)) ?_
  rintro v s4 ⟨rfl, rfl⟩ w4
  refine ⟨_, rfl, bsplit.yes rfl ?_⟩
  refine ACalls.use (dots_ok (P := fun _ y => decide (y = k)) (h.ext F2.ext) hn fun d y s' e _ => Has1_ok d y (F2.own.at.ext e)) ?_
  rintro v s7 ⟨l, g, _, hm, _⟩ w7
  refine ⟨_, (g.sl dotC_len).lenB u_s_Dot _, ⟨_, rfl, ?_⟩, F2.ext.trans g.chg.ext⟩
  rw [decide_eq_true_eq]
  constructor
  · intro hl
    obtain ⟨d, hd⟩ := List.exists_mem_of_length_pos (l := l) (by omega)
    exact ⟨d, (held_key d).1 ((hm d).1 hd)⟩
  · rintro ⟨d, hd⟩
    have := List.length_pos_of_mem ((hm d).2 ((held_key d).2 hd))
    omega
/-- the items of an act's tail: what is gone of a key -/
structure KeyDots (x : OSet) (k : Key) (l : List Dot) : Prop where
  ris : Rising l
  mem : ∀ d, d ∈ l ↔ x.live d = some k
  len : l.length ≤ x.nl
theorem goneI_may {d : Dot} (h : d.may = true) : (goneI d).may = true := by simp [Itm.may, goneI, h]
/-- append to a row of one -/
theorem lit_append {s : AS} (hw : WFs s) {l0 : Nat} {i : Itm} (h0 : At s l0 (itemC i)) {v : AV} {l : List Itm} (hl : Sl itemC 5 s v l) (hb : l.length ≤ 2 ^ 29) {K : AV → AS → Prop} (hK : ∀ v' s', Sl itemC 5 s' v' (i :: l) → WFs s' → Ext s s' → K v' s') : Bd2 (aappend T Y_s_Item Y_s_Item (.slc (some (l0, 0)) 1 1 true) v s) K := by
  obtain ⟨hsrc, hlen⟩ := SlAt.src sl_s_Item hl
  have e := aappend_core sl_s_Item (base := some (l0, 0)) (len := 1) (cap := 1) (ex := true) u_s_Item hlen hsrc (by rw [flat_len itemC_len]) (by omega)
  have h1 : Sl itemC 5 s (.slc (some (l0, 0)) 1 1 true) [i] := SlAt.mk h0 (by simp [itemC]) (by simp [itemC])
  by_cases hz : l = []
  · subst hz
    rw [if_pos (by simp)] at e
    simp only [List.flatMap_nil, if_true, List.length_nil, Nat.add_zero] at e
    exact ⟨_, _, e, hK _ _ h1 hw (Ext.refl _)⟩
  · have hpos : 0 < l.length := List.length_pos_iff.2 hz
    rw [if_neg (by omega)] at e
    have hs1 := (SlAt.src sl_s_Item h1).1
    simp only [List.length_cons, List.length_nil, Nat.zero_add] at hs1
    rw [hs1] at e
    simp only [Option.bind_some, if_true] at e
    rw [show 1 + l.length = (i :: l).length by simp; omega] at e
    have Fr := hw.new (o := .cells ([i].flatMap itemC ++ l.flatMap itemC) 5 false) rfl
    refine ⟨_, _, e, hK _ _ ?_ Fr.wf Fr.ext⟩
    refine SlAt.mk ⟨_, _, Fr.at⟩ ?_ ?_ ?_
    · exact flat_len itemC_len _
    · rw [List.drop_zero, List.take_of_length_le]
      · simp
      · simp [flat_len itemC_len, itemC]; omega
    · exact Nat.le_refl _
theorem build_item (d : Dot) (k : Key) : abuild T Y_Item [(0, .agg (dotC d)), (1, .agg (keyC k))] = some (.agg (itemC ⟨d, k, false⟩)) := by kernel_rfl
theorem Add_ok (h : SetF F s p x) (k : Key) (d : Dot) (hmay : ∀ d, (x.live d).isSome = true → d.may = true) (hr1 : x.ex.length + x.nl < 4096) (hr2 : x.nl + x.nl < 1024) (hr3 : x.nl + x.nt + x.nl < 4096) :
    ACalls Tryz.prog F_orset_Set_Add [.ptr (some (p, 0)), .agg (keyC k), .agg (dotC d)] s fun r s' => (¬ (k.may = true ∧ d.may = true ∧ hasD x.v x.ex d = false) ∧ r = .tup [.slc none 0 0 true, .int .i64 2] ∧ Ext s s') ∨
      ((k.may = true ∧ d.may = true ∧ hasD x.v x.ex d = false) ∧ ∃ v l, KeyDots x k l ∧ r = .tup [v, .int .i64 0] ∧ Sl itemC 5 s' v (⟨d, k, false⟩ :: l.map goneI) ∧ ∃ F', SetF F' s' p (x.sees (⟨d, k, false⟩ :: l.map goneI)).2 ∧ (∀ y ∈ F', y = p ∨ s.h y = none) ∧ (∀ y ∈ F', s'.h y ≠ none) ∧ Mut [p] s s') := by
  refine ACalls.pre fun hw => q_orset_Set_Add _ _ _ _ _ ⟨rfl, NewQ.intro hw rfl fun l1 s2 F2 => ⟨rfl, NewQ.intro F2.wf rfl fun l3 s4 F4 => ?_⟩⟩
  have E4 := F2.ext.trans F4.ext
  have h4 := h.ext E4
  have k4 : At s4 l1 (keyC k) := (F2.own.ext F4.ext).at
  have d4 : At s4 l3 (dotC d) := F4.own.at
  refine ACalls.use (there_ok h4) ?_
  rintro v s6 ⟨rfl, rfl⟩ w6
  refine ⟨_, rfl, bsplit.no rfl ⟨fun vs s' => vs = [.bool !(k.may && d.may && !hasD x.v x.ex d)] ∧ Ext s6 s' ∧ WFs s', ?_, ?_⟩⟩
  · rintro b s10 ⟨hb, e10, w10⟩
    simp only [List.cons.injEq, AV.bool.injEq, and_true] at hb
    subst hb
    have E10 := E4.trans e10
    refine bsplit.mk (fun hb => .inl ⟨?_, rfl, E10⟩) (fun hb => ?_)
    · rintro ⟨a, b, c⟩
      rw [a, b, c] at hb; cases hb
    have hok : k.may = true ∧ d.may = true ∧ hasD x.v x.ex d = false := by
      simpa [Bool.and_eq_true, and_assoc] using hb
    have h10 := h.ext E10
    refine ACalls.use (dots_ok (P := fun _ y => decide (y = k)) h10 (by omega) fun d y s' e _ => Add1_ok d y ((k4.ext e10).ext e)) ?_
    rintro v11 s12 ⟨l, g, hris, hm, hln⟩ w12
    have kd : KeyDots x k l := ⟨hris, fun d => by rw [hm, held_key], hln⟩
    have e12 := e10.trans g.chg.ext
    have hd11 := g.sl dotC_len
    refine ⟨fun q _ v s' => (q = 3 → ∃ l, v = .slc (some (l, 0)) 1 1 true ∧ At s' l (itemC ⟨d, k, false⟩)) ∧ (q = 5 → Sl itemC 5 s' v (l.map goneI)), fun q _ v => q = 3 → ∃ l, v = .slc (some (l, 0)) 1 1 true, ?_, _, (d4.ext e12).rdc (by simp [dotC]), _, (k4.ext e12).rdc (by simp [keyC]), _, build_item d k, fun s16 e16 w16 _ => ?_, ⟨.slc (some (0, 0)) 1 1 true, fun _ => ⟨0, rfl⟩⟩, fun v20 hv20 => ⟨fun s21 e21 w21 _ => ?_, ⟨.undef, (fun h => by cases h)⟩, fun v24 _ s25 e25 w25 hS => ?_⟩⟩
    · rintro q ks v s s' e ⟨h1, h2⟩
      refine ⟨fun hq => ?_, fun hq => (h2 hq).ext e⟩
      obtain ⟨l, a, b⟩ := h1 hq
      exact ⟨l, a, b.ext e⟩
    · exact ⟨_, absl_agg sl_s_Item (itemC_len _) (itemC_one _), NewQ.intro w16 rfl fun l18 s19 F19 => ⟨F19.ext, ⟨(fun _ => ⟨l18, rfl, F19.own.at⟩), (fun h => by cases h)⟩, fun _ => ⟨l18, rfl⟩⟩⟩
    · refine (gone_ok (hd11.ext e21) (by omega)).mono ?_
      rintro v22 s23 g23
      exact ⟨g23.chg.ext, ⟨(fun h => by cases h), fun _ => g23.sl itemC_len⟩, (fun h => by cases h)⟩
    · obtain ⟨l18, rfl, hi⟩ := hS.1.1 rfl
      have hg := hS.2.1.2 rfl
      refine lit_append w25 hi hg (by simp; omega) fun v27 s28 hs28 w28 e28 => ?_
      have E28 := E10.trans (g.chg.ext.trans (e25.trans e28))
      have h28 := h.ext E28
      refine ACalls.use (See_ok h28 hs28 (fun i hi => ?_) (by simp; omega) (by simp; omega) (by simp; omega)) ?_
      · rcases List.mem_cons.1 hi with rfl | hi
        · simp [Itm.may, hok]
        · obtain ⟨d, hd, rfl⟩ := List.mem_map.1 hi
          exact goneI_may (hmay d (by rw [(kd.mem d).1 hd]; rfl))
      rintro v s30 ⟨rfl, F', hS', hn', ht', m30⟩ w30
      refine ⟨_, _, rfl, bsplit.no (by decide) (.inr ⟨hok, v27, l, kd, rfl, h28.keepI hs28 m30, F', hS', fun y hy => ?_, ht', E28.mut.trans m30⟩)⟩
      rcases hn' y hy with h | h
      · exact .inl h
      · exact .inr (E28.none h)
  · refine ⟨_, k4.rdc (by simp [keyC]), ?_⟩
    refine ACalls.use (MayKey_ok k _) ?_
    rintro v s35 ⟨rfl, e35⟩ w35
    refine ⟨_, rfl, bsplit.mk (fun hb => ⟨by simp only [Bool.not_eq_true'] at hb; rw [hb]; rfl, e35, w35⟩) (fun hb => ⟨_, (d4.ext e35).rdc (by simp [dotC]), ?_⟩)⟩
    simp only [Bool.not_eq_false'] at hb
    refine ACalls.use (ctx_May_ok d _) ?_
    rintro v s39 ⟨rfl, e39⟩ w39
    have e39' := e35.trans e39
    refine ⟨_, rfl, bsplit.mk (fun hb2 => ⟨by simp only [Bool.not_eq_true'] at hb2; rw [hb, hb2]; rfl, e39', w39⟩) (fun hb2 => ?_)⟩
    simp only [Bool.not_eq_false'] at hb2
    obtain ⟨ok, gap, hlen, pc, lm, tm, a, _, hc, _⟩ := h4.ext e39'
    refine ⟨_, by rw [a.at.rd1]; rfl, _, (d4.ext e39').rdc (by simp [dotC]), ?_⟩
    refine ACalls.use (ctx_Has_ok hc.at ok.r (by omega) d) ?_
    rintro v s46 ⟨rfl, e46⟩ w46
    exact ⟨_, rfl, by rw [hb, hb2]; simp, e39'.trans e46, w46⟩
end
end Go.Proofs.YtoklmpkpeanloaaGreat
end

section
set_option linter.unusedSimpArgs false
set_option linter.unusedVariables false
set_option linter.unusedSectionVars false
namespace Go.Proofs.YtoklmpkpeanloaaGreat.SK
open Go.Am Go.Minster2 Go.Minster.SK

/-- a row whose memory is new since s0, and may be written -/
def ArrN (s0 s : AS) (v : AV) (l : List Key) : Prop := Ext s0 s ∧ ((l = [] ∧ ∃ a, v = .slc a 0 0 true) ∨ ∃ la, v = .slc (some (la, 0)) l.length l.length false ∧ Arr s v la l [] ∧ s0.h la = none)
variable {cf : FuncId} [CmpOk cf]
theorem ArrN.dots {s0 s : AS} {v : AV} {l : List Key} (h : ArrN s0 s v l) : Sl keyC 2 s v l := by
  rcases h.2 with ⟨rfl, a, rfl⟩ | ⟨la, rfl, ⟨_, g, ho⟩, _⟩
  · exact Sl.nil
  · refine SlAt.mk ⟨_, _, ho⟩ (dots_len l) ?_ (Nat.le_refl _)
    rw [List.drop_zero]
    show (l.flatMap keyC ++ []).take _ = _
    rw [List.append_nil]
    exact List.take_of_length_le (Nat.le_of_eq (dots_len l))
end Go.Proofs.YtoklmpkpeanloaaGreat.SK
end

section
set_option linter.unusedSimpArgs false
set_option linter.unusedVariables false
namespace Go.Minster.SK
open Go.Minster2
end Go.Minster.SK
namespace Go.Proofs.YtoklmpkpeanloaaGreat.SK
open Go.Am Go.Minster2 Go.Minster.SK

end Go.Proofs.YtoklmpkpeanloaaGreat.SK
end

section
set_option linter.unusedSimpArgs false
set_option linter.unusedVariables false
namespace Go.Proofs.YtoklmpkpeanloaaGreat
open Go.Am Go.Minster Go.Minster2

section
variable {m : Nat} {es : List (Dot × Key × Nat)} {c : Nat} {ro : Bool} {s : AS}
end
section
variable {F : List Nat} {s s' : AS} {p : Nat} {x : OSet}
end

end Go.Proofs.YtoklmpkpeanloaaGreat
end

section
set_option linter.unusedSimpArgs false
set_option linter.unusedVariables false
namespace Go.Proofs.YtoklmpkpeanloaaGreat
open Go.Am Go.Minster Go.Minster2

def OSet.has (x : OSet) (d : Dot) : Bool := hasD x.v x.ex d
theorem OSet.has_may {x : OSet} {d : Dot} (h : x.has d = true) : d.may = true := by
  simp only [OSet.has, hasD, Bool.and_eq_true] at h; exact h.1
/-- a set that may be, of which at most B dots were seen -/
structure OOk (x : OSet) (B : Nat) : Prop where
  ok : COk x.v x.ex
  gap : Gap x.v x.ex
  lv : ∀ d k, x.live d = some k → x.has d = true ∧ k.may = true
  tb : ∀ d, x.tomb d = true → x.has d = true ∧ x.live d = none
  sz : ∃ U : List Dot, U.length ≤ B ∧ ∀ d, x.has d = true → d ∈ U
theorem OOk.zero : OOk OSet.zero 0 := ⟨COk.zero, (fun y hy => by cases hy), (fun d k h => by cases h), (fun d h => by cases h), [], by simp, fun d h => by rw [OSet.has, show OSet.zero.v = zeros from rfl, show OSet.zero.ex = [] from rfl, has_zero] at h; cases h⟩
theorem OOk.mono {x : OSet} {B B' : Nat} (h : OOk x B) (hb : B ≤ B') : OOk x B' := by
  obtain ⟨a, b, c, d, U, e, f⟩ := h; exact ⟨a, b, c, d, U, by omega, f⟩
section
variable {x : OSet} {B : Nat} {i : Itm}
theorem addR_no {v : List Int} {ex : List Dot} {d : Dot} (h : hasD v ex d = false) : addR v ex d = compact v (ins ex d) := by simp [addR, h]
theorem see_has (h : OOk x B) (hi : i.dot.may = true) (d : Dot) : (x.see i).2.has d = (x.has d || decide (d = i.dot)) := by
  unfold OSet.see
  split
  · rename_i hc
    simp only [Bool.and_eq_true] at hc
    obtain ⟨k, hk⟩ := Option.isSome_iff_exists.1 hc.1
    have := (h.lv _ _ hk).1
    by_cases e : d = i.dot
    · subst e; simp only [OSet.has] at this ⊢; simp [this]
    · simp [OSet.has, e]
  · split
    · rename_i hh
      by_cases e : d = i.dot
      · subst e; simp [OSet.has, hh]
      · simp [OSet.has, e]
    · rename_i hh
      have hh' : hasD x.v x.ex i.dot = false := by simpa using hh
      have key : hasD (compact x.v (ins x.ex i.dot)).1 (compact x.v (ins x.ex i.dot)).2 d = (hasD x.v x.ex d || decide (d = i.dot)) := by
        have := addR_has h.ok hi d
        rw [addR_no hh'] at this
        cases hq : hasD (compact x.v (ins x.ex i.dot)).1 (compact x.v (ins x.ex i.dot)).2 d with
        | true => rcases this.1 hq with h | h <;> simp [h]
        | false =>
          cases hq2 : (hasD x.v x.ex d || decide (d = i.dot)) with
          | false => rfl
          | true =>
            simp only [Bool.or_eq_true, decide_eq_true_eq] at hq2
            rw [this.2 hq2] at hq; cases hq
      split
      · exact key
      · exact key
theorem see_live (h : OOk x B) (d : Dot) : (x.see i).2.live d = if d = i.dot then (if i.gone then none else if x.has d then x.live d else some i.key) else x.live d := by
  unfold OSet.see
  split
  · rename_i hc
    simp only [Bool.and_eq_true] at hc
    simp [hc.2]
  · rename_i hc
    split
    · rename_i hh
      by_cases e : d = i.dot
      · subst e
        cases hg : i.gone with
        | true =>
          rw [hg, Bool.and_true] at hc
          simp only [if_true]
          simpa using hc
        | false => simp [OSet.has, hh]
      · simp [e]
    · rename_i hh
      have hnone : x.live i.dot = none := by
        cases hq : x.live i.dot with
        | none => rfl
        | some k => exact absurd (h.lv _ _ hq).1 hh
      split
      · rename_i hg
        by_cases e : d = i.dot
        · subst e; simp [hg, hnone]
        · simp [e]
      · rename_i hg
        by_cases e : d = i.dot
        · subst e; simp [hg, OSet.has, hh]
        · simp [e]
theorem see_tomb (h : OOk x B) (d : Dot) : (x.see i).2.tomb d = (x.tomb d || (decide (d = i.dot) && i.gone && ((x.live d).isSome || !x.has d))) := by
  unfold OSet.see
  split
  · rename_i hc
    simp only [Bool.and_eq_true] at hc
    by_cases e : d = i.dot
    · subst e; simp [hc.1, hc.2]
    · simp [e]
  · rename_i hc
    split
    · rename_i hh
      by_cases e : d = i.dot
      · subst e
        have : ((x.live i.dot).isSome || !x.has i.dot) = (x.live i.dot).isSome := by simp [OSet.has, hh]
        rw [this]
        cases hg : i.gone with
        | true => rw [hg, Bool.and_true] at hc; simp [hc]
        | false => simp
      · simp [e]
    · rename_i hh
      have hh' : x.has i.dot = false := by simpa [OSet.has] using hh
      split
      · rename_i hg
        by_cases e : d = i.dot
        · subst e; simp [hg, hh']
        · simp [e]
      · rename_i hg
        simp [hg]
theorem see_OOk (h : OOk x B) (hi : i.may = true) : OOk (x.see i).2 (if x.has i.dot then B else B + 1) := by
  have him : i.dot.may = true := by simp only [Itm.may, Bool.and_eq_true] at hi; exact hi.1
  have hok : COk (x.see i).2.v (x.see i).2.ex ∧ Gap (x.see i).2.v (x.see i).2.ex := by
    unfold OSet.see
    split
    · exact ⟨h.ok, h.gap⟩
    · split
      · exact ⟨h.ok, h.gap⟩
      · rename_i hh
        have hh' : hasD x.v x.ex i.dot = false := by simpa using hh
        have h1 := h.ok.add him
        have h2 := Gap.add h.ok h.gap him
        rw [addR_no hh'] at h1 h2
        split <;> exact ⟨h1, h2⟩
  refine ⟨hok.1, hok.2, fun d k hd => ?_, fun d hd => ?_, ?_⟩
  · rw [see_live h] at hd
    rw [see_has h him]
    by_cases e : d = i.dot
    · subst e
      rw [if_pos rfl] at hd
      refine ⟨by simp, ?_⟩
      split at hd
      · cases hd
      · split at hd
        · exact (h.lv _ _ hd).2
        · rename_i hg _
          simp only [Option.some.injEq] at hd
          subst hd
          simp only [Itm.may, Bool.and_eq_true] at hi
          have := hi.2
          rw [if_neg hg] at this; exact this
    · rw [if_neg e] at hd
      have := h.lv _ _ hd
      exact ⟨by simp [this.1], this.2⟩
  · rw [see_tomb h] at hd
    rw [see_has h him, see_live h]
    simp only [Bool.or_eq_true, Bool.and_eq_true, decide_eq_true_eq] at hd
    rcases hd with hd | ⟨⟨rfl, hg⟩, _⟩
    · have := h.tb _ hd
      refine ⟨by simp [this.1], ?_⟩
      by_cases e : d = i.dot
      · subst e; simp [this.1, this.2]
      · rw [if_neg e]; exact this.2
    · refine ⟨by simp, by simp [hg]⟩
  · obtain ⟨U, hU, hm⟩ := h.sz
    by_cases hh : x.has i.dot = true
    · rw [if_pos hh]
      refine ⟨U, hU, fun d hd => ?_⟩
      rw [see_has h him] at hd
      simp only [Bool.or_eq_true, decide_eq_true_eq] at hd
      rcases hd with hd | rfl
      · exact hm _ hd
      · exact hm _ hh
    · rw [if_neg hh]
      refine ⟨i.dot :: U, by simp; omega, fun d hd => ?_⟩
      rw [see_has h him] at hd
      simp only [Bool.or_eq_true, decide_eq_true_eq] at hd
      rcases hd with hd | rfl
      · simp [hm _ hd]
      · simp
end
theorem sees_nil (x : OSet) : x.sees [] = (false, x) := rfl
theorem sees_aux : ∀ (l : List Itm) (b : Bool) (x : OSet), l.foldl (fun a i => (a.1 || (a.2.see i).1, (a.2.see i).2)) (b, x) = (b || (x.sees l).1, (x.sees l).2)
  | [], b, x => by simp [OSet.sees]
  | i :: l, b, x => by
    unfold OSet.sees
    simp only [List.foldl_cons]
    rw [sees_aux l, sees_aux l (false || _)]
    simp [Bool.or_assoc]
theorem sees_cons (x : OSet) (i : Itm) (l : List Itm) : x.sees (i :: l) = ((x.see i).1 || ((x.see i).2.sees l).1, ((x.see i).2.sees l).2) := by
  conv => lhs; unfold OSet.sees
  rw [List.foldl_cons, sees_aux]
  simp
theorem sees_one (x : OSet) (i : Itm) : x.sees [i] = x.see i := by rw [sees_cons, sees_nil]; simp
theorem OOk.sees : ∀ (l : List Itm) {x : OSet} {B : Nat}, OOk x B → (∀ i ∈ l, i.may = true) → OOk (x.sees l).2 (B + l.length)
  | [], x, B, h, _ => h
  | i :: l, x, B, h, hl => by
    rw [sees_cons]
    have h1 := (see_OOk h (hl i (by simp))).mono (B' := B + 1) (by split <;> omega)
    have := OOk.sees l h1 fun j hj => hl j (by simp [hj])
    exact this.mono (by simp; omega)
theorem OOk.sees_old : ∀ (l : List Itm) {x : OSet} {B : Nat}, OOk x B → (∀ i ∈ l, i.may = true) → (∀ i ∈ l, x.has i.dot = true) → OOk (x.sees l).2 B
  | [], x, B, h, _, _ => h
  | i :: l, x, B, h, hl, ho => by
    rw [sees_cons]
    have h1 := see_OOk h (hl i (by simp))
    rw [if_pos (ho i (by simp))] at h1
    have him : i.dot.may = true := OSet.has_may (ho i (by simp))
    exact OOk.sees_old l h1 (fun j hj => hl j (by simp [hj])) fun j hj => by rw [see_has h him, ho j (by simp [hj])]; rfl

/-! ### how great -/
theorem rising_nodup {l : List Dot} (h : Rising l) : l.Nodup := h.imp fun {a b} hab e => by subst e; exact Dot.lt_irrefl _ hab
theorem SetF.bnd {F : List Nat} {s : AS} {p : Nat} {x : OSet} {B : Nat} (h : SetF F s p x) (o : OOk x B) : x.nl + x.nt ≤ B ∧ x.ex.length ≤ B := by
  obtain ⟨ok, gap, hlen, pc, lm, tm, a, hpF, hc, hlF, htF, hlt, ⟨es, c, h1, h2, h3⟩, ⟨es', c', h1', h2', h3'⟩⟩ := h
  obtain ⟨U, hU, hm⟩ := o.sz
  have n1 : (es.map fun e => e.1).Nodup := List.pairwise_map.2 h1.nd
  have n2 : (es'.map fun e => e.1).Nodup := List.pairwise_map.2 h1'.nd
  constructor
  · have hnd : ((es.map fun e => e.1) ++ (es'.map fun e => e.1)).Nodup := by
      refine List.nodup_append.2 ⟨n1, n2, fun a ha b hb => ?_⟩
      rintro rfl
      rw [keys_iff, h2] at ha
      rw [keys_iff, h2'] at hb
      cases hq : x.tomb a with
      | false => rw [hq] at hb; cases hb
      | true => rw [(o.tb _ hq).2] at ha; cases ha
    have := nodup_len hnd fun d hd => hm d ?_
    · simp only [List.length_append, List.length_map] at this; omega
    · rcases List.mem_append.1 hd with hd | hd
      · rw [keys_iff, h2] at hd
        obtain ⟨k, hk⟩ := Option.isSome_iff_exists.1 hd
        exact (o.lv _ _ hk).1
      · rw [keys_iff, h2'] at hd
        cases hq : x.tomb d with
        | false => rw [hq] at hd; cases hd
        | true => exact (o.tb _ hq).1
  · have := nodup_len (rising_nodup ok.r) fun d hd => hm d ?_
    · omega
    · simp [OSet.has, hasD, ok.m d hd, hd]

/-! ### rows in order -/
theorem pw_uniq {α : Type} {r : α → α → Prop} (irr : ∀ a, ¬ r a a) (asy : ∀ a b, r a b → ¬ r b a) : ∀ {l l' : List α}, l.Pairwise r → l'.Pairwise r → (∀ x, x ∈ l ↔ x ∈ l') → l = l'
  | [], [], _, _, _ => rfl
  | [], b :: l', _, _, h => by have := (h b).2 (by simp); cases this
  | a :: l, [], _, _, h => by have := (h a).1 (by simp); cases this
  | a :: l, b :: l', h1, h2, h => by
    obtain ⟨p1, p2⟩ := List.pairwise_cons.1 h1
    obtain ⟨q1, q2⟩ := List.pairwise_cons.1 h2
    have hab : a = b := by
      rcases List.mem_cons.1 ((h a).1 (by simp)) with e | ha
      · exact e
      · rcases List.mem_cons.1 ((h b).2 (by simp)) with e | hb
        · exact e.symm
        · exact absurd (p1 b hb) (asy _ _ (q1 a ha))
    subst hab
    have := pw_uniq irr asy p2 q2 fun x => by
      constructor
      · intro hx
        rcases List.mem_cons.1 ((h x).1 (by simp [hx])) with e | hx'
        · subst e; exact absurd (p1 x hx) (irr x)
        · exact hx'
      · intro hx
        rcases List.mem_cons.1 ((h x).2 (by simp [hx])) with e | hx'
        · subst e; exact absurd (q1 x hx) (irr x)
        · exact hx'
    rw [this]
theorem Dot.lt_asym {a b : Dot} (h : a.lt b = true) : ¬ b.lt a = true := by
  rw [Dot.lt_iff] at *; omega
theorem rising_uniq {l l' : List Dot} (h : Rising l) (h' : Rising l') (hm : ∀ d, d ∈ l ↔ d ∈ l') : l = l' :=
  pw_uniq (fun a h => Dot.lt_irrefl _ h) (fun a b => Dot.lt_asym) h h' hm
theorem KeyDots.none {x : OSet} {k : Key} {l : List Dot} (h : KeyDots x k l) (hn : ∀ d, x.live d ≠ some k) : l = [] := by
  cases l with
  | nil => rfl
  | cons d l => exact absurd ((h.mem d).1 (by simp)) (hn d)
theorem KeyDots.one {x : OSet} {k : Key} {l : List Dot} (h : KeyDots x k l) (d0 : Dot) (hn : ∀ d, x.live d = some k ↔ d = d0) : l = [d0] :=
  rising_uniq h.ris (List.pairwise_singleton _ _) fun d => by rw [h.mem, hn]; simp
theorem KeyDots.has {x : OSet} {B : Nat} (o : OOk x B) {k : Key} {l : List Dot} (h : KeyDots x k l) {d : Dot} (hd : d ∈ l) : x.has d = true := (o.lv d k ((h.mem d).1 hd)).1

/-! ### a law's own sets -/
/-- a set whose memory is new since s0 -/
structure SetO (s0 s : AS) (F : List Nat) (p : Nat) (x : OSet) (B : Nat) : Prop where
  set : SetF F s p x
  ok : OOk x B
  new : ∀ y ∈ F, s0.h y = none
  there : ∀ y ∈ F, s.h y ≠ none
def Dj (F G : List Nat) : Prop := ∀ y ∈ F, y ∉ G
theorem Dj.symm {F G : List Nat} (h : Dj F G) : Dj G F := fun y hy hf => h y hf hy
section
variable {s0 s s' : AS} {F F' G : List Nat} {p q : Nat} {x y : OSet} {B C : Nat}
theorem SetF.pF (h : SetF F s p x) : p ∈ F := by obtain ⟨_, _, _, pc, lm, tm, _, h, _⟩ := h; exact h
theorem there_mut {L : List Nat} (h : ∀ y ∈ F, s.h y ≠ none) (m : Mut L s s') (d : Dj L F) : ∀ y ∈ F, s'.h y ≠ none := by
  intro y hy
  cases hq : s.h y with
  | none => exact absurd hq (h y hy)
  | some o => rw [m.1 y o (fun hl => d y hl hy) hq]; simp
theorem SetO.keep {L : List Nat} (h : SetO s0 s F p x B) (m : Mut L s s') (d : Dj L F) : SetO s0 s' F p x B :=
  ⟨h.set.mut m d, h.ok, h.new, there_mut h.there m d⟩
theorem SetO.ext (h : SetO s0 s F p x B) (e : Ext s s') : SetO s0 s' F p x B := h.keep (L := []) e.mut (fun y hy => by cases hy)
theorem SetO.bnd (h : SetO s0 s F p x B) : x.nl + x.nt ≤ B ∧ x.ex.length ≤ B := h.set.bnd h.ok
theorem SetO.mut (h : SetO s0 s F p x B) (e : Ext s0 s) {x' : OSet} {B' : Nat} (h' : SetF F' s' p x') (ok : OOk x' B') (hn : ∀ y ∈ F', y ∈ F ∨ s.h y = none) (ht : ∀ y ∈ F', s'.h y ≠ none) : SetO s0 s' F' p x' B' :=
  ⟨h', ok, fun y hy => by
    rcases hn y hy with h2 | h2
    · exact h.new y h2
    · exact e.none h2, ht⟩
theorem new_or (hp : p ∈ F) (hn : ∀ y ∈ F', y = p ∨ s.h y = none) : ∀ y ∈ F', y ∈ F ∨ s.h y = none := fun y hy => by
  rcases hn y hy with rfl | h
  · exact .inl hp
  · exact .inr h
end
end Go.Proofs.YtoklmpkpeanloaaGreat
end

section
set_option linter.unusedSimpArgs false
set_option linter.unusedVariables false
namespace Go.Proofs.YtoklmpkpeanloaaGreat
open Go.Am Go.Minster Go.Minster2

theorem tri_Item : triples (T.und Y_Item) = some [(false, Y_Dot, 0), (false, Y_Key, 2), (false, Y_bool, 4)] := by kernel_rfl
theorem et_Item : T.eqt Y_Item = true := by kernel_rfl
theorem dot_eqd (n : Nat) (a b : Dot) : aeq T (n + 2) Y_Dot (.agg (dotC a)) (.agg (dotC b)) = some (decide (a = b)) := by
  rw [aeq_tri tri_Dot et_Dot]
  simp only [eqTri, cond_false, part_s ag_int, part_s ag_uint64, dotC, List.getElem?_cons_zero, List.getElem?_cons_succ, Option.bind_some, aeqInt u_int, aeqInt u_uint64]
  cases a; cases b
  simp only [Dot.mk.injEq]
  rename_i r c r' c'
  by_cases h1 : r = r' <;> by_cases h2 : c = c' <;> simp [h1, h2]
theorem key_eqd (n : Nat) (a b : Key) : aeq T (n + 2) Y_Key (.agg (keyC a)) (.agg (keyC b)) = some (decide (a = b)) := by
  rw [aeq_tri tri_Key et_Key]
  simp only [eqTri, cond_false, part_s ag_string, keyC, List.getElem?_cons_zero, List.getElem?_cons_succ, Option.bind_some, aeqStr u_string]
  cases a; cases b
  simp only [Key.mk.injEq]
  rename_i r c r' c'
  by_cases h1 : r = r' <;> by_cases h2 : c = c' <;> simp [h1, h2]
theorem item_eq (a b : Itm) : aeq T 100 Y_Item (.agg (itemC a)) (.agg (itemC b)) = some (decide (a = b)) := by
  rw [aeq_tri tri_Item et_Item]
  have e1 : Am.part T Y_Dot (itemC a) 0 = some (.agg (dotC a.dot)) := by rw [part_a ag_Dot z_Dot]; rfl
  have e2 : Am.part T Y_Dot (itemC b) 0 = some (.agg (dotC b.dot)) := by rw [part_a ag_Dot z_Dot]; rfl
  have e3 : Am.part T Y_Key (itemC a) 2 = some (.agg (keyC a.key)) := by rw [part_a ag_Key z_Key]; rfl
  have e4 : Am.part T Y_Key (itemC b) 2 = some (.agg (keyC b.key)) := by rw [part_a ag_Key z_Key]; rfl
  have e5 : Am.part T Y_bool (itemC a) 4 = some (.bool a.gone) := by rw [part_s ag_bool]; rfl
  have e6 : Am.part T Y_bool (itemC b) 4 = some (.bool b.gone) := by rw [part_s ag_bool]; rfl
  simp only [eqTri, cond_false, e1, e2, e3, e4, e5, e6, Option.bind_some, dot_eqd 97, key_eqd 97, aeqBool u_bool]
  cases a; cases b
  simp only [Itm.mk.injEq]
  rename_i d k g d' k' g'
  by_cases h1 : d = d' <;> by_cases h2 : k = k' <;> by_cases h3 : g = g' <;> simp [h1, h2, h3]

section
variable {s0 s : AS} {F : List Nat} {p : Nat} {x : OSet} {B : Nat}
theorem OOk.lmay (h : OOk x B) : ∀ d, (x.live d).isSome = true → d.may = true := fun d hd => by
  obtain ⟨k, hk⟩ := Option.isSome_iff_exists.1 hd
  exact OSet.has_may (h.lv _ _ hk).1
theorem goneL_may {l : List Dot} (h : ∀ d ∈ l, d.may = true) : ∀ i ∈ l.map goneI, i.may = true := fun i hi => by
  obtain ⟨d, hd, rfl⟩ := List.mem_map.1 hi
  exact goneI_may (h d hd)
theorem OOk.sees_gone (o : OOk x B) {l : List Dot} (h : ∀ d ∈ l, x.has d = true) : OOk (x.sees (l.map goneI)).2 B :=
  o.sees_old _ (goneL_may fun d hd => OSet.has_may (h d hd)) fun i hi => by
    obtain ⟨d, hd, rfl⟩ := List.mem_map.1 hi
    exact h d hd
theorem OOk.add (o : OOk x B) {k : Key} {d : Dot} {l : List Dot} (hk : k.may = true) (hd : d.may = true) (hl : KeyDots x k l) : OOk (x.sees (⟨d, k, false⟩ :: l.map goneI)).2 (B + 1) := by
  rw [sees_cons]
  have hi : (⟨d, k, false⟩ : Itm).may = true := by simp [Itm.may, hk, hd]
  have o1 := (see_OOk o hi).mono (B' := B + 1) (by split <;> omega)
  exact o1.sees_gone fun y hy => by rw [see_has o hd, hl.has o hy]; rfl

/-- Add, by a law -/
theorem SetO.Add (h : SetO s0 s F p x B) (e : Ext s0 s) (hB : B ≤ 500) (k : Key) (d : Dot) (hk : k.may = true) (hd : d.may = true) (hn : x.has d = false) :
    ACalls Tryz.prog F_orset_Set_Add [.ptr (some (p, 0)), .agg (keyC k), .agg (dotC d)] s fun r s' => ∃ v l, KeyDots x k l ∧ r = .tup [v, .int .i64 0] ∧ Sl itemC 5 s' v (⟨d, k, false⟩ :: l.map goneI) ∧ Mut [p] s s' ∧ Ext s0 s' ∧ ∃ F' x', x' = (x.sees (⟨d, k, false⟩ :: l.map goneI)).2 ∧ SetO s0 s' F' p x' (B + 1) ∧ ∀ y ∈ F', y ∈ F ∨ s.h y = none := by
  obtain ⟨b1, b2⟩ := h.bnd
  refine (Add_ok h.set k d h.ok.lmay (by omega) (by omega) (by omega)).mono ?_
  rintro r s' (⟨hc, _⟩ | ⟨_, v, l, kd, rfl, hs, F', hS, hn', ht', m⟩)
  · exact absurd ⟨hk, hd, hn⟩ hc
  · have hF := new_or h.set.pF hn'
    exact ⟨v, l, kd, rfl, hs, m, Ext.wr e (h.new _ h.set.pF) m, F', _, rfl, h.mut e hS (h.ok.add hk hd kd) hF ht', hF⟩
theorem SetO.See (h : SetO s0 s F p x B) (e : Ext s0 s) {a : AV} {l : List Itm} (hl : Sl itemC 5 s a l) (hB : B + l.length ≤ 1000) (hm : ∀ i ∈ l, i.may = true) :
    ACalls Tryz.prog F_orset_Set_See [.ptr (some (p, 0)), a] s fun r s' => r = .tup [.bool (x.sees l).1, .int .i64 0] ∧ Mut [p] s s' ∧ Ext s0 s' ∧ ∃ F' x', x' = (x.sees l).2 ∧ SetO s0 s' F' p x' (B + l.length) ∧ ∀ y ∈ F', y ∈ F ∨ s.h y = none := by
  obtain ⟨b1, b2⟩ := h.bnd
  refine (See_ok h.set hl hm (by omega) (by omega) (by omega)).mono ?_
  rintro r s' ⟨rfl, F', hS, hn', ht', m⟩
  have hF := new_or h.set.pF hn'
  exact ⟨rfl, m, Ext.wr e (h.new _ h.set.pF) m, F', _, rfl, h.mut e hS (h.ok.sees l hm) hF ht', hF⟩
end

/-! ### what is seen and live, by cases -/
/-- just the dots of S were seen, and V says what is live -/
structure Is (x : OSet) (S : List Dot) (V : Dot → Option Key) : Prop where
  has : ∀ d, x.has d = decide (d ∈ S)
  live : ∀ d, x.live d = V d
theorem Is.zero : Is OSet.zero [] fun _ => none := ⟨fun d => by rw [OSet.has, show OSet.zero.v = zeros from rfl, show OSet.zero.ex = [] from rfl, has_zero]; simp, fun d => rfl⟩
def seeV (S : List Dot) (V : Dot → Option Key) (i : Itm) : Dot → Option Key := fun d => if d = i.dot then (if i.gone then none else if d ∈ S then V d else some i.key) else V d
theorem Is.see {x : OSet} {S : List Dot} {V : Dot → Option Key} {B : Nat} (h : Is x S V) (o : OOk x B) {i : Itm} (hi : i.dot.may = true) : Is (x.see i).2 (i.dot :: S) (seeV S V i) := by
  refine ⟨fun d => ?_, fun d => ?_⟩
  · rw [see_has o hi, h.has]
    by_cases h1 : d = i.dot <;> by_cases h2 : d ∈ S <;> simp [h1, h2]
  · rw [see_live o, h.live, h.has, seeV]
    simp only [decide_eq_true_eq]
theorem Is.sees1 {x x' : OSet} {S : List Dot} {V : Dot → Option Key} {B : Nat} (h : Is x S V) (o : OOk x B) {i : Itm} (hx : x' = (x.sees [i]).2) (hi : i.dot.may = true) : Is x' (i.dot :: S) (seeV S V i) := by
  subst hx; rw [sees_one]; exact h.see o hi
theorem Is.sees2 {x x' : OSet} {S : List Dot} {V : Dot → Option Key} {B : Nat} (h : Is x S V) (o : OOk x B) {i j : Itm} (hx : x' = (x.sees [i, j]).2) (hi : i.may = true) (hj : j.dot.may = true) : Is x' (j.dot :: i.dot :: S) (seeV (i.dot :: S) (seeV S V i) j) := by
  subst hx
  have him : i.dot.may = true := by simp only [Itm.may, Bool.and_eq_true] at hi; exact hi.1
  rw [sees_cons, sees_one]
  exact (h.see o him).see (see_OOk o hi) hj
end Go.Proofs.YtoklmpkpeanloaaGreat
end

section
set_option linter.unusedVariables false
set_option maxRecDepth 100000
set_option maxHeartbeats 4000000
namespace Go.Proofs.YtoklmpkpeanloaaGreat
open Go.Am

/-- what minster/minsterlaw07.known asks -/
def Q_law07iknown  (s : AS) (R : AV → AS → Prop) : Prop :=
 ACalls Tryz.prog F_orset_New [] s fun v1 s2 => ∃ p3 : Option (Nat × Nat), v1 = .ptr p3 ∧ (RdG (abuild T Y_Key [(0, (.str ([110, 101, 119, 115]))), (1, (.str ([97])))]) fun g4 => NewQ (.cells [.str [], .str []] 0 false) s2 fun l5 s6 => OkC (some 2) g4 (StQ (awr s6 l5 0 g4) fun s7 => RdG (abuild T Y_Dot [(0, (.int .i64 1)), (1, (.int .u64 1))]) fun g8 => RdG (abuild T Y_Dot [(0, (.int .i64 2)), (1, (.int .u64 1))]) fun g9 => NewQ (.cells [.int .i64 0, .int .u64 0] 0 false) s7 fun l10 s11 => NewQ (.cells [.int .i64 0, .int .u64 0] 0 false) s11 fun l12 s13 => OkC (some 2) g8 (StQ (awr s13 l10 0 g8) fun s14 => OkC (some 2) g9 (StQ (awr s14 l12 0 g9) fun s15 => RdL (rdc s15 l5 0 2) fun g16 => RdL (rdc s15 l10 0 2) fun g17 => ACalls Tryz.prog F_orset_Set_Add [(.ptr p3), (.agg g16), (.agg g17)] s15 fun v18 s19 => ∃ v20 : AV, ∃ n21 : Int, v18 = .tup [v20, (.int .i64 n21)] ∧ (RdL (rdc s19 l5 0 2) fun g22 => RdL (rdc s19 l12 0 2) fun g23 => ACalls Tryz.prog F_orset_Set_Add [(.ptr p3), (.agg g22), (.agg g23)] s19 fun v24 s25 => ∃ v26 : AV, ∃ n27 : Int, v24 = .tup [v26, (.int .i64 n27)] ∧ (RdL (rdc s25 l12 0 2) fun g28 => ACalls Tryz.prog F_orset_Set_Live [(.ptr p3), (.agg g28)] s25 fun v29 s30 => ∃ g31 : List AV, ∃ b32 : Bool, v29 = .tup [(.agg g31), (.bool b32)] ∧ (NewQ (.cells [.str [], .str []] 0 false) s30 fun l33 s34 => OkC (some 2) g31 (StQ (awr s34 l33 0 g31) fun s35 => RdG (abuild T Y_Dot [(0, (.int .i64 3)), (1, (.int .u64 4))]) fun g36 => NewQ (.cells [.int .i64 0, .int .u64 0] 0 false) s35 fun l37 s38 => OkC (some 2) g36 (StQ (awr s38 l37 0 g36) fun s39 => RdL (rdc s39 l37 0 2) fun g40 => RdG (abuild T Y_Item [(0, (.agg g40)), (2, (.bool true))]) fun g41 => RdL (absl T Y_s_Item 1 [(0, (.agg g41))]) fun g42 => NewQ (.cells g42 0 false) s39 fun l43 s44 => ACalls Tryz.prog F_orset_Set_See [(.ptr p3), (.slc (some (l43, 0)) 1 1 true)] s44 fun v45 s46 => ∃ b47 : Bool, ∃ n48 : Int, v45 = .tup [(.bool b47), (.int .i64 n48)] ∧ (RdL (rdc s46 l37 0 2) fun g49 => RdL (rdc s46 l5 0 2) fun g50 => RdG (abuild T Y_Item [(0, (.agg g49)), (1, (.agg g50))]) fun g51 => RdL (absl T Y_s_Item 1 [(0, (.agg g51))]) fun g52 => NewQ (.cells g52 0 false) s46 fun l53 s54 => ACalls Tryz.prog F_orset_Set_See [(.ptr p3), (.slc (some (l53, 0)) 1 1 true)] s54 fun v55 s56 => ∃ b57 : Bool, ∃ n58 : Int, v55 = .tup [(.bool b57), (.int .i64 n58)] ∧ (RdL (rdc s56 l37 0 2) fun g59 => ACalls Tryz.prog F_orset_Set_Live [(.ptr p3), (.agg g59)] s56 fun v60 s61 => ∃ g62 : List AV, ∃ b63 : Bool, v60 = .tup [(.agg g62), (.bool b63)] ∧ (NewQ (.cells [.str [], .str []] 0 false) s61 fun l64 s65 => OkC (some 2) g62 (StQ (awr s65 l64 0 g62) fun s66 => DrawQ fun S V => bsplit ((n21 : Int) == 0) (bsplit ((n27 : Int) == 0) (RdI .i64 (alenB T Y_s_Item v26 s66) fun n67 => bsplit ((n67 : Int) == 2) (IxQ (aindexAddr T Y_s_Item v26 (.int .i64 0)) fun l68 o69 => RdL (rdc s66 l68 o69 2) fun g70 => RdL (rdc s66 l12 0 2) fun g71 => RdO (aeq T 100 Y_Dot (.agg g70) (.agg g71)) fun b72 => bsplit b72 (IxQ (aindexAddr T Y_s_Item v26 (.int .i64 1)) fun l73 o74 => RdL (rdc s66 l73 o74 5) fun g75 => RdL (rdc s66 l10 0 2) fun g76 => RdG (abuild T Y_Item [(0, (.agg g76)), (2, (.bool true))]) fun g77 => RdO (aeq T 100 Y_Item (.agg g75) (.agg g77)) fun b78 => bsplit b78 (bsplit b32 (RdL (rdc s66 l10 0 2) fun g79 => (∀ s80 : AS, Ext s66 s80 → WFs s80 → (True) → ACalls Tryz.prog F_orset_Set_Gone [(.ptr p3), (.agg g79)] s80 fun v81 s82 => ∃ b83 : Bool, v81 = .bool b83 ∧ ((Ext s80 s82 ∧ S 33 [(.func F_orset_Set_Gone []), (.ptr p3), (.agg g79)] (.bool b83) s82 ∧ V 33 [(.func F_orset_Set_Gone []), (.ptr p3), (.agg g79)] (.bool b83)))) ∧ (∃ v, V 33 [(.func F_orset_Set_Gone []), (.ptr p3), (.agg g79)] v) ∧ ∀ v84 : AV, V 33 [(.func F_orset_Set_Gone []), (.ptr p3), (.agg g79)] v84 → ∃ b85 : Bool, v84 = .bool b85 ∧ (bsplit b85 (RdL (rdc s66 l5 0 2) fun g86 => (∀ s87 : AS, Ext s66 s87 → WFs s87 → (S 33 [(.func F_orset_Set_Gone []), (.ptr p3), (.agg g79)] (.bool b85) s87 ∧ True) → ACalls Tryz.prog F_orset_Set_Has [(.ptr p3), (.agg g86)] s87 fun v88 s89 => ∃ b90 : Bool, v88 = .bool b90 ∧ ((Ext s87 s89 ∧ S 38 [(.func F_orset_Set_Has []), (.ptr p3), (.agg g86)] (.bool b90) s89 ∧ V 38 [(.func F_orset_Set_Has []), (.ptr p3), (.agg g86)] (.bool b90)))) ∧ (∃ v, V 38 [(.func F_orset_Set_Has []), (.ptr p3), (.agg g86)] v) ∧ ∀ v91 : AV, V 38 [(.func F_orset_Set_Has []), (.ptr p3), (.agg g86)] v91 → ∃ b92 : Bool, v91 = .bool b92 ∧ (bsplit b92 (bsplit (!b63) (RdL (rdc s66 l37 0 2) fun g93 => ∀ s94 : AS, Ext s66 s94 → WFs s94 → (S 33 [(.func F_orset_Set_Gone []), (.ptr p3), (.agg g79)] (.bool b85) s94 ∧ (S 38 [(.func F_orset_Set_Has []), (.ptr p3), (.agg g86)] (.bool b92) s94 ∧ True)) → ACalls Tryz.prog F_orset_Set_Gone [(.ptr p3), (.agg g93)] s94 fun v96 s97 => ∃ b98 : Bool, v96 = .bool b98 ∧ (R (.bool b98) s97)) (∀ s99 : AS, Ext s66 s99 → WFs s99 → (S 33 [(.func F_orset_Set_Gone []), (.ptr p3), (.agg g79)] (.bool b85) s99 ∧ (S 38 [(.func F_orset_Set_Has []), (.ptr p3), (.agg g86)] (.bool b92) s99 ∧ True)) → R (.bool false) s99)) (∀ s101 : AS, Ext s66 s101 → WFs s101 → (S 33 [(.func F_orset_Set_Gone []), (.ptr p3), (.agg g79)] (.bool b85) s101 ∧ (S 38 [(.func F_orset_Set_Has []), (.ptr p3), (.agg g86)] (.bool b92) s101 ∧ True)) → R (.bool false) s101))) (∀ s103 : AS, Ext s66 s103 → WFs s103 → (S 33 [(.func F_orset_Set_Gone []), (.ptr p3), (.agg g79)] (.bool b85) s103 ∧ True) → R (.bool false) s103))) (∀ s105 : AS, Ext s66 s105 → WFs s105 → (True) → R (.bool false) s105)) (∀ s107 : AS, Ext s66 s107 → WFs s107 → (True) → R (.bool false) s107)) (∀ s109 : AS, Ext s66 s109 → WFs s109 → (True) → R (.bool false) s109)) (∀ s111 : AS, Ext s66 s111 → WFs s111 → (True) → R (.bool false) s111)) (∀ s113 : AS, Ext s66 s113 → WFs s113 → (True) → R (.bool false) s113)) (∀ s115 : AS, Ext s66 s115 → WFs s115 → (True) → R (.bool false) s115))))))))))))))

def A_law07iknown : QA := (.seq .leaf (.seq .leaf (.seq .leaf (.seq .leaf (.seq .leaf (.seq .leaf (.seq .leaf (.seq .leaf (.seq .leaf (.seq .leaf (.seq .leaf (.seq (.drawH 47 [[], [], [], [], [], [], [], [], [], [], [], [], [], [], [], [], [], [], [], [], [], [], [], [], [], [], [], [], [], [], [], [], [], [], [], [], [], [], [33], [], [], [], [], [], [], [], []] [33, 38]) .leaf))))))))))))

theorem q_law07iknown  (s : AS) (R : AV → AS → Prop) (h : Q_law07iknown  s R) : ACalls Tryz.prog F_law07iknown [] s R :=
  ACalls.q (n := 105) (rs := [.tmp 0]) (A := A_law07iknown) hT hmx Tryz.func13 (by kernel_rfl) rfl rfl rfl (by kernel_rfl) (by kernel_rfl) h

end Go.Proofs.YtoklmpkpeanloaaGreat
end

section
set_option linter.unusedSimpArgs false
set_option linter.unusedVariables false
namespace Go.Proofs.YtoklmpkpeanloaaGreat
open Go.Am Go.Minster Go.Minster2

theorem key_build (a b : List UInt8) : abuild T Y_Key [(0, .str a), (1, .str b)] = some (.agg (keyC ⟨a, b⟩)) := by kernel_rfl
theorem dot_build2 (r c : Int) : abuild T Y_Dot [(0, .int .i64 r), (1, .int .u64 c)] = some (.agg (dotC ⟨r, c⟩)) := by kernel_rfl
theorem item1_row (i : Itm) : absl T Y_s_Item 1 [(0, .agg (itemC i))] = some (itemC i) := absl_agg sl_s_Item (itemC_len i) (itemC_one i)
/-- the end of a set's life with a law: what stays -/
theorem SetO.cells {s0 s s' : AS} {F : List Nat} {p : Nat} {x : OSet} {B : Nat} (h : SetO s0 s F p x B) {l : Nat} {cs : List AV} (hl : Am.Own s l cs) (hn : l ∉ F) (m : Mut [p] s s') : Am.Own s' l cs :=
  hl.mut m (by simp only [List.mem_singleton]; rintro rfl; exact hn h.set.pF)
theorem rdc_pre {s : AS} {l o n m : Nat} {cs : List AV} (h : rdc s l o n = some cs) (hm : m ≤ n) : rdc s l o m = some (cs.take m) := by
  unfold Am.rdc at *
  split at h
  · rename_i C g ro hl
    split at h
    · rename_i hn
      rw [if_pos (by omega)]
      simp only [Option.some.injEq] at h
      rw [← h, List.take_take]
      congr 2; omega
    · cases h
  · cases h
set_option maxRecDepth 100000 in
theorem known07_ok (s : AS) : ACalls Tryz.prog F_law07iknown [] s fun v s' => v = .bool true ∧ Ext s s' := by
  let k : Key := ⟨[110, 101, 119, 115], [97]⟩
  let d1 : Dot := ⟨1, 1⟩
  let d2 : Dot := ⟨2, 1⟩
  let d3 : Dot := ⟨3, 4⟩
  have hk : k.may = true := by decide
  have h12 : d2 ≠ d1 := by decide
  refine q_law07iknown _ _ ?_
  refine ACalls.use (New_ok s) ?_
  rintro v s2 ⟨p, F, rfl, hS, hn, ht, e2⟩ w2
  have A2 : SetO s s2 F p OSet.zero 0 := ⟨hS, OOk.zero, hn, ht⟩
  refine ⟨_, rfl, _, key_build _ _, NewSt w2 rfl rfl rfl fun l5 s7 F7 => ⟨_, dot_build2 1 1, _, dot_build2 2 1, NewQ.intro F7.wf rfl fun l10 s11 F11 => NewQ.intro F11.wf rfl fun l12 s13 F13 => ⟨⟨by simp [dotC], rfl⟩, ?_⟩⟩⟩
  have hne : l10 ≠ l12 := by
    rintro rfl
    have := F13.no
    rw [F11.at] at this; cases this
  refine StQ.own F13.wf (F11.own.ext F13.ext) (by simp [dotC]) fun s14 P14 => ⟨⟨by simp [dotC], rfl⟩, StQ.own P14.wf (F13.own.mut P14.mut (by simpa using hne.symm)) (by simp [dotC]) fun s15 P15 => ?_⟩
  have e13 : Ext s2 s13 := F7.ext.trans (F11.ext.trans F13.ext)
  have hn10 : s2.h l10 = none := F7.ext.none F11.no
  have hn12 : s2.h l12 = none := F7.ext.none (F11.ext.none F13.no)
  have e15 : Ext s2 s15 := Ext.wr (Ext.wr e13 hn10 P14.mut) hn12 P15.mut
  have E15 := e2.trans e15
  have o10 : Am.Own s15 l10 (dotC d1) := by
    have := P14.at
    rw [wrs_all0 (by simp [dotC])] at this
    exact Am.Own.mut this P15.mut (by simpa using hne)
  have o12 : Am.Own s15 l12 (dotC d2) := by
    have := P15.at
    rw [wrs_all0 (by simp [dotC])] at this
    exact this
  have n7 : l5 ≠ l10 := by rintro rfl; have := F11.no; rw [F7.at] at this; cases this
  have n7' : l5 ≠ l12 := by rintro rfl; have := F13.no; rw [F11.ext.1 _ _ F7.at] at this; cases this
  have o5 : Am.Own s15 l5 (keyC k) := (((F7.own.ext F11.ext).ext F13.ext).mut P14.mut (by simpa using n7)).mut P15.mut (by simpa using n7')
  have A15 := A2.ext e15
  have nin : ∀ l, s2.h l = none → l ∉ F := fun l hl hf => ht l hf hl
  refine ⟨_, o5.at.rdc (by simp [keyC]), _, o10.at.rdc (by simp [dotC]), ?_⟩
  have hp5 : ∀ {F' : List Nat} {s s' : AS} {l : Nat}, (∀ y ∈ F', y ∈ F ∨ s.h y = none) → l ∉ F → s.h l ≠ none → l ∉ F' := fun h1 h2 h3 h4 => by
    rcases h1 _ h4 with h | h
    · exact h2 h
    · exact h3 h
  have n5 : l5 ≠ p := fun h => nin l5 F7.no (h ▸ hS.pF)
  have n10 : l10 ≠ p := fun h => nin l10 hn10 (h ▸ hS.pF)
  have n12 : l12 ≠ p := fun h => nin l12 hn12 (h ▸ hS.pF)
  refine ACalls.use (A15.Add E15 (by omega) k d1 hk (by decide) (by rw [Is.zero.has]; rfl)) ?_
  rintro v s19 ⟨v1, l, kd, rfl, _, m19, E19, F1, x1, hx1, A19, hF1⟩ w19
  obtain rfl := kd.none fun d h => by cases h
  have i1 := Is.zero.sees1 OOk.zero (i := ⟨d1, k, false⟩) hx1 (by decide)
  have o5 := o5.mut m19 (by simpa using n5)
  have o10 := o10.mut m19 (by simpa using n10)
  have o12 := o12.mut m19 (by simpa using n12)
  refine ⟨_, _, rfl, _, o5.at.rdc (by simp [keyC]), _, o12.at.rdc (by simp [dotC]), ?_⟩
  refine ACalls.use (A19.Add E19 (by omega) k d2 hk (by decide) (by rw [i1.has]; decide)) ?_
  rintro v s25 ⟨v2, l, kd, rfl, hs25, m25, E25, F2, x2, hx2, A25, hF2⟩ w25
  obtain rfl := kd.one d1 fun d => by
    rw [i1.live]
    simp [seeV]
  have i2 := i1.sees2 A19.ok (i := ⟨d2, k, false⟩) (j := goneI d1) hx2 (by decide) (by decide)
  have o5 := o5.mut m25 (by simpa using n5)
  have o10 := o10.mut m25 (by simpa using n10)
  have o12 := o12.mut m25 (by simpa using n12)
  refine ⟨_, _, rfl, _, o12.at.rdc (by simp [dotC]), ?_⟩
  refine ACalls.use (Live_ok A25.set d2) ?_
  rintro v s30 ⟨rfl, e30⟩ w30
  have hl2 : x2.live d2 = some k := (i2.live d2).trans (by simp [seeV, goneI, h12])
  refine ⟨_, _, rfl, NewSt w30 rfl rfl rfl fun l33 s35 F35 => ⟨_, dot_build2 3 4, NewSt F35.wf rfl rfl rfl fun l37 s39 F39 => ?_⟩⟩
  have e39 := e30.trans (F35.ext.trans F39.ext)
  refine ⟨_, F39.own.at.rdc (by simp [dotC]), _, build_gone d3, _, item1_row _, NewQ.intro F39.wf rfl fun l43 s44 F44 => ?_⟩
  have e44 := e39.trans F44.ext
  have A44 := A25.ext e44
  have sl44 : Sl itemC 5 s44 (.slc (some (l43, 0)) 1 1 true) [goneI d3] := SlAt.mk F44.own.at (by simp [itemC]) (by simp [itemC])
  refine ACalls.use (A44.See (E25.trans e44) sl44 (by simp) (by simp; decide)) ?_
  rintro v s46 ⟨rfl, m46, E46, F3, x3, hx3, A46, hF3⟩ w46
  have i3 := i2.sees1 A25.ok (i := goneI d3) hx3 (by decide)
  have hp2 : p ∈ F2 := A25.set.pF
  have n37 : l37 ≠ p := by
    rintro rfl
    have := (A25.ext (e30.trans F35.ext)).there _ hp2
    exact this F39.no
  have o37 : Am.Own s46 l37 (dotC d3) := (F39.own.ext F44.ext).mut m46 (by simpa using n37)
  have o5 := (o5.ext e44).mut m46 (by simpa using n5)
  have o10 := (o10.ext e44).mut m46 (by simpa using n10)
  have o12 := (o12.ext e44).mut m46 (by simpa using n12)
  have hs46 := A44.set.keepI (hs25.ext e44) m46
  refine ⟨_, _, rfl, _, o37.at.rdc (by simp [dotC]), _, o5.at.rdc (by simp [keyC]), _, build_item d3 k, _, item1_row _, NewQ.intro w46 rfl fun l53 s54 F54 => ?_⟩
  have A54 := A46.ext F54.ext
  have sl54 : Sl itemC 5 s54 (.slc (some (l53, 0)) 1 1 true) [⟨d3, k, false⟩] := SlAt.mk F54.own.at (by simp [itemC]) (by simp [itemC])
  refine ACalls.use (A54.See (E46.trans F54.ext) sl54 (by simp) (by simp; decide)) ?_
  rintro v s56 ⟨rfl, m56, E56, F4, x4, hx4, A56, hF4⟩ w56
  have i4 := i3.sees1 A46.ok (i := ⟨d3, k, false⟩) hx4 (by decide)
  have o37 := (o37.ext F54.ext).mut m56 (by simpa using n37)
  have o5 := (o5.ext F54.ext).mut m56 (by simpa using n5)
  have o10 := (o10.ext F54.ext).mut m56 (by simpa using n10)
  have o12 := (o12.ext F54.ext).mut m56 (by simpa using n12)
  have hs56 := A54.set.keepI (hs46.ext F54.ext) m56
  refine ⟨_, _, rfl, _, o37.at.rdc (by simp [dotC]), ?_⟩
  refine ACalls.use (Live_ok A56.set d3) ?_
  rintro v s61 ⟨rfl, e61⟩ w61
  refine ⟨_, _, rfl, NewSt w61 rfl rfl rfl fun l64 s66 F66 => ?_⟩
  have e66 := e61.trans F66.ext
  have A66 := A56.ext e66
  have hs66 := hs56.ext e66
  have hal : alenB T Y_s_Item v2 s66 = some (.int .i64 2) := hs66.lenB u_s_Item _
  obtain ⟨la, oa, a1, a2⟩ := hs66.ix (by decide) itemC_len u_s_Item z_Item (i := 0) (x := ⟨d2, k, false⟩) rfl
  obtain ⟨lb, ob, b1, b2⟩ := hs66.ix (by decide) itemC_len u_s_Item z_Item (i := 1) (x := goneI d1) rfl
  have r0 : rdc s66 la oa 2 = some (dotC d2) := by
    have h5 := (a2 s66 (Ext.refl _)).2
    exact rdc_pre h5 (by decide)
  have l3 : x4.live d3 = none := (i4.live d3).trans (by decide)
  have l1 : x4.live d1 = none := (i4.live d1).trans (by decide)
  have l2 : x4.live d2 = some k := (i4.live d2).trans (by decide)
  have g1 : x4.has d1 = true := (i4.has d1).trans (by decide)
  have g3 : x4.has d3 = true := (i4.has d3).trans (by decide)
  refine ⟨fun _ _ _ _ => True, fun q _ v => v = .bool true, fun _ _ _ _ _ _ _ => trivial, bsplit.yes rfl (bsplit.yes rfl ⟨_, hal, bsplit.yes rfl ⟨_, _, a1 _, _, r0, _, (o12.ext e66).at.rdc (by simp [dotC]), _, dot_eq _ _, bsplit.yes (by decide) ⟨_, _, b1 _, _, (b2 _ (Ext.refl _)).2, _, (o10.ext e66).at.rdc (by simp [dotC]), _, build_gone d1, _, item_eq _ _, bsplit.yes (by decide) (bsplit.yes ?_ ?_)⟩⟩⟩)⟩
  · exact (congrArg Option.isSome hl2).trans rfl
  refine ⟨_, (o10.ext e66).at.rdc (by simp [dotC]), fun s80 e80 w80 _ => ?_, ⟨_, rfl⟩, ?_⟩
  · refine (Gone_ok (A66.ext e80).set d1).mono ?_
    rintro v s' ⟨rfl, e⟩
    refine ⟨_, rfl, e, trivial, ?_⟩
    rw [l1]
    exact congrArg AV.bool g1
  intro v hv
  obtain rfl : v = .bool true := hv
  refine ⟨_, rfl, bsplit.yes rfl ⟨_, (o5.ext e66).at.rdc (by simp [keyC]), fun s87 e87 w87 _ => ?_, ⟨_, rfl⟩, ?_⟩⟩
  · have A87 := A66.ext e87
    have hb := A87.bnd
    simp only [List.length_cons, List.length_nil] at hb
    refine (Has_ok A87.set (by omega) k).mono ?_
    rintro v s' ⟨⟨b, rfl, hb⟩, e⟩
    refine ⟨_, rfl, e, trivial, ?_⟩
    rw [hb.2 ⟨d2, l2⟩]
  intro v hv
  obtain rfl : v = .bool true := hv
  refine ⟨_, rfl, bsplit.yes rfl (bsplit.yes ?_ ⟨_, (o37.ext e66).at.rdc (by simp [dotC]), fun s94 e94 w94 _ => ?_⟩)⟩
  · rw [l3]; rfl
  · refine (Gone_ok (A66.ext e94).set d3).mono ?_
    rintro v s' ⟨rfl, e⟩
    refine ⟨_, rfl, ?_, ?_⟩
    · rw [l3]
      exact congrArg AV.bool g3
    · exact Ext.trans (by assumption) (e66.trans (e94.trans e))
end Go.Proofs.YtoklmpkpeanloaaGreat
end

section
set_option linter.unusedSimpArgs false
set_option linter.unusedVariables false
namespace Go.Proofs.YtoklmpkpeanloaaGreat
open Go.Am Go.Minster Go.Minster2 Go.ChangeShapes Go.WideShapes Go.ChangeAt Go.RowKit

/-- two sets of a law, and items that it holds -/
structure St (s0 s : AS) (pa pb : Nat) (xa xb : OSet) (Ba Bb : Nat) (sl : List (AV × List Itm)) : Prop where
  e : Ext s0 s
  mem : ∃ Fa Fb, SetO s0 s Fa pa xa Ba ∧ SetO s0 s Fb pb xb Bb ∧ Dj Fa Fb
  it : ∀ z ∈ sl, Sl itemC 5 s z.1 z.2
section
variable {s0 s s' : AS} {pa pb : Nat} {xa xb : OSet} {Ba Bb : Nat} {sl : List (AV × List Itm)}
theorem St.ext (h : St s0 s pa pb xa xb Ba Bb sl) (e : Ext s s') : St s0 s' pa pb xa xb Ba Bb sl := by
  obtain ⟨e0, ⟨Fa, Fb, h1, h2, h3⟩, h4⟩ := h
  exact ⟨e0.trans e, ⟨Fa, Fb, h1.ext e, h2.ext e, h3⟩, fun z hz => (h4 z hz).ext e⟩
end
end Go.Proofs.YtoklmpkpeanloaaGreat
end

section
set_option linter.unusedVariables false
set_option maxRecDepth 100000
set_option maxHeartbeats 4000000
namespace Go.Proofs.YtoklmpkpeanloaaGreat
open Go.Am

/-- what (*minster/orset.Set).Collect asks -/
def Q_orset_Set_Collect (a0 : Option (Nat × Nat)) (a1 : List AV) (s : AS) (R : AV → AS → Prop) : Prop :=
 One1 a1 (NewQ (.cells a1 0 false) s fun l1 s2 => ACalls Tryz.prog F_orset_Set_there [(.ptr a0)] s2 fun v3 s4 => ∃ b5 : Bool, v3 = .bool b5 ∧ (bsplit (!b5)
 (R (.int .i64 1) s4)
 (RdL (rdc s4 l1 0 2) fun g6 => ACalls Tryz.prog F_ctx_May [(.agg g6)] s4 fun v7 s8 => ∃ b9 : Bool, v7 = .bool b9 ∧ (bsplit (!b9)
 (R (.int .i64 2) s8)
 (AsSome a0 fun l10 o11 => RdM (rd1 s8 l10 (o11 + 2)) fun r12 => RdL (rdc s8 l1 0 2) fun g13 => RdG (alookup T Y_m_Dot_struct__is_bool__ (.map r12) (.agg g13) false s8) fun g14 => RdB (g14[0]?) fun b15 => bsplit (!b15)
 (R (.int .i64 6) s8)
 (AsSome a0 fun l16 o17 => RdM (rd1 s8 l16 (o17 + 2)) fun r18 => RdL (rdc s8 l1 0 2) fun g19 => StQ (adelete T Y_m_Dot_struct__is_bool__ (.map r18) (.agg g19) s8) fun s20 => R (.int .i64 0) s20))))))

def A_orset_Set_Collect : QA := (.seq .leaf (.seq (.wrap (.seq .leaf (.cond (.seq .leaf .leaf) (.seq .leaf (.cond (.seq .leaf .leaf) (.seq (.draw 5) (.cond (.seq .leaf .leaf) .leaf))))))) (.seq (.draw 5) (.seq .leaf .leaf))))

theorem q_orset_Set_Collect (a0 : Option (Nat × Nat)) (a1 : List AV) (s : AS) (R : AV → AS → Prop) (h : Q_orset_Set_Collect a0 a1 s R) : ACalls Tryz.prog F_orset_Set_Collect [(.ptr a0), (.agg a1)] s R :=
  ACalls.q (n := 27) (rs := [.tmp 4]) (A := A_orset_Set_Collect) hT hmx Tryz.func17 (by kernel_rfl) rfl rfl rfl (by kernel_rfl) (by kernel_rfl) h

/-- what (*minster/orset.Set).Dests asks -/
def Q_orset_Set_Dests (a0 : Option (Nat × Nat)) (a1 : List UInt8) (s : AS) (R : AV → AS → Prop) : Prop :=
 NewQ (.cells [(.str a1)] 0 false) s fun l1 s2 => ACalls Tryz.prog F_orset_Set_there [(.ptr a0)] s2 fun v3 s4 => ∃ b5 : Bool, v3 = .bool b5 ∧ (bsplit (!b5)
 (R (.slc none 0 0 true) s4)
 (ACalls Tryz.prog F_orset_Set_dots [(.ptr a0), (.func F_orset_Set_Dests_1 [(.ptr (some (l1, 0)))])] s4 fun v6 s7 => RdI .i64 (alenB T Y_s_Dot v6 s7) fun n8 => LoopQ fun I9 m10 => I9 m10 [(.slc none 0 0 true), (.int .i64 0)] s7 ∧
 ∀ m11 : Nat, ∀ v12 : AV, ∀ n13 : Int, ∀ s14 : AS, I9 m11 [v12, (.int .i64 n13)] s14 →
 bsplit (decide ((n13 : Int) < n8))
 (IxQ (aindexAddr T Y_s_Dot v6 (.int .i64 n13)) fun l15 o16 => RdL (rdc s14 l15 o16 2) fun g17 => NewQ (.cells [.int .i64 0, .int .u64 0] 0 false) s14 fun l18 s19 => OkC (some 2) g17 (StQ (awr s19 l18 0 g17) fun s20 => RdL (rdc s20 l18 0 2) fun g21 => AsSome a0 fun l22 o23 => RdM (rd1 s20 l22 (o23 + 1)) fun r24 => RdL (rdc s20 l18 0 2) fun g25 => RdG (alookup T Y_m_Dot_Key (.map r24) (.agg g25) false s20) fun g26 => RdS (g26[1]?) fun x27 => RdG (abuild T Y_Dest [(0, (.agg g21)), (1, (.str x27))]) fun g28 => RdL (absl T Y_s_Dest 1 [(0, (.agg g28))]) fun g29 => NewQ (.cells g29 0 false) s20 fun l30 s31 => Bd2 (aappend T Y_s_Dest Y_s_Dest v12 (.slc (some (l30, 0)) 1 1 true) s31) fun v32 s33 => ∃ m', m' < m11 ∧ I9 m' [v32, (.int .i64 (IntKind.wrap .i64 (n13 + 1)))] s33))
 (R v12 s14)))

def A_orset_Set_Dests : QA := (.seq .leaf (.seq (.seq .leaf (.cond (.seq .leaf .leaf) .leaf)) (.seq .leaf (.seq (.seq .leaf (.wrap (.loop [(5, .any), (15, .int .i64)] [(5, 5), (7, 7), (15, 31)] (.seq .leaf (.seq (.cond .leaf .leaf) (.seq (.wrap (.seq .leaf .calm)) .leaf)))))) (.seq .leaf .leaf)))))

theorem q_orset_Set_Dests (a0 : Option (Nat × Nat)) (a1 : List UInt8) (s : AS) (R : AV → AS → Prop) (h : Q_orset_Set_Dests a0 a1 s R) : ACalls Tryz.prog F_orset_Set_Dests [(.ptr a0), (.str a1)] s R :=
  ACalls.q (n := 33) (rs := [.tmp 4]) (A := A_orset_Set_Dests) hT hmx Tryz.func34 (by kernel_rfl) rfl rfl rfl (by kernel_rfl) (by kernel_rfl) h

/-- what (*minster/orset.Set).Bucket asks -/
def Q_orset_Set_Bucket (a0 : Option (Nat × Nat)) (a1 : Int) (s : AS) (R : AV → AS → Prop) : Prop :=
 NewQ (.cells [(.int .i64 a1)] 0 false) s fun l1 s2 => ACalls Tryz.prog F_orset_Set_there [(.ptr a0)] s2 fun v3 s4 => ∃ b5 : Bool, v3 = .bool b5 ∧ (bsplit (!b5)
 (R (.tup [(.slc none 0 0 true), (.int .i64 1)]) s4)
 (JoinQ fun J6 =>
 (∀ b7 : Bool, ∀ s8 : AS, J6 [(.bool b7)] s8 →
 bsplit b7
 (R (.tup [(.slc none 0 0 true), (.int .i64 2)]) s8)
 (ACalls Tryz.prog F_orset_Set_Items [(.ptr a0)] s8 fun v9 s10 => ACalls Tryz.prog F_slices_DeleteFunc__s_Item_Item [v9, (.func F_orset_Set_Bucket_1 [(.ptr (some (l1, 0)))])] s10 fun v11 s12 => R (.tup [v11, (.int .i64 0)]) s12)) ∧
 (RdI .i64 (rd1 s4 l1 0) fun n13 => bsplit (decide ((n13 : Int) < 0)) (J6 [(.bool true)] s4) (RdI .i64 (rd1 s4 l1 0) fun n14 => J6 [(.bool (decide ((n14 : Int) ≥ 64)))] s4))))

def A_orset_Set_Bucket : QA := (.seq .leaf (.seq (.wrap (.seq .leaf (.cond (.seq .leaf .leaf) (.join [(10, .bool)] [(10, 16)] .leaf (.cond (.seq .leaf .leaf) .leaf))))) (.seq .leaf .leaf)))

theorem q_orset_Set_Bucket (a0 : Option (Nat × Nat)) (a1 : Int) (s : AS) (R : AV → AS → Prop) (h : Q_orset_Set_Bucket a0 a1 s R) : ACalls Tryz.prog F_orset_Set_Bucket [(.ptr a0), (.int .i64 a1)] s R :=
  ACalls.q (n := 21) (rs := [.tmp 4, .tmp 5]) (A := A_orset_Set_Bucket) hT hmx Tryz.func38 (by kernel_rfl) rfl rfl rfl (by kernel_rfl) (by kernel_rfl) h

end Go.Proofs.YtoklmpkpeanloaaGreat
end

section
set_option linter.unusedSimpArgs false
set_option linter.unusedVariables false
namespace Go.Proofs.YtoklmpkpeanloaaGreat
open Go.Am Go.Minster Go.Minster2

section
variable {F : List Nat} {s : AS} {p : Nat} {x : OSet}
end
section
variable {s0 s s' : AS} {pa pb : Nat} {xa xb : OSet} {Ba Bb : Nat} {sl : List (AV × List Itm)}
end
end Go.Proofs.YtoklmpkpeanloaaGreat
end

section
set_option linter.unusedVariables false
set_option maxRecDepth 100000
set_option maxHeartbeats 4000000
namespace Go.Proofs.YtoklmpkpeanloaaGreat
open Go.Am

/-- what minster/minsterlaw07.OrsetNil asks -/
def Q_law07iOrsetNil  (s : AS) (R : AV → AS → Prop) : Prop :=
 NewQ (.cells [.ptr none, .map none, .map none] 0 false) s fun l1 s2 => RdL (absl T Y_s_p_orset_Set 2 [(0, (.ptr none)), (1, (.ptr (some (l1, 0))))]) fun g3 => NewQ (.cells g3 0 false) s2 fun l4 s5 => RdG (abuild T Y_Dot [(0, (.int .i64 1)), (1, (.int .u64 1))]) fun g6 => NewQ (.cells [.int .i64 0, .int .u64 0] 0 false) s5 fun l7 s8 => OkC (some 2) g6 (StQ (awr s8 l7 0 g6) fun s9 => RdG (abuild T Y_Key [(0, (.str ([97]))), (1, (.str ([98])))]) fun g10 => NewQ (.cells [.str [], .str []] 0 false) s9 fun l11 s12 => OkC (some 2) g10 (StQ (awr s12 l11 0 g10) fun s13 => JoinQ fun J14 =>
 (∀ s15 : AS, J14 [] s15 →
 ACalls Tryz.prog F_orset_Of [(.ptr none), (.slc none 0 0 true)] s15 fun v16 s17 => ∃ p18 : Option (Nat × Nat), ∃ n19 : Int, v16 = .tup [(.ptr p18), (.int .i64 n19)] ∧ (bsplit ((n19 : Int) == 1) (ACalls Tryz.prog F_law07iknown [] s17 fun v20 s21 => ∃ b22 : Bool, v20 = .bool b22 ∧ (R (.bool b22) s21)) (R (.bool false) s17))) ∧
 (LoopQ fun I23 m24 => I23 m24 [(.int .i64 0)] s13 ∧
 ∀ m25 : Nat, ∀ n26 : Int, ∀ s27 : AS, I23 m25 [(.int .i64 n26)] s27 →
 RdI .i64 (alenB T Y_s_p_orset_Set (.slc (some (l4, 0)) 2 2 true) s27) fun n28 => bsplit (decide ((n26 : Int) < n28))
 (IxQ (aindexAddr T Y_s_p_orset_Set (.slc (some (l4, 0)) 2 2 true) (.int .i64 n26)) fun l29 o30 => RdP (rd1 s27 l29 o30) fun p31 => RdL (rdc s27 l11 0 2) fun g32 => RdL (rdc s27 l7 0 2) fun g33 => ACalls Tryz.prog F_orset_Set_Add [(.ptr p31), (.agg g32), (.agg g33)] s27 fun v34 s35 => ∃ v36 : AV, ∃ n37 : Int, v34 = .tup [v36, (.int .i64 n37)] ∧ (RdL (rdc s35 l11 0 2) fun g38 => ACalls Tryz.prog F_orset_Set_Remove [(.ptr p31), (.agg g38)] s35 fun v39 s40 => ∃ v41 : AV, ∃ n42 : Int, v39 = .tup [v41, (.int .i64 n42)] ∧ (ACalls Tryz.prog F_orset_Set_See [(.ptr p31), (.slc none 0 0 true)] s40 fun v43 s44 => ∃ b45 : Bool, ∃ n46 : Int, v43 = .tup [(.bool b45), (.int .i64 n46)] ∧ (ACalls Tryz.prog F_orset_Set_Bucket [(.ptr p31), (.int .i64 0)] s44 fun v47 s48 => ∃ v49 : AV, ∃ n50 : Int, v47 = .tup [v49, (.int .i64 n50)] ∧ (RdL (rdc s48 l7 0 2) fun g51 => ACalls Tryz.prog F_orset_Set_Live [(.ptr p31), (.agg g51)] s48 fun v52 s53 => ∃ g54 : List AV, ∃ b55 : Bool, v52 = .tup [(.agg g54), (.bool b55)] ∧ (NewQ (.cells [.str [], .str []] 0 false) s53 fun l56 s57 => OkC (some 2) g54 (StQ (awr s57 l56 0 g54) fun s58 => bsplit ((n37 : Int) != 1) (R (.bool false) s58) (bsplit ((n42 : Int) != 1) (R (.bool false) s58) (bsplit ((n46 : Int) != 1) (R (.bool false) s58) (bsplit ((n50 : Int) != 1) (R (.bool false) s58) (RdL (rdc s58 l7 0 2) fun g59 => ACalls Tryz.prog F_orset_Set_Collect [(.ptr p31), (.agg g59)] s58 fun v60 s61 => ∃ n62 : Int, v60 = .int .i64 n62 ∧ (bsplit ((n62 : Int) != 1) (R (.bool false) s61) (bsplit b55 (R (.bool false) s61) (RdL (rdc s61 l11 0 2) fun g63 => ACalls Tryz.prog F_orset_Set_Has [(.ptr p31), (.agg g63)] s61 fun v64 s65 => ∃ b66 : Bool, v64 = .bool b66 ∧ (bsplit b66 (R (.bool false) s65) (RdL (rdc s65 l7 0 2) fun g67 => ACalls Tryz.prog F_orset_Set_Gone [(.ptr p31), (.agg g67)] s65 fun v68 s69 => ∃ b70 : Bool, v68 = .bool b70 ∧ (bsplit b70 (R (.bool false) s69) (ACalls Tryz.prog F_orset_Set_Dests [(.ptr p31), (.str ([97]))] s69 fun v71 s72 => RdI .i64 (alenB T Y_s_Dest v71 s72) fun n73 => bsplit (decide ((n73 : Int) > 0)) (R (.bool false) s72) (ACalls Tryz.prog F_orset_Set_Keys [(.ptr p31)] s72 fun v74 s75 => RdI .i64 (alenB T Y_s_Key v74 s75) fun n76 => bsplit (decide ((n76 : Int) > 0)) (R (.bool false) s75) (ACalls Tryz.prog F_orset_Set_Items [(.ptr p31)] s75 fun v77 s78 => RdI .i64 (alenB T Y_s_Item v77 s78) fun n79 => bsplit (decide ((n79 : Int) > 0)) (R (.bool false) s78) (ACalls Tryz.prog F_orset_Set_Tombs [(.ptr p31)] s78 fun v80 s81 => RdI .i64 (alenB T Y_s_Dot v80 s81) fun n82 => bsplit (decide ((n82 : Int) > 0)) (R (.bool false) s81) (ACalls Tryz.prog F_orset_Set_Ctx [(.ptr p31)] s81 fun v83 s84 => ∃ p85 : Option (Nat × Nat), v83 = .ptr p85 ∧ (RdO (aeq T 100 Y_p_ctx_Ctx (.ptr p85) (.ptr none)) fun b86 => bsplit (!b86) (R (.bool false) s84) (ACalls Tryz.prog F_orset_Set_Copy [(.ptr p31)] s84 fun v87 s88 => ∃ p89 : Option (Nat × Nat), v87 = .ptr p89 ∧ (RdO (aeq T 100 Y_p_orset_Set (.ptr p89) (.ptr none)) fun b90 => bsplit (!b90)
 (R (.bool false) s88)
 (∃ m', m' < m25 ∧ I23 m' [(.int .i64 (IntKind.wrap .i64 (n26 + 1)))] s88))))))))))))))))))))))))))
 (J14 [] s27))))

def A_law07iOrsetNil : QA := (.seq .leaf (.seq .leaf (.seq .leaf (.seq .leaf (.seq .leaf (.join [] [(0, 0), (5, 16), (22, 127)] (.seq .leaf (.wrap (.loop [(5, .int .i64)] [(0, 0), (5, 16), (22, 127)] (.seq (.seq .leaf (.cond .leaf .leaf)) (.seq (.wrap (.seq .leaf (.seq .leaf (.seq .leaf (.seq .leaf (.seq .leaf (.seq .leaf (.seq .leaf (.cond (.seq .leaf .leaf) .leaf))))))))) .leaf))))) (.seq .leaf (.seq .leaf .leaf))))))))

theorem q_law07iOrsetNil  (s : AS) (R : AV → AS → Prop) (h : Q_law07iOrsetNil  s R) : ACalls Tryz.prog F_law07iOrsetNil [] s R :=
  ACalls.q (n := 137) (rs := [.tmp 0]) (A := A_law07iOrsetNil) hT hmx Tryz.func11 (by kernel_rfl) rfl rfl rfl (by kernel_rfl) (by kernel_rfl) h

end Go.Proofs.YtoklmpkpeanloaaGreat
end
