/-
  The abstract machine Am: what a whole code asks suffices; a call, by what its body asks.
-/
import Derived.Test.YtbfchlimonimkaaAmQ2
set_option linter.unusedSectionVars false
set_option linter.unusedSimpArgs false
set_option linter.unusedVariables false
namespace Go.Am

section
variable {P : Program} {T : TT} {n : Nat}

theorem dstOk_all {os : List Oper} {n : Nat} (h : (os.all fun o => dstOk n o.dst) = true) : (∀ o ∈ os, dstOk n o.dst = true) := by
  simpa [List.all_eq_true] using h

theorem inW_opW {os : List Oper} {o : Oper} {d : Nat} (ho : o ∈ os) (hd : o.dst = some d) : inW (opW os) d = true := by
  simp only [inW, List.any_eq_true, Bool.and_eq_true, Nat.ble_eq, opW, List.mem_filterMap, Option.map_eq_some_iff]
  exact ⟨(d, d), ⟨o, ho, d, hd, rfl⟩, Nat.le_refl _, Nat.le_refl _⟩

theorem qcode_sound (hT : TT.Ok P T) (hmx : P.follows .mixedOrders = true) : ∀ (a : QA) (c : Code) (f : Fr) (s : AS) (Q : Exit → Fr → AS → Prop), codeOk T n a c = true → qcode P T a c f s Q → AWp P n c f s fun e f' s' => Q e f' s' ∧ Off (dstQ a c) f f' := by
  intro a
  induction a with
  | leaf =>
    intro c f s Q hok h
    cases c with
    | skip => exact AWp.skip ⟨h, Off.refl _ _⟩
    | label l => exact AWp.label ⟨h, Off.refl _ _⟩
    | exit id => exact AWp.exit ⟨h, Off.refl _ _⟩
    | ret => exact AWp.ret ⟨h, Off.refl _ _⟩
    | region id ops dr =>
      cases dr with
      | false => exact AWp.region hT (qops_sound ops.toList f s hok h)
      | true => exact h.elim
    | _ => exact h.elim
  | draw m =>
    intro c f s Q hok h
    cases c with
    | region id ops dr =>
      cases dr with
      | false => exact h.elim
      | true =>
        simp only [codeOk, Bool.and_eq_true] at hok
        obtain ⟨⟨hd, hdr⟩, hq⟩ := hok
        have hv := qops_sound (n := n) ops.toList f s hd h
        have hD := drawFacts hdr
        have hq' : ∀ i o, i < m → ops[i]? = some o → quietQ T o.op = true := by
          intro i o hi ho
          rw [List.all_eq_true] at hq
          refine hq o ?_
          rw [List.mem_iff_getElem?]
          exact ⟨i, by rw [List.getElem?_take, if_pos hi]; simpa using ho⟩
        refine AWp.draw hT hmx m [] (Region.before ops).toList [] (fun _ _ _ => True) (fun _ _ _ _ => True) hdr (fun _ _ _ _ _ _ _ => trivial) ?_
        have := vc_dq (n := n) (V := fun _ _ _ => True) (S := fun _ _ _ _ => True) hD.le hq' m 0 f (by omega) (by simpa using hv)
        rw [← List.range_eq_range'] at this
        exact this
    | _ => exact h.elim
  | drawH m A H =>
    intro c f s Q hok h
    cases c with
    | region id ops dr =>
      cases dr with
      | false => exact h.elim
      | true =>
        simp only [codeOk, Bool.and_eq_true] at hok
        obtain ⟨⟨⟨hd, hdr⟩, hH⟩, hq⟩ := hok
        obtain ⟨S, V, hS, h⟩ := h
        have hH' : H ≠ [] := by intro e; rw [e] at hH; cases hH
        have hmem : ∀ (i : Nat) (o : Oper), ops[i]? = some o → o ∈ ops.toList := fun i o ho => List.mem_iff_getElem?.2 ⟨i, by simpa using ho⟩
        have hdq := qdq_sound (n := n) (W := opW ops.toList) hH' (fun i o ho => dstOk_all hd o (hmem i o ho)) (fun i o d ho hdd => inW_opW (hmem i o ho) hdd) (List.range m) f [] (by
          intro i hi
          rw [List.all_eq_true] at hq
          have := hq i hi
          simp only [Bool.or_eq_true, Option.any_eq_true] at this
          rcases this with h | ⟨o, h1, h2⟩
          · exact .inl h
          · exact .inr ⟨o, by simpa using h1, h2⟩) h
        refine AWp.draw hT hmx m A (Region.before ops).toList H V S hdr hS ?_
        have monodq : ∀ (is : List Nat) (f : Fr) (F : Facts) (K K' : Fr → AS → Prop), (∀ f s, K f s → K' f s) → dq P T n ops A H V S s K is f F → dq P T n ops A H V S s K' is f F := by
          intro is
          induction is with
          | nil => intro f F K K' hk h; exact fun s' h1 h2 h3 h4 => hk _ _ (h s' h1 h2 h3 h4)
          | cons i is ih =>
            intro f F K K' hk h
            simp only [dq] at h ⊢
            split
            · rename_i o ho; rw [ho] at h; exact OpStep.mono h fun f F hh => ih f F K K' hk hh
            · rename_i ho; rw [ho] at h; exact h
        refine monodq _ _ _ _ _ (fun f' s' ⟨h1, h2⟩ => ?_) hdq
        have hd2 : ((ops.toList.drop m).all fun o => dstOk n o.dst) = true := by
          rw [List.all_eq_true]
          intro o ho
          exact dstOk_all hd o (List.mem_of_mem_drop ho)
        have hv := qops_sound (n := n) (ops.toList.drop m) f' s' hd2 h1
        have mono : ∀ (os : List Oper) (f : Fr) (s : AS) (K K' : Fr → AS → Prop), (∀ f s, K f s → K' f s) → vcOps P T n ops os f s K → vcOps P T n ops os f s K' := by
          intro os
          induction os with
          | nil => intro f s K K' hk h; exact hk _ _ h
          | cons o os ih =>
            intro f s K K' hk h
            simp only [vcOps] at h ⊢
            split at h
            · obtain ⟨h1, h2⟩ := h
              refine ⟨h1, ?_⟩
              split at h2
              · exact h2.mono fun v s' hh => ih _ _ _ _ hk hh
              · obtain ⟨v, s', h3, h4⟩ := h2; exact ⟨v, s', h3, ih _ _ _ _ hk h4⟩
            · exact ⟨h.1, ih _ _ _ _ hk h.2⟩
            · exact h
        refine mono _ _ _ _ _ (fun f2 s2 ⟨g1, g2⟩ => ⟨g1, h2.trans (fun t ht => g2 t ?_)⟩) hv
        cases hw : inW (opW (ops.toList.drop m)) t with
        | false => rfl
        | true =>
          exfalso
          simp only [inW, List.any_eq_true, opW, List.mem_filterMap, Option.map_eq_some_iff] at hw
          obtain ⟨p, ⟨o, ho, d, hdd, rfl⟩, hp⟩ := hw
          simp only [Bool.and_eq_true, Nat.ble_eq] at hp
          obtain rfl : d = t := by omega
          rw [inW_opW (List.mem_of_mem_drop ho) hdd] at ht
          cases ht
    | _ => exact h.elim
  | seq a b iha ihb =>
    intro c f s Q hok h
    cases c with
    | seq x y =>
      simp only [codeOk, Bool.and_eq_true] at hok
      refine AWp.seq ((iha x f s _ hok.1 h).mono ?_)
      rintro e f1 s1 ⟨h1, h2⟩
      cases e with
      | normal =>
        exact (ihb y f1 s1 Q hok.2 h1).mono fun e f2 s2 ⟨g1, g2⟩ => ⟨g1, h2.left.trans g2.right⟩
      | _ => exact ⟨h1, h2.left⟩
    | _ => exact h.elim
  | join L W a b iha ihb =>
    intro c f s Q hok h
    cases c with
    | seq x y =>
      simp only [codeOk, Bool.and_eq_true] at hok
      obtain ⟨⟨⟨hok1, hok2⟩, hsub⟩, hL⟩ := hok
      obtain ⟨J, hJ, h⟩ := h
      refine AWp.seq ((iha x f s _ hok1 h).mono ?_)
      rintro e f1 s1 ⟨h1, h2⟩
      cases e with
      | normal =>
        obtain ⟨vs, g, hg1, hg2, hg3⟩ := qall_jmp L _ _ hJ h1
        have ho := h2.sub hsub
        refine AWp.weaken (f1 := g) (fun t => ?_) ?_
        · rw [hg3 t]
          split
          · exact .inl rfl
          · simp only [forget]
            cases hw : inW W t with
            | true => exact .inr rfl
            | false => exact .inl (ho t hw).symm
        · refine (ihb y g s1 Q hok2 (hg1 s1 hg2)).mono fun e f2 s2 ⟨k1, k2⟩ => ⟨k1, fun t ht => ?_⟩
          simp only [dstQ] at ht
          rw [inW_append] at ht
          simp only [Bool.or_eq_false_iff] at ht
          rw [k2 t ht.2, hg3 t, if_neg, forget, ht.1]
          · rfl
          · intro hm
            obtain ⟨p, hp, rfl⟩ := List.mem_map.1 hm
            rw [List.all_eq_true] at hL
            have := hL p hp
            rw [this] at ht; cases ht.1
      | _ => exact ⟨h1, (h2.sub hsub).left⟩
    | _ => exact h.elim
  | cond a b iha ihb =>
    intro c f s Q hok h
    cases c with
    | cond v x y =>
      simp only [codeOk, Bool.and_eq_true] at hok
      simp only [qcode] at h
      split at h
      · rename_i t ht
        have h' := bsplit_if h
        refine AWp.cond ht ?_
        cases t with
        | true => exact (iha x f s Q hok.1 (by simpa using h')).mono fun e f2 s2 ⟨k1, k2⟩ => ⟨k1, k2.left⟩
        | false => exact (ihb y f s Q hok.2 (by simpa using h')).mono fun e f2 s2 ⟨k1, k2⟩ => ⟨k1, k2.right⟩
      · exact h.elim
    | _ => exact h.elim
  | wrap a iha =>
    intro c f s Q hok h
    cases c with
    | block id x =>
      refine AWp.block ((iha x f s _ hok h).mono ?_)
      rintro e f1 s1 ⟨h1, h2⟩
      cases e with
      | exit id' =>
        simp only [XBlock] at h1 ⊢
        split
        · rename_i hid; rw [if_pos hid] at h1; exact ⟨h1, h2⟩
        · rename_i hid; rw [if_neg hid] at h1; exact ⟨h1, h2⟩
      | _ => exact ⟨h1, h2⟩
    | scope x =>
      refine AWp.scope ((iha x f s _ hok h).mono ?_)
      rintro e f1 s1 ⟨h1, h2⟩
      cases e with
      | goto l => exact h1.elim
      | _ => exact ⟨h1, h2⟩
    | _ => exact h.elim
  | loop L W a iha =>
    intro c f s Q hok h
    cases c with
    | loop x =>
      simp only [codeOk, Bool.and_eq_true] at hok
      obtain ⟨⟨hok1, hsub⟩, hL⟩ := hok
      obtain ⟨I, m0, h0, hr⟩ := h
      refine AWp.loop (fun m f' s' => (qjmp L f' fun vs => I m vs s') ∧ Off W f f') m0 ⟨h0, Off.refl _ _⟩ ?_
      rintro m f1 s1 ⟨h1, ho⟩
      obtain ⟨vs, g, hg1, hg2, hg3⟩ := qall_jmp L _ _ (hr m) h1
      have hgo : Off W f g := by
        intro t ht
        rw [hg3 t, if_neg, forget, ht]
        · rfl
        · intro hm
          obtain ⟨p, hp, rfl⟩ := List.mem_map.1 hm
          rw [List.all_eq_true] at hL
          have := hL p hp
          rw [this] at ht; cases ht
      refine AWp.weaken (f1 := g) (fun t => ?_) ?_
      · rw [hg3 t]
        split
        · exact .inl rfl
        · simp only [forget]
          cases hw : inW W t with
          | true => exact .inr rfl
          | false => exact .inl (ho t hw).symm
      · refine (iha x g s1 _ hok1 (hg1 s1 hg2)).mono ?_
        rintro e f2 s2 ⟨k1, k2⟩
        have k3 := hgo.trans (k2.sub hsub)
        cases e with
        | normal =>
          have key : ∀ (L : List (Nat × TK)) (f : Fr) (K : List AV → Nat → Prop), (qjmp L f fun vs => ∃ m', m' < m ∧ K vs m') → ∃ m', m' < m ∧ qjmp L f fun vs => K vs m' := by
            intro L
            induction L with
            | nil => intro f K h; exact h
            | cons p L ih =>
              intro f K h
              have hone : ∀ (k : TK) (v : AV) (G : AV → Nat → Prop), (isK k v fun u => ∃ m', m' < m ∧ G u m') → ∃ m', m' < m ∧ isK k v fun u => G u m' := by
                intro k v G h
                unfold isK at h
                split at h
                · rename_i k k' n
                  cases hk : (k' == k) with
                  | false => rw [hk] at h; exact h.elim
                  | true => rw [hk] at h; obtain ⟨m', h1, h2⟩ := h; exact ⟨m', h1, by simp only [isK, hk, cond_true]; exact h2⟩
                all_goals first | exact h.elim | (obtain ⟨m', h1, h2⟩ := h; exact ⟨m', h1, by simp only [isK]; exact h2⟩)
              refine hone _ _ _ ?_
              have hm : ∀ (k : TK) (v : AV) (G G' : AV → Prop), (∀ u, G u → G' u) → isK k v G → isK k v G' := by
                intro k v G G' hg h
                unfold isK at h ⊢
                split at h
                · rename_i k k' n
                  cases hk : (k' == k) with
                  | false => rw [hk] at h; exact h.elim
                  | true => rw [hk] at h; exact hg _ h
                all_goals first | exact hg _ h | exact h.elim
              exact hm _ _ _ _ (fun u hu => ih f (fun vs m' => K (u :: vs) m') hu) h
          obtain ⟨m', hm', hj⟩ := key L f2 (fun vs m' => I m' vs s2) k1
          exact ⟨m', hm', hj, k3⟩
        | _ => exact ⟨k1, k3⟩
    | _ => exact h.elim

/-- what a function answers -/
def tupOf : List AV → AV
  | [v] => v
  | l => .tup l

def qres (T : TT) : List ResultVar → Fr → AS → List AV → (List AV → Prop) → Prop
  | [], _, _, acc, K => K acc
  | .tmp t :: rs, f, s, acc, K => qres T rs f s (acc ++ [f t]) K
  | .cell x t :: rs, f, s, acc, K => (match f x with
    | .ptr (some (l, off)) => (match T.agg t with
      | some true => (match T.siz t with | some n => RdL (rdc s l off n) fun cs => qres T rs f s (acc ++ [.agg cs]) K | none => False)
      | some false => rd (tk1 T t) (rd1 s l off) fun v => qres T rs f s (acc ++ [v]) K
      | none => False)
    | _ => False)

theorem qres_get : ∀ (rs : List ResultVar) (f : Fr) (s : AS) (acc : List AV) {K : List AV → Prop}, qres T rs f s acc K → ∃ vs, ares.resL T f s rs = some vs ∧ K (acc ++ vs)
  | [], f, s, acc, K, h => ⟨[], rfl, by simpa [qres] using h⟩
  | .tmp t :: rs, f, s, acc, K, h => by
    obtain ⟨vs, h1, h2⟩ := qres_get rs f s _ h
    exact ⟨f t :: vs, by simp only [ares.resL, h1, Option.map_some], by simpa using h2⟩
  | .cell x t :: rs, f, s, acc, K, h => by
    simp only [qres] at h
    split at h
    · rename_i l off hp
      split at h
      · rename_i hag
        split at h
        · rename_i n hn
          obtain ⟨cs, g1, g2⟩ := h
          obtain ⟨vs, h1, h2⟩ := qres_get rs f s _ g2
          exact ⟨.agg cs :: vs, by simp only [ares.resL, ald, hp, hag, hn, Option.bind_some, g1, Option.map_some, h1], by simpa using h2⟩
        · exact h.elim
      · rename_i hag
        obtain ⟨v, g1, g2⟩ := rd_some h
        obtain ⟨vs, h1, h2⟩ := qres_get rs f s _ g2
        exact ⟨v :: vs, by simp only [ares.resL, ald, hp, hag, g1, Option.bind_some, h1, Option.map_some], by simpa using h2⟩
      · exact h.elim
    · exact h.elim

def qend (T : TT) (rs : List ResultVar) (R : AV → AS → Prop) : Exit → Fr → AS → Prop
  | .normal, f, s => qres T rs f s [] fun l => R (tupOf l) s
  | .ret, f, s => qres T rs f s [] fun l => R (tupOf l) s
  | _, _, _ => False

/-- A call, by what its body asks. -/
theorem ACalls.q (hT : TT.Ok P T) (hmx : P.follows .mixedOrders = true) {g : FuncId} {fn : Func} {c : Code} {args : List AV} {s : AS} {R : AV → AS → Prop} {n : Nat} {rs : List ResultVar} {A : QA} (hf : P.funcs[g]? = some fn) (hc : callable P g = true) (hb : fn.body = some c)
    (hn : args.length + (fn.ntmps - args.length) = n) (hrs : fn.results.toList = rs) (hok : codeOk T n A c = true) {Q : Prop} (hQ : Q = qcode P T A c (ainit args) s (qend T rs R)) (h : Q) : ACalls P g args s R := by
  rw [hQ] at h
  refine ACalls.body hT hf hc hb hn hrs ((qcode_sound hT hmx A c _ s _ hok h).mono ?_)
  rintro e f s ⟨h1, _⟩
  have key : (qres T rs f s [] fun l => R (tupOf l) s) → ∃ v, ares T rs f s = some v ∧ R v s := by
    intro h
    obtain ⟨vs, h2, h3⟩ := qres_get rs f s [] h
    refine ⟨tupOf vs, ?_, by simpa using h3⟩
    unfold ares
    rw [h2]
    simp only [Option.map_some]
    cases vs with
    | nil => rfl
    | cons a l => cases l <;> rfl
  cases e with
  | normal => exact key h1
  | ret => exact key h1
  | _ => exact h1.elim
end
end Go.Am
