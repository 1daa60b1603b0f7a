/-
  minster/minsterlaw04.CtxPlays: whatever its two lists of dots, the call returns, and returns true; its arguments read as they did. No condition.
-/
import Derived.Test.YtbfchlimonimkaaRun
set_option linter.unusedSimpArgs false
set_option linter.unusedVariables false
namespace Go.Proofs.Ytbfchlimonimkaa
open Go.Am Go.Minster Go.ChangeShapes Go.WideShapes Go.ChangeAt Go.RowKit

/-- what holds of each context that the laws make -/
structure COk (v : List Int) (ex : List Dot) : Prop where
  v : VOk v
  r : Rising ex
  m : ∀ d ∈ ex, d.may = true
theorem COk.add {v : List Int} {ex : List Dot} (h : COk v ex) {d : Dot} (hd : d.may = true) : COk (addR v ex d).1 (addR v ex d).2 := by
  unfold addR
  split
  · exact h
  · rename_i hh
    have hnin : d ∉ ex := fun hin => hh (by simp [hasD, hd, hin])
    have hmi : ∀ x ∈ ins ex d, x.may = true := by
      intro x hx
      rcases mem_ins.1 hx with rfl | hx
      · exact hd
      · exact h.m x hx
    have hs := compact_sub v (ins ex d)
    exact ⟨compact_ok h.v hmi, (h.r.ins hnin).sub hs, fun x hx => hmi x (hs.subset hx)⟩
theorem addR_len {v : List Int} {ex : List Dot} {d : Dot} : (addR v ex d).2.length ≤ ex.length + 1 := by
  unfold addR
  split
  · simp
  · have := (compact_sub v (ins ex d)).length_le
    rw [ins_len] at this
    exact this
theorem addD_few {v : List Int} {ex : List Dot} {d : Dot} (hd : d.may = true) (hn : ex.length < 4096) : addD v ex d = (!hasD v ex d, 0, addR v ex d) := by
  have h1 := (compact_sub v (ins ex d)).length_le
  rw [ins_len] at h1
  unfold addD addR
  rw [hd]
  simp only [Bool.true_eq_false, if_false]
  cases hasD v ex d with
  | true => simp
  | false => simp only [Bool.false_eq_true, if_false, Bool.not_false]; rw [if_neg (by omega)]

theorem COk.zero : COk zeros [] := ⟨⟨rfl, by decide⟩, List.Pairwise.nil, by simp⟩

theorem neq_ctx_ref {s : AS} {p q : Nat} {v v' : List Int} {ex ex' : List Dot} (h : CtxAt s p v ex) (h' : RefAt s q v' ex') : p ≠ q := by
  rintro rfl
  obtain ⟨h1, w, h2, _⟩ := h
  obtain ⟨h1', w', h2', _⟩ := h'
  have := congrArg List.length (h2.at.inj h2'.at)
  rw [ctx_len h1, ref_set_len h1'] at this
  omega
theorem RefAt.keep {s s' : AS} {p q : Nat} {v v' : List Int} {ex ex' : List Dot} (h' : RefAt s q v' ex') (h : CtxAt s p v ex) (m : Mut [p] s s') : RefAt s' q v' ex' := by
  have hne := neq_ctx_ref h h'
  obtain ⟨h1, w, h2, h3, h4⟩ := h
  obtain ⟨h1', w', h2', h3', h5', h4'⟩ := h'
  refine ⟨h1', w', h2'.mut m (by simpa using Ne.symm hne), h3', h5', dots_keep h4' h2.at (x := [w, .bool true]) ?_ m⟩
  intro y hy n
  rcases List.mem_cons.1 hy with rfl | hy
  · exact dots_not_int h4 _ _
  · obtain rfl : y = .bool true := by simpa using hy
    intro h; cases h
theorem CtxAt.keep {s s' : AS} {p q : Nat} {v v' : List Int} {ex ex' : List Dot} (h : CtxAt s p v ex) (h' : RefAt s q v' ex') (m : Mut [q] s s') : CtxAt s' p v ex := by
  have hne := neq_ctx_ref h h'
  obtain ⟨h1, w, h2, h3, h4⟩ := h
  obtain ⟨h1', w', h2', h3', h5', h4'⟩ := h'
  refine ⟨h1, w, h2.mut m (by simpa using hne), h3, dots_keep h4 h2'.at (x := [w']) ?_ m⟩
  intro y hy n
  obtain rfl : y = w' := by simpa using hy
  exact dots_not_int h4' _ _
/-- what was there before stays where new objects are written -/
theorem Ext.wr {s s1 s2 : AS} {p : Nat} (e : Ext s s1) (hp : s.h p = none) (m : Mut [p] s1 s2) : Ext s s2 :=
  ⟨fun x o ho => m.1 x o (by simp only [List.mem_singleton]; rintro rfl; rw [hp] at ho; cases ho) (e.1 x o ho), Nat.le_trans e.2 m.2⟩

theorem set_new {s : AS} (hw : WFs s) {K : AS → Nat → Prop} (h : ∀ q s', s.h q = none → RefAt s' q zeros [] → Ext s s' → WFs s' → K s' q) :
    RdG (abuild T Y_minsterref04iSet []) fun g => One1 g (NewQ (.cells g 0 false) s fun l s' => K s' l) := by
  have hb : abuild T Y_minsterref04iSet [] = some (.agg (zeros.map (.int .u64) ++ [.slc none 0 0 true])) := by kernel_rfl
  refine ⟨_, hb, rfl, NewQ.intro hw rfl fun l s' F => h l s' F.no ⟨rfl, _, F.own, rfl, (fun h => by cases h), Sl.nil⟩ F.ext F.wf⟩

theorem ctxPlays_ok {s : AS} {a b : AV} {la lb : List Dot} (ha : Dots s a la) (hb : Dots s b lb) : ACalls Try.prog F_law04iCtxPlays [a, b] s fun r s' => r = .bool true := by
  refine ACalls.pre fun hw => q_law04iCtxPlays _ _ _ _ ⟨fun vs s' => s' = s ∧ ∃ t, vs = [.bool t] ∧ (t = false → la.length ≤ 200 ∧ lb.length ≤ 200), ?_, _, ha.lenB u_s_Dot _, bsplit.dec (fun h => ⟨rfl, _, rfl, by simp⟩) (fun h => ⟨_, hb.lenB u_s_Dot _, rfl, _, rfl, fun h2 => by simp at h2; omega⟩)⟩
  rintro t s3 ⟨rfl, t', ht, hsmall⟩
  simp only [List.cons.injEq, AV.bool.injEq, and_true] at ht
  subst ht
  refine bsplit.mk (fun hb => ?_) (fun hf => ?_)
  · refine (known_ok _).mono ?_
    rintro r s' ⟨rfl, rfl⟩
    exact ⟨_, rfl, rfl⟩
  obtain ⟨hla, hlb⟩ := hsmall hf
  refine ACalls.use (ctx_New_ok _) ?_
  rintro r s8 ⟨p, rfl, hp, hc, e8⟩ hw8
  refine ⟨_, rfl, set_new hw8 fun q s12 hq hr e12 hw12 => ?_⟩
  have hq3 := e8.none hq
  have E12 := e8.trans e12
  refine ⟨fun vs s' => ∃ v ex, COk v ex ∧ ex.length ≤ 200 ∧ Ext s3 s' ∧ WFs s' ∧ CtxAt s' p v ex ∧ RefAt s' q v ex, ?_, fun m vs s' => ∃ (i : Nat) (v : List Int) (ex : List Dot), vs = [.int .i64 (i : Nat)] ∧ i ≤ la.length ∧ m = la.length - i ∧ COk v ex ∧ ex.length ≤ i ∧ Ext s3 s' ∧ WFs s' ∧ CtxAt s' p v ex ∧ RefAt s' q v ex, la.length, ⟨0, _, _, rfl, by omega, rfl, COk.zero, by simp, E12, hw12, hc.ext e12, hr⟩, ?_⟩
  · rintro s14 ⟨v, ex, ok, hlen, e14, hw14, c14, r14⟩
    refine ⟨fun vs s' => Ext s3 s' ∧ WFs s' ∧ CtxAt s' p v ex ∧ RefAt s' q v ex, ?_, fun m vs s' => ∃ (i : Nat), vs = [.int .i64 (i : Nat)] ∧ i ≤ lb.length ∧ m = lb.length - i ∧ Ext s3 s' ∧ WFs s' ∧ CtxAt s' p v ex ∧ RefAt s' q v ex, lb.length, ⟨0, rfl, by omega, rfl, e14, hw14, c14, r14⟩, ?_⟩
    · rintro s16 ⟨e16, hw16, c16, r16⟩
      refine ⟨fun m vs s' => ∃ (i : Nat), vs = [.int .i64 ((i : Int) - 1)] ∧ i ≤ 20 ∧ m = 20 - i ∧ Ext s3 s' ∧ WFs s' ∧ CtxAt s' p v ex ∧ RefAt s' q v ex, 20, ⟨0, rfl, by omega, rfl, e16, hw16, c16, r16⟩, ?_⟩
      rintro m n s21 ⟨i, hi, hi20, rfl, e21, hw21, c21, r21⟩
      simp only [List.cons.injEq, AV.int.injEq, true_and, and_true] at hi
      subst hi
      refine bsplit.dec (fun hlt => ?_) (fun hge => ?_)
      · refine ACalls.use (ctx_Next_ok c21 ok.v ok.m (by omega) _) ?_
        rintro r s23 ⟨rfl, e23⟩ hw23
        have cont : ∀ s', Ext s3 s' → WFs s' → CtxAt s' p v ex → RefAt s' q v ex → ∃ m', m' < 20 - i ∧ ∃ j : Nat, [AV.int .i64 (IntKind.wrap .i64 (((i : Int) - 1) + 1))] = [.int .i64 ((j : Int) - 1)] ∧ j ≤ 20 ∧ m' = 20 - j ∧ Ext s3 s' ∧ WFs s' ∧ CtxAt s' p v ex ∧ RefAt s' q v ex := by
          intro s' a b c d
          refine ⟨20 - (i + 1), by omega, i + 1, ?_, by omega, rfl, a, b, c, d⟩
          rw [wrap_i' (by omega)]
          congr 2; omega
        refine ⟨_, _, rfl, fun vs s' => s' = s23 ∧ ∃ t, vs = [.bool t] ∧ (t = true ↔ ¬ (1 ≤ (i : Int) - 1 ∧ (i : Int) - 1 ≤ 16)), ?_, bsplit.dec (fun hl => ⟨rfl, _, rfl, by simp; omega⟩) (fun hl => ⟨rfl, _, rfl, by simp; omega⟩)⟩
        rintro t s28 ⟨rfl, t', ht, hiff⟩
        simp only [List.cons.injEq, AV.bool.injEq, and_true] at ht
        subst ht
        refine bsplit.mk (fun ht => ?_) (fun ht => ?_)
        · have hr := hiff.1 ht
          simp only [nextD, if_neg hr]
          exact bsplit.no rfl (bsplit.no rfl (cont _ (e21.trans e23) hw23 (c21.ext e23) (r21.ext e23)))
        · have hr : 1 ≤ (i : Int) - 1 ∧ (i : Int) - 1 ≤ 16 := by
            apply Decidable.byContradiction
            intro hc
            rw [hiff.2 hc] at ht; cases ht
          have hrng := top_rng ok.v ok.m ((i : Int) - 1)
          refine ACalls.use (ref_Next_ok (r21.ext e23) (by omega) hr) ?_
          rintro r s30 ⟨rfl, rfl⟩ hw30
          refine ⟨_, rfl, bsplit.mk (fun htop => ?_) (fun htop => ?_)⟩
          · have htop' : top v ex ((i : Int) - 1) = 4611686018427387904 := by simpa using htop
            simp only [nextD, if_pos hr, htop', Int.le_refl, ge_iff_le, if_true]
            exact bsplit.no rfl (bsplit.no rfl (cont _ (e21.trans e23) hw23 (c21.ext e23) (r21.ext e23)))
          · have htop' : ¬ top v ex ((i : Int) - 1) = 4611686018427387904 := by simpa using htop
            have hlt : ¬ top v ex ((i : Int) - 1) ≥ 4611686018427387904 := by omega
            simp only [nextD, if_pos hr, if_neg hlt]
            rw [wrap_u (by omega)]
            exact bsplit.no rfl (bsplit.no (by simp) (cont _ (e21.trans e23) hw23 (c21.ext e23) (r21.ext e23)))
      · refine (known_ok _).mono ?_
        rintro r s' ⟨rfl, rfl⟩
        exact ⟨_, rfl, rfl⟩
    · rintro m n s39 ⟨i, hi, h6, rfl, e39, hw39, c39, r39⟩
      simp only [List.cons.injEq, AV.int.injEq, true_and, and_true] at hi
      subst hi
      refine ⟨_, hb.lenB u_s_Dot _, bsplit.dec (fun hlt => ?_) (fun hge => ⟨e39, hw39, c39, r39⟩)⟩
      obtain ⟨x, hx⟩ := get_lt (l := lb) (i := i) (by omega)
      obtain ⟨lx, o, h8, h9⟩ := hb.ix (by decide) dotC_len u_s_Dot z_Dot hx
      have gx := fun s' e => (h9 s' e).2
      have cont : ∀ s', Ext s39 s' → WFs s' → ∃ m', m' < lb.length - i ∧ ∃ j : Nat, [AV.int .i64 (IntKind.wrap .i64 ((i : Int) + 1))] = [.int .i64 (j : Nat)] ∧ j ≤ lb.length ∧ m' = lb.length - j ∧ Ext s3 s' ∧ WFs s' ∧ CtxAt s' p v ex ∧ RefAt s' q v ex :=
        fun s' e hw => ⟨lb.length - (i + 1), by omega, i + 1, by rw [wrap_i (by omega)]; rfl, by omega, rfl, e39.trans e, hw, c39.ext e, r39.ext e⟩
      refine ⟨fun _ _ _ _ => True, fun k _ r => (k = 5 ∨ k = 11 → r = .bool (hasD v ex x)) ∧ (k = 26 → ∀ y, lb[i - 1]? = some y → r = .bool (y.lt x)), fun _ _ _ _ _ _ _ => trivial, lx, o, h8 _, _, gx _ e39, fun s44 e44 w44 _ => ?_, ⟨.bool (hasD v ex x), (fun _ => rfl), (fun h => by cases h)⟩, ?_⟩
      · refine (ctx_Has_ok (c39.ext e44) ok.r (by omega) x).mono ?_
        rintro r s' ⟨rfl, e⟩
        exact ⟨_, rfl, e, trivial, (fun _ => rfl), (fun h => by cases h)⟩
      rintro r ⟨hr, _⟩
      obtain rfl := hr (.inl rfl)
      refine ⟨_, rfl, lx, o, h8 _, _, gx _ e39, fun s53 e53 w53 _ => ?_, ⟨.bool (hasD v ex x), (fun _ => rfl), (fun h => by cases h)⟩, ?_⟩
      · refine (ref_Has_ok (r39.ext e53) (by omega) x).mono ?_
        rintro r s' ⟨rfl, e⟩
        exact ⟨_, rfl, e, trivial, (fun _ => rfl), (fun h => by cases h)⟩
      rintro r ⟨hr, _⟩
      obtain rfl := hr (.inr rfl)
      refine ⟨_, rfl, bsplit.no (by simp) (bsplit.dec (fun hpos => ?_) (fun hz => ?_))⟩
      · obtain ⟨y, hy⟩ := get_lt (l := lb) (i := i - 1) (by omega)
        obtain ⟨ly, o', k8, k9⟩ := hb.ix (by decide) dotC_len u_s_Dot z_Dot hy
        have gy := fun s' e => (k9 s' e).2
        rw [wrap_i' (by omega), show (i : Int) - 1 = ((i - 1 : Nat) : Int) by omega]
        refine ⟨ly, o', k8 _, _, gy _ e39, lx, o, h8 _, _, gx _ e39, fun s67 e67 w67 _ => ?_, ⟨.bool (y.lt x), (fun h => by rcases h with h | h <;> cases h), (fun _ y' hy' => by rw [hy] at hy'; obtain rfl := Option.some.inj hy'; rfl)⟩, ?_⟩
        · refine (ctx_Less_ok y x _).mono ?_
          rintro r s' ⟨rfl, e⟩
          exact ⟨_, rfl, e, trivial, (fun h => by rcases h with h | h <;> cases h), (fun _ y' hy' => by rw [hy] at hy'; obtain rfl := Option.some.inj hy'; rfl)⟩
        rintro r ⟨_, hr⟩
        obtain rfl := hr rfl y hy
        refine ⟨_, rfl, ly, o', k8 _, _, gy _ e39, lx, o, h8 _, _, gx _ e39, fun s79 e79 w79 _ => ?_⟩
        refine ACalls.use (ref04iLess_ok y x _) ?_
        rintro r s' ⟨rfl, e⟩ hw'
        exact ⟨_, rfl, bsplit.no (by simp) (cont _ (e79.trans e) hw')⟩
      · exact fun s84 e84 w84 _ => cont _ e84 w84
  · rintro m n s90 ⟨i, v, ex, hi, h6, rfl, ok, hlen, e90, hw90, c90, r90⟩
    simp only [List.cons.injEq, AV.int.injEq, true_and, and_true] at hi
    subst hi
    refine ⟨_, ha.lenB u_s_Dot _, bsplit.dec (fun hlt => ?_) (fun hge => ⟨v, ex, ok, by omega, e90, hw90, c90, r90⟩)⟩
    obtain ⟨x, hx⟩ := get_lt (l := la) (i := i) (by omega)
    obtain ⟨lx, o, h8, h9⟩ := ha.ix (by decide) dotC_len u_s_Dot z_Dot hx
    have gx := fun s' e => (h9 s' e).2
    have cont : ∀ s' v' ex', COk v' ex' → ex'.length ≤ ex.length + 1 → Ext s3 s' → WFs s' → CtxAt s' p v' ex' → RefAt s' q v' ex' → ∃ m', m' < la.length - i ∧ ∃ (j : Nat) (v : List Int) (ex : List Dot), [AV.int .i64 (IntKind.wrap .i64 ((i : Int) + 1))] = [.int .i64 (j : Nat)] ∧ j ≤ la.length ∧ m' = la.length - j ∧ COk v ex ∧ ex.length ≤ j ∧ Ext s3 s' ∧ WFs s' ∧ CtxAt s' p v ex ∧ RefAt s' q v ex :=
      fun s' v' ex' a b c d e f => ⟨la.length - (i + 1), by omega, i + 1, v', ex', by rw [wrap_i (by omega)]; rfl, by omega, rfl, a, by omega, c, d, e, f⟩
    refine ⟨lx, o, h8 _, _, gx _ e90, ?_⟩
    refine ACalls.use (ctx_Add_ok c90 ok.v ok.r ok.m (by omega) x) ?_
    rintro r s96 ⟨rfl, c96, m96⟩ hw96
    have e96 := Ext.wr e90 hp m96
    have r96 := r90.keep c90 m96
    refine ⟨_, _, rfl, lx, o, h8 _, _, gx _ e96, ?_⟩
    refine ACalls.use (ref04iMay_ok x _) ?_
    rintro r s103 ⟨rfl, e103⟩ hw103
    have E103 := e96.trans e103
    refine ⟨_, rfl, bsplit.mk (fun hm => ?_) (fun hm => ?_)⟩
    · simp only [Bool.not_eq_true'] at hm
      have hadd : addD v ex x = (false, 2, v, ex) := by simp [addD, hm]
      rw [hadd] at c96 ⊢
      refine bsplit.no rfl (bsplit.no rfl ⟨lx, o, h8 _, _, gx _ E103, ?_⟩)
      refine ACalls.use (ctx_May_ok x _) ?_
      rintro r s109 ⟨rfl, e109⟩ hw109
      exact ⟨_, rfl, bsplit.no hm (cont _ v ex ok (by omega) (E103.trans e109) hw109 ((c96.ext e103).ext e109) ((r96.ext e103).ext e109))⟩
    · simp only [Bool.not_eq_false'] at hm
      have hadd := addD_few (v := v) (ex := ex) hm (by omega)
      rw [hadd] at c96 ⊢
      change CtxAt s96 p (addR v ex x).1 (addR v ex x).2 at c96
      refine bsplit.no rfl ⟨lx, o, h8 _, _, gx _ E103, ?_⟩
      refine ACalls.use (ctx_May_ok x _) ?_
      rintro r s115 ⟨rfl, e115⟩ hw115
      have E115 := E103.trans e115
      have c115 := (c96.ext e103).ext e115
      have r115 := (r96.ext e103).ext e115
      refine ⟨_, rfl, bsplit.no (by simp [hm]) ⟨lx, o, h8 _, _, gx _ E115, ?_⟩⟩
      refine ACalls.use (ref_Add_ok r115 ok.v ok.r ok.m (by omega) hm) ?_
      rintro r s121 ⟨rfl, r121, m121⟩ hw121
      have c121 := c115.keep r115 m121
      have E121 := Ext.wr E115 hq3 m121
      have hl := addR_len (v := v) (ex := ex) (d := x)
      refine ⟨_, rfl, bsplit.no (by simp) ?_⟩
      refine ACalls.use (same_ok c121 r121 (by omega)) ?_
      rintro r s124 ⟨rfl, e124⟩ hw124
      refine ⟨_, rfl, bsplit.no (by simp) (cont _ _ _ (ok.add hm) hl (E121.trans e124) hw124 (c121.ext e124) (r121.ext e124))⟩

set_option maxRecDepth 100000 in
theorem ctxPlays_lifted (os : Os) (started : os.Started) (H : Type) (enc : TypeId × Value → H) :
    ReturnsInHanded {} Try.checked os F_law04iCtxPlays .any (Rows.ctxPlaysSpec.pre6 enc Try.prog Try.f3 Rows.ctxPlaysRow.domain false) (Rows.ctxPlaysSpec.post enc Try.prog Try.f3 false true false false) := by
  refine law_open (C := Try.checked) (rt := 4) own started (by kernel_rfl) Try.func3
    (ChangeSpec.witness6 (enc := enc) (C := Try.checked) false ⟨#[], #[.slice none 0 0, .slice none 0 0], []⟩ 8 (by kernel_rfl) (by kernel_rfl) (by kernel_rfl) (by kernel_rfl)) (by kernel_rfl) rfl (by kernel_rfl) Try.underlying4 laid (by kernel_rfl) ?_ ?_
  · intro ds hds
    rw [Try.params3] at hds
    match ds, hds with
    | [d1, d2], _ => rfl
  · intro W base args hlen hargs
    rw [Try.params3] at hlen hargs
    match args, hlen with
    | [a, b], _ =>
      obtain ⟨la, ha, _⟩ := dots_arg (hargs 0 _ a rfl rfl).1 (hargs 0 _ a rfl rfl).2
      obtain ⟨lb, hb, _⟩ := dots_arg (hargs 1 _ b rfl rfl).1 (hargs 1 _ b rfl rfl).2
      exact ctxPlays_ok ha hb

theorem ctxPlays_holds : Rows.CtxPlaysSaid :=
  OpenClaim.holds_of_wide 3 Try.f3 rfl rfl rfl rfl rfl rfl rfl ⟨rfl, rfl, rfl, rfl, rfl⟩ rfl rfl rfl rfl rfl (by kernel_rfl) Try.func3 (by kernel_rfl)
    (of_decide_eq_true (by kernel_rfl)) (by unfold Func.isWrapper; rw [if_neg (by decide +kernel)]; exact ⟨rfl, rfl⟩)
    (fun os started H enc _ => ctxPlays_lifted os started H enc)
end Go.Proofs.Ytbfchlimonimkaa
