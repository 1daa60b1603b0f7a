/-
  The law StablePlays: what is known of regions, act by act.
-/
import Derived.Test.YtbfchlimonimkaaP5
set_option linter.unusedSimpArgs false
set_option linter.unusedVariables false
namespace Go.Proofs.Ytbfchlimonimkaa
open Go.Am Go.Minster Go.ChangeShapes Go.WideShapes Go.ChangeAt Go.RowKit

/-- the state on the way -/
structure Pl (s0 : AS) (p m lh : Nat) (n o : Int) (D : List A14) (s : AS) : Prop where
  e : Ext s0 s
  w : WFs s
  st : ∃ F told has, MatF F s p m n o told has ∧ Kn n o D told has ∧ lh ∉ F ∧ Own s lh ((loc n o has).map (.int .u64))
theorem Pl.ext {s0 s s' : AS} {p m lh : Nat} {n o : Int} {D : List A14} (h : Pl s0 p m lh n o D s) (e : Ext s s') (w : WFs s') : Pl s0 p m lh n o D s' := by
  obtain ⟨a, b, F, told, has, M, K, hF, ho⟩ := h
  exact ⟨a.trans e, w, F, told, has, M.ext e, K, hF, ho.ext e⟩

/-- what one act makes -/
theorem play_ok {s0 s97 : AS} {p m lh : Nat} {n o : Int} {D l : List A14} {x : A14} {l95 : Nat} (hpm : s0.h p = none ∧ s0.h m = none ∧ s0.h lh = none) (hlh : lh ≠ p ∧ lh ≠ m) (h : Pl s0 p m lh n o D s97) (hl95 : l95 ≠ p ∧ l95 ≠ m ∧ l95 ≠ lh) (hfew : Few l) (hD : ∀ a ∈ D, a ∈ l) (hx : x ∈ l) (hao0 : ActOk s0 x) (hnn : ∀ k, 0 ≤ x.v k) (o95 : Own s97 l95 (actC x)) {J101 : AS → Prop} {R : AV → AS → Prop} (hJ : ∀ s', Pl s0 p m lh n o (D ++ [x]) s' → J101 s') :
    RdI .i64 (rd1 s97 l95 0) fun n158 => bsplit ((n158 : Int) == 1)
 (DrawQ fun S V => RdI .i64 (rd1 s97 l95 1) fun n159 => RdA (rd1 s97 l95 2) fun v160 => (∀ s161 : AS, Ext s97 s161 → WFs s161 → (True) → ACalls Try.prog F_law14iof [v160] s161 fun v162 s163 => ∃ p164 : Option (Nat × Nat), v162 = .ptr p164 ∧ ((Ext s161 s163 ∧ S 5 [(.func F_law14iof []), v160] (.ptr p164) s163 ∧ V 5 [(.func F_law14iof []), v160] (.ptr p164)))) ∧ (∃ v, V 5 [(.func F_law14iof []), v160] v) ∧ ∀ v165 : AV, V 5 [(.func F_law14iof []), v160] v165 → ∃ p166 : Option (Nat × Nat), v165 = .ptr p166 ∧ (RdA (rd1 s97 l95 3) fun v167 => ∀ s168 : AS, Ext s97 s168 → WFs s168 → (S 5 [(.func F_law14iof []), v160] (.ptr p166) s168 ∧ True) → ACalls Try.prog F_stable_Matrix_Know [(.ptr (some (p, 0))), (.int .i64 n159), (.ptr p166), v167] s168 fun v170 s171 => ∃ n172 : Int, v170 = .int .i64 n172 ∧ (JoinQ fun J173 =>
 (∀ b174 : Bool, ∀ s175 : AS, J173 [(.bool b174)] s175 →
 bsplit (!((b174 : Bool) == ((n172 : Int) == 0))) (R (.bool false) s175) (bsplit (!b174) (bsplit ((n172 : Int) != 2)
 (R (.bool false) s175)
 (J101 s175)) (J101 s175))) ∧
 (bsplit (decide (Oth n o x.region)) (RdL (rdc s171 l95 0 20) fun g176 => ACalls Try.prog F_law14imay [(.agg g176)] s171 fun v177 s178 => ∃ b179 : Bool, v177 = .bool b179 ∧ (J173 [(.bool b179)] s178)) (J173 [(.bool false)] s171)))))
 (bsplit ((n158 : Int) == 2)
 (RdI .i64 (rd1 s97 l95 1) fun n180 => RdL (rdc s97 l95 4 16) fun g181 => ACalls Try.prog F_stable_Matrix_Have [(.ptr (some (p, 0))), (.int .i64 n180), (.agg g181)] s97 fun v182 s183 => ∃ n184 : Int, v182 = .int .i64 n184 ∧ (JoinQ fun J185 =>
 (∀ s186 : AS, J185 [] s186 →
 LoopQ fun I187 m188 => I187 m188 [(.int .i64 0)] s186 ∧
 ∀ m189 : Nat, ∀ n190 : Int, ∀ s191 : AS, I187 m189 [(.int .i64 n190)] s191 →
 bsplit (decide ((n190 : Int) < 16)) (bsplit (decide (Oth n o x.region))
 (IxQ (aindexAddr T Y_Vector (.ptr (some (l95, 4))) (.int .i64 n190)) fun l192 o193 => RdI .u64 (rd1 s191 l192 o193) fun n194 => RdI .i64 (rd1 s191 l95 1) fun n195 => IxQ (aindexAddr T Y_a17iVector (.ptr (some (lh, 0))) (.int .i64 n195)) fun l196 o197 => IxQ (aindexAddr T Y_Vector (.ptr (some (l196, o197))) (.int .i64 n190)) fun l198 o199 => RdI .u64 (rd1 s191 l198 o199) fun n200 => bsplit (decide ((n194 : Int) > n200))
 (RdI .i64 (rd1 s191 l95 1) fun n201 => IxQ (aindexAddr T Y_Vector (.ptr (some (l95, 4))) (.int .i64 n190)) fun l202 o203 => RdI .u64 (rd1 s191 l202 o203) fun n204 => IxQ (aindexAddr T Y_a17iVector (.ptr (some (lh, 0))) (.int .i64 n201)) fun l205 o206 => IxQ (aindexAddr T Y_Vector (.ptr (some (l205, o206))) (.int .i64 n190)) fun l207 o208 => StQ (Am.awr s191 l207 o208 [(.int .u64 n204)]) fun s209 => ∃ m', m' < m189 ∧ I187 m' [(.int .i64 (IntKind.wrap .i64 (n190 + 1)))] s209)
 (∃ m', m' < m189 ∧ I187 m' [(.int .i64 (IntKind.wrap .i64 (n190 + 1)))] s191))
 (J101 s191)) (J101 s191)) ∧
 (bsplit (!((decide (Oth n o x.region) : Bool) == ((n184 : Int) == 0))) (R (.bool false) s183) (bsplit (!(decide (Oth n o x.region))) (bsplit ((n184 : Int) != 2)
 (R (.bool false) s183)
 (J185 [] s183)) (J185 [] s183)))))
 (J101 s97)) := by
  obtain ⟨E97, w97, F, told, has, M, K, hF, oh⟩ := h
  have hao := hao0.ext E97
  have hrng := M.rng
  have hfa := hfew.2 x hx
  have hfd := few_dots hfew
  have at2 := o95.at
  have g : ∀ (i : Nat) s', Ext s97 s' → rd1 s' l95 i = (actC x)[i]? := fun i s' e => (at2.ext e).rd1 i
  have hlF : ∀ F' : List Nat, (∀ y ∈ F', y ∈ F ∨ s97.h y = none) → lh ∉ F' := fun F' h hin => by
    rcases h lh hin with h | h
    · exact hF h
    · rw [oh] at h; cases h
  refine ⟨_, (g 0 _ (Ext.refl _)).trans (act_0 x), bsplit.mk (fun hk => ?_) (fun hk => bsplit.mk (fun hk2 => ?_) (fun hk2 => ?_))⟩
  · have hk1 : x.kind = 1 := by simpa using hk
    refine ⟨fun q _ v s' => ∃ pc cv ce, v = .ptr (some (pc, 0)) ∧ CtxAt s' pc cv ce ∧ COk cv ce ∧ Gap cv ce ∧ ce.length ≤ 40 ∧ ∀ y, hasD cv ce y = true ↔ y.may = true ∧ y ∈ x.dots, fun q _ v => ∃ pc, v = .ptr (some (pc, 0)), ?_, _, (g 1 _ (Ext.refl _)).trans (act_1 x), _, (g 2 _ (Ext.refl _)).trans (act_2 x), fun s6 e6 w6 _ => ?_, ⟨.ptr (some (0, 0)), 0, rfl⟩, fun v10 hv => ?_⟩
    · rintro q ks v s' s'' e ⟨pc, cv, ce, h1, h2, h3⟩
      exact ⟨pc, cv, ce, h1, h2.ext e, h3⟩
    · refine (of14_ok (hao.d.ext e6) (by omega)).mono ?_
      rintro r s8 ⟨pc, v, ex, rfl, _, ok, gap, hlen, e8, c8, hhas⟩
      exact ⟨_, rfl, e8, ⟨pc, v, ex, rfl, c8, ok, gap, by omega, hhas⟩, pc, rfl⟩
    obtain ⟨pc, rfl⟩ := hv
    refine ⟨_, rfl, _, (g 3 _ (Ext.refl _)).trans (act_3 x), fun s13 e13 w13 hS => ?_⟩
    obtain ⟨pc', cv, ce, hpc, hc, ok, gap, hlen, hhas⟩ := hS.1
    simp only [AV.ptr.injEq, Option.some.injEq, Prod.mk.injEq, and_true] at hpc
    subst hpc
    have hL := K.len M (L := l.flatMap fun a => a.dots) (fun b hb d hd => List.mem_flatMap.2 ⟨b, hD b hb, hd⟩) x.region
    refine ACalls.use (Know_ok (M.ext e13) x.region hc ok gap (by omega) (hao.l.ext e13) (by omega) (by omega)) ?_
    rintro r s16 hcase w16
    -- the rest, from what it answers
    have rest : ∀ nn : Int, Pl s0 p m lh n o (D ++ [x]) s16 → Own s16 l95 (actC x) → (hao16 : ActOk s16 x) → ((nn = 0 ∧ Oth n o x.region ∧ MayA x) ∨ (nn = 2 ∧ ¬ (Oth n o x.region ∧ MayA x))) → JoinQ fun J173 =>
        (∀ b174 : Bool, ∀ s175 : AS, J173 [(.bool b174)] s175 → bsplit (!((b174 : Bool) == ((nn : Int) == 0))) (R (.bool false) s175) (bsplit (!b174) (bsplit ((nn : Int) != 2) (R (.bool false) s175) (J101 s175)) (J101 s175))) ∧
        (bsplit (decide (Oth n o x.region)) (RdL (rdc s16 l95 0 20) fun g176 => ACalls Try.prog F_law14imay [(.agg g176)] s16 fun v177 s178 => ∃ b179 : Bool, v177 = .bool b179 ∧ (J173 [(.bool b179)] s178)) (J173 [(.bool false)] s16)) := by
      intro nn hP h95 hao16 hn
      refine ⟨fun vs s' => Ext s16 s' ∧ WFs s' ∧ ∃ b, vs = [.bool b] ∧ (b = true ↔ Oth n o x.region ∧ MayA x), ?_, ?_⟩
      · rintro b s175 ⟨e175, w175, b', hb, hiff⟩
        simp only [List.cons.injEq, AV.bool.injEq, and_true] at hb
        subst hb
        have hj := hJ _ (hP.ext e175 w175)
        rcases hn with ⟨rfl, h1⟩ | ⟨rfl, h1⟩
        · have hbt := hiff.2 h1
          subst hbt
          exact hj
        · have hbf : b = false := by
            cases b
            · rfl
            · exact absurd (hiff.1 rfl) h1
          subst hbf
          exact hj
      · refine bsplit.mk (fun ho => ?_) (fun ho => ⟨Ext.refl _, w16, _, rfl, ?_⟩)
        · have ho' : Oth n o x.region := by simpa using ho
          refine ⟨_, h95.at.rdc (by rw [actC_len]; omega), ?_⟩
          rw [List.drop_zero, List.take_of_length_le (by rw [actC_len]; omega)]
          refine ACalls.use (may_ok hao16 (by omega) (by omega)) ?_
          rintro r s178 ⟨e178, b, rfl, hb⟩ w178
          exact ⟨_, rfl, e178, w178, b, rfl, hb.trans ⟨fun h => ⟨ho', h⟩, fun h => h.2⟩⟩
        · have ho' : ¬ Oth n o x.region := by simpa using ho
          constructor
          · intro h; cases h
          · intro h; exact absurd h.1 ho'
    rcases hcase with ⟨h1, rfl, e16⟩ | ⟨⟨h1, h2⟩, rfl, F', xv, hFs, hFn, ht, M', m16⟩
    · have hno : ¬ (Oth n o x.region ∧ MayA x) := fun hh => h1 ⟨hh.1, (MayA.iff hhas).2 hh.2⟩
      have e' := e13.trans e16
      exact ⟨_, rfl, rest 2 ⟨E97.trans e', w16, F, told, has, M.ext e', K.skip (fun _ => hno) (fun h => by omega), hF, oh.ext e'⟩ (o95.ext e') (hao.ext e') (.inr ⟨rfl, hno⟩)⟩
    · have hFn' : ∀ y ∈ F', y ∈ F ∨ s97.h y = none := fun y hy => by
        rcases hFn y hy with h | h
        · exact .inl h
        · exact .inr (e13.none h)
      have hm' := (MayA.iff hhas).1 h2
      have E16 := Ext.wr (E97.trans e13) hpm.2.1 m16
      have hao16 : ActOk s16 x := hao0.ext E16
      exact ⟨_, rfl, rest 0 ⟨Ext.wr (E97.trans e13) hpm.2.1 m16, w16, F', _, has, M', K.know hk1 h1 hm' hhas ht, hlF F' hFn', (oh.ext e13).mut m16 (by simpa using hlh.2)⟩ ((o95.ext e13).mut m16 (by simpa using hl95.2.1)) hao16 (.inl ⟨rfl, h1, hm'⟩)⟩
  · have hk2' : x.kind = 2 := by simpa using hk2
    refine ⟨_, (g 1 _ (Ext.refl _)).trans (act_1 x), _, at2.rdc (by rw [actC_len]; omega), ?_⟩
    have hv : ((actC x).drop 4).take 16 = x.vl.map (.int .u64) := by
      show (x.vl.map (AV.int .u64)).take 16 = _
      rw [List.take_of_length_le (by simp [x.vl_len])]
    rw [hv]
    refine ACalls.use (Have_ok M x.region x.vl_len) ?_
    rintro r s183 hcase w183
    rcases hcase with ⟨h1, rfl, e22⟩ | ⟨h1, rfl, M', m22⟩
    · have ho : ¬ Oth n o x.region := h1
      rw [decide_eq_false ho]
      have hj := hJ s183 ⟨E97.trans e22, w183, F, told, has, M.ext e22, K.skip (fun h => by omega) (fun _ => ho), hF, oh.ext e22⟩
      refine ⟨_, rfl, fun vs s' => s' = s183, ?_, rfl⟩
      rintro s186 rfl
      refine ⟨fun mm vs s' => s' = s186 ∧ vs = [.int .i64 0], 0, ⟨rfl, rfl⟩, ?_⟩
      rintro m189 n190 s191 ⟨rfl, hn⟩
      simp only [List.cons.injEq, AV.int.injEq, true_and, and_true] at hn
      subst hn
      exact hj
    · have ho : Oth n o x.region := h1
      rw [decide_eq_true ho]
      have ho1 := ho.1
      have ho2 := ho.2.1
      refine ⟨_, rfl, fun vs s' => s' = s183, ?_, rfl⟩
      rintro s186 rfl
      have oh' : Own s186 lh ((loc n o has).map (.int .u64)) := oh.mut m22 (by simpa using hlh.1)
      have o95' : Own s186 l95 (actC x) := o95.mut m22 (by simpa using hl95.1)
      refine ⟨fun mm vs s' => ∃ i : Nat, vs = [.int .i64 (i : Nat)] ∧ i ≤ 16 ∧ mm = 16 - i ∧ WFs s' ∧ Mut [lh] s186 s' ∧ Own s' lh ((loc n o (hup has x.region x.vl i)).map (.int .u64)), 16, ⟨0, rfl, by omega, rfl, w183, Mut.refl _ _, by rw [loc_hup0 M.len]; exact oh'⟩, ?_⟩
      rintro m189 n190 s191 ⟨i, hi, hi16, rfl, w191, m191, o191⟩
      simp only [List.cons.injEq, AV.int.injEq, true_and, and_true] at hi
      subst hi
      have o95'' := o95'.mut m191 (by simpa using hl95.2.2)
      have g' : ∀ (i : Nat), rd1 s191 l95 i = (actC x)[i]? := fun i => o95''.at.rd1 i
      refine bsplit.dec (fun hlt => bsplit.yes rfl ?_) (fun hge => ?_)
      · have h16 : i < 16 := by omega
        have hgv : rd1 s191 l95 (4 + (i : Int).toNat * 1) = some (.int .u64 (x.vl.getD i 0)) := by
          rw [g', show 4 + (i : Int).toNat * 1 = 4 + i by omega]
          show ([.int .i64 x.kind, .int .i64 x.region, x.da, x.la] ++ x.vl.map (AV.int .u64))[4 + i]? = _
          rw [List.getElem?_append_right (by simp), show 4 + i - [AV.int .i64 x.kind, .int .i64 x.region, x.da, x.la].length = i by simp, List.getElem?_map, List.getElem?_eq_getElem (by rw [x.vl_len]; omega)]
          simp [List.getD_eq_getElem?_getD, List.getElem?_eq_getElem (show i < x.vl.length by rw [x.vl_len]; omega)]
        have hgl : rd1 s191 lh (0 + x.region.toNat * 16 + (i : Int).toNat * 1) = some (.int .u64 (hg has x.region i)) := by
          rw [show 0 + x.region.toNat * 16 + (i : Int).toNat * 1 = x.region.toNat * 16 + i by omega, rd_ints o191 (by rw [loc_len]; omega), loc_hup_at ho hrng.2.1 h16]
        have r1 := (g' 1).trans (act_1 x)
        refine ⟨_, _, vix (by omega), _, hgv, _, r1, _, _, aix17 (by omega), _, _, vix (by omega), _, hgl, bsplit.dec (fun hgt => ?_) (fun hle => ?_)⟩
        · refine ⟨_, r1, _, _, vix (by omega), _, hgv, _, _, aix17 (by omega), _, _, vix (by omega), StQ.own w191 o191 (by simp [loc_len]; omega) fun s209 P => ⟨16 - (i + 1), by omega, i + 1, by rw [wadd1 (by omega)], by omega, rfl, P.wf, m191.trans P.mut, ?_⟩⟩
          have := P.at
          rw [wrs_one, show 0 + x.region.toNat * 16 + (i : Int).toNat * 1 = x.region.toNat * 16 + i by omega, vset, loc_step_gt ho hrng.2.1 h16 hgt] at this
          exact this
        · exact ⟨16 - (i + 1), by omega, i + 1, by rw [wadd1 (by omega)], by omega, rfl, w191, m191, by rw [← loc_step_le ho hrng.2.1 h16 hle]; exact o191⟩
      · obtain rfl : i = 16 := by omega
        refine hJ _ ⟨Ext.wr (Ext.wr E97 hpm.1 m22) hpm.2.2 m191, w191, F, told, _, M'.mut m191 (fun y hy => by obtain rfl := List.mem_singleton.1 hy; exact hF) (by simpa using hlh.1.symm) (by simpa using hlh.2.symm), K.have hrng.2.1 hk2' ho hnn, hF, o191⟩
  · have h1 : x.kind ≠ 1 := by intro h; rw [h] at hk; simp at hk
    have h2 : x.kind ≠ 2 := by intro h; rw [h] at hk2; simp at hk2
    exact hJ _ ⟨E97, w97, F, told, has, M, K.skip (fun h => absurd h h1) (fun h => absurd h h2), hF, oh⟩

set_option maxRecDepth 100000 in
theorem stablePlays_ok {s : AS} {n o : Int} {a d : AV} {l : List A14} {ld : List Dot} (ha : Acts s a l) (hal : l.length ≤ 9223372036854775807) (hnn : ∀ x ∈ l, ∀ k, 0 ≤ x.v k) (hd : Dots s d ld) : ACalls Try.prog F_law14iStablePlays [.int .i64 n, .int .i64 o, a, d] s fun r s' => r = .bool true := by
  have kn : ∀ s', ACalls Try.prog F_law14iknown [] s' fun v s5 => ∃ b : Bool, v = .bool b ∧ (AV.bool b = .bool true) := by
    intro s'
    refine (known14_ok _).mono ?_
    rintro r s' ⟨rfl, rfl⟩
    exact ⟨_, rfl, rfl⟩
  refine ACalls.pre fun hw => q_law14iStablePlays _ _ _ _ _ _ ⟨fun vs s' => s' = s ∧ ∃ t, vs = [.bool t] ∧ (t = false → Few l ∧ ld.length ≤ 40), ?_, ?_⟩
  rotate_left
  · refine ACalls.use (few_ok ha hal hw) ?_
    rintro r s159 ⟨rfl, t, rfl, ht⟩ _
    exact ⟨_, rfl, bsplit.mk (fun h => ⟨rfl, _, rfl, by simp⟩) (fun h => ⟨_, hd.lenB u_s_Dot _, rfl, _, rfl, fun h3 => ⟨ht.1 (by simpa using h), by simp at h3; omega⟩⟩)⟩
  rintro t s3 ⟨rfl, t', ht, hcond⟩
  simp only [List.cons.injEq, AV.bool.injEq, and_true] at ht
  subst ht
  refine bsplit.mk (fun _ => kn _) (fun hf => ?_)
  obtain ⟨hfew, hld⟩ := hcond hf
  have hfl := hfew.1
  refine ACalls.use (New_ok _ _ _) ?_
  rintro r s8 ⟨e8, h8⟩ w8
  rcases h8 with ⟨hbad, rfl⟩ | ⟨hrng, p, m, rfl, hp0, hm0, M8⟩
  · refine ⟨_, _, rfl, fun vs s' => vs = [.bool true], ?_, bsplit.dec (fun _ => rfl) (fun h1 => bsplit.dec (fun _ => rfl) (fun h2 => bsplit.dec (fun _ => rfl) (fun h3 => by rw [decide_eq_true (by omega)])))⟩
    intro b s13 hb
    simp only [List.cons.injEq, AV.bool.injEq, and_true] at hb
    subst hb
    exact bsplit.yes rfl (bsplit.yes rfl ⟨_, aeqPtrNil u_p_stable_Matrix _, bsplit.yes rfl (kn _)⟩)
  refine ⟨_, _, rfl, fun vs s' => s' = s8 ∧ vs = [.bool false], ?_, bsplit.dec (fun h => absurd h (by omega)) (fun _ => bsplit.dec (fun h => absurd h (by omega)) (fun _ => bsplit.dec (fun h => absurd h (by omega)) (fun _ => ⟨rfl, by rw [decide_eq_false (by omega)]⟩)))⟩
  rintro b s13 ⟨rfl, hb⟩
  simp only [List.cons.injEq, AV.bool.injEq, and_true] at hb
  subst hb
  refine bsplit.no rfl (bsplit.no rfl (NewQ.intro w8 rfl fun lh s19 F19 => ?_))
  have hlh0 := e8.none F19.no
  have hlh : lh ≠ p ∧ lh ≠ m := by
    refine ⟨?_, ?_⟩ <;> rintro rfl
    · exact M8.pthere F19.no
    · exact M8.mthere F19.no
  have hP19 : Pl s3 p m lh n o [] s19 := ⟨e8.trans F19.ext, F19.wf, [], _, _, M8.ext F19.ext, Kn.zero, by simp, by rw [loc_build]; exact F19.own⟩
  refine ⟨fun vs s' => Pl s3 p m lh n o l s', ?_, fun mm vs s' => ∃ i : Nat, vs = [.int .i64 (i : Nat)] ∧ i ≤ l.length ∧ mm = l.length - i ∧ Pl s3 p m lh n o (l.take i) s', l.length, ⟨0, rfl, by omega, rfl, hP19⟩, ?_⟩
  rotate_left
  · rintro m88 n89 s90 ⟨i, hi, hil, rfl, hP⟩
    simp only [List.cons.injEq, AV.int.injEq, true_and, and_true] at hi
    subst hi
    refine ⟨_, ha.sl.lenB u_s_minsterlaw14iAct _, bsplit.dec (fun hlt => ?_) (fun hge => ?_)⟩
    rotate_left
    · obtain rfl : i = l.length := by omega
      rw [List.take_length] at hP
      exact hP
    obtain ⟨x, hx⟩ := get_lt (l := l) (i := i) (by omega)
    have hxl := List.mem_of_getElem? hx
    obtain ⟨lx, ox, k8, k9⟩ := ha.sl.ix (by decide) actC_len u_s_minsterlaw14iAct z_minsterlaw14iAct hx
    refine ⟨lx, ox, k8 _, _, (k9 _ hP.e).2, NewQ.intro hP.w rfl fun l95 s96 F96 => ⟨⟨(ha.ok x hxl).one, by rw [actC_len]⟩, StQ.own F96.wf F96.own (by rw [actC_len]; simp) fun s97 P97 => ?_⟩⟩
    have o95 : Own s97 l95 (actC x) := by
      have := P97.at
      rwa [wrs_all0 (by rw [actC_len]; rfl)] at this
    have e97 : Ext s90 s97 := Ext.wr F96.ext F96.no P97.mut
    have hP97 := hP.ext e97 P97.wf
    have hl95 : l95 ≠ p ∧ l95 ≠ m ∧ l95 ≠ lh := by
      obtain ⟨_, _, F, told, has, M, K, hF, oh⟩ := hP
      refine ⟨?_, ?_, ?_⟩ <;> rintro rfl
      · exact M.pthere F96.no
      · exact M.mthere F96.no
      · have := F96.no; rw [oh] at this; cases this
    refine ⟨fun vs s' => s' = s97 ∧ vs = [.bool (decide (Oth n o x.region))], ?_, ?_⟩
    rotate_left
    · have r1 : rd1 s97 l95 1 = some (.int .i64 x.region) := (o95.at.rd1 1).trans (act_1 x)
      refine ⟨_, r1, bsplit.dec (fun h1 => ⟨_, r1, bsplit.dec (fun h2 => ⟨_, r1, rfl, ?_⟩) (fun h2 => ⟨rfl, ?_⟩)⟩) (fun h1 => ⟨rfl, ?_⟩)⟩
      · congr 2
        by_cases e : x.region = o
        · rw [decide_eq_false (fun h => h.2.2 e), e]; simp
        · rw [decide_eq_true (show Oth n o x.region from ⟨h1, h2, e⟩)]; simpa using e
      · rw [decide_eq_false (fun h => h2 h.2.1)]
      · rw [decide_eq_false (fun h => h1 h.1)]
    rintro b99 s100 ⟨rfl, hb⟩
    simp only [List.cons.injEq, AV.bool.injEq, and_true] at hb
    subst hb
    refine ⟨fun vs s' => Pl s3 p m lh n o (l.take i ++ [x]) s', ?_, play_ok (J101 := fun s' => Pl s3 p m lh n o (l.take i ++ [x]) s') (R := fun r _ => r = .bool true) (l := l) ⟨hp0, hm0, hlh0⟩ hlh hP97 hl95 hfew (fun y hy => List.mem_of_mem_take hy) hxl (ha.ok x hxl) (hnn x hxl) o95 (fun _ h => h)⟩
    rintro s102 hP102
    have ht : l.take i ++ [x] = l.take (i + 1) := by rw [List.take_add_one, hx]; rfl
    replace hP102 : Pl s3 p m lh n o (l.take (i + 1)) s102 := ht ▸ hP102
    obtain ⟨E102, w102, F, told, has, M, K, hF, oh⟩ := id hP102
    refine ACalls.use (MCopy_ok M) ?_
    rintro r s104 ⟨po, mo, rfl, hpo, hmo, Mo, e104⟩ w104
    have E104 := E102.trans e104
    have M104 := M.ext e104
    refine ⟨_, rfl, fun mm vs s' => ∃ k : Nat, vs = [.int .i64 (k : Nat)] ∧ k ≤ ld.length ∧ mm = ld.length - k ∧ Ext s104 s' ∧ WFs s', ld.length, ⟨0, rfl, by omega, rfl, Ext.refl _, w104⟩, ?_⟩
    rintro m108 n109 s110 ⟨k, hk, hkl, rfl, e110, w110⟩
    simp only [List.cons.injEq, AV.int.injEq, true_and, and_true] at hk
    subst hk
    refine ⟨_, hd.lenB u_s_Dot _, bsplit.dec (fun hlt2 => ?_) (fun hge2 => ⟨l.length - (i + 1), by omega, i + 1, by rw [wadd1 (by omega)], by omega, rfl, hP102.ext (e104.trans e110) w110⟩)⟩
    obtain ⟨y, hy⟩ := get_lt (l := ld) (i := k) (by omega)
    obtain ⟨ly, oy, j8, j9⟩ := hd.ix (by decide) dotC_len u_s_Dot z_Dot hy
    have gy : ∀ s', Ext s104 s' → rdc s' ly oy 2 = some (dotC y) := fun s' e => (j9 s' (E104.trans e)).2
    refine ⟨ly, oy, j8 _, _, gy _ e110, ?_⟩
    refine ACalls.use (ref04iMay_ok y _) ?_
    rintro v s116 ⟨rfl, e116⟩ w116
    have e116' := e110.trans e116
    refine ⟨_, rfl, fun vs s' => Ext s104 s' ∧ WFs s' ∧ ∃ b, vs = [.bool b] ∧ (b = true ↔ y.may = true ∧ ∀ r, Oth n o r → gn (told r) y = true), ?_, fun mm vs s' => ∃ (j : Nat) (b : Bool), vs = [.bool b, .int .i64 ((j : Int) - 1)] ∧ j ≤ 19 ∧ mm = 19 - j ∧ Ext s104 s' ∧ WFs s' ∧ (b = true ↔ y.may = true ∧ ∀ r, Oth n o r → r < (j : Int) - 1 → gn (told r) y = true), 19, ⟨0, _, rfl, by omega, rfl, e116', w116, ⟨fun h => ⟨h, fun r h1 h2 => by have := h1.1; omega⟩, fun h => h.1⟩⟩, ?_⟩
    · rintro b s120 ⟨e120, w120, b', hb, hiff⟩
      simp only [List.cons.injEq, AV.bool.injEq, and_true] at hb
      subst hb
      refine ⟨ly, oy, j8 _, _, gy _ e120, ?_⟩
      refine ACalls.use (Stable_ok (M104.ext e120) y) ?_
      rintro v s125 ⟨e125, c, rfl, hc⟩ w125
      have hcb : c = b := by
        rw [Bool.eq_iff_iff, hc, hiff]
        exact ⟨fun ⟨a, b⟩ => ⟨a, fun r h => b r h.1 h.2.1 h.2.2⟩, fun ⟨a, b⟩ => ⟨a, fun r h1 h2 h3 => b r ⟨h1, h2, h3⟩⟩⟩
      exact ⟨_, rfl, bsplit.no (by simp [hcb]) ⟨ld.length - (k + 1), by omega, k + 1, by rw [wadd1 (by omega)], by omega, rfl, e120.trans e125, w125⟩⟩
    · rintro m129 b130 n131 s132 ⟨j, b', hj, hj19, rfl, e132, w132, hiff⟩
      simp only [List.cons.injEq, AV.int.injEq, AV.bool.injEq, true_and, and_true] at hj
      obtain ⟨rfl, rfl⟩ := hj
      refine bsplit.dec (fun hlt3 => ?_) (fun hge3 => ⟨e132, w132, b130, rfl, hiff.trans ⟨fun h => ⟨h.1, fun r ho => h.2 r ho (by have := ho.2.1; omega)⟩, fun h => ⟨h.1, fun r ho _ => h.2 r ho⟩⟩⟩)
      have hwant := K.gone ((j : Int) - 1) y
      have hnot : ¬ Oth n o ((j : Int) - 1) → gn (told ((j : Int) - 1)) y = false := fun h => by
        rw [← Bool.not_eq_true, hwant]
        exact fun hh => h hh.1
      refine ⟨fun vs s' => Ext s104 s' ∧ WFs s' ∧ vs = [.bool (gn (told ((j : Int) - 1)) y)], ?_, bsplit.dec (fun h1 => bsplit.dec (fun h2 => bsplit.mk (fun h3 => ?_) (fun h3 => ⟨e132, w132, ?_⟩)) (fun h2 => ⟨e132, w132, ?_⟩)) (fun h1 => ⟨e132, w132, ?_⟩)⟩
      · rintro b134 s135 ⟨e135, w135, hb⟩
        simp only [List.cons.injEq, AV.bool.injEq, and_true] at hb
        subst hb
        refine ⟨ly, oy, j8 _, _, gy _ e135, ?_⟩
        refine ACalls.use (Gone_ok (M104.ext e135) _ y) ?_
        rintro v s140 ⟨rfl, e140⟩ w140
        refine ⟨_, rfl, bsplit.no (by simp) ⟨ly, oy, j8 _, _, gy _ (e135.trans e140), ?_⟩⟩
        refine ACalls.use (Gone_ok (Mo.ext (e135.trans e140)) _ y) ?_
        rintro v s146 ⟨rfl, e146⟩ w146
        have E146 := (e135.trans e140).trans e146
        refine ⟨_, rfl, bsplit.no (by simp) ⟨fun vs s' => s' = s146 ∧ vs = [.bool (decide (Oth n o ((j : Int) - 1)))], ?_, bsplit.dec (fun h1 => bsplit.dec (fun h2 => ⟨rfl, ?_⟩) (fun h2 => ⟨rfl, ?_⟩)) (fun h1 => ⟨rfl, ?_⟩)⟩⟩
        · rintro b149 s150 ⟨rfl, hb⟩
          simp only [List.cons.injEq, AV.bool.injEq, and_true] at hb
          subst hb
          have hnext : ∀ t : Bool, (t = true ↔ y.may = true ∧ ∀ r, Oth n o r → r < (j : Int) → gn (told r) y = true) → ∃ m', m' < 19 - j ∧ ∃ (j' : Nat) (b : Bool), [AV.bool t, .int .i64 (IntKind.wrap .i64 ((j : Int) - 1 + 1))] = [.bool b, .int .i64 ((j' : Int) - 1)] ∧ j' ≤ 19 ∧ m' = 19 - j' ∧ Ext s104 s150 ∧ WFs s150 ∧ (b = true ↔ y.may = true ∧ ∀ r, Oth n o r → r < (j' : Int) - 1 → gn (told r) y = true) := by
            intro t ht
            refine ⟨19 - (j + 1), by omega, j + 1, t, ?_, by omega, rfl, E146, w146, ht.trans ?_⟩
            · rw [wrap_i' (by omega), show ((j : Int) - 1 + 1) = ((j + 1 : Nat) : Int) - 1 by omega]
            · rw [show ((j + 1 : Nat) : Int) - 1 = (j : Int) by omega]
          have hr : ∀ r : Int, r < (j : Int) → r < (j : Int) - 1 ∨ r = (j : Int) - 1 := fun r h => by omega
          refine bsplit.mk (fun ho => bsplit.mk (fun hbt => hnext _ ?_) (fun hbf => hnext _ ?_)) (fun ho => hnext _ ?_)
          · have h0 := hiff.1 hbt
            constructor
            · intro h
              refine ⟨h0.1, fun r ho' hlt => ?_⟩
              rcases hr r hlt with h' | rfl
              · exact h0.2 r ho' h'
              · exact h
            · intro h
              exact h.2 _ (by simpa using ho) (by omega)
          · constructor
            · intro h; cases h
            · intro h
              have := hiff.2 ⟨h.1, fun r ho' hlt => h.2 r ho' (by omega)⟩
              rw [hbf] at this; cases this
          · have ho' : ¬ Oth n o ((j : Int) - 1) := by simpa using ho
            refine hiff.trans ⟨fun h => ⟨h.1, fun r h1 hlt => ?_⟩, fun h => ⟨h.1, fun r h1 hlt => h.2 r h1 (by omega)⟩⟩
            rcases hr r hlt with h' | rfl
            · exact h.2 r h1 h'
            · exact absurd h1 ho'
        · congr 2
          by_cases e : (j : Int) - 1 = o
          · rw [decide_eq_false (fun h => h.2.2 e), e]; simp
          · rw [decide_eq_true (show Oth n o ((j : Int) - 1) from ⟨h1, h2, e⟩)]; simpa using e
        · rw [decide_eq_false (fun h => h2 h.2.1)]
        · rw [decide_eq_false (fun h => h1 h.1)]
      · have ho : Oth n o ((j : Int) - 1) := ⟨h1, h2, by simpa using h3⟩
        obtain ⟨va, hva, hA⟩ := (ha.ext (E104.trans e132)).to (by omega) (i := i + 1) (by omega) .i64
        rw [wadd1 (by omega)]
        refine ⟨va, hva, ly, oy, j8 _, _, gy _ e132, ?_⟩
        refine ACalls.use (gone_ok hA (hfew.take _) _ y) ?_
        rintro v s156 ⟨e156, b, rfl, hb⟩ w156
        refine ⟨_, rfl, e132.trans e156, w156, ?_⟩
        congr 2
        rw [Bool.eq_iff_iff, hb, hwant]
        exact ⟨fun h => ⟨ho, h⟩, fun h => h.2⟩
      · rw [hnot (fun h => by simp [h.2.2] at h3)]
      · rw [hnot (fun h => h2 h.2.1)]
      · rw [hnot (fun h => h1 h.1)]
  rintro s21 ⟨E21, w21, F, told, has, M, K, hF, oh⟩
  refine NewQ.intro w21 rfl fun l22 s23 F23 => ?_
  have o22 : Own s23 l22 (zeros.map (.int .u64)) := F23.own
  refine ⟨fun vs s' => Ext s21 s' ∧ WFs s' ∧ ∃ v, Own s' l22 (v.map (.int .u64)) ∧ IsAll has n o v, ?_, fun mm vs s' => ∃ (k : Nat) (v : List Int), vs = [.int .i64 (k : Nat)] ∧ k ≤ 16 ∧ mm = 16 - k ∧ v.length = 16 ∧ (n = 1 → v = zeros) ∧ (∀ j, j < k → Least (colTo has o j n.toNat) (v.getD j 0)) ∧ Ext s21 s' ∧ WFs s' ∧ Own s' l22 (v.map (.int .u64)), 16, ⟨0, zeros, rfl, by omega, rfl, rfl, fun _ => rfl, fun j hj => by omega, F23.ext, F23.wf, o22⟩, ?_⟩
  · rintro s25 ⟨e25, w25, v, o25, hall⟩
    refine ⟨fun _ _ _ _ => True, fun _ _ x => ∃ w, x = .agg (w.map (.int .u64)) ∧ IsAll has n o w, fun _ _ _ _ _ _ _ => trivial, fun s26 e26 w26 _ => ?_, ⟨_, v, rfl, hall⟩, ?_⟩
    · refine (All_ok (M.ext (e25.trans e26))).mono ?_
      rintro x s28 ⟨e28, w, rfl, hw⟩
      exact ⟨_, rfl, e28, trivial, w, rfl, hw⟩
    · rintro x ⟨w, rfl, hw⟩
      refine ⟨_, rfl, _, o25.at.rdc (by simp [hall.1]), fun s33 e33 w33 _ => ?_⟩
      rw [List.drop_zero, List.take_of_length_le (by simp [hall.1])]
      obtain rfl := hw.uniq hall
      refine ⟨_, vec_eq hw.1 hw.1, bsplit.no (by simp) ?_⟩
      refine ⟨fun mm vs s' => ∃ r : Nat, vs = [.int .i64 (r : Nat)] ∧ r ≤ 17 ∧ mm = 17 - r ∧ Ext s21 s' ∧ WFs s', 17, ⟨0, rfl, by omega, rfl, e25.trans e33, w33⟩, ?_⟩
      rintro m38 n39 s40 ⟨r, hr, hr17, rfl, e40, w40⟩
      simp only [List.cons.injEq, AV.int.injEq, true_and, and_true] at hr
      subst hr
      refine bsplit.dec (fun hlt => ?_) (fun hge => kn _)
      refine ⟨fun _ _ _ _ => True, fun _ _ x => x = .agg ((ofV has n o (r : Int)).map (.int .u64)), fun _ _ _ _ _ _ _ => trivial, fun s41 e41 w41 _ => ?_, ⟨_, rfl⟩, ?_⟩
      · refine (Of_ok (M.ext (e40.trans e41)) _).mono ?_
        rintro x s43 ⟨rfl, e43⟩
        exact ⟨_, rfl, e43, trivial, rfl⟩
      · rintro x rfl
        refine ⟨_, rfl, _, _, aix17 (by omega), _, (oh.ext e40).at.rdc (by simp [loc_len]; omega), fun s50 e50 w50 _ => ?_⟩
        have hrow : (((loc n o has).map (AV.int .u64)).drop (0 + (r : Int).toNat * 16)).take 16 = (ofV has n o r).map (.int .u64) := by
          rw [← List.map_drop, ← List.map_take, show 0 + (r : Int).toNat * 16 = r * 16 by omega, loc_row M.len hrng.2.1 (by omega)]
        rw [hrow]
        exact ⟨_, vec_eq (ofV_len M.len hrng.2.1) (ofV_len M.len hrng.2.1), bsplit.no (by simp) ⟨17 - (r + 1), by omega, r + 1, by rw [wadd1 (by omega)], by omega, rfl, e40.trans e50, w50⟩⟩
  · rintro m58 n59 s60 ⟨k, v, hk, hk16, rfl, hv, h1, hle, e60, w60, o60⟩
    simp only [List.cons.injEq, AV.int.injEq, true_and, and_true] at hk
    subst hk
    refine bsplit.dec (fun hlt => bsplit.dec (fun hn1 => ?_) (fun hn1 => ⟨e60, w60, v, o60, hv, h1, fun h => by omega⟩)) (fun hge => ⟨e60, w60, v, o60, hv, h1, fun _ j hj => hle j (by omega)⟩)
    have h16 : k < 16 := by omega
    refine ⟨fun mm vs s' => ∃ (j : Nat) (f : Bool) (v' : List Int), vs = [.bool f, .int .i64 ((j : Int) + 1)] ∧ (j : Int) ≤ n ∧ mm = n.toNat - j ∧ v'.length = 16 ∧ (∀ q, q < k → Least (colTo has o q n.toNat) (v'.getD q 0)) ∧ (f = true → colTo has o k j = []) ∧ (f = false → Least (colTo has o k j) (v'.getD k 0)) ∧ Ext s21 s' ∧ WFs s' ∧ Own s' l22 (v'.map (.int .u64)), n.toNat, ⟨0, true, v, rfl, by omega, rfl, hv, hle, fun _ => rfl, (fun h => by cases h), e60, w60, o60⟩, ?_⟩
    rintro m63 b64 n65 s66 ⟨j, f, v', hj, hjn, rfl, hv', hle', hft, hff, e66, w66, o66⟩
    simp only [List.cons.injEq, AV.int.injEq, AV.bool.injEq, true_and, and_true] at hj
    obtain ⟨rfl, rfl⟩ := hj
    have oh66 := oh.ext e66
    refine bsplit.dec (fun hle2 => ?_) (fun hgt => ?_)
    · have hrow : (j : Int) + 1 ≠ o → rd1 s66 lh (0 + ((j : Int) + 1).toNat * 16 + (k : Int).toNat * 1) = some (.int .u64 (hg has ((j : Int) + 1) k)) := fun hne => by
        rw [show 0 + ((j : Int) + 1).toNat * 16 + (k : Int).toNat * 1 = (j + 1) * 16 + k by omega, rd_ints oh66 (by rw [loc_len]; omega), loc_at (by omega) h16, if_pos ⟨by omega, by omega, by omega⟩]
        rfl
      have hrd : rd1 s66 l22 (0 + (k : Int).toNat * 1) = some (.int .u64 (v'.getD k 0)) := by
        rw [show 0 + (k : Int).toNat * 1 = k by omega, rd_ints o66 (by omega)]
      have hsucc := colTo_succ has o k j
      refine ⟨fun vs s' => s' = s66 ∧ ∃ b, vs = [.bool b] ∧ (b = true ↔ (j : Int) + 1 ≠ o ∧ (b64 = true ∨ hg has ((j : Int) + 1) k < v'.getD k 0)), ?_, bsplit.mk (fun hne => ?_) (fun heq => ⟨rfl, false, rfl, ?_⟩)⟩
      · rintro b68 s69 ⟨rfl, b', hb, hiff⟩
        simp only [List.cons.injEq, AV.bool.injEq, and_true] at hb
        subst hb
        refine bsplit.mk (fun hb => ?_) (fun hb => ?_)
        · obtain ⟨hne, hor⟩ := hiff.1 hb
          rw [if_pos hne] at hsucc
          refine ⟨_, _, aix17 (by omega), _, _, vix (by omega), _, hrow hne, _, _, vix (by omega), StQ.own w66 o66 (by simp [hv']; omega) fun s77 P => ⟨n.toNat - (j + 1), by omega, j + 1, false, v'.set k (hg has ((j : Int) + 1) k), by rw [wrap_i' (by omega)]; rfl, by omega, rfl, by simpa using hv', fun q hq => ?_, (fun h => by cases h), fun _ => ?_, Ext.wr e66 F23.no P.mut, P.wf, ?_⟩⟩
          · rw [getD_set (by omega), if_neg (by omega)]; exact hle' q hq
          · rw [getD_set (by omega), if_pos rfl, hsucc]
            refine ⟨by simp, fun y hy => ?_⟩
            rcases List.mem_append.1 hy with hy | hy
            · cases hbb : b64 with
              | true => rw [hft hbb] at hy; cases hy
              | false =>
                have h2 := (hff hbb).2 y hy
                rcases hor with h | h
                · rw [hbb] at h; cases h
                · omega
            · obtain rfl := List.mem_singleton.1 hy; exact Int.le_refl _
          · have := P.at
            rw [wrs_one, show 0 + (k : Int).toNat * 1 = k by omega, vset] at this
            exact this
        · refine ⟨n.toNat - (j + 1), by omega, j + 1, b64, v', by rw [wrap_i' (by omega)]; rfl, by omega, rfl, hv', hle', fun hbb => ?_, fun hbb => ?_, e66, w66, o66⟩
          · by_cases hne : (j : Int) + 1 ≠ o
            · exact absurd (hiff.2 ⟨hne, .inl hbb⟩) (by simp [hb])
            · rw [hsucc, if_neg hne, List.append_nil]; exact hft hbb
          · have h0 := hff hbb
            by_cases hne : (j : Int) + 1 ≠ o
            · rw [hsucc, if_pos hne]
              have hge : ¬ hg has ((j : Int) + 1) k < v'.getD k 0 := fun h => absurd (hiff.2 ⟨hne, .inr h⟩) (by simp [hb])
              refine ⟨List.mem_append.2 (.inl h0.1), fun y hy => ?_⟩
              rcases List.mem_append.1 hy with hy | hy
              · exact h0.2 y hy
              · obtain rfl := List.mem_singleton.1 hy; omega
            · rw [hsucc, if_neg hne, List.append_nil]; exact h0
      · have hne' : (j : Int) + 1 ≠ o := by simpa using hne
        refine bsplit.mk (fun hb => ⟨rfl, true, rfl, ?_⟩) (fun hb => ⟨_, _, aix17 (by omega), _, _, vix (by omega), _, hrow hne', _, _, vix (by omega), _, hrd, rfl, _, rfl, ?_⟩)
        · simp only [true_iff]; exact ⟨hne', .inl hb⟩
        · rw [decide_eq_true_eq, hb]
          exact ⟨fun h => ⟨hne', .inr h⟩, fun h => h.2.resolve_left (by simp)⟩
      · have heq' : (j : Int) + 1 = o := by simpa using heq
        constructor
        · intro h; cases h
        · intro h; exact absurd heq' h.1
    · have hjn' : j = n.toNat := by omega
      have hf : b64 = false := by
        cases hbb : b64 with
        | false => rfl
        | true => exact absurd (hft hbb) (by rw [hjn']; exact colTo_ne (by omega))
      refine ⟨16 - (k + 1), by omega, k + 1, v', by rw [wadd1 (by omega)], by omega, rfl, hv', fun h => by omega, fun q hq => ?_, e66, w66, o66⟩
      rcases Nat.lt_or_ge q k with h | h
      · exact hle' q h
      · obtain rfl : q = k := by omega
        rw [← hjn']; exact hff hf

set_option maxRecDepth 100000 in
theorem stablePlays_lifted (os : Os) (started : os.Started) (H : Type) (enc : TypeId × Value → H) :
    ReturnsInHanded {} Try.checked os F_law14iStablePlays .any (Rows.stablePlaysSpec.pre6 enc Try.prog Try.f10 Rows.stablePlaysRow.domain false) (Rows.stablePlaysSpec.post enc Try.prog Try.f10 false true false false) := by
  refine law_open (C := Try.checked) (rt := 4) own started (by kernel_rfl) Try.func10
    (ChangeSpec.witness6 (enc := enc) (C := Try.checked) false ⟨#[], #[.int .i64 0, .int .i64 0, .slice none 0 0, .slice none 0 0], []⟩ 8 (by kernel_rfl) (by kernel_rfl) (by kernel_rfl) (by kernel_rfl)) (by kernel_rfl) rfl (by kernel_rfl) Try.underlying4 laid (by kernel_rfl) ?_ ?_
  · intro ds hds
    rw [Try.params10] at hds
    match ds, hds with
    | [d1, d2, d3, d4], _ => rfl
  · intro W base args hlen hargs
    rw [Try.params10] at hlen hargs
    match args, hlen with
    | [a, b, c, d], _ =>
      obtain ⟨n, hn, _⟩ := int_arg (hT.und _ _ u_int) flat_int (hargs 0 _ a rfl rfl).1 (hargs 0 _ a rfl rfl).2
      obtain ⟨o, ho, _⟩ := int_arg (hT.und _ _ u_int) flat_int (hargs 1 _ b rfl rfl).1 (hargs 1 _ b rfl rfl).2
      obtain ⟨l, hl, hnn, hll⟩ := acts_arg (hargs 2 _ c rfl rfl).1 (hargs 2 _ c rfl rfl).2
      obtain ⟨ld, hd, _⟩ := dots_arg (hargs 3 _ d rfl rfl).1 (hargs 3 _ d rfl rfl).2
      simp only [List.map_cons, List.map_nil, hn, ho]
      exact stablePlays_ok hl hll hnn hd

theorem stablePlays_holds : Rows.StablePlaysSaid :=
  OpenClaim.holds_of_wide 10 Try.f10 rfl rfl rfl rfl rfl rfl rfl ⟨rfl, rfl, rfl, rfl, rfl⟩ rfl rfl rfl rfl rfl (by kernel_rfl) Try.func10 (by kernel_rfl)
    (of_decide_eq_true (by kernel_rfl)) (by unfold Func.isWrapper; rw [if_neg (by decide +kernel)]; exact ⟨rfl, rfl⟩)
    (fun os started H enc _ => stablePlays_lifted os started H enc)
end Go.Proofs.Ytbfchlimonimkaa
