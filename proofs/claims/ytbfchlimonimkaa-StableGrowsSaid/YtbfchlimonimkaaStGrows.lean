/-
  The law StableGrows: what is known grows only, in whatever order it comes; copies go on apart.
-/
import Derived.Test.YtbfchlimonimkaaP5
set_option linter.unusedSimpArgs false
set_option linter.unusedVariables false
namespace Go.Proofs.Ytbfchlimonimkaa
open Go.Am Go.Minster Go.ChangeShapes Go.WideShapes Go.ChangeAt Go.RowKit

theorem Ext.wrs {s s1 s2 : AS} {L : List Nat} (e : Ext s s1) (hp : ∀ x ∈ L, s.h x = none) (m : Mut L s1 s2) : Ext s s2 :=
  ⟨fun x o h => m.1 x o (fun hx => by rw [hp x hx] at h; cases h) (e.1 x o h), Nat.le_trans e.2 m.2⟩
theorem two {P : Nat → Prop} {a b : Nat} (ha : P a) (hb : P b) : ∀ x ∈ [a, b], P x := by
  intro x hx
  simp only [List.mem_cons, List.not_mem_nil, or_false] at hx
  rcases hx with rfl | rfl
  · exact ha
  · exact hb
/-- a region's row, as it is told -/
def ofV (has : List Int) (n o r : Int) : List Int := if 1 ≤ r ∧ r ≤ n ∧ r ≠ o then hrow has r else zeros
theorem ofV_len {has : List Int} {n o r : Int} (h : has.length = 256) (hn : n ≤ 16) : (ofV has n o r).length = 16 := by
  unfold ofV
  split
  · exact hrow_len h (by omega)
  · rfl
theorem ofV_get {has : List Int} {n o r : Int} {k : Nat} (hk : k < 16) : (ofV has n o r).getD k 0 = if 1 ≤ r ∧ r ≤ n ∧ r ≠ o then hg has r k else 0 := by
  unfold ofV
  split
  · exact hrow_get hk
  · simp only [zeros, List.getD_eq_getElem?_getD, List.getElem?_replicate]
    split <;> rfl
theorem IsAll.congr {has has' : List Int} {n o : Int} {v : List Int} (h : IsAll has n o v) (hn : n ≤ 16) (he : ∀ r : Int, 1 ≤ r → r ≤ 16 → ∀ k, k < 16 → hg has r k = hg has' r k) : IsAll has' n o v := by
  refine ⟨h.1, h.2.1, fun hn1 k hk => ?_⟩
  have := h.2.2 hn1 k hk
  have e : colTo has o k n.toNat = colTo has' o k n.toNat := by
    unfold colTo
    refine List.map_congr_left fun r hr => ?_
    obtain ⟨hr, _⟩ := List.mem_filter.1 hr
    obtain ⟨i, hi, rfl⟩ := List.mem_map.1 hr
    have := List.mem_range.1 hi
    exact he _ (by omega) (by omega) k hk
  rw [← e]; exact this

theorem rd_vec {s : AS} {l : Nat} {v : List Int} (h : Own s l (v.map (.int .u64))) (hv : v.length = 16) {k : Nat} (hk : k < 16) : rd1 s l (0 + (k : Int).toNat * 1) = some (.int .u64 (v.getD k 0)) := by
  rw [h.at.rd1, show 0 + (k : Int).toNat * 1 = k by omega, List.getElem?_map, List.getElem?_eq_getElem (by omega)]
  simp [List.getD_eq_getElem?_getD, List.getElem?_eq_getElem (show k < v.length by omega)]

theorem stableGrows_ok {s : AS} {n : Int} {a b d : AV} {l : List A14} {lb : List Int} {ld : List Dot} (ha : Acts s a l) (hal : l.length ≤ 9223372036854775807) (hnn : ∀ x ∈ l, ∀ k, 0 ≤ x.v k) (hb : Ints s b lb) (hd : Dots s d ld) : ACalls Try.prog F_law14iStableGrows [.int .i64 n, a, b, d] s fun r s' => r = .bool true := by
  have kn : ∀ s', ACalls Try.prog F_law14iknown [] s' fun v s5 => ∃ b : Bool, v = .bool b ∧ (AV.bool b = .bool true) := by
    intro s'
    refine (known14_ok _).mono ?_
    rintro r s' ⟨rfl, rfl⟩
    exact ⟨_, rfl, rfl⟩
  refine ACalls.pre fun hw => q_law14iStableGrows _ _ _ _ _ _ ⟨fun vs s' => s' = s ∧ ∃ t, vs = [.bool t] ∧ (t = false → Few l ∧ lb.length ≤ 80 ∧ ld.length ≤ 40), ?_, ?_⟩
  rotate_left
  · refine ACalls.use (few_ok ha hal hw) ?_
    rintro r s159 ⟨rfl, t, rfl, ht⟩ _
    exact ⟨_, rfl, bsplit.mk (fun h => ⟨rfl, _, rfl, by simp⟩) (fun h => ⟨_, hb.lenB u_s_int _, bsplit.dec (fun h => ⟨rfl, _, rfl, by simp⟩) (fun h2 => ⟨_, hd.lenB u_s_Dot _, rfl, _, rfl, fun h3 => ⟨ht.1 (by simpa using h), by omega, by simp at h3; omega⟩⟩)⟩)⟩
  rintro t s3 ⟨rfl, t', ht, hcond⟩
  simp only [List.cons.injEq, AV.bool.injEq, and_true] at ht
  subst ht
  refine bsplit.mk (fun _ => kn _) (fun hf => ?_)
  obtain ⟨hfew, hlb, hld⟩ := hcond hf
  have hfl := hfew.1
  refine ACalls.use (New_ok _ _ _) ?_
  rintro r s8 ⟨e8, h8⟩ w8
  rcases h8 with ⟨hbad, rfl⟩ | ⟨hrng, pa, ma, rfl, hpa, hma, Ma⟩
  · refine ⟨_, _, rfl, ?_⟩
    refine ACalls.use (New_ok _ _ _) ?_
    rintro r s12 ⟨e12, h12⟩ w12
    rcases h12 with ⟨_, rfl⟩ | ⟨h, _⟩
    · refine ⟨_, _, rfl, fun vs s' => vs = [.bool true], ?_, bsplit.yes rfl rfl⟩
      intro b s17 hb
      simp only [List.cons.injEq, AV.bool.injEq, and_true] at hb
      subst hb
      exact bsplit.yes rfl (bsplit.yes rfl (kn _))
    · exact absurd h hbad
  refine ⟨_, _, rfl, ?_⟩
  refine ACalls.use (New_ok _ _ _) ?_
  rintro r s12 ⟨e12, h12⟩ w12
  obtain ⟨pb, mb, rfl, hpb, hmb, Mb⟩ : ∃ pb mb, r = .tup [.ptr (some (pb, 0)), .int .i64 0] ∧ s8.h pb = none ∧ s8.h mb = none ∧ MatF [] s12 pb mb n 1 (fun _ => none) zeros256 := by
    rcases h12 with ⟨h, _⟩ | ⟨_, h⟩
    · exact absurd hrng h
    · exact h
  refine ⟨_, _, rfl, fun vs s' => s' = s12 ∧ vs = [.bool false], ?_, bsplit.no rfl ⟨rfl, rfl⟩⟩
  rintro b s17 ⟨rfl, hb⟩
  simp only [List.cons.injEq, AV.bool.injEq, and_true] at hb
  subst hb
  refine bsplit.no rfl ?_
  have E17 := e8.trans e12
  have Ma17 := Ma.ext e12
  have hpb0 := e8.none hpb
  have hmb0 := e8.none hmb
  have hne : pa ≠ pb ∧ pa ≠ mb ∧ ma ≠ pb ∧ ma ≠ mb := by
    refine ⟨?_, ?_, ?_, ?_⟩ <;> rintro rfl
    · exact Ma.pthere hpb
    · exact Ma.pthere hmb
    · exact Ma.mthere hpb
    · exact Ma.mthere hmb
  -- the first matrix plays
  let I1 : Nat → AS → Prop := fun i s' => Ext s3 s' ∧ WFs s' ∧ MatF [] s' pb mb n 1 (fun _ => none) zeros256 ∧ ∃ F told has, MatF F s' pa ma n 1 told has ∧ Kn n 1 (l.take i) told has ∧ pb ∉ F ∧ mb ∉ F
  have hI : I1 0 s17 := ⟨E17, w12, Mb, [], _, _, Ma17, Kn.zero, by simp, by simp⟩
  refine ⟨fun vs s' => I1 l.length s', ?_, fun m vs s' => ∃ i : Nat, vs = [.int .i64 (i : Nat)] ∧ i ≤ l.length ∧ m = l.length - i ∧ I1 i s', l.length, ⟨0, rfl, by omega, rfl, hI⟩, ?_⟩
  rotate_left
  · rintro m98 n99 s100 ⟨i, hi, hil, rfl, E100, w100, Mb100, F, told, has, M, K, hpF, hmF⟩
    simp only [List.cons.injEq, AV.int.injEq, true_and, and_true] at hi
    subst hi
    refine ⟨_, ha.sl.lenB u_s_minsterlaw14iAct _, bsplit.dec (fun hlt => ?_) (fun hge => ?_)⟩
    rotate_left
    · obtain rfl : i = l.length := by omega
      exact ⟨E100, w100, Mb100, F, told, has, M, K, hpF, hmF⟩
    obtain ⟨x, hx⟩ := get_lt (l := l) (i := i) (by omega)
    have hxl := List.mem_of_getElem? hx
    obtain ⟨lx, ox, k8, k9⟩ := ha.sl.ix (by decide) actC_len u_s_minsterlaw14iAct z_minsterlaw14iAct hx
    refine ACalls.use (MCopy_ok M) ?_
    rintro r s103 ⟨pw, mw, rfl, hpw, hmw, Mw, e103⟩ w103
    have E103 := E100.trans e103
    refine ⟨_, rfl, lx, ox, k8 _, _, (k9 _ E103).2, ?_⟩
    refine ACalls.use (do_ok (M.ext e103) K hfew (fun y hy => List.mem_of_mem_take hy) hxl ((ha.ok x hxl).ext E103) (hnn x hxl)) ?_
    rintro r s109 ⟨rfl, F', told', has', Dd⟩ w109
    have hpw1 : pw ≠ pa ∧ pw ≠ ma ∧ mw ≠ pa ∧ mw ≠ ma := by
      refine ⟨?_, ?_, ?_, ?_⟩ <;> rintro rfl
      · exact M.pthere hpw
      · exact M.mthere hpw
      · exact M.pthere hmw
      · exact M.mthere hmw
    have Mw9 : MatF F s109 pw mw n 1 told has := Mw.mut Dd.chg (two M.pF M.mF) (by simp [hpw1.1, hpw1.2.1]) (by simp [hpw1.2.2.1, hpw1.2.2.2])
    have E109 : Ext s3 s109 := Ext.wrs E103 (two hpa hma) Dd.chg
    have K' : Kn n 1 (l.take (i + 1)) told' has' := by
      rw [List.take_add_one, hx]; exact Dd.kn
    have hsub : ∀ y ∈ l.take i, y ∈ l.take (i + 1) := fun y hy => by
      rw [List.take_add_one]; simp [hy]
    have hnew : ∀ y, s103.h y ≠ none → y ∉ F → y ∉ F' := fun y h1 h2 hy => by
      rcases Dd.new y hy with h | h
      · exact h2 h
      · exact h1 h
    have Mb103 := Mb100.ext e103
    have Mb109 : MatF [] s109 pb mb n 1 (fun _ => none) zeros256 := Mb103.mut Dd.chg (by simp) (by simp [Ne.symm hne.1, Ne.symm hne.2.2.1]) (by simp [Ne.symm hne.2.1, Ne.symm hne.2.2.2])
    refine ⟨rfl, fun vs s' => Ext s109 s' ∧ WFs s', ?_, fun m vs s' => ∃ k : Nat, vs = [.int .i64 (k : Nat)] ∧ k ≤ ld.length ∧ m = ld.length - k ∧ Ext s109 s' ∧ WFs s', ld.length, ⟨0, rfl, by omega, rfl, Ext.refl _, w109⟩, ?_⟩
    · rintro s111 ⟨e111, w111⟩
      refine ⟨fun m vs s' => ∃ r : Nat, vs = [.int .i64 ((r : Int) + 1)] ∧ r ≤ 16 ∧ m = 16 - r ∧ Ext s109 s' ∧ WFs s', 16, ⟨0, rfl, by omega, rfl, e111, w111⟩, ?_⟩
      rintro m' n115 s116 ⟨r, hr, hr16, rfl, e116, w116⟩
      simp only [List.cons.injEq, AV.int.injEq, true_and, and_true] at hr
      subst hr
      refine bsplit.dec (fun hle => ?_) (fun hgt => ?_)
      · refine ACalls.use (Of_ok (Mw9.ext e116) _) ?_
        rintro v s118 ⟨rfl, e118⟩ w118
        change ∃ g, AV.agg ((ofV has n 1 ((r : Int) + 1)).map (.int .u64)) = .agg g ∧ _
        refine ⟨_, rfl, ?_⟩
        refine ACalls.use (Of_ok (Dd.mat.ext (e116.trans e118)) _) ?_
        rintro v s121 ⟨rfl, e121⟩ w121
        have hva : (ofV has n 1 ((r : Int) + 1)).length = 16 := ofV_len M.len hrng.2.1
        have hvb : (ofV has' n 1 ((r : Int) + 1)).length = 16 := ofV_len Dd.mat.len hrng.2.1
        have hab : ∀ k, k < 16 → (ofV has n 1 ((r : Int) + 1)).getD k 0 ≤ (ofV has' n 1 ((r : Int) + 1)).getD k 0 := by
          intro k hk
          rw [ofV_get hk, ofV_get hk]
          split
          · exact K.hmono K' hsub ⟨by omega, by omega⟩ hk
          · omega
        change ∃ g, AV.agg ((ofV has' n 1 ((r : Int) + 1)).map (.int .u64)) = .agg g ∧ _
        refine ⟨_, rfl, NewQ.intro w121 rfl fun l123 s124 F123 => NewQ.intro F123.wf rfl fun l125 s126 F125 => ⟨⟨ints_one _ _, by simp [hva]⟩, StQ.own F125.wf (F123.own.ext F125.ext) (by simp [hva]) fun s127 P127 => ⟨⟨ints_one _ _, by simp [hvb]⟩, StQ.own P127.wf (F125.own.mut P127.mut (by simpa using (F125.ne F123.own).symm)) (by simp [hvb]) fun s128 P128 => ?_⟩⟩⟩
        have o1 : Own s127 l123 ((ofV has n 1 ((r : Int) + 1)).map (.int .u64)) := by
          have := P127.at
          rwa [wrs_all0 (by simp [hva])] at this
        have o2 : Own s128 l125 ((ofV has' n 1 ((r : Int) + 1)).map (.int .u64)) := by
          have := P128.at
          rwa [wrs_all0 (by simp [hvb])] at this
        have o1' := o1.mut P128.mut (by simpa using F125.ne F123.own)
        have E121 := e116.trans (e118.trans e121)
        have E128 : Ext s109 s128 := Ext.wr (Ext.wr (E121.trans (F123.ext.trans F125.ext)) (E121.none F123.no) P127.mut) ((E121.trans F123.ext).none F125.no) P128.mut
        refine ⟨fun m vs s' => ∃ k : Nat, vs = [.int .i64 (k : Nat)] ∧ k ≤ 16 ∧ m = 16 - k ∧ s' = s128, 16, ⟨0, rfl, by omega, rfl, rfl⟩, ?_⟩
        rintro m131 n132 s133 ⟨k, hk, hk16, rfl, rfl⟩
        simp only [List.cons.injEq, AV.int.injEq, true_and, and_true] at hk
        subst hk
        refine bsplit.dec (fun hlt2 => ?_) (fun hge2 => ⟨16 - (r + 1), by omega, r + 1, by rw [wrap_i' (by omega)]; rfl, by omega, rfl, E128, P128.wf⟩)
        have hab' := hab k (by omega)
        exact ⟨_, _, vix (by omega), _, rd_vec o1' hva (by omega), _, _, vix (by omega), _, rd_vec o2 hvb (by omega), bsplit.dec (fun hgt => by omega) (fun _ => ⟨16 - (k + 1), by omega, k + 1, by rw [wadd1 (by omega)], by omega, rfl, rfl⟩)⟩
      · exact ⟨l.length - (i + 1), by omega, i + 1, by rw [wadd1 (by omega)], by omega, rfl, E109.trans e116, w116, Mb109.ext e116, F', told', has', Dd.mat.ext e116, K', hnew pb Mb103.pthere hpF, hnew mb Mb103.mthere hmF⟩
    · rintro m142 n143 s144 ⟨k, hk, hkl, rfl, e144, w144⟩
      simp only [List.cons.injEq, AV.int.injEq, true_and, and_true] at hk
      subst hk
      refine ⟨_, hd.lenB u_s_Dot _, bsplit.dec (fun hlt2 => ?_) (fun hge2 => ⟨e144, w144⟩)⟩
      obtain ⟨y, hy⟩ := get_lt (l := ld) (i := k) (by omega)
      obtain ⟨ly, oy, j8, j9⟩ := hd.ix (by decide) dotC_len u_s_Dot z_Dot hy
      have cont : ∀ s', Ext s109 s' → WFs s' → ∃ m', m' < ld.length - k ∧ ∃ j : Nat, [AV.int .i64 (IntKind.wrap .i64 ((k : Int) + 1))] = [.int .i64 (j : Nat)] ∧ j ≤ ld.length ∧ m' = ld.length - j ∧ Ext s109 s' ∧ WFs s' :=
        fun s' e w => ⟨ld.length - (k + 1), by omega, k + 1, by rw [wadd1 (by omega)], by omega, rfl, e, w⟩
      refine ⟨ly, oy, j8 _, _, (j9 _ (E109.trans e144)).2, ?_⟩
      refine ACalls.use (Stable_ok (Mw9.ext e144) y) ?_
      rintro v s150 ⟨e150, b1, rfl, hb1⟩ w150
      refine ⟨_, rfl, bsplit.mk (fun hb2 => ?_) (fun _ => cont s150 (e144.trans e150) w150)⟩
      refine ⟨ly, oy, j8 _, _, (j9 _ (E109.trans (e144.trans e150))).2, ?_⟩
      refine ACalls.use (Stable_ok (Dd.mat.ext (e144.trans e150)) y) ?_
      rintro v s156 ⟨e156, c1, rfl, hc1⟩ w156
      have hc2 : c1 = true := hc1.2 ⟨(hb1.1 hb2).1, fun r h1 h2 h3 => K.gmono K' hsub ((hb1.1 hb2).2 r h1 h2 h3)⟩
      exact ⟨_, rfl, bsplit.no (by simp [hc2]) (cont s156 ((e144.trans e150).trans e156) w156)⟩
  rintro s22 ⟨E22, w22, Mb22, F, ta, ga, M22, Ka, hpF, hmF⟩
  rw [List.take_length] at Ka
  -- the second one plays
  let I2 : List A14 → AS → Prop := fun D s' => Ext s3 s' ∧ WFs s' ∧ MatF F s' pa ma n 1 ta ga ∧ (∀ x ∈ D, x ∈ l) ∧ ∃ Fb tb gb, MatF Fb s' pb mb n 1 tb gb ∧ Kn n 1 D tb gb ∧ pa ∉ Fb ∧ ma ∉ Fb
  have step : ∀ {D s' x}, I2 D s' → x ∈ l → ACalls Try.prog F_law14iStableGrows_1 [.ptr (some (pb, 0)), .agg (actC x)] s' fun r s'' => r = .tup [] ∧ I2 (D ++ [x]) s'' := by
    rintro D s' x ⟨E, w, M, hD, Fb, tb, gb, MB, KB, h1, h2⟩ hx
    refine ACalls.use (do_ok MB KB hfew hD hx ((ha.ok x hx).ext E) (hnn x hx)) ?_
    rintro r s'' ⟨rfl, F', told', has', Dd⟩ w''
    refine ⟨rfl, Ext.wrs E (two hpb0 hmb0) Dd.chg, w'', M.mut Dd.chg (two hpF hmF) (by simp [hne.1, hne.2.1]) (by simp [hne.2.2.1, hne.2.2.2]), fun y hy => ?_, F', told', has', Dd.mat, Dd.kn, fun hin => ?_, fun hin => ?_⟩
    · rcases List.mem_append.1 hy with hy | hy
      · exact hD y hy
      · obtain rfl := List.mem_singleton.1 hy; exact hx
    · rcases Dd.new _ hin with h | h
      · exact h1 h
      · exact M.pthere h
    · rcases Dd.new _ hin with h | h
      · exact h2 h
      · exact M.mthere h
  have h22 : I2 [] s22 := ⟨E22, w22, M22, by simp, [], _, _, Mb22, Kn.zero, by simp, by simp⟩
  refine ⟨fun vs s' => ∃ D, I2 D s', ?_, fun m vs s' => ∃ i : Nat, vs = [.int .i64 (i : Nat)] ∧ i ≤ lb.length ∧ m = lb.length - i ∧ ∃ D, I2 D s', lb.length, ⟨0, rfl, by omega, rfl, [], h22⟩, ?_⟩
  rotate_left
  · rintro m80 n81 s82 ⟨i, hi, hil, rfl, D, h82⟩
    simp only [List.cons.injEq, AV.int.injEq, true_and, and_true] at hi
    subst hi
    refine ⟨_, hb.lenB u_s_int _, bsplit.dec (fun hlt => ⟨_, ha.sl.lenB u_s_minsterlaw14iAct _, bsplit.dec (fun hpos => ?_) (fun _ => ⟨D, h82⟩)⟩) (fun _ => ⟨D, h82⟩)⟩
    obtain ⟨z, hz⟩ := get_lt (l := lb) (i := i) (by omega)
    obtain ⟨ln, o, h8, h9⟩ := hb.ix (sz := 1) (by decide) (fun _ => rfl) u_s_int z_int hz
    have hgn : rd1 s82 ln o = some (.int .i64 z) := by have := (h9 _ h82.1).1 0 (by decide); simpa using this
    obtain ⟨j, hj, hje⟩ := place (n := z) (k := l.length) (by omega) (by omega)
    refine ⟨ln, o, h8 _, _, hgn, _, ha.sl.lenB u_s_minsterlaw14iAct _, by omega, _, ha.sl.lenB u_s_minsterlaw14iAct _, _, ha.sl.lenB u_s_minsterlaw14iAct _, by omega, ?_⟩
    rw [hje]
    obtain ⟨x, hx⟩ := get_lt (l := l) (i := j) hj
    obtain ⟨lx, o', k8, k9⟩ := ha.sl.ix (by decide) actC_len u_s_minsterlaw14iAct z_minsterlaw14iAct hx
    refine ⟨lx, o', k8 _, _, (k9 _ h82.1).2, ?_⟩
    refine ACalls.use (step h82 (List.mem_of_getElem? hx)) ?_
    rintro r s95 ⟨rfl, h95⟩ w95
    exact ⟨rfl, lb.length - (i + 1), by omega, i + 1, by rw [wadd1 (by omega)], by omega, rfl, _, h95⟩
  rintro s24 ⟨D, h24⟩
  refine ⟨fun vs s' => ∃ D, I2 D s' ∧ ∀ x ∈ l, x ∈ D, ?_, _, ha.sl.lenB u_s_minsterlaw14iAct _, fun m vs s' => ∃ (i : Nat) (D : List A14), vs = [.int .i64 ((i : Int) - 1)] ∧ i ≤ l.length ∧ m = i + 1 ∧ I2 D s' ∧ ∀ (k : Nat) x, i ≤ k → l[k]? = some x → x ∈ D, l.length + 1, ⟨l.length, D, by rw [wrap_i' (by omega)], by omega, rfl, h24, fun k x hk hx => by rw [List.getElem?_eq_none hk] at hx; cases hx⟩, ?_⟩
  rotate_left
  · rintro m70 n71 s72 ⟨i, D, hi, hil, rfl, h72, all⟩
    simp only [List.cons.injEq, AV.int.injEq, true_and, and_true] at hi
    subst hi
    refine bsplit.dec (fun hge => ?_) (fun hlt => ?_)
    · obtain ⟨x, hx⟩ := get_lt (l := l) (i := i - 1) (by omega)
      obtain ⟨lx, o, h8, h9⟩ := ha.sl.ix (by decide) actC_len u_s_minsterlaw14iAct z_minsterlaw14iAct hx
      rw [show (i : Int) - 1 = ((i - 1 : Nat) : Int) by omega]
      refine ⟨lx, o, h8 _, _, (h9 _ h72.1).2, ?_⟩
      refine ACalls.use (step h72 (List.mem_of_getElem? hx)) ?_
      rintro r s77 ⟨rfl, h77⟩ w77
      refine ⟨rfl, i - 1 + 1, by omega, i - 1, _, by rw [wrap_i' (by omega)], by omega, rfl, h77, fun k y hk hy => ?_⟩
      rcases Nat.lt_or_ge k i with h | h
      · obtain rfl : k = i - 1 := by omega
        rw [hx] at hy; obtain rfl := Option.some.inj hy
        simp
      · have := all k y h hy
        simp [this]
    · obtain rfl : i = 0 := by omega
      refine ⟨D, h72, fun x hx => ?_⟩
      obtain ⟨k, hk⟩ := List.mem_iff_getElem?.1 hx
      exact all k x (by omega) hk
  rintro s26 ⟨D', ⟨E26, w26, M26, hD, Fb, tb, gb, MB, KB, _, _⟩, hall⟩
  have hmem : ∀ x, x ∈ l ↔ x ∈ D' := fun x => ⟨hall x, hD x⟩
  have hgone : ∀ r d, gn (ta r) d = gn (tb r) d := fun r d => by
    rw [Bool.eq_iff_iff]
    exact ⟨Ka.gmono KB hall, KB.gmono Ka hD⟩
  refine ⟨fun vs s' => Ext s26 s' ∧ WFs s', ?_, fun m vs s' => ∃ i : Nat, vs = [.int .i64 (i : Nat)] ∧ i ≤ ld.length ∧ m = ld.length - i ∧ Ext s26 s' ∧ WFs s', ld.length, ⟨0, rfl, by omega, rfl, Ext.refl _, w26⟩, ?_⟩
  · rintro s28 ⟨e28, w28⟩
    refine ACalls.use (All_ok (M26.ext e28)) ?_
    rintro r s30 ⟨e30, va, rfl, hva⟩ w30
    refine ⟨_, rfl, ?_⟩
    refine ACalls.use (All_ok (MB.ext (e28.trans e30))) ?_
    rintro r s33 ⟨e33, vb, rfl, hvb⟩ w33
    have heq : va = vb := hva.uniq (hvb.congr hrng.2.1 fun r h1 h2 k hk => (Ka.hsame KB hmem ⟨h1, h2⟩ hk).symm)
    subst heq
    exact ⟨_, rfl, _, vec_eq hva.1 hva.1, bsplit.yes (by simp) (kn _)⟩
  · rintro m41 n42 s43 ⟨i, hi, hil, rfl, e43, w43⟩
    simp only [List.cons.injEq, AV.int.injEq, true_and, and_true] at hi
    subst hi
    refine ⟨_, hd.lenB u_s_Dot _, bsplit.dec (fun hlt => ?_) (fun hge => ⟨e43, w43⟩)⟩
    obtain ⟨y, hy⟩ := get_lt (l := ld) (i := i) (by omega)
    obtain ⟨ly, oy, j8, j9⟩ := hd.ix (by decide) dotC_len u_s_Dot z_Dot hy
    refine ⟨fun m vs s' => ∃ r : Nat, vs = [.int .i64 ((r : Int) + 1)] ∧ r ≤ 16 ∧ m = 16 - r ∧ Ext s26 s' ∧ WFs s', 16, ⟨0, rfl, by omega, rfl, e43, w43⟩, ?_⟩
    rintro m47 n48 s49 ⟨r, hr, hr16, rfl, e49, w49⟩
    simp only [List.cons.injEq, AV.int.injEq, true_and, and_true] at hr
    subst hr
    refine bsplit.dec (fun hle => ?_) (fun hgt => ⟨ld.length - (i + 1), by omega, i + 1, by rw [wadd1 (by omega)], by omega, rfl, e49, w49⟩)
    refine ⟨fun _ _ _ _ => True, fun _ _ v => v = .bool (gn (ta ((r : Int) + 1)) y), fun _ _ _ _ _ _ _ => trivial, ly, oy, j8 _, _, (j9 _ (E26.trans e49)).2, fun s53 e53 w53 _ => ?_, ⟨_, rfl⟩, ?_⟩
    · refine (Gone_ok (M26.ext (e49.trans e53)) _ y).mono ?_
      rintro v s' ⟨rfl, e⟩
      exact ⟨_, rfl, e, trivial, rfl⟩
    · rintro v rfl
      refine ⟨_, rfl, ly, oy, j8 _, _, (j9 _ (E26.trans e49)).2, fun s62 e62 w62 _ => ?_⟩
      refine ACalls.use (Gone_ok (MB.ext (e49.trans e62)) _ y) ?_
      rintro v s65 ⟨rfl, e65⟩ w65
      exact ⟨_, rfl, bsplit.no (by rw [hgone]; simp) ⟨16 - (r + 1), by omega, r + 1, by rw [wrap_i' (by omega)]; rfl, by omega, rfl, (e49.trans e62).trans e65, w65⟩⟩

set_option maxRecDepth 100000 in
theorem stableGrows_lifted (os : Os) (started : os.Started) (H : Type) (enc : TypeId × Value → H) :
    ReturnsInHanded {} Try.checked os F_law14iStableGrows .any (Rows.stableGrowsSpec.pre6 enc Try.prog Try.f11 Rows.stableGrowsRow.domain false) (Rows.stableGrowsSpec.post enc Try.prog Try.f11 false true false false) := by
  refine law_open (C := Try.checked) (rt := 4) own started (by kernel_rfl) Try.func11
    (ChangeSpec.witness6 (enc := enc) (C := Try.checked) false ⟨#[], #[.int .i64 0, .slice none 0 0, .slice none 0 0, .slice none 0 0], []⟩ 8 (by kernel_rfl) (by kernel_rfl) (by kernel_rfl) (by kernel_rfl)) (by kernel_rfl) rfl (by kernel_rfl) Try.underlying4 laid (by kernel_rfl) ?_ ?_
  · intro ds hds
    rw [Try.params11] at hds
    match ds, hds with
    | [d1, d2, d3, d4], _ => rfl
  · intro W base args hlen hargs
    rw [Try.params11] at hlen hargs
    match args, hlen with
    | [a, b, c, d], _ =>
      obtain ⟨n, hn, _⟩ := int_arg (hT.und _ _ u_int) flat_int (hargs 0 _ a rfl rfl).1 (hargs 0 _ a rfl rfl).2
      obtain ⟨l, hl, hnn, hll⟩ := acts_arg (hargs 1 _ b rfl rfl).1 (hargs 1 _ b rfl rfl).2
      obtain ⟨lb, hb, _⟩ := ints_arg (hargs 2 _ c rfl rfl).1 (hargs 2 _ c rfl rfl).2
      obtain ⟨ld, hd, _⟩ := dots_arg (hargs 3 _ d rfl rfl).1 (hargs 3 _ d rfl rfl).2
      simp only [List.map_cons, List.map_nil, hn]
      exact stableGrows_ok hl hll hnn hb hd

theorem stableGrows_holds : Rows.StableGrowsSaid :=
  OpenClaim.holds_of_wide 11 Try.f11 rfl rfl rfl rfl rfl rfl rfl ⟨rfl, rfl, rfl, rfl, rfl⟩ rfl rfl rfl rfl rfl (by kernel_rfl) Try.func11 (by kernel_rfl)
    (of_decide_eq_true (by kernel_rfl)) (by unfold Func.isWrapper; rw [if_neg (by decide +kernel)]; exact ⟨rfl, rfl⟩)
    (fun os started H enc _ => stableGrows_lifted os started H enc)
end Go.Proofs.Ytbfchlimonimkaa
