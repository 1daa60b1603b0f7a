/-
  The law CtxOf: which vectors and exceptions are a context.
-/
import Derived.Test.YtbfchlimonimkaaOf3
set_option linter.unusedSimpArgs false
set_option linter.unusedVariables false
namespace Go.Proofs.Ytbfchlimonimkaa
open Go.Am Go.Minster Go.ChangeShapes Go.WideShapes Go.ChangeAt Go.RowKit

theorem absV_ne (n M : Nat) (v : Value) : absV n M v ≠ .emp := by
  unfold absV
  repeat' split
  all_goals intro h; cases h
theorem dots_one {s : AS} {v : AV} {l : List Dot} (h : Dots s v l) (hv : v ≠ .emp) : v ≠ .emp ∧ v.one = true := by
  rcases h with ⟨rfl, _⟩ | ⟨a, c, e, rfl, _⟩
  · exact absurd rfl hv
  · exact ⟨hv, rfl⟩
theorem ints_in : ∀ (n : Nat) (cs : List AV), cellsOk (List.replicate n (.int .u64)) cs → ∃ vs : List Int, cs = vs.map (.int .u64) ∧ vs.length = n ∧ ∀ x ∈ vs, 0 ≤ x ∧ x ≤ 18446744073709551615
  | 0, cs, h => by
    obtain rfl := cellsOk.nil h
    exact ⟨[], rfl, rfl, by simp⟩
  | n + 1, cs, h => by
    obtain ⟨a, c1, rfl, ⟨r, rfl, h1, h2⟩, g⟩ := cellsOk.cons h
    obtain ⟨vs, rfl, h3, h4⟩ := ints_in n c1 g
    rw [min_u64] at h1
    rw [max_u64] at h2
    refine ⟨r :: vs, rfl, by simp [h3], fun x hx => ?_⟩
    rcases List.mem_cons.1 hx with rfl | hx
    · exact ⟨h1, h2⟩
    · exact h4 x hx
theorem flat_Vector : flatT Try.prog 5 Y_Vector = some (List.replicate 16 (.int .u64)) := by kernel_rfl
theorem vec_arg {H : Type} {enc : TypeId × Value → H} {W : World} {v : Value} (h : ∃ (d : DataW H) (p : List MemPlace), DataW.Trod enc Try.prog W 0 (fun _ => true) true Y_Vector v d p) :
    ∃ vs : List Int, VIn vs ∧ absV W.heap.size (MW W) v = .agg (vs.map (.int .u64)) := by
  obtain ⟨d, p, fuel, h⟩ := h
  have hc := flat_open 5 Y_Vector _ fuel v.cells.toList _ W.heap.size (MW W) flat_Vector h
  obtain ⟨vs, h1, h2, h3⟩ := ints_in 16 _ hc
  refine ⟨vs, ⟨h2, h3⟩, ?_⟩
  have hl := congrArg List.length h1
  simp only [List.length_map, h2] at hl
  cases v with
  | agg l =>
    obtain ⟨l⟩ := l
    simp only [absV, absVs_map]
    exact congrArg AV.agg h1
  | _ => simp [Value.cells] at hl

theorem Extra_dots {s s' : AS} {r : AV} {ex : List Dot} (g : GroN dotC 2 [] s s' r ex) : Ext s s' ∧ Dots s' r ex := ⟨g.chg.ext, g.sl dotC_len⟩

theorem ix0 {lo n : Nat} (hn : 0 < n) : aindexAddr T Y_s_Dot (.slc (some (lo, 0)) n n false) (.int .i64 0) = some (.ptr (some (lo, 0))) := by
  have : (0 : Int) ≤ 0 ∧ (0 : Int) < (n : Int) := by omega
  simp only [aindexAddr, u_s_Dot, z_Dot, Option.bind_some]
  rw [if_pos this]
  simp

theorem ctxOf_ok {s : AS} {a b : AV} {v : List Int} {la lb : List Dot} (hv : VIn v) (ha : Dots s a la) (hane : a ≠ .emp) (hb : Dots s b lb) : ACalls Try.prog F_law04iCtxOf [.agg (v.map (.int .u64)), a, b] s fun r s' => r = .bool true := by
  have hlen := hv.len
  refine ACalls.pre fun hw => q_law04iCtxOf _ _ _ _ _ ⟨ints_one _ _, NewQ.intro hw rfl fun l1 s2 F => ?_⟩
  refine ⟨fun vs s' => s' = s2 ∧ ∃ t, vs = [.bool t] ∧ (t = false → la.length ≤ 100 ∧ lb.length ≤ 100), ?_, _, ha.lenB u_s_Dot _, bsplit.dec (fun h => ⟨rfl, _, rfl, by simp⟩) (fun h => ⟨_, hb.lenB u_s_Dot _, rfl, _, rfl, fun h2 => by simp at h2; omega⟩)⟩
  rintro t s5 ⟨rfl, t', ht, hsmall⟩
  simp only [List.cons.injEq, AV.bool.injEq, and_true] at ht
  subst ht
  refine bsplit.mk (fun hb => ?_) (fun hf => ?_)
  · refine (known_ok _).mono ?_
    rintro r s' ⟨rfl, rfl⟩
    exact ⟨_, rfl, rfl⟩
  obtain ⟨hla, hlb⟩ := hsmall hf
  refine GroN.appendS sl_s_Dot dotC_len dotC_one F.wf GroN.nil (M := []) (by simp) (ha.ext F.ext) (by simp; omega) u_s_Dot fun v9 s10 g10 hw10 _ => ?_
  rw [List.nil_append] at g10
  obtain ⟨e10, d10⟩ := Extra_dots g10
  have E10 := F.ext.trans e10
  refine ⟨_, (F.own.ext e10).at.rdc (by simp [hlen]), ?_⟩
  rw [List.drop_zero, List.take_of_length_le (by simp [hlen])]
  refine ACalls.use (ctx_Of_ok hv d10 (by omega)) ?_
  rintro r s13 ⟨e13, h13⟩ hw13
  have E13 := E10.trans e13
  -- behind the comparisons
  have tail : ∀ s22, Ext s s22 → WFs s22 → ACalls Try.prog F_law04iof [b] s22 fun v23 s24 => ∃ p25 : Option (Nat × Nat), ∃ p26 : Option (Nat × Nat), v23 = .tup [(.ptr p25), (.ptr p26)] ∧ (ACalls Try.prog F_ctx_Ctx_Vector [(.ptr p25)] s24 fun v27 s28 => ∃ g29 : List AV, v27 = .agg g29 ∧ (ACalls Try.prog F_ctx_Ctx_Extra [(.ptr p25)] s28 fun v30 s31 => ACalls Try.prog F_ctx_Of [(.agg g29), v30] s31 fun v32 s33 => ∃ p34 : Option (Nat × Nat), ∃ n35 : Int, v32 = .tup [(.ptr p34), (.int .i64 n35)] ∧ (bsplit ((n35 : Int) == 0) (ACalls Try.prog F_ctx_Ctx_Same [(.ptr p34), (.ptr p25)] s33 fun v36 s37 => ∃ b38 : Bool, v36 = .bool b38 ∧ (bsplit b38 (ACalls Try.prog F_ctx_Ctx_Same [(.ptr p25), (.ptr p34)] s37 fun v39 s40 => ∃ b41 : Bool, v39 = .bool b41 ∧ (bsplit b41 (ACalls Try.prog F_law04iknown [] s40 fun v42 s43 => ∃ b44 : Bool, v42 = .bool b44 ∧ (AV.bool b44 = .bool true)) (AV.bool false = .bool true))) (AV.bool false = .bool true))) (AV.bool false = .bool true)))) := by
    intro s22 e22 hw22
    refine ACalls.use (law_of_ok (hb.ext e22) (by omega)) ?_
    rintro r s24 ⟨p, q, w, ex, rfl, hp, hq, ok, gap, hx, e24, c24, _⟩ hw24
    refine ⟨_, _, rfl, ?_⟩
    refine ACalls.use (ctx_Vector_ok c24) ?_
    rintro r s28 ⟨rfl, e28⟩ hw28
    refine ⟨_, rfl, ?_⟩
    refine ACalls.use (ctx_Extra_ok (c24.ext e28) (by omega)) ?_
    rintro r s31 g31 hw31
    obtain ⟨e31, d31⟩ := Extra_dots g31
    have c31 := (c24.ext e28).ext e31
    refine ACalls.use (ctx_Of_ok ⟨ok.v.len, fun x hx => ⟨(ok.v.rng x hx).1, Int.le_trans (ok.v.rng x hx).2 (by decide)⟩⟩ d31 (by omega)) ?_
    rintro r s33 ⟨e33, h33⟩ hw33
    rcases h33 with ⟨hno, _⟩ | ⟨_, p', hp', rfl, c33, _⟩
    · exact absurd (ofOk ok gap) hno
    refine ⟨_, _, rfl, bsplit.yes rfl ?_⟩
    refine ACalls.use (Same_ok c33 (c31.ext e33) (by omega)) ?_
    rintro r s37 ⟨rfl, rfl⟩ hw37
    refine ⟨_, rfl, bsplit.yes (by simp) ?_⟩
    refine ACalls.use (Same_ok (c31.ext e33) c33 (by omega)) ?_
    rintro r s40 ⟨rfl, rfl⟩ hw40
    refine ⟨_, rfl, bsplit.yes (by simp) ?_⟩
    refine (known_ok _).mono ?_
    rintro r s' ⟨rfl, rfl⟩
    exact ⟨_, rfl, rfl⟩
  rcases h13 with ⟨hno, rfl⟩ | ⟨ok, p, hp, rfl, c13⟩
  · refine ⟨_, _, rfl, _, ((F.own.ext e10).ext e13).at.rdc (by simp [hlen]), ?_⟩
    rw [List.drop_zero, List.take_of_length_le (by simp [hlen])]
    refine ACalls.use (ref_Of_ok hv (ha.ext E13) (dots_one ha hane) (by omega)) ?_
    rintro r s18 ⟨e18, h18⟩ hw18
    rcases h18 with ⟨_, rfl⟩ | ⟨hyes, _⟩
    · refine ⟨_, _, rfl, fun vs s' => Ext s s' ∧ WFs s', fun s22 h => tail s22 h.1 h.2, ?_⟩
      refine bsplit.yes rfl (bsplit.no rfl ⟨true, by kernel_rfl, bsplit.no rfl ⟨E13.trans e18, hw18⟩⟩)
    · exact absurd hyes hno
  · refine ⟨_, _, rfl, _, ((F.own.ext e10).ext e13).at.rdc (by simp [hlen]), ?_⟩
    rw [List.drop_zero, List.take_of_length_le (by simp [hlen])]
    refine ACalls.use (ref_Of_ok hv (ha.ext E13) (dots_one ha hane) (by omega)) ?_
    rintro r s18 ⟨e18, h18⟩ hw18
    rcases h18 with ⟨hno, _⟩ | ⟨_, q, hq, rfl, o18⟩
    · exact absurd ok hno
    have E18 := E13.trans e18
    have r18 : RefAt s18 q v la := ⟨hlen, a, o18, (dots_one ha hane).2, hane, ha.ext E18⟩
    refine ⟨_, _, rfl, fun vs s' => Ext s s' ∧ WFs s', fun s22 h => tail s22 h.1 h.2, ?_⟩
    refine bsplit.no rfl (bsplit.no rfl ?_)
    refine ACalls.use (same_ok (c13.1.ext e18) r18 (by omega)) ?_
    rintro r s47 ⟨rfl, e47⟩ hw47
    have E47 := E18.trans e47
    refine ⟨_, rfl, bsplit.no (by simp) ⟨_, d10.lenB u_s_Dot _, bsplit.dec (fun hpos => ?_) (fun _ => ⟨E47, hw47⟩)⟩⟩
    have hpos' : 0 < la.length := by omega
    rcases g10.gro with ⟨hnil, _⟩ | ⟨lo, hv9, hlo⟩
    · rw [hnil] at hpos'; simp at hpos'
    subst hv9
    have hlo2 : s5.h lo = none := g10.new lo (by simp [labOf])
    have hlo0 : s.h lo = none := F.ext.none hlo2
    have hlo10 : s10.h lo ≠ none := by rw [hlo]; simp
    have hlo47 := e47.1 _ _ (e18.1 _ _ (e13.1 _ _ hlo))
    obtain ⟨x, xs, hxs⟩ : ∃ x xs, la = x :: xs := by
      cases la with
      | nil => simp at hpos'
      | cons x xs => exact ⟨x, xs, rfl⟩
    have hat : At s47 lo (la.flatMap dotC) := ⟨_, _, hlo47⟩
    refine ⟨_, _, ix0 hpos', _, by rw [hat.rd1, hxs]; rfl, _, _, ix0 hpos', StQ.awr hw47 hlo47 (by rw [hxs]; simp [dotC]) fun s55 P => ?_⟩
    have m55 := P.mut
    have E55 := Ext.wr E47 hlo0 m55
    have c55 := c13.2 lo s55 hlo10 (((e18.trans e47).mut).trans m55)
    have r55 : RefAt s55 q v la := ⟨hlen, a, (o18.ext e47).mut m55 (by
      simp only [List.mem_singleton]
      rintro rfl
      exact hlo10 (e13.none hq)), (dots_one ha hane).2, hane, ha.ext E55⟩
    refine ACalls.use (same_ok c55 r55 (by omega)) ?_
    rintro r s57 ⟨rfl, e57⟩ hw57
    exact ⟨_, rfl, bsplit.no (by simp) ⟨E55.trans e57, hw57⟩⟩

set_option maxRecDepth 100000 in
theorem ctxOf_lifted (os : Os) (started : os.Started) (H : Type) (enc : TypeId × Value → H) :
    ReturnsInHanded {} Try.checked os F_law04iCtxOf .any (Rows.ctxOfSpec.pre6 enc Try.prog Try.f4 Rows.ctxOfRow.domain false) (Rows.ctxOfSpec.post enc Try.prog Try.f4 false true false false) := by
  refine law_open (C := Try.checked) (rt := 4) own started (by kernel_rfl) Try.func4
    (ChangeSpec.witness6 (enc := enc) (C := Try.checked) false ⟨#[], #[.agg #[.int .u64 0, .int .u64 0, .int .u64 0, .int .u64 0, .int .u64 0, .int .u64 0, .int .u64 0, .int .u64 0, .int .u64 0, .int .u64 0, .int .u64 0, .int .u64 0, .int .u64 0, .int .u64 0, .int .u64 0, .int .u64 0], .slice none 0 0, .slice none 0 0], []⟩ 8 (by kernel_rfl) (by kernel_rfl) (by kernel_rfl) (by kernel_rfl)) (by kernel_rfl) rfl (by kernel_rfl) Try.underlying4 laid (by kernel_rfl) ?_ ?_
  · intro ds hds
    rw [Try.params4] at hds
    match ds, hds with
    | [d1, d2, d3], _ => rfl
  · intro W base args hlen hargs
    rw [Try.params4] at hlen hargs
    match args, hlen with
    | [v, a, b], _ =>
      obtain ⟨vs, hv, hve⟩ := vec_arg (hargs 0 _ v rfl rfl).2
      obtain ⟨la, ha, _⟩ := dots_arg (hargs 1 _ a rfl rfl).1 (hargs 1 _ a rfl rfl).2
      obtain ⟨lb, hb, _⟩ := dots_arg (hargs 2 _ b rfl rfl).1 (hargs 2 _ b rfl rfl).2
      simp only [List.map_cons, List.map_nil, hve]
      exact ctxOf_ok hv ha (absV_ne _ _ _) hb

theorem ctxOf_holds : Rows.CtxOfSaid :=
  OpenClaim.holds_of_wide 4 Try.f4 rfl rfl rfl rfl rfl rfl rfl ⟨rfl, rfl, rfl, rfl, rfl⟩ rfl rfl rfl rfl rfl (by kernel_rfl) Try.func4 (by kernel_rfl)
    (of_decide_eq_true (by kernel_rfl)) (by unfold Func.isWrapper; rw [if_neg (by decide +kernel)]; exact ⟨rfl, rfl⟩)
    (fun os started H enc _ => ctxOf_lifted os started H enc)
end Go.Proofs.Ytbfchlimonimkaa
