/-
  The law CtxJoins: contexts joined are what the reference's sets joined are; who covers whom; in either order, again, and of three in any order.
-/
import Derived.Test.YtbfchlimonimkaaP5
set_option linter.unusedSimpArgs false
set_option linter.unusedVariables false
namespace Go.Proofs.Ytbfchlimonimkaa
open Go.Am Go.Minster Go.ChangeShapes Go.WideShapes Go.ChangeAt Go.RowKit

theorem Obs.add2 {s s' : AS} {L : List Ob} (h : Obs s L) (e : Ext s s') {p q : Nat} {v w : List Int} {ex ey : List Dot} (hp : s.h p = none) (hq : s.h q = none) (hc : CtxAt s' p v ex) (hr : RefAt s' q w ey) : Obs s' (⟨false, p, v, ex⟩ :: ⟨true, q, w, ey⟩ :: L) := by
  have h1 := h.add e ⟨true, q, w, ey⟩ hq hr
  refine ⟨fun o ho => ?_, List.pairwise_cons.2 ⟨fun o ho => ?_, h1.ne⟩⟩
  · rcases List.mem_cons.1 ho with rfl | ho
    · exact hc
    · exact h1.al o ho
  · rcases List.mem_cons.1 ho with rfl | ho
    · exact neq_ctx_ref hc hr
    · intro he
      exact (h.al o ho).there (by rw [← he]; exact hp)

/-- both say the same -/
theorem same_bool {b b' : Bool} {P : Prop} (h : b = true ↔ P) (h' : b' = true ↔ P) : (!(b == b')) = false := by
  have : b = b' := by rw [Bool.eq_iff_iff, h, h']
  simp [this]

theorem ctxJoins_ok {s : AS} {a b d : AV} {la lb ld : List Dot} (ha : Dots s a la) (hb : Dots s b lb) (hd : Dots s d ld) : ACalls Try.prog F_law04iCtxJoins [a, b, d] s fun r s' => r = .bool true := by
  refine ACalls.pre fun hw => q_law04iCtxJoins _ _ _ _ _ ⟨fun vs s' => s' = s ∧ ∃ t, vs = [.bool t] ∧ (t = false → la.length ≤ 100 ∧ lb.length ≤ 100 ∧ ld.length ≤ 100), ?_, _, ha.lenB u_s_Dot _, bsplit.dec (fun h => ⟨rfl, _, rfl, by simp⟩) (fun h => ⟨_, hb.lenB u_s_Dot _, bsplit.dec (fun h => ⟨rfl, _, rfl, by simp⟩) (fun h => ⟨_, hd.lenB u_s_Dot _, rfl, _, rfl, fun h2 => by simp at h2; omega⟩)⟩)⟩
  rintro t s3 ⟨rfl, t', ht, hsmall⟩
  simp only [List.cons.injEq, AV.bool.injEq, and_true] at ht
  subst ht
  have kn : ∀ s', ACalls Try.prog F_law04iknown [] s' fun v4 s5 => ∃ b6 : Bool, v4 = .bool b6 ∧ (AV.bool b6 = .bool true) := by
    intro s'
    refine (known_ok _).mono ?_
    rintro r s' ⟨rfl, rfl⟩
    exact ⟨_, rfl, rfl⟩
  refine bsplit.mk (fun hb => kn _) (fun hf => ?_)
  obtain ⟨hla, hlb, hld⟩ := hsmall hf
  refine ACalls.use (law_of_ok ha (by omega)) ?_
  rintro r s8 ⟨px, pu, vx, ex, rfl, hx0, hu0, okx, gapx, lenx, e8, cx, ru⟩ w8
  refine ⟨_, _, rfl, ?_⟩
  refine ACalls.use (law_of_ok (hb.ext e8) (by omega)) ?_
  rintro r s12 ⟨py, pv, vy, ey, rfl, hy0, hv0, oky, gapy, leny, e12, cy, rv⟩ w12
  refine ⟨_, _, rfl, ?_⟩
  refine ACalls.use (law_of_ok (hd.ext (e8.trans e12)) (by omega)) ?_
  rintro r s16 ⟨pz, pt, vz, ez, rfl, hz0, ht0, okz, gapz, lenz, e16, cz, rt⟩ w16
  refine ⟨_, _, rfl, ?_⟩
  have H8 := (Obs.nil (s := s3)).add2 e8 hx0 hu0 cx ru
  have H12 := H8.add2 e12 hy0 hv0 cy rv
  have H16 := H12.add2 e16 hz0 ht0 cz rt
  have X : ∀ {s' : AS} {L}, Obs s' L → ∀ {p v e}, (⟨false, p, v, e⟩ : Ob) ∈ L → CtxAt s' p v e := fun H _ _ _ h => H.al _ h
  have Y : ∀ {s' : AS} {L}, Obs s' L → ∀ {p v e}, (⟨true, p, v, e⟩ : Ob) ∈ L → RefAt s' p v e := fun H _ _ _ h => H.al _ h
  -- who covers whom
  refine ACalls.use (ctx_Covers_ok (X H16 (p := px) (v := vx) (e := ex) (by simp)) (X H16 (p := py) (v := vy) (e := ey) (by simp)) okx gapx oky (by omega) (by omega)) ?_
  rintro r s20 ⟨e20, b21, rfl, hb21⟩ w20
  have H20 := H16.ext e20
  refine ⟨_, rfl, ?_⟩
  refine ACalls.use (ref_Covers_ok (Y H20 (p := pu) (v := vx) (e := ex) (by simp)) (Y H20 (p := pv) (v := vy) (e := ey) (by simp)) okx gapx oky (by omega) (by omega)) ?_
  rintro r s23 ⟨e23, b24, rfl, hb24⟩ w23
  have H23 := H20.ext e23
  refine ⟨_, rfl, bsplit.no (same_bool hb21 hb24) ?_⟩
  refine ACalls.use (ctx_Covers_ok (X H23 (p := py) (v := vy) (e := ey) (by simp)) (X H23 (p := px) (v := vx) (e := ex) (by simp)) oky gapy okx (by omega) (by omega)) ?_
  rintro r s26 ⟨e26, b27, rfl, hb27⟩ w26
  have H26 := H23.ext e26
  refine ⟨_, rfl, ?_⟩
  refine ACalls.use (ref_Covers_ok (Y H26 (p := pv) (v := vy) (e := ey) (by simp)) (Y H26 (p := pu) (v := vx) (e := ex) (by simp)) oky gapy okx (by omega) (by omega)) ?_
  rintro r s29 ⟨e29, b30, rfl, hb30⟩ w29
  have H29 := H26.ext e29
  refine ⟨_, rfl, bsplit.no (same_bool hb27 hb30) ?_⟩
  refine ACalls.use (Same_ok (X H29 (p := px) (v := vx) (e := ex) (by simp)) (X H29 (p := py) (v := vy) (e := ey) (by simp)) (by omega)) ?_
  rintro r s32 ⟨rfl, rfl⟩ _
  refine ⟨_, rfl, ?_⟩
  refine ACalls.use (refSame_ok (Y H29 (p := pu) (v := vx) (e := ex) (by simp)) (Y H29 (p := pv) (v := vy) (e := ey) (by simp)) (by omega)) ?_
  rintro r s35 ⟨rfl, rfl⟩ _
  refine ⟨_, rfl, bsplit.no (by simp) ?_⟩
  -- copies, joined in either order
  refine ACalls.use (ctx_Copy_ok (X H29 (p := px) (v := vx) (e := ex) (by simp)) (by omega)) ?_
  rintro r s38 ⟨pp, rfl, hpp, cp, e38⟩ w38
  have H38 := H29.add e38 ⟨false, pp, vx, ex⟩ hpp cp
  refine ⟨_, rfl, ?_⟩
  refine ACalls.use (ctx_Copy_ok (X H38 (p := py) (v := vy) (e := ey) (by simp)) (by omega)) ?_
  rintro r s41 ⟨pq, rfl, hpq, cq, e41⟩ w41
  have H41 := H38.add e41 ⟨false, pq, vy, ey⟩ hpq cq
  refine ⟨_, rfl, _, aeqPtrNil u_p_ctx_Ctx _, bsplit.no rfl ⟨_, aeqPtrNil u_p_ctx_Ctx _, bsplit.no rfl ?_⟩⟩
  refine ACalls.use (ctx_Join_ok (X H41 (p := pp) (by simp)) (X H41 (p := py) (v := vy) (e := ey) (by simp)) okx oky (by omega) (by omega)) ?_
  rintro r s46 ⟨vp, ep, jp, m46, hj⟩ w46
  have lp := jp.len
  obtain ⟨_, rfl, cp2⟩ : ep.length ≤ 4096 ∧ r = .int .i64 0 ∧ CtxAt s46 pp vp ep := by
    rcases hj with h | h
    · exact h
    · omega
  have H46 := H41.mut [⟨false, pq, vy, ey⟩] ⟨false, pp, vp, ep⟩ m46 rfl cp2
  refine ⟨_, rfl, bsplit.no rfl ?_⟩
  refine ACalls.use (ctx_Join_ok (X H46 (p := pq) (by simp)) (X H46 (p := px) (v := vx) (e := ex) (by simp)) oky okx (by omega) (by omega)) ?_
  rintro r s49 ⟨vq, eq, jq, m49, hj2⟩ w49
  have lq := jq.len
  obtain ⟨_, rfl, cq2⟩ : eq.length ≤ 4096 ∧ r = .int .i64 0 ∧ CtxAt s49 pq vq eq := by
    rcases hj2 with h | h
    · exact h
    · omega
  have H49 := H46.mut [] ⟨false, pq, vq, eq⟩ m49 rfl cq2
  obtain ⟨rfl, rfl⟩ := jp.uniq jq fun x => Bool.or_comm _ _
  refine ⟨_, rfl, bsplit.no rfl ?_⟩
  refine ACalls.use (Same_ok (X H49 (p := pp) (v := vp) (e := ep) (by simp)) (X H49 (p := pq) (v := vp) (e := ep) (by simp)) (by omega)) ?_
  rintro r s52 ⟨rfl, rfl⟩ _
  refine ⟨_, rfl, bsplit.no (by simp) ?_⟩
  refine ACalls.use (ctx_Covers_ok (X H49 (p := pp) (by simp)) (X H49 (p := px) (v := vx) (e := ex) (by simp)) jp.ok jp.gap okx (by omega) (by omega)) ?_
  rintro r s55 ⟨e55, b56, rfl, hb56⟩ w55
  obtain rfl := hb56.2 fun x hx => by rw [jp.has, hx]; rfl
  have H55 := H49.ext e55
  refine ⟨_, rfl, bsplit.no rfl ?_⟩
  refine ACalls.use (ctx_Covers_ok (X H55 (p := pp) (by simp)) (X H55 (p := py) (v := vy) (e := ey) (by simp)) jp.ok jp.gap oky (by omega) (by omega)) ?_
  rintro r s58 ⟨e58, b59, rfl, hb59⟩ w58
  obtain rfl := hb59.2 fun x hx => by rw [jp.has, hx, Bool.or_true]
  have H58 := H55.ext e58
  refine ⟨_, rfl, bsplit.no rfl ?_⟩
  -- the reference's
  refine ACalls.use (ref_Copy_ok (Y H58 (p := pu) (v := vx) (e := ex) (by simp)) (by omega)) ?_
  rintro r s61 ⟨pw, rfl, hpw, rw_, e61⟩ w61
  have H61 := H58.add e61 ⟨true, pw, vx, ex⟩ hpw rw_
  refine ⟨_, rfl, ?_⟩
  have nwv : pv ≠ pw := by
    rintro rfl
    exact (Y H58 (p := pv) (v := vy) (e := ey) (by simp)).there hpw
  have nwt : pt ≠ pw := by
    rintro rfl
    exact (Y H58 (p := pt) (v := vz) (e := ez) (by simp)).there hpw
  refine ACalls.use (ref_Join_ok (Y H61 (p := pw) (by simp)) (Y H61 (p := pv) (v := vy) (e := ey) (by simp)) nwv okx oky (by omega) (by omega)) ?_
  rintro r s64 ⟨rfl, vw, ew, jw, m64, rw2⟩ w64
  obtain ⟨rfl, rfl⟩ := jp.uniq jw fun x => rfl
  have H64 := H61.mut [] ⟨true, pw, vp, ep⟩ m64 rfl rw2
  refine ⟨rfl, ?_⟩
  refine ACalls.use (same_ok (X H64 (p := pp) (v := vp) (e := ep) (by simp)) (Y H64 (p := pw) (v := vp) (e := ep) (by simp)) (by omega)) ?_
  rintro r s66 ⟨rfl, e66⟩ w66
  have H66 := H64.ext e66
  refine ⟨_, rfl, bsplit.no (by simp) ?_⟩
  refine ACalls.use (ctx_Join_ok (X H66 (p := pp) (by simp)) (X H66 (p := py) (v := vy) (e := ey) (by simp)) jp.ok oky (by omega) (by omega)) ?_
  rintro r s69 ⟨vp', ep', jp', m69, hj3⟩ w69
  obtain ⟨rfl, rfl⟩ := jp'.uniq jp fun x => by rw [jp.has, Bool.or_assoc, Bool.or_self]
  obtain ⟨_, rfl, cp3⟩ : ep'.length ≤ 4096 ∧ r = .int .i64 0 ∧ CtxAt s69 pp vp' ep' := by
    rcases hj3 with h | h
    · exact h
    · omega
  have H69 := H66.mut [⟨true, pw, vp', ep'⟩, ⟨false, pq, vp', ep'⟩] ⟨false, pp, vp', ep'⟩ m69 rfl cp3
  refine ⟨_, rfl, bsplit.no rfl ?_⟩
  refine ACalls.use (same_ok (X H69 (p := pp) (v := vp') (e := ep') (by simp)) (Y H69 (p := pw) (v := vp') (e := ep') (by simp)) (by omega)) ?_
  rintro r s72 ⟨rfl, e72⟩ w72
  have H72 := H69.ext e72
  refine ⟨_, rfl, bsplit.no (by simp) ?_⟩
  refine ACalls.use (same_ok (X H72 (p := px) (v := vx) (e := ex) (by simp)) (Y H72 (p := pu) (v := vx) (e := ex) (by simp)) (by omega)) ?_
  rintro r s75 ⟨rfl, e75⟩ w75
  have H75 := H72.ext e75
  refine ⟨_, rfl, bsplit.no (by simp) ?_⟩
  refine ACalls.use (same_ok (X H75 (p := py) (v := vy) (e := ey) (by simp)) (Y H75 (p := pv) (v := vy) (e := ey) (by simp)) (by omega)) ?_
  rintro r s78 ⟨rfl, e78⟩ w78
  have H78 := H75.ext e78
  refine ⟨_, rfl, bsplit.no (by simp) ?_⟩
  -- of three in any order
  refine ACalls.use (ref_Join_ok (Y H78 (p := pw) (by simp)) (Y H78 (p := pt) (v := vz) (e := ez) (by simp)) nwt jp.ok okz (by omega) (by omega)) ?_
  rintro r s81 ⟨rfl, v3, e3, j3, m81, r81⟩ w81
  have l3 := j3.len
  have H81 := H78.mut [] ⟨true, pw, v3, e3⟩ m81 rfl r81
  refine ⟨rfl, ?_⟩
  refine ACalls.use (ctx_Copy_ok (X H81 (p := pz) (v := vz) (e := ez) (by simp)) (by omega)) ?_
  rintro r s83 ⟨pr, rfl, hpr, cr, e83⟩ w83
  have H83 := H81.add e83 ⟨false, pr, vz, ez⟩ hpr cr
  refine ⟨_, rfl, ?_⟩
  refine ACalls.use (ctx_Join_ok (X H83 (p := pp) (by simp)) (X H83 (p := pz) (v := vz) (e := ez) (by simp)) jp.ok okz (by omega) (by omega)) ?_
  rintro r s86 ⟨v3', e3', j3', m86, hj4⟩ w86
  obtain ⟨rfl, rfl⟩ := j3'.uniq j3 fun x => rfl
  obtain ⟨_, rfl, cp4⟩ : e3'.length ≤ 4096 ∧ r = .int .i64 0 ∧ CtxAt s86 pp v3' e3' := by
    rcases hj4 with h | h
    · exact h
    · omega
  have H86 := H83.mut [⟨false, pr, vz, ez⟩, ⟨true, pw, v3', e3'⟩, ⟨false, pq, vp', ep'⟩] ⟨false, pp, v3', e3'⟩ m86 rfl cp4
  refine ⟨_, rfl, bsplit.yes rfl ?_⟩
  refine ACalls.use (ctx_Join_ok (X H86 (p := pq) (by simp)) (X H86 (p := pz) (v := vz) (e := ez) (by simp)) jp.ok okz (by omega) (by omega)) ?_
  rintro r s89 ⟨v4, e4, j4, m89, hj5⟩ w89
  obtain ⟨rfl, rfl⟩ := j4.uniq j3 fun x => rfl
  obtain ⟨_, rfl, cq4⟩ : e4.length ≤ 4096 ∧ r = .int .i64 0 ∧ CtxAt s89 pq v4 e4 := by
    rcases hj5 with h | h
    · exact h
    · omega
  have H89 := H86.mut [⟨false, pr, vz, ez⟩, ⟨true, pw, v4, e4⟩] ⟨false, pq, v4, e4⟩ m89 rfl cq4
  refine ⟨_, rfl, bsplit.yes rfl ⟨_, aeqPtrNil u_p_ctx_Ctx _, bsplit.yes rfl ?_⟩⟩
  refine ACalls.use (ctx_Join_ok (X H89 (p := pr) (by simp)) (X H89 (p := py) (v := vy) (e := ey) (by simp)) okz oky (by omega) (by omega)) ?_
  rintro r s93 ⟨v5, e5, j5, m93, hj6⟩ w93
  have l5 := j5.len
  obtain ⟨_, rfl, cr5⟩ : e5.length ≤ 4096 ∧ r = .int .i64 0 ∧ CtxAt s93 pr v5 e5 := by
    rcases hj6 with h | h
    · exact h
    · omega
  have H93 := H89.mut [] ⟨false, pr, v5, e5⟩ m93 rfl cr5
  refine ⟨_, rfl, bsplit.yes rfl ?_⟩
  refine ACalls.use (ctx_Join_ok (X H93 (p := pr) (by simp)) (X H93 (p := px) (v := vx) (e := ex) (by simp)) j5.ok okx (by omega) (by omega)) ?_
  rintro r s96 ⟨v6, e6, j6, m96, hj7⟩ w96
  have l6 := j6.len
  obtain ⟨_, rfl, cr6⟩ : e6.length ≤ 4096 ∧ r = .int .i64 0 ∧ CtxAt s96 pr v6 e6 := by
    rcases hj7 with h | h
    · exact h
    · omega
  have H96 := H93.mut [] ⟨false, pr, v6, e6⟩ m96 rfl cr6
  obtain ⟨rfl, rfl⟩ := j6.uniq j3 fun x => by
    rw [j5.has, jp.has]
    cases hasD vz ez x <;> cases hasD vy ey x <;> cases hasD vx ex x <;> rfl
  refine ⟨_, rfl, bsplit.yes rfl ?_⟩
  refine ACalls.use (same_ok (X H96 (p := pp) (v := v6) (e := e6) (by simp)) (Y H96 (p := pw) (v := v6) (e := e6) (by simp)) (by omega)) ?_
  rintro r s99 ⟨rfl, e99⟩ w99
  have H99 := H96.ext e99
  refine ⟨_, rfl, bsplit.yes (by simp) ?_⟩
  refine ACalls.use (Same_ok (X H99 (p := pq) (v := v6) (e := e6) (by simp)) (X H99 (p := pp) (v := v6) (e := e6) (by simp)) (by omega)) ?_
  rintro r s102 ⟨rfl, rfl⟩ _
  refine ⟨_, rfl, bsplit.yes (by simp) ?_⟩
  refine ACalls.use (Same_ok (X H99 (p := pr) (v := v6) (e := e6) (by simp)) (X H99 (p := pp) (v := v6) (e := e6) (by simp)) (by omega)) ?_
  rintro r s105 ⟨rfl, rfl⟩ _
  exact ⟨_, rfl, bsplit.yes (by simp) (kn _)⟩

set_option maxRecDepth 100000 in
theorem ctxJoins_lifted (os : Os) (started : os.Started) (H : Type) (enc : TypeId × Value → H) :
    ReturnsInHanded {} Try.checked os F_law04iCtxJoins .any (Rows.ctxJoinsSpec.pre6 enc Try.prog Try.f5 Rows.ctxJoinsRow.domain false) (Rows.ctxJoinsSpec.post enc Try.prog Try.f5 false true false false) := by
  refine law_open (C := Try.checked) (rt := 4) own started (by kernel_rfl) Try.func5
    (ChangeSpec.witness6 (enc := enc) (C := Try.checked) false ⟨#[], #[.slice none 0 0, .slice none 0 0, .slice none 0 0], []⟩ 8 (by kernel_rfl) (by kernel_rfl) (by kernel_rfl) (by kernel_rfl)) (by kernel_rfl) rfl (by kernel_rfl) Try.underlying4 laid (by kernel_rfl) ?_ ?_
  · intro ds hds
    rw [Try.params5] at hds
    match ds, hds with
    | [d1, d2, d3], _ => rfl
  · intro W base args hlen hargs
    rw [Try.params5] at hlen hargs
    match args, hlen with
    | [a, b, c], _ =>
      obtain ⟨la, ha, _⟩ := dots_arg (hargs 0 _ a rfl rfl).1 (hargs 0 _ a rfl rfl).2
      obtain ⟨lb, hb, _⟩ := dots_arg (hargs 1 _ b rfl rfl).1 (hargs 1 _ b rfl rfl).2
      obtain ⟨lc, hc, _⟩ := dots_arg (hargs 2 _ c rfl rfl).1 (hargs 2 _ c rfl rfl).2
      exact ctxJoins_ok ha hb hc

theorem ctxJoins_holds : Rows.CtxJoinsSaid :=
  OpenClaim.holds_of_wide 5 Try.f5 rfl rfl rfl rfl rfl rfl rfl ⟨rfl, rfl, rfl, rfl, rfl⟩ rfl rfl rfl rfl rfl (by kernel_rfl) Try.func5 (by kernel_rfl)
    (of_decide_eq_true (by kernel_rfl)) (by unfold Func.isWrapper; rw [if_neg (by decide +kernel)]; exact ⟨rfl, rfl⟩)
    (fun os started H enc _ => ctxJoins_lifted os started H enc)
end Go.Proofs.Ytbfchlimonimkaa
